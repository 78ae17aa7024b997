/- slices.Clone of a row of members. -/
import Derived.Test.YtbjfigegiffefaaRkWithin2
import Derived.StillTailTactics
import Derived.Deep.RegionHeld3
set_option linter.unusedVariables false
set_option linter.unusedSimpArgs false
namespace Go.Proofs.Ytbjfigegiffefaa
open Go.RowKit Pantry

def ClonePost (n : Nat) (xs : List Value) (w : World) (e : Ending) (w' : World) : Prop := ∃ v, e = .returned v ∧ w'.ownsRow w.heap.size 34 2 v n xs ∧ Below w.heap.size w w'
set_option maxHeartbeats 2000000 in
set_option maxRecDepth 100000 in
theorem clone_any (w : World) (v : Value) (n : Nat) (xs : List Value) (h : w.ownsRow 0 34 2 v n xs) (h1 : ∀ u ∈ xs, u.oneCell' = true) (hf : n ≤ 268435456) : Calls Try.prog 41 #[v] w (ClonePost n xs w) := by
  have HT := Lib.hid (Try.rowT)
  rcases h.2 with ⟨rfl, hn0⟩ | ⟨g, cap, cur, rfl, hb, hg, hnc, hcm, hcs, htake⟩
  · have hx : xs = [] := List.eq_nil_of_length_eq_zero (by rw [h.1, hn0])
    subst hn0 hx
    clear h hf
    have hnl := fun (w : World) (a : Option Addr) (n c : Nat) => Lib.run_eql_slice_nil (P := Try.prog) w 29 34 a n c 0 0 Try.underlying29
    go_enter Try.func41, Try.ntmps41
    go_wp2_with fail
    go_ret
    exact ⟨_, rfl, World.ownsRow_nil _ _ _ _, Below.refl _ _⟩
  · obtain ⟨a, c, hv, hrd⟩ := ownsRow_rd h h1
    cases hv
    obtain ⟨w1, hw1⟩ : ∃ w1, w.alloc (.cells #[] 34) = w1 := ⟨_, rfl⟩
    have hB1 : Below w.heap.size w w1 := by rw [← hw1]; exact (Below.refl _ w).alloc (Nat.le_refl _) _
    have HO : Hid (w1.ownsRow w.heap.size 34 2 (.slice (some ⟨w.heap.size, 0, none⟩) 0 0) 0 []) := Lib.hid ⟨rfl, .inr ⟨w.heap.size, 0, #[], rfl, Nat.le_refl _, by rw [← hw1]; exact heap_alloc_new w _, Nat.le_refl _, by unfold maxLen; omega, rfl, rfl⟩⟩
    have HR := Lib.hid (hrd.below hB1)
    have HL := Lib.hid h.1
    have HB1 := Lib.hid hB1
    clear h hb hg hcm hcs htake hrd hB1
    have hnl := fun (w : World) (a : Option Addr) (n c : Nat) => Lib.run_eql_slice_nil (P := Try.prog) w 29 34 a n c 0 0 Try.underlying29
    go_enter Try.func41, Try.ntmps41
    go_wp2_with (at_builtin; refine wpl_append HT.out rfl _ _ rfl w.heap.size rfl HO.out (ad := some ⟨g, 0, none⟩) (m := n) (c := cap) (news := xs) rfl (fun h => by cases h) HL.out HR.out (by omega) HB1.out.size ?_
                 intro v' w' hr hgr hk
                 have HR := Lib.hid hr
                 have HG := Lib.hid hgr
                 clear hr hgr hk)
    go_ret
    exact ⟨v', rfl, by have := HR.out; rwa [Nat.zero_add, List.nil_append] at this, HB1.out.grown HG.out HB1.out.size (fun k hk => by cases hk; exact Nat.le_refl _)⟩
end Go.Proofs.Ytbjfigegiffefaa
