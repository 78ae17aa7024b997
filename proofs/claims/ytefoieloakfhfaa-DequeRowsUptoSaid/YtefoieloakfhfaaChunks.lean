/- Chunks. -/
import Derived.Test.YtefoieloakfhfaaInsert4
namespace Pantry
open Go Go.RowKit
def intsL (l : List Nat) : List Value := l.map fun (n : Nat) => Value.int .i64 (n : Int)
theorem intsL_length (l : List Nat) : (intsL l).length = l.length := by simp [intsL]
theorem intsL_one (l : List Nat) : ∀ u ∈ intsL l, u.oneCell' = true := by
  intro u hu; simp only [intsL, List.mem_map] at hu; obtain ⟨n, _, rfl⟩ := hu; rfl
theorem intsL_snoc (l : List Nat) (n : Nat) : intsL l ++ [.int .i64 (n : Int)] = intsL (l ++ [n]) := by simp [intsL]
theorem intsL_get (l : List Nat) (j : Nat) : (intsL l)[j]? = (l[j]?).map fun (n : Nat) => Value.int .i64 (n : Int) := by simp [intsL]
def sizesL (cs : List (List Txt)) : List Nat := cs.map (·.length)
theorem sizesL_take {cs : List (List Txt)} {k : Nat} {c : List Txt} (h : cs[k]? = some c) : sizesL (cs.take (k + 1)) = sizesL (cs.take k) ++ [c.length] := by
  rw [List.take_add_one, h]; simp [sizesL]
end Pantry
namespace Go.Proofs.Ytefoieloakfhfaa
open Go.RowKit Pantry

theorem Try.intsT : ElemT Try.prog 30 3 1 8 (.int .i64 0) := ⟨Try.underlying30, by kernel_rfl, rfl, by decide, by decide⟩
/-- It returns numbers in a row of its own. -/
def IntsPost (l : List Nat) (w : World) (e : Ending) (w' : World) : Prop := ∃ v, e = .returned v ∧ w'.ownsRow w.heap.size 3 1 v l.length (intsL l) ∧ Below w.heap.size w w'

theorem chunks_nil (w : World) : Calls Try.prog 13 #[.pointer none] w fun e w' => e = .returned (.slice none 0 0) ∧ w = w' := by
  go_enter Try.func13, Try.ntmps13
  go_wp2_with fail
  go_ret
  exact ⟨rfl, rfl⟩

set_option maxHeartbeats 2000000 in
set_option maxRecDepth 100000 in
theorem chunks_any (w : World) (d : Nat) (v : Value) (gs : List Nat) (cs : List (List Txt)) (h : DeqAt w d v gs cs) (hf : Fits cs) :
    Calls Try.prog 13 #[.pointer (some ⟨d, 0, none⟩)] w (IntsPost (sizesL cs) w) := by
  have HD := Lib.hid h
  have HF := Lib.hid hf
  have hrl := hf.rows
  obtain ⟨⟨d0, -, -⟩, -⟩ := three h.head
  obtain ⟨a0, c0, hv, -⟩ := ownsRow_rd h.row (ptr_one gs)
  subst hv
  have hdl := h.lt d (.inl rfl)
  obtain ⟨m, hm⟩ : ∃ m, cs.length = m := ⟨_, rfl⟩
  rw [hm] at d0 hrl
  have HM := Lib.hid hm
  clear h hf hm
  go_enter Try.func13, Try.ntmps13
  go_wp2_with (at_make; refine wpl_make Try.intsT rfl _ _ rfl w.heap.size .i64 .i64 m rfl rfl rfl (by omega) (Nat.le_refl _) ?_; intro w1 hown1 hg1; have e0 : w1.cell? ⟨d, 0, none⟩ = some _ := (World.cell?_of_block (w := w) (hg1.block d hdl (by simp))).trans d0)
  have hb1 : Below w.heap.size w w1 := grownBy_below (Below.refl _ _) hg1 (by simp) (Nat.le_refl _)
  clear hg1
  go_loopw [3, 19] (fun v i wr => ∃ k : Nat, k ≤ m ∧ i = .int .i64 k ∧ Hid (wr.ownsRow w.heap.size 3 1 v k (intsL (sizesL (cs.take k)))) ∧ Below w.heap.size w wr) (fun _ i _ => m - (intOf i).toNat)
  case atStart => exact ⟨0, Nat.zero_le _, rfl, Lib.hid (by simpa [sizesL, intsL] using hown1), hb1⟩
  case round =>
    obtain ⟨k, hk, rfl, HO, hb⟩ := hrel
    by_cases hlt : k < m
    · obtain ⟨c, hc⟩ : ∃ c, cs[k]? = some c := ⟨_, List.getElem?_eq_getElem (by rw [HM.out]; exact hlt)⟩
      have hdw := DeqAt.chg (S := fun j => w.heap.size ≤ j) HD.out (Chg.of_below hb) (fun j hj h1 => absurd (HD.out.lt j hj) (by omega))
      obtain ⟨g, sb, cap, -, hv', -, -, hcell, hch⟩ := hdw.at hc
      have hn := hch.n (HF.out.chunk c (List.mem_of_getElem? hc))
      cases hv'
      have HS := Lib.hid (sizesL_take hc)
      obtain ⟨n, hn2⟩ : ∃ n, c.length = n := ⟨_, rfl⟩
      rw [hn2] at hn HS
      have hbs := hb.size
      clear hc hdw hch hn2
      go_wp2_with (at_builtin; (refine wpl_append1 Try.intsT rfl _ _ rfl w.heap.size rfl HO.out #[.int .i64 n] rfl rfl (by simp [Value.oneCell']) (by omega) hbs ?_); intro v2 w2 hown2 hgrow2 hb2 hfr2)
      have HO2 := Lib.hid (show w2.ownsRow w.heap.size 3 1 v2 (k + 1) (intsL (sizesL (cs.take (k + 1)))) by rw [HS.out, ← intsL_snoc]; exact hown2)
      have hb3 := hb.trans hb2
      clear hown2 hgrow2 hb2 hfr2
      go_roundw
      case rel => exact ⟨k + 1, by omega, by go_num, HO2, hb3⟩
      case measure => simp [intOf]; omega
    · obtain rfl : k = m := by omega
      have HF2 := Lib.hid (show cs.take k = cs by rw [List.take_of_length_le (by rw [HM.out]; exact Nat.le_refl _)])
      go_wp2_with fail
      go_ret
      refine ⟨_, rfl, ?_, hb⟩
      have h1 := HO.out
      rw [HF2.out] at h1
      rw [show (sizesL cs).length = k by simp [sizesL, HM.out]]
      exact h1
end Go.Proofs.Ytefoieloakfhfaa
