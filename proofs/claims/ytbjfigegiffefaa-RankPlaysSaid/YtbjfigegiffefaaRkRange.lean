/- Range of ranks. -/
import Derived.Test.YtbjfigegiffefaaRkSet3
import Derived.Lib.MinMax
set_option linter.unusedVariables false
set_option linter.unusedSimpArgs false
namespace Pantry
open Go Go.RowKit
/-- The members at places from one number up to another. -/
def segR (l : List Mb) (x y : Int) : List Mb := (l.take (min y l.length).toNat).drop (max x 0).toNat
end Pantry
namespace Go.Proofs.Ytbjfigegiffefaa
open Go.RowKit Pantry

/-- A list of members in memory of its own. -/
structure MbsAt (w : World) (B : Nat) (v : Value) (l : List Mb) : Prop where
  row : w.ownsRow B 34 2 v l.length (rkCells l)
def MbsPost (l : List Mb) (w : World) (e : Ending) (w' : World) : Prop := ∃ v, e = .returned v ∧ MbsAt w' w.heap.size v l ∧ Below w.heap.size w w'
set_option maxHeartbeats 2000000 in
theorem rkRange_any (w : World) (r seed d : Nat) (D : Dc) (v : Value) (l : List Mb) (x y : Int) (h : RkAt w r seed d D v l) :
    Calls Try.prog 12 #[.pointer (some ⟨r, 0, none⟩), .int .i64 x, .int .i64 y] w (MbsPost (segR l x y) w) := by
  have HL := Lib.hid (rkLen_any w r seed d D v l h)
  obtain ⟨⟨-, -, h2, -⟩, -⟩ := four h.head
  obtain ⟨n, hn⟩ : ∃ n, l.length = n := ⟨_, rfl⟩
  have hf := h.good.few
  rw [hn] at HL hf
  have HN := Lib.hid hn
  by_cases hlt : max x 0 < min y (n : Int)
  · obtain ⟨A, hA⟩ : ∃ A : Nat, max x 0 = (A : Int) := ⟨(max x 0).toNat, by omega⟩
    obtain ⟨B, hB⟩ : ∃ B : Nat, min y (n : Int) = (B : Int) := ⟨(min y (n : Int)).toNat, by omega⟩
    have hAB : A < B := by omega
    have hBn : B ≤ n := by omega
    have hrow := h.row
    rw [hn] at hrow
    rcases hrow.2 with ⟨hv, hn0⟩ | ⟨g, cap, cur, rfl, hb, hg, hnc, hcm, hcs, htake⟩
    · omega
    have hsg : segR l x y = (l.take B).drop A := by unfold segR; rw [hA, hn, hB]; rfl
    rw [hsg]
    have hlen : ((l.take B).drop A).length = B - A := by rw [List.length_drop, List.length_take]; omega
    have hrd : Rd w (some ⟨g, A * 2, none⟩) (rkCells ((l.take B).drop A)) := by
      obtain ⟨a, c, hv, hrd⟩ := ownsRow_rd hrow (rkCells_one l)
      cases hv
      intro j u hj
      have hj2 : (rkCells l)[A * 2 + j]? = some u := by
        rw [← rkCells_drop, ← rkCells_take, List.getElem?_drop, List.getElem?_take] at hj
        split at hj
        · exact hj
        · cases hj
      obtain ⟨q1, y, hy, q2⟩ := hrd _ _ hj2
      cases hy
      refine ⟨q1, _, rfl, ?_⟩
      have e1 : (⟨g, 0, none⟩ : Addr).add (A * 2 + j) = (⟨g, A * 2, none⟩ : Addr).add j := by
        rw [Addr.add_base]; cases j <;> simp [Addr.add]
      rw [← e1]; exact q2
    obtain ⟨L, hL⟩ : ∃ L, (l.take B).drop A = L := ⟨_, rfl⟩
    rw [hL] at hlen hrd ⊢
    have HRD := Lib.hid hrd
    have HLEN := Lib.hid hlen
    have HT := Lib.hid (Try.rowT)
    have hAc : A < cap := by omega
    have hBc : B ≤ cap := by omega
    have hle : A ≤ B := by omega
    have hge : decide ((B : Int) ≤ (A : Int)) = false := by simp; omega
    have hge2 : decide (B ≤ A) = false := by simp; omega
    clear h hn hsg hrow hb hg hnc hcs htake hlen hrd hL hlt
    go_enter Try.func12, Try.ntmps12
    go_wp2_with (first
      | (go_at_call 13; refine HL.out.mono ?_; rintro e w1 ⟨rfl, rfl⟩)
      | (at_builtin; refine wpl_append HT.out rfl _ _ rfl w.heap.size (n := 0) (xs := []) rfl ⟨rfl, .inl ⟨rfl, rfl⟩⟩ (c := cap - A) (m := B - A) (ad := some ⟨g, A * 2, none⟩) (news := rkCells L) rfl (fun h => by cases h) (by rw [rkCells_length, HLEN.out]) HRD.out (by omega) (Nat.le_refl _) ?_
         intro v' w' hr hgr hk
         have HR := Lib.hid hr
         have HG := Lib.hid hgr
         clear hr hgr hk))
    go_ret
    exact ⟨v', rfl, ⟨by have := HR.out; rw [Nat.zero_add, ← HLEN.out] at this; exact this⟩, (Below.refl _ _).grown HG.out (Nat.le_refl _) (fun k hk => by cases hk)⟩
  · have hle : min y (n : Int) ≤ max x 0 := by omega
    have hge : decide (min y (n : Int) ≤ max x 0) = true := by simp; omega
    have hseg : segR l x y = [] := by
      unfold segR
      rw [hn]
      refine List.eq_nil_of_length_eq_zero ?_
      rw [List.length_drop, List.length_take]
      omega
    rw [hseg]
    clear h h2 hn hlt hseg
    go_enter Try.func12, Try.ntmps12
    go_wp2_with (first
      | (go_at_call 13; refine HL.out.mono ?_; rintro e w1 ⟨rfl, rfl⟩))
    go_ret
    exact ⟨_, rfl, ⟨rfl, .inl ⟨rfl, rfl⟩⟩, Below.refl _ _⟩
end Go.Proofs.Ytbjfigegiffefaa
