/- A keyspace: Touched. -/
import Derived.Test.YtelbmphmihjgfaaGreatZSortTx
import Derived.Sort.OwnSorted
set_option linter.unusedVariables false
set_option linter.unusedSimpArgs false
namespace Go.Proofs.YtelbmphmihjgfaaGreat.DEnt
open Go.RowKit Pantry Go.Maps

theorem txI : ElemT Tryz.prog 58 9 1 16 (.string ⟨#[]⟩) := ⟨Tryz.underlying58, by kernel_rfl, rfl, by omega, by omega⟩
def TouchedPost (s : Nat) (F : Nat → Prop) (X : Sp) (w : World) (r : Ending) (w' : World) : Prop :=
  ∃ v l, r = .returned v ∧ l.Nodup ∧ (∀ k, k ∈ l ↔ k ∈ X.touched) ∧ w'.ownsRow w.heap.size 9 1 v l.length ((sortT l).map txC) ∧ SpTo s F { X with touched := [] } w w'
theorem SpGood.untouched {X : Sp} (h : SpGood X) : SpGood { X with touched := [] } := by
  refine ⟨h.seed, h.keys, h.blocks, ?_, h.text, h.cost, h.dl, h.now, h.stamp, h.most, h.policy, h.samples, h.need⟩
  have := h.few
  unfold Sp.mass at this ⊢
  simp only [List.length_nil]; omega
section
variable {w : World} {s : Nat} {F : Nat → Prop} {X : Sp}
set_option maxRecDepth 100000 in
set_option maxHeartbeats 2000000 in
theorem sTouched (h : SpH w s F X) : Calls Tryz.prog 22 #[.pointer (some ⟨s, 0, none⟩)] w (TouchedPost s F X w) := by
  obtain ⟨m, l, t, hR⟩ := h.run
  obtain ⟨sv, -, -, -, -, -, -, -, -, -, c9, -, -⟩ := hR.cells
  obtain ⟨M, L, sv', h1, -⟩ := hR.ex
  obtain ⟨D, hown, hsz, hhas⟩ := h1.touch.ex
  have hbl := hown.lt
  have hsb : s < w.heap.size := block_lt h1.head
  obtain ⟨es0, cl0, ht0⟩ := h1.touch.obj
  have hfew : X.touched.length ≤ 8388608 := by
    have := h.good.few
    unfold Sp.mass at this; omega
  have hsz8 : Maps.size D ≤ 8388608 := Nat.le_trans hsz hfew
  have HT0 := Lib.hid ht0
  have HG := Lib.hid h.good
  have HR := Lib.hid hR
  have HHAS := Lib.hid hhas
  have HC9 := Lib.hid c9
  have HOWN := Lib.hid hown
  clear h h1 hR hhas hsz hfew ht0
  go_enter Tryz.func22, Tryz.ntmps22
  go_wp2_with (first
    | (at_len; refine wpList_len_own _ rfl _ 79 rfl 9 164 Tryz.underlying79 (unitElem (H := Unit)) t _ D rfl hown ?_)
    | (at_make; refine wpl_make txI rfl _ _ rfl w.heap.size .i64 .i64 (Maps.size D) rfl rfl rfl (by omega) (Nat.le_refl _) ?_; intro w1 hrow1 hg1
       have hb1 : Below w.heap.size w w1 := grownBy_below (Below.refl _ _) hg1 (fun k e => by cases e) (Nat.le_refl _)
       have c91 := (hb1.cell (p := ⟨s, 9, none⟩) hsb).trans c9)
    | (at_range; refine wpList_range_own _ rfl _ 79 rfl 9 164 strLaw Tryz.underlying79 (unitElem (H := Unit)) t _ D rfl (hown.kept hg1 (by simp)) ?_; intro w0 hrg0 hg0 hs0))
  go_frame
  go_loopw [3] (fun v wr => ∃ (left : Lit → Bool) (cnt : Nat) (ss : List (List UInt8)), wr.ranges Tryz.prog 9 (unitElem (H := Unit)) t w1.heap.size (Maps.size D) D left cnt ∧ ss.length + cnt ≤ Maps.size D ∧
      wr.ownsRow w.heap.size 9 1 v ss.length (ss.map txC) ∧ Collected D left ss ∧ Below w.heap.size w wr)
    (fun _ wr => wr.rangeLeft t w1.heap.size)
  case atStart =>
    exact ⟨_, _, [], hrg0, by simp, hrow1.kept hg0 (Or.inr (by simp [Value.ownBlock])), Collected.start D, hb1.grown hg0 hb1.size (fun j hj => by cases hj)⟩
  case round =>
    obtain ⟨left, cnt, ss, hrg, hcs, hrow, hC, hnx⟩ := hrel
    go_wp2_with (at_next; refine wpList_next_ranges _ rfl _ rfl 9 strLaw (unitElem (H := Unit)) encStr (fun _ : Unit => Value.agg #[]) (fun key kl hk => by obtain ⟨x, hx, _⟩ := Maps.keyOf_str Tryz.underlying9 hk; exact ⟨x, hx⟩) (fun v y hv => ⟨(), (unitElem_inv hv).1⟩) t w1.heap.size _ _ _ _ rfl hrg ?_ ?_)
    · intro hc0 hl0
      have HS := Lib.hid (sortTexts_any wr w.heap.size ss.length u3 ss rfl (by omega) hrow)
      have HFIN : Hid (∀ w2, w2.ownsRow w.heap.size 9 1 u3 ss.length ((sortT ss).map txC) → wr.grownBy w2 u3.ownBlock → w2.cell? ⟨s, 9, none⟩ = some (.map (some t)) ∧ w2.heap[t]? = some (.map es0 cl0) ∧
          TouchedPost s F X w (.returned u3) { w2 with heap := w2.heap.setIfInBounds t (.map #[] cl0) }) := Lib.hid (by
        intro w2 hr2 hg2
        have hb2 : Below w.heap.size w w2 := hnx.grown hg2 hnx.size fun k hk => (hrow.lt k hk).1
        have ht2 : w2.heap[t]? = some (.map es0 cl0) := (hb2.block t hbl).trans HT0.out
        obtain ⟨q1, q2⟩ := grown_clear ht2
        refine ⟨(hb2.cell (p := ⟨s, 9, none⟩) hsb).trans HC9.out, ht2, u3, ss, rfl, hC.1, fun k => ?_, hr2.kept q1 (Or.inr (row_ne_low hr2 hbl).symm), ?_⟩
        · rw [hC.2 k, HHAS.out k, hl0]; simp; rfl
        · exact ((HR.out.below hb2).mapOp (touch_cleared q2) q1).to (X := { X with touched := [] }) (SpGood.untouched HG.out))
      clear hrow hC hnx hrg hl0 hcs
      go_wp2_with (go_at_call 48; refine HS.out.mono ?_; rintro e w2 ⟨rfl, hr2, hg2⟩
                   obtain ⟨f1, f2, f3⟩ := HFIN.out w2 hr2 hg2
                   have F3 := Lib.hid f3
                   have hcl := fun ty => run_clear_map (P := Tryz.prog) Tryz.underlying79 f2 ty
                   clear hr2 hg2 f2 f3)
      go_ret
      exact F3.out
    · intro x c kl yd w2 cnt2 hkey hlk hv hat hrg2 hlt hg2 hs2 hen
      obtain ⟨x', ex, rfl, _⟩ := Maps.keyOf_str Tryz.underlying9 hkey
      obtain rfl : x = x' := encStr_inj ex
      have hrow2 := hrow.kept hg2 (Or.inr (row_ne_iter hrow hrg).symm)
      have hb2 : Below w.heap.size w w2 := hnx.grown hg2 hnx.size (fun j hj => by cases hj; exact hb1.size)
      clear hs2
      go_wp2_with (at_builtin; refine wpl_append1 txI rfl _ _ rfl w.heap.size rfl hrow2 #[txC x] rfl rfl (by intro u hu; simp at hu; subst hu; rfl) (by omega) hb2.size ?_; intro v' w3 hown' hg3 hb3 hk3)
      have hrg3 := hrg2.kept hg3 (row_ne_low hrow2 hbl) (row_ne_iter hrow2 hrg2)
      go_roundw
      case rel =>
        exact ⟨_, cnt2, ss ++ [x], hrg3, by simp; omega, by simpa using hown', hC.step hlk hat, hb2.trans hb3⟩
      case measure => rw [hrg3.left_eq, hrg.left_eq]; exact hlt
end
end Go.Proofs.YtelbmphmihjgfaaGreat.DEnt
