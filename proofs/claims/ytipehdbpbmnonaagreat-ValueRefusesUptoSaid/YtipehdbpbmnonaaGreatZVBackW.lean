/- ValueBack: the walk. -/
import Derived.Test.YtipehdbpbmnonaaGreatZVWakes
import Derived.Test.YtipehdbpbmnonaaGreatZVBuild
set_option linter.unusedVariables false
set_option linter.unusedSimpArgs false
namespace Go.Proofs.YtipehdbpbmnonaaGreat
open Go.RowKit Pantry

theorem DatumAt.below {w w' : World} {d : DD} {a1 a2 a3 a4 : Option Addr} {c1 c2 c3 c4 : Nat} (h : DatumAt w d a1 a2 a3 a4 c1 c2 c3 c4) (hb : Below w.heap.size w w') : DatumAt w' d a1 a2 a3 a4 c1 c2 c3 c4 :=
  ⟨h.items.below hb, h.pairs.below hb, h.ranks.below hb, h.scores.below hb, h.nil, h.few⟩
/-- The datum in the law's box. -/
structure DBox (w : World) (d : DD) (a1 a2 a3 a4 : Option Addr) (c1 c2 c3 c4 : Nat) (W : World) : Prop where
  dat : DatumAt W d a1 a2 a3 a4 c1 c2 c3 c4
  blk : W.heap[w.heap.size]? = some (.cells (Tryz.datumCells d a1 a2 a3 a4 c1 c2 c3 c4) 26)
  below : Below w.heap.size w W
section
variable {w : World} {d : DD} {a1 a2 a3 a4 : Option Addr} {c1 c2 c3 c4 : Nat} {W W' : World}
theorem DBox.to (h : DBox w d a1 a2 a3 a4 c1 c2 c3 c4 W) (hb : Below W.heap.size W W') : DBox w d a1 a2 a3 a4 c1 c2 c3 c4 W' :=
  ⟨h.dat.below hb, (hb.block _ (block_lt h.blk)).trans h.blk, h.below.trans (hb.mono h.below.size)⟩
theorem DBox.start (h : DatumAt w d a1 a2 a3 a4 c1 c2 c3 c4) : DBox w d a1 a2 a3 a4 c1 c2 c3 c4 (w.alloc (.cells (Tryz.datumCells d a1 a2 a3 a4 c1 c2 c3 c4) 26)) :=
  ⟨h.below ((Below.refl _ _).alloc (Nat.le_refl _) _), heap_alloc_new w _, (Below.refl _ _).alloc (Nat.le_refl _) _⟩
theorem DBox.cells (h : DBox w d a1 a2 a3 a4 c1 c2 c3 c4 W) : W.cell? ⟨w.heap.size, 0, none⟩ = some (.int .i64 d.kind) ∧ W.cell? ⟨w.heap.size, 1, none⟩ = some (.string ⟨d.text.toArray⟩) ∧ W.cell? ⟨w.heap.size, 2, none⟩ = some (.slice a1 d.items.length c1) ∧ W.cell? ⟨w.heap.size, 3, none⟩ = some (.slice a2 d.pairs.length c2) ∧ W.cell? ⟨w.heap.size, 4, none⟩ = some (.slice a3 d.ranks.length c3) ∧ W.cell? ⟨w.heap.size, 5, none⟩ = some (.slice a4 d.scores.length c4) := six h.blk
/-- Behind both values. -/
structure BK (w : World) (d : DD) (a1 a2 a3 a4 : Option Addr) (c1 c2 c3 c4 : Nat) (v v2 : Nat) (q : PD) (B9 : Nat) (b1 b2 b3 : Option Addr) (e1 e2 e3 : Nat) (W : World) : Prop where
  box : DBox w d a1 a2 a3 a4 c1 c2 c3 c4 W
  val : ValIs W v q
  val2 : ValIs W v2 q
  pl : PlainAt W q b1 b2 b3
  blk9 : W.heap[B9]? = some (.cells (Tryz.plainCells q b1 b2 b3 e1 e2 e3) 31)
variable {v v2 B9 e1 e2 e3 : Nat} {q : PD} {b1 b2 b3 : Option Addr}
theorem BK.to (h : BK w d a1 a2 a3 a4 c1 c2 c3 c4 v v2 q B9 b1 b2 b3 e1 e2 e3 W) (hb : Below W.heap.size W W') : BK w d a1 a2 a3 a4 c1 c2 c3 c4 v v2 q B9 b1 b2 b3 e1 e2 e3 W' :=
  ⟨h.box.to hb, h.val.below hb, h.val2.below hb, h.pl.below hb, (hb.block _ (block_lt h.blk9)).trans h.blk9⟩
theorem BK.cells (h : BK w d a1 a2 a3 a4 c1 c2 c3 c4 v v2 q B9 b1 b2 b3 e1 e2 e3 W) : W.cell? ⟨B9, 0, none⟩ = some (.int .i64 q.kind) ∧ W.cell? ⟨B9, 1, none⟩ = some (.string ⟨q.text.toArray⟩) ∧ W.cell? ⟨B9, 2, none⟩ = some (.slice b1 q.items.length e1) ∧ W.cell? ⟨B9, 3, none⟩ = some (.slice b2 q.pairs.length e2) ∧ W.cell? ⟨B9, 4, none⟩ = some (.slice b3 q.ranks.length e3) := (fiveP h.blk9).1
end
set_option maxRecDepth 100000 in
set_option maxHeartbeats 16000000 in
/-- What is refused is refused again. -/
theorem back_no (w : World) (d : DD) (a1 a2 a3 a4 : Option Addr) (c1 c2 c3 c4 seed other : Nat) (hD : DatumAt w d a1 a2 a3 a4 c1 c2 c3 c4) (hB : PlainBig (plainD d)) (hz : wrongP (plainD d) ≠ 0) :
    Calls Tryz.prog 5 #[.agg (Tryz.datumCells d a1 a2 a3 a4 c1 c2 c3 c4), .int .u64 seed, .int .u64 other] w (QPost w (.bool true)) := by
  obtain ⟨W0, hW0⟩ : ∃ W, w.alloc (.cells (Tryz.datumCells d a1 a2 a3 a4 c1 c2 c3 c4) 26) = W := ⟨_, rfl⟩
  have H0 := Lib.hid (DBox.start hD)
  rw [hW0] at H0
  have HWK := fun W => Lib.hid (wakes12 W)
  have HPL : Hid (∀ W, DBox w d a1 a2 a3 a4 c1 c2 c3 c4 W → Calls Tryz.prog 9 #[.agg #[.int .i64 d.kind, .string ⟨d.text.toArray⟩, .slice a1 d.items.length c1, .slice a2 d.pairs.length c2, .slice a3 d.ranks.length c3, .slice a4 d.scores.length c4]] W
      (fun e W' => ∃ b1 b2 b3 e1 e2 e3, e = .returned (.agg (Tryz.plainCells (plainD d) b1 b2 b3 e1 e2 e3)) ∧ PlainAt W' (plainD d) b1 b2 b3 ∧ DBox w d a1 a2 a3 a4 c1 c2 c3 c4 W')) := Lib.hid fun W h => (lplain_any W d a1 a2 a3 a4 c1 c2 c3 c4 h.dat).mono fun e W' ⟨b1, b2, b3, e1, e2, e3, q1, q2, q3⟩ => ⟨b1, b2, b3, e1, e2, e3, q1, q2, h.to q3⟩
  have HOF : Hid (∀ W b1 b2 b3 e1 e2 e3, PlainAt W (plainD d) b1 b2 b3 → Calls Tryz.prog 10 #[.agg (Tryz.plainCells (plainD d) b1 b2 b3 e1 e2 e3), .int .u64 seed] W (fun e W' => e = .returned (.tuple #[.pointer none, .int .i64 (wrongP (plainD d))]) ∧ Below W.heap.size W W')) := Lib.hid fun W b1 b2 b3 e1 e2 e3 h => of_wrong W (plainD d) b1 b2 b3 e1 e2 e3 seed h hB hz
  have HCO : Hid (∀ W b1 b2 b3 e1 e2 e3, PlainAt W (plainD d) b1 b2 b3 → Calls Tryz.prog 16 #[.agg (Tryz.plainCells (plainD d) b1 b2 b3 e1 e2 e3)] W (QPost W (.int .i64 0))) := Lib.hid fun W b1 b2 b3 e1 e2 e3 h => by
    have := costP_any W (plainD d) b1 b2 b3 e1 e2 e3 h hB
    rw [show Tryz.costF (plainD d) = 0 from if_neg hz] at this
    exact this
  have hzc := wrongP_cases (plainD d)
  generalize wrongP (plainD d) = z at *
  obtain ⟨f0, f1, f2, f3, f4, f5⟩ := H0.out.cells
  unfold Tryz.datumCells at hW0 ⊢
  clear hD hB
  rcases hzc with rfl | rfl | rfl | rfl
  · exact absurd rfl hz
  all_goals
    clear hz
    go_enter Tryz.func5, Tryz.ntmps5
    go_wp2_with (first
      | (go_at_call 8
         refine (HWK _).out.mono ?_
         rintro e w1 ⟨rfl, hb⟩
         have H1 := H0.out.to hb
         obtain ⟨g0, g1, g2, g3, g4, g5⟩ := H1.cells
         replace H1 := Lib.hid H1
         clear HWK hb H0)
      | (go_at_call 9
         refine (HPL.out _ H1.out).mono ?_
         rintro e w2 ⟨b1, b2, b3, e1, e2, e3, rfl, hp, h2⟩
         have HP2 := Lib.hid hp
         have H2 := Lib.hid h2
         clear hp h2 H1)
      | (go_at_call 10
         refine (HOF.out _ _ _ _ _ _ _ HP2.out).mono ?_
         rintro e w3 ⟨rfl, hb⟩
         have H3 := H2.out.to hb
         obtain ⟨h0, h1, h2, h3, h4, h5⟩ := H3.cells
         replace H3 := Lib.hid H3
         clear HP2 HOF hb H2)
      | (go_at_call 9
         refine (HPL.out _ H3.out).mono ?_
         rintro e w4 ⟨b1', b2', b3', e1', e2', e3', rfl, hp, h4'⟩
         have HP4 := Lib.hid hp
         have H4 := Lib.hid h4'
         clear hp h4' H3)
      | (go_at_call 16
         refine (HCO.out _ _ _ _ _ _ _ HP4.out).mono ?_
         rintro e w5 ⟨rfl, hb⟩
         have H5 := Lib.hid (H4.out.to hb)
         clear HP4 HCO hb H4))
    go_ret
    exact ⟨rfl, H5.out.below⟩
end Go.Proofs.YtipehdbpbmnonaaGreat
