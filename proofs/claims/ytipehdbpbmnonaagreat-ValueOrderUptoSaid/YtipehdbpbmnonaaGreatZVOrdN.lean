/- ValueOrder: where the data is refused; both ways. -/
import Derived.Test.YtipehdbpbmnonaaGreatZVOrd
set_option linter.unusedVariables false
set_option linter.unusedSimpArgs false
namespace Go.Proofs.YtipehdbpbmnonaaGreat
open Go.RowKit Pantry

/-- Behind the datum's plain data. -/
structure K0 (w : World) (p : PD) (B9 : Nat) (b1 b2 b3 : Option Addr) (e1 e2 e3 : Nat) (W : World) : Prop where
  pl : PlainAt W p b1 b2 b3
  blk9 : W.heap[B9]? = some (.cells (Tryz.plainCells p b1 b2 b3 e1 e2 e3) 31)
  below : Below w.heap.size w W
section
variable {w W W' : World} {p : PD} {B9 e1 e2 e3 : Nat} {b1 b2 b3 : Option Addr}
theorem K0.to (h : K0 w p B9 b1 b2 b3 e1 e2 e3 W) (hb : Below W.heap.size W W') : K0 w p B9 b1 b2 b3 e1 e2 e3 W' :=
  ⟨h.pl.below hb, (hb.block _ (block_lt h.blk9)).trans h.blk9, h.below.trans (hb.mono h.below.size)⟩
theorem K0.cells (h : K0 w p B9 b1 b2 b3 e1 e2 e3 W) : W.cell? ⟨B9, 0, none⟩ = some (.int .i64 p.kind) ∧ W.cell? ⟨B9, 1, none⟩ = some (.string ⟨p.text.toArray⟩) ∧ W.cell? ⟨B9, 2, none⟩ = some (.slice b1 p.items.length e1) ∧ W.cell? ⟨B9, 3, none⟩ = some (.slice b2 p.pairs.length e2) ∧ W.cell? ⟨B9, 4, none⟩ = some (.slice b3 p.ranks.length e3) := (fiveP h.blk9).1
end
theorem PlainBig.turn {p : PD} (h : PlainBig p) : PlainBig (turnP p) :=
  ⟨h.text, by show p.items.reverse.length < _; rw [List.length_reverse]; exact h.items, by show p.pairs.reverse.length < _; rw [List.length_reverse]; exact h.pairs, by show p.ranks.reverse.length < _; rw [List.length_reverse]; exact h.ranks,
    fun s hs => h.texts s (List.mem_reverse.1 hs), fun s hs => h.names s (List.mem_reverse.1 hs), fun s hs => h.vals s (List.mem_reverse.1 hs), fun s hs => h.mems s (List.mem_reverse.1 hs)⟩
set_option maxRecDepth 100000 in
set_option maxHeartbeats 16000000 in
theorem order_no (w : World) (d : DD) (a1 a2 a3 a4 : Option Addr) (c1 c2 c3 c4 seed : Nat) (hD : DatumAt w d a1 a2 a3 a4 c1 c2 c3 c4) (hB : PlainBig (plainD d)) (hz : wrongP (plainD d) ≠ 0) :
    Calls Tryz.prog 3 #[.agg (Tryz.datumCells d a1 a2 a3 a4 c1 c2 c3 c4), .int .u64 seed] w (QPost w (.bool true)) := by
  obtain ⟨W0, hW0⟩ : ∃ W, w.alloc (.cells (Tryz.datumCells d a1 a2 a3 a4 c1 c2 c3 c4) 26) = W := ⟨_, rfl⟩
  have H0 := Lib.hid (DBox.start hD)
  rw [hW0] at H0
  have HWK := fun W => Lib.hid (wakes12 W)
  obtain ⟨p, hp⟩ : ∃ p, plainD d = p := ⟨_, rfl⟩
  have HPL : Hid (∀ W, DBox w d a1 a2 a3 a4 c1 c2 c3 c4 W → Calls Tryz.prog 9 #[.agg #[.int .i64 d.kind, .string ⟨d.text.toArray⟩, .slice a1 d.items.length c1, .slice a2 d.pairs.length c2, .slice a3 d.ranks.length c3, .slice a4 d.scores.length c4]] W
      (fun e w4 => ∃ b1 b2 b3 e1 e2 e3, e = .returned (.agg #[.int .i64 p.kind, .string ⟨p.text.toArray⟩, .slice b1 p.items.length e1, .slice b2 p.pairs.length e2, .slice b3 p.ranks.length e3]) ∧
        K0 w p w4.heap.size b1 b2 b3 e1 e2 e3 (w4.alloc (.cells #[.int .i64 p.kind, .string ⟨p.text.toArray⟩, .slice b1 p.items.length e1, .slice b2 p.pairs.length e2, .slice b3 p.ranks.length e3] 31)))) := Lib.hid (by
    intro W hW
    refine (lplain_any W d a1 a2 a3 a4 c1 c2 c3 c4 hW.dat).mono ?_
    rw [hp]
    rintro e w4 ⟨b1, b2, b3, e1, e2, e3, rfl, hpl, hb⟩
    have hal : Below w4.heap.size w4 (w4.alloc (.cells #[.int .i64 p.kind, .string ⟨p.text.toArray⟩, .slice b1 p.items.length e1, .slice b2 p.pairs.length e2, .slice b3 p.ranks.length e3] 31)) := (Below.refl _ _).alloc (Nat.le_refl _) _
    have hbw : Below w.heap.size w w4 := hW.below.trans (hb.mono hW.below.size)
    exact ⟨b1, b2, b3, e1, e2, e3, rfl, hpl.below hal, heap_alloc_new w4 _, hbw.trans (hal.mono hbw.size)⟩)
  rw [hp] at hB hz
  have hfew : p.items.length ≤ 4294967296 ∧ p.pairs.length ≤ 4294967296 ∧ p.ranks.length ≤ 4294967296 := by
    have := hD.few
    rw [← hp]
    refine ⟨this.1, this.2.1, ?_⟩
    show (rankD d.ranks d.scores).length ≤ _
    rw [rankD_length]; exact this.2.2.1
  have HOF : Hid (∀ W B b1 b2 b3 e1 e2 e3, K0 w p B b1 b2 b3 e1 e2 e3 W → Calls Tryz.prog 10 #[.agg #[.int .i64 p.kind, .string ⟨p.text.toArray⟩, .slice b1 p.items.length e1, .slice b2 p.pairs.length e2, .slice b3 p.ranks.length e3], .int .u64 seed] W (fun e W' => e = .returned (.tuple #[.pointer none, .int .i64 (wrongP p)]) ∧ K0 w p B b1 b2 b3 e1 e2 e3 W')) := Lib.hid fun W B b1 b2 b3 e1 e2 e3 h =>
    (of_wrong W p b1 b2 b3 e1 e2 e3 seed h.pl hB hz).mono fun e W' ⟨r1, r2⟩ => ⟨r1, h.to r2⟩
  have HTU : Hid (∀ W B b1 b2 b3 e1 e2 e3, K0 w p B b1 b2 b3 e1 e2 e3 W → Calls Tryz.prog 11 #[.agg #[.int .i64 p.kind, .string ⟨p.text.toArray⟩, .slice b1 p.items.length e1, .slice b2 p.pairs.length e2, .slice b3 p.ranks.length e3]] W
      (fun e W' => ∃ x1 x2 x3 y1 y2 y3, e = .returned (.agg (Tryz.plainCells (turnP p) x1 x2 x3 y1 y2 y3)) ∧ Calls Tryz.prog 10 #[.agg (Tryz.plainCells (turnP p) x1 x2 x3 y1 y2 y3), .int .u64 seed] W' (fun e W'' => e = .returned (.tuple #[.pointer none, .int .i64 (wrongP p)]) ∧ K0 w p B b1 b2 b3 e1 e2 e3 W''))) := Lib.hid fun W B b1 b2 b3 e1 e2 e3 h =>
    (turned_any W p b1 b2 b3 e1 e2 e3 h.pl hfew).mono fun e W' ⟨x1, x2, x3, y1, y2, y3, r1, r2, r3⟩ => ⟨x1, x2, x3, y1, y2, y3, r1,
      (of_wrong W' (turnP p) x1 x2 x3 y1 y2 y3 seed r2 hB.turn (by rw [wrong_turn]; exact hz)).mono fun e W'' ⟨s1, s2⟩ => ⟨by rw [s1, wrong_turn], (h.to r3).to s2⟩⟩
  have hzc := wrongP_cases p
  generalize wrongP p = z at *
  obtain ⟨f0, f1, f2, f3, f4, f5⟩ := H0.out.cells
  unfold Tryz.datumCells at hW0 ⊢
  clear hD hB hp hfew
  rcases hzc with rfl | rfl | rfl | rfl
  · exact absurd rfl hz
  all_goals
    clear hz
    go_enter Tryz.func3, Tryz.ntmps3
    go_wp2_with (first
      | (go_at_call 8
         refine (HWK _).out.mono ?_
         rintro e w1 ⟨rfl, hb⟩
         have H1 := H0.out.to hb
         obtain ⟨g0, g1, g2, g3, g4, g5⟩ := H1.cells
         replace H1 := Lib.hid H1
         clear HWK hb H0)
      | (go_at_call 9
         refine (HPL.out _ H1.out).mono ?_
         rintro e w2 ⟨b1, b2, b3, e1, e2, e3, rfl, hk⟩
         obtain ⟨k0, k1, k2, k3, k4⟩ := hk.cells
         have HK := Lib.hid hk
         clear hk H1)
      | (go_at_call 10
         refine (HOF.out _ _ _ _ _ _ _ _ HK.out).mono ?_
         rintro e w3 ⟨rfl, hk⟩
         obtain ⟨m0, m1, m2, m3, m4⟩ := hk.cells
         have HK3 := Lib.hid hk
         clear HK hk HOF)
      | (go_at_call 11
         refine (HTU.out _ _ _ _ _ _ _ _ HK3.out).mono ?_
         rintro e w4 ⟨x1, x2, x3, y1, y2, y3, rfl, ho⟩
         have HO := Lib.hid ho
         clear ho HTU HK3)
      | (go_at_call 10
         refine HO.out.mono ?_
         rintro e w5 ⟨rfl, hk⟩
         have HK5 := Lib.hid hk
         clear HO hk))
    go_ret
    exact ⟨by simp, HK5.out.below⟩
theorem vorder_any (w : World) (d : DD) (a1 a2 a3 a4 : Option Addr) (c1 c2 c3 c4 seed : Nat) (hs : seed < 18446744073709551616) (hD : DatumAt w d a1 a2 a3 a4 c1 c2 c3 c4) (hB : PlainBig (plainD d)) :
    Calls Tryz.prog 3 #[.agg (Tryz.datumCells d a1 a2 a3 a4 c1 c2 c3 c4), .int .u64 seed] w fun e W' => e = .returned (.bool true) ∧ Below w.heap.size w W' := by
  by_cases hz : wrongP (plainD d) = 0
  · exact order_yes w d a1 a2 a3 a4 c1 c2 c3 c4 seed hs hD hB hz
  · exact order_no w d a1 a2 a3 a4 c1 c2 c3 c4 seed hD hB hz
end Go.Proofs.YtipehdbpbmnonaaGreat
