/- ValueOrder: the walk. -/
import Derived.Test.YtipehdbpbmnonaaGreatZVTurnP
import Derived.Test.YtipehdbpbmnonaaGreatZVBackW
set_option linter.unusedVariables false
set_option linter.unusedSimpArgs false
namespace Go.Proofs.YtipehdbpbmnonaaGreat
open Go.RowKit Pantry

/-- Behind the first value. -/
structure K1 (w : World) (p q : PD) (v B9 : Nat) (b1 b2 b3 : Option Addr) (e1 e2 e3 : Nat) (W : World) : Prop where
  val : ValIs W v q
  pl : PlainAt W p b1 b2 b3
  blk9 : W.heap[B9]? = some (.cells (Tryz.plainCells p b1 b2 b3 e1 e2 e3) 31)
  below : Below w.heap.size w W
section
variable {w W W' : World} {p q : PD} {v B9 e1 e2 e3 : Nat} {b1 b2 b3 : Option Addr}
theorem K1.to (h : K1 w p q v B9 b1 b2 b3 e1 e2 e3 W) (hb : Below W.heap.size W W') : K1 w p q v B9 b1 b2 b3 e1 e2 e3 W' :=
  ⟨h.val.below hb, h.pl.below hb, (hb.block _ (block_lt h.blk9)).trans h.blk9, h.below.trans (hb.mono h.below.size)⟩
theorem K1.cells (h : K1 w p q v B9 b1 b2 b3 e1 e2 e3 W) : W.cell? ⟨B9, 0, none⟩ = some (.int .i64 p.kind) ∧ W.cell? ⟨B9, 1, none⟩ = some (.string ⟨p.text.toArray⟩) ∧ W.cell? ⟨B9, 2, none⟩ = some (.slice b1 p.items.length e1) ∧ W.cell? ⟨B9, 3, none⟩ = some (.slice b2 p.pairs.length e2) ∧ W.cell? ⟨B9, 4, none⟩ = some (.slice b3 p.ranks.length e3) := (fiveP h.blk9).1
end
/-- Behind both values. -/
structure K2 (w : World) (p q q' : PD) (v v2 B9 : Nat) (b1 b2 b3 : Option Addr) (e1 e2 e3 : Nat) (W : World) : Prop where
  k1 : K1 w p q v B9 b1 b2 b3 e1 e2 e3 W
  val2 : ValIs W v2 q'
theorem K2.to {w W W' : World} {p q q' : PD} {v v2 B9 e1 e2 e3 : Nat} {b1 b2 b3 : Option Addr} (h : K2 w p q q' v v2 B9 b1 b2 b3 e1 e2 e3 W) (hb : Below W.heap.size W W') : K2 w p q q' v v2 B9 b1 b2 b3 e1 e2 e3 W' := ⟨h.k1.to hb, h.val2.below hb⟩
def Tryz.pcells (p : PD) (b1 b2 b3 : Option Addr) (e1 e2 e3 : Nat) : Array Value := #[.int .i64 p.kind, .string ⟨p.text.toArray⟩, .slice b1 p.items.length e1, .slice b2 p.pairs.length e2, .slice b3 p.ranks.length e3]
set_option maxRecDepth 100000 in
set_option maxHeartbeats 32000000 in
theorem order_yes (w : World) (d : DD) (a1 a2 a3 a4 : Option Addr) (c1 c2 c3 c4 seed : Nat) (hs : seed < 18446744073709551616) (hD : DatumAt w d a1 a2 a3 a4 c1 c2 c3 c4) (hB : PlainBig (plainD d)) (hz : wrongP (plainD d) = 0) :
    Calls Tryz.prog 3 #[.agg (Tryz.datumCells d a1 a2 a3 a4 c1 c2 c3 c4), .int .u64 seed] w (QPost w (.bool true)) := by
  have hmx : Tryz.prog.follows .mixedOrders = true := by kernel_rfl
  have hF := wrongP_zero hz
  obtain ⟨W0, hW0⟩ : ∃ W, w.alloc (.cells (Tryz.datumCells d a1 a2 a3 a4 c1 c2 c3 c4) 26) = W := ⟨_, rfl⟩
  have H0 := Lib.hid (DBox.start hD)
  rw [hW0] at H0
  have HWK := fun W => Lib.hid (wakes12 W)
  obtain ⟨p, hp⟩ : ∃ p, plainD d = p := ⟨_, rfl⟩
  have hpk : p.kind = d.kind := by rw [← hp]; rfl
  have HPL : Hid (∀ W, DBox w d a1 a2 a3 a4 c1 c2 c3 c4 W → Calls Tryz.prog 9 #[.agg #[.int .i64 d.kind, .string ⟨d.text.toArray⟩, .slice a1 d.items.length c1, .slice a2 d.pairs.length c2, .slice a3 d.ranks.length c3, .slice a4 d.scores.length c4]] W
      (fun e w4 => ∃ b1 b2 b3 e1 e2 e3, e = .returned (.agg #[.int .i64 p.kind, .string ⟨p.text.toArray⟩, .slice b1 p.items.length e1, .slice b2 p.pairs.length e2, .slice b3 p.ranks.length e3]) ∧
        Calls Tryz.prog 10 #[.agg #[.int .i64 p.kind, .string ⟨p.text.toArray⟩, .slice b1 p.items.length e1, .slice b2 p.pairs.length e2, .slice b3 p.ranks.length e3], .int .u64 seed] (w4.alloc (.cells #[.int .i64 p.kind, .string ⟨p.text.toArray⟩, .slice b1 p.items.length e1, .slice b2 p.pairs.length e2, .slice b3 p.ranks.length e3] 31))
          (fun e W6 => ∃ v q, e = .returned (.tuple #[.pointer (some ⟨v, 0, none⟩), .int .i64 0]) ∧ Canon p q ∧ K1 w p q v w4.heap.size b1 b2 b3 e1 e2 e3 W6))) := Lib.hid (by
    intro W hW
    refine (lplain_any W d a1 a2 a3 a4 c1 c2 c3 c4 hW.dat).mono ?_
    rw [hp]
    rintro e w4 ⟨b1, b2, b3, e1, e2, e3, rfl, hpl, hb⟩
    have hal : Below w4.heap.size w4 (w4.alloc (.cells #[.int .i64 p.kind, .string ⟨p.text.toArray⟩, .slice b1 p.items.length e1, .slice b2 p.pairs.length e2, .slice b3 p.ranks.length e3] 31)) := (Below.refl _ _).alloc (Nat.le_refl _) _
    have h9 := hpl.below hal
    rw [hp] at hB hz
    refine ⟨b1, b2, b3, e1, e2, e3, rfl, (of_any _ p b1 b2 b3 e1 e2 e3 seed hs h9 hB hz).mono ?_⟩
    rintro e W6 ⟨v, q, r1, r2, r3, r4⟩
    exact ⟨v, q, r1, r2, r3, h9.below r4, (r4.block _ (by simp)).trans (heap_alloc_new w4 _), (hW.below.trans (hb.mono hW.below.size)).trans ((hal.mono hb.size |>.mono (Nat.le_trans hW.below.size (Nat.le_refl _))).trans (r4.mono (Nat.le_trans (Nat.le_trans hW.below.size hb.size) (by simp))))⟩)
  rw [hp] at hB hz hF
  have HTU : Hid (∀ q v B9 b1 b2 b3 e1 e2 e3 W, K1 w p q v B9 b1 b2 b3 e1 e2 e3 W → Calls Tryz.prog 11 #[.agg #[.int .i64 p.kind, .string ⟨p.text.toArray⟩, .slice b1 p.items.length e1, .slice b2 p.pairs.length e2, .slice b3 p.ranks.length e3]] W
      (fun e W7 => ∃ x1 x2 x3 y1 y2 y3, e = .returned (.agg (Tryz.plainCells (turnP p) x1 x2 x3 y1 y2 y3)) ∧ Calls Tryz.prog 10 #[.agg (Tryz.plainCells (turnP p) x1 x2 x3 y1 y2 y3), .int .u64 seed] W7
        (fun e W8 => ∃ v2 q', e = .returned (.tuple #[.pointer (some ⟨v2, 0, none⟩), .int .i64 0]) ∧ Canon (turnP p) q' ∧ K2 w p q q' v v2 B9 b1 b2 b3 e1 e2 e3 W8))) := Lib.hid (by
    intro q v B9 b1 b2 b3 e1 e2 e3 W hk
    have hfew := hF.few
    refine (turned_any W p b1 b2 b3 e1 e2 e3 hk.pl (by omega)).mono ?_
    rintro e W7 ⟨x1, x2, x3, y1, y2, y3, rfl, hpl, hb⟩
    refine ⟨x1, x2, x3, y1, y2, y3, rfl, (of_any _ (turnP p) x1 x2 x3 y1 y2 y3 seed hs hpl (Fine.big (turn_fine hF)) (by rw [wrong_turn]; exact hz)).mono ?_⟩
    rintro e W8 ⟨v2, q', r1, r2, r3, r4⟩
    exact ⟨v2, q', r1, r2, (hk.to hb).to r4, r3⟩)
  obtain ⟨f0, f1, f2, f3, f4, f5⟩ := H0.out.cells
  have HFF := Lib.hid hF
  unfold Tryz.datumCells at hW0 ⊢
  clear hp hz hB hD hF hpk
  go_enter Tryz.func3, Tryz.ntmps3
  go_upto_region 10 with (first
    | (go_at_call 8
       refine (HWK _).out.mono ?_
       rintro e w1 ⟨rfl, hb⟩
       have H1 := H0.out.to hb
       obtain ⟨g0, g1, g2, g3, g4, g5⟩ := H1.cells
       replace H1 := Lib.hid H1
       clear HWK hb H0)
    | (go_at_call 9
       refine (HPL.out _ H1.out).mono ?_
       rintro e w4 ⟨b1, b2, b3, e1, e2, e3, rfl, hof⟩
       have HOF := Lib.hid hof
       clear hof HPL H1)
    | (go_at_call 10
       refine HOF.out.mono ?_
       rintro e w6 ⟨v, q, rfl, hq, hk⟩
       obtain ⟨k0, k1, k2, k3, k4⟩ := hk.cells
       have HQ := Lib.hid hq
       have HK := Lib.hid hk
       clear hq hk HOF)
    | (go_at_call 11
       refine (HTU.out _ _ _ _ _ _ _ _ _ _ HK.out).mono ?_
       rintro e w7 ⟨x1, x2, x3, y1, y2, y3, rfl, hof⟩
       have HOF2 := Lib.hid hof
       clear hof HTU HK)
    | (go_at_call 10
       refine HOF2.out.mono ?_
       rintro e w8 ⟨v2, q', rfl, hq', hk2⟩
       obtain ⟨m0, m1, m2, m3, m4⟩ := hk2.k1.cells
       have HQ2 := Lib.hid hq'
       have HK2 := Lib.hid hk2
       clear hq' hk2 HOF2))
  obtain ⟨c, hc⟩ : ∃ c, costP q = c := ⟨_, rfl⟩
  have HC1 := Lib.hid hc
  have HC2 : Hid (costP q' = c) := Lib.hid ((turn_cost HFF.out HQ.out HQ2.out).trans hc)
  have HB1 : Hid (PlainBig q) := Lib.hid (Fine.big (HQ.out.fine HFF.out))
  clear hc
  have HCV : Hid (∀ W B b1 b2 b3 e1 e2 e3, K2 w p q q' v v2 B b1 b2 b3 e1 e2 e3 W → Calls Tryz.prog 15 #[.pointer (some ⟨v, 0, none⟩)] W (QPost W (.int .i64 (c : Nat)))) := Lib.hid fun W B b1 b2 b3 e1 e2 e3 h => by rw [← HC1.out]; exact vcost_any h.k1.val
  have HCV2 : Hid (∀ W B b1 b2 b3 e1 e2 e3, K2 w p q q' v v2 B b1 b2 b3 e1 e2 e3 W → Calls Tryz.prog 15 #[.pointer (some ⟨v2, 0, none⟩)] W (QPost W (.int .i64 (c : Nat)))) := Lib.hid fun W B b1 b2 b3 e1 e2 e3 h => by rw [← HC2.out]; exact vcost_any h.val2
  by_cases hk : p.kind = 2
  · have hql : q = ⟨2, [], p.items, [], []⟩ ∧ q' = turnP q := turn_list hk HQ.out HQ2.out
    have HQE := Lib.hid hql.2
    have HQI : Hid (q.items = p.items) := Lib.hid (by rw [hql.1])
    have hfi : ∀ (x1 x2 x3 : Option Addr) (y1 y2 y3 : Nat) (W : World), (Instr.field 31 (.agg (Tryz.plainCells q x1 x2 x3 y1 y2 y3)) 2).run Tryz.prog W = .ok (.slice x1 p.items.length y1) W := fun x1 x2 x3 y1 y2 y3 W => by
      unfold Tryz.plainCells
      rw [← HQI.out]
      exact field_items _ _ _ _ _ _ _ _ _ _ _ W
    have HTQ : Hid (∀ W x1 x2 x3 y1 y2 y3, PlainAt W q x1 x2 x3 → Calls Tryz.prog 11 #[.agg (Tryz.plainCells q x1 x2 x3 y1 y2 y3)] W (ToldPost q' W)) := Lib.hid fun W x1 x2 x3 y1 y2 y3 h => by
      rw [HQE.out]
      have hfew := (HQ.out.fine HFF.out).few
      exact turned_any W q x1 x2 x3 y1 y2 y3 h (by omega)
    have HB2 : Hid (PlainBig q') := Lib.hid (by rw [HQE.out]; exact Fine.big (turn_fine (HQ.out.fine HFF.out)))
    have HNL2 : Hid (p.items.length ≤ 9223372036854775807) := Lib.hid (by have := HFF.out.few.1; omega)
    have HITM : Hid (∀ W x, Rd W x (q.items.map txC) → Rd W x (p.items.map txC)) := Lib.hid fun W x h => by rw [← HQI.out]; exact h
    rw [hk] at m0
    clear hql hk
    have HK2D := Lib.hid (HK2.out.to (Below.refl w8.heap.size w8).drew)
    go_wp2_with fail
    go_region_with (first
      | (go_at_call 13
         refine (told_any HK2D.out.val2).mono ?_
         rintro e w9 ⟨x1, x2, x3, y1, y2, y3, rfl, hp, hb⟩
         have HP9 := Lib.hid hp
         have HK9 := Lib.hid (HK2D.out.to hb)
         clear hp hb HK2 HK2D)
      | (go_at_call 13
         refine (told_any HK9.out.k1.val).mono ?_
         rintro e w10 ⟨z1, z2, z3, u1, u2, u3, rfl, hp, hb⟩
         have HP10 := Lib.hid hp
         have HK10 := Lib.hid (HK9.out.to hb)
         have HP9b := Lib.hid (HP9.out.below hb)
         clear hp hb HK9 HP9)
      | (go_at_call 11
         refine (HTQ.out _ _ _ _ _ _ _ HP10.out).mono ?_
         rintro e w11 ⟨t1, t2, t3, s1, s2, s3, rfl, hp, hb⟩
         have HP11 := Lib.hid hp
         have HK11 := Lib.hid (HK10.out.to hb)
         have HP9c := Lib.hid (HP9b.out.below hb)
         clear hp hb HK10 HP9b HP10)
      | (go_at_call 12
         refine (sameP_self _ q' _ _ _ _ _ _ _ _ _ _ _ _ HP9c.out HP11.out HB2.out).mono ?_
         rintro e w12 ⟨rfl, hb⟩
         have hk12 := HK11.out.to hb
         obtain ⟨-, -, n12, -, -⟩ := hk12.k1.cells
         have HK12 := Lib.hid hk12
         clear hb HK11 HP9c HP11 hk12)
      | (go_at_call 13
         refine (told_any HK12.out.k1.val).mono ?_
         rintro e w13 ⟨z1, z2, z3, u1, u2, u3, rfl, hp, hb⟩
         have hk13 := HK12.out.to hb
         obtain ⟨-, -, n2, -, -⟩ := hk13.k1.cells
         have HP13 := Lib.hid hp.items
         have HK13 := Lib.hid hk13
         clear hp hb HK12 hk13)
      | (go_at_call 14
         refine (sameT_self z1 b1 p.items.length u1 e1 p.items w13 rfl HNL2.out (HITM.out _ _ HP13.out) HK13.out.k1.pl.items).mono ?_
         rintro e w14 ⟨rfl, nq, rfl⟩
         have HK14 := Lib.hid (HK13.out.to (belowN (q := nq) (Below.refl w13.heap.size w13)))
         clear HK13 HP13)
      | (go_at_call 15
         refine (HCV.out _ _ _ _ _ _ _ _ HK14.out).mono ?_
         rintro e w15 ⟨rfl, hb⟩
         have HK15 := Lib.hid (HK14.out.to hb)
         clear hb HK14)
      | (go_at_call 15
         refine (HCV2.out _ _ _ _ _ _ _ _ HK15.out).mono ?_
         rintro e w16 ⟨rfl, hb⟩
         have HK16 := Lib.hid (HK15.out.to hb)
         clear hb HK15))
    all_goals
      go_wp2_with fail
      go_frame
      go_ret
      exact ⟨by simp, HK16.out.k1.below⟩
  · have hqe : q' = q := turn_same HFF.out hk HQ.out HQ2.out
    subst hqe
    have hkb : (p.kind == 2) = false := by simpa using hk
    clear hk
    go_wp2_with (first
      | (go_at_call 13
         refine (told_any HK2.out.k1.val).mono ?_
         rintro e w9 ⟨x1, x2, x3, y1, y2, y3, rfl, hp, hb⟩
         have HP9 := Lib.hid hp
         have HK9 := Lib.hid (HK2.out.to hb)
         clear hp hb HK2)
      | (go_at_call 13
         refine (told_any HK9.out.val2).mono ?_
         rintro e w10 ⟨z1, z2, z3, u1, u2, u3, rfl, hp, hb⟩
         have HP10 := Lib.hid hp
         have HK10 := Lib.hid (HK9.out.to hb)
         have HP9b := Lib.hid (HP9.out.below hb)
         clear hp hb HK9 HP9)
      | (go_at_call 12
         refine (sameP_self _ _ _ _ _ _ _ _ _ _ _ _ _ _ HP9b.out HP10.out HB1.out).mono ?_
         rintro e w12 ⟨rfl, hb⟩
         have HK12 := Lib.hid (HK10.out.to hb)
         clear hb HK10 HP9b HP10)
      | (go_at_call 15
         refine (HCV.out _ _ _ _ _ _ _ _ HK12.out).mono ?_
         rintro e w15 ⟨rfl, hb⟩
         have HK15 := Lib.hid (HK12.out.to hb)
         clear hb HK12)
      | (go_at_call 15
         refine (HCV2.out _ _ _ _ _ _ _ _ HK15.out).mono ?_
         rintro e w16 ⟨rfl, hb⟩
         have HK16 := Lib.hid (HK15.out.to hb)
         clear hb HK15))
    go_ret
    exact ⟨by simp, HK16.out.k1.below⟩
end Go.Proofs.YtipehdbpbmnonaaGreat
