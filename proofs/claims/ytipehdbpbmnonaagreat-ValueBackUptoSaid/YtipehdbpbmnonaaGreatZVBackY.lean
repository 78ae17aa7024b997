/- ValueBack: the walk, where a value is made. -/
import Derived.Test.YtipehdbpbmnonaaGreatZVBackW
import Derived.Deep.RegionHeld3
import Derived.Test.YtipehdbpbmnonaaGreatZOpenWords
set_option linter.unusedVariables false
set_option linter.unusedSimpArgs false
namespace Go.Proofs.YtipehdbpbmnonaaGreat
open Go.RowKit Pantry

set_option maxRecDepth 100000 in
set_option maxHeartbeats 32000000 in
theorem back_yes (w : World) (d : DD) (a1 a2 a3 a4 : Option Addr) (c1 c2 c3 c4 seed other : Nat) (hs : seed < 18446744073709551616) (ho : other < 18446744073709551616) (hD : DatumAt w d a1 a2 a3 a4 c1 c2 c3 c4) (hB : PlainBig (plainD d)) (hz : wrongP (plainD d) = 0) :
    Calls Tryz.prog 5 #[.agg (Tryz.datumCells d a1 a2 a3 a4 c1 c2 c3 c4), .int .u64 seed, .int .u64 other] w (QPost w (.bool true)) := by
  have hmx : Tryz.prog.follows .mixedOrders = true := by kernel_rfl
  have hF := wrongP_zero hz
  obtain ⟨W0, hW0⟩ : ∃ W, w.alloc (.cells (Tryz.datumCells d a1 a2 a3 a4 c1 c2 c3 c4) 26) = W := ⟨_, rfl⟩
  have H0 := Lib.hid (DBox.start hD)
  rw [hW0] at H0
  have HWK := fun W => Lib.hid (wakes12 W)
  have HPL : Hid (∀ W, DatumAt W d a1 a2 a3 a4 c1 c2 c3 c4 → Calls Tryz.prog 9 #[.agg #[.int .i64 d.kind, .string ⟨d.text.toArray⟩, .slice a1 d.items.length c1, .slice a2 d.pairs.length c2, .slice a3 d.ranks.length c3, .slice a4 d.scores.length c4]] W (ToldPost (plainD d) W)) := Lib.hid fun W h => lplain_any W d a1 a2 a3 a4 c1 c2 c3 c4 h
  have HOF : Hid (∀ W b1 b2 b3 e1 e2 e3, PlainAt W (plainD d) b1 b2 b3 → Calls Tryz.prog 10 #[.agg (Tryz.plainCells (plainD d) b1 b2 b3 e1 e2 e3), .int .u64 seed] W (OfPost (plainD d) W)) := Lib.hid fun W b1 b2 b3 e1 e2 e3 h => of_any W (plainD d) b1 b2 b3 e1 e2 e3 seed hs h hB hz
  have HCO : Hid (∀ W b1 b2 b3 e1 e2 e3, PlainAt W (plainD d) b1 b2 b3 → Calls Tryz.prog 16 #[.agg (Tryz.plainCells (plainD d) b1 b2 b3 e1 e2 e3)] W (QPost W (.int .i64 (costP (plainD d) : Nat)))) := Lib.hid fun W b1 b2 b3 e1 e2 e3 h => by
    have := costP_any W (plainD d) b1 b2 b3 e1 e2 e3 h hB
    rw [show Tryz.costF (plainD d) = costP (plainD d) from if_pos hz] at this
    exact this
  have HQ : Hid (∀ q, Canon (plainD d) q → q.kind = d.kind ∧ Fine q ∧ wrongP q = 0 ∧ costP q = costP (plainD d) ∧ ∀ q', Canon q q' → q' = q) := Lib.hid fun q hq => ⟨hq.kind, hq.fine hF, (hq.fine hF).wrong, hq.cost, fun q' h => hq.again hF h⟩
  obtain ⟨p, hp⟩ : ∃ p, plainD d = p := ⟨_, rfl⟩
  rw [hp] at HPL HOF HCO HQ
  have HTOLD : Hid (∀ w3 v q, Canon p q → ValIs w3 v q → DBox w d a1 a2 a3 a4 c1 c2 c3 c4 w3 → Calls Tryz.prog 13 #[.pointer (some ⟨v, 0, none⟩)] w3 (fun e w4 => ∃ b1' b2' b3' e1' e2' e3', e = .returned (.agg #[.int .i64 q.kind, .string ⟨q.text.toArray⟩, .slice b1' q.items.length e1', .slice b2' q.pairs.length e2', .slice b3' q.ranks.length e3']) ∧
      Calls Tryz.prog 10 #[.agg #[.int .i64 q.kind, .string ⟨q.text.toArray⟩, .slice b1' q.items.length e1', .slice b2' q.pairs.length e2', .slice b3' q.ranks.length e3'], .int .u64 other] (w4.alloc (.cells #[.int .i64 q.kind, .string ⟨q.text.toArray⟩, .slice b1' q.items.length e1', .slice b2' q.pairs.length e2', .slice b3' q.ranks.length e3'] 31)) (fun e W6 => ∃ v2, e = .returned (.tuple #[.pointer (some ⟨v2, 0, none⟩), .int .i64 0]) ∧ BK w d a1 a2 a3 a4 c1 c2 c3 c4 v v2 q w4.heap.size b1' b2' b3' e1' e2' e3' W6))) := Lib.hid (by
    intro w3 v q hq hv h3
    obtain ⟨hqk, hqf, hqw, hqc, hqq⟩ := HQ.out q hq
    refine (told_any hv).mono ?_
    rintro e w4 ⟨b1', b2', b3', e1', e2', e3', rfl, hp, hb⟩
    have hal : Below w4.heap.size w4 (w4.alloc (.cells #[.int .i64 q.kind, .string ⟨q.text.toArray⟩, .slice b1' q.items.length e1', .slice b2' q.pairs.length e2', .slice b3' q.ranks.length e3'] 31)) := (Below.refl _ _).alloc (Nat.le_refl _) _
    have h9 := hp.below hal
    have hb5 := hb.trans (hal.mono hb.size)
    refine ⟨b1', b2', b3', e1', e2', e3', rfl, ?_⟩
    refine (of_any _ q b1' b2' b3' e1' e2' e3' other ho h9 (Fine.big hqf) hqw).mono ?_
    rintro e W6 ⟨v2, q2, r1, r2, r3, r4⟩
    obtain rfl := hqq q2 r2
    exact ⟨v2, r1, (h3.to hb5).to r4, (hv.below hb5).below r4, r3, h9.below r4, (r4.block _ (by simp)).trans (heap_alloc_new w4 _)⟩)
  clear hp hF hz hB hD
  obtain ⟨f0, f1, f2, f3, f4, f5⟩ := H0.out.cells
  unfold Tryz.datumCells at hW0 ⊢
  go_enter Tryz.func5, Tryz.ntmps5
  go_upto_region 7 with (first
    | (go_at_call 8
       refine (HWK _).out.mono ?_
       rintro e w1 ⟨rfl, hb⟩
       have H1 := H0.out.to hb
       obtain ⟨g0, g1, g2, g3, g4, g5⟩ := H1.cells
       replace H1 := Lib.hid H1
       clear HWK hb H0)
    | (go_at_call 9
       refine (HPL.out _ H1.out.dat).mono ?_
       rintro e w2 ⟨b1, b2, b3, e1, e2, e3, rfl, hp, hb⟩
       have HP2 := Lib.hid hp
       have H2 := Lib.hid (H1.out.to hb)
       clear hp hb H1)
    | (go_at_call 10
       refine (HOF.out _ _ _ _ _ _ _ HP2.out).mono ?_
       rintro e w3 ⟨v, q, rfl, hq, hv, hb⟩
       have H3 := H2.out.to hb
       have HT3 := Lib.hid (HTOLD.out w3 v q hq hv H3)
       have hqk := Lib.hid (HQ.out q hq).1
       have HQC := Lib.hid (HQ.out q hq).2.2.2.1
       have HBIG := Lib.hid (Fine.big (HQ.out q hq).2.1)
       have HQW := Lib.hid (HQ.out q hq).2.2.1
       clear HP2 HOF hb H2 hq hv H3 HTOLD HQ)
    | (go_at_call 13
       refine HT3.out.mono ?_
       rintro e w4 ⟨b1', b2', b3', e1', e2', e3', rfl, hof⟩
       have HOF2 := Lib.hid hof
       clear hof HT3))
  go_upto_region 8 with (first
    | (go_at_call 10
       refine HOF2.out.mono ?_
       rintro e w6 ⟨v2, rfl, hk⟩
       obtain ⟨k0, k1, k2, k3, k4⟩ := hk.cells
       obtain ⟨l0, -⟩ := hk.box.cells
       rw [hqk.out] at k0
       have HK6 := Lib.hid hk
       clear hk HOF2))
  have HT8 : Hid (Calls Tryz.prog 13 #[.pointer (some ⟨v2, 0, none⟩)] w6.drew (fun e w7 => ∃ x1 x2 x3 y1 y2 y3, e = .returned (.agg #[.int .i64 d.kind, .string ⟨q.text.toArray⟩, .slice x1 q.items.length y1, .slice x2 q.pairs.length y2, .slice x3 q.ranks.length y3]) ∧ BK w d a1 a2 a3 a4 c1 c2 c3 c4 v v2 q w4.heap.size b1' b2' b3' e1' e2' e3' w7 ∧
      Calls Tryz.prog 12 #[.agg #[.int .i64 d.kind, .string ⟨q.text.toArray⟩, .slice x1 q.items.length y1, .slice x2 q.pairs.length y2, .slice x3 q.ranks.length y3], .agg #[.int .i64 d.kind, .string ⟨q.text.toArray⟩, .slice b1' q.items.length e1', .slice b2' q.pairs.length e2', .slice b3' q.ranks.length e3']] w7 (fun e w8 => e = .returned (.bool true) ∧ BK w d a1 a2 a3 a4 c1 c2 c3 c4 v v2 q w4.heap.size b1' b2' b3' e1' e2' e3' w8))) := Lib.hid (by
    have hK := HK6.out.to (Below.refl w6.heap.size w6).drew
    refine (told_any hK.val2).mono ?_
    rintro e w7 ⟨x1, x2, x3, y1, y2, y3, rfl, hp, hb⟩
    have hK7 := hK.to hb
    have hsm := sameP_self w7 q x1 x2 x3 b1' b2' b3' y1 y2 y3 e1' e2' e3' hp hK7.pl HBIG.out
    unfold Tryz.plainCells at hsm ⊢
    rw [hqk.out] at hsm ⊢
    exact ⟨x1, x2, x3, y1, y2, y3, rfl, hK7, hsm.mono fun e w8 ⟨r1, r2⟩ => ⟨r1, hK7.to r2⟩⟩)
  go_region_with (first
    | (go_at_call 13
       refine HT8.out.mono ?_
       rintro e w7 ⟨x1, x2, x3, y1, y2, y3, rfl, hk7, hs7⟩
       obtain ⟨m0, m1, m2, m3, m4⟩ := hk7.cells
       obtain ⟨n0, -⟩ := hk7.box.cells
       rw [hqk.out] at m0
       have HS7 := Lib.hid hs7
       clear hk7 hs7 HT8)
    | (go_at_call 12
       refine HS7.out.mono ?_
       rintro e w8 ⟨rfl, hk8⟩
       obtain ⟨o0, o1, o2, o3, o4⟩ := hk8.cells
       obtain ⟨r0, r1, r2, r3, r4, r5⟩ := hk8.box.cells
       rw [hqk.out] at o0
       have HK8 := Lib.hid hk8
       clear hk8 HS7))
  all_goals
    have HCV : Hid (∀ u W, (u = v ∨ u = v2) → BK w d a1 a2 a3 a4 c1 c2 c3 c4 v v2 q w4.heap.size b1' b2' b3' e1' e2' e3' W → Calls Tryz.prog 15 #[.pointer (some ⟨u, 0, none⟩)] W (fun e W' => e = .returned (.int .i64 (costP p : Nat)) ∧ BK w d a1 a2 a3 a4 c1 c2 c3 c4 v v2 q w4.heap.size b1' b2' b3' e1' e2' e3' W')) := Lib.hid (by
      rintro u W (rfl | rfl) hk
      · exact (vcost_any hk.val).mono fun e W' ⟨r1, r2⟩ => ⟨by rw [r1, HQC.out], hk.to r2⟩
      · exact (vcost_any hk.val2).mono fun e W' ⟨r1, r2⟩ => ⟨by rw [r1, HQC.out], hk.to r2⟩)
    have HEV : Hid (∀ u W, (u = v ∨ u = v2) → BK w d a1 a2 a3 a4 c1 c2 c3 c4 v v2 q w4.heap.size b1' b2' b3' e1' e2' e3' W → Calls Tryz.prog 17 #[.pointer (some ⟨u, 0, none⟩)] W (fun e W' => e = .returned (.bool (emptyP q)) ∧ BK w d a1 a2 a3 a4 c1 c2 c3 c4 v v2 q w4.heap.size b1' b2' b3' e1' e2' e3' W')) := Lib.hid (by
      rintro u W (rfl | rfl) hk
      · exact (empty_any hk.val).mono fun e W' ⟨r1, r2⟩ => ⟨r1, hk.to r2⟩
      · exact (empty_any hk.val2).mono fun e W' ⟨r1, r2⟩ => ⟨r1, hk.to r2⟩)
    have HC1 : Hid (∀ W, BK w d a1 a2 a3 a4 c1 c2 c3 c4 v v2 q w4.heap.size b1' b2' b3' e1' e2' e3' W → Calls Tryz.prog 16 #[.agg #[.int .i64 d.kind, .string ⟨q.text.toArray⟩, .slice b1' q.items.length e1', .slice b2' q.pairs.length e2', .slice b3' q.ranks.length e3']] W (fun e W' => e = .returned (.int .i64 (costP p : Nat)) ∧ BK w d a1 a2 a3 a4 c1 c2 c3 c4 v v2 q w4.heap.size b1' b2' b3' e1' e2' e3' W')) := Lib.hid (by
      intro W hk
      have h := costP_any W q b1' b2' b3' e1' e2' e3' hk.pl HBIG.out
      rw [show Tryz.costF q = costP p from by rw [← HQC.out]; exact if_pos HQW.out] at h
      unfold Tryz.plainCells at h
      rw [hqk.out] at h
      exact h.mono fun e W' ⟨r1, r2⟩ => ⟨r1, hk.to r2⟩)
    have HPL2 : Hid (∀ W, BK w d a1 a2 a3 a4 c1 c2 c3 c4 v v2 q w4.heap.size b1' b2' b3' e1' e2' e3' W → Calls Tryz.prog 9 #[.agg #[.int .i64 d.kind, .string ⟨d.text.toArray⟩, .slice a1 d.items.length c1, .slice a2 d.pairs.length c2, .slice a3 d.ranks.length c3, .slice a4 d.scores.length c4]] W (fun e W' => ∃ x1 x2 x3 y1 y2 y3, e = .returned (.agg (Tryz.plainCells p x1 x2 x3 y1 y2 y3)) ∧ BK w d a1 a2 a3 a4 c1 c2 c3 c4 v v2 q w4.heap.size b1' b2' b3' e1' e2' e3' W' ∧
        Calls Tryz.prog 16 #[.agg (Tryz.plainCells p x1 x2 x3 y1 y2 y3)] W' (fun e W'' => e = .returned (.int .i64 (costP p : Nat)) ∧ BK w d a1 a2 a3 a4 c1 c2 c3 c4 v v2 q w4.heap.size b1' b2' b3' e1' e2' e3' W''))) := Lib.hid (by
      intro W hk
      refine (HPL.out W hk.box.dat).mono ?_
      rintro e W' ⟨x1, x2, x3, y1, y2, y3, rfl, hp, hb⟩
      exact ⟨x1, x2, x3, y1, y2, y3, rfl, hk.to hb, (HCO.out W' x1 x2 x3 y1 y2 y3 hp).mono fun e W'' ⟨r1, r2⟩ => ⟨r1, (hk.to hb).to r2⟩⟩)
    obtain ⟨cc, hcc⟩ : ∃ c, costP p = c := ⟨_, rfl⟩
    obtain ⟨ee, hee⟩ : ∃ c, emptyP q = c := ⟨_, rfl⟩
    rw [hcc] at HCV HC1 HPL2
    rw [hee] at HEV
    clear hcc hee HCO HPL
    go_wp2_with (first
      | (go_at_call 15
         refine (HCV.out _ _ (by first | exact .inl rfl | exact .inr rfl) HK8.out).mono ?_
         rintro e w9 ⟨rfl, hk⟩
         obtain ⟨o0, o1, o2, o3, o4⟩ := hk.cells
         obtain ⟨r0, r1, r2, r3, r4, r5⟩ := hk.box.cells
         rw [hqk.out] at o0
         have HK8 := Lib.hid hk
         clear hk)
      | (go_at_call 17
         refine (HEV.out _ _ (by first | exact .inl rfl | exact .inr rfl) HK8.out).mono ?_
         rintro e w9 ⟨rfl, hk⟩
         obtain ⟨o0, o1, o2, o3, o4⟩ := hk.cells
         obtain ⟨r0, r1, r2, r3, r4, r5⟩ := hk.box.cells
         rw [hqk.out] at o0
         have HK8 := Lib.hid hk
         clear hk)
      | (go_at_call 9
         refine (HPL2.out _ HK8.out).mono ?_
         rintro e w9 ⟨x1, x2, x3, y1, y2, y3, rfl, hk, hc⟩
         obtain ⟨o0, o1, o2, o3, o4⟩ := hk.cells
         obtain ⟨r0, r1, r2, r3, r4, r5⟩ := hk.box.cells
         rw [hqk.out] at o0
         have HK8 := Lib.hid hk
         have HCX := Lib.hid hc
         clear hk hc HPL2)
      | (go_at_call 16
         refine HCX.out.mono ?_
         rintro e w9 ⟨rfl, hk⟩
         obtain ⟨o0, o1, o2, o3, o4⟩ := hk.cells
         obtain ⟨r0, r1, r2, r3, r4, r5⟩ := hk.box.cells
         rw [hqk.out] at o0
         have HK8 := Lib.hid hk
         clear hk HCX)
      | (go_at_call 16
         refine (HC1.out _ HK8.out).mono ?_
         rintro e w9 ⟨rfl, hk⟩
         obtain ⟨o0, o1, o2, o3, o4⟩ := hk.cells
         obtain ⟨r0, r1, r2, r3, r4, r5⟩ := hk.box.cells
         rw [hqk.out] at o0
         have HK8 := Lib.hid hk
         clear hk HC1))
    go_ret
    exact ⟨by simp, HK8.out.box.below⟩
end Go.Proofs.YtipehdbpbmnonaaGreat

/- ValueBack: both halves. -/
set_option linter.unusedVariables false
namespace Go.Proofs.YtipehdbpbmnonaaGreat
open Go.RowKit Pantry

theorem back_any (w : World) (d : DD) (a1 a2 a3 a4 : Option Addr) (c1 c2 c3 c4 seed other : Nat) (hs : seed < 18446744073709551616) (ho : other < 18446744073709551616) (hD : DatumAt w d a1 a2 a3 a4 c1 c2 c3 c4) (hB : PlainBig (plainD d)) :
    Calls Tryz.prog 5 #[.agg (Tryz.datumCells d a1 a2 a3 a4 c1 c2 c3 c4), .int .u64 seed, .int .u64 other] w fun e W' => e = .returned (.bool true) ∧ Below w.heap.size w W' := by
  by_cases hz : wrongP (plainD d) = 0
  · exact back_yes w d a1 a2 a3 a4 c1 c2 c3 c4 seed other hs ho hD hB hz
  · exact back_no w d a1 a2 a3 a4 c1 c2 c3 c4 seed other hD hB hz
end Go.Proofs.YtipehdbpbmnonaaGreat
