/- Behind the first going through: the second. -/
import Derived.Test.YtefoieloakfhfaaZGoesR2
import Derived.Test.YtefoieloakfhfaaZGoesEnd
import Derived.Sort.CutIn
set_option linter.unusedVariables false
set_option linter.unusedSimpArgs false
namespace Go.Proofs.Ytefoieloakfhfaa.dequeGoes
open Go Go.Proofs Go.Proofs.Ytefoieloakfhfaa Go.RowKit Go.ChangeShapes Go.WideShapes Go.ChangeAt Pantry
attribute [local go_sem] Oper.semAt_some

set_option maxHeartbeats 8000000 in
set_option maxRecDepth 100000 in
theorem rest1 (w W : World) (p : Gp) (l : List Txt) (D0 : Nat) (hB : GB p false p.nw W) (hS : GS w p l W) (h0 : W.heap[D0]? = some (.deferred (some [])))
    (hD0 : w.heap.size ≤ D0) (hb6 : w.heap.size ≤ p.b6) (hb13 : w.heap.size ≤ p.b13) (u0 u1 u2 u3 u4 u9 u10 u14 u15 u16 u17 u18 u19 u20 u21 u22 u23 u24 u25 u26 u27 u28 u29 u30 u31 u32 u33 u34 u35 u36 u37 u38 u39 u40 u41 u42 u43 u44 u45 u46 u47 u48 u49 u50 u51 u52 u53 u54 u55 u56 u57 u58 u59 u60 u61 u62 u63 u64 u65 u66 u67 u68 u69 u70 u71 u72 u73 u74 u75 u76 u77 u78 u79 u80 u81 u82 u83 u84 u85 u86 u87 u88 u89 u90 u91 u92 u93 u94 u95 u96 u97 u98 u99 u100 u101 u102 u103 u104 u105 u106 u107 u108 u109 u110 u111 u112 u113 u114 u115 u116 u117 u118 u119 u120 u121 : Value) :
    ∀ c, cskip 10 (cbody Try.f8) = c → c.wpIn Fence.wide 3 Try.prog (bodyPostM Fence.wide 3 Try.prog Try.f8 (OkPost w)) { tmps := #[u0, u1, u2, u3, u4, .pointer (some ⟨p.b5, 0, none⟩), .pointer (some ⟨p.b6, 0, none⟩), .pointer (some ⟨p.b7, 0, none⟩), .pointer (some ⟨p.b8, 0, none⟩), u9, u10, .pointer (some ⟨p.b11, 0, none⟩), .func (.func 41) #[] #[.pointer (some ⟨p.bE, 0, none⟩)], .pointer (some ⟨p.b13, 0, none⟩), u14, u15, u16, u17, u18, u19, u20, u21, u22, u23, u24, u25, u26, u27, u28, u29, u30, u31, u32, u33, u34, u35, u36, u37, u38, u39, u40, u41, u42, u43, u44, u45, u46, u47, u48, u49, u50, u51, u52, u53, u54, u55, u56, u57, u58, u59, u60, u61, u62, u63, u64, u65, u66, u67, u68, u69, u70, u71, u72, u73, u74, u75, u76, u77, u78, u79, u80, u81, u82, u83, u84, u85, u86, u87, u88, u89, u90, u91, u92, u93, u94, u95, u96, u97, u98, u99, u100, u101, u102, u103, u104, u105, u106, u107, u108, u109, u110, u111, u112, u113, u114, u115, u116, u117, u118, u119, u120, u121], defers := [mark D0] } W := by
  have kb : ∀ {A B : World}, Chg (fun _ => False) A B → KeepsT boxT A B := fun hc j c t fr _ hj => hc.heap hj fun e => e
  obtain ⟨b4, b5, b6, b7, b8, b11, b13, bE, a2, n2, c2, leave, d, m, aw, nw, cw⟩ := p
  simp only at hb6 hb13 hB ⊢
  have q8 := hB.x8.cell
  have q11 := hB.x11.cell
  have q13 := hB.x13.cell
  simp only at q8 q11 q13
  obtain ⟨v0, gs0, cs, hp⟩ := hS.one
  have HP := Lib.hid hp
  have HRR := Lib.hid (rrow_or W (some ⟨m, 0, none⟩) cs (.inr ⟨m, rfl, hp.2.2.1⟩) hp.1.toFits.rows (Nat.le_trans hp.1.toFits.total (by omega)))
  obtain ⟨l2, hl⟩ : ∃ l2, cs.flatten = l2 := ⟨_, rfl⟩
  obtain ⟨nw2, hnw⟩ : ∃ q, l2.length = q := ⟨_, rfl⟩
  rw [hl] at HRR
  have HLL := Lib.hid hl
  have HNW := Lib.hid hnw
  have hnb : nw2 ≤ 1048576 := by rw [← hnw, ← hl, flatten_length]; exact hp.1.toFits.total
  have HB := Lib.hid hB
  have HSb := Lib.hid hS.below
  have HD := Lib.hid (show _ ∧ _ ∧ _ ∧ _ from ⟨h0, hD0, hb6, hb13⟩)
  clear hp hl hnw hB hS h0 hD0 hb6 hb13
  intro c hc
  conv at hc => lhs; whnf
  subst hc
  gi_wp2_with fail
  refine ⟨trivial, (callsIn_wide.2 HRR.out).mono ?_⟩
  rintro e W5 ⟨vw, rfl, hrow, hb5⟩
  obtain ⟨aw2, cw2, rfl, -⟩ := textsRd hrow
  rw [HNW.out] at hrow ⊢
  have HROW := Lib.hid hrow
  have HB5 := Lib.hid hb5
  clear hrow hb5
  gi_upto_region 27 with fail
  obtain ⟨W6, hW6⟩ : ∃ W6, W5.alloc (.cells #[.slice aw2 nw2 cw2] 22) = W6 := ⟨_, rfl⟩
  rw [hW6]
  have hc6 : Chg (fun _ => False) W5 W6 := by rw [← hW6]; exact (Chg.refl _ _).alloc _
  have x16 : Hid (Boxed W6 W5.heap.size 22 (.slice aw2 nw2 cw2)) := Lib.hid (by rw [← hW6]; exact Boxed.new W5 _ _)
  have HC6 := Lib.hid ((Chg.of_below (S := fun _ => False) HB5.out).trans hc6 fun _ _ e => e)
  have HROW6 := Lib.hid (Chg.ownsRow HROW.out hc6 fun _ _ e => e)
  have HB6 := Lib.hid (HB.out.keeps (kb HC6.out))
  obtain ⟨b16, hb16⟩ : ∃ b, W5.heap.size = b := ⟨_, rfl⟩
  rw [hb16] at x16 ⊢
  have q13 := HB6.out.x13.cell
  have q13f := HB6.out.x13.frozen
  simp only at q13 q13f
  clear hW6 hb16 hc6 HROW HRR HB5 q8 q11
  gi_wp2_with fail
  rename_i K hK
  obtain ⟨W7, hW7⟩ : ∃ W7, W6.setCell ⟨b13, 0, none⟩ (.int .i64 0) = W7 := ⟨_, rfl⟩
  rw [hW7]
  obtain ⟨p2, hp2⟩ : ∃ p : Gp, p = ⟨b4, b5, b6, b7, b8, b16, b13, bE, a2, n2, c2, leave, d, m, aw2, nw2, cw2⟩ := ⟨_, rfl⟩
  have HBs : Hid (GB p2 false 0 W7) := Lib.hid (by
    subst hp2
    have h6 := HB6.out
    have h : GB ⟨b4, b5, b6, b7, b8, b16, b13, bE, a2, n2, c2, leave, d, m, aw2, nw2, cw2⟩ false nw W6 := ⟨h6.x4, h6.x5, h6.x6, h6.x7, h6.x8, x16.out, h6.x13, h6.xE, h6.ne⟩
    rw [← hW7]; exact h.setK 0)
  obtain ⟨h0, hD0, hb6, hb13⟩ := HD.out
  have hk7 : KeepsT (fun t => dqT t ∨ rfT t ∨ t = 9) W6 W7 := by rw [← hW7]; exact KeepsT.set HB6.out.x13 (by unfold dqT rfT; decide) _
  have HP7 : Hid (POne w W7 d v0 gs0 m cs) := Lib.hid ((HP.out.quiet HC6.out).keepsAll fun j c t fr ht hj => hk7 j c t fr (ht.elim .inl fun h => .inr (.inl h)) hj)
  have HSB : Hid (Below w.heap.size w W7) := Lib.hid (by
    rw [← hW7]; exact (HSb.out.trans (HC6.out.below HSb.out.size fun _ e => e.elim)).setCell (p := ⟨b13, 0, none⟩) hb13 _)
  have HGs : Hid (GS w p2 l2 W7) := Lib.hid (by
    subst hp2
    exact ⟨⟨v0, gs0, cs, HP7.out⟩, ⟨_, ownsRow_keeps HROW6.out hk7 (.inr (.inr rfl))⟩, HNW.out, HSB.out⟩)
  have HD7 : Hid (W7.heap[D0]? = some (.deferred (some []))) := Lib.hid (by
    have h6 : W6.heap[D0]? = some (.deferred (some [])) := (HC6.out.block D0 (block_lt h0) fun e => e).trans h0
    rw [← hW7]
    refine ((grownBy_setCell' W6 b13 _).block D0 (block_lt h6) fun e => ?_).trans h6
    obtain rfl : D0 = b13 := by simpa using e
    rw [show W6.heap[D0]? = _ from HB6.out.x13] at h6; cases h6)
  have HE := each_stops 2 (by omega) bE (some ⟨d, 0, none⟩) cs W7 (KeepsT dqT) (fun d v gs A => DeqAt A d v gs cs) (fun W _ => holdsT cs W) (show Boxed W7 bE 24 _ from by have := HBs.out.xE; rw [hp2] at this; exact this).cell (.inr ⟨d, v0, gs0, rfl, HP7.out.2.1⟩) HP7.out.1.toFits
  rw [HLL.out, HNW.out] at HE
  have hw7 := HSB.out.size
  have HHD := Lib.hid (show _ ∧ _ ∧ _ from ⟨hD0, hb6, hb13⟩)
  have HPP := Lib.hid hp2
  clear hW7 hk7 HP7 HROW6 x16 HB6 HC6 HP HB HSb h0 hD0 hb6 hb13 HD hp2 q13 q13f
  refine wpIn_rangeFunc_ownG rfl (by omega) (gf := 41) (lb := #[.pointer (some ⟨bE, 0, none⟩)]) rfl trivial (enters_of Try.func41 (by kernel_rfl) rfl) HE
    (fun h k => KeepsT.trans h k) (fun W l o o' _ h1 h2 _ => KeepsT.putObj o' h1 h2) (Below.refl _ _) (fun _ => rfl)
    (I2 w p2 l2 D0) (Ix2 w p2 l2 D0) (i2_own hw7 (block_lt HD7.out)) (ix2_own hw7 (block_lt HD7.out)) ⟨⟨List.nil_prefix, HBs.out, HGs.out⟩, HD7.out⟩
    (fun x => { tmps := #[u0, u1, u2, u3, u4, .pointer (some ⟨b5, 0, none⟩), .pointer (some ⟨b6, 0, none⟩), .pointer (some ⟨b7, 0, none⟩), .pointer (some ⟨b8, 0, none⟩), u9, u10, .pointer (some ⟨b11, 0, none⟩), .func (.func 41) #[] #[.pointer (some ⟨bE, 0, none⟩)], .pointer (some ⟨b13, 0, none⟩), u14, u15, .pointer (some ⟨b16, 0, none⟩), .int .i64 x.1, .string ⟨x.2.toArray⟩, u19, u20, u21, u22, u23, u24, u25, u26, u27, u28, u29, u30, u31, u32, u33, u34, u35, u36, u37, u38, u39, u40, u41, u42, u43, u44, u45, u46, u47, u48, u49, u50, u51, u52, u53, u54, u55, u56, u57, u58, u59, u60, u61, u62, u63, u64, u65, u66, u67, u68, u69, u70, u71, u72, u73, u74, u75, u76, .int .i64 (nw : Nat), .slice aw nw cw, .int .i64 (nw : Nat), .bool false, .pointer (some ⟨m, 0, none⟩), .slice aw2 nw2 cw2, .func (.func 41) #[] #[.pointer (some ⟨bE, 0, none⟩)], .int .i64 x.1, .string ⟨x.2.toArray⟩, u86, u87, u88, u89, u90, u91, u92, u93, u94, u95, u96, u97, u98, u99, u100, u101, u102, u103, u104, u105, u106, u107, u108, u109, u110, u111, u112, u113, u114, u115, u116, u117, u118, u119, u120, u121], defers := [] }) ?assign ?body ?done ?stop
  case assign =>
    intro lo x W K hK
    simp only [encs2]
    gi_wp2
    exact hK
  case body =>
    rintro lo pre ⟨i, s⟩ W hI hlt2
    have h := HHD.out
    have hp := HPP.out
    subst hp
    exact round2 w W7 W _ l2 D0 pre i s lo hI (by rw [HNW.out]; exact hlt2) hnb h.2.2 _ _ _ _ _ _ _ _ _ _ _ _ _ _ _ _ _ _ _ _ _ _ _ _ _ _ _ _ _ _ _ _ _ _ _ _ _ _ _ _ _ _ _ _ _ _ _ _ _ _ _ _ _ _ _ _ _ _ _ _ _ _ _ _ _ _ _ _ _ _ _ _ _ _ _ _ _ _ _ _ _ _ _ _ _ _ _ _ _ _ _ _ _ _ _ _ _ _ _ _ _ _ _ _ _ _ _ _ _ _ _ _ _ _ _ _ _ rfl
  case done =>
    rintro D xs W hD rfl hI h1
    have hp := HPP.out
    subst hp
    obtain ⟨hD0, hb6, hb13⟩ := HHD.out
    have hd := block_lt HD7.out
    have h11 := hI.1.2.1
    rw [show (placed l2).length = nw2 by simp [placed, HNW.out]] at h11
    exact hK _ _ (rest2 w W _ l2 nw2 D0 D h11 hI.1.2.2 hI.2 h1 (by omega) hD0 (by omega) hb6 (.inl rfl) _ _ _ _ _ _ _ _ _ _ _ _ _ _ _ _ _ _ _ _ _ _ _ _ _ _ _ _ _ _ _ _ _ _ _ _ _ _ _ _ _ _ _ _ _ _ _ _ _ _ _ _ _ _ _ _ _ _ _ _ _ _ _ _ _ _ _ _ _ _ _ _ _ _ _ _ _ _ _ _ _ _ _ _ _ _ _ _ _ _ _ _ _ _ _ _ _ _ _ _ _ _ _ _ _ _ _ _ _ _ _ _ _ _ _ _ _ rfl)
  case stop =>
    rintro D c pre W hD hSp (⟨rfl, hn⟩ | ⟨rfl, hl, hI⟩) h1
    · exact absurd hSp hn
    · refine wpIn_exit ?_
      have hp := HPP.out
      subst hp
      obtain ⟨hD0, hb6, hb13⟩ := HHD.out
      have hd := block_lt HD7.out
      exact hK _ _ (rest2 w W _ l2 pre.length D0 D hI.1.2.1 hI.1.2.2 hI.2 h1 (by omega) hD0 (by omega) hb6 (.inr hl) _ _ _ _ _ _ _ _ _ _ _ _ _ _ _ _ _ _ _ _ _ _ _ _ _ _ _ _ _ _ _ _ _ _ _ _ _ _ _ _ _ _ _ _ _ _ _ _ _ _ _ _ _ _ _ _ _ _ _ _ _ _ _ _ _ _ _ _ _ _ _ _ _ _ _ _ _ _ _ _ _ _ _ _ _ _ _ _ _ _ _ _ _ _ _ _ _ _ _ _ _ _ _ _ _ _ _ _ _ _ _ _ _ _ _ _ _ rfl)
end Go.Proofs.Ytefoieloakfhfaa.dequeGoes
