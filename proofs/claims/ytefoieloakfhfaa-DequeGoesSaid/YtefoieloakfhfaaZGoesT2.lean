/- Behind the first script. -/
import Derived.Test.YtefoieloakfhfaaZGoesR1
import Derived.Test.YtefoieloakfhfaaZGoesT4
import Derived.Sort.CutIn
set_option linter.unusedVariables false
set_option linter.unusedSimpArgs false
namespace Go.Proofs.Ytefoieloakfhfaa.dequeGoes
open Go Go.Proofs Go.Proofs.Ytefoieloakfhfaa Go.RowKit Go.ChangeShapes Go.WideShapes Go.ChangeAt Pantry
attribute [local go_sem] Oper.semAt_some

set_option maxHeartbeats 8000000 in
set_option maxRecDepth 100000 in
theorem rest0 (w wr : World) (b4 b5 b6 b7 b8 : Nat) (a2 : Option Addr) (n2 c2 : Nat) (l2 : List Op7) (leave : Int) (d m : Nat) (hl2 : OpsAt w a2 n2 l2)
    (hA : GA b4 b5 b6 b7 b8 (.slice a2 n2 c2) (.int .i64 leave) (.bool false) (.pointer (some ⟨d, 0, none⟩)) (.pointer (some ⟨m, 0, none⟩)) wr) (hG : G0 w d m wr) (hb6 : w.heap.size ≤ b6) (u0 u1 u2 u3 u9 u10 u11 u12 u13 u14 u15 u16 u17 u18 u19 u20 u21 u22 u23 u24 u25 u26 u27 u28 u29 u30 u31 u32 u33 u34 u35 u36 u37 u38 u39 u40 u41 u42 u43 u44 u45 u46 u47 u48 u49 u50 u51 u52 u53 u54 u55 u56 u57 u58 u59 u60 u61 u62 u63 u64 u65 u66 u67 u68 u69 u70 u71 u72 u73 u74 u75 u76 u77 u78 u79 u80 u81 u82 u83 u84 u85 u86 u87 u88 u89 u90 u91 u92 u93 u94 u95 u96 u97 u98 u99 u100 u101 u102 u103 u104 u105 u106 u107 u108 u109 u110 u111 u112 u113 u114 u115 u116 u117 u118 u119 u120 u121 : Value) :
    ∀ c, cfst (cskip 5 (cbody Try.f8)) = c → ∀ cr, cskip 6 (cbody Try.f8) = cr → ∀ K : Act → World → Prop, (∀ a v, cr.wpIn Fence.wide 3 Try.prog (bodyPostM Fence.wide 3 Try.prog Try.f8 (OkPost w)) a v → K a v) →
      c.wpIn Fence.wide 3 Try.prog (Exit.then K (bodyPostM Fence.wide 3 Try.prog Try.f8 (OkPost w))) { tmps := #[u0, u1, u2, u3, .pointer (some ⟨b4, 0, none⟩), .pointer (some ⟨b5, 0, none⟩), .pointer (some ⟨b6, 0, none⟩), .pointer (some ⟨b7, 0, none⟩), .pointer (some ⟨b8, 0, none⟩), u9, u10, u11, u12, u13, u14, u15, u16, u17, u18, u19, u20, u21, u22, u23, u24, u25, u26, u27, u28, u29, u30, u31, u32, u33, u34, u35, u36, u37, u38, u39, u40, u41, u42, u43, u44, u45, u46, u47, u48, u49, u50, u51, u52, u53, u54, u55, u56, u57, u58, u59, u60, u61, u62, u63, u64, u65, u66, u67, u68, u69, u70, u71, u72, u73, u74, u75, u76, u77, u78, u79, u80, u81, u82, u83, u84, u85, u86, u87, u88, u89, u90, u91, u92, u93, u94, u95, u96, u97, u98, u99, u100, u101, u102, u103, u104, u105, u106, u107, u108, u109, u110, u111, u112, u113, u114, u115, u116, u117, u118, u119, u120, u121], defers := [] } wr := by
  have kb : ∀ {A B : World}, Chg (fun _ => False) A B → KeepsT boxT A B := fun hc j c t fr _ hj => hc.heap hj fun e => e
  have HL2 := Lib.hid hl2
  have HA := Lib.hid hA
  have HG := Lib.hid hG
  have HB6 := Lib.hid hb6
  have q8 := hA.x8.cell
  have q7 := hA.x7.cell
  obtain ⟨v0, gs0, cs, h1⟩ := hG.one
  have HP := Lib.hid h1
  have HRR := Lib.hid (rrow_or wr (some ⟨m, 0, none⟩) cs (.inr ⟨m, rfl, h1.2.2.1⟩) h1.1.toFits.rows (Nat.le_trans h1.1.toFits.total (by omega)))
  obtain ⟨l, hl⟩ : ∃ l, cs.flatten = l := ⟨_, rfl⟩
  obtain ⟨nw, hnw⟩ : ∃ q, l.length = q := ⟨_, rfl⟩
  rw [hl] at HRR
  have HLL := Lib.hid hl
  have HNW := Lib.hid hnw
  have hnb : nw ≤ 1048576 := by rw [← hnw, ← hl, flatten_length]; exact h1.1.toFits.total
  have hnf : ∀ (b : Nat) (W : World), Sem.run Try.prog (binOp BinOp.eql 52 (.func (.func 41) #[] #[.pointer (some ⟨b, 0, none⟩)]) Value.nilFunc) W = .ok (.bool false) W := fun b W => rfl
  clear h1 hl hnw q7 hl2 hA hG hb6
  intro c hc cr hcr K hK
  conv at hc => lhs; whnf
  conv at hcr => lhs; whnf
  subst hc hcr
  gi_wp2_with fail
  refine ⟨trivial, (callsIn_wide.2 HRR.out).mono ?_⟩
  rintro e W5 ⟨vw, rfl, hrow, hb5⟩
  obtain ⟨aw, cw, rfl, -⟩ := textsRd hrow
  rw [HNW.out] at hrow ⊢
  have HROW := Lib.hid hrow
  have HB5 := Lib.hid hb5
  clear hrow hb5
  gi_upto_region 12 with fail
  obtain ⟨W6, hW6⟩ : ∃ W6, W5.alloc (.cells #[.slice aw nw cw] 22) = W6 := ⟨_, rfl⟩
  rw [hW6]
  have hc6 : Chg (fun _ => False) W5 W6 := by rw [← hW6]; exact (Chg.refl _ _).alloc _
  have x11 : Hid (Boxed W6 W5.heap.size 22 (.slice aw nw cw)) := Lib.hid (by rw [← hW6]; exact Boxed.new W5 _ _)
  have HC6 := Lib.hid ((Chg.of_below (S := fun _ => False) HB5.out).trans hc6 fun _ _ e => e)
  have HROW6 := Lib.hid (Chg.ownsRow HROW.out hc6 fun _ _ e => e)
  have HA6 := Lib.hid (HA.out.keeps (kb HC6.out))
  obtain ⟨b11, hb11⟩ : ∃ b, W5.heap.size = b := ⟨_, rfl⟩
  rw [hb11] at x11 ⊢
  have q7 := HA6.out.x7.cell
  clear hW6 hb11 hc6 HROW HRR HB5 q8
  gi_wp2_with fail
  refine ⟨trivial, (callsIn_wide.2 (each_any W6 _)).mono ?_⟩
  rintro e W7 ⟨rfl, hW7⟩
  have xE : Hid (Boxed W7 W6.heap.size 24 (.pointer (some ⟨d, 0, none⟩))) := Lib.hid (by rw [hW7]; exact Boxed.new W6 _ _)
  have hc7 : Chg (fun _ => False) W6 W7 := by rw [hW7]; exact (Chg.refl _ _).alloc _
  have HC7 := Lib.hid hc7
  obtain ⟨bE, hbE⟩ : ∃ b, W6.heap.size = b := ⟨_, rfl⟩
  rw [hbE] at xE ⊢
  clear hbE hc7 hW7 q7
  gi_wp2_with fail
  rename_i KK hKK
  obtain ⟨b13, hb13⟩ : ∃ b, W7.heap.size = b := ⟨_, rfl⟩
  obtain ⟨W8, hW8⟩ : ∃ W8, W7.alloc (.cells #[.int .i64 0] 3) = W8 := ⟨_, rfl⟩
  rw [hW8, hb13]
  have x13 : Boxed W8 b13 3 (.int .i64 ((0 : Nat) : Int)) := by rw [← hW8, ← hb13]; exact Boxed.new W7 _ _
  have hc8 : Chg (fun _ => False) W7 W8 := by rw [← hW8]; exact (Chg.refl _ _).alloc _
  obtain ⟨p, hp⟩ : ∃ p : Gp, p = ⟨b4, b5, b6, b7, b8, b11, b13, bE, a2, n2, c2, leave, d, m, aw, nw, cw⟩ := ⟨_, rfl⟩
  have h78 := HC7.out.trans hc8 fun _ _ e => e
  have HP1 := HP.out.quiet (HC6.out.trans h78 fun _ _ e => e)
  have hsz5 : b5 < b13 := by
    have := HA6.out.x5.lt; have := HC7.out.size; omega
  have HB8 : Hid (GB p false 0 W8) := Lib.hid (by
    subst hp
    have ha := HA6.out.keeps (kb h78)
    exact ⟨ha.x4, ha.x5, ha.x6, ha.x7, ha.x8, kb h78 _ _ _ _ (by unfold boxT; decide) x11.out, x13, kb hc8 _ _ _ _ (by unfold boxT; decide) xE.out, show b5 ≠ b13 by omega⟩)
  have HG8 : Hid (GS w p l W8) := Lib.hid (by
    subst hp
    exact ⟨⟨v0, gs0, cs, HP1⟩, ⟨_, Chg.ownsRow HROW6.out h78 fun _ _ e => e⟩, HNW.out, (HG.out.quiet (HC6.out.trans h78 fun _ _ e => e)).below⟩)
  have hmlt : m < W8.heap.size := by obtain ⟨u, h, -⟩ := HP1.2.2.1; exact block_lt h
  have HE := each_stops 2 (by omega) bE (some ⟨d, 0, none⟩) cs W8 (KpD d m) (HdD d m cs) (fun W hW => holdsD HP1.2.1 hmlt cs W hW) (show Boxed W8 bE 24 _ from kb hc8 _ _ _ _ (by unfold boxT; decide) xE.out).cell (.inr ⟨d, v0, gs0, rfl, HP1.2.1⟩) HP1.1.toFits
  rw [HLL.out, HNW.out] at HE
  have hw8 := HG8.out.below.size
  have HPP := Lib.hid hp
  have h13 : w.heap.size ≤ b13 := by
    have := HG.out.below.size; have := HC6.out.size; have := HC7.out.size; omega
  have HHD := Lib.hid h13
  clear hc8 hW8 hb13 x13 HP1 hmlt x11 xE HC6 HC7 HA6 HROW6 HP HG hsz5 hp h78 h13 hnf
  refine wpIn_rangeFunc_ownG rfl (by omega) (gf := 41) (lb := #[.pointer (some ⟨bE, 0, none⟩)]) rfl trivial (enters_of Try.func41 (by kernel_rfl) rfl) HE
    (fun h k => h.trans k) (fun W l o o' _ h1 h2 _ => KpD.keeps (grownBy_putObj' W l o').size (KeepsT.putObj o' h1 h2)) (Below.refl _ _) (fun _ => rfl)
    (GI w p l) (fun c pre _ => c = .ret ∧ ¬ pre <+: placed l) (gi_own hw8) (fun c => ownFrom_pure _ (fun pre => c = .ret ∧ ¬ pre <+: placed l)) ⟨List.nil_prefix, HB8.out, HG8.out⟩
    (fun x => { tmps := #[u0, u1, u2, u3, .pointer (some ⟨b4, 0, none⟩), .pointer (some ⟨b5, 0, none⟩), .pointer (some ⟨b6, 0, none⟩), .pointer (some ⟨b7, 0, none⟩), .pointer (some ⟨b8, 0, none⟩), u9, u10, .pointer (some ⟨b11, 0, none⟩), .func (.func 41) #[] #[.pointer (some ⟨bE, 0, none⟩)], .pointer (some ⟨b13, 0, none⟩), .int .i64 x.1, .string ⟨x.2.toArray⟩, u16, u17, u18, u19, u20, u21, u22, u23, u24, u25, u26, u27, u28, u29, u30, u31, u32, u33, u34, .pointer (some ⟨m, 0, none⟩), .slice aw nw cw, .pointer (some ⟨d, 0, none⟩), .func (.func 41) #[] #[.pointer (some ⟨bE, 0, none⟩)], .func (.func 41) #[] #[.pointer (some ⟨bE, 0, none⟩)], .bool false, .func (.func 41) #[] #[.pointer (some ⟨bE, 0, none⟩)], .int .i64 x.1, .string ⟨x.2.toArray⟩, u44, u45, u46, u47, u48, u49, u50, u51, u52, u53, u54, u55, u56, u57, u58, u59, u60, u61, u62, u63, u64, u65, u66, u67, u68, u69, u70, u71, u72, u73, u74, u75, u76, u77, u78, u79, u80, u81, u82, u83, u84, u85, u86, u87, u88, u89, u90, u91, u92, u93, u94, u95, u96, u97, u98, u99, u100, u101, u102, u103, u104, u105, u106, u107, u108, u109, u110, u111, u112, u113, u114, u115, u116, u117, u118, u119, u120, u121], defers := [] }) ?assign ?body ?done ?stop
  case assign =>
    intro lo x W K hK
    simp only [encs2]
    gi_wp2
    exact hK
  case body =>
    rintro lo pre ⟨i, s⟩ W hI hlt2
    have h := HHD.out
    have hp := HPP.out
    subst hp
    exact round1 w W8 W _ l l2 pre i s lo hI (by rw [HNW.out]; exact hlt2) hnb h HL2.out _ _ _ _ _ _ _ _ _ _ _ _ _ _ _ _ _ _ _ _ _ _ _ _ _ _ _ _ _ _ _ _ _ _ _ _ _ _ _ _ _ _ _ _ _ _ _ _ _ _ _ _ _ _ _ _ _ _ _ _ _ _ _ _ _ _ _ _ _ _ _ _ _ _ _ _ _ _ _ _ _ _ _ _ _ _ _ _ _ _ _ _ _ _ _ _ _ _ _ _ _ _ _ _ _ _ _ _ _ _ _ _ _ _ _ rfl
  case done =>
    rintro D xs W hD rfl hI h1
    have hp := HPP.out
    have h13 := HHD.out
    have h6 := HB6.out
    subst hp
    have h11 := hI.2.1
    rw [show (placed l).length = nw by simp [placed, HNW.out]] at h11
    exact hKK _ _ (rest1 w W _ l D h11 hI.2.2 h1 (by omega) h6 h13 _ _ _ _ _ _ _ _ _ _ _ _ _ _ _ _ _ _ _ _ _ _ _ _ _ _ _ _ _ _ _ _ _ _ _ _ _ _ _ _ _ _ _ _ _ _ _ _ _ _ _ _ _ _ _ _ _ _ _ _ _ _ _ _ _ _ _ _ _ _ _ _ _ _ _ _ _ _ _ _ _ _ _ _ _ _ _ _ _ _ _ _ _ _ _ _ _ _ _ _ _ _ _ _ _ _ _ _ _ _ _ _ _ _ _ _ rfl)
  case stop =>
    rintro D c pre W hD hSp ⟨rfl, hn⟩ _
    exact absurd hSp hn
end Go.Proofs.Ytefoieloakfhfaa.dequeGoes
