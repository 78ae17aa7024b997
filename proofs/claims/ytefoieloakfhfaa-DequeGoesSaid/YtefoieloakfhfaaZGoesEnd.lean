/- The end of the law: the place, and the last word. -/
import Derived.Test.YtefoieloakfhfaaZGoesCode
set_option linter.unusedVariables false
set_option linter.unusedSimpArgs false
namespace Go.Proofs.Ytefoieloakfhfaa.dequeGoes
open Go Go.Proofs Go.Proofs.Ytefoieloakfhfaa Go.RowKit Go.ChangeShapes Go.WideShapes Go.ChangeAt Pantry
attribute [local go_sem] Oper.semAt_some

set_option maxHeartbeats 8000000 in
set_option maxRecDepth 100000 in
theorem rest2 (w W : World) (p : Gp) (l : List Txt) (k D0 D1 : Nat) (hB : GB p false k W) (hS : GS w p l W) (h0 : W.heap[D0]? = some (.deferred (some []))) (h1 : W.heap[D1]? = some (.deferred (some []))) (hne : D0 ≠ D1)
    (hD0 : w.heap.size ≤ D0) (hD1 : w.heap.size ≤ D1) (hb6 : w.heap.size ≤ p.b6) (hk : k = p.nw ∨ ((k : Nat) : Int) = p.leave) (u0 u1 u2 u3 u4 u9 u10 u11 u12 u14 u15 u17 u18 u19 u20 u21 u22 u23 u24 u25 u26 u27 u28 u29 u30 u31 u32 u33 u34 u35 u36 u37 u38 u39 u40 u41 u42 u43 u44 u45 u46 u47 u48 u49 u50 u51 u52 u53 u54 u55 u56 u57 u58 u59 u60 u61 u62 u63 u64 u65 u66 u67 u68 u69 u70 u71 u72 u73 u74 u75 u76 u77 u78 u79 u80 u81 u82 u83 u84 u85 u86 u87 u88 u89 u90 u91 u92 u93 u94 u95 u96 u97 u98 u99 u100 u101 u102 u103 u104 u105 u106 u107 u108 u109 u110 u111 u112 u113 u114 u115 u116 u117 u118 u119 u120 u121 : Value) :
    ∀ c, cskip 14 (cbody Try.f8) = c → c.wpIn Fence.wide 3 Try.prog (bodyPostM Fence.wide 3 Try.prog Try.f8 (OkPost w)) { tmps := #[u0, u1, u2, u3, u4, .pointer (some ⟨p.b5, 0, none⟩), .pointer (some ⟨p.b6, 0, none⟩), .pointer (some ⟨p.b7, 0, none⟩), .pointer (some ⟨p.b8, 0, none⟩), u9, u10, u11, u12, .pointer (some ⟨p.b13, 0, none⟩), u14, u15, .pointer (some ⟨p.b11, 0, none⟩), u17, u18, u19, u20, u21, u22, u23, u24, u25, u26, u27, u28, u29, u30, u31, u32, u33, u34, u35, u36, u37, u38, u39, u40, u41, u42, u43, u44, u45, u46, u47, u48, u49, u50, u51, u52, u53, u54, u55, u56, u57, u58, u59, u60, u61, u62, u63, u64, u65, u66, u67, u68, u69, u70, u71, u72, u73, u74, u75, u76, u77, u78, u79, u80, u81, u82, u83, u84, u85, u86, u87, u88, u89, u90, u91, u92, u93, u94, u95, u96, u97, u98, u99, u100, u101, u102, u103, u104, u105, u106, u107, u108, u109, u110, u111, u112, u113, u114, u115, u116, u117, u118, u119, u120, u121], defers := [mark D1, mark D0] } W := by
  obtain ⟨b4, b5, b6, b7, b8, b11, b13, bE, a2, n2, c2, leave, d, m, aw, nw, cw⟩ := p
  simp only at hk hb6 ⊢
  have q5 := hB.x5.cell
  have q7 := hB.x7.cell
  have q8 := hB.x8.cell
  have q11 := hB.x11.cell
  have q13 := hB.x13.cell
  simp only at q5 q7 q8 q11 q13
  obtain ⟨v, gs, cs, hp⟩ := hS.one
  have HP := Lib.hid hp
  have HS := Lib.hid (stands_any W (some ⟨d, 0, none⟩) (some ⟨m, 0, none⟩) cs (.inr ⟨d, v, gs, rfl, hp.2.1⟩) (.inr ⟨m, rfl, hp.2.2.1⟩) hp.1.toFits)
  have HSb := Lib.hid hS.below
  have HBx := Lib.hid hB.x6
  have HD := Lib.hid (show _ ∧ _ ∧ _ ∧ _ ∧ _ ∧ _ from ⟨h0, h1, hne, hD0, hD1, hb6⟩)
  clear hB hS hp h0 h1 hne hD0 hD1 hb6
  intro c hc
  conv at hc => lhs; whnf
  subst hc
  by_cases hkn : k = nw
  · subst hkn
    clear hk
    gi_wp2_with fail
    refine ⟨trivial, (callsIn_wide.2 HS.out).mono ?_⟩
    rintro e W1 ⟨rfl, hb1⟩
    have HB1 := Lib.hid hb1
    have q6 := Boxed.cell (below_keep hb1 HBx.out)
    have q6f := Boxed.frozen (below_keep hb1 HBx.out)
    clear hb1
    gi_wp2_with fail
    obtain ⟨h0, h1, hne, hD0, hD1, hb6⟩ := HD.out
    exact last_step HSb.out HBx.out HB1.out h0 h1 hne hD0 hD1 hb6 rfl
  · have hkl : ((k : Nat) : Int) = leave := hk.resolve_left hkn
    clear hk
    subst hkl
    have hkn' : ¬ (k : Int) = (nw : Int) := by omega
    gi_wp2_with fail
    refine ⟨trivial, (callsIn_wide.2 HS.out).mono ?_⟩
    rintro e W1 ⟨rfl, hb1⟩
    have HB1 := Lib.hid hb1
    have q6 := Boxed.cell (below_keep hb1 HBx.out)
    have q6f := Boxed.frozen (below_keep hb1 HBx.out)
    clear hb1
    gi_wp2_with fail
    obtain ⟨h0, h1, hne, hD0, hD1, hb6⟩ := HD.out
    exact last_step HSb.out HBx.out HB1.out h0 h1 hne hD0 hD1 hb6 rfl
end Go.Proofs.Ytefoieloakfhfaa.dequeGoes
