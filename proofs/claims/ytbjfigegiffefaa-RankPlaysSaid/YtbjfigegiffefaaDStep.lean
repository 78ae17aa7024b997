/- A step of moving: the end of it. -/
import Derived.Test.YtbjfigegiffefaaDDict
import Derived.BigQuiet
import Derived.Deep.RegionHeld3
set_option linter.unusedVariables false
set_option linter.unusedSimpArgs false

namespace Pantry
open Go
def csnd : Code → Code | .seq _ b => b | c => c
def cfst : Code → Code | .seq a _ => a | c => c
def cin : Code → Code | .block _ b => b | .loop b => b | .rangeFunc _ _ _ b => b | .scope b => b | c => c
def cthen : Code → Code | .cond _ a _ => a | c => c
def cskip : Nat → Code → Code | 0, c => c | n + 1, c => cskip n (csnd c)
def cbody (f : Func) : Code := match f.body with | some c => c | none => .skip
end Pantry
namespace Go.Proofs.Ytbjfigegiffefaa
open Go.RowKit Pantry

theorem moving_no (w : World) (d : Nat) (hd : w.cell? ⟨d, 2, none⟩ = some (.slice none 0 0)) : Calls Try.prog 62 #[.pointer (some ⟨d, 0, none⟩)] w fun e w' => e = .returned (.bool false) ∧ w = w' := by
  go_enter Try.func62, Try.ntmps62
  go_wp2_with fail
  go_ret
  exact ⟨rfl, rfl⟩
theorem moving_yes (w : World) (d b n : Nat) (hn : 0 < n) (hd : w.cell? ⟨d, 2, none⟩ = some (.slice (some ⟨b, 0, none⟩) n n)) : Calls Try.prog 62 #[.pointer (some ⟨d, 0, none⟩)] w fun e w' => e = .returned (.bool true) ∧ w = w' := by
  go_enter Try.func62, Try.ntmps62
  go_wp2_with fail
  go_ret
  exact ⟨by first | rfl | simp [hn], rfl⟩
/-- Between two statements of a step. -/
structure SI (w : World) (d : Nat) (D0 : Dc) (W : World) (D : Dc) : Prop where
  seed : D.seed = D0.seed
  perm : D.ents.Perm D0.ents
  at_ : DictAt W d D
  chg : Chg (DFoot d D0) w W
  foot : ∀ k, DFoot d D k → DFoot d D0 k
theorem SI.drew {w W : World} {d : Nat} {D0 D : Dc} (h : SI w d D0 W D) : SI w d D0 W.drew D := ⟨h.seed, h.perm, h.at_.keep fun _ _ => rfl, h.chg.drew, h.foot⟩
theorem SI.drewN {w W : World} {d : Nat} {D0 D : Dc} (h : SI w d D0 W D) (q : Nat) : SI w d D0 (W.drewN q) D := ⟨h.seed, h.perm, h.at_.keep fun _ _ => rfl, h.chg.drewN, h.foot⟩
theorem SI.setPos {w W : World} {d : Nat} {D0 D : Dc} (h : SI w d D0 W D) (a : Nat) : SI w d D0 (W.setCell ⟨d, 3, none⟩ (.int .i64 a)) (D.withPos a) :=
  ⟨h.seed, h.perm, h.at_.setPos a, h.chg.setCell (p := ⟨d, 3, none⟩) (fun _ => .inl rfl) _, h.foot⟩
def StepPost (d : Nat) (D0 : Dc) (w : World) (r : Ending) (w' : World) : Prop := r = .returned (.tuple #[]) ∧ ∃ D, D.Wf ∧ SI w d D0 w' D
theorem SI.swap {w W : World} {d : Nat} {D0 D : Dc} (h : SI w d D0 W D) (hm : D.Mid) (hp : D.pos = D.T.length) :
    StepPost d D0 w (.returned (.tuple #[])) (((W.setCell ⟨d, 1, none⟩ (tabV D.bn D.Y)).setCell ⟨d, 2, none⟩ (.slice none 0 0)).setCell ⟨d, 3, none⟩ (.int .i64 0)) := by
  obtain ⟨h1, h2⟩ := hm.swapped hp
  have ho : ∀ k, k ≠ d → (((W.setCell ⟨d, 1, none⟩ (tabV D.bn D.Y)).setCell ⟨d, 2, none⟩ (.slice none 0 0)).setCell ⟨d, 3, none⟩ (.int .i64 0)).heap[k]? = W.heap[k]? := fun k hk =>
    (heapSetOther (p := ⟨d, 3, none⟩) hk).trans ((heapSetOther (p := ⟨d, 2, none⟩) hk).trans (heapSetOther (p := ⟨d, 1, none⟩) hk))
  refine ⟨rfl, D.swapped, h1, h.seed, h2 ▸ h.perm, ⟨?_, ?_, ?_, ?_, fun c hc => (by cases hc), fun _ hh => absurd rfl hh⟩, ?_, ?_⟩
  · rw [heapSetHere (heapSetHere (heapSetHere h.at_.head _) _)]
    rw [show D.swapped.ents = D.ents from h2]
    rfl
  · exact h.at_.young.keep fun hne => ho _ (h.at_.ne_young hne)
  · exact ⟨fun hh => absurd rfl hh, fun hh => absurd rfl hh, Nat.zero_le _⟩
  · exact fun c hc => (h.at_.chY c hc).keep fun e he => by
      obtain ⟨q, hq⟩ := (h.at_.chY c hc).mem he
      exact ho _ (h.at_.ne_ent hq)
  · exact ((h.chg.setCell (p := ⟨d, 1, none⟩) (fun _ => .inl rfl) _).setCell (p := ⟨d, 2, none⟩) (fun _ => .inl rfl) _).setCell (p := ⟨d, 3, none⟩) (fun _ => .inl rfl) _
  · rintro k (rfl | ⟨hne, rfl⟩ | ⟨hne, rfl⟩ | ⟨e, he, rfl⟩)
    · exact h.foot _ (.inl rfl)
    · exact h.foot _ (.inr (.inr (.inl ⟨hne, rfl⟩)))
    · exact absurd rfl hne
    · rw [h2] at he
      exact h.foot _ (.inr (.inr (.inr ⟨e, he, rfl⟩)))

set_option maxHeartbeats 4000000 in
set_option maxRecDepth 100000 in
theorem step_end (w W : World) (d : Nat) (D0 D : Dc) (h : SI w d D0 W D) (hm : D.Mid) (u1 u2 u3 u4 u5 u6 u7 u8 u9 u10 u11 u12 u13 u14 u15 u16 u17 u18 u19 u20 u21 u22 u23 u24 u25 u26 u27 u28 u29 u30 u31 u32 u33 u34 u35 u36 u37 u38 u39 u40 u41 u42 u43 u44 u45 u46 u47 u48 u49 u50 u51 u52 u53 u54 u55 u56 u57 u58 u59 u60 u61 u62 u63 u64 u65 u66 u67 u68 u69 u70 u71 u72 u73 u74 u75 u76 u77 u78 u79 u80 u81 u82 u83 u84 u85 u86 u87 u88 u89 u90 u91 u92 u93 u94 u95 u96 u97 u98 u99 u100 u101 u102 u103 u104 u105 u106 u107 u108 u109 u110 u111 u112 u113 u114 u115 u116 u117 u118 u119 u120 u121 u122 u123 u124 u125 u126 u127 u128 u129 : Value) :
    ∀ c, cfst (cskip 3 (cbody Try.f58)) = c → ∀ cr, csnd (cskip 3 (cbody Try.f58)) = cr → ∀ K : Act → World → Prop, (∀ a v, Code.wp Try.prog cr (bodyPost Try.prog Try.f58 (StepPost d D0 w)) a v → K a v) →
      Code.wp Try.prog c (Exit.then K (bodyPost Try.prog Try.f58 (StepPost d D0 w))) { tmps := #[.pointer (some ⟨d, 0, none⟩), u1, u2, u3, u4, u5, u6, u7, u8, u9, u10, u11, u12, u13, u14, u15, u16, u17, u18, u19, u20, u21, u22, u23, u24, u25, u26, u27, u28, u29, u30, u31, u32, u33, u34, u35, u36, u37, u38, u39, u40, u41, u42, u43, u44, u45, u46, u47, u48, u49, u50, u51, u52, u53, u54, u55, u56, u57, u58, u59, u60, u61, u62, u63, u64, u65, u66, u67, u68, u69, u70, u71, u72, u73, u74, u75, u76, u77, u78, u79, u80, u81, u82, u83, u84, u85, u86, u87, u88, u89, u90, u91, u92, u93, u94, u95, u96, u97, u98, u99, u100, u101, u102, u103, u104, u105, u106, u107, u108, u109, u110, u111, u112, u113, u114, u115, u116, u117, u118, u119, u120, u121, u122, u123, u124, u125, u126, u127, u128, u129], defers := [] } W := by
  obtain ⟨⟨d0, d1, d2, d3, d4⟩, df⟩ := five h.at_.head
  have df1 := df 1
  have df2 := df 2
  have df3 := df 3
  have hT : D.T.length ≤ 1099511627776 := h.at_.old.few
  have hle := hm.le
  have HS := fun hp q => Lib.hid ((h.drewN q).swap hm hp)
  have HW := fun hp q => Lib.hid (show StepPost d D0 w (.returned (.tuple #[])) (W.drewN q) from ⟨rfl, D, hm.wf hp, h.drewN q⟩)
  rw [tabV_some hm.young] at d2 HS
  obtain ⟨bn, hbn⟩ : ∃ b, D.bn = b := ⟨_, rfl⟩
  obtain ⟨ny, hny⟩ : ∃ b, D.Y.length = b := ⟨_, rfl⟩
  obtain ⟨a, ha⟩ : ∃ b, D.pos = b := ⟨_, rfl⟩
  rw [hbn, hny] at d2 HS
  rw [ha] at d3 hle HS HW
  have hd1 : ∃ q, tabV D.bo D.T = .slice q D.T.length D.T.length := by
    unfold tabV
    split
    · rename_i h0; rw [h0]; exact ⟨_, rfl⟩
    · exact ⟨_, rfl⟩
  obtain ⟨q, hq⟩ := hd1
  rw [hq] at d1
  obtain ⟨nt, hnt⟩ : ∃ b, D.T.length = b := ⟨_, rfl⟩
  rw [hnt] at d1 hle hT HS HW
  clear h hm df d0 d4 hbn hny ha hq hnt
  intro c hc cr hcr K hK
  conv at hc => lhs; whnf
  conv at hcr => lhs; whnf
  subst hc hcr
  by_cases hp : a = nt
  · have HS2 := HS hp
    clear HW HS
    subst hp
    go_wp2_with fail
    go_quiet (fail)
    go_wp2_with fail
    (try simp only [Exit.inBlock, Exit.then]); refine bodyPost_ret (results_none rfl _ _ _) rfl ?_
    exact (HS2 _).out
  · have HW2 := HW (by omega)
    have hpi : ((a : Int) == (nt : Int)) = false := by simpa using fun h : (a : Int) = (nt : Int) => hp (by omega)
    clear HS HW
    go_wp2_with fail
    go_quiet (fail)
    go_wp2_with fail
    (try simp only [Exit.inBlock, Exit.then]); refine bodyPost_ret (results_none rfl _ _ _) rfl ?_
    exact (HW2 _).out
end Go.Proofs.Ytbjfigegiffefaa
