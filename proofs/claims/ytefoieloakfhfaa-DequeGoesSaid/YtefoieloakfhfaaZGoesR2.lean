/- A round of the second going through. -/
import Derived.Test.YtefoieloakfhfaaZGoesCode
set_option linter.unusedVariables false
set_option linter.unusedSimpArgs false
namespace Go.Proofs.Ytefoieloakfhfaa.dequeGoes
open Go Go.Proofs Go.Proofs.Ytefoieloakfhfaa Go.RowKit Go.ChangeShapes Go.WideShapes Go.ChangeAt Pantry
attribute [local go_sem] Oper.semAt_some

/-- What the second loop keeps; how it is left. -/
def I2 (w : World) (p : Gp) (l : List Txt) (D0 : Nat) (pre : List (Nat × Txt)) (W : World) : Prop := GI w p l pre W ∧ W.heap[D0]? = some (.deferred (some []))
def Ix2 (w : World) (p : Gp) (l : List Txt) (D0 : Nat) (c : Code) (pre : List (Nat × Txt)) (W : World) : Prop := (c = .ret ∧ ¬ pre <+: placed l) ∨ (c = .exit 4 ∧ ((pre.length : Nat) : Int) = p.leave ∧ I2 w p l D0 pre W)
theorem i2_own {w W8 : World} {p : Gp} {l : List Txt} {D0 : Nat} (hw : w.heap.size ≤ W8.heap.size) (hD : D0 < W8.heap.size) : OwnFrom W8.heap.size (I2 w p l D0) := fun s W W' row ⟨h1, h2⟩ hg hr =>
  ⟨gi_own hw s W W' row h1 hg hr, (hg.block D0 (block_lt h2) (fun e => by have := (hr D0 e.symm).1; omega)).trans h2⟩
theorem ix2_own {w W8 : World} {p : Gp} {l : List Txt} {D0 : Nat} (hw : w.heap.size ≤ W8.heap.size) (hD : D0 < W8.heap.size) (c : Code) : OwnFrom W8.heap.size (Ix2 w p l D0 c) := fun s W W' row h hg hr =>
  h.imp id fun ⟨h1, h2, h3⟩ => ⟨h1, h2, i2_own hw hD s W W' row h3 hg hr⟩
theorem i2_set {w : World} {p : Gp} {l : List Txt} {D0 : Nat} {pre : List (Nat × Txt)} {W : World} (h : I2 w p l D0 pre W) (h13 : w.heap.size ≤ p.b13) {x : Nat × Txt} (hp : pre ++ [x] <+: placed l) :
    I2 w p l D0 (pre ++ [x]) (W.setCell ⟨p.b13, 0, none⟩ (.int .i64 ((pre.length + 1 : Nat) : Int))) := by
  obtain ⟨⟨h1, h2, h3⟩, h4⟩ := h
  refine ⟨⟨hp, ?_, ?_⟩, ?_⟩
  · rw [List.length_append, List.length_singleton]; exact h2.setK _
  · exact h3.keeps (KeepsT.set h2.x13 (by unfold dqT rfT; decide) _) (h3.below.setCell (p := ⟨p.b13, 0, none⟩) h13 _)
  · refine ((grownBy_setCell' W p.b13 _).block D0 (block_lt h4) fun e => ?_).trans h4
    obtain rfl : D0 = p.b13 := by simpa using e
    rw [show W.heap[p.b13]? = _ from h2.x13] at h4; cases h4
theorem txt_ne {s t : Txt} (h : ¬ s = t) : ¬ (⟨s.toArray⟩ : ByteArray) = ⟨t.toArray⟩ := fun e => h (by simpa using e)

set_option maxHeartbeats 8000000 in
set_option maxRecDepth 100000 in
theorem round2 (w W8 W : World) (p : Gp) (l : List Txt) (D0 : Nat) (pre : List (Nat × Txt)) (i : Nat) (s : Txt) (lo : Nat) (hI : I2 w p l D0 pre W) (hlt : pre.length < l.length) (hnb : p.nw ≤ 1048576) (hb13 : w.heap.size ≤ p.b13) (u0 u1 u2 u3 u4 u7 u8 u9 u10 u11 u12 u14 u15 u19 u20 u21 u22 u23 u24 u25 u26 u27 u28 u29 u30 u31 u32 u33 u34 u35 u36 u37 u38 u39 u40 u41 u42 u43 u44 u45 u46 u47 u48 u49 u50 u51 u52 u53 u54 u55 u56 u57 u58 u59 u60 u61 u62 u63 u64 u65 u66 u67 u68 u69 u70 u71 u72 u73 u74 u75 u76 u77 u78 u79 u80 u81 u82 u83 u84 u85 u86 u87 u88 u89 u90 u91 u92 u93 u94 u95 u96 u97 u98 u99 u100 u101 u102 u103 u104 u105 u106 u107 u108 u109 u110 u111 u112 u113 u114 u115 u116 u117 u118 u119 u120 u121 : Value) :
    ∀ c, cin (cin (csnd (cfst (cskip 13 (cbody Try.f8))))) = c → c.wpIn (Fence.wide.inRound lo) 1 Try.prog (ownPostG W8.heap.size (KeepsT dqT) (I2 w p l D0) (Ix2 w p l D0) (pre ++ [(i, s)]) W) { tmps := #[u0, u1, u2, u3, u4, .pointer (some ⟨p.b5, 0, none⟩), .pointer (some ⟨p.b6, 0, none⟩), u7, u8, u9, u10, u11, u12, .pointer (some ⟨p.b13, 0, none⟩), u14, u15, .pointer (some ⟨p.b11, 0, none⟩), .int .i64 i, .string ⟨s.toArray⟩, u19, u20, u21, u22, u23, u24, u25, u26, u27, u28, u29, u30, u31, u32, u33, u34, u35, u36, u37, u38, u39, u40, u41, u42, u43, u44, u45, u46, u47, u48, u49, u50, u51, u52, u53, u54, u55, u56, u57, u58, u59, u60, u61, u62, u63, u64, u65, u66, u67, u68, u69, u70, u71, u72, u73, u74, u75, u76, u77, u78, u79, u80, u81, u82, u83, u84, u85, u86, u87, u88, u89, u90, u91, u92, u93, u94, u95, u96, u97, u98, u99, u100, u101, u102, u103, u104, u105, u106, u107, u108, u109, u110, u111, u112, u113, u114, u115, u116, u117, u118, u119, u120, u121], defers := [] } W := by
  have hB := hI.1.2.1
  have q5 := hB.x5.cell
  have q6 := hB.x6.cell
  have q6f := hB.x6.frozen
  have q11 := hB.x11.cell
  have q13 := hB.x13.cell
  have q13f := hB.x13.frozen
  have hl := hI.1.2.2.len
  have q5s : ∀ v, (W.setCell ⟨p.b13, 0, none⟩ v).cell? ⟨p.b5, 0, none⟩ = some (.int .i64 p.leave) := fun v => (hB.x5.other hB.ne v).cell
  obtain ⟨tx, htx⟩ : ∃ x, l[pre.length]? = some x := ⟨_, List.getElem?_eq_getElem hlt⟩
  obtain ⟨y, hy, hcell⟩ := hI.1.cell htx
  have hk0 : (0 : Int) ≤ (pre.length : Int) := by omega
  have hkn : (pre.length : Int) < (p.nw : Int) := by omega
  have HI := Lib.hid hI
  have HX := Lib.hid htx
  have HL := Lib.hid hl
  rw [hy] at q11
  clear hB hI htx hl hlt
  intro c hc
  conv at hc => lhs; whnf
  subst hc
  by_cases hi : i = pre.length
  · subst hi
    by_cases hs : s = tx
    · subst hs
      have HP := Lib.hid (prefix_snoc HI.out.1.1 HX.out)
      by_cases hlv : ((pre.length : Nat) : Int) + 1 = p.leave
      · have HV := Lib.hid hlv
        obtain ⟨lv, hlv2⟩ : ∃ lv, p.leave = lv := ⟨_, rfl⟩
        simp only [hlv2] at q5 q5s hlv
        subst hlv
        clear hlv2
        gi_wp2_with fail
        refine ⟨(KeepsOthers.setCell _ _ _).from _, .inr ⟨rfl, by rw [List.length_append, List.length_singleton]; exact HV.out, i2_set HI.out hb13 HP.out⟩⟩
      · gi_wp2_with fail
        exact ⟨(KeepsOthers.setCell _ _ _).from _, KeepsT.set HI.out.1.2.1.x13 (by unfold dqT; decide) _, i2_set HI.out hb13 HP.out⟩
    · have hsb : (s == tx) = false := by simpa using hs
      have HW := Lib.hid (prefix_wrong (pre := pre) (i := pre.length) (s := s) HX.out (fun h => hs h.2))
      clear hs
      gi_wp2_with fail
      exact ⟨(KeepsOthers.setCell _ _ _).from _, .inl ⟨rfl, HW.out⟩⟩
  · have hine : ¬ (i : Int) = (pre.length : Int) := by omega
    have HW := Lib.hid (prefix_wrong (pre := pre) (i := i) (s := s) HX.out (fun h => hi h.1))
    clear hi
    gi_wp2_with fail
    exact ⟨(KeepsOthers.setCell _ _ _).from _, .inl ⟨rfl, HW.out⟩⟩
end Go.Proofs.Ytefoieloakfhfaa.dequeGoes
