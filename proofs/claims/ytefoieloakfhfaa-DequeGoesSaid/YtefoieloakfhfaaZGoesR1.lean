/- A round of the first going through. -/
import Derived.Test.YtefoieloakfhfaaZGoesR2
import Derived.Sort.CutIn
set_option linter.unusedVariables false
set_option linter.unusedSimpArgs false
namespace Go.Proofs.Ytefoieloakfhfaa.dequeGoes
open Go Go.Proofs Go.Proofs.Ytefoieloakfhfaa Go.RowKit Go.ChangeShapes Go.WideShapes Go.ChangeAt Pantry
attribute [local go_sem] Oper.semAt_some

theorem gi_set {w : World} {p : Gp} {l : List Txt} {pre : List (Nat × Txt)} {x : Nat × Txt} {W : World} (hp : pre ++ [x] <+: placed l) (hB : GB p false pre.length W) (hS : GS w p l W) (h13 : w.heap.size ≤ p.b13) :
    GI w p l (pre ++ [x]) (W.setCell ⟨p.b13, 0, none⟩ (.int .i64 ((pre.length + 1 : Nat) : Int))) := by
  refine ⟨hp, ?_, ?_⟩
  · rw [List.length_append, List.length_singleton]; exact hB.setK _
  · exact hS.keeps (KeepsT.set hB.x13 (by unfold dqT rfT; decide) _) (hS.below.setCell (p := ⟨p.b13, 0, none⟩) h13 _)
theorem kp_set {p : Gp} {W : World} {k : Nat} (hB : GB p false k W) (v : Value) : KpD p.d p.m W (W.setCell ⟨p.b13, 0, none⟩ v) :=
  KpD.keeps (grownBy_setCell' W p.b13 v).size (KeepsT.set hB.x13 (by unfold dqT; decide) _)
theorem ko_drew (W : World) : KeepsOthers W W.drew := ⟨Nat.le_refl _, fun _ _ h _ => h⟩
theorem kp_drew (d m : Nat) (W : World) : KpD d m W W.drew := KpD.keeps (Nat.le_refl _) (KeepsT.drew W)

set_option maxHeartbeats 8000000 in
set_option maxRecDepth 100000 in
theorem round1 (w W8 W : World) (p : Gp) (l : List Txt) (l2 : List Op7) (pre : List (Nat × Txt)) (i : Nat) (s : Txt) (lo : Nat) (hI : GI w p l pre W) (hlt : pre.length < l.length) (hnb : p.nw ≤ 1048576) (hb13 : w.heap.size ≤ p.b13) (hl2 : OpsAt w p.a2 p.n2 l2) (u0 u1 u2 u3 u5 u9 u10 u12 u16 u17 u18 u19 u20 u21 u22 u23 u24 u25 u26 u27 u28 u29 u30 u31 u32 u33 u34 u35 u36 u37 u38 u39 u40 u41 u42 u43 u44 u45 u46 u47 u48 u49 u50 u51 u52 u53 u54 u55 u56 u57 u58 u59 u60 u61 u62 u63 u64 u65 u66 u67 u68 u69 u70 u71 u72 u73 u74 u75 u76 u77 u78 u79 u80 u81 u82 u83 u84 u85 u86 u87 u88 u89 u90 u91 u92 u93 u94 u95 u96 u97 u98 u99 u100 u101 u102 u103 u104 u105 u106 u107 u108 u109 u110 u111 u112 u113 u114 u115 u116 u117 u118 u119 u120 u121 : Value) :
    ∀ c, cin (cin (csnd (cfst (cskip 9 (cbody Try.f8))))) = c → c.wpIn (Fence.wide.inRound lo) 1 Try.prog (ownPostG W8.heap.size (KpD p.d p.m) (GI w p l) (fun c pre _ => c = .ret ∧ ¬ pre <+: placed l) (pre ++ [(i, s)]) W) { tmps := #[u0, u1, u2, u3, .pointer (some ⟨p.b4, 0, none⟩), u5, .pointer (some ⟨p.b6, 0, none⟩), .pointer (some ⟨p.b7, 0, none⟩), .pointer (some ⟨p.b8, 0, none⟩), u9, u10, .pointer (some ⟨p.b11, 0, none⟩), u12, .pointer (some ⟨p.b13, 0, none⟩), .int .i64 i, .string ⟨s.toArray⟩, u16, u17, u18, u19, u20, u21, u22, u23, u24, u25, u26, u27, u28, u29, u30, u31, u32, u33, u34, u35, u36, u37, u38, u39, u40, u41, u42, u43, u44, u45, u46, u47, u48, u49, u50, u51, u52, u53, u54, u55, u56, u57, u58, u59, u60, u61, u62, u63, u64, u65, u66, u67, u68, u69, u70, u71, u72, u73, u74, u75, u76, u77, u78, u79, u80, u81, u82, u83, u84, u85, u86, u87, u88, u89, u90, u91, u92, u93, u94, u95, u96, u97, u98, u99, u100, u101, u102, u103, u104, u105, u106, u107, u108, u109, u110, u111, u112, u113, u114, u115, u116, u117, u118, u119, u120, u121], defers := [] } W := by
  have hB := hI.2.1
  have q4 := hB.x4.cell
  have q6 := hB.x6.cell
  have q6f := hB.x6.frozen
  have q7 := hB.x7.cell
  have q8 := hB.x8.cell
  have q11 := hB.x11.cell
  have q13 := hB.x13.cell
  have q13f := hB.x13.frozen
  have hl := hI.2.2.len
  obtain ⟨tx, htx⟩ : ∃ x, l[pre.length]? = some x := ⟨_, List.getElem?_eq_getElem hlt⟩
  obtain ⟨y, hy, hcell⟩ := hI.cell htx
  have hk0 : (0 : Int) ≤ (pre.length : Int) := by omega
  have hkn : (pre.length : Int) < (p.nw : Int) := by omega
  have HI := Lib.hid hI
  have HX := Lib.hid htx
  have HO := Lib.hid hl2
  rw [hy] at q11
  clear hB hI htx hl hlt hl2
  intro c hc
  conv at hc => lhs; whnf
  subst hc
  by_cases hi : i = pre.length
  · subst hi
    by_cases hs : s = tx
    · subst hs
      have HP := Lib.hid (prefix_snoc HI.out.1 HX.out)
      have hmix : Try.prog.follows .mixedOrders = true := by kernel_rfl
      gi_upto_region 21 with fail
      by_cases hk2 : pre.length < p.n2
      · have hk3 : (pre.length : Int) < (p.n2 : Int) := by omega
        obtain ⟨o, hok⟩ : ∃ o, l2[pre.length]? = some o := ⟨_, List.getElem?_eq_getElem (by rw [HO.out.len]; exact hk2)⟩
        obtain ⟨y2, hy2, hcells⟩ := (HO.out.keep HI.out.2.2.below).cell pre.length _ hok
        rw [hy2] at q4
        have HCL := Lib.hid (show ∀ j u, o.cells[j]? = some u → W.drew.cell? ((y2.add (pre.length * 7)).add j) = some u from fun j u hj => by rw [Addr.add_add]; exact hcells j u hj)
        have HS7 := Lib.hid (show (Try.prog.info? 39).map (·.size) = some 7 by kernel_rfl)
        have HOK := Lib.hid (HO.out.ok _ (List.mem_of_getElem? hok))
        have HSD := Lib.hid (HI.out.2.2.keeps (KeepsT.drew W) HI.out.2.2.below.drew)
        have HBD := Lib.hid (HI.out.2.1.keeps (KeepsT.drew W))
        clear hok hcells
        refine region_tail_round 11 hmix (by kernel_rfl) (by kernel_rfl) (fun ⟨_, _, h⟩ => h) ?_
        simp only [List.take_succ_cons, List.take_zero, List.drop_succ_cons, List.drop_zero]
        iterate 10 (refine wpStill_step (fun K hK => ?_); have HK := Lib.hid hK; clear hK; go_simp; refine HK.out _ ?_; clear HK K)
        refine wpStill_load_at (by rfl) _ _ rfl _ rfl _ _ HCL.out Try.underlying39 rfl HS7.out ?_
        simp only [Act.put, List.setIfInBounds_toArray, List.set_cons_zero, List.set_cons_succ]
        refine wpStill_nil ?_
        go_wp2_with (go_at_call 30; refine (HSD.out.plays o HOK.out).mono ?_; rintro e w4 ⟨rfl, hg4, hk4, hx4, ho4⟩
                     have HG4 := Lib.hid hg4
                     have HK4 := Lib.hid hk4
                     have HO4 := Lib.hid ho4
                     have HB4 := Lib.hid (HBD.out.keeps hx4)
                     have r13 := HB4.out.x13.cell
                     have r13f := HB4.out.x13.frozen
                     clear hg4 hk4 hx4 ho4)
        gi_wp2_with fail
        exact ⟨((ko_drew W).trans (HO4.out.trans (KeepsOthers.setCell _ _ _))).from _, ((kp_drew _ _ W).trans HK4.out).trans (kp_set HB4.out _), gi_set HP.out HB4.out HG4.out hb13⟩
      · have hk3 : ¬ (pre.length : Int) < (p.n2 : Int) := by omega
        have HSD := Lib.hid (HI.out.2.2.keeps (KeepsT.drew W) HI.out.2.2.below.drew)
        have HBD := Lib.hid (HI.out.2.1.keeps (KeepsT.drew W))
        refine region_tail_round 11 hmix (by kernel_rfl) (by kernel_rfl) (fun ⟨_, _, h⟩ => h) ?_
        simp only [List.take_succ_cons, List.take_zero, List.drop_succ_cons, List.drop_zero]
        iterate 4 (refine wpStill_step (fun K hK => ?_); have HK := Lib.hid hK; clear hK; go_simp; refine HK.out _ ?_; clear HK K)
        refine wpStill_move (by rfl) _ rfl _ rfl ?_
        simp only [Act.put, List.setIfInBounds_toArray, List.set_cons_zero, List.set_cons_succ]
        iterate 6 (refine wpStill_skip (by rfl) ?_; simp only [Act.put, List.setIfInBounds_toArray, List.set_cons_zero, List.set_cons_succ])
        refine wpStill_nil ?_
        go_wp2_with fail
        gi_wp2_with fail
        exact ⟨((ko_drew W).trans (KeepsOthers.setCell _ _ _)).from _, (kp_drew _ _ W).trans (kp_set HBD.out _), gi_set HP.out HBD.out HSD.out hb13⟩
    · have hsb : (s == tx) = false := by simpa using hs
      have HW := Lib.hid (prefix_wrong (pre := pre) (i := pre.length) (s := s) HX.out (fun h => hs h.2))
      clear hs
      gi_wp2_with fail
      exact ⟨(KeepsOthers.setCell _ _ _).from _, rfl, HW.out⟩
  · have hine : ¬ (i : Int) = (pre.length : Int) := by omega
    have HW := Lib.hid (prefix_wrong (pre := pre) (i := i) (s := s) HX.out (fun h => hi h.1))
    clear hi
    gi_wp2_with fail
    exact ⟨(KeepsOthers.setCell _ _ _).from _, rfl, HW.out⟩
end Go.Proofs.Ytefoieloakfhfaa.dequeGoes
