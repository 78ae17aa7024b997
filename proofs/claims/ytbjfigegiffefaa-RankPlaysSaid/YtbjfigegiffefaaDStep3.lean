/- A step of moving: the bucket at the place is looked at. -/
import Derived.Test.YtbjfigegiffefaaDStep2
set_option linter.unusedVariables false
set_option linter.unusedSimpArgs false

namespace Go.Proofs.Ytbjfigegiffefaa
open Go.RowKit Pantry

set_option maxHeartbeats 8000000 in
set_option maxRecDepth 100000 in
theorem step_mid (w W : World) (d : Nat) (D0 D : Dc) (h : SI w d D0 W D) (hm : D.Mid) (u1 u2 u3 u4 u5 u6 u7 u8 u9 u10 u11 u12 u13 u14 u15 u16 u17 u18 u19 u20 u21 u22 u23 u24 u25 u26 u27 u28 u29 u30 u31 u32 u33 u34 u35 u36 u37 u38 u39 u40 u41 u42 u43 u44 u45 u46 u47 u48 u49 u50 u51 u52 u53 u54 u55 u56 u57 u58 u59 u60 u61 u62 u63 u64 u65 u66 u67 u68 u69 u70 u71 u72 u73 u74 u75 u76 u77 u78 u79 u80 u81 u82 u83 u84 u85 u86 u87 u88 u89 u90 u91 u92 u93 u94 u95 u96 u97 u98 u99 u100 u101 u102 u103 u104 u105 u106 u107 u108 u109 u110 u111 u112 u113 u114 u115 u116 u117 u118 u119 u120 u121 u122 u123 u124 u125 u126 u127 u128 u129 : Value) :
    ∀ c, cfst (cfst (cskip 2 (cbody Try.f58))) = c → ∀ ci, csnd (cfst (cskip 2 (cbody Try.f58))) = ci → ∀ cA, cskip 3 (cbody Try.f58) = cA →
    ∀ K0 : Act → World → Prop, (∀ a v, Code.wp Try.prog cA (bodyPost Try.prog Try.f58 (StepPost d D0 w)) a v → K0 a v) →
    ∀ K1 : Act → World → Prop, (∀ a v, Code.wp Try.prog ci (Exit.then K0 (bodyPost Try.prog Try.f58 (StepPost d D0 w))) a v → K1 a v) →
      Code.wp Try.prog c (Exit.then K1 (Exit.then K0 (bodyPost Try.prog Try.f58 (StepPost d D0 w)))) { tmps := #[.pointer (some ⟨d, 0, none⟩), u1, u2, u3, u4, u5, u6, u7, u8, u9, u10, u11, u12, u13, u14, u15, u16, u17, u18, u19, u20, u21, u22, u23, u24, u25, u26, u27, u28, u29, u30, u31, u32, u33, u34, u35, u36, u37, u38, u39, u40, u41, u42, u43, u44, u45, u46, u47, u48, u49, u50, u51, u52, u53, u54, u55, u56, u57, u58, u59, u60, u61, u62, u63, u64, u65, u66, u67, u68, u69, u70, u71, u72, u73, u74, u75, u76, u77, u78, u79, u80, u81, u82, u83, u84, u85, u86, u87, u88, u89, u90, u91, u92, u93, u94, u95, u96, u97, u98, u99, u100, u101, u102, u103, u104, u105, u106, u107, u108, u109, u110, u111, u112, u113, u114, u115, u116, u117, u118, u119, u120, u121, u122, u123, u124, u125, u126, u127, u128, u129], defers := [] } W := by
  obtain ⟨⟨d0, d1, d2, d3, d4⟩, df⟩ := five h.at_.head
  have HI := Lib.hid h
  have HM := Lib.hid hm
  have hT : D.T.length ≤ 1099511627776 := h.at_.old.few
  have hle := hm.le
  have hseed := hm.seed
  have htext := Lib.hid hm.text
  obtain ⟨a, ha⟩ : ∃ b, D.pos = b := ⟨_, rfl⟩
  obtain ⟨nt, hnt⟩ : ∃ b, D.T.length = b := ⟨_, rfl⟩
  rw [hnt] at hT hle
  rw [ha] at d3 hle
  have HAA := Lib.hid ha
  have HNT := Lib.hid hnt
  intro c hc ci hci cA hcA K0 hK0 K1 hK1
  conv at hc => lhs; whnf
  conv at hci => lhs; whnf
  conv at hcA => lhs; whnf
  subst hc hci hcA
  dsimp only
  by_cases hp : a < nt
  · have hT0 : D.T ≠ [] := by intro h0; rw [h0] at hnt; simp at hnt; omega
    obtain ⟨c0, hc0⟩ : ∃ c, D.T[D.pos]? = some c := ⟨_, List.getElem?_eq_getElem (by omega)⟩
    have hcell := h.at_.old.cell hc0
    have HC0 := Lib.hid hc0
    have hch := h.at_.chT c0 (List.mem_of_getElem? hc0)
    have HY := Lib.hid hm.young
    have hpi : decide ((a : Int) < (nt : Int)) = true := by simpa using hp
    rw [tabV_some hT0, hnt] at d1
    rw [tabV_some hm.young] at d2
    rw [ha] at hcell
    obtain ⟨bo, hbo⟩ : ∃ b, D.bo = b := ⟨_, rfl⟩
    rw [hbo] at d1 hcell
    have HBO := Lib.hid hbo
    cases c0 with
    | nil =>
      simp only [ptrOf, ptrA] at hcell
      clear h hm ha hnt hc0 hch hbo d0 d2 d4 df hT0
      go_quiet (fail)
      go_wp2_with fail
      exact step_end w _ d D0 D (HI.out.drewN _) HM.out _ _ _ _ _ _ _ _ _ _ _ _ _ _ _ _ _ _ _ _ _ _ _ _ _ _ _ _ _ _ _ _ _ _ _ _ _ _ _ _ _ _ _ _ _ _ _ _ _ _ _ _ _ _ _ _ _ _ _ _ _ _ _ _ _ _ _ _ _ _ _ _ _ _ _ _ _ _ _ _ _ _ _ _ _ _ _ _ _ _ _ _ _ _ _ _ _ _ _ _ _ _ _ _ _ _ _ _ _ _ _ _ _ _ _ _ _ _ _ _ _ _ _ _ _ _ _ _ _ _ rfl _ rfl _ (by assumption)
    | cons e c1 =>
      simp only [ptrOf, ptrA] at hcell
      have HCH := Lib.hid hch
      have HD0 := Lib.hid d0
      have HHEAD := Lib.hid h.at_.head
      have HL0 := Lib.hid (show HL D.seed D.bn D.Y (e :: c1) [] (e :: c1) W W from ⟨rfl, hch, h.at_.young, h.at_.chY, Chg.refl _ _⟩)
      have HND := Lib.hid (mid_nodup hm hc0)
      have HNH := Lib.hid (MS.not_head h hm.young hc0)
      have HOLD := Lib.hid (h.at_.old.cells hT0)
      have HNO := Lib.hid (MS.not_old h hm.young hc0)
      have HT0 := Lib.hid hT0
      obtain ⟨bn, hbn⟩ : ∃ b, D.bn = b := ⟨_, rfl⟩
      obtain ⟨ny, hny⟩ : ∃ b, D.Y.length = b := ⟨_, rfl⟩
      rw [hbn, hny] at d2
      have HBN := Lib.hid hbn
      have HNY := Lib.hid hny
      clear h hm ha hnt hc0 hch hbo d0 d4 df hT0 hbn hny
      go_quiet (fail)
      go_wp2_with fail
      go_quiet (fail)
      go_wp2_with fail
      clear d1 d2 d3 hcell
      go_loopg [3] ((e :: c1).length + 1) (fun g s wr => ∃ done rest : List DE, s = .pointer (ptrA rest) ∧ rest.length + 1 ≤ g ∧ Hid (HL D.seed D.bn D.Y (e :: c1) done rest W wr))
      case atStart => exact ⟨[], e :: c1, rfl, Nat.le_refl _, Lib.hid ((HL0.out.drewN _).drewN _)⟩
      case round =>
        obtain ⟨done, rest, rfl, hg, HH⟩ := hrel
        obtain ⟨⟨e0, e1, e2, e3, e4⟩, ef⟩ := five (HH.out.chg.heap HHEAD.out HNH.out)
        cases rest with
        | nil =>
          simp only [ptrA]
          rw [tabV_some HT0.out, HNT.out, HBO.out] at e1
          rw [HAA.out] at e3
          have hold := HH.out.chg.heap HOLD.out HNO.out
          have hcl : wr.cell? ⟨bo, a, none⟩ = some (.pointer (some ⟨e.b, 0, none⟩)) := by
            rw [← HBO.out, cell_of_row wr D.bo a _ _ _ hold, ← HAA.out]
            simp [HC0.out, ptrOf, ptrA]
          have hclf : wr.frozen? ⟨bo, a, none⟩ = false := by rw [← HBO.out]; exact frozen_of_row wr D.bo a _ _ hold
          have hne : d ≠ bo := fun hh => by rw [← HBO.out] at hh; exact types_ne (HH.out.chg.heap HHEAD.out HNH.out) hold (by decide) hh
          have hd3 : ∀ v, (wr.setCell ⟨bo, a, none⟩ v).cell? ⟨d, 3, none⟩ = some (.int .i64 a) := fun v => by
            have := heapSetOther (w := wr) (p := ⟨bo, a, none⟩) (v := v) hne
            rw [cell_of_row _ d 3 _ _ _ (this.trans (HH.out.chg.heap HHEAD.out HNH.out))]
            show some (Value.int .i64 D.pos) = _
            rw [HAA.out]
          have hd3f : ∀ v, (wr.setCell ⟨bo, a, none⟩ v).frozen? ⟨d, 3, none⟩ = false := fun v =>
            frozen_of_row _ d 3 _ _ ((heapSetOther (w := wr) (p := ⟨bo, a, none⟩) (v := v) hne).trans (HH.out.chg.heap HHEAD.out HNH.out))
          clear e0 e2 e4 ef hold hne
          go_wp2_with fail
          go_region
          go_wp2_with fail
          have hall := HH.out.all
          rw [List.append_nil] at hall
          subst hall
          have HE := HI.out.moved HM.out HC0.out HH.out
          rw [HBO.out, HAA.out, show ((a + 1 : Nat) : Int) = (a : Int) + 1 from rfl] at HE
          exact step_end w _ d D0 _ HE.drew (HM.out.moved HC0.out).1 _ _ _ _ _ _ _ _ _ _ _ _ _ _ _ _ _ _ _ _ _ _ _ _ _ _ _ _ _ _ _ _ _ _ _ _ _ _ _ _ _ _ _ _ _ _ _ _ _ _ _ _ _ _ _ _ _ _ _ _ _ _ _ _ _ _ _ _ _ _ _ _ _ _ _ _ _ _ _ _ _ _ _ _ _ _ _ _ _ _ _ _ _ _ _ _ _ _ _ _ _ _ _ _ _ _ _ _ _ _ _ _ _ _ _ _ _ _ _ _ _ _ _ _ _ _ _ _ _ _ rfl _ rfl _ (by assumption)
        | cons x r =>
          simp only [ptrA]
          rw [tabV_some HY.out, HNY.out, HBN.out] at e2
          obtain ⟨⟨c0, c1', c2⟩, -⟩ := three HH.out.chain.1
          have HC2 := Lib.hid c2
          unfold ptrOf at c2
          have HG := hang_any wr d D.bn D.seed (done.foldl (hangT D.seed) D.Y) x _ e0 hseed HH.out.tab (hangs_ne HY.out _) HH.out.chains HH.out.chain.1 (HH.out.hnot HY.out HND.out).1
            (htext.out x (List.mem_append.2 (.inl (List.mem_flatten.2 ⟨_, List.mem_of_getElem? HC0.out, by rw [HH.out.all]; simp⟩))))
          rw [tabV_some (hangs_ne HY.out _), hangs_length, HNY.out, HBN.out] at HG
          have HG := Lib.hid HG
          clear e0 e1 e3 e4 ef c0 c1'
          go_wp2_with (go_at_call 63; refine HG.out.mono ?_; rintro r1 w2 hp; obtain rfl := hp.res
                       have HP := Lib.hid hp
                       clear hp HG)
          go_roundg (r.length + 1)
          case measure => simp at hg; omega
          case rel => exact ⟨done ++ [x], r, rfl, Nat.le_refl _, Lib.hid (HH.out.step HY.out HND.out (by rw [HBN.out]; exact HP.out))⟩
  · have hpi : decide ((a : Int) < (nt : Int)) = false := by simpa using hp
    have hd1 : ∃ q, tabV D.bo D.T = .slice q nt nt := by
      unfold tabV
      split
      · rename_i h0; rw [h0] at hnt; simp at hnt; subst hnt; exact ⟨_, rfl⟩
      · rw [hnt]; exact ⟨_, rfl⟩
    obtain ⟨q, hq⟩ := hd1
    rw [hq] at d1
    clear h hm ha hnt hq d0 d2 d4 df
    go_quiet (fail)
    go_wp2_with fail
    exact step_end w _ d D0 D (HI.out.drewN _) HM.out _ _ _ _ _ _ _ _ _ _ _ _ _ _ _ _ _ _ _ _ _ _ _ _ _ _ _ _ _ _ _ _ _ _ _ _ _ _ _ _ _ _ _ _ _ _ _ _ _ _ _ _ _ _ _ _ _ _ _ _ _ _ _ _ _ _ _ _ _ _ _ _ _ _ _ _ _ _ _ _ _ _ _ _ _ _ _ _ _ _ _ _ _ _ _ _ _ _ _ _ _ _ _ _ _ _ _ _ _ _ _ _ _ _ _ _ _ _ _ _ _ _ _ _ _ _ _ _ _ _ rfl _ rfl _ (by assumption)
end Go.Proofs.Ytbjfigegiffefaa
