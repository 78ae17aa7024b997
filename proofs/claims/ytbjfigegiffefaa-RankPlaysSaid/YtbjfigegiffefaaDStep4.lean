/- A step of moving. -/
import Derived.Test.YtbjfigegiffefaaDStep3
set_option linter.unusedVariables false
set_option linter.unusedSimpArgs false

namespace Go.Proofs.Ytbjfigegiffefaa
open Go.RowKit Pantry

theorem step_none (w : World) (d : Nat) (D : Dc) (h : DictAt w d D) (hw : D.Wf) (hY : D.Y = []) : Calls Try.prog 58 #[.pointer (some ⟨d, 0, none⟩)] w (StepPost d D w) := by
  obtain ⟨⟨d0, d1, d2, d3, d4⟩, df⟩ := five h.head
  rw [hY, tabV_nil] at d2
  have HM := Lib.hid (moving_no w d d2)
  have HP := Lib.hid (show StepPost d D w (.returned (.tuple #[])) w from ⟨rfl, D, hw, rfl, List.Perm.refl _, h, Chg.refl _ _, fun _ h => h⟩)
  clear h hw hY d0 d1 d2 d3 d4 df
  go_enter Try.func58, Try.ntmps58
  go_wp2_with (go_at_call 62; refine HM.out.mono ?_; rintro e w1 ⟨rfl, rfl⟩)
  (try simp only [Exit.inBlock, Exit.then]); refine bodyPost_ret (results_none rfl _ _ _) rfl ?_
  exact HP.out

set_option maxHeartbeats 8000000 in
set_option maxRecDepth 100000 in
theorem step_some (w : World) (d : Nat) (D0 : Dc) (h : DictAt w d D0) (hw : D0.Wf) (hY : D0.Y ≠ []) : Calls Try.prog 58 #[.pointer (some ⟨d, 0, none⟩)] w (StepPost d D0 w) := by
  obtain ⟨⟨d0, d1, d2, d3, d4⟩, df⟩ := five h.head
  rw [tabV_some hY] at d2
  have HMV := Lib.hid (moving_yes w d _ _ (List.length_pos_iff.2 hY) d2)
  have HI0 := Lib.hid (show SI w d D0 w D0 from ⟨rfl, List.Perm.refl _, h, Chg.refl _ _, fun _ h => h⟩)
  have HM0 := Lib.hid (hw.mid hY)
  have hT0 : D0.T ≠ [] := by intro h0; have := hw.moves hY; rw [h0] at this; cases this
  have HT0 := Lib.hid hT0
  have HYY := Lib.hid hY
  have hf := h.old.few
  obtain ⟨nt, hnt⟩ : ∃ b, D0.T.length = b := ⟨_, rfl⟩
  rw [hnt] at hf
  have HNT := Lib.hid hnt
  obtain ⟨bo, hbo⟩ : ∃ b, D0.bo = b := ⟨_, rfl⟩
  have HBO := Lib.hid hbo
  clear h hw hY d0 d1 d2 d3 d4 df hT0 hnt hbo
  go_enter Try.func58, Try.ntmps58
  go_wp2_with (go_at_call 62; refine HMV.out.mono ?_; rintro e w1 ⟨rfl, rfl⟩)
  go_loopw [2] (fun s wr => ∃ k a : Nat, k ≤ 10 ∧ s = .int .i64 k ∧ a ≤ nt ∧ Hid (SI w d D0 wr (D0.withPos a)) ∧ Hid (D0.withPos a).Mid) (fun s _ => 10 - (intOf s).toNat)
  case atStart => exact ⟨0, D0.pos, by omega, rfl, by rw [← HNT.out]; exact HM0.out.le, HI0, HM0⟩
  case round =>
    obtain ⟨k, a, hk, rfl, han, HI, HM⟩ := hrel
    obtain ⟨⟨d0, d1, d2, d3, d4⟩, df⟩ := five HI.out.at_.head
    have d1' : wr.cell? ⟨d, 1, none⟩ = some (.slice (some ⟨bo, 0, none⟩) nt nt) := by rw [d1, ← HBO.out, ← HNT.out]; rw [show (D0.withPos a).T = D0.T from rfl, tabV_some HT0.out]; rfl
    have d3' : wr.cell? ⟨d, 3, none⟩ = some (.int .i64 a) := d3
    have df3 := df 3
    clear d0 d1 d2 d3 d4 df
    by_cases hk10 : k < 10
    · have hk10' : decide ((k : Int) < 10) = true := by simp; omega
      by_cases hp : a < nt
      · have hpi : decide ((a : Int) < (nt : Int)) = true := by simpa using hp
        obtain ⟨c0, hc0⟩ : ∃ c, D0.T[a]? = some c := ⟨_, List.getElem?_eq_getElem (by rw [HNT.out]; exact hp)⟩
        have hcell := HI.out.at_.old.cell (i := a) (c := c0) hc0
        rw [show (D0.withPos a).bo = bo from HBO.out] at hcell
        have HC0 := Lib.hid hc0
        clear hc0
        cases c0 with
        | nil =>
          simp only [ptrOf, ptrA] at hcell
          go_wp2_with fail
          go_quiet (fail)
          go_wp2_with fail
          go_roundw
          case rel => exact ⟨k + 1, a + 1, by omega, by go_num, by omega, Lib.hid ((HI.out.drewN _).setPos (a + 1)), Lib.hid (HM.out.passed HC0.out)⟩
          case measure => simp [intOf]; omega
        | cons e c1 =>
          simp only [ptrOf, ptrA] at hcell
          go_wp2_with fail
          go_quiet (fail)
          go_wp2_with fail
          exact step_mid w _ d D0 _ (HI.out.drewN _) HM.out _ _ _ _ _ _ _ _ _ _ _ _ _ _ _ _ _ _ _ _ _ _ _ _ _ _ _ _ _ _ _ _ _ _ _ _ _ _ _ _ _ _ _ _ _ _ _ _ _ _ _ _ _ _ _ _ _ _ _ _ _ _ _ _ _ _ _ _ _ _ _ _ _ _ _ _ _ _ _ _ _ _ _ _ _ _ _ _ _ _ _ _ _ _ _ _ _ _ _ _ _ _ _ _ _ _ _ _ _ _ _ _ _ _ _ _ _ _ _ _ _ _ _ _ _ _ _ _ _ _ rfl _ rfl _ rfl _ (by assumption) _ (by assumption)
      · have hpi : decide ((a : Int) < (nt : Int)) = false := by simpa using hp
        go_wp2_with fail
        go_quiet (fail)
        go_wp2_with fail
        exact step_mid w _ d D0 _ (HI.out.drewN _) HM.out _ _ _ _ _ _ _ _ _ _ _ _ _ _ _ _ _ _ _ _ _ _ _ _ _ _ _ _ _ _ _ _ _ _ _ _ _ _ _ _ _ _ _ _ _ _ _ _ _ _ _ _ _ _ _ _ _ _ _ _ _ _ _ _ _ _ _ _ _ _ _ _ _ _ _ _ _ _ _ _ _ _ _ _ _ _ _ _ _ _ _ _ _ _ _ _ _ _ _ _ _ _ _ _ _ _ _ _ _ _ _ _ _ _ _ _ _ _ _ _ _ _ _ _ _ _ _ _ _ _ rfl _ rfl _ rfl _ (by assumption) _ (by assumption)
    · have hk10' : decide ((k : Int) < 10) = false := by simp; omega
      go_wp2_with fail
      go_quiet (fail)
      go_wp2_with fail
      exact step_mid w _ d D0 _ (HI.out.drewN _) HM.out _ _ _ _ _ _ _ _ _ _ _ _ _ _ _ _ _ _ _ _ _ _ _ _ _ _ _ _ _ _ _ _ _ _ _ _ _ _ _ _ _ _ _ _ _ _ _ _ _ _ _ _ _ _ _ _ _ _ _ _ _ _ _ _ _ _ _ _ _ _ _ _ _ _ _ _ _ _ _ _ _ _ _ _ _ _ _ _ _ _ _ _ _ _ _ _ _ _ _ _ _ _ _ _ _ _ _ _ _ _ _ _ _ _ _ _ _ _ _ _ _ _ _ _ _ _ _ _ _ _ rfl _ rfl _ rfl _ (by assumption) _ (by assumption)
theorem step_any (w : World) (d : Nat) (D : Dc) (h : DictAt w d D) (hw : D.Wf) : Calls Try.prog 58 #[.pointer (some ⟨d, 0, none⟩)] w (StepPost d D w) := by
  by_cases hY : D.Y = []
  · exact step_none w d D h hw hY
  · exact step_some w d D h hw hY
end Go.Proofs.Ytbjfigegiffefaa
