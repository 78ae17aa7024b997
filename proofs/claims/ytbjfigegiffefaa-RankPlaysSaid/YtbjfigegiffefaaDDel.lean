/- Delete. -/
import Derived.Test.YtbjfigegiffefaaDSet
import Derived.Test.YtbjfigegiffefaaDCut
set_option linter.unusedVariables false
set_option linter.unusedSimpArgs false

namespace Go.Proofs.Ytbjfigegiffefaa
open Go.RowKit Pantry

def DelPost (d : Nat) (D0 : Dc) (key : List UInt8) (w : World) (r : Ending) (w' : World) : Prop :=
  ((∃ e ∈ D0.ents, e.key = key) ∧ r = .returned (.bool true) ∧ DOp d D0 (D0.kv.filter fun p => !(p.1 == key)) w w') ∨
  ((∀ e ∈ D0.ents, e.key ≠ key) ∧ r = .returned (.bool false) ∧ DOp d D0 D0.kv w w')
set_option maxHeartbeats 8000000 in
set_option maxRecDepth 100000 in
theorem del_tail (w W : World) (d : Nat) (D0 D : Dc) (l : List (List UInt8 × Value)) (h : SG w d D0 l W D) (hw : D.Wf) (hT : D.T ≠ []) (hf : D.ents.length ≤ 268435456)
    (R : Ending → World → Prop) (hR : Hid (∀ w', DOp d D0 l w w' → R (.returned (.bool true)) w')) (u1 u2 u3 u4 u5 u6 u7 u8 u9 u10 u11 u12 u13 u14 u15 u16 u17 u18 u19 u20 u21 u22 u23 u24 u25 u26 u27 u28 u29 u30 u31 u32 u33 u34 u35 u36 u37 u38 u39 u40 u41 u42 u43 u44 u45 u46 u47 u48 u49 u50 u51 u52 u53 u54 u55 u56 u57 u58 u59 u60 u61 u62 u63 u64 u65 u66 u67 : Value) :
    ∀ c, cfst (cfst (cskip 7 (cbody Try.f55))) = c → ∀ ci, csnd (cfst (cskip 7 (cbody Try.f55))) = ci → ∀ cA, cskip 8 (cbody Try.f55) = cA →
    ∀ K0 : Act → World → Prop, (∀ a v, Code.wp Try.prog cA (bodyPost Try.prog Try.f55 R) a v → K0 a v) →
    ∀ K1 : Act → World → Prop, (∀ a v, Code.wp Try.prog ci (Exit.then K0 (bodyPost Try.prog Try.f55 R)) a v → K1 a v) →
      Code.wp Try.prog c (Exit.then K1 (Exit.then K0 (bodyPost Try.prog Try.f55 R))) { tmps := #[.pointer (some ⟨d, 0, none⟩), u1, u2, u3, u4, u5, u6, u7, u8, u9, u10, u11, u12, u13, u14, u15, u16, u17, u18, u19, u20, u21, u22, u23, u24, u25, u26, u27, u28, u29, u30, u31, u32, u33, u34, u35, u36, u37, u38, u39, u40, u41, u42, u43, u44, u45, u46, u47, u48, u49, u50, u51, u52, u53, u54, u55, u56, u57, u58, u59, u60, u61, u62, u63, u64, u65, u66, u67], defers := [] } W := by
  obtain ⟨⟨d0, d1, d2, d3, d4⟩, df⟩ := five h.at_.head
  have df2 := df 2
  have HSG := Lib.hid h
  have HD := Lib.hid hw
  have HEND : Hid (∀ q, R (.returned (.bool true)) (W.drewN q)) := Lib.hid fun q => hR.out _ ((h.drewN q).op hw)
  have hnt := h.at_.old.few
  rw [tabV_some hT] at d1
  obtain ⟨nt, hnt2⟩ : ∃ n, D.T.length = n := ⟨_, rfl⟩
  obtain ⟨n, hn⟩ : ∃ n, D.ents.length = n := ⟨_, rfl⟩
  rw [hnt2] at d1 hnt
  rw [hn] at d4 hf
  have hdl := block_lt h.at_.head
  have HHD := Lib.hid h.at_.head
  intro c hc ci hci cA hcA K0 hK0 K1 hK1
  conv at hc => lhs; whnf
  conv at hci => lhs; whnf
  conv at hcA => lhs; whnf
  subst hc hci hcA
  dsimp only
  by_cases hY : D.Y = []
  · have HY := Lib.hid hY
    rw [hY, tabV_nil] at d2
    have HMV : ∀ q, Hid (Calls Try.prog 62 #[.pointer (some ⟨d, 0, none⟩)] (W.drewN q) fun e w' => e = .returned (.bool false) ∧ w' = W.drewN q) := fun q => Lib.hid ((moving_no (W.drewN q) d d2).mono fun _ _ h => ⟨h.1, h.2.symm⟩)
    clear h hw hY d0 d3 df hnt2 hn
    by_cases h4 : 4 < nt
    · have hp4 : decide (4 < nt) = true := by simpa using h4
      have hp4' : decide ((4 : Int) < (nt : Int)) = true := by simp; omega
      by_cases h8 : 8 * n ≤ nt
      · have hp8 : decide (8 * n ≤ nt) = true := by simpa using h8
        have hp8' : decide (8 * (n : Int) ≤ (nt : Int)) = true := by simp; omega
        go_quiet (first | (go_at_call 62; refine Calls.quiet_of_same (HMV _).out))
        go_wp2_with fail
        clear d1 hp4 hp4' hp8 hp8'
        go_loopw [6] (fun s wr => ∃ m : Nat, s = .int .i64 m ∧ Hid (∃ k, m = 2 ^ k) ∧ m ≤ 1073741824 ∧ wr = W.drewN nq) (fun s _ => n - (intOf s).toNat)
        case atStart => exact ⟨4, rfl, Lib.hid ⟨2, rfl⟩, by omega, rfl⟩
        case round =>
          obtain ⟨m, rfl, HM, hm, rfl⟩ := hrel
          have hm0 : 0 < m := by obtain ⟨k, rfl⟩ := HM.out; exact Nat.two_pow_pos k
          by_cases hlt : m < n
          · go_wp2_with fail
            go_roundw
            case rel => exact ⟨m * 2, by go_num, Lib.hid (by obtain ⟨k, rfl⟩ := HM.out; exact ⟨k + 1, by rw [Nat.pow_succ]⟩), by omega, by first | rfl | trivial⟩
            case measure => simp [intOf]; omega
          · obtain ⟨k, hk⟩ := HM.out
            have HSF := Lib.hid ((HSG.out.drewN nq).second HD.out hT HY.out hk (by omega))
            have HWF := Lib.hid (HD.out.second hT HY.out W.heap.size m)
            obtain ⟨W2, hW2⟩ : ∃ W2, (W.drewN nq).alloc (.cells (List.replicate m (Value.pointer none)).toArray 95) = W2 := ⟨_, rfl⟩
            rw [hW2, show (W.drewN nq).heap.size = W.heap.size from rfl] at HSF
            have hh2 : W2.heap[d]? = W.heap[d]? := by rw [← hW2]; exact heap_alloc_old (w := W.drewN nq) hdl
            have e1 : W2.cell? ⟨d, 2, none⟩ = some (.slice none 0 0) := (World.cell?_of_block (w := W) hh2).trans d2
            have e1f : W2.frozen? ⟨d, 2, none⟩ = false := frozen_of_row _ d 2 _ _ (hh2.trans HHD.out)
            clear hh2 hk d2 df2
            go_wp2_with (at_make; refine wpl_make_tab rfl _ _ rfl m (by omega) rfl rfl ?_; rw [hW2])
            exact hR.out _ (HSF.out.op HWF.out.1)
      · have hp8 : decide (8 * n ≤ nt) = false := by simpa using h8
        have hp8' : decide (8 * (n : Int) ≤ (nt : Int)) = false := by simp; omega
        go_quiet (first | (go_at_call 62; refine Calls.quiet_of_same (HMV _).out))
        go_wp2_with fail
        exact HEND.out nq
    · have hp4 : decide (4 < nt) = false := by simpa using h4
      have hp4' : decide ((4 : Int) < (nt : Int)) = false := by simp; omega
      go_quiet (first | (go_at_call 62; refine Calls.quiet_of_same (HMV _).out))
      go_wp2_with fail
      exact HEND.out nq
  · rw [tabV_some hY] at d2
    have HMV : ∀ q, Hid (Calls Try.prog 62 #[.pointer (some ⟨d, 0, none⟩)] (W.drewN q) fun e w' => e = .returned (.bool true) ∧ w' = W.drewN q) := fun q => Lib.hid ((moving_yes (W.drewN q) d _ _ (List.length_pos_iff.2 hY) d2).mono fun _ _ h => ⟨h.1, h.2.symm⟩)
    clear h hw hY d0 d3 df hnt2 hn
    go_quiet (first | (go_at_call 62; refine Calls.quiet_of_same (HMV _).out))
    go_wp2_with fail
    exact HEND.out nq
set_option maxHeartbeats 8000000 in
set_option maxRecDepth 100000 in
theorem del_any (w : World) (d : Nat) (D0 : Dc) (key : List UInt8) (h : DictAt w d D0) (hw : D0.Wf) (ht : key.length ≤ 140737488351232) (hf : D0.ents.length ≤ 268435456) :
    Calls Try.prog 55 #[.pointer (some ⟨d, 0, none⟩), .string ⟨key.toArray⟩] w (DelPost d D0 key w) := by
  have HS := Lib.hid (step_any w d D0 h hw)
  clear h hw
  go_enter Try.func55, Try.ntmps55
  go_wp2_with (go_at_call 58; refine HS.out.mono ?_; rintro r w1 ⟨rfl, D, hD, hI⟩
               have HD := Lib.hid hD
               have HI := Lib.hid hI
               clear hD hI HS)
  have HF := Lib.hid (find_any w1 d D key HI.out.at_ HD.out ht)
  obtain ⟨f, hf2⟩ : ∃ v, findT D.seed D.bo D.T D.bn D.Y key = v := ⟨_, rfl⟩
  rw [hf2] at HF
  cases f with
  | none =>
    have hmiss := find_missed HD.out hf2
    have HP : Hid (DelPost d D0 key w (.returned (.bool false)) w1) := Lib.hid (.inr ⟨fun e he => hmiss e (HI.out.perm.mem_iff.2 he), rfl, HI.out.sg.op HD.out⟩)
    clear hf2 hmiss
    go_wp2_with (go_at_call 59; refine HF.out.mono ?_; rintro r w2 ⟨rfl, rfl⟩)
    go_ret
    exact HP.out
  | some a =>
    obtain ⟨e, he, hk, hc, hfound⟩ := find_found HI.out.at_ hf2
    have hnext : ∃ c pre post, (FoundIn D.seed D.bo D.T key a c pre e post ∨ FoundIn D.seed D.bn D.Y key a c pre e post) ∧ w1.heap[e.b]? = some (.cells #[.string ⟨e.key.toArray⟩, e.val, ptrOf post] 97) := by
      rcases hfound with ⟨c, pre, post, hh⟩ | ⟨c, pre, post, hh⟩
      · have hch := HI.out.at_.chT c (List.mem_of_getElem? hh.bucket)
        rw [hh.parts] at hch
        have := hch.drop pre.length
        rw [List.drop_left] at this
        exact ⟨c, pre, post, .inl hh, this.1⟩
      · have hch := HI.out.at_.chY c (List.mem_of_getElem? hh.bucket)
        rw [hh.parts] at hch
        have := hch.drop pre.length
        rw [List.drop_left] at this
        exact ⟨c, pre, post, .inr hh, this.1⟩
    obtain ⟨c, pre, post, hfd, hrow⟩ := hnext
    obtain ⟨D', hw', hlen, ⟨hT', -, -⟩, -, ⟨g, j, rfl, hfz, hgd⟩, hsg⟩ := HI.out.cut HD.out hfd
    obtain ⟨⟨-, -, c2⟩, -⟩ := three hrow
    obtain ⟨⟨-, -, -, -, d4⟩, df⟩ := five HI.out.at_.head
    unfold ptrOf at c2 hsg
    obtain ⟨q, hq⟩ : ∃ q, ptrA post = q := ⟨_, rfl⟩
    rw [hq] at c2 hsg
    obtain ⟨n, hn⟩ : ∃ n, D'.ents.length = n := ⟨_, rfl⟩
    rw [← hlen, hn] at d4
    rw [hn] at hsg
    have hn3 : n ≤ 268435456 := by have := HI.out.perm.length_eq; omega
    have e4 : ∀ v, (w1.setCell ⟨g, j, none⟩ v).cell? ⟨d, 4, none⟩ = some (.int .i64 ((n : Int) + 1)) := fun v => by
      have hh := (heapSetOther (w := w1) (p := ⟨g, j, none⟩) (v := v) hgd.symm).trans HI.out.at_.head
      rw [cell_of_row _ d 4 _ _ _ hh]
      show some (Value.int .i64 (D.ents.length : Nat)) = _
      rw [← hlen, hn]
      rfl
    have e4f : ∀ v, (w1.setCell ⟨g, j, none⟩ v).frozen? ⟨d, 4, none⟩ = false := fun v => frozen_of_row _ d 4 _ _ ((heapSetOther (w := w1) (p := ⟨g, j, none⟩) (v := v) hgd.symm).trans HI.out.at_.head)
    have HSG := Lib.hid hsg
    have HFN := Lib.hid (show D'.Wf ∧ D'.T ≠ [] ∧ D'.ents.length ≤ 268435456 ∧ ∃ e ∈ D0.ents, e.key = key from ⟨hw', hT', by omega, e, HI.out.perm.mem_iff.1 he, hk⟩)
    clear hf2 he hk hfound hfd hrow hw' hlen hT' hgd hsg hq hn d4 df
    go_wp2_with (go_at_call 59; refine HF.out.mono ?_; rintro r w2 ⟨rfl, rfl⟩)
    obtain ⟨f1, f2, f3, f4⟩ := HFN.out
    exact del_tail w _ d D0 D' _ HSG.out f1 f2 f3 (DelPost d D0 key w) (Lib.hid fun w' hh => .inl ⟨f4, rfl, hh⟩) _ _ _ _ _ _ _ _ _ _ _ _ _ _ _ _ _ _ _ _ _ _ _ _ _ _ _ _ _ _ _ _ _ _ _ _ _ _ _ _ _ _ _ _ _ _ _ _ _ _ _ _ _ _ _ _ _ _ _ _ _ _ _ _ _ _ _ _ rfl _ rfl _ rfl _ (by assumption) _ (by assumption)
end Go.Proofs.Ytbjfigegiffefaa
