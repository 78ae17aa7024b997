/- Set. -/
import Derived.Test.YtbjfigegiffefaaDGrow2
import Derived.Deep.Cut
import Derived.Deep.RegionHeld
set_option linter.unusedVariables false
set_option linter.unusedSimpArgs false

namespace Pantry
open Go
theorem madeCells_one (z : Value) (n : Nat) : madeCells #[z] n = (List.replicate n z).toArray := by
  apply Array.ext
  · simp [size_madeCells]
  · intro i h1 h2
    simp [madeCells, Nat.mod_one]
end Pantry
namespace Go.Proofs.Ytbjfigegiffefaa
open Go.RowKit Pantry

theorem tabInfo : (Try.prog.info? 95).map (fun i => (i.zero, i.size, i.bytes)) = some (some (.pointer none), 1, 8) := by kernel_rfl
theorem run_make_tab (w : World) (n : Nat) (hn : n ≤ 1099511627776) :
    (Instr.makeSlice 99 (.int .i64 n) (.int .i64 n)).run Try.prog w = .ok (.slice (some ⟨w.heap.size, 0, none⟩) n n) (w.alloc (.cells (List.replicate n (Value.pointer none)).toArray 95)) := by
  have hi := tabInfo
  cases hq : Try.prog.info? 95 with
  | none => rw [hq] at hi; cases hi
  | some i =>
    rw [hq] at hi
    simp only [Option.map_some, Option.some.injEq, Prod.mk.injEq] at hi
    obtain ⟨h1, h2, h3⟩ := hi
    have hr := run_make (P := Try.prog) w 99 95 i (.pointer none) Try.underlying99 hq h1 .i64 .i64 n n (by omega) (Int.le_refl _) (by rw [h3]; omega) (by omega)
    rw [h2, Int.toNat_natCast, Nat.mul_one] at hr
    rw [hr, show (Value.pointer none).cells = #[Value.pointer none] from rfl, madeCells_one]

set_option maxHeartbeats 4000000 in
set_option maxRecDepth 100000 in
theorem set_tail (w W : World) (d : Nat) (D0 D : Dc) (key : List UInt8) (x : Nat) (h : SG w d D0 D0.kv W D) (hw : D.Wf) (hT : D.T ≠ []) (hk : ∀ e ∈ D.ents, e.key ≠ key) (ht : key.length ≤ 140737488351232) (hf : D.ents.length < 1099511627776)
    (R : Ending → World → Prop) (hR : ∀ w', DOp d D0 ((key, .float .f64 x) :: D0.kv) w w' → R (.returned (.bool true)) w') (u3 u4 u5 u6 u7 u8 u9 u10 u11 u12 u13 u14 u15 u16 u17 u18 u19 u20 u21 u22 u23 u24 u25 u26 u27 u28 u29 u30 u31 u32 u33 u34 u35 u36 u37 u38 u39 u40 u41 u42 u43 u44 u45 u46 u47 u48 u49 u50 u51 u52 u53 u54 u55 u56 u57 u58 u59 u60 u61 u62 u63 u64 u65 u66 u67 u68 u69 u70 u71 u72 u73 u74 u75 u76 u77 u78 u79 u80 u81 u82 u83 u84 : Value) :
    ∀ c, cfst (cskip 5 (cbody Try.f40)) = c → ∀ cr, csnd (cskip 5 (cbody Try.f40)) = cr → ∀ K : Act → World → Prop, (∀ a v, Code.wp Try.prog cr (bodyPost Try.prog Try.f40 R) a v → K a v) →
      Code.wp Try.prog c (Exit.then K (bodyPost Try.prog Try.f40 R)) { tmps := #[.pointer (some ⟨d, 0, none⟩), .string ⟨key.toArray⟩, .float .f64 x, u3, u4, u5, u6, u7, u8, u9, u10, u11, u12, u13, u14, u15, u16, u17, u18, u19, u20, u21, u22, u23, u24, u25, u26, u27, u28, u29, u30, u31, u32, u33, u34, u35, u36, u37, u38, u39, u40, u41, u42, u43, u44, u45, u46, u47, u48, u49, u50, u51, u52, u53, u54, u55, u56, u57, u58, u59, u60, u61, u62, u63, u64, u65, u66, u67, u68, u69, u70, u71, u72, u73, u74, u75, u76, u77, u78, u79, u80, u81, u82, u83, u84], defers := [] } W := by
  obtain ⟨⟨d0, d1, d2, d3, d4⟩, df⟩ := five h.at_.head
  have HH := Lib.hid h
  have HW := Lib.hid hw
  have HT := Lib.hid hT
  obtain ⟨W1, hW1⟩ : ∃ W1, W.alloc (.cells #[.string ⟨key.toArray⟩, .float .f64 x, .pointer none] 97) = W1 := ⟨_, rfl⟩
  have halloc : ∀ k, k < W.heap.size → W1.heap[k]? = W.heap[k]? := fun k hk => by rw [← hW1]; exact heap_alloc_old hk
  have hA1 : DictAt W1 d D := h.at_.keep fun k hk => halloc k (h.at_.lt k hk)
  have hE : W1.heap[W.heap.size]? = some (.cells #[.string ⟨key.toArray⟩, .float .f64 x, .pointer none] 97) := by rw [← hW1]; exact heap_alloc_new W _
  have hnot : ∀ e ∈ D.ents, e.b ≠ W.heap.size := fun e he hh => by
    obtain ⟨q, hq⟩ := h.at_.ent he
    have := block_lt hq
    omega
  have htab : TabAt W1 (Dc.tb D) (Dc.tt D) ∧ Dc.tt D ≠ [] ∧ (∀ c ∈ Dc.tt D, ChainAt W1 c) ∧ (∀ c ∈ Dc.tt D, ∀ e ∈ c, e ∈ D.ents) ∧ Dc.tb D ≠ d := by
    by_cases hY : D.Y = []
    · rw [show Dc.tb D = D.bo from if_pos hY, show Dc.tt D = D.T from if_pos hY]
      exact ⟨hA1.old, hT, hA1.chT, fun c hc e he => List.mem_append.2 (.inl (List.mem_flatten.2 ⟨c, hc, he⟩)), h.at_.ne_old hT⟩
    · rw [show Dc.tb D = D.bn from if_neg hY, show Dc.tt D = D.Y from if_neg hY]
      exact ⟨hA1.young, hY, hA1.chY, fun c hc e he => List.mem_append.2 (.inr (List.mem_flatten.2 ⟨c, hc, he⟩)), h.at_.ne_young hY⟩
  obtain ⟨t1, t2, t3, t4, t5⟩ := htab
  have HG := hang_any W1 d (Dc.tb D) D.seed (Dc.tt D) ⟨W.heap.size, key, .float .f64 x⟩ (.pointer none) (five hA1.head).1.1 hw.seed t1 t2 t3 hE (fun c hc e he => hnot e (t4 c hc e he)) ht
  rw [tabV_some t2] at HG
  have HG := Lib.hid HG
  have HHD := Lib.hid h.at_.head
  have HT5 := Lib.hid t5
  have HFIN : Hid (∀ r W2, HangPost D.seed (Dc.tb D) (Dc.tt D) ⟨W.heap.size, key, .float .f64 x⟩ W1 r W2 → DOp d D0 ((key, .float .f64 x) :: D0.kv) w (W2.setCell ⟨d, 4, none⟩ (.int .i64 ((D.ents.length : Int) + 1)))) := Lib.hid (by
    intro r W2 hp
    rw [← hW1] at hp
    exact h.hung hw hT rfl hk ht hf hp)
  have HN : Hid (∀ r W2, HangPost D.seed (Dc.tb D) (Dc.tt D) ⟨W.heap.size, key, .float .f64 x⟩ W1 r W2 → W2.cell? ⟨d, 4, none⟩ = some (.int .i64 (D.ents.length : Nat)) ∧ W2.frozen? ⟨d, 4, none⟩ = false) := Lib.hid (by
    intro r W2 hp
    have hdl := block_lt h.at_.head
    have hh := hp.chg.heap ((halloc d hdl).trans h.at_.head) (by
      rintro (hh | hh)
      · exact t5 hh.symm
      · have : d = W.heap.size := hh
        omega)
    obtain ⟨⟨-, -, -, -, q⟩, qf⟩ := five hh
    exact ⟨q, qf 4⟩)
  obtain ⟨n, hn⟩ : ∃ n, D.ents.length = n := ⟨_, rfl⟩
  rw [hn] at HFIN HN hf
  clear t1 t2 t3 t4 t5 hA1 hE hnot halloc hk hn d0 d3 d4 df hw h
  intro c hc cr hcr K hK
  conv at hc => lhs; whnf
  conv at hcr => lhs; whnf
  subst hc hcr
  dsimp only
  by_cases hY : D.Y = []
  · rw [show Dc.tb D = D.bo from if_pos hY, show Dc.tt D = D.T from if_pos hY] at HG HN HFIN
    rw [tabV_some hT] at d1
    rw [hY, tabV_nil] at d2
    have HMV := Lib.hid (moving_no W d d2)
    clear d2 hY hT
    go_wp2_with (first
      | (go_at_call 62; refine HMV.out.mono ?_; rintro r w1 ⟨rfl, rfl⟩)
      | (go_at_call 63; refine HG.out.mono ?_; rintro r W2 hp; obtain rfl := hp.res
         obtain ⟨n1, n2⟩ := HN.out _ _ hp
         have HP := Lib.hid hp
         clear hp HG))
    exact HFIN.out _ _ HP.out
  · rw [show Dc.tb D = D.bn from if_neg hY, show Dc.tt D = D.Y from if_neg hY] at HG HN HFIN
    rw [tabV_some hT] at d1
    rw [tabV_some hY] at d2
    have HMV := Lib.hid (moving_yes W d _ _ (List.length_pos_iff.2 hY) d2)
    clear hY hT
    go_wp2_with (first
      | (go_at_call 62; refine HMV.out.mono ?_; rintro r w1 ⟨rfl, rfl⟩)
      | (go_at_call 63; refine HG.out.mono ?_; rintro r W2 hp; obtain rfl := hp.res
         obtain ⟨n1, n2⟩ := HN.out _ _ hp
         have HP := Lib.hid hp
         clear hp HG))
    exact HFIN.out _ _ HP.out

def SetPost (d : Nat) (D0 : Dc) (key : List UInt8) (x : Nat) (w : World) (r : Ending) (w' : World) : Prop :=
  ((∃ e ∈ D0.ents, e.key = key) ∧ r = .returned (.bool false) ∧ DOp d D0 (D0.kv.map fun p => if p.1 = key then (p.1, .float .f64 x) else p) w w') ∨
  ((∀ e ∈ D0.ents, e.key ≠ key) ∧ r = .returned (.bool true) ∧ DOp d D0 ((key, .float .f64 x) :: D0.kv) w w')
theorem wpl_make_tab {w : World} {ops : Array Oper} {rest : List Oper} {o : Oper} {a : Act} {Q : Exit → Act → World → Prop} (hgd : o.guard = none) (l c : Operand) (hop : o.op = .makeSlice 99 l c)
    (n : Nat) (hn : n ≤ 1099511627776) (hl : a.eval l = .int .i64 n) (hc : a.eval c = .int .i64 n) (h : wpList Try.prog ops Q rest (a.put o.dst (.slice (some ⟨w.heap.size, 0, none⟩) n n)) (w.alloc (.cells (List.replicate n (Value.pointer none)).toArray 95))) :
    wpList Try.prog ops Q (o :: rest) a w :=
  wpList_plain hgd fun _ hK => by
    unfold Oper.wp execOp
    simp only [hop, hl, hc, Sem.run_bind, run_make_tab w n hn, Result.andThen_ok, Sem.run_pure]
    exact hK _ _ h
set_option maxHeartbeats 8000000 in
set_option maxRecDepth 100000 in
theorem set_any (w : World) (d : Nat) (D0 : Dc) (key : List UInt8) (x : Nat) (h : DictAt w d D0) (hw : D0.Wf) (ht : key.length ≤ 140737488351232) (hf : D0.ents.length ≤ 268435456) :
    Calls Try.prog 40 #[.pointer (some ⟨d, 0, none⟩), .string ⟨key.toArray⟩, .float .f64 x] w (SetPost d D0 key x w) := by
  have HS := Lib.hid (step_any w d D0 h hw)
  clear h hw
  go_enter Try.func40, Try.ntmps40
  go_wp2_with (go_at_call 58; refine HS.out.mono ?_; rintro r w1 ⟨rfl, D, hD, hI⟩
               have HD := Lib.hid hD
               have HI := Lib.hid hI
               clear hD hI HS)
  have HF := Lib.hid (find_any w1 d D key HI.out.at_ HD.out ht)
  obtain ⟨f, hf2⟩ : ∃ v, findT D.seed D.bo D.T D.bn D.Y key = v := ⟨_, rfl⟩
  rw [hf2] at HF
  cases f with
  | some a =>
    obtain ⟨e, he, hk, hc, -⟩ := find_found HI.out.at_ hf2
    obtain ⟨q, hq⟩ := HI.out.at_.ent he
    obtain ⟨⟨c0, c1, c2⟩, cf⟩ := three hq
    have cf1 := cf 1
    have HP : Hid (SetPost d D0 key x w (.returned (.bool false)) (w1.setCell ⟨e.b, 1, none⟩ (.float .f64 x))) := Lib.hid (.inl ⟨⟨e, HI.out.perm.mem_iff.1 he, hk⟩, rfl, by
      have := DOp.reval HI.out HD.out he (.float .f64 x)
      rw [hk] at this
      exact this⟩)
    clear hf2 he hk hq c0 c2 cf
    go_wp2_with (go_at_call 59; refine HF.out.mono ?_; rintro r w2 ⟨rfl, rfl⟩)
    go_ret
    exact HP.out
  | none =>
    have hmiss := find_missed HD.out hf2
    have HM := Lib.hid (show (∀ e ∈ D.ents, e.key ≠ key) ∧ (∀ e ∈ D0.ents, e.key ≠ key) from ⟨hmiss, fun e he => hmiss e (HI.out.perm.mem_iff.2 he)⟩)
    have hlen : D.ents.length ≤ 268435456 := by rw [HI.out.perm.length_eq]; exact hf
    have HL := Lib.hid hlen
    have HSG := Lib.hid HI.out.sg
    obtain ⟨⟨d0, d1, d2, d3, d4⟩, df⟩ := five HI.out.at_.head
    have df1 := df 1
    have df2 := df 2
    have hdl := block_lt HI.out.at_.head
    clear hf2 hmiss hf df d0 d3
    by_cases hT : D.T = []
    · rw [hT, tabV_nil] at d1
      have HT := Lib.hid hT
      have HSF := Lib.hid (HSG.out.first HD.out hT (m := 4) (k := 2) rfl (by omega))
      have HWF := Lib.hid (HD.out.first hT w1.heap.size 4)
      clear d2 d4 hT df2 hlen
      obtain ⟨W2, hW2⟩ : ∃ W2, w1.alloc (.cells (List.replicate 4 (Value.pointer none)).toArray 95) = W2 := ⟨_, rfl⟩
      rw [hW2] at HSF
      have hh2 : W2.heap[d]? = w1.heap[d]? := by rw [← hW2]; exact heap_alloc_old hdl
      have e1 : W2.cell? ⟨d, 1, none⟩ = some (.slice none 0 0) := (World.cell?_of_block (w := w1) hh2).trans d1
      have e1f : W2.frozen? ⟨d, 1, none⟩ = false := frozen_of_row _ d 1 _ _ (hh2.trans HI.out.at_.head)
      clear hh2
      go_upto_region 12 with (first
        | (go_at_call 59; refine HF.out.mono ?_; rintro r w2 ⟨rfl, rfl⟩)
        | (at_make; refine wpl_make_tab rfl _ _ rfl 4 (by omega) rfl rfl ?_; rw [hW2]))
      exact set_tail w _ d D0 _ key x HSF.out HWF.out.1 (rep_ne (by omega)) (by rw [HWF.out.2.1]; exact HM.out.1) ht (by rw [HWF.out.2.1]; have := HL.out; omega) (SetPost d D0 key x w) (fun w' hh => .inr ⟨HM.out.2, rfl, hh⟩) _ _ _ _ _ _ _ _ _ _ _ _ _ _ _ _ _ _ _ _ _ _ _ _ _ _ _ _ _ _ _ _ _ _ _ _ _ _ _ _ _ _ _ _ _ _ _ _ _ _ _ _ _ _ _ _ _ _ _ _ _ _ _ _ _ _ _ _ _ _ _ _ _ _ _ _ _ _ _ _ _ _ _ rfl _ rfl _ (by assumption)
    · have HT := Lib.hid hT
      have HWD := HD
      obtain ⟨k, hk⟩ := HI.out.at_.old.two hT
      rw [tabV_some hT] at d1
      obtain ⟨nt, hnt⟩ : ∃ n, D.T.length = n := ⟨_, rfl⟩
      obtain ⟨n, hn⟩ : ∃ n, D.ents.length = n := ⟨_, rfl⟩
      rw [hnt] at d1 hk
      rw [hn] at d4 hlen
      obtain ⟨bo, hbo⟩ : ∃ b, D.bo = b := ⟨_, rfl⟩
      rw [hbo] at d1
      have hp0 : 0 < nt := by rw [hk]; exact Nat.two_pow_pos k
      have hnt0 : ((nt : Int) == 0) = false := by rw [beq_eq_false_iff_ne]; omega
      by_cases hY : D.Y = []
      · have HY := Lib.hid hY
        rw [hY, tabV_nil] at d2
        have HMV : ∀ q, Hid (Calls Try.prog 62 #[.pointer (some ⟨d, 0, none⟩)] (w1.drewN q) fun e w' => e = .returned (.bool false) ∧ w' = w1.drewN q) := fun q => Lib.hid ((moving_no (w1.drewN q) d d2).mono fun _ _ h => ⟨h.1, h.2.symm⟩)
        by_cases hg : nt ≤ n
        · have hpi : decide (nt ≤ n) = true := by simpa using hg
          have HWF := Lib.hid (HD.out.second hT hY w1.heap.size (2 * nt))
          have hnt2 : 2 * nt ≤ 1099511627776 := by omega
          have HSF := fun q => Lib.hid ((HSG.out.drewN q).second HD.out hT hY (m := 2 * nt) (k := k + 1) (by rw [hk, Nat.pow_succ, Nat.mul_comm]) hnt2)
          have HRN := Lib.hid (rep_ne (m := 2 * nt) (by omega))
          obtain ⟨W2, hW2⟩ : ∃ W2 : Nat → World, ∀ q, (w1.drewN q).alloc (.cells (List.replicate (2 * nt) (Value.pointer none)).toArray 95) = W2 q := ⟨_, fun _ => rfl⟩
          have hh2 : ∀ q, (W2 q).heap[d]? = w1.heap[d]? := fun q => by rw [← hW2]; exact heap_alloc_old (w := w1.drewN q) hdl
          have e1 : ∀ q, (W2 q).cell? ⟨d, 2, none⟩ = some (.slice none 0 0) := fun q => (World.cell?_of_block (w := w1) (hh2 q)).trans d2
          have e1f : ∀ q, (W2 q).frozen? ⟨d, 2, none⟩ = false := fun q => frozen_of_row _ d 2 _ _ ((hh2 q).trans HI.out.at_.head)
          clear hh2 hT hY hg hnt hn hbo hk hp0 df1 df2
          go_upto_region 12 with (first
            | (go_at_call 59; refine HF.out.mono ?_; clear HF; rintro r w2 ⟨rfl, rfl⟩)
            | (at_make; refine wpl_make_tab rfl _ _ rfl (2 * nt) hnt2 rfl rfl ?_; rw [hW2]))
          go_quiet (first | (go_at_call 62; refine Calls.quiet_of_same (HMV _).out))
          go_upto_region 12 with (first
            | (at_make; refine wpl_make_tab rfl _ _ rfl (2 * nt) hnt2 rfl rfl ?_; rw [hW2]))
          have HE := (HSF nq).out
          rw [hW2, show (w1.drewN nq).heap.size = w1.heap.size from rfl] at HE
          exact set_tail w _ d D0 _ key x HE HWF.out.1 HT.out (by rw [HWF.out.2]; exact HM.out.1) ht (by rw [HWF.out.2]; have := HL.out; omega) (SetPost d D0 key x w) (fun w' hh => .inr ⟨HM.out.2, rfl, hh⟩) _ _ _ _ _ _ _ _ _ _ _ _ _ _ _ _ _ _ _ _ _ _ _ _ _ _ _ _ _ _ _ _ _ _ _ _ _ _ _ _ _ _ _ _ _ _ _ _ _ _ _ _ _ _ _ _ _ _ _ _ _ _ _ _ _ _ _ _ _ _ _ _ _ _ _ _ _ _ _ _ _ _ _ rfl _ rfl _ (by assumption)
        · have hpi : decide (nt ≤ n) = false := by simpa using hg
          clear hT hY hg hnt hn hbo hk df1 df2
          go_upto_region 12 with (first
            | (go_at_call 59; refine HF.out.mono ?_; clear HF; rintro r w2 ⟨rfl, rfl⟩))
          go_quiet (first | (go_at_call 62; refine Calls.quiet_of_same (HMV _).out))
          go_upto_region 12 with fail
          exact set_tail w _ d D0 _ key x (HSG.out.drewN _) HD.out HT.out HM.out.1 ht (by have := HL.out; omega) (SetPost d D0 key x w) (fun w' hh => .inr ⟨HM.out.2, rfl, hh⟩) _ _ _ _ _ _ _ _ _ _ _ _ _ _ _ _ _ _ _ _ _ _ _ _ _ _ _ _ _ _ _ _ _ _ _ _ _ _ _ _ _ _ _ _ _ _ _ _ _ _ _ _ _ _ _ _ _ _ _ _ _ _ _ _ _ _ _ _ _ _ _ _ _ _ _ _ _ _ _ _ _ _ _ rfl _ rfl _ (by assumption)
      · rw [tabV_some hY] at d2
        have HMV : ∀ q, Hid (Calls Try.prog 62 #[.pointer (some ⟨d, 0, none⟩)] (w1.drewN q) fun e w' => e = .returned (.bool true) ∧ w' = w1.drewN q) := fun q => Lib.hid ((moving_yes (w1.drewN q) d _ _ (List.length_pos_iff.2 hY) d2).mono fun _ _ h => ⟨h.1, h.2.symm⟩)
        clear hT hY hnt hn hbo hk df1 df2
        go_upto_region 12 with (first
          | (go_at_call 59; refine HF.out.mono ?_; clear HF; rintro r w2 ⟨rfl, rfl⟩))
        go_quiet (first | (go_at_call 62; refine Calls.quiet_of_same (HMV _).out))
        go_upto_region 12 with fail
        exact set_tail w _ d D0 _ key x (HSG.out.drewN _) HD.out HT.out HM.out.1 ht (by have := HL.out; omega) (SetPost d D0 key x w) (fun w' hh => .inr ⟨HM.out.2, rfl, hh⟩) _ _ _ _ _ _ _ _ _ _ _ _ _ _ _ _ _ _ _ _ _ _ _ _ _ _ _ _ _ _ _ _ _ _ _ _ _ _ _ _ _ _ _ _ _ _ _ _ _ _ _ _ _ _ _ _ _ _ _ _ _ _ _ _ _ _ _ _ _ _ _ _ _ _ _ _ _ _ _ _ _ _ _ rfl _ rfl _ (by assumption)
end Go.Proofs.Ytbjfigegiffefaa
