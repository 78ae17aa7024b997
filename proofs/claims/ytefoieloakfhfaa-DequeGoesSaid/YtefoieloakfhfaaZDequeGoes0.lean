/- Going through a deque that is changed meanwhile, again, and left early. -/
import Derived.Test.YtefoieloakfhfaaZGoesT2
import Derived.Test.YtefoieloakfhfaaRows
import Derived.Sort.CutIn
set_option linter.unusedVariables false
set_option linter.unusedSimpArgs false
namespace Go.Proofs.Ytefoieloakfhfaa.dequeGoes
open Go Go.Proofs Go.Proofs.Ytefoieloakfhfaa Go.RowKit Go.ChangeShapes Go.WideShapes Go.ChangeAt Pantry
attribute [local go_sem] Oper.semAt_some

set_option maxHeartbeats 8000000 in
set_option maxRecDepth 100000 in
theorem walk (a1 : Option Addr) (n1 c1 : Nat) (l1 : List Op7) (a2 : Option Addr) (n2 c2 : Nat) (l2 : List Op7) (leave : Int) (w : World) (hl1 : OpsAt w a1 n1 l1) (hl2 : OpsAt w a2 n2 l2) :
    Calls Try.prog 8 #[.slice a1 n1 c1, .slice a2 n2 c2, .int .i64 leave] w (OkPost w) := by
  have HL := Lib.hid hl1
  have HL2 := Lib.hid hl2
  have hn := hl1.few
  clear hl1 hl2
  have HN := fun A => Lib.hid (Dq.new A)
  have HR := fun A => Lib.hid (rnew_any A)
  refine (callsIn_wide (n := 3)).1 ?_
  refine callsIn_of_wp_marks Try.func8 rfl trivial ?_ rfl
  simp only [Try.ntmps8, List.size_toArray, List.length_cons, List.length_nil, Nat.reduceAdd, Nat.reduceSub, Array.replicate_succ, Array.replicate_zero, List.push_toArray, List.append_toArray, List.nil_append, List.cons_append]
  gi_wp2_with fail
  obtain ⟨W0, hW0⟩ : ∃ W0, ((w.alloc (.cells #[.slice a2 n2 c2] 37)).alloc (.cells #[.int .i64 leave] 3)).alloc (.cells #[.bool false] 4) = W0 := ⟨_, rfl⟩
  rw [hW0]
  refine ⟨trivial, (callsIn_wide.2 (HN W0).out).mono ?_⟩
  rintro e W1 ⟨rfl, hd1, hc1⟩
  have HD1 := Lib.hid hd1
  have HC1 := Lib.hid hc1
  clear hd1 hc1
  have HB0 : Hid (Below w.heap.size w W0) := Lib.hid (by rw [← hW0]; exact (((Below.refl _ w).alloc (Nat.le_refl _) _).alloc (by simp) _).alloc (by simp; omega) _)
  have b4 : Boxed W0 w.heap.size 37 (.slice a2 n2 c2) := by rw [← hW0]; exact ((Boxed.new w _ _).alloc _).alloc _
  have b5 : Boxed W0 (w.heap.size + 1) 3 (.int .i64 leave) := by
    have := Boxed.new (w.alloc (.cells #[.slice a2 n2 c2] 37)) 3 (.int .i64 leave)
    rw [World.size_alloc] at this
    rw [← hW0]; exact this.alloc _
  have b6 : Boxed W0 (w.heap.size + 1 + 1) 4 (.bool false) := by
    have := Boxed.new ((w.alloc (.cells #[.slice a2 n2 c2] 37)).alloc (.cells #[.int .i64 leave] 3)) 4 (.bool false)
    rw [World.size_alloc, World.size_alloc] at this
    rw [← hW0]; exact this
  have kb : ∀ {A B : World}, Chg (fun _ => False) A B → KeepsT boxT A B := fun hc j c t fr _ hj => hc.heap hj fun e => e
  gi_wp2_with fail
  refine ⟨trivial, (callsIn_wide.2 (HR _).out).mono ?_⟩
  rintro e W3 ⟨rfl, hr3, hc3⟩
  rw [World.size_alloc] at hr3 ⊢
  obtain ⟨d, hd⟩ : ∃ d, W0.heap.size = d := ⟨_, rfl⟩
  obtain ⟨m, hm⟩ : ∃ m, W1.heap.size + 1 = m := ⟨_, rfl⟩
  obtain ⟨b7, hb7⟩ : ∃ b, W1.heap.size = b := ⟨_, rfl⟩
  have hd1 := HD1.out
  rw [hd] at hd1 hc3 ⊢
  rw [hb7] at hm
  rw [hb7, hm] at hr3 ⊢
  have x7 : Boxed (W1.alloc (.cells #[.pointer (some ⟨d, 0, none⟩)] 24)) b7 24 (.pointer (some ⟨d, 0, none⟩)) := by rw [← hb7]; exact Boxed.new W1 _ _
  obtain ⟨W4, hW4⟩ : ∃ W4, W3.alloc (.cells #[.pointer (some ⟨m, 0, none⟩)] 54) = W4 := ⟨_, rfl⟩
  have hc4 : Chg (fun _ => False) W3 W4 := by rw [← hW4]; exact (Chg.refl _ _).alloc _
  have hc14 : Chg (fun _ => False) W1 W4 := (((Chg.refl _ W1).alloc (.cells #[.pointer (some ⟨d, 0, none⟩)] 24)).trans hc3 fun _ _ e => e).trans hc4 fun _ _ e => e
  obtain ⟨b8, hb8⟩ : ∃ b, W3.heap.size = b := ⟨_, rfl⟩
  have x8 : Boxed W4 b8 54 (.pointer (some ⟨m, 0, none⟩)) := by rw [← hW4, ← hb8]; exact Boxed.new W3 _ _
  have HA : Hid (GA w.heap.size (w.heap.size + 1) (w.heap.size + 1 + 1) b7 b8 (.slice a2 n2 c2) (.int .i64 leave) (.bool false) (.pointer (some ⟨d, 0, none⟩)) (.pointer (some ⟨m, 0, none⟩)) W4) :=
    Lib.hid ⟨kb (HC1.out.trans hc14 fun _ _ e => e) _ _ _ _ (by unfold boxT; decide) b4, kb (HC1.out.trans hc14 fun _ _ e => e) _ _ _ _ (by unfold boxT; decide) b5, kb (HC1.out.trans hc14 fun _ _ e => e) _ _ _ _ (by unfold boxT; decide) b6, kb (hc3.trans hc4 fun _ _ e => e) _ _ _ _ (by unfold boxT; decide) x7, x8⟩
  have HG : Hid (G0 w d m W4) := by
    obtain ⟨hg, hb, v, gs, hd2, hf⟩ := hd1
    have h0 := HB0.out.size
    refine Lib.hid ⟨⟨v, gs, [], hg, hd2.chg hc14 fun _ _ e => e, hr3.keeps (T := fun _ => True) (keepsQuiet hc4) (fun _ _ => trivial), fun j hj => ?_, ?_⟩, ?_⟩
    · have := hf j hj; omega
    · have := HC1.out.size; omega
    · exact (HB0.out.trans ((hb.mono h0))).trans (hc14.below (Nat.le_trans h0 HC1.out.size) fun _ e => e.elim)
  clear b4 b5 b6 x7 x8 hc4 hc14 hr3 hc3 HD1 hd1 HC1 HB0
  gi_upto_region 3 with fail
  try rw [hW4]
  have q7 := HA.out.x7.cell
  clear hW4 hW0
  gi_wp2_with fail
  clear q7
  gi_loopw [25] (fun i wr => ∃ k : Nat, k ≤ n1 ∧ i = .int .i64 k ∧ Hid (GA w.heap.size (w.heap.size + 1) (w.heap.size + 1 + 1) b7 b8 (.slice a2 n2 c2) (.int .i64 leave) (.bool false) (.pointer (some ⟨d, 0, none⟩)) (.pointer (some ⟨m, 0, none⟩)) wr) ∧ Hid (G0 w d m wr)) (fun i _ => n1 - (intOf i).toNat)
  case atStart => exact ⟨0, Nat.zero_le _, rfl, HA, HG⟩
  case round =>
    clear HA HG
    obtain ⟨k, hk, rfl, HA, HG⟩ := hrel
    by_cases hlt : k < n1
    · obtain ⟨o, hok⟩ : ∃ o, l1[k]? = some o := ⟨_, List.getElem?_eq_getElem (by rw [HL.out.len]; exact hlt)⟩
      obtain ⟨y, hy, hcells⟩ := (HL.out.keep HG.out.below).cell k _ hok
      subst hy
      have HCL := Lib.hid (show ∀ j u, o.cells[j]? = some u → wr.cell? ((y.add (k * 7)).add j) = some u from fun j u hj => by rw [Addr.add_add]; exact hcells j u hj)
      have HOK := Lib.hid (HL.out.ok _ (List.mem_of_getElem? hok))
      have HS7 := Lib.hid (show (Try.prog.info? 39).map (·.size) = some 7 by kernel_rfl)
      clear hok hcells
      obtain ⟨owho, oact, oi, oj, oflag, os, obig⟩ := o
      gi_upto_region 8 with (first
        | (refine wpListIn_load_at rfl _ _ rfl _ rfl _ _ HCL.out Try.underlying39 rfl HS7.out ?_)
        | (refine wpListIn_store_row rfl _ _ _ rfl wr.heap.size (Op7.cells ⟨owho, oact, oi, oj, oflag, os, obig⟩).toArray rfl rfl _ _ (heap_alloc_new wr _) HS7.out rfl (cells_one _) ?_
           generalize hw3 : World.setRow _ wr.heap.size (Op7.cells ⟨owho, oact, oi, oj, oflag, os, obig⟩).toArray = w3
           obtain ⟨f1, f2, f3⟩ := copied hw3
           have HA3 := Lib.hid (HA.out.keeps (kb f3))
           have HG3 := Lib.hid (HG.out.quiet f3)
           have HF1 := Lib.hid (show ∀ j u, (Op7.cells ⟨owho, oact, oi, oj, oflag, os, obig⟩)[j]? = some u → w3.cell? ((⟨wr.heap.size, 0, none⟩ : Addr).add j) = some u from row_cells f1)
           clear hw3 f1 f2 f3))
      have q7 := HA3.out.x7.cell
      have q8 := HA3.out.x8.cell
      gi_wp2_with (first
        | (refine wpListIn_load_at rfl _ _ rfl _ rfl _ _ HF1.out Try.underlying39 rfl HS7.out ?_))
      refine ⟨trivial, (callsIn_wide.2 (HG3.out.plays _ HOK.out)).mono ?_⟩
      rintro e w4 ⟨rfl, hg4, hk4⟩
      have HA4 := Lib.hid (HA3.out.keeps hk4)
      have HG4 := Lib.hid hg4
      clear hg4 hk4
      gi_wp2_with fail
      go_roundw
      case rel => exact ⟨k + 1, by omega, by go_num, HA4, HG4⟩
      case measure => simp [intOf]; omega
    · obtain rfl : k = n1 := by omega
      gi_upto_region 11 with fail
      exact rest0 w wr _ _ _ b7 b8 a2 n2 c2 l2 leave d m HL2.out HA.out HG.out (by omega) _ _ _ _ _ _ _ _ _ _ _ _ _ _ _ _ _ _ _ _ _ _ _ _ _ _ _ _ _ _ _ _ _ _ _ _ _ _ _ _ _ _ _ _ _ _ _ _ _ _ _ _ _ _ _ _ _ _ _ _ _ _ _ _ _ _ _ _ _ _ _ _ _ _ _ _ _ _ _ _ _ _ _ _ _ _ _ _ _ _ _ _ _ _ _ _ _ _ _ _ _ _ _ _ _ _ _ _ _ _ _ _ _ _ _ _ _ _ rfl _ rfl _ (by assumption)
end Go.Proofs.Ytefoieloakfhfaa.dequeGoes
