/- A deque takes 1048576 texts and no more; what is refused is told why; one that goes makes room. (A closed statement.) -/
import Derived.Test.YtefoieloakfhfaaFilled
import Derived.Test.YtefoieloakfhfaaOpenWords
import Derived.Test.YtefoieloakfhfaaChecked
import Derived.Test.YtefoieloakfhfaaRows
namespace Go.Proofs.Ytefoieloakfhfaa.dequeFull
open Go Go.Proofs Go.Proofs.Ytefoieloakfhfaa Go.RowKit Go.ChangeShapes Go.WideShapes Go.ChangeAt Pantry

set_option maxHeartbeats 4000000 in
set_option maxRecDepth 100000 in
theorem walk (w : World) : Calls Try.prog 4 #[] w (OkPost w) := by
  have HW := Lib.hid (wakes_any w)
  obtain ⟨i0, hi, hz0, hz1, hz2⟩ := info_parts u8I
  obtain ⟨N, hN⟩ : ∃ N : Nat, (1048577 : Int) = (N : Int) := ⟨1048577, rfl⟩
  have hN2 : N = 1048577 := by omega
  have HN2 := Lib.hid hN2
  have HN := Lib.hid hN
  have hmb : i0.bytes * N ≤ 281474976710656 := by rw [hz2]; omega
  have hml : N ≤ maxLen := by unfold maxLen; omega
  clear hN hN2
  obtain ⟨M, hM⟩ : ∃ M : Nat, M = 1048576 := ⟨_, rfl⟩
  go_enter Try.func4, Try.ntmps4
  go_wp2_with (first
    | (go_at_call 9; refine HW.out.mono ?_; rintro e w1 ⟨rfl, hb1⟩
       have HB1 := Lib.hid hb1
       have HNW := Lib.hid (Dq.new w1)
       clear hb1)
    | (go_at_call 10; refine HNW.out.mono ?_; clear HNW; rintro e w2 ⟨rfl, hd2, -⟩
       have HD2 := Lib.hid hd2
       clear hd2))
  go_loopw [7] (fun i wr => ∃ k : Nat, k ≤ M ∧ i = .int .i64 k ∧ ∃ cs, Hid (Dq w1 wr w1.heap.size cs) ∧ Hid (cs.flatten = List.replicate k [])) (fun i _ => M - (intOf i).toNat)
  case atStart => exact ⟨0, Nat.zero_le _, rfl, [], HD2, Lib.hid rfl⟩
  case round =>
    obtain ⟨k, hk, rfl, cs, HD, HC⟩ := hrel
    have ht : total cs = k := by rw [total_flat HC.out, List.length_replicate]
    by_cases hlt : k < M
    · have hlt2 : (k : Int) < 1048576 := by omega
      have HP := Lib.hid (HD.out.push false (s := []) (by decide) (by omega))
      clear ht
      go_wp2_with (go_at_call 11; refine HP.out.mono ?_; clear HP; rintro e w4 ⟨rfl, hd4, -⟩; have HD4 := Lib.hid hd4; clear hd4)
      go_roundw
      case rel =>
        refine ⟨k + 1, by omega, by go_num, _, HD4, Lib.hid ?_⟩
        rw [push_row, HC.out]
        simp [List.replicate_succ']
      case measure => simp [intOf]; omega
    · have hlt2 : ¬ (k : Int) < 1048576 := by omega
      have hk2 : k = 1048576 := by omega
      have HPF := Lib.hid (HD.out.pushFull true (s := [120]) (by decide) (by omega))
      have HIF := Lib.hid (HD.out.insFull (i := 5) (by omega) (s := [120]) (by decide) (by omega))
      have HIA := Lib.hid (HD.out.insArg (i := 1048577) (by omega) ⟨#[120]⟩)
      have HL := Lib.hid HD.out.len
      have HCO := Lib.hid HD.out.cost
      have e1 : ((total cs : Nat) : Int) = 1048576 := by omega
      have e2 : ((costOf cs : Nat) : Int) = 16777216 := by rw [costOf_flat, HC.out, sum_replicate]; omega
      rw [e1] at HL
      rw [e2] at HCO
      have HT := Lib.hid (ht.trans hk2)
      clear e1 e2 ht
      have HK := Lib.hid hk2
      clear hk hk2 hlt
      go_wp2_with (first
        | (go_at_call 11; refine HPF.out.mono ?_; clear HPF; rintro e w4 ⟨rfl, rfl⟩)
        | (go_at_call 15; refine HIF.out.mono ?_; clear HIF; rintro e w4 ⟨rfl, rfl⟩)
        | (go_at_call 15; refine HIA.out.mono ?_; clear HIA; rintro e w4 ⟨rfl, rfl⟩)
        | (go_at_call 16; refine HL.out.mono ?_; clear HL; rintro e w4 ⟨rfl, rfl⟩)
        | (go_at_call 14; refine HCO.out.mono ?_; clear HCO; rintro e w4 ⟨rfl, rfl⟩; have hbs := HD.out.below.size)
        | (at_make; refine wpList_make_full wr rfl _ _ 36 rfl w1.heap.size 5 i0 (.int .u8 0) 1 Try.underlying36 hi hz0 hz1 .i64 .i64 1048577 1048577 N rfl rfl HN.out HN.out hmb hml hbs ?_; intro w4 hown4 hg4
           rw [Nat.mul_one, show (Value.int .u8 0).cells = #[.int .u8 0] from rfl, toList_madeCells_one, zeros_b8] at hown4
           have HRD := Lib.hid (rdOf hown4 (b8_one _))
           have HD4 := Lib.hid (HD.out.quiet (Chg.of_grown (S := fun _ => False) hg4 fun _ e => by cases e))
           have HPL := Lib.hid (push_long w4 w1.heap.size true (List.replicate N 0) (by rw [List.length_replicate, HN2.out]; decide) (by rw [List.length_replicate, HN2.out]; decide))
           clear hown4 hg4)
        | (refine wpl_string_of Try.underlying36 Try.underlying5 Try.underlying9 rfl _ rfl (List.replicate N 0) rfl List.length_replicate HRD.out ?_)
        | (go_at_call 11; refine HPL.out.mono ?_; clear HPL; rintro e w5 ⟨rfl, rfl⟩
           have HPO := Lib.hid (HD4.out.pop true (x := []) (get_zero HC.out (by rw [HK.out]; decide))))
        | (go_at_call 12; refine HPO.out.mono ?_; clear HPO; rintro e w6 ⟨rfl, hd6, -⟩
           have ht6 : total (removeC (popAt true cs) cs) + 1 = 1048576 := by rw [← HT.out]; exact (HD.out.good.remove (show 0 < total cs by rw [HT.out]; decide)).2
           have HI := Lib.hid (hd6.ins (i := 7) (by omega) (s := [121]) (by decide) (by omega))
           have HT7 := Lib.hid (show 1048576 ≤ total (insC 7 [121] (removeC (popAt true cs) cs)) by rw [total_ins hd6.good (by omega)]; omega)
           clear hd6 ht6)
        | (go_at_call 15; refine HI.out.mono ?_; clear HI; rintro e w7 ⟨rfl, hd7, -⟩
           have HF7 := Lib.hid (hd7.pushFull true (s := []) (by decide) HT7.out)
           have HB7 := Lib.hid (HB1.out.trans (hd7.below.mono HB1.out.size))
           clear hd7)
        | (go_at_call 11; refine HF7.out.mono ?_; clear HF7; rintro e w8 ⟨rfl, rfl⟩))
      go_ret
      exact ⟨rfl, HB7.out⟩
set_option linter.unusedVariables false

theorem own : ownKnob Try.prog.godebug = none := by kernel_rfl
theorem laidOut : laidOutB Try.prog = true := by kernel_rfl

set_option maxRecDepth 100000 in
theorem lifted (os : Os) (started : os.Started) (H : Type) (enc : TypeId × Value → H) :
    ReturnsInHanded {} Try.checked os 4 .any (Rows.dequeFullSpec.pre6 enc Try.prog Try.f4 Rows.dequeFullRow.domain false) (Rows.dequeFullSpec.post enc Try.prog Try.f4 false true false false) := by
  refine returnsInHanded_of_change_sized (C := Try.checked) own started (by kernel_rfl) Try.func4
    (ChangeSpec.witness6 (enc := enc) (C := Try.checked) false ⟨#[], #[], []⟩ 8 (by kernel_rfl) (by kernel_rfl) (by kernel_rfl) (by kernel_rfl)) ?_
  intro W base args ds gs before hval0 hW hcnd hsz _
  have hW' := hW
  obtain ⟨p, q, hA0, hV, rfl, hfz, hnd⟩ := hW
  have hA : DataW.TrodAll enc Try.prog W 0 (fun _ => true) true Try.f4.params.toList args.toList ds p := hA0
  rw [Try.params4] at hA
  obtain ⟨hargs, rfl, rfl⟩ := trodAll_nil hA
  obtain rfl : args = #[] := by cases args; simp_all
  obtain ⟨rfl, rfl⟩ := trodVars_none hV
  clear hA0 hval0 hsz
  refine (walk W).mono fun e W' ⟨he, bel⟩ => ?_
  subst he
  exact ⟨_, rfl, _, _, _, [], _, [], hW', trodAll_mk1 (shut_bool Try.underlying4 _), trodAll_mk0, rfl, bel.frame _, fun h => by cases h⟩

theorem over : Rows.dequeFullRow.holds Try.pinned (OpenSpec.ofChange Rows.dequeFullSpec) :=
  OpenClaim.holds_of_wide 4 Try.f4 rfl rfl rfl rfl rfl rfl rfl ⟨rfl, rfl, rfl, rfl, rfl⟩ rfl rfl rfl rfl rfl (by kernel_rfl) Try.func4 (by kernel_rfl)
    (of_decide_eq_true (by kernel_rfl)) (by unfold Func.isWrapper; first | (rw [if_pos (by decide +kernel)]; kernel_rfl) | (rw [if_neg (by decide +kernel)]; exact ⟨rfl, rfl⟩))
    (fun os started H enc _ => lifted os started H enc)

theorem proved : Rows.DequeFullSaid := over
#print axioms proved

end Go.Proofs.Ytefoieloakfhfaa.dequeFull
