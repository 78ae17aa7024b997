/- EvictNil: the walk. -/
import Derived.Test.YtalihbjininkhaaGreatZEwWakes
set_option linter.unusedVariables false
set_option linter.unusedSimpArgs false
namespace Go.Proofs.YtalihbjininkhaaGreat.DEnt
open Go.RowKit Pantry Go.Maps Go.Sort

def isI64 (x : Int) : Prop := -9223372036854775808 ≤ x ∧ x ≤ 9223372036854775807
theorem round_nil (w : World) (a b c : Option Addr) (h : a = none ∨ b = none ∨ c = none) : Calls Tryz.prog 16 #[.pointer a, .pointer b, .pointer c] w fun e w' => e = .returned (.tuple #[]) ∧ w = w' := by
  cases a with
  | none =>
    clear h
    go_enter Tryz.func16, Tryz.ntmps16
    go_wp2_with fail
    refine bodyPost_ret (v := .tuple #[]) (by simp [results, Tryz.results16, go_sem]) rfl ?_
    exact ⟨rfl, rfl⟩
  | some a =>
    cases b with
    | none =>
      clear h
      go_enter Tryz.func16, Tryz.ntmps16
      go_wp2_with fail
      refine bodyPost_ret (v := .tuple #[]) (by simp [results, Tryz.results16, go_sem]) rfl ?_
      exact ⟨rfl, rfl⟩
    | some b =>
      obtain rfl : c = none := by simpa using h
      clear h
      go_enter Tryz.func16, Tryz.ntmps16
      go_wp2_with fail
      refine bodyPost_ret (v := .tuple #[]) (by simp [results, Tryz.results16, go_sem]) rfl ?_
      exact ⟨rfl, rfl⟩
theorem enf_nil (w : World) (a b c : Option Addr) (h : a = none ∨ b = none ∨ c = none) : Calls Tryz.prog 17 #[.pointer a, .pointer b, .pointer c] w fun e w' => e = .returned (.tuple #[.int .i64 0, .int .i64 1]) ∧ w = w' := by
  cases a with
  | none =>
    clear h
    go_enter Tryz.func17, Tryz.ntmps17
    go_wp2_with fail
    go_ret2
    exact ⟨rfl, rfl⟩
  | some a =>
    cases b with
    | none =>
      clear h
      go_enter Tryz.func17, Tryz.ntmps17
      go_wp2_with fail
      go_ret2
      exact ⟨rfl, rfl⟩
    | some b =>
      obtain rfl : c = none := by simpa using h
      clear h
      go_enter Tryz.func17, Tryz.ntmps17
      go_wp2_with fail
      go_ret2
      exact ⟨rfl, rfl⟩
theorem kNew_some (w : World) (c : Cfg) (hs : c.seed < 18446744073709551616) (hm : isI64 c.most) : Calls Tryz.prog 13 #[Cfg.val c] w fun e w' => Below w.heap.size w w' ∧ ∃ sp code, e = .returned (.tuple #[.pointer sp, .int .i64 code]) := by
  unfold isI64 at hm
  by_cases h : c.bad
  · refine (kNew_bad w c h ⟨by omega, by omega⟩).mono ?_
    rintro e w' ⟨hb, ⟨-, rfl⟩ | ⟨-, s, F, rfl, -⟩⟩
    · exact ⟨hb, _, _, rfl⟩
    · exact ⟨hb, _, _, rfl⟩
  · refine (kNew_good w c h hs ⟨by omega, by omega⟩).mono ?_
    rintro e w' ⟨hb, ⟨-, rfl⟩ | ⟨-, s, F, rfl, -⟩⟩
    · exact ⟨hb, _, _, rfl⟩
    · exact ⟨hb, _, _, rfl⟩
set_option maxRecDepth 100000 in
set_option maxHeartbeats 4000000 in
theorem eNil_any (w : World) (which : Int) (c : Cfg) (a : Option Addr) (n k : Nat) (l : List Nat) (hs : c.seed < 18446744073709551616) (hm : isI64 c.most) (hl : l.length = n) (hr : Rd w a (u64R l)) (hn : n ≤ 17592186044416) :
    Calls Tryz.prog 3 #[.int .i64 which, Cfg.val c, .slice a n k] w (OneBool true w) := by
  have HK : Hid (∀ W, Calls Tryz.prog 13 #[.agg #[.int .u64 c.seed, .int .i64 c.most, .int .i64 c.policy, .int .i64 c.samples]] W fun e w' => Below W.heap.size W w' ∧ ∃ sp code, e = .returned (.tuple #[.pointer sp, .int .i64 code])) := Lib.hid fun W => kNew_some W c hs hm
  have HP : Hid (∀ W, Calls Tryz.prog 14 #[.int .i64 5] W fun e w' => Below W.heap.size W w' ∧ ∃ pp code, e = .returned (.tuple #[.pointer pp, .int .i64 code])) := Lib.hid fun W => by
    refine (pNew_any W 5).mono ?_
    rintro e w' (⟨-, rfl, rfl⟩ | ⟨-, p, G, rfl, h2, h3, h4⟩)
    · exact ⟨Below.refl _ _, _, _, rfl⟩
    · exact ⟨h4, _, _, rfl⟩
  have HR : Hid (∀ W, Below w.heap.size w W → Calls Tryz.prog 15 #[.slice a n k] W fun e w' => Below W.heap.size W w' ∧ ∃ rp, e = .returned (.pointer rp)) := Lib.hid fun W hb => by
    refine (rnew_any W a n k l hl (hr.below hb) hn).mono ?_
    rintro e w' ⟨r, rfl, -, -, h⟩
    exact ⟨h, _, rfl⟩
  have HNEW := Lib.hid fun o => (Below.refl w.heap.size w).alloc (Nat.le_refl _) o
  have HRN := Lib.hid round_nil
  have HEN := Lib.hid enf_nil
  have HW := Lib.hid wakes_any
  obtain ⟨seed, most, policy, samples⟩ := c
  simp only [Cfg.val] at *
  clear hs hm hl hr hn
  have h3 : which = 0 ∨ which = 1 ∨ (¬ which = 0 ∧ ¬ which = 1) := by omega
  rcases h3 with rfl | rfl | ⟨h0, h1⟩
  · go_enter Tryz.func3, Tryz.ntmps3
    go_wp2_with (first
      | (go_at_call 13; refine (HK.out _).mono ?_; rintro e w1 ⟨hb1, sp, code, rfl⟩
         have HB1 := Lib.hid ((HNEW.out _).trans (hb1.mono (by simp)))
         clear hb1)
      | (go_at_call 14; refine (HP.out _).mono ?_; rintro e w2 ⟨hb2, pp, code2, rfl⟩
         have HB2 := Lib.hid (HB1.out.trans (hb2.mono HB1.out.size))
         clear hb2)
      | (go_at_call 15; refine (HR.out _ HB2.out).mono ?_; rintro e w3 ⟨hb3, rp, rfl⟩
         have HB3 := Lib.hid (HB2.out.trans (hb3.mono HB2.out.size))
         clear hb3)
      | (go_at_call 16; refine (HRN.out _ _ _ _ (by simp)).mono ?_; rintro e w4 ⟨rfl, rfl⟩)
      | (go_at_call 17; refine (HEN.out _ _ _ _ (by simp)).mono ?_; rintro e w4 ⟨rfl, rfl⟩)
      | (go_at_call 18; refine (HW.out _).mono ?_; rintro e w5 ⟨rfl, hb5⟩
         have HB5 := Lib.hid (HB3.out.trans (hb5.mono HB3.out.size))
         clear hb5))
    go_ret
    exact ⟨rfl, HB5.out⟩
  · go_enter Tryz.func3, Tryz.ntmps3
    go_wp2_with (first
      | (go_at_call 13; refine (HK.out _).mono ?_; rintro e w1 ⟨hb1, sp, code, rfl⟩
         have HB1 := Lib.hid ((HNEW.out _).trans (hb1.mono (by simp)))
         clear hb1)
      | (go_at_call 14; refine (HP.out _).mono ?_; rintro e w2 ⟨hb2, pp, code2, rfl⟩
         have HB2 := Lib.hid (HB1.out.trans (hb2.mono HB1.out.size))
         clear hb2)
      | (go_at_call 15; refine (HR.out _ HB2.out).mono ?_; rintro e w3 ⟨hb3, rp, rfl⟩
         have HB3 := Lib.hid (HB2.out.trans (hb3.mono HB2.out.size))
         clear hb3)
      | (go_at_call 16; refine (HRN.out _ _ _ _ (by simp)).mono ?_; rintro e w4 ⟨rfl, rfl⟩)
      | (go_at_call 17; refine (HEN.out _ _ _ _ (by simp)).mono ?_; rintro e w4 ⟨rfl, rfl⟩)
      | (go_at_call 18; refine (HW.out _).mono ?_; rintro e w5 ⟨rfl, hb5⟩
         have HB5 := Lib.hid (HB3.out.trans (hb5.mono HB3.out.size))
         clear hb5))
    go_ret
    exact ⟨rfl, HB5.out⟩
  · have h0' : (which == 0) = false := by simpa using h0
    have h1' : (which == 1) = false := by simpa using h1
    go_enter Tryz.func3, Tryz.ntmps3
    go_wp2_with (first
      | (go_at_call 13; refine (HK.out _).mono ?_; rintro e w1 ⟨hb1, sp, code, rfl⟩
         have HB1 := Lib.hid ((HNEW.out _).trans (hb1.mono (by simp)))
         clear hb1)
      | (go_at_call 14; refine (HP.out _).mono ?_; rintro e w2 ⟨hb2, pp, code2, rfl⟩
         have HB2 := Lib.hid (HB1.out.trans (hb2.mono HB1.out.size))
         clear hb2)
      | (go_at_call 15; refine (HR.out _ HB2.out).mono ?_; rintro e w3 ⟨hb3, rp, rfl⟩
         have HB3 := Lib.hid (HB2.out.trans (hb3.mono HB2.out.size))
         clear hb3)
      | (go_at_call 16; refine (HRN.out _ _ _ _ (by simp)).mono ?_; rintro e w4 ⟨rfl, rfl⟩)
      | (go_at_call 17; refine (HEN.out _ _ _ _ (by simp)).mono ?_; rintro e w4 ⟨rfl, rfl⟩)
      | (go_at_call 18; refine (HW.out _).mono ?_; rintro e w5 ⟨rfl, hb5⟩
         have HB5 := Lib.hid (HB3.out.trans (hb5.mono HB3.out.size))
         clear hb5))
    go_ret
    exact ⟨rfl, HB5.out⟩
end Go.Proofs.YtalihbjininkhaaGreat.DEnt
