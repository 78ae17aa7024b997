/- Enforce and Round without a space; keyspace.New at any config. -/
import Derived.Test.YtelbmphmihjgfaaGreatZEwWakes
set_option linter.unusedVariables false
set_option linter.unusedSimpArgs false
namespace Go.Proofs.YtelbmphmihjgfaaGreat.DEnt
open Go.RowKit Pantry Go.Maps Go.Sort

def isI64 (x : Int) : Prop := -9223372036854775808 ≤ x ∧ x ≤ 9223372036854775807
theorem round_nil (w : World) (a b c : Option Addr) (h : a = none ∨ b = none ∨ c = none) : Calls Tryz.prog 13 #[.pointer a, .pointer b, .pointer c] w fun e w' => e = .returned (.tuple #[]) ∧ w = w' := by
  cases a with
  | none =>
    clear h
    go_enter Tryz.func13, Tryz.ntmps13
    go_wp2_with fail
    refine bodyPost_ret (v := .tuple #[]) (by simp [results, Tryz.results13, go_sem]) rfl ?_
    exact ⟨rfl, rfl⟩
  | some a =>
    cases b with
    | none =>
      clear h
      go_enter Tryz.func13, Tryz.ntmps13
      go_wp2_with fail
      refine bodyPost_ret (v := .tuple #[]) (by simp [results, Tryz.results13, go_sem]) rfl ?_
      exact ⟨rfl, rfl⟩
    | some b =>
      obtain rfl : c = none := by simpa using h
      clear h
      go_enter Tryz.func13, Tryz.ntmps13
      go_wp2_with fail
      refine bodyPost_ret (v := .tuple #[]) (by simp [results, Tryz.results13, go_sem]) rfl ?_
      exact ⟨rfl, rfl⟩
theorem enf_nil (w : World) (a b c : Option Addr) (h : a = none ∨ b = none ∨ c = none) : Calls Tryz.prog 9 #[.pointer a, .pointer b, .pointer c] w fun e w' => e = .returned (.tuple #[.int .i64 0, .int .i64 1]) ∧ w = w' := by
  cases a with
  | none =>
    clear h
    go_enter Tryz.func9, Tryz.ntmps9
    go_wp2_with fail
    go_ret2
    exact ⟨rfl, rfl⟩
  | some a =>
    cases b with
    | none =>
      clear h
      go_enter Tryz.func9, Tryz.ntmps9
      go_wp2_with fail
      go_ret2
      exact ⟨rfl, rfl⟩
    | some b =>
      obtain rfl : c = none := by simpa using h
      clear h
      go_enter Tryz.func9, Tryz.ntmps9
      go_wp2_with fail
      go_ret2
      exact ⟨rfl, rfl⟩
theorem kNew_some (w : World) (c : Cfg) (hs : c.seed < 18446744073709551616) (hm : isI64 c.most) : Calls Tryz.prog 23 #[Cfg.val c] w fun e w' => Below w.heap.size w w' ∧ ∃ sp code, e = .returned (.tuple #[.pointer sp, .int .i64 code]) := by
  unfold isI64 at hm
  by_cases h : c.bad
  · refine (kNew_bad w c h ⟨by omega, by omega⟩).mono ?_
    rintro e w' ⟨hb, ⟨-, rfl⟩ | ⟨-, s, F, rfl, -⟩⟩
    · exact ⟨hb, _, _, rfl⟩
    · exact ⟨hb, _, _, rfl⟩
  · refine (kNew_good w c h hs ⟨by omega, by omega⟩).mono ?_
    rintro e w' ⟨hb, ⟨-, rfl⟩ | ⟨-, s, F, rfl, -⟩⟩
    · exact ⟨hb, _, _, rfl⟩
    · exact ⟨hb, _, _, rfl⟩
end Go.Proofs.YtelbmphmihjgfaaGreat.DEnt
