/- Set where nothing is set; Copy of no deque. -/
import Derived.Test.YtefoieloakfhfaaTrim3
namespace Go.Proofs.Ytefoieloakfhfaa
open Go.RowKit Pantry

theorem set_low (w : World) (p : Option Addr) (i : Int) (s : ByteArray) (hi : i < 0) : Calls Try.prog 47 #[.pointer p, .int .i64 i, .string s] w fun e w' => e = .returned (.bool false) ∧ w = w' := by
  go_enter Try.func47, Try.ntmps47
  go_wp2_with fail
  go_ret
  exact ⟨rfl, rfl⟩
theorem set_nil (w : World) (i : Int) (s : ByteArray) : Calls Try.prog 47 #[.pointer none, .int .i64 i, .string s] w fun e w' => e = .returned (.bool false) ∧ w = w' := by
  by_cases h0 : i < 0
  · exact set_low w none i s h0
  · have h1 : (0 : Int) ≤ i := by omega
    go_enter Try.func47, Try.ntmps47
    go_wp2_with (go_at_call 16; refine (len_nil _).mono ?_; rintro e w' ⟨rfl, rfl⟩)
    go_ret
    exact ⟨rfl, rfl⟩
theorem set_out (w : World) (d : Nat) (v : Value) (gs : List Nat) (cs : List (List Txt)) (i : Int) (s : ByteArray) (h : DeqAt w d v gs cs) (hi : i < 0 ∨ (total cs : Int) ≤ i) :
    Calls Try.prog 47 #[.pointer (some ⟨d, 0, none⟩), .int .i64 i, .string s] w fun e w' => e = .returned (.bool false) ∧ w = w' := by
  have HL := Lib.hid (len_any w d v gs cs h)
  obtain ⟨N, hN⟩ : ∃ N, total cs = N := ⟨_, rfl⟩
  rw [hN] at hi HL
  clear h hN
  by_cases h0 : i < 0
  · exact set_low w _ i s h0
  · have h1 : (N : Int) ≤ i := by omega
    clear hi
    go_enter Try.func47, Try.ntmps47
    go_wp2_with (go_at_call 16; refine HL.out.mono ?_; rintro e w' ⟨rfl, rfl⟩)
    go_ret
    exact ⟨rfl, rfl⟩
theorem set_long (w : World) (d : Nat) (v : Value) (gs : List Nat) (cs : List (List Txt)) (i : Nat) (s : ByteArray) (h : DeqAt w d v gs cs) (hi : i < total cs) (hs : (1048576 : Int) < (s.size : Int)) :
    Calls Try.prog 47 #[.pointer (some ⟨d, 0, none⟩), .int .i64 i, .string s] w fun e w' => e = .returned (.bool false) ∧ w = w' := by
  have HL := Lib.hid (len_any w d v gs cs h)
  obtain ⟨N, hN⟩ : ∃ N, total cs = N := ⟨_, rfl⟩
  rw [hN] at hi HL
  clear h hN
  have h0 : ¬ (i : Int) < 0 := by omega
  have h1 : (i : Int) < (N : Int) := by omega
  go_enter Try.func47, Try.ntmps47
  go_wp2_with (go_at_call 16; refine HL.out.mono ?_; rintro e w' ⟨rfl, rfl⟩)
  go_ret
  exact ⟨rfl, rfl⟩
theorem copy_nil (w : World) : Calls Try.prog 28 #[.pointer none] w fun e w' => e = .returned (.pointer (some ⟨w.heap.size, 0, none⟩)) ∧ w' = w.alloc (.cells #[.slice none 0 0, .int .i64 0, .int .i64 0] 62) := by
  have HN := Lib.hid (new_any w)
  go_enter Try.func28, Try.ntmps28
  go_wp2_with (go_at_call 10; refine HN.out.mono ?_; rintro e w' ⟨rfl, rfl⟩)
  go_ret
  exact ⟨rfl, rfl⟩
end Go.Proofs.Ytefoieloakfhfaa
