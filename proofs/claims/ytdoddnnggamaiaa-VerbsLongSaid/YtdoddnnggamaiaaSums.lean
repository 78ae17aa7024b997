/- The two sums over bytes return what a plain Lean function computes; no memory is written. -/
import Derived.Test.YtdoddnnggamaiaaRows
import Derived.Test.YtdoddnnggamaiaaCrc
import Derived.WalkKit
import Derived.WalkSpells
import Derived.WalkLawsBesides
import Derived.Lib.Hide
namespace Go.Proofs.Ytdoddnnggamaiaa
open Go.RowKit Pantry

set_option maxHeartbeats 400000 in
theorem refSum_any (a : Option Addr) (len cap : Nat) (l : List Nat) (w : World)
   (hl : l.length = len) (hm : len ≤ 9223372036854775807)
   (hc : ∀ i, i < len → ∃ x, a = some x ∧ w.cell? (x.add i) = some (.int .u8 (l.getD i 0 : Nat)))
   (hz : ∀ i ∈ l, i < 256) :
    Calls Try.prog 12 #[.slice a len cap] w fun e w' => e = .returned (.int .u64 (Crc.sum l : Nat)) ∧ w = w' := by
  have HL := Lib.hid hl
  clear hl
  go_enter Try.func12, Try.ntmps12
  go_wp2
  go_loop [3, 9] (fun r i => ∃ k : Nat, k ≤ len ∧ i = .int .i64 k ∧ r = .int .u64 (Crc.run (l.take k) : Nat)) (fun _ i => len - (intOf i).toNat)
  case atStart => exact ⟨0, Nat.zero_le _, rfl, rfl⟩
  case round =>
    obtain ⟨k, hk, rfl, rfl⟩ := hrel
    by_cases hlt : k < len
    · obtain ⟨x, rfl, hcell⟩ := hc k hlt
      obtain ⟨c, hcc⟩ : ∃ c, l.getD k 0 = c := ⟨_, rfl⟩
      rw [hcc] at hcell
      have hkl : k < l.length := by rw [HL.out]; exact hlt
      have hgd : l.getD k 0 = l[k] := by simp [hkl]
      have hcl : c < 256 := hz c (by rw [← hcc, hgd]; exact List.getElem_mem hkl)
      have hslt : Crc.run (l.take k) < Crc.top := Crc.run_lt _ fun c hc => hz c (List.mem_of_mem_take hc)
      have hnext : Crc.iter 8 (Crc.run (l.take k) ^^^ c) = Crc.run (l.take (k + 1)) := by
        rw [← hcc, hgd, List.take_succ_eq_append_getElem hkl, Crc.run_snoc, Crc.byte]
      obtain ⟨s, hs⟩ : ∃ s, Crc.run (l.take k) = s := ⟨_, rfl⟩
      rw [hs] at hnext hslt ⊢
      have hx : bits BinOp.xor IntKind.u64 (s : Int) (c : Int) = ((s ^^^ c : Nat) : Int) :=
        Crc.xor_int hslt (Nat.lt_trans hcl (by decide))
      have hlo : s ^^^ c < Crc.top := Crc.xor_lt hslt (Nat.lt_trans hcl (by decide))
      obtain ⟨m, hm'⟩ : ∃ m, s ^^^ c = m := ⟨_, rfl⟩
      rw [hm'] at hx hnext hlo
      have HN := Lib.hid hnext
      have HX := Lib.hid hx
      clear hs hc hcc hgd hm' hnext hx
      go_wp2
      go_loop [3, 17] (fun r i => ∃ j : Nat, j ≤ 8 ∧ i = .int .i64 j ∧ r = .int .u64 (Crc.iter j m : Nat)) (fun _ i => 8 - (intOf i).toNat)
      case atStart => exact ⟨0, Nat.zero_le _, rfl, by rw [HX.out]; rfl⟩
      case round =>
        obtain ⟨j, hj, rfl, rfl⟩ := hrel
        have hil := Crc.iter_lt hlo j
        obtain ⟨n, hn⟩ : ∃ n, Crc.iter j m = n := ⟨_, rfl⟩
        have hb : Crc.iter (j + 1) m = Crc.bit n := by rw [← hn]; rfl
        rw [hn] at hil ⊢
        have HB := Lib.hid hb
        have HJ := Lib.hid hn
        clear hb hn
        by_cases hlt : j < 8
        · go_wp2
          all_goals
            go_round
            case rel => exact ⟨j + 1, by omega, by go_num, by rw [HB.out]; exact Crc.int_u64 (by first | exact Crc.half_one hil ‹_› | exact Crc.half_zero hil ‹_›)⟩
            case measure => simp [intOf]; omega
        · obtain rfl : j = 8 := by omega
          go_wp2
          go_round
          case rel => exact ⟨k + 1, by omega, by go_num, by rw [← HN.out, HJ.out]⟩
          case measure => simp [intOf]; omega
    · go_wp2
      go_ret
      exact ⟨by rw [List.take_of_length_le (by rw [HL.out]; omega), Crc.flip_int (Crc.run_lt _ hz)]; rfl, rfl⟩

set_option maxHeartbeats 400000 in
theorem impSum_any (a : Option Addr) (len cap : Nat) (l : List Nat) (w : World)
   (hl : l.length = len) (hm : len ≤ 9223372036854775807)
   (hc : ∀ i, i < len → ∃ x, a = some x ∧ w.cell? (x.add i) = some (.int .u8 (l.getD i 0 : Nat)))
   (hz : ∀ i ∈ l, i < 256) :
    Calls Try.prog 13 #[.slice a len cap] w fun e w' => e = .returned (.int .u64 (Crc.sum l : Nat)) ∧ w = w' := by
  have HL := Lib.hid hl
  clear hl
  go_enter Try.func13, Try.ntmps13
  go_wp2
  go_loop [3, 9] (fun r i => ∃ k : Nat, k ≤ len ∧ i = .int .i64 k ∧ r = .int .u64 (Crc.run (l.take k) : Nat)) (fun _ i => len - (intOf i).toNat)
  case atStart => exact ⟨0, Nat.zero_le _, rfl, rfl⟩
  case round =>
    obtain ⟨k, hk, rfl, rfl⟩ := hrel
    by_cases hlt : k < len
    · obtain ⟨x, rfl, hcell⟩ := hc k hlt
      obtain ⟨c, hcc⟩ : ∃ c, l.getD k 0 = c := ⟨_, rfl⟩
      rw [hcc] at hcell
      have hkl : k < l.length := by rw [HL.out]; exact hlt
      have hgd : l.getD k 0 = l[k] := by simp [hkl]
      have hcl : c < 256 := hz c (by rw [← hcc, hgd]; exact List.getElem_mem hkl)
      have hslt : Crc.run (l.take k) < Crc.top := Crc.run_lt _ fun c hc => hz c (List.mem_of_mem_take hc)
      have hnext : Crc.iter 8 (Crc.run (l.take k) ^^^ c) = Crc.run (l.take (k + 1)) := by
        rw [← hcc, hgd, List.take_succ_eq_append_getElem hkl, Crc.run_snoc, Crc.byte]
      obtain ⟨s, hs⟩ : ∃ s, Crc.run (l.take k) = s := ⟨_, rfl⟩
      rw [hs] at hnext hslt ⊢
      have hx : bits BinOp.xor IntKind.u64 (s : Int) (c : Int) = ((s ^^^ c : Nat) : Int) :=
        Crc.xor_int hslt (Nat.lt_trans hcl (by decide))
      have hlo : s ^^^ c < Crc.top := Crc.xor_lt hslt (Nat.lt_trans hcl (by decide))
      obtain ⟨m, hm'⟩ : ∃ m, s ^^^ c = m := ⟨_, rfl⟩
      rw [hm'] at hx hnext hlo
      have HN := Lib.hid hnext
      have HX := Lib.hid hx
      clear hs hc hcc hgd hm' hnext hx
      go_wp2
      go_loop [3, 17] (fun r i => ∃ j : Nat, j ≤ 8 ∧ i = .int .i64 j ∧ r = .int .u64 (Crc.iter j m : Nat)) (fun _ i => 8 - (intOf i).toNat)
      case atStart => exact ⟨0, Nat.zero_le _, rfl, by rw [HX.out]; rfl⟩
      case round =>
        obtain ⟨j, hj, rfl, rfl⟩ := hrel
        have hil := Crc.iter_lt hlo j
        obtain ⟨n, hn⟩ : ∃ n, Crc.iter j m = n := ⟨_, rfl⟩
        have hb : Crc.iter (j + 1) m = Crc.bit n := by rw [← hn]; rfl
        rw [hn] at hil ⊢
        have HB := Lib.hid hb
        have HJ := Lib.hid hn
        clear hb hn
        by_cases hlt : j < 8
        · go_wp2
          all_goals
            go_round
            case rel => exact ⟨j + 1, by omega, by go_num, by rw [HB.out]; exact Crc.int_u64 (by first | exact Crc.low_one hil ‹_› | exact Crc.low_zero hil ‹_›)⟩
            case measure => simp [intOf]; omega
        · obtain rfl : j = 8 := by omega
          go_wp2
          go_round
          case rel => exact ⟨k + 1, by omega, by go_num, by rw [← HN.out, HJ.out]⟩
          case measure => simp [intOf]; omega
    · go_wp2
      go_ret
      exact ⟨by rw [List.take_of_length_le (by rw [HL.out]; omega), Crc.flip_int (Crc.run_lt _ hz)]; rfl, rfl⟩

end Go.Proofs.Ytdoddnnggamaiaa
