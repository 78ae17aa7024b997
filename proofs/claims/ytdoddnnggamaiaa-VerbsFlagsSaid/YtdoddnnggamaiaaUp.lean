/- Capital letters: both texts' Upper return the same plain function. -/
import Derived.Test.YtdoddnnggamaiaaOpen
import Derived.Test.YtdoddnnggamaiaaBytes
import Derived.Test.YtdoddnnggamaiaaCmp
namespace Pantry
/-- A letter as a capital one. -/
def upB (c : UInt8) : UInt8 := if 97 ≤ c.toNat ∧ c.toNat ≤ 122 then c - 32 else c
def upL (l : List UInt8) : List UInt8 := l.map upB
def upS (s : ByteArray) : ByteArray := ⟨(upL s.data.toList).toArray⟩
theorem upB_low {c : UInt8} (h1 : 97 ≤ c.toNat) (h2 : c.toNat ≤ 122) : ((upB c).toNat : Int) = (c.toNat : Int) - 32 := by
  rw [upB, if_pos ⟨h1, h2⟩, UInt8.toNat_sub_of_le _ _ (by rw [UInt8.le_iff_toNat_le]; have : (32 : UInt8).toNat = 32 := rfl; omega)]
  have : (32 : UInt8).toNat = 32 := rfl
  omega
theorem upB_no {c : UInt8} (h : ¬ (97 ≤ c.toNat ∧ c.toNat ≤ 122)) : upB c = c := by rw [upB, if_neg h]
theorem upL_length (l : List UInt8) : (upL l).length = l.length := by simp [upL]
end Pantry
namespace Go.Proofs.Ytdoddnnggamaiaa
open Go.RowKit Pantry

def UpPost (s : ByteArray) (w : World) (e : Ending) (w' : World) : Prop := e = .returned (.string (upS s)) ∧ Below w.heap.size w w'

set_option maxHeartbeats 400000 in
theorem upper_any (s : ByteArray) (w : World) (hs : s.size ≤ 140737488351232) : Calls Try.prog 17 #[.string s] w (UpPost s w) := by
  have HS := Lib.hid (show s.data.toList.length = s.size by rw [Array.length_toList]; rfl)
  go_enter Try.func17, Try.ntmps17
  go_wp2_with (refine wpl_bytes_of Try.underlying9 Try.underlying22 Try.underlying5 rfl _ rfl rfl ?_; intro w1 cap hcap hrow hb hsz)
  go_loopw [4, 5, 10] (fun _ _ i wr => ∃ k : Nat, k ≤ s.size ∧ i = .int .i64 k ∧ BRow wr w.heap.size (mapTo upB s.data.toList k) ∧ Below w.heap.size w wr) (fun _ _ i _ => s.size - (intOf i).toNat)
  case atStart => exact ⟨0, Nat.zero_le _, rfl, by rw [mapTo_zero]; exact hrow, hb⟩
  case round =>
    obtain ⟨k, hk, rfl, hrow, hb⟩ := hrel
    by_cases hlt : k < s.size
    · obtain ⟨c, hc⟩ : ∃ c, s.data.toList[k]? = some c := ⟨_, List.getElem?_eq_getElem (by have := HS.out; omega)⟩
      have hcell := hrow.cell (mapTo_get upB _ hc)
      have hfr := hrow.frozen (j := k) (by rw [mapTo_length]; have := HS.out; omega)
      have hc8 := c.toNat_lt
      by_cases hl : 97 ≤ c.toNat ∧ c.toNat ≤ 122
      · obtain ⟨h1, h2⟩ := hl
        have hset := hrow.set (j := k) (by rw [mapTo_length]; have := HS.out; omega) (upB c)
        rw [← mapTo_succ upB _ hc, upB_low h1 h2] at hset
        have hb2 := hb.setCell (p := ⟨w.heap.size, k, none⟩) (Nat.le_refl _) (.int .u8 ((c.toNat : Int) - 32))
        have HT := Lib.hid hset
        clear hset
        go_wp2
        go_roundw
        case rel => exact ⟨k + 1, by omega, by go_num, HT.out, hb2⟩
        case measure => simp [intOf]; omega
      · have HT := Lib.hid (show BRow wr w.heap.size (mapTo upB s.data.toList (k + 1)) by rw [mapTo_skip upB _ hc (upB_no hl)]; exact hrow)
        by_cases h1 : 97 ≤ c.toNat
        all_goals
          go_wp2
          go_roundw
          case rel => exact ⟨k + 1, by omega, by go_num, HT.out, hb⟩
          case measure => simp [intOf]; omega
    · rw [mapTo_whole upB _ (by have := HS.out; omega)] at hrow
      have hrd := hrow.rd
      clear hrow
      go_wp2_with (refine wpl_string_of Try.underlying22 Try.underlying5 Try.underlying9 rfl _ rfl (upL s.data.toList) rfl (by rw [upL_length, HS.out]) hrd ?_)
      go_ret
      exact ⟨rfl, hb⟩
end Go.Proofs.Ytdoddnnggamaiaa
