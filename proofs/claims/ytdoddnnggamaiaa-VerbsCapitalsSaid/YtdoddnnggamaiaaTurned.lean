/- A name with some of its letters turned: the same name in capitals. -/
import Derived.Test.YtdoddnnggamaiaaUp
namespace Go.Proofs.Ytdoddnnggamaiaa
open Go.RowKit Pantry

def TurnedPost (s : ByteArray) (w : World) (e : Ending) (w' : World) : Prop := ∃ L, e = .returned (.string ⟨L.toArray⟩) ∧ L.length = s.size ∧ upL L = upL s.data.toList ∧ Below w.heap.size w w'
/-- What the loop has. -/
def TurnRel (s : ByteArray) (w wr : World) : Prop := ∃ L, BRow wr w.heap.size L ∧ L.length = s.size ∧ upL L = upL s.data.toList ∧ Below w.heap.size w wr
theorem flip_all : ∀ n : Fin 256, (65 ≤ n.val ∧ n.val ≤ 90 ∨ 97 ≤ n.val ∧ n.val ≤ 122) → bits .xor .u8 (n.val : Int) 32 = ((UInt8.ofNat n.val ^^^ 32).toNat : Int) ∧ upB (UInt8.ofNat n.val ^^^ 32) = upB (UInt8.ofNat n.val) := by decide +kernel
theorem flip_at (c : UInt8) (h : 65 ≤ c.toNat ∧ c.toNat ≤ 90 ∨ 97 ≤ c.toNat ∧ c.toNat ≤ 122) : bits .xor .u8 (c.toNat : Int) 32 = ((c ^^^ 32).toNat : Int) ∧ upB (c ^^^ 32) = upB c := by
  have := flip_all ⟨c.toNat, c.toNat_lt⟩ h
  simpa using this
theorem upL_set (L : List UInt8) (k : Nat) {c d : UInt8} (hc : L[k]? = some c) (h : upB d = upB c) : upL (L.set k d) = upL L := by
  obtain ⟨hk, rfl⟩ := List.getElem?_eq_some_iff.1 hc
  unfold upL
  rw [List.map_set, h]
  apply List.ext_getElem (by simp)
  intro i h1 h2
  rw [List.getElem_set]
  split
  · rename_i e; subst e; simp
  · rfl
theorem turn_set {s : ByteArray} {w wr : World} {L : List UInt8} {k : Nat} {c : UInt8} (hrow : BRow wr w.heap.size L) (hl : L.length = s.size) (hu : upL L = upL s.data.toList) (hb : Below w.heap.size w wr) (hc : L[k]? = some c)
    (h : 65 ≤ c.toNat ∧ c.toNat ≤ 90 ∨ 97 ≤ c.toNat ∧ c.toNat ≤ 122) : TurnRel s w (wr.setCell ⟨w.heap.size, k, none⟩ (.int .u8 (bits .xor .u8 (c.toNat : Int) 32))) := by
  obtain ⟨h1, h2⟩ := flip_at c h
  rw [h1]
  exact ⟨L.set k (c ^^^ 32), hrow.set (List.getElem?_eq_some_iff.1 hc).1 _, by rw [List.length_set, hl], by rw [upL_set L k hc h2, hu], hb.setCell (p := ⟨w.heap.size, k, none⟩) (Nat.le_refl _) _⟩

set_option maxHeartbeats 2000000 in
theorem turned_any (s : ByteArray) (m : Nat) (w : World) (hs : s.size ≤ 140737488351232) : Calls Try.prog 28 #[.string s, .int .u64 m] w (TurnedPost s w) := by
  have HS := Lib.hid (show s.data.toList.length = s.size by rw [Array.length_toList]; rfl)
  go_enter Try.func28, Try.ntmps28
  go_wp2_with (refine wpl_bytes_of Try.underlying9 Try.underlying22 Try.underlying5 rfl _ rfl rfl ?_; intro w1 cap hcap hrow hb hsz)
  go_loopw [6, 7] (fun i _ wr => ∃ k : Nat, k ≤ s.size ∧ i = .int .i64 k ∧ TurnRel s w wr) (fun i _ _ => s.size - (intOf i).toNat)
  case atStart => exact ⟨0, Nat.zero_le _, rfl, _, hrow, HS.out, rfl, hb⟩
  case round =>
    obtain ⟨k, hk, rfl, L, hrow, hLl, hLu, hb⟩ := hrel
    by_cases hlt : k < s.size
    · obtain ⟨c, hc⟩ : ∃ c, L[k]? = some c := ⟨_, List.getElem?_eq_getElem (by omega)⟩
      have hcell := hrow.cell hc
      have hfr := hrow.frozen (j := k) (by omega)
      have hc8 := c.toNat_lt
      obtain ⟨z, hz⟩ : ∃ z, (bits BinOp.and IntKind.u64 ((m : Int) / 2 ^ (k % 64)) 1 == 1) = z := ⟨_, rfl⟩
      by_cases h1 : 97 ≤ c.toNat ∧ c.toNat ≤ 122
      · have HT := Lib.hid (turn_set hrow hLl hLu hb hc (Or.inr h1))
        obtain ⟨h1, h2⟩ := h1
        cases z
        · go_wp2
          go_roundw
          case rel => exact ⟨k + 1, by omega, by go_num, L, hrow, hLl, hLu, hb⟩
          case measure => simp [intOf]; omega
        · go_wp2
          go_roundw
          case rel => exact ⟨k + 1, by omega, by go_num, HT.out⟩
          case measure => simp [intOf]; omega
      · by_cases h2 : 65 ≤ c.toNat ∧ c.toNat ≤ 90
        · have HT := Lib.hid (turn_set hrow hLl hLu hb hc (Or.inl h2))
          obtain ⟨h2, h3⟩ := h2
          cases z
          · go_wp2
            go_roundw
            case rel => exact ⟨k + 1, by omega, by go_num, L, hrow, hLl, hLu, hb⟩
            case measure => simp [intOf]; omega
          · go_wp2
            go_roundw
            case rel => exact ⟨k + 1, by omega, by go_num, HT.out⟩
            case measure => simp [intOf]; omega
        · by_cases h4 : 65 ≤ c.toNat
          · by_cases h3 : 97 ≤ c.toNat
            all_goals
              go_wp2
              go_roundw
              case rel => exact ⟨k + 1, by omega, by go_num, L, hrow, hLl, hLu, hb⟩
              case measure => simp [intOf]; omega
          · go_wp2
            go_roundw
            case rel => exact ⟨k + 1, by omega, by go_num, L, hrow, hLl, hLu, hb⟩
            case measure => simp [intOf]; omega
    · go_wp2_with (refine wpl_string_of Try.underlying22 Try.underlying5 Try.underlying9 rfl _ rfl L rfl hLl hrow.rd ?_)
      go_ret
      exact ⟨L, rfl, hLl, hLu, hb⟩
end Go.Proofs.Ytdoddnnggamaiaa
