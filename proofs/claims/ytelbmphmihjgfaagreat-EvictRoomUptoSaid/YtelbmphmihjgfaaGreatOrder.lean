/- Plain laws on the order of texts. -/
import Derived.Lib.Bytealg
import GoSem.Op.String
namespace Pantry
open Go
abbrev cmpB := Lib.compareBytes
theorem cmpB_self : ∀ a : List UInt8, cmpB a a = 0
  | [] => rfl
  | a :: as => by simp [cmpB, Lib.compareBytes, UInt8.lt_irrefl]; exact cmpB_self as
theorem cmpB_eq : ∀ {a b : List UInt8}, cmpB a b = 0 → a = b
  | [], [], _ => rfl
  | [], _ :: _, h => by simp [cmpB, Lib.compareBytes] at h
  | _ :: _, [], h => by simp [cmpB, Lib.compareBytes] at h
  | a :: as, b :: bs, h => by
    simp only [cmpB, Lib.compareBytes] at h
    split at h
    · omega
    · split at h
      · omega
      · rename_i h1 h2
        have : a = b := UInt8.le_antisymm (UInt8.not_lt.1 h2) (UInt8.not_lt.1 h1)
        rw [this, cmpB_eq h]
theorem cmpB_zero {a b : List UInt8} : cmpB a b = 0 ↔ a = b := ⟨cmpB_eq, fun h => h ▸ cmpB_self a⟩
theorem cmpB_lt_trans : ∀ {a b c : List UInt8}, cmpB a b < 0 → cmpB b c < 0 → cmpB a c < 0
  | [], _, [], h1, h2 => by
    rename_i b
    cases b <;> simp [cmpB, Lib.compareBytes] at h1 h2
  | [], _, _ :: _, _, _ => by simp [cmpB, Lib.compareBytes]
  | a :: as, [], _, h1, _ => by simp [cmpB, Lib.compareBytes] at h1
  | a :: as, b :: bs, [], _, h2 => by simp [cmpB, Lib.compareBytes] at h2
  | a :: as, b :: bs, c :: cs, h1, h2 => by
    simp only [cmpB, Lib.compareBytes] at h1 h2 ⊢
    by_cases hab : a < b
    · by_cases hbc : b < c
      · rw [if_pos (UInt8.lt_trans hab hbc)]; omega
      · rw [if_neg hbc] at h2
        by_cases hcb : c < b
        · rw [if_pos hcb] at h2; omega
        · have : b = c := UInt8.le_antisymm (UInt8.not_lt.1 hcb) (UInt8.not_lt.1 hbc)
          rw [← this, if_pos hab]; omega
    · rw [if_neg hab] at h1
      by_cases hba : b < a
      · rw [if_pos hba] at h1; omega
      · rw [if_neg hba] at h1
        have e : a = b := UInt8.le_antisymm (UInt8.not_lt.1 hba) (UInt8.not_lt.1 hab)
        subst e
        by_cases hbc : a < c
        · rw [if_pos hbc]; omega
        · rw [if_neg hbc] at h2 ⊢
          by_cases hcb : c < a
          · rw [if_pos hcb] at h2; omega
          · rw [if_neg hcb] at h2 ⊢
            exact cmpB_lt_trans h1 h2
theorem cmpB_gt : ∀ {a b : List UInt8}, 0 < cmpB a b ↔ cmpB b a < 0
  | [], [] => by simp [cmpB, Lib.compareBytes]
  | [], _ :: _ => by simp [cmpB, Lib.compareBytes]
  | _ :: _, [] => by simp [cmpB, Lib.compareBytes]
  | a :: as, b :: bs => by
    simp only [cmpB, Lib.compareBytes]
    by_cases hab : a < b
    · rw [if_pos hab, if_neg (UInt8.lt_asymm hab), if_pos hab]; omega
    · rw [if_neg hab]
      by_cases hba : b < a
      · rw [if_pos hba, if_pos hba]; omega
      · rw [if_neg hba, if_neg hba, if_neg hab]
        exact cmpB_gt
theorem bytesLess_iff : ∀ (a b : List UInt8), Op.bytesLess a b = decide (cmpB a b < 0)
  | [], [] => by simp [Op.bytesLess, cmpB, Lib.compareBytes]
  | [], _ :: _ => by simp [Op.bytesLess, cmpB, Lib.compareBytes]
  | _ :: _, [] => by simp [Op.bytesLess, cmpB, Lib.compareBytes]
  | a :: as, b :: bs => by
    simp only [Op.bytesLess, cmpB, Lib.compareBytes]
    by_cases hab : a < b
    · simp [hab]
    · by_cases hba : b < a
      · have : a ≠ b := fun h => by subst h; exact hab hba
        simp [hab, hba, this]
      · have e : a = b := UInt8.le_antisymm (UInt8.not_lt.1 hba) (UInt8.not_lt.1 hab)
        subst e
        simp [hab]
        rw [bytesLess_iff as bs]
/-- Where a sought text would stand in a rising row. -/
theorem rising_below {l : List (List UInt8)} {s : List UInt8} (h : l.Pairwise fun a b => cmpB a b < 0) {k i : Nat} (hk : k < l.length) (hki : i ≤ k) (hc : cmpB l[k] s < 0) : cmpB (l[i]'(by omega)) s < 0 := by
  rcases Nat.lt_or_eq_of_le hki with hlt | rfl
  · exact cmpB_lt_trans (List.pairwise_iff_getElem.1 h i k (by omega) hk hlt) hc
  · exact hc
theorem rising_above {l : List (List UInt8)} {s : List UInt8} (h : l.Pairwise fun a b => cmpB a b < 0) {k i : Nat} (hi : i < l.length) (hki : k ≤ i) (hc : ¬ cmpB (l[k]'(by omega)) s < 0) : ¬ cmpB l[i] s < 0 := by
  rcases Nat.lt_or_eq_of_le hki with hlt | rfl
  · intro hx
    exact hc (cmpB_lt_trans (List.pairwise_iff_getElem.1 h k i (by omega) hi hlt) hx)
  · exact hc
end Pantry
