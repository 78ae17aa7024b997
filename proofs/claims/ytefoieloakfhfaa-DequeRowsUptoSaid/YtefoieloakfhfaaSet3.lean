/- Set: the plain law. -/
import Derived.Test.YtefoieloakfhfaaSet2
namespace Pantry
open Go Go.RowKit
theorem setC_row {cs : List (List Txt)} {i : Nat} (hi : i < total cs) (s : Txt) : (setC i s cs).flatten = cs.flatten.set i s := by
  have hne : cs ≠ [] := by rintro rfl; simp [total] at hi
  obtain ⟨c, h1, h2, h3, h4⟩ := findC_spec hne (Nat.le_of_lt hi)
  have h4 := h4 hi
  unfold setC
  rw [h1]
  simp only
  obtain ⟨⟨k, p⟩, hkp⟩ : ∃ q, findC cs i = q := ⟨_, rfl⟩
  rw [hkp] at h1 h2 h3 h4 ⊢
  simp only at h1 h2 h3 h4 ⊢
  have hT : (cs.take k).flatten.length = total (cs.take k) := flatten_length _
  rw [set_flatten h1, at_flatten h1, List.append_assoc, List.append_assoc, List.set_append_right _ _ (by omega), List.set_append_left _ _ (by omega)]
  rw [show i - (cs.take k).flatten.length = p by omega]
theorem DGood.set {cs : List (List Txt)} (h : DGood cs) {i : Nat} (hi : i < total cs) {s : Txt} (hs : s.length ≤ 1048576) : DGood (setC i s cs) ∧ total (setC i s cs) = total cs := by
  have hrow := setC_row hi s
  have htot : total (setC i s cs) = total cs := by
    rw [← flatten_length, hrow, List.length_set, flatten_length]
  refine ⟨?_, htot⟩
  have hne : cs ≠ [] := by rintro rfl; simp [total] at hi
  obtain ⟨c, h1, h2, h3, h4⟩ := findC_spec hne (Nat.le_of_lt hi)
  have h4 := h4 hi
  have hc := List.mem_of_getElem? h1
  have ht := h.total
  have hr := h.rows
  unfold setC at htot ⊢
  rw [h1] at htot ⊢
  simp only at htot ⊢
  refine ⟨⟨fun x hx => ?_, fun x hx y hy => ?_, by omega, by rw [List.length_set]; exact hr⟩, fun x hx => ?_⟩
  · rcases set_mem hx with h5 | rfl
    · exact h.chunk x h5
    · rw [List.length_set]; exact h.chunk c hc
  · rcases set_mem hx with h5 | rfl
    · exact h.text x h5 y hy
    · rcases List.mem_or_eq_of_mem_set hy with h6 | rfl
      · exact h.text c hc y h6
      · exact hs
  · rcases set_mem hx with h5 | rfl
    · exact h.some_ x h5
    · intro e
      have := congrArg List.length e
      rw [List.length_set] at this
      simp at this
      rw [this] at h4
      simp at h4
end Pantry
