/- What 'without' leaves is what Remove and Trim leave: plain. -/
import Derived.Test.YtefoieloakfhfaaZRef4
namespace Go.Proofs.Ytefoieloakfhfaa
open Go.RowKit Pantry

theorem keep_but {i j : Nat} : keepAt (i : Int) ((i : Int) + 1) false j = !decide (j = i) := by
  unfold keepAt
  by_cases h : j = i
  · subst h; simp; omega
  · by_cases h1 : (i : Int) ≤ (j : Int) <;> by_cases h2 : (j : Int) < (i : Int) + 1 <;> simp_all <;> omega
theorem filter_far {i a : Nat} {c : List Txt} (h : i < a ∨ a + c.length ≤ i) : filterAt (keepAt (i : Int) ((i : Int) + 1) false) a c = c := by
  induction c generalizing a with
  | nil => rfl
  | cons x r ih =>
    have hne : ¬ a = i := by simp at h; omega
    simp only [filterAt, keep_but]
    rw [if_pos (by simp [hne])]
    congr 1
    exact ih (by simp at h; omega)
theorem filter_near {i a : Nat} {c : List Txt} (h : a ≤ i) (h2 : i < a + c.length) : filterAt (keepAt (i : Int) ((i : Int) + 1) false) a c = dropAt c (i - a) := by
  induction c generalizing a with
  | nil => simp at h2; omega
  | cons x r ih =>
    simp only [filterAt, keep_but]
    by_cases hai : a = i
    · subst hai
      rw [if_neg (by simp), filter_far (.inl (by omega)), Nat.sub_self, dropAt_zero]
    · rw [if_pos (by simp [hai]), ih (by omega) (by simp at h2; omega)]
      obtain ⟨n, hn⟩ : ∃ n, i - a = n + 1 := ⟨i - a - 1, by omega⟩
      rw [hn, show i - (a + 1) = n by omega]
      simp [dropAt]
theorem without_far {i a : Nat} {css : List (List Txt)} (h : i < a) : withoutC (keepAt (i : Int) ((i : Int) + 1) false) a css = css := by
  induction css generalizing a with
  | nil => rfl
  | cons c r ih => simp only [withoutC]; rw [filter_far (.inl h), ih (by omega)]
theorem without_near {i a : Nat} {css : List (List Txt)} (h : a ≤ i) (h2 : i < a + total css) : ∃ c, css[(findC css (i - a)).1]? = some c ∧ (findC css (i - a)).2 < c.length ∧
    withoutC (keepAt (i : Int) ((i : Int) + 1) false) a css = css.set (findC css (i - a)).1 (dropAt c (findC css (i - a)).2) := by
  induction css generalizing a with
  | nil => simp [total] at h2; omega
  | cons c r ih =>
    have ht : total (c :: r) = c.length + total r := by simp [total]
    rw [ht] at h2
    by_cases hc : i < a + c.length
    · have hf : findC (c :: r) (i - a) = (0, i - a) := by
        rw [findC, if_neg (by omega)]
      rw [hf]
      refine ⟨c, rfl, by simp; omega, ?_⟩
      simp only [withoutC, List.set_cons_zero]
      rw [filter_near h hc, without_far (by omega)]
    · have hr : r.isEmpty = false := by
        cases r with
        | nil => simp [total] at h2; omega
        | cons x l => rfl
      have hf : findC (c :: r) (i - a) = ((findC r (i - a - c.length)).1 + 1, (findC r (i - a - c.length)).2) := by
        rw [findC, if_pos ⟨hr, by omega⟩]
      obtain ⟨d, h3, h4, h5⟩ := ih (a := a + c.length) (by omega) (by omega)
      rw [show i - (a + c.length) = i - a - c.length by omega] at h3 h4 h5
      rw [hf]
      refine ⟨d, by simpa using h3, h4, ?_⟩
      simp only [withoutC, List.set_cons_succ]
      rw [filter_far (.inr (by omega)), h5]
theorem full_set {css : List (List Txt)} (hg : ∀ c ∈ css, c ≠ []) {k : Nat} {c d : List Txt} (hk : css[k]? = some c) : full (css.set k d) = if d.isEmpty then dropAt css k else css.set k d := by
  induction css generalizing k with
  | nil => simp at hk
  | cons x l ih =>
    have hx : x.isEmpty = false := by
      have := hg x List.mem_cons_self
      cases x with
      | nil => exact absurd rfl this
      | cons => rfl
    have hl : ∀ c ∈ l, c ≠ [] := fun c hc => hg c (List.mem_cons_of_mem _ hc)
    cases k with
    | zero =>
      rw [List.set_cons_zero, full_cons, full_none hl]
      cases d.isEmpty <;> simp [dropAt]
    | succ k =>
      rw [List.set_cons_succ, full_cons, hx, ih hl (by simpa using hk)]
      cases d.isEmpty <;> simp [dropAt]
theorem without_remove {css : List (List Txt)} (hg : DGood css) {i : Nat} (hi : i < total css) : full (withoutC (keepAt (i : Int) ((i : Int) + 1) false) 0 css) = removeC i css := by
  obtain ⟨c, h1, h2, h3⟩ := without_near (css := css) (a := 0) (Nat.zero_le i) (by omega)
  rw [Nat.sub_zero] at h1 h2 h3
  rw [h3, full_set hg.some_ h1]
  unfold removeC
  rw [h1]

theorem filter_congr {p r : Nat → Bool} {a n : Nat} {c : List Txt} (h : ∀ j, j < n → p j = r j) (hn : a + c.length ≤ n) : filterAt p a c = filterAt r a c := by
  induction c generalizing a with
  | nil => rfl
  | cons x l ih =>
    simp only [List.length_cons] at hn
    simp only [filterAt]
    rw [h a (by omega), ih (by omega)]
theorem filter_win (f t a : Nat) (c : List Txt) : filterAt (fun j => decide (f ≤ j ∧ j < t)) a c = (c.take (t - a)).drop (f - a) := by
  induction c generalizing a with
  | nil => simp [filterAt]
  | cons x l ih =>
    simp only [filterAt]
    rw [ih]
    by_cases h2 : a < t
    · obtain ⟨n, hn⟩ : ∃ n, t - a = n + 1 := ⟨t - a - 1, by omega⟩
      rw [hn, show t - (a + 1) = n by omega, List.take_succ_cons]
      by_cases h1 : f ≤ a
      · rw [if_pos (by simp [h1, h2]), show f - a = 0 by omega, show f - (a + 1) = 0 by omega]; rfl
      · obtain ⟨k, hk⟩ : ∃ k, f - a = k + 1 := ⟨f - a - 1, by omega⟩
        rw [if_neg (by simp; omega), hk, show f - (a + 1) = k by omega, List.drop_succ_cons]
    · rw [if_neg (by simp; omega), show t - a = 0 by omega, show t - (a + 1) = 0 by omega]
      simp
theorem cutC_eq (f t a : Nat) (c : List Txt) : cutC f t a c = (c.take (t - a)).drop (f - a) := by
  unfold cutC
  have h1 : c.take (min (t - a) c.length) = c.take (t - a) := by
    by_cases h : t - a ≤ c.length
    · rw [Nat.min_eq_left h]
    · rw [Nat.min_eq_right (by omega), List.take_of_length_le (Nat.le_refl _), List.take_of_length_le (by omega)]
  rw [h1]
  by_cases h : f - a ≤ c.length
  · rw [Nat.min_eq_left h]
  · rw [Nat.min_eq_right (by omega), List.drop_eq_nil_of_le (by simp; omega), List.drop_eq_nil_of_le (by simp; omega)]
theorem keep_win {F T : Int} {n j : Nat} (h : j < n) : keepAt F T true j = decide ((winOf F T n).1 ≤ j ∧ j < (winOf F T n).2) := by
  unfold keepAt winOf
  by_cases h0 : min T (n : Int) ≤ max F 0
  · rw [if_pos h0]
    simp
    omega
  · rw [if_neg h0]
    by_cases h1 : F ≤ (j : Int) <;> by_cases h2 : (j : Int) < T <;> simp [h1, h2] <;> omega
theorem without_trimAt {p : Nat → Bool} {f t a n : Nat} {css : List (List Txt)} (hp : ∀ j, j < n → p j = decide (f ≤ j ∧ j < t)) (hn : a + total css ≤ n) : withoutC p a css = trimAt f t a css := by
  induction css generalizing a with
  | nil => rfl
  | cons c r ih =>
    have ht : total (c :: r) = c.length + total r := by simp [total]
    rw [ht] at hn
    simp only [withoutC, trimAt]
    rw [filter_congr hp (by omega), filter_win, cutC_eq, ih (by omega)]
theorem without_trim (F T : Int) (css : List (List Txt)) : full (withoutC (keepAt F T true) 0 css) = trimC F T css := by
  unfold trimC
  rw [without_trimAt (n := total css) (fun j hj => keep_win hj) (by omega)]
end Go.Proofs.Ytefoieloakfhfaa
