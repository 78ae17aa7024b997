/- Trim: the plain law. -/
import Derived.Test.YtefoieloakfhfaaTrim2
namespace Pantry
open Go Go.RowKit
theorem full_flatten (cs : List (List Txt)) : (full cs).flatten = cs.flatten := by
  induction cs with
  | nil => rfl
  | cons c cs ih =>
    rw [full_cons]
    split
    · rename_i h
      have : c = [] := by simpa using h
      subst this
      simpa using ih
    · simp only [List.flatten_cons, ih]
theorem cutC_eq (f t a : Nat) (c : List Txt) : cutC f t a c = (c.take (t - a)).drop (f - a) := by
  unfold cutC
  have e : c.take (min (t - a) c.length) = c.take (t - a) := by
    by_cases h : t - a ≤ c.length
    · rw [Nat.min_eq_left h]
    · rw [Nat.min_eq_right (by omega), List.take_of_length_le (Nat.le_refl _), List.take_of_length_le (by omega)]
  rw [e]
  by_cases h : f - a ≤ c.length
  · rw [Nat.min_eq_left h]
  · rw [Nat.min_eq_right (by omega), List.drop_eq_nil_of_le (by rw [List.length_take]; omega), List.drop_eq_nil_of_le (by rw [List.length_take]; omega)]
theorem trimAt_flatten (f t a : Nat) (cs : List (List Txt)) : (trimAt f t a cs).flatten = (cs.flatten.take (t - a)).drop (f - a) := by
  induction cs generalizing a with
  | nil => simp [trimAt]
  | cons c cs ih =>
    simp only [trimAt, List.flatten_cons, ih, cutC_eq]
    rw [List.take_append, List.drop_append, List.length_take]
    congr 1
    rw [show t - (a + c.length) = t - a - c.length by omega]
    by_cases h : c.length ≤ t - a
    · rw [Nat.min_eq_right h]
      congr 1; omega
    · rw [show t - a - c.length = 0 by omega]
      simp
theorem trimC_row (F T : Int) (cs : List (List Txt)) : (trimC F T cs).flatten = (cs.flatten.take (winOf F T (total cs)).2).drop (winOf F T (total cs)).1 := by
  unfold trimC
  rw [full_flatten, trimAt_flatten, Nat.sub_zero, Nat.sub_zero]
theorem trimAt_length (f t a : Nat) (cs : List (List Txt)) : (trimAt f t a cs).length = cs.length := by
  induction cs generalizing a with
  | nil => rfl
  | cons c cs ih => simp [trimAt, ih]
theorem trimAt_mem {f t a : Nat} {cs : List (List Txt)} {c' : List Txt} (h : c' ∈ trimAt f t a cs) : ∃ c ∈ cs, c'.length ≤ c.length ∧ ∀ x ∈ c', x ∈ c := by
  induction cs generalizing a with
  | nil => simp [trimAt] at h
  | cons c cs ih =>
    simp only [trimAt, List.mem_cons] at h
    rcases h with rfl | h
    · refine ⟨c, by simp, by rw [cutC_eq]; simp; omega, fun x hx => ?_⟩
      rw [cutC_eq] at hx
      exact List.mem_of_mem_take (List.mem_of_mem_drop hx)
    · obtain ⟨c0, h1, h2⟩ := ih h
      exact ⟨c0, by simp [h1], h2⟩
theorem DGood.trim {cs : List (List Txt)} (h : DGood cs) (F T : Int) : DGood (trimC F T cs) ∧ total (trimC F T cs) ≤ total cs := by
  have htot : total (trimC F T cs) ≤ total cs := by
    rw [← flatten_length, trimC_row, ← flatten_length cs]
    rw [List.length_drop, List.length_take]
    omega
  refine ⟨⟨⟨?_, ?_, Nat.le_trans htot h.total, ?_⟩, fun c hc => (full_mem hc).2⟩, htot⟩
  · intro c hc
    obtain ⟨c0, h1, h2, -⟩ := trimAt_mem (full_mem hc).1
    exact Nat.le_trans h2 (h.chunk c0 h1)
  · intro c hc x hx
    obtain ⟨c0, h1, -, h3⟩ := trimAt_mem (full_mem hc).1
    exact h.text c0 h1 x (h3 x hx)
  · have h1 : (trimC F T cs).length ≤ (trimAt (winOf F T (total cs)).1 (winOf F T (total cs)).2 0 cs).length := List.length_filter_le _ _
    rw [trimAt_length] at h1
    exact Nat.le_trans h1 h.rows
end Pantry
namespace Go.Proofs.Ytefoieloakfhfaa
open Go.RowKit Pantry

theorem trim_nil (w : World) (F T : Int) : Calls Try.prog 19 #[.pointer none, .int .i64 F, .int .i64 T] w fun e w' => e = .returned (.tuple #[]) ∧ w = w' := by
  go_enter Try.func19, Try.ntmps19
  go_wp2_with fail
  (try simp only [Exit.inBlock, Exit.then]); refine bodyPost_ret (results_none rfl _ _ _) rfl ?_
  exact ⟨rfl, rfl⟩
end Go.Proofs.Ytefoieloakfhfaa
