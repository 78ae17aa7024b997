/- A row of texts, sorted. -/
import Derived.Test.YtelbmphmihjgfaaGreatZKsTouch
import Derived.Test.YtelbmphmihjgfaaGreatZSortRow
import Derived.Test.YtelbmphmihjgfaaGreatSrtE
set_option linter.unusedVariables false
set_option linter.unusedSimpArgs false
namespace Pantry
open Go Go.RowKit Go.Proofs Go.Sort
def txC (k : List UInt8) : Value := .string ⟨k.toArray⟩
theorem txC_one (l : List (List UInt8)) : ∀ u ∈ l.map txC, u.oneCell' = true := by
  intro u hu
  obtain ⟨k, -, rfl⟩ := List.mem_map.1 hu
  rfl
/-- The texts in their order. -/
def sortT (l : List (List UInt8)) : List (List UInt8) := l.mergeSort leB
theorem le_leB : ∀ x y : List UInt8, decide (x ≤ y) = leB x y := by
  have hlt : ∀ a b : List UInt8, a < b ↔ cmpB a b < 0 := by
    intro a
    induction a with
    | nil =>
      intro b
      cases b with
      | nil => simp [cmpB, Lib.compareBytes]
      | cons y ys => simp [cmpB, Lib.compareBytes]
    | cons x xs ih =>
      intro b
      cases b with
      | nil => simp [cmpB, Lib.compareBytes]
      | cons y ys =>
        rw [List.cons_lt_cons_iff, ih]
        simp only [cmpB, Lib.compareBytes]
        by_cases h1 : x < y
        · simp [h1]
        · by_cases h2 : y < x
          · have : x ≠ y := fun e => by subst e; exact h1 h2
            simp [h1, h2, this]
          · have : x = y := UInt8.le_antisymm (UInt8.not_lt.1 h2) (UInt8.not_lt.1 h1)
            simp [this]
  intro x y
  have h1 : (x ≤ y) ↔ ¬ cmpB y x < 0 := by rw [← hlt y x]; exact List.not_lt.symm
  rw [leB, ← decide_not]
  exact decide_eq_decide.2 h1
theorem sortT_perm (l : List (List UInt8)) : (sortT l).Perm l := List.mergeSort_perm _ _
theorem sortT_rises {l : List (List UInt8)} (h : l.Nodup) : (sortT l).Pairwise fun p q => cmpB p q < 0 := by
  have h1 : (sortT l).Pairwise fun p q => leB p q = true := List.pairwise_mergeSort (le := leB) (fun a b c => leB_trans) (fun a b => leB_total _ _) l
  have h2 : (sortT l).Nodup := (sortT_perm l).nodup_iff.2 h
  refine (h1.and h2).imp fun {p q} ⟨e1, e2⟩ => ?_
  simp only [leB, Bool.not_eq_true', decide_eq_false_iff_not] at e1
  exact (cmpB_tri e2).resolve_right e1
theorem sortT_unique {l m : List (List UInt8)} (hm : m.Perm l) (h : m.Pairwise fun p q => cmpB p q < 0) : m = sortT l := by
  have hn : m.Nodup := h.imp fun {p q} e e2 => by rw [e2] at e; exact cmpB_irr _ e
  exact rising_unique (R := fun p q : List UInt8 => cmpB p q < 0) (fun a => cmpB_irr _) (fun h1 h2 => cmpB_lt_trans h1 h2) (hm.trans (sortT_perm l).symm) h (sortT_rises (hm.nodup_iff.1 hn))
theorem sortT_congr {l m : List (List UInt8)} (hm : m.Perm l) (h : l.Nodup) : sortT m = sortT l :=
  sortT_unique ((sortT_perm m).trans hm) (sortT_rises (hm.nodup_iff.2 h))
end Pantry
namespace Go.Proofs.YtelbmphmihjgfaaGreat.DEnt
open Go.RowKit Pantry Go.Sort

attribute [local go_sem] Oper.semAt_some
attribute [-go_sem] Builtin.append_
theorem sortTexts_some (w : World) (base g cap n : Nat) (l : List (List UInt8)) (hl : l.length = n) (hn : n ≤ 1073741824) (h : w.ownsRow base 9 1 (.slice (some ⟨g, 0, none⟩) n cap) n (l.map txC)) :
    Calls Tryz.prog 48 #[.slice (some ⟨g, 0, none⟩) n cap] w fun e w' => e = .returned (.tuple #[]) ∧ w'.ownsRow base 9 1 (.slice (some ⟨g, 0, none⟩) n cap) n ((sortT l).map txC) ∧ w.grownBy w' (some g) := by
  have hH : Holds encStr w g 0 l.toArray := holds_row encStr (d := l.toArray) h
  have hgl : g < w.heap.size := (h.lt g rfl).2
  have hcon := Any.slices_Sort_string Tryz.lays190 g 0 cap l w hH hgl (by omega)
  rw [hl] at hcon
  refine hcon.mono ?_
  rintro e w' ⟨rfl, q, os, rfl⟩
  have he : (l.mergeSort fun x y => decide (x ≤ y)) = sortT l := by
    unfold sortT
    congr 1
    funext x y
    exact le_leB x y
  rw [he]
  obtain ⟨r1, r2⟩ := sort_row (d := l.toArray) (d' := (sortT l).toArray) encStr h (by simpa using (sortT_perm l).length_eq) q os
  exact ⟨rfl, r1, r2⟩
theorem sortTexts_any (w : World) (base n : Nat) (v : Value) (l : List (List UInt8)) (hl : l.length = n) (hn : n ≤ 1073741824) (h : w.ownsRow base 9 1 v n (l.map txC)) :
    Calls Tryz.prog 48 #[v] w fun e w' => e = .returned (.tuple #[]) ∧ w'.ownsRow base 9 1 v n ((sortT l).map txC) ∧ w.grownBy w' v.ownBlock := by
  rcases h.2 with ⟨hv, h0⟩ | ⟨g, cap, cur, hv, -⟩
  · subst hv
    have hn0 : l = [] := List.length_eq_zero_iff.1 (by omega)
    subst hn0
    subst h0
    refine (Any.slices_Sort_string_none Tryz.lays190 none 0 w).mono ?_
    rintro e w' ⟨rfl, rfl⟩
    exact ⟨rfl, by rw [show sortT [] = [] by simp [sortT]]; exact h, ⟨rfl, rfl, rfl, Nat.le_refl _, fun _ _ _ => rfl⟩⟩
  · subst hv
    exact sortTexts_some w base g cap n l hl hn h
end Go.Proofs.YtelbmphmihjgfaaGreat.DEnt
