
/- What a value is told as makes the same value again: the plain law. -/
import Derived.Test.YteiklgbjjmlmaaaGreatZVMake
set_option linter.unusedVariables false
set_option linter.unusedSimpArgs false
namespace Pantry
open Go Go.RowKit
theorem longT_le {B : Int} (m : Int) (l : List (List UInt8)) (hm : m ≤ B) (h : ∀ s ∈ l, (s.length : Int) ≤ B) : longT m l ≤ B := by
  induction l generalizing m with
  | nil => exact hm
  | cons x l ih => exact ih (max m (x.length : Int)) (by have := h x List.mem_cons_self; omega) fun s hs => h s (List.mem_cons_of_mem _ hs)
theorem longF_le {B : Int} (m : Int) (l : List Fld) (hm : m ≤ B) (h : ∀ s ∈ l, (s.1.length : Int) ≤ B ∧ (s.2.length : Int) ≤ B) : longF m l ≤ B := by
  induction l generalizing m with
  | nil => exact hm
  | cons x l ih => exact ih (max m (max (x.1.length : Int) (x.2.length : Int))) (by have := h x List.mem_cons_self; omega) fun s hs => h s (List.mem_cons_of_mem _ hs)
theorem longM_le {B : Int} (m : Int) (l : List Mb) (hm : m ≤ B) (h : ∀ s ∈ l, (s.1.length : Int) ≤ B) : longM m l ≤ B := by
  induction l generalizing m with
  | nil => exact hm
  | cons x l ih => exact ih (max m (x.1.length : Int)) (by have := h x List.mem_cons_self; omega) fun s hs => h s (List.mem_cons_of_mem _ hs)
theorem Fine.wrong {p : PD} (h : Fine p) : wrongP p = 0 := by
  have hk := h.kind
  have b1 : belT p = true := by
    unfold belT
    by_cases e : p.kind = 1
    · simp [e]
    · simp [h.noText e]
  have b2 : belI p = true := by
    unfold belI
    by_cases e : p.kind = 2
    · simp [e]
    · by_cases e4 : p.kind = 4
      · simp [e4]
      · simp [h.noItems e e4]
  have b3 : belF p = true := by
    unfold belF
    by_cases e : p.kind = 3
    · simp [e]
    · simp [h.noPairs e]
  have b4 : belR p = true := by
    unfold belR
    by_cases e : p.kind = 5
    · simp [e]
    · simp [h.noRanks e]
  have ht : twiceP p = false := by
    unfold twiceP
    rw [Bool.or_eq_false_iff]
    refine ⟨by simp [dupB, h.names], ?_⟩
    unfold nanB
    rw [List.any_eq_false]
    intro x hx
    simpa using h.num x hx
  have hl : ¬ 1048576 < longP p := by
    have h1 : longP p ≤ 1048576 := longM_le _ _ (longF_le _ _ (longT_le _ _ (by have := h.text; omega) fun s hs => by have := h.items s hs; omega) fun s hs => by have := h.flds s hs; omega) fun s hs => by have := h.mems s hs; omega
    omega
  have hm : ¬ 1048576 < mostP p := by
    have := h.few
    unfold mostP
    omega
  unfold wrongP
  rw [if_neg (by rw [b1, b2, b3, b4]; simp; omega), ht, if_neg (by simp), if_neg hl, if_neg hm]
theorem wrongP_cases (p : PD) : wrongP p = 0 ∨ wrongP p = 2 ∨ wrongP p = 3 ∨ wrongP p = 4 := by
  unfold wrongP
  split
  · simp
  · split
    · simp
    · split
      · simp
      · split <;> simp
theorem Canon.fine {p q : PD} (h : Fine p) (hc : Canon p q) : Fine q := by
  have hfew := h.few
  cases hc with
  | text hk => exact ⟨by simp, h.text, by simp, by simp, by simp, by simp, by simp [namesP, namesT], by simp, by simp, by simp, by simp, by simp⟩
  | list hk => exact ⟨by simp, by simp, h.items, by simp, by simp, by simp; omega, by simp [namesP, namesT], by simp, by simp, by simp, by simp, by simp⟩
  | record hk =>
    have hn : (p.pairs.map (·.1)).Nodup := by
      have := h.names
      unfold namesP at this
      rw [List.append_assoc] at this
      exact (List.nodup_append.1 (List.nodup_append.1 this).2.1).1
    refine ⟨by simp, by simp, by simp, fun x hx => h.flds x ((sortK_perm p.pairs).mem_iff.1 hx), by simp, ?_, ?_, by simp, by simp, by simp, by simp, by simp⟩
    · have := (sortK_perm p.pairs).length_eq
      simp; omega
    · simp only [namesP, namesT, List.take_nil, List.map_nil, List.append_nil]
      rw [if_neg (by decide), List.nil_append]
      exact ((sortK_perm p.pairs).map (·.1)).nodup_iff.2 hn
  | flock hk =>
    have hn : p.items.Nodup := by
      have := h.names
      unfold namesP namesT at this
      rw [if_pos hk, List.take_length, List.append_assoc] at this
      exact (List.nodup_append.1 this).1
    refine ⟨by simp, by simp, fun s hs => h.items s ((sortT_perm p.items).mem_iff.1 hs), by simp, by simp, ?_, ?_, by simp, by simp, by simp, by simp, by simp⟩
    · have := (sortT_perm p.items).length_eq
      simp; omega
    · simp only [namesP, namesT, List.map_nil, List.append_nil, List.take_length]
      simp only [if_true]
      exact (sortT_perm p.items).nodup_iff.2 hn
  | ranks l hk hl hr =>
    have hn : (p.ranks.map (·.1)).Nodup := by
      have := h.names
      unfold namesP at this
      exact (List.nodup_append.1 this).2.1
    refine ⟨by simp, by simp, by simp, by simp, fun x hx => h.mems x (hl.mem_iff.1 hx), ?_, ?_, fun x hx => h.num x (hl.mem_iff.1 hx), by simp, by simp, by simp, by simp⟩
    · have := hl.length_eq
      simp; omega
    · simp only [namesP, namesT, List.take_nil, List.map_nil, List.nil_append]
      rw [if_neg (by decide), List.nil_append]
      exact (hl.map (·.1)).nodup_iff.2 hn
theorem ranks_unique {l l' : List Mb} (h : l.Perm l') (h1 : Rises l) (h2 : Rises l') : l = l' :=
  rising_unique (R := fun a b : Mb => cmpR a b < 0) (fun a => cmpR_irrefl a) (fun h1 h2 => cmpR_trans h1 h2) h h1 h2
theorem Fine.pairKeys {p : PD} (h : Fine p) : (p.pairs.map (·.1)).Nodup := by
  have := h.names
  unfold namesP at this
  rw [List.append_assoc] at this
  exact (List.nodup_append.1 (List.nodup_append.1 this).2.1).1
theorem Fine.itemKeys {p : PD} (h : Fine p) (hk : p.kind = 4) : p.items.Nodup := by
  have := h.names
  unfold namesP namesT at this
  rw [if_pos hk, List.take_length, List.append_assoc] at this
  exact (List.nodup_append.1 this).1
theorem Canon.again {p q q' : PD} (h : Fine p) (h1 : Canon p q) (h2 : Canon q q') : q' = q := by
  cases h1 with
  | text hk => cases h2 <;> first | rfl | simp_all
  | list hk => cases h2 <;> first | rfl | simp_all
  | record hk =>
    cases h2 with
    | record h3 => show (⟨3, [], [], sortK (sortK p.pairs), []⟩ : PD) = _; rw [sortK_congr (sortK_perm _) h.pairKeys]
    | text h3 => simp at h3
    | list h3 => simp at h3
    | flock h3 => simp at h3
    | ranks l h3 _ _ => simp at h3
  | flock hk =>
    cases h2 with
    | flock h3 => show (⟨4, [], sortT (sortT p.items), [], []⟩ : PD) = _; rw [sortT_congr (sortT_perm _) (h.itemKeys hk)]
    | text h3 => simp at h3
    | list h3 => simp at h3
    | record h3 => simp at h3
    | ranks l h3 _ _ => simp at h3
  | ranks l hk hl hr =>
    cases h2 with
    | ranks l' h3 hl' hr' => rw [ranks_unique hl' hr' hr]
    | text h3 => simp at h3
    | list h3 => simp at h3
    | record h3 => simp at h3
    | flock h3 => simp at h3
end Pantry
namespace Go.Proofs.YteiklgbjjmlmaaaGreat
open Pantry
theorem Fine.big {p : PD} (h : Fine p) : PlainBig p :=
  ⟨by have := h.text; omega, by have := h.few; omega, by have := h.few; omega, by have := h.few; omega, fun s hs => by have := h.items s hs; omega, fun x hx => by have := h.flds x hx; omega, fun x hx => by have := h.flds x hx; omega, fun x hx => by have := h.mems x hx; omega⟩
end Go.Proofs.YteiklgbjjmlmaaaGreat
