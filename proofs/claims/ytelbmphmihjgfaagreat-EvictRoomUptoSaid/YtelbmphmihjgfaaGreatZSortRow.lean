/- What a sort leaves of a row of one's own; rising rows. -/
import Derived.Test.YtelbmphmihjgfaaGreatZMem
import Derived.Test.YtelbmphmihjgfaaGreatOrder
import Derived.Shelf.Sort.Plain
import Derived.Shelf.SlSortCmp.WholeK
set_option linter.unusedVariables false
set_option linter.unusedSimpArgs false
namespace Pantry
open Go Go.RowKit Go.Proofs Go.Sort
theorem holds_row {α : Type} [Inhabited α] (enc : α → Value) {w : World} {base : Nat} {e : TypeId} {size n cap g : Nat} {d : Array α} (h : w.ownsRow base e size (.slice (some ⟨g, 0, none⟩) n cap) n (d.toList.map enc)) : Holds enc w g 0 d := by
  intro j hj
  have hu : (d.toList.map enc)[j]? = some (enc d[j]!) := by simp [hj]
  have hc := h.cells (g := g) rfl j _ hu
  rw [Addr.add_base] at hc
  rw [Nat.zero_add]
  refine ⟨hc, ?_⟩
  rcases h.2 with ⟨hv, -⟩ | ⟨g', cap', cur, hv, -, hg, -⟩
  · cases hv
  · cases hv; exact frozen_of_row w g j _ _ hg
theorem sort_row {α : Type} [Inhabited α] (enc : α → Value) {w : World} {base : Nat} {e : TypeId} {size n cap g : Nat} {d d' : Array α} (h : w.ownsRow base e size (.slice (some ⟨g, 0, none⟩) n cap) n (d.toList.map enc)) (hs : d'.size = d.size) (q : Nat) (os : Array Obj) :
    (grow (putRow enc (Sort.ahead w q) g 0 d') os).ownsRow base e size (.slice (some ⟨g, 0, none⟩) n cap) n (d'.toList.map enc) ∧ w.grownBy (grow (putRow enc (Sort.ahead w q) g 0 d') os) (some g) := by
  obtain ⟨hl, ⟨hv, -⟩ | ⟨g', cap', cur, hv, hb, hg, hnc, hcm, hcs, htk⟩⟩ := h
  · cases hv
  cases hv
  have hgl := block_lt hg
  have hsz : (putRow enc (Sort.ahead w q) g 0 d').heap.size = w.heap.size := by simp [putRow, mapBlock, Sort.ahead]
  have hg2 : (grow (putRow enc (Sort.ahead w q) g 0 d') os).heap[g]? = some (.cells (putCells enc 0 d' cur) e) := by
    rw [heap_grow_old _ _ (by rw [hsz]; exact hgl)]
    simp only [putRow, mapBlock, Sort.ahead, Array.getElem?_modify, if_true]
    rw [hg]; rfl
  have hll : (d.toList.map enc).length = d.size := by simp
  have hdn : d.size = n * size := by rw [← hll]; exact hl
  have hcl : d.size ≤ cur.size := by rw [hdn, hcs]; exact Nat.mul_le_mul_right _ hnc
  refine ⟨⟨by simp [hs, hdn], .inr ⟨g, cap, putCells enc 0 d' cur, rfl, hb, hg2, hnc, hcm, by simp [putCells, hcs], ?_⟩⟩, ?_⟩
  · apply List.ext_getElem?
    intro j
    rw [List.getElem?_take]
    by_cases hj : j < n * size
    · rw [if_pos hj]
      have hj2 : j < d'.size := by omega
      have hj3 : j < cur.size := by omega
      simp [putCells, hj2, hj3]
    · rw [if_neg hj]
      have : ¬ j < d'.size := by omega
      simp [this]
  · refine ⟨rfl, rfl, rfl, by simp [grow, hsz], fun k hk hne => ?_⟩
    rw [heap_grow_old _ _ (by rw [hsz]; exact hk)]
    simp only [putRow, mapBlock, Sort.ahead, Array.getElem?_modify]
    rw [if_neg (fun e => hne (by rw [e]))]
/-- Two rising rows of the same things are one. -/
theorem rising_unique {α : Type} {R : α → α → Prop} (irr : ∀ a, ¬ R a a) (tr : ∀ {a b c}, R a b → R b c → R a c) : ∀ {l m : List α}, l.Perm m → l.Pairwise R → m.Pairwise R → l = m
  | [], m, hp, _, _ => by have := hp.length_eq; simp at this; exact (List.length_eq_zero_iff.1 this.symm).symm
  | a :: l, [], hp, _, _ => by have := hp.length_eq; simp at this
  | a :: l, b :: m, hp, h1, h2 => by
    have hab : a = b := by
      have ha : a ∈ b :: m := hp.subset List.mem_cons_self
      have hb : b ∈ a :: l := hp.symm.subset List.mem_cons_self
      rcases List.mem_cons.1 ha with e | ha
      · exact e
      · rcases List.mem_cons.1 hb with e | hb
        · exact e.symm
        · have r1 := (List.pairwise_cons.1 h1).1 b hb
          have r2 := (List.pairwise_cons.1 h2).1 a ha
          exact absurd (tr r1 r2) (irr a)
    subst hab
    rw [rising_unique irr tr (List.Perm.cons_inv hp) (List.pairwise_cons.1 h1).2 (List.pairwise_cons.1 h2).2]
theorem cmpB_irr (a : List UInt8) : ¬ cmpB a a < 0 := by rw [cmpB_self]; omega
theorem cmpB_tri {a b : List UInt8} (h : a ≠ b) : cmpB a b < 0 ∨ cmpB b a < 0 := by
  rcases Int.lt_trichotomy (cmpB a b) 0 with h1 | h1 | h1
  · exact .inl h1
  · exact absurd (cmpB_eq h1) h
  · exact .inr (cmpB_gt.1 h1)
def leB (a b : List UInt8) : Bool := !decide (cmpB b a < 0)
theorem leB_trans {a b c : List UInt8} (h1 : leB a b = true) (h2 : leB b c = true) : leB a c = true := by
  simp only [leB, Bool.not_eq_true', decide_eq_false_iff_not] at *
  intro h
  rcases Int.lt_trichotomy (cmpB a b) 0 with e | e | e
  · exact h2 (cmpB_lt_trans h e)
  · rw [cmpB_eq e] at h; exact h2 h
  · exact h1 (cmpB_gt.1 e)
theorem leB_total (a b : List UInt8) : (leB a b || leB b a) = true := by
  simp only [leB, Bool.or_eq_true, Bool.not_eq_true', decide_eq_false_iff_not]
  by_cases h : cmpB b a < 0
  · refine .inr fun h2 => cmpB_irr _ (cmpB_lt_trans h h2)
  · exact .inl h
/-- The fields in their order. -/
def sortK {α : Type} (l : List (List UInt8 × α)) : List (List UInt8 × α) := l.mergeSort fun p q => leB p.1 q.1
theorem sortK_perm {α : Type} (l : List (List UInt8 × α)) : (sortK l).Perm l := List.mergeSort_perm _ _
theorem sortK_rises {α : Type} {l : List (List UInt8 × α)} (h : (l.map (·.1)).Nodup) : (sortK l).Pairwise fun p q => cmpB p.1 q.1 < 0 := by
  have h1 : (sortK l).Pairwise fun p q => leB p.1 q.1 = true := List.pairwise_mergeSort (le := fun p q : List UInt8 × α => leB p.1 q.1) (fun a b c => leB_trans) (fun a b => leB_total _ _) l
  have h2 : ((sortK l).map (·.1)).Nodup := ((sortK_perm l).map _).nodup_iff.2 h
  have h3 : (sortK l).Pairwise fun p q => p.1 ≠ q.1 := by
    have := List.pairwise_map.1 h2
    exact this
  refine (h1.and h3).imp fun {p q} ⟨e1, e2⟩ => ?_
  simp only [leB, Bool.not_eq_true', decide_eq_false_iff_not] at e1
  exact (cmpB_tri e2).resolve_right e1
theorem sortK_unique {α : Type} {l m : List (List UInt8 × α)} (hm : m.Perm l) (h : m.Pairwise fun p q => cmpB p.1 q.1 < 0) : m = sortK l := by
  have hn : (m.map (·.1)).Nodup := List.pairwise_map.2 (h.imp fun {p q} e e2 => by rw [e2] at e; exact cmpB_irr _ e)
  exact rising_unique (R := fun p q : List UInt8 × α => cmpB p.1 q.1 < 0) (fun a => cmpB_irr _) (fun h1 h2 => cmpB_lt_trans h1 h2) (hm.trans (sortK_perm l).symm) h (sortK_rises ((hm.map _).nodup_iff.1 hn))
theorem sortK_congr {α : Type} {l m : List (List UInt8 × α)} (hm : m.Perm l) (h : (l.map (·.1)).Nodup) : sortK m = sortK l :=
  sortK_unique ((sortK_perm m).trans hm) (sortK_rises ((hm.map _).nodup_iff.2 h))
end Pantry
