
/- What a sort leaves of a row of one's own; rising rows. -/
import Derived.Test.YteiklgbjjmlmaaaGreatZMem
import Derived.Test.YteiklgbjjmlmaaaGreatZFOrd
import Derived.Shelf.Sort.Plain
import Derived.Shelf.SlSortCmp.WholeK
import Derived.Test.YteiklgbjjmlmaaaGreatZRec
import Derived.Test.YteiklgbjjmlmaaaGreatZSEAll
import Derived.Test.YteiklgbjjmlmaaaGreatSrt
import Derived.WalkLawsBesides
import Derived.Test.YteiklgbjjmlmaaaGreatZIter
set_option linter.unusedVariables false
set_option linter.unusedSimpArgs false
namespace Pantry
open Go Go.RowKit Go.Proofs Go.Sort
theorem holds_row {α : Type} [Inhabited α] (enc : α → Value) {w : World} {base : Nat} {e : TypeId} {size n cap g : Nat} {d : Array α} (h : w.ownsRow base e size (.slice (some ⟨g, 0, none⟩) n cap) n (d.toList.map enc)) : Holds enc w g 0 d := by
  intro j hj
  have hu : (d.toList.map enc)[j]? = some (enc d[j]!) := by simp [hj]
  have hc := h.cells (g := g) rfl j _ hu
  rw [Addr.add_base] at hc
  rw [Nat.zero_add]
  refine ⟨hc, ?_⟩
  rcases h.2 with ⟨hv, -⟩ | ⟨g', cap', cur, hv, -, hg, -⟩
  · cases hv
  · cases hv; exact frozen_of_row w g j _ _ hg
theorem sort_row {α : Type} [Inhabited α] (enc : α → Value) {w : World} {base : Nat} {e : TypeId} {size n cap g : Nat} {d d' : Array α} (h : w.ownsRow base e size (.slice (some ⟨g, 0, none⟩) n cap) n (d.toList.map enc)) (hs : d'.size = d.size) (q : Nat) (os : Array Obj) :
    (grow (putRow enc (Sort.ahead w q) g 0 d') os).ownsRow base e size (.slice (some ⟨g, 0, none⟩) n cap) n (d'.toList.map enc) ∧ w.grownBy (grow (putRow enc (Sort.ahead w q) g 0 d') os) (some g) := by
  obtain ⟨hl, ⟨hv, -⟩ | ⟨g', cap', cur, hv, hb, hg, hnc, hcm, hcs, htk⟩⟩ := h
  · cases hv
  cases hv
  have hgl := block_lt hg
  have hsz : (putRow enc (Sort.ahead w q) g 0 d').heap.size = w.heap.size := by simp [putRow, mapBlock, Sort.ahead]
  have hg2 : (grow (putRow enc (Sort.ahead w q) g 0 d') os).heap[g]? = some (.cells (putCells enc 0 d' cur) e) := by
    rw [heap_grow_old _ _ (by rw [hsz]; exact hgl)]
    simp only [putRow, mapBlock, Sort.ahead, Array.getElem?_modify, if_true]
    rw [hg]; rfl
  have hll : (d.toList.map enc).length = d.size := by simp
  have hdn : d.size = n * size := by rw [← hll]; exact hl
  have hcl : d.size ≤ cur.size := by rw [hdn, hcs]; exact Nat.mul_le_mul_right _ hnc
  refine ⟨⟨by simp [hs, hdn], .inr ⟨g, cap, putCells enc 0 d' cur, rfl, hb, hg2, hnc, hcm, by simp [putCells, hcs], ?_⟩⟩, ?_⟩
  · apply List.ext_getElem?
    intro j
    rw [List.getElem?_take]
    by_cases hj : j < n * size
    · rw [if_pos hj]
      have hj2 : j < d'.size := by omega
      have hj3 : j < cur.size := by omega
      simp [putCells, hj2, hj3]
    · rw [if_neg hj]
      have : ¬ j < d'.size := by omega
      simp [this]
  · refine ⟨rfl, rfl, rfl, by simp [grow, hsz], fun k hk hne => ?_⟩
    rw [heap_grow_old _ _ (by rw [hsz]; exact hk)]
    simp only [putRow, mapBlock, Sort.ahead, Array.getElem?_modify]
    rw [if_neg (fun e => hne (by rw [e]))]
/-- Two rising rows of the same things are one. -/
theorem rising_unique {α : Type} {R : α → α → Prop} (irr : ∀ a, ¬ R a a) (tr : ∀ {a b c}, R a b → R b c → R a c) : ∀ {l m : List α}, l.Perm m → l.Pairwise R → m.Pairwise R → l = m
  | [], m, hp, _, _ => by have := hp.length_eq; simp at this; exact (List.length_eq_zero_iff.1 this.symm).symm
  | a :: l, [], hp, _, _ => by have := hp.length_eq; simp at this
  | a :: l, b :: m, hp, h1, h2 => by
    have hab : a = b := by
      have ha : a ∈ b :: m := hp.subset List.mem_cons_self
      have hb : b ∈ a :: l := hp.symm.subset List.mem_cons_self
      rcases List.mem_cons.1 ha with e | ha
      · exact e
      · rcases List.mem_cons.1 hb with e | hb
        · exact e.symm
        · have r1 := (List.pairwise_cons.1 h1).1 b hb
          have r2 := (List.pairwise_cons.1 h2).1 a ha
          exact absurd (tr r1 r2) (irr a)
    subst hab
    rw [rising_unique irr tr (List.Perm.cons_inv hp) (List.pairwise_cons.1 h1).2 (List.pairwise_cons.1 h2).2]
theorem cmpB_irr (a : List UInt8) : ¬ cmpB a a < 0 := by rw [cmpB_self]; omega
theorem cmpB_tri {a b : List UInt8} (h : a ≠ b) : cmpB a b < 0 ∨ cmpB b a < 0 := by
  rcases Int.lt_trichotomy (cmpB a b) 0 with h1 | h1 | h1
  · exact .inl h1
  · exact absurd (cmpB_eq h1) h
  · exact .inr (cmpB_gt.1 h1)
def leB (a b : List UInt8) : Bool := !decide (cmpB b a < 0)
theorem leB_trans {a b c : List UInt8} (h1 : leB a b = true) (h2 : leB b c = true) : leB a c = true := by
  simp only [leB, Bool.not_eq_true', decide_eq_false_iff_not] at *
  intro h
  rcases Int.lt_trichotomy (cmpB a b) 0 with e | e | e
  · exact h2 (cmpB_lt_trans h e)
  · rw [cmpB_eq e] at h; exact h2 h
  · exact h1 (cmpB_gt.1 e)
theorem leB_total (a b : List UInt8) : (leB a b || leB b a) = true := by
  simp only [leB, Bool.or_eq_true, Bool.not_eq_true', decide_eq_false_iff_not]
  by_cases h : cmpB b a < 0
  · refine .inr fun h2 => cmpB_irr _ (cmpB_lt_trans h h2)
  · exact .inl h
/-- The fields in their order. -/
def sortK {α : Type} (l : List (List UInt8 × α)) : List (List UInt8 × α) := l.mergeSort fun p q => leB p.1 q.1
theorem sortK_perm {α : Type} (l : List (List UInt8 × α)) : (sortK l).Perm l := List.mergeSort_perm _ _
theorem sortK_rises {α : Type} {l : List (List UInt8 × α)} (h : (l.map (·.1)).Nodup) : (sortK l).Pairwise fun p q => cmpB p.1 q.1 < 0 := by
  have h1 : (sortK l).Pairwise fun p q => leB p.1 q.1 = true := List.pairwise_mergeSort (le := fun p q : List UInt8 × α => leB p.1 q.1) (fun a b c => leB_trans) (fun a b => leB_total _ _) l
  have h2 : ((sortK l).map (·.1)).Nodup := ((sortK_perm l).map _).nodup_iff.2 h
  have h3 : (sortK l).Pairwise fun p q => p.1 ≠ q.1 := by
    have := List.pairwise_map.1 h2
    exact this
  refine (h1.and h3).imp fun {p q} ⟨e1, e2⟩ => ?_
  simp only [leB, Bool.not_eq_true', decide_eq_false_iff_not] at e1
  exact (cmpB_tri e2).resolve_right e1
theorem sortK_unique {α : Type} {l m : List (List UInt8 × α)} (hm : m.Perm l) (h : m.Pairwise fun p q => cmpB p.1 q.1 < 0) : m = sortK l := by
  have hn : (m.map (·.1)).Nodup := List.pairwise_map.2 (h.imp fun {p q} e e2 => by rw [e2] at e; exact cmpB_irr _ e)
  exact rising_unique (R := fun p q : List UInt8 × α => cmpB p.1 q.1 < 0) (fun a => cmpB_irr _) (fun h1 h2 => cmpB_lt_trans h1 h2) (hm.trans (sortK_perm l).symm) h (sortK_rises ((hm.map _).nodup_iff.1 hn))
theorem sortK_congr {α : Type} {l m : List (List UInt8 × α)} (hm : m.Perm l) (h : (l.map (·.1)).Nodup) : sortK m = sortK l :=
  sortK_unique ((sortK_perm m).trans hm) (sortK_rises ((hm.map _).nodup_iff.2 h))
end Pantry


/- Pairs of a record: all fields, in their order. -/
set_option linter.unusedVariables false
set_option linter.unusedSimpArgs false
namespace Pantry
open Go Go.RowKit Go.Proofs Go.Sort
def fdC (p : Fld) : List Value := [.string ⟨p.1.toArray⟩, .string ⟨p.2.toArray⟩]
def fdCells (l : List Fld) : List Value := l.flatMap fdC
theorem fdCells_one (l : List Fld) : ∀ u ∈ fdCells l, u.oneCell' = true := by
  intro u hu
  obtain ⟨p, -, hp⟩ := List.mem_flatMap.1 hu
  simp [fdC] at hp
  rcases hp with rfl | rfl <;> rfl
theorem flatC_get {α : Type} [Inhabited α] {enc : α → List Value} (hk : ∀ x, (enc x).length = 2) : ∀ (l : List α) (t : Nat), t < l.length * 2 → (l.flatMap enc)[t]? = some (enc (l[t / 2]!))[t % 2]!
  | [], t, h => by simp at h
  | x :: l, t, h => by
    rw [List.flatMap_cons]
    by_cases h2 : t < 2
    · rw [List.getElem?_append_left (by rw [hk]; exact h2)]
      have e1 : t / 2 = 0 := by omega
      have e2 : t % 2 = t := by omega
      rw [e1, e2]
      have : t < (enc x).length := by rw [hk]; exact h2
      simp [this]
    · rw [List.getElem?_append_right (by rw [hk]; omega), hk, flatC_get hk l (t - 2) (by simp at h; omega)]
      have e1 : t / 2 = (t - 2) / 2 + 1 := by omega
      have e2 : t % 2 = (t - 2) % 2 := by omega
      rw [e1, e2]
      simp
theorem flatK_toList {α : Type} [Inhabited α] {enc : α → List Value} (hk : ∀ x, (enc x).length = 2) (d : Array α) : (flatK enc 2 d).toList = d.toList.flatMap enc := by
  have hlen : ∀ l : List α, (l.flatMap enc).length = l.length * 2 := fun l => by
    induction l with
    | nil => rfl
    | cons x l ih => rw [List.flatMap_cons, List.length_append, hk, ih, List.length_cons]; omega
  apply List.ext_getElem?
  intro t
  by_cases ht : t < d.size * 2
  · rw [flatC_get hk _ _ (by simpa using ht)]
    have ht2 : t / 2 < d.size := by omega
    simp [flatK, ht, ht2]
  · rw [List.getElem?_eq_none (by simp [flatK]; omega), List.getElem?_eq_none (by rw [hlen]; simpa using ht)]
theorem cmpB_val : ∀ a b : List UInt8, cmpB a b = -1 ∨ cmpB a b = 0 ∨ cmpB a b = 1
  | [], [] => by simp [cmpB, Lib.compareBytes]
  | [], _ :: _ => by simp [cmpB, Lib.compareBytes]
  | _ :: _, [] => by simp [cmpB, Lib.compareBytes]
  | a :: xs, b :: ys => by
    simp only [cmpB, Lib.compareBytes]
    split
    · exact .inl rfl
    · split
      · exact .inr (.inr rfl)
      · exact cmpB_val xs ys
theorem cmpB_of_less {a b : List UInt8} (h : Op.bytesLess a b = true) : Lib.compareBytes a b = -1 := by
  rw [bytesLess_iff] at h
  have h1 : cmpB a b < 0 := by simpa using h
  have := cmpB_val a b
  have e : cmpB a b = Lib.compareBytes a b := rfl
  omega
theorem cmpB_of_ne {a b : List UInt8} (h : Op.bytesLess a b = false) (h2 : (!a == b) = true) : Lib.compareBytes a b = 1 := by
  rw [bytesLess_iff] at h
  have h1 : ¬ cmpB a b < 0 := by simpa using h
  have h3 : ¬ cmpB a b = 0 := fun e => by rw [cmpB_eq e] at h2; simp at h2
  have := cmpB_val a b
  have e : cmpB a b = Lib.compareBytes a b := rfl
  omega
theorem cmpB_of_eq {a b : List UInt8} (h2 : (!a == b) = false) : Lib.compareBytes a b = 0 := by
  have : a = b := by simpa using h2
  rw [this]; exact cmpB_self b
theorem ret_num {k : IntKind} {a b : Int} (h : a = b) : Ending.returned (.int k a) = .returned (.int k b) := by rw [h]
def cmpFd (a b : Fld) : Int := Lib.compareBytes a.1 b.1
theorem ltFd (a b : Fld) : ltOf cmpFd a b = decide (cmpB a.1 b.1 < 0) := rfl
theorem swoFd : SWO (ltOf cmpFd) where
  irrefl x := by rw [ltFd]; simp [cmpB_self]
  trans x y z h1 h2 := by
    rw [ltFd] at *
    simp only [decide_eq_true_eq] at *
    exact cmpB_lt_trans h1 h2
  ntrans x y z h1 h2 := by
    rw [ltFd] at *
    have := leB_trans (a := z.1) (b := y.1) (c := x.1) (by simp [leB]; simpa using h2) (by simp [leB]; simpa using h1)
    simpa [leB] using this
end Pantry
namespace Go.Proofs.YteiklgbjjmlmaaaGreat.DStr
open Go.RowKit Pantry Go.Sort

theorem pairI : ElemT Tryz.prog 46 71 2 32 (.agg #[.string ⟨#[]⟩, .string ⟨#[]⟩]) := ⟨Tryz.underlying46, by kernel_rfl, rfl, by omega, by omega⟩
theorem isNaNS_any (w : World) (a : List UInt8) : Calls Tryz.prog 195 #[.string ⟨a.toArray⟩] w fun e w' => e = .returned (.bool false) ∧ w' = w := by
  go_enter Tryz.func195, Tryz.ntmps195
  go_wp2_with fail
  go_ret
  exact ⟨by simp, rfl⟩
set_option maxHeartbeats 1000000 in
theorem cmpS_any (w : World) (a b : List UInt8) : Calls Tryz.prog 190 #[.string ⟨a.toArray⟩, .string ⟨b.toArray⟩] w fun e w' => e = .returned (.int .i64 (Lib.compareBytes a b)) ∧ w' = w := by
  have HN := fun W x => Lib.hid (isNaNS_any W x)
  go_enter Tryz.func190, Tryz.ntmps190
  go_wp2_with (go_at_call 195; refine (HN _ _).out.mono ?_; rintro e w' ⟨rfl, rfl⟩)
  all_goals
    go_ret
    first
      | exact ⟨ret_num (cmpB_of_less ‹_›).symm, rfl⟩
      | exact ⟨ret_num (cmpB_of_ne ‹_› ‹_›).symm, rfl⟩
      | exact ⟨ret_num (cmpB_of_eq ‹_›).symm, rfl⟩
set_option maxHeartbeats 1000000 in
/-- The closure that compares two pairs. -/
theorem pairs1_any (x y : Fld) (W : World) : Calls Tryz.prog 189 #[.agg #[.string ⟨x.1.toArray⟩, .string ⟨x.2.toArray⟩], .agg #[.string ⟨y.1.toArray⟩, .string ⟨y.2.toArray⟩]] W fun e w' => e = .returned (.int .i64 (cmpFd x y)) ∧ ∃ q os', w' = Sort.grow (W.drewN q) os' := by
  have HC := fun W' => Lib.hid (cmpS_any W' x.1 y.1)
  unfold cmpFd
  obtain ⟨r, hr⟩ : ∃ r, Lib.compareBytes x.1 y.1 = r := ⟨_, rfl⟩
  rw [hr] at HC ⊢
  clear hr
  go_enter Tryz.func189, Tryz.ntmps189
  go_wp2_with (go_at_call 190; refine (HC _).out.mono ?_; rintro e w' ⟨rfl, rfl⟩)
  go_ret
  exact ⟨rfl, 0, _, by rw [Sort.alloc_eq_grow, Sort.alloc_eq_grow, Sort.grow_grow]; rfl⟩
theorem sortPairs_some (w : World) (base g cap n : Nat) (l : List Fld) (hl : l.length = n) (hn : n ≤ 1048576) (h : w.ownsRow base 71 2 (.slice (some ⟨g, 0, none⟩) n cap) n (fdCells l)) (hk : (l.map (·.1)).Nodup) :
    Calls Tryz.prog 188 #[.slice (some ⟨g, 0, none⟩) n cap, .func (.func 189) #[] #[]] w fun e w' => e = .returned (.tuple #[]) ∧ w'.ownsRow base 71 2 (.slice (some ⟨g, 0, none⟩) n cap) n (fdCells (sortK l)) ∧ w.grownBy w' (some g) := by
  have hH : HoldsK fdC 2 w g 0 l.toArray := holds_row id (by rw [flatK_toList (enc := fdC) (fun _ => rfl)]; simpa [fdCells] using h)
  have hgl : g < w.heap.size := (h.lt g rfl).2
  have eg : ∀ args w, (callFunc 189 args).run Tryz.prog w = .ok (.enter 189 args) w := enters_of Tryz.func189 (by kernel_rfl) rfl
  have hcon := AnyQ.slices_SortFunc Tryz.sortPair 2 Tryz.isAgg71 Tryz.sizeOf71 fdC (fun _ => rfl) (fun x v hv => by simp [fdC] at hv; rcases hv with rfl | rfl <;> rfl) cmpFd swoFd 189 #[] g 0 cap l.toArray w eg (fun _ _ _ _ x y => pairs1_any x y _) hH hgl (by simp; omega)
  rw [List.size_toArray, hl] at hcon
  refine hcon.mono ?_
  rintro e w' ⟨rfl, d', q, os, hp, hs, rfl⟩
  have hpl : d'.toList.Perm l := by
    have h1 := hp.2.2
    have h2 := hp.1
    simp at h1 h2
    rw [List.take_of_length_le (by simp [h2, hl]), List.take_of_length_le (by rw [hl]; exact Nat.le_refl _)] at h1
    exact h1
  have hsz : d'.size = l.length := by simpa using hp.1
  have hr : d'.toList.Pairwise fun p q => cmpB p.1 q.1 < 0 := by
    rw [List.pairwise_iff_getElem]
    intro i j hi hj hij
    have h1 := hs i j (Nat.zero_le _) hij (by simpa [← hl, hsz] using hj)
    rw [ltFd] at h1
    have hne : (d'.toList[i]).1 ≠ (d'.toList[j]).1 := by
      have hn2 : (d'.toList.map (·.1)).Nodup := (hpl.map _).nodup_iff.2 hk
      have := List.pairwise_iff_getElem.1 hn2 i j (by simpa using hi) (by simpa using hj) hij
      simpa using this
    have h3 : d'[i]! = d'.toList[i] := by simp at hi ⊢; simp [hi]
    have h4 : d'[j]! = d'.toList[j] := by simp at hj ⊢; simp [hj]
    rw [h3, h4] at h1
    exact (cmpB_tri hne).resolve_right (by simpa using h1)
  have he := sortK_unique hpl hr
  obtain ⟨r1, r2⟩ := sort_row (d := flatK fdC 2 l.toArray) (d' := flatK fdC 2 d') id (by rw [flatK_toList (enc := fdC) (fun _ => rfl)]; simpa [fdCells] using h) (by simp [flatK, hsz]) q os
  rw [flatK_toList (enc := fdC) (fun _ => rfl), he, List.map_id] at r1
  exact ⟨rfl, r1, r2⟩
theorem sortPairs_any (w : World) (base n : Nat) (v : Value) (l : List Fld) (hl : l.length = n) (hn : n ≤ 1048576) (h : w.ownsRow base 71 2 v n (fdCells l)) (hk : (l.map (·.1)).Nodup) :
    Calls Tryz.prog 188 #[v, .func (.func 189) #[] #[]] w fun e w' => e = .returned (.tuple #[]) ∧ w'.ownsRow base 71 2 v n (fdCells (sortK l)) ∧ w.grownBy w' v.ownBlock := by
  rcases h.2 with ⟨hv, h0⟩ | ⟨g, cap, cur, hv, -⟩
  · subst hv
    have hn0 : l = [] := List.length_eq_zero_iff.1 (by omega)
    subst hn0
    subst h0
    refine (AnyF.slices_SortFunc_none Tryz.sortPair none 0 _ w).mono ?_
    rintro e w' ⟨rfl, rfl⟩
    exact ⟨rfl, by rw [show sortK ([] : List Fld) = [] by simp [sortK]]; exact h, ⟨rfl, rfl, rfl, Nat.le_refl _, fun _ _ _ => rfl⟩⟩
  · subst hv
    exact sortPairs_some w base g cap n l hl hn h hk
end Go.Proofs.YteiklgbjjmlmaaaGreat.DStr


/- Pairs of a record: the walk. -/
set_option linter.unusedVariables false
set_option linter.unusedSimpArgs false
namespace Pantry
open Go Go.RowKit
def fdOf (p : List UInt8 × Value) : Fld := (p.1, match p.2 with | .string s => s.data.toList | _ => [])
theorem kv_list {D : Dc} {l : List Fld} (h : D.kv.Perm (l.map fdKv)) : ∃ kvl : List Fld, D.kv = kvl.map fdKv ∧ kvl.Perm l := by
  refine ⟨D.kv.map fdOf, ?_, ?_⟩
  · rw [List.map_map]
    conv => lhs; rw [← List.map_id D.kv]
    refine List.map_congr_left fun p hp => ?_
    obtain ⟨q, -, rfl⟩ := List.mem_map.1 (h.subset hp)
    rfl
  · have := h.map fdOf
    rw [List.map_map] at this
    have e : (fdOf ∘ fdKv) = id := funext fun p => rfl
    rwa [e, List.map_id] at this
theorem fdCells_snoc (l : List Fld) (x : Fld) : fdCells (l ++ [x]) = fdCells l ++ [.string ⟨x.1.toArray⟩, .string ⟨x.2.toArray⟩] := by simp [fdCells, fdC]
end Pantry
namespace Go.Proofs.YteiklgbjjmlmaaaGreat.DStr
open Go.RowKit Pantry

attribute [local go_sem] Oper.semAt_some
attribute [-go_sem] Builtin.append_
def PairsPost (l : List Fld) (w : World) (e : Ending) (w' : World) : Prop := ∃ v, e = .returned v ∧ w'.ownsRow w.heap.size 71 2 v l.length (fdCells (sortK l)) ∧ Below w.heap.size w w'
set_option maxRecDepth 100000 in
set_option maxHeartbeats 4000000 in
theorem rPairs_any (w : World) (r seed d : Nat) (D : Dc) (l : List Fld) (h : RecAt w r seed d D l) : Calls Tryz.prog 186 #[.pointer (some ⟨r, 0, none⟩)] w (PairsPost l w) := by
  refine (callsIn_wide (n := 6)).1 ?_
  have HL := Lib.hid (rLen_any w r seed d D l h)
  have HE := fun W => Lib.hid (each_any W (some ⟨d, 0, none⟩))
  obtain ⟨⟨-, h1, -⟩, -⟩ := three h.head
  obtain ⟨kvl, hkv, hkp⟩ := kv_list h.kv
  have hfew := h.good.few
  obtain ⟨n, hn⟩ : ∃ n, l.length = n := ⟨_, rfl⟩
  have hkn : kvl.length = n := hkp.length_eq.trans hn
  rw [hn] at HL hfew
  have H := Lib.hid h
  have HKV := Lib.hid hkv
  have HKP := Lib.hid hkp
  have HN := Lib.hid hn
  have HKN := Lib.hid hkn
  obtain ⟨i0, hi, hz0, hz1, hz2⟩ := info_parts pairI.info
  clear h hkv hkp hn hkn
  refine callsIn_of_wp_marks Tryz.func186 rfl trivial ?_ rfl
  simp only [Tryz.ntmps186, List.size_toArray, List.length_cons, List.length_nil, Nat.reduceAdd, Nat.reduceSub, Array.replicate_succ, Array.replicate_zero, List.push_toArray, List.append_toArray, List.nil_append, List.cons_append]
  gi_wp2_with fail
  refine ⟨trivial, (callsIn_wide.2 HL.out).mono ?_⟩
  rintro e w' ⟨rfl, rfl⟩
  gi_wp2_with (gi_at_make; refine wpListIn_make_own w rfl _ _ 46 rfl w.heap.size 71 i0 (.agg #[.string ⟨#[]⟩, .string ⟨#[]⟩]) 2 Tryz.underlying46 hi hz0 hz1 .i64 .i64 n n rfl rfl rfl (by rw [hz2]; omega) (by unfold maxLen; omega) (Nat.le_refl _) ?_; intro w1 hown hgrow
               have HOWN := Lib.hid hown
               have HGROW := Lib.hid hgrow
               have h1' : (w1.alloc (.cells #[.slice (some ⟨w.heap.size, 0, none⟩) 0 n] 46)).cell? ⟨r, 1, none⟩ = some (.pointer (some ⟨d, 0, none⟩)) := by
                 have hb1 : Below w.heap.size w w1 := grownBy_below (Below.refl _ _) hgrow (fun k e => by cases e) (Nat.le_refl _)
                 exact ((hb1.alloc hb1.size _).cell (p := ⟨r, 1, none⟩) (block_lt H.out.head)).trans h1
               clear hown hgrow)
  refine ⟨trivial, (callsIn_wide.2 (HE _).out).mono ?_⟩
  rintro e w' ⟨rfl, rfl⟩
  gi_wp2_with fail
  obtain ⟨W0, hW0⟩ : ∃ W0, ((w1.alloc (.cells #[.slice (some ⟨w.heap.size, 0, none⟩) 0 n] 46)).alloc (.cells #[.pointer (some ⟨d, 0, none⟩)] 145)) = W0 := ⟨_, rfl⟩
  have hb1 : Below w.heap.size w w1 := grownBy_below (Below.refl _ _) HGROW.out (fun k e => by cases e) (Nat.le_refl _)
  have hwl : w.heap.size < w1.heap.size := (HOWN.out.lt w.heap.size rfl).2
  have hB0 : Below w.heap.size w W0 := by rw [← hW0]; exact (hb1.alloc hb1.size _).alloc (by simp; omega) _
  have hs0 : W0.heap.size = w1.heap.size + 1 + 1 := by rw [← hW0]; simp
  have hb0 : Boxed W0 w1.heap.size 46 (.slice (some ⟨w.heap.size, 0, none⟩) 0 n) := by rw [← hW0]; exact (Boxed.new w1 _ _).alloc _
  have hbd : Boxed W0 (w1.heap.size + 1) 145 (.pointer (some ⟨d, 0, none⟩)) := by
    have := Boxed.new (w1.alloc (.cells #[.slice (some ⟨w.heap.size, 0, none⟩) 0 n] 46)) 145 (.pointer (some ⟨d, 0, none⟩))
    rw [World.size_alloc] at this
    rw [← hW0]; exact this
  have hrow0 : W0.ownsRow w.heap.size 71 2 (.slice (some ⟨w.heap.size, 0, none⟩) 0 n) 0 [] := by rw [← hW0]; exact (HOWN.out.alloc _).alloc _
  have hA0 : RecAt W0 r seed d D l := H.out.keep (S := fun _ => False) (Chg.of_below hB0) fun _ _ e => e
  have hown0 : ownIn w1.heap.size W0 = some w.heap.size := ownIn_boxed hb0
  rw [hW0]
  refine wpIn_rangeV rfl (by omega) (gf := 191) (lb := #[.pointer (some ⟨w1.heap.size + 1, 0, none⟩)]) rfl trivial (enters_of Tryz.func191 (by kernel_rfl) rfl)
    (each_seq 5 (by omega) (w1.heap.size + 1) d D W0 hbd.cell hA0.dict hA0.wf kvl HKV.out (KpL (W0.heap.size + 2) w1.heap.size) (HdL (W0.heap.size + 2) w1.heap.size)
      (fun W hW hsz => keeperL hsz (by omega) (by rw [ownIn_cell (hW.cell (p := ⟨w1.heap.size, 0, none⟩) hb0.lt), hown0]; intro k hk; cases hk; omega)))
    (fun h k => h.trans k) (fun W1 o o' _ _ _ => KpL.putObj W1 o' (by omega) (by omega)) (Below.refl _ _) (fun _ => rfl)
    (fun pre A => (∃ v, Boxed A w1.heap.size 46 v ∧ A.ownsRow w.heap.size 71 2 v pre.length (fdCells pre) ∧ True) ∧ Below w.heap.size W0 A)
    (fun _ _ _ => False)
    ((Own.from (holdsRow_own _ _ _ _ _ (fun pre : List Fld => pre.length) (fun pre => fdCells pre) (fun _ _ => True)) _).and (ownFrom_below (by omega) (by omega)))
    (fun _ _ _ _ _ h _ _ => h)
    ⟨⟨_, hb0, hrow0, trivial⟩, Below.refl _ _⟩
    (fun x => { tmps := #[.pointer (some ⟨r, 0, none⟩), undef, .slice none 0 0, .pointer (some ⟨w1.heap.size, 0, none⟩), .string ⟨x.1.toArray⟩, .string ⟨x.2.toArray⟩, .pointer (some ⟨r, 0, none⟩), .bool false, .pointer (some ⟨r, 0, none⟩), .int .i64 n, .slice (some ⟨w.heap.size, 0, none⟩) 0 n, .pointer (some ⟨r, 0, none⟩), .pointer (some ⟨r, 0, none⟩), .pointer (some ⟨r, 1, none⟩), .pointer (some ⟨d, 0, none⟩), .func (.func 191) #[] #[.pointer (some ⟨w1.heap.size + 1, 0, none⟩)], .string ⟨x.1.toArray⟩, .string ⟨x.2.toArray⟩, undef, undef, undef, undef, undef, undef, undef, undef, undef], defers := [] }) ?assign ?body ?done ?stop
  case assign =>
    intro l x W K hK
    simp only [encKV]
    gi_wp2
    exact hK
  case body =>
    rintro l2 pre x A ⟨⟨v, hv, hrow, -⟩, hB⟩ hlt
    have hpl : pre.length + 1 ≤ n := by
      have h1 := hlt.length_le
      rw [HKN.out] at h1
      simpa using h1
    obtain ⟨g, cap, w2, hr1, hk1, hf1, hadd⟩ := boxRow_add pairI 46 hv hrow (by decide) #[.string ⟨x.1.toArray⟩, .string ⟨x.2.toArray⟩] (.inl rfl) rfl (by intro u hu; simp at hu; rcases hu with rfl | rfl <;> rfl) (by omega) (Nat.le_trans (by omega) hB.size)
    have HADD := Lib.hid hadd
    have HV := Lib.hid hv
    have HROW := Lib.hid hrow
    have HB := Lib.hid hB
    have hbv := hv.cell
    clear hadd hv hrow hB hlt
    gi_wp2_with fail
    refine ⟨(HADD.out.others HV.out HROW.out).from _, HADD.out.kp HV.out (by omega), ⟨_, HADD.out.box, ?_⟩, HB.out.trans (HADD.out.below HROW.out (by omega) (Nat.le_trans (by omega) HB.out.size))⟩
    rw [fdCells_snoc, List.length_append, List.length_singleton]
    exact HADD.out.row
  case done =>
    rintro E1 A hE ⟨⟨v, hv, hrow, -⟩, hB⟩ hKE
    rw [HKN.out] at hrow
    have hkk : (kvl.map (·.1)).Nodup := (HKP.out.map _).nodup_iff.2 H.out.good.keys
    have HS := Lib.hid (sortPairs_any A w.heap.size n v kvl HKN.out hfew hrow hkk)
    have hbv := hv.cell
    have hsk : sortK kvl = sortK l := sortK_congr HKP.out H.out.good.keys
    have HFIN : Hid (∀ A2, A2.ownsRow w.heap.size 71 2 v n (fdCells (sortK kvl)) → A.grownBy A2 v.ownBlock → Boxed A2 w1.heap.size 46 v ∧ A2.heap[E1]? = some (.deferred (some [])) ∧ PairsPost l w (.returned v) (A2.putObj E1 (.deferred none))) := Lib.hid (by
      intro A2 hr2 hg2
      have hKE2 : A2.heap[E1]? = some (.deferred (some [])) := (hg2.block E1 (Array.getElem?_eq_some_iff.1 hKE).1 (fun e => by
        obtain ⟨c, hc, -⟩ := ownsRow_cells hrow e.symm
        rw [hKE] at hc; cases hc)).trans hKE
      refine ⟨hv.kept hg2 (hv.not_row (by decide) hrow), hKE2, v, rfl, ?_, ?_⟩
      · rw [HN.out, ← hsk]
        exact ownsRow_putObj hr2 _ hKE2 rfl
      · have h3 : Below w.heap.size A A2 := (Below.refl _ _).grown hg2 (Nat.le_trans (by omega) hB.size) fun k hk => by
          exact (ownsRow_cells hrow hk).choose_spec.2
        exact ((hB0.trans hB).trans h3).trans (belowK_b (w := w) (Nat.le_refl _) A2 E1 _ _ (by omega) hKE2 rfl rfl))
    clear hrow hkk hv hB hKE hsk
    gi_wp2_with fail
    refine ⟨trivial, (callsIn_wide.2 HS.out).mono ?_⟩
    rintro e A2 ⟨rfl, hr2, hg2⟩
    obtain ⟨f1, f2, f3⟩ := HFIN.out A2 hr2 hg2
    have f1c := f1.cell
    have F2 := Lib.hid f2
    have F3 := Lib.hid f3
    clear hr2 hg2 f1 f2 f3
    gi_wp2_with fail
    refine ⟨by simp, .inl ⟨_, _, rfl, run_takeDeferred F2.out, ?_⟩⟩
    exact ⟨v, by simp [results, Tryz.f186, go_sem], F3.out⟩
  case stop =>
    rintro E1 c pre A hE hSp h _
    exact h.elim
end Go.Proofs.YteiklgbjjmlmaaaGreat.DStr
