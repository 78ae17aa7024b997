/- slices.SortFunc at a row of one's own, whose elements have several cells; the general law. -/
import Derived.Test.YtelbmphmihjgfaaGreatZSortRow
import Derived.Shelf.SlSortCmp.NoneTotal
import Derived.Shelf.Slices.In.SortNone
set_option linter.unusedVariables false
set_option linter.unusedSimpArgs false
namespace Pantry
open Go Go.RowKit Go.Proofs Go.Sort Go.Shelf
theorem flatM_get {α : Type} [Inhabited α] {enc : α → List Value} {k : Nat} (h0 : 0 < k) (hk : ∀ x, (enc x).length = k) : ∀ (l : List α) (t : Nat), t < l.length * k → (l.flatMap enc)[t]? = some (enc (l[t / k]!))[t % k]!
  | [], t, h => by simp at h
  | x :: l, t, h => by
    rw [List.flatMap_cons]
    by_cases h2 : t < k
    · rw [List.getElem?_append_left (by rw [hk]; exact h2), Nat.div_eq_of_lt h2, Nat.mod_eq_of_lt h2]
      have : t < (enc x).length := by rw [hk]; exact h2
      simp [this]
    · have h3 : t - k < l.length * k := by
        rw [List.length_cons, Nat.succ_mul] at h
        omega
      rw [List.getElem?_append_right (by rw [hk]; omega), hk, flatM_get h0 hk l (t - k) h3]
      have e1 : t / k = (t - k) / k + 1 := Nat.div_eq_sub_div h0 (by omega)
      have e2 : t % k = (t - k) % k := Nat.mod_eq_sub_mod (by omega)
      rw [e1, e2]
      simp
theorem flatM_length {α : Type} {enc : α → List Value} {k : Nat} (hk : ∀ x, (enc x).length = k) (l : List α) : (l.flatMap enc).length = l.length * k := by
  induction l with
  | nil => simp
  | cons x l ih => rw [List.flatMap_cons, List.length_append, hk, ih, List.length_cons, Nat.succ_mul]; omega
theorem flatM_toList {α : Type} [Inhabited α] {enc : α → List Value} {k : Nat} (h0 : 0 < k) (hk : ∀ x, (enc x).length = k) (d : Array α) : (flatK enc k d).toList = d.toList.flatMap enc := by
  apply List.ext_getElem?
  intro t
  by_cases ht : t < d.size * k
  · rw [flatM_get h0 hk _ _ (by simpa using ht)]
    have ht2 : t / k < d.size := Nat.div_lt_of_lt_mul (by rw [Nat.mul_comm]; exact ht)
    simp [flatK, ht, ht2]
  · rw [List.getElem?_eq_none (by simp [flatK]; omega), List.getElem?_eq_none (by rw [flatM_length hk]; simpa using ht)]
/-- The sort, where any two of the elements are apart: the row is the sorted one, and nothing else has changed. -/
theorem sortF_row {P : Program} {ρ : Ren} (L : SlLaysF0.n6 P ρ) {α : Type} [Inhabited α] (k : Nat) (h0 : 0 < k) (aE : ∀ w, (isAgg (ρ.t 24)).run P w = .ok true w) (zE : ∀ w, (Go.sizeOf (ρ.t 24)).run P w = .ok k w)
    (enc : α → List Value) (hk : ∀ x, (enc x).length = k) (h1 : ∀ x, ∀ v ∈ enc x, v.oneCell' = true) (cf : α → α → Int) (hO : SWO (ltOf cf)) (g : Nat) (cb : Array Value) (w : World) (base e n : Nat) (v : Value) (l : List α) (hl : l.length = n) (hn : n ≤ 268435456)
    (eg : ∀ args w, (callFunc g args).run P w = .ok (.enter g args) w) (hcmp : ∀ blk cap, v = .slice (some ⟨blk, 0, none⟩) n cap → CmpLays P g cb enc k cf blk 0 n w) (h : w.ownsRow base e k v n (l.flatMap enc)) :
    Calls P (ρ.f 6) #[v, .func (.func g) #[] cb] w fun r w' => r = .returned (.tuple #[]) ∧ ∃ l' : List α, l'.Perm l ∧ l'.Pairwise (fun x y => (ltOf cf) y x = false) ∧ w'.ownsRow base e k v n (l'.flatMap enc) ∧ w.grownBy w' v.ownBlock := by
  rcases h.2 with ⟨hv, hx⟩ | ⟨blk, cap, cur, hv, -⟩
  · subst hv
    have hn0 : n = 0 := by
      have := h.1
      rw [hx] at this
      rcases Nat.eq_zero_or_pos n with e | e
      · exact e
      · have := Nat.mul_pos e h0
        simp at *; omega
    subst hn0
    have hl0 : l = [] := List.length_eq_zero_iff.1 hl
    subst hl0
    refine (AnyF.slices_SortFunc_none L none 0 _ w).mono ?_
    rintro r w' ⟨rfl, rfl⟩
    exact ⟨rfl, [], List.Perm.refl _, List.Pairwise.nil, h, ⟨rfl, rfl, rfl, Nat.le_refl _, fun _ _ _ => rfl⟩⟩
  · subst hv
    have hH : HoldsK enc k w blk 0 l.toArray := holds_row id (by rw [flatM_toList h0 hk]; simpa using h)
    have hgl : blk < w.heap.size := (h.lt blk rfl).2
    have hc := hcmp blk cap rfl
    rw [← hl] at hc
    have hcon := AnyQ.slices_SortFunc L k aE zE enc hk h1 cf hO g cb blk 0 cap l.toArray w eg (by simpa using hc) hH hgl (by simp; omega)
    rw [List.size_toArray, hl] at hcon
    refine hcon.mono ?_
    rintro r w' ⟨rfl, d', q, os, hp, hs, rfl⟩
    have hpl : d'.toList.Perm l := by
      have h1 := hp.2.2
      have h2 := hp.1
      simp at h1 h2
      rw [List.take_of_length_le (by simp [h2, hl]), List.take_of_length_le (by rw [hl]; exact Nat.le_refl _)] at h1
      exact h1
    have hsz : d'.size = l.length := by simpa using hp.1
    obtain ⟨r1, r2⟩ := sort_row (d := flatK enc k l.toArray) (d' := flatK enc k d') id (by rw [flatM_toList h0 hk]; simpa using h) (by simp [flatK, hsz]) q os
    rw [flatM_toList h0 hk, List.map_id] at r1
    refine ⟨rfl, d'.toList, hpl, ?_, r1, r2⟩
    rw [List.pairwise_iff_getElem]
    intro i j hi hj hij
    have h1 := hs i j (Nat.zero_le _) hij (by simpa [← hl, hsz] using hj)
    have h3 : d'[i]! = d'.toList[i] := by simp at hi ⊢; simp [hi]
    have h4 : d'[j]! = d'.toList[j] := by simp at hj ⊢; simp [hj]
    rw [h3, h4] at h1
    exact h1
end Pantry
