/- Members in order: plain laws. -/
import Derived.Test.YtbjfigegiffefaaFOrd
import Derived.Test.YtbjfigegiffefaaOrder
set_option linter.unusedVariables false
set_option linter.unusedSimpArgs false
namespace Pantry
open Go
/-- A member and its score's bits. -/
abbrev Mb := List UInt8 × Nat
def cmpR (p q : Mb) : Int := if fkey p.2 < fkey q.2 then -1 else if fkey q.2 < fkey p.2 then 1 else cmpB p.1 q.1
theorem cmpR_lt {p q : Mb} : cmpR p q < 0 ↔ fkey p.2 < fkey q.2 ∨ (fkey p.2 = fkey q.2 ∧ cmpB p.1 q.1 < 0) := by
  unfold cmpR
  split
  · rename_i h; exact ⟨fun _ => .inl h, fun _ => by omega⟩
  · rename_i h
    split
    · rename_i h2
      constructor
      · intro h3; omega
      · rintro (h3 | ⟨h3, -⟩) <;> omega
    · rename_i h2
      constructor
      · intro h3; exact .inr ⟨by omega, h3⟩
      · rintro (h3 | ⟨-, h3⟩)
        · omega
        · exact h3
theorem cmpR_trans {p q r : Mb} (h1 : cmpR p q < 0) (h2 : cmpR q r < 0) : cmpR p r < 0 := by
  rw [cmpR_lt] at *
  rcases h1 with h1 | ⟨h1, k1⟩
  · rcases h2 with h2 | ⟨h2, -⟩
    · exact .inl (by omega)
    · exact .inl (by omega)
  · rcases h2 with h2 | ⟨h2, k2⟩
    · exact .inl (by omega)
    · exact .inr ⟨by omega, cmpB_lt_trans k1 k2⟩
theorem cmpR_zero {p q : Mb} : cmpR p q = 0 ↔ fkey p.2 = fkey q.2 ∧ p.1 = q.1 := by
  unfold cmpR
  split
  · constructor
    · intro h; omega
    · rintro ⟨h, -⟩; omega
  · split
    · constructor
      · intro h; omega
      · rintro ⟨h, -⟩; omega
    · rw [cmpB_zero]
      exact ⟨fun h => ⟨by omega, h⟩, fun h => h.2⟩
theorem cmpR_gt {p q : Mb} : 0 < cmpR p q ↔ cmpR q p < 0 := by
  rw [cmpR_lt]
  unfold cmpR
  split
  · constructor
    · intro h; omega
    · rintro (h | ⟨h, -⟩) <;> omega
  · split
    · rename_i h1 h2
      exact ⟨fun _ => .inl h2, fun _ => by omega⟩
    · rw [cmpB_gt]
      constructor
      · intro h; exact .inr ⟨by omega, h⟩
      · rintro (h | ⟨-, h⟩)
        · omega
        · exact h
theorem cmpR_irrefl (p : Mb) : ¬ cmpR p p < 0 := by
  have : cmpR p p = 0 := cmpR_zero.2 ⟨rfl, rfl⟩
  omega
/-- Rising. -/
def Rises (l : List Mb) : Prop := l.Pairwise fun a b => cmpR a b < 0
/-- The place of a member: all ahead of it are less, and none behind. -/
structure AtPlace (l : List Mb) (x : Mb) (i : Nat) : Prop where
  le : i ≤ l.length
  lo : ∀ k p, k < i → l[k]? = some p → cmpR p x < 0
  hi : ∀ k p, i ≤ k → l[k]? = some p → ¬ cmpR p x < 0
theorem AtPlace.uniq {l : List Mb} {x : Mb} {i j : Nat} (h : AtPlace l x i) (k : AtPlace l x j) : i = j := by
  have one : ∀ {i j : Nat}, AtPlace l x i → AtPlace l x j → ¬ i < j := by
    intro i j h k hlt
    have hl : i < l.length := Nat.lt_of_lt_of_le hlt k.le
    exact h.hi i _ (Nat.le_refl _) (List.getElem?_eq_getElem hl) (k.lo i _ hlt (List.getElem?_eq_getElem hl))
  have := one h k
  have := one k h
  omega
theorem Rises.get {l : List Mb} (h : Rises l) {i j : Nat} {p q : Mb} (hij : i < j) (hi : l[i]? = some p) (hj : l[j]? = some q) : cmpR p q < 0 := by
  obtain ⟨a, rfl⟩ := List.getElem?_eq_some_iff.1 hi
  obtain ⟨b, rfl⟩ := List.getElem?_eq_some_iff.1 hj
  exact List.pairwise_iff_getElem.1 h i j a b hij
/-- What is put in at its place leaves the row rising. -/
theorem Rises.insert {l : List Mb} {x : Mb} {i : Nat} (h : Rises l) (hp : AtPlace l x i) (hn : ∀ p ∈ l, cmpR p x ≠ 0) : Rises (l.take i ++ [x] ++ l.drop i) := by
  unfold Rises at *
  rw [List.append_assoc, List.pairwise_append]
  refine ⟨h.sublist (List.take_sublist _ _), ?_, ?_⟩
  · rw [List.singleton_append, List.pairwise_cons]
    refine ⟨?_, h.sublist (List.drop_sublist _ _)⟩
    intro q hq
    obtain ⟨k, hk, rfl⟩ := List.mem_iff_getElem.1 hq
    have hk' : i + k < l.length := by rw [List.length_drop] at hk; omega
    rw [List.getElem_drop]
    have := hp.hi (i + k) _ (by omega) (List.getElem?_eq_getElem hk')
    have h0 := hn _ (List.getElem_mem hk')
    exact cmpR_gt.1 (by omega)
  · intro p hpm q hq
    have hpx : cmpR p x < 0 := by
      obtain ⟨k, hk, rfl⟩ := List.mem_iff_getElem.1 hpm
      rw [List.length_take] at hk
      rw [List.getElem_take]
      exact hp.lo k _ (by omega) (List.getElem?_eq_getElem (by omega))
    rcases List.mem_append.1 hq with hq | hq
    · rw [List.mem_singleton.1 hq]; exact hpx
    · obtain ⟨k, hk, rfl⟩ := List.mem_iff_getElem.1 hq
      have hk' : i + k < l.length := by rw [List.length_drop] at hk; omega
      rw [List.getElem_drop]
      have h1 := hp.hi (i + k) _ (by omega) (List.getElem?_eq_getElem hk')
      have h0 := hn _ (List.getElem_mem hk')
      exact cmpR_trans hpx (cmpR_gt.1 (by omega))
theorem Rises.erase {l : List Mb} (h : Rises l) (i : Nat) : Rises (l.take i ++ l.drop (i + 1)) := by
  unfold Rises at *
  refine h.sublist ?_
  have : l = l.take i ++ l.drop i := (List.take_append_drop i l).symm
  conv => rhs; rw [this]
  exact List.Sublist.append_left (by rw [← List.drop_drop]; exact List.drop_sublist _ _) _
/-- One that stands there is at its own place. -/
theorem Rises.place {l : List Mb} (h : Rises l) {i : Nat} {x : Mb} (hi : l[i]? = some x) : AtPlace l x i := by
  refine ⟨Nat.le_of_lt (List.getElem?_eq_some_iff.1 hi).1, fun k p hk hp => h.get hk hp hi, fun k p hk hp => ?_⟩
  rcases Nat.lt_or_eq_of_le hk with hlt | rfl
  · have := h.get hlt hi hp
    intro h2
    exact cmpR_irrefl _ (cmpR_trans this h2)
  · rw [hi] at hp; cases hp
    exact cmpR_irrefl _
end Pantry
