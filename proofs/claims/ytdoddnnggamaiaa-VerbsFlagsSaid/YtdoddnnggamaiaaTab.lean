/- The table of commands as plain data: the three pieces of the program's table, and all of it. -/
import Derived.Test.YtdoddnnggamaiaaOrder
namespace Pantry.Verbs
/-- A row of the table: the name's bytes, arity, flags, first, last, jump. -/
structure Row where
  name : List UInt8
  arity : Int
  flags : Int
  first : Int
  last : Int
  jump : Int
deriving DecidableEq
def one : List Row := [
  ⟨[65, 80, 80, 69, 78, 68], 3, 3, 1, 1, 1⟩,
  ⟨[66, 73, 84, 67, 79, 85, 78, 84], -2, 0, 1, 1, 1⟩,
  ⟨[67, 79, 80, 89], -3, 3, 1, 2, 1⟩,
  ⟨[68, 66, 83, 73, 90, 69], 1, 0, 0, 0, 0⟩,
  ⟨[68, 69, 67, 82], 2, 3, 1, 1, 1⟩,
  ⟨[68, 69, 67, 82, 66, 89], 3, 3, 1, 1, 1⟩,
  ⟨[68, 69, 76], -2, 1, 1, -1, 1⟩,
  ⟨[68, 73, 83, 67, 65, 82, 68], 1, 4, 0, 0, 0⟩,
  ⟨[69, 67, 72, 79], 2, 0, 0, 0, 0⟩,
  ⟨[69, 88, 69, 67], 1, 4, 0, 0, 0⟩,
  ⟨[69, 88, 73, 83, 84, 83], -2, 0, 1, -1, 1⟩,
  ⟨[69, 88, 80, 73, 82, 69], 3, 3, 1, 1, 1⟩,
  ⟨[69, 88, 80, 73, 82, 69, 65, 84], 3, 3, 1, 1, 1⟩,
  ⟨[70, 76, 85, 83, 72, 65, 76, 76], 1, 1, 0, 0, 0⟩,
  ⟨[71, 69, 84], 2, 0, 1, 1, 1⟩,
  ⟨[71, 69, 84, 66, 73, 84], 3, 0, 1, 1, 1⟩,
  ⟨[71, 69, 84, 68, 69, 76], 2, 1, 1, 1, 1⟩,
  ⟨[71, 69, 84, 82, 65, 78, 71, 69], 4, 0, 1, 1, 1⟩,
  ⟨[71, 69, 84, 83, 69, 84], 3, 3, 1, 1, 1⟩,
  ⟨[72, 68, 69, 76], -3, 1, 1, 1, 1⟩,
  ⟨[72, 69, 88, 73, 83, 84, 83], 3, 0, 1, 1, 1⟩,
  ⟨[72, 71, 69, 84], 3, 0, 1, 1, 1⟩,
  ⟨[72, 71, 69, 84, 65, 76, 76], 2, 0, 1, 1, 1⟩,
  ⟨[72, 73, 78, 67, 82, 66, 89], 4, 3, 1, 1, 1⟩,
  ⟨[72, 73, 78, 67, 82, 66, 89, 70, 76, 79, 65, 84], 4, 3, 1, 1, 1⟩,
  ⟨[72, 75, 69, 89, 83], 2, 0, 1, 1, 1⟩,
  ⟨[72, 76, 69, 78], 2, 0, 1, 1, 1⟩,
  ⟨[72, 77, 71, 69, 84], -3, 0, 1, 1, 1⟩,
  ⟨[72, 82, 65, 78, 68, 70, 73, 69, 76, 68], -2, 0, 1, 1, 1⟩,
  ⟨[72, 83, 67, 65, 78], -3, 0, 1, 1, 1⟩,
  ⟨[72, 83, 69, 84], -4, 3, 1, 1, 1⟩,
  ⟨[72, 83, 69, 84, 78, 88], 4, 3, 1, 1, 1⟩,
  ⟨[72, 83, 84, 82, 76, 69, 78], 3, 0, 1, 1, 1⟩,
  ⟨[72, 86, 65, 76, 83], 2, 0, 1, 1, 1⟩,
  ⟨[73, 78, 67, 82], 2, 3, 1, 1, 1⟩,
  ⟨[73, 78, 67, 82, 66, 89], 3, 3, 1, 1, 1⟩,
  ⟨[73, 78, 67, 82, 66, 89, 70, 76, 79, 65, 84], 3, 3, 1, 1, 1⟩,
  ⟨[75, 69, 89, 83], 2, 0, 0, 0, 0⟩,
  ⟨[76, 73, 78, 68, 69, 88], 3, 0, 1, 1, 1⟩,
  ⟨[76, 73, 78, 83, 69, 82, 84], 5, 3, 1, 1, 1⟩]
def two : List Row := [
  ⟨[76, 76, 69, 78], 2, 0, 1, 1, 1⟩,
  ⟨[76, 77, 79, 86, 69], 5, 3, 1, 2, 1⟩,
  ⟨[76, 80, 79, 80], -2, 1, 1, 1, 1⟩,
  ⟨[76, 80, 79, 83], -3, 0, 1, 1, 1⟩,
  ⟨[76, 80, 85, 83, 72], -3, 3, 1, 1, 1⟩,
  ⟨[76, 80, 85, 83, 72, 88], -3, 3, 1, 1, 1⟩,
  ⟨[76, 82, 65, 78, 71, 69], 4, 0, 1, 1, 1⟩,
  ⟨[76, 82, 69, 77], 4, 1, 1, 1, 1⟩,
  ⟨[76, 83, 69, 84], 4, 3, 1, 1, 1⟩,
  ⟨[76, 84, 82, 73, 77], 4, 1, 1, 1, 1⟩,
  ⟨[77, 71, 69, 84], -2, 0, 1, -1, 1⟩,
  ⟨[77, 83, 69, 84], -3, 3, 1, -1, 2⟩,
  ⟨[77, 83, 69, 84, 78, 88], -3, 3, 1, -1, 2⟩,
  ⟨[77, 85, 76, 84, 73], 1, 4, 0, 0, 0⟩,
  ⟨[80, 69, 82, 83, 73, 83, 84], 2, 1, 1, 1, 1⟩,
  ⟨[80, 69, 88, 80, 73, 82, 69], 3, 3, 1, 1, 1⟩,
  ⟨[80, 69, 88, 80, 73, 82, 69, 65, 84], 3, 3, 1, 1, 1⟩,
  ⟨[80, 73, 78, 71], -1, 8, 0, 0, 0⟩,
  ⟨[80, 83, 85, 66, 83, 67, 82, 73, 66, 69], -2, 12, 0, 0, 0⟩,
  ⟨[80, 84, 84, 76], 2, 0, 1, 1, 1⟩,
  ⟨[80, 85, 66, 76, 73, 83, 72], 3, 0, 0, 0, 0⟩,
  ⟨[80, 85, 78, 83, 85, 66, 83, 67, 82, 73, 66, 69], -1, 12, 0, 0, 0⟩,
  ⟨[81, 85, 73, 84], 1, 12, 0, 0, 0⟩,
  ⟨[82, 65, 78, 68, 79, 77, 75, 69, 89], 1, 0, 0, 0, 0⟩,
  ⟨[82, 69, 78, 65, 77, 69], 3, 3, 1, 2, 1⟩,
  ⟨[82, 69, 78, 65, 77, 69, 78, 88], 3, 3, 1, 2, 1⟩,
  ⟨[82, 80, 79, 80], -2, 1, 1, 1, 1⟩,
  ⟨[82, 80, 85, 83, 72], -3, 3, 1, 1, 1⟩,
  ⟨[82, 80, 85, 83, 72, 88], -3, 3, 1, 1, 1⟩,
  ⟨[83, 65, 68, 68], -3, 3, 1, 1, 1⟩,
  ⟨[83, 67, 65, 78], -2, 0, 0, 0, 0⟩,
  ⟨[83, 67, 65, 82, 68], 2, 0, 1, 1, 1⟩,
  ⟨[83, 68, 73, 70, 70], -2, 0, 1, -1, 1⟩,
  ⟨[83, 68, 73, 70, 70, 83, 84, 79, 82, 69], -3, 3, 1, -1, 1⟩,
  ⟨[83, 69, 84], -3, 3, 1, 1, 1⟩,
  ⟨[83, 69, 84, 66, 73, 84], 4, 3, 1, 1, 1⟩,
  ⟨[83, 69, 84, 78, 88], 3, 3, 1, 1, 1⟩,
  ⟨[83, 69, 84, 82, 65, 78, 71, 69], 4, 3, 1, 1, 1⟩,
  ⟨[83, 73, 78, 84, 69, 82], -2, 0, 1, -1, 1⟩,
  ⟨[83, 73, 78, 84, 69, 82, 83, 84, 79, 82, 69], -3, 3, 1, -1, 1⟩]
def three : List Row := [
  ⟨[83, 73, 83, 77, 69, 77, 66, 69, 82], 3, 0, 1, 1, 1⟩,
  ⟨[83, 77, 69, 77, 66, 69, 82, 83], 2, 0, 1, 1, 1⟩,
  ⟨[83, 77, 73, 83, 77, 69, 77, 66, 69, 82], -3, 0, 1, 1, 1⟩,
  ⟨[83, 77, 79, 86, 69], 4, 3, 1, 2, 1⟩,
  ⟨[83, 80, 79, 80], -2, 1, 1, 1, 1⟩,
  ⟨[83, 82, 65, 78, 68, 77, 69, 77, 66, 69, 82], -2, 0, 1, 1, 1⟩,
  ⟨[83, 82, 69, 77], -3, 1, 1, 1, 1⟩,
  ⟨[83, 83, 67, 65, 78], -3, 0, 1, 1, 1⟩,
  ⟨[83, 84, 82, 76, 69, 78], 2, 0, 1, 1, 1⟩,
  ⟨[83, 85, 66, 83, 67, 82, 73, 66, 69], -2, 12, 0, 0, 0⟩,
  ⟨[83, 85, 78, 73, 79, 78], -2, 0, 1, -1, 1⟩,
  ⟨[83, 85, 78, 73, 79, 78, 83, 84, 79, 82, 69], -3, 3, 1, -1, 1⟩,
  ⟨[84, 79, 85, 67, 72], -2, 0, 1, -1, 1⟩,
  ⟨[84, 84, 76], 2, 0, 1, 1, 1⟩,
  ⟨[84, 89, 80, 69], 2, 0, 1, 1, 1⟩,
  ⟨[85, 78, 83, 85, 66, 83, 67, 82, 73, 66, 69], -1, 12, 0, 0, 0⟩,
  ⟨[85, 78, 87, 65, 84, 67, 72], 1, 0, 0, 0, 0⟩,
  ⟨[87, 65, 84, 67, 72], -2, 4, 1, -1, 1⟩,
  ⟨[90, 65, 68, 68], -4, 3, 1, 1, 1⟩,
  ⟨[90, 67, 65, 82, 68], 2, 0, 1, 1, 1⟩,
  ⟨[90, 67, 79, 85, 78, 84], 4, 0, 1, 1, 1⟩,
  ⟨[90, 73, 78, 67, 82, 66, 89], 4, 3, 1, 1, 1⟩,
  ⟨[90, 77, 83, 67, 79, 82, 69], -3, 0, 1, 1, 1⟩,
  ⟨[90, 80, 79, 80, 77, 65, 88], -2, 1, 1, 1, 1⟩,
  ⟨[90, 80, 79, 80, 77, 73, 78], -2, 1, 1, 1, 1⟩,
  ⟨[90, 82, 65, 78, 71, 69], -4, 0, 1, 1, 1⟩,
  ⟨[90, 82, 65, 78, 71, 69, 66, 89, 83, 67, 79, 82, 69], -4, 0, 1, 1, 1⟩,
  ⟨[90, 82, 65, 78, 75], 3, 0, 1, 1, 1⟩,
  ⟨[90, 82, 69, 77], -3, 1, 1, 1, 1⟩,
  ⟨[90, 82, 69, 77, 82, 65, 78, 71, 69, 66, 89, 82, 65, 78, 75], 4, 1, 1, 1, 1⟩,
  ⟨[90, 82, 69, 77, 82, 65, 78, 71, 69, 66, 89, 83, 67, 79, 82, 69], 4, 1, 1, 1, 1⟩,
  ⟨[90, 82, 69, 86, 82, 65, 78, 75], 3, 0, 1, 1, 1⟩,
  ⟨[90, 83, 67, 79, 82, 69], 3, 0, 1, 1, 1⟩]
def all : List Row := one ++ two ++ three
/-- The rows' names rise. -/
def Rising (l : List Row) : Prop := (l.map (·.name)).Pairwise fun a b => cmpB a b < 0
/-- All rows ahead of place a stand ahead of s. -/
def Lo (l : List Row) (s : List UInt8) (a : Nat) : Prop := ∀ k r, k < a → l[k]? = some r → cmpB r.name s < 0
/-- No row from place b on stands ahead of s. -/
def Hi (l : List Row) (s : List UInt8) (b : Nat) : Prop := ∀ k r, b ≤ k → l[k]? = some r → ¬ cmpB r.name s < 0
theorem Lo.zero (l : List Row) (s : List UInt8) : Lo l s 0 := fun _ _ h => absurd h (Nat.not_lt_zero _)
theorem Hi.all {l : List Row} {s : List UInt8} {n : Nat} (hn : l.length = n) : Hi l s n := by
  intro k r h hr
  have := (List.getElem?_eq_some_iff.1 hr).1
  omega
theorem Lo.step {l : List Row} {s : List UInt8} (h : Rising l) {m : Nat} {r : Row} (hr : l[m]? = some r) (hc : cmpB r.name s < 0) : Lo l s (m + 1) := by
  intro k q hk hq
  obtain ⟨h1, rfl⟩ := List.getElem?_eq_some_iff.1 hr
  obtain ⟨h2, rfl⟩ := List.getElem?_eq_some_iff.1 hq
  have := rising_below (s := s) h (k := m) (i := k) (by simpa using h1) (by omega) (by simpa using hc)
  simpa using this
theorem Hi.step {l : List Row} {s : List UInt8} (h : Rising l) {m : Nat} {r : Row} (hr : l[m]? = some r) (hc : ¬ cmpB r.name s < 0) : Hi l s m := by
  intro k q hk hq
  obtain ⟨h1, rfl⟩ := List.getElem?_eq_some_iff.1 hr
  obtain ⟨h2, rfl⟩ := List.getElem?_eq_some_iff.1 hq
  have := rising_above (s := s) h (k := m) (i := k) (by simpa using h2) (by omega) (by simpa using hc)
  simpa using this
/-- What a search tells: a place, and whether the row stands there. -/
def Found (l : List Row) (s : List UInt8) (i : Nat) (ok : Bool) : Prop :=
  (ok = true → ∃ r, l[i]? = some r ∧ r.name = s) ∧ (ok = false → ∀ r ∈ l, r.name ≠ s)
theorem Found.at_end {l : List Row} {s : List UInt8} {a n : Nat} (hn : l.length = n) (hlo : Lo l s a) (ha : ¬ a < n) : Found l s a false := by
  refine ⟨by simp, fun _ r hr => ?_⟩
  obtain ⟨k, hk, rfl⟩ := List.mem_iff_getElem.1 hr
  have := hlo k _ (by omega) (List.getElem?_eq_getElem hk)
  intro e
  rw [e, cmpB_self] at this
  omega
theorem Found.yes {l : List Row} {s : List UInt8} {a : Nat} {r : Row} (hr : l[a]? = some r) (hc : cmpB r.name s = 0) : Found l s a true :=
  ⟨fun _ => ⟨r, hr, cmpB_eq hc⟩, by simp⟩
theorem Found.no {l : List Row} {s : List UInt8} {a : Nat} {r : Row} (h : Rising l) (hlo : Lo l s a) (hhi : Hi l s a) (hr : l[a]? = some r) (hc : cmpB r.name s ≠ 0) : Found l s a false := by
  refine ⟨by simp, fun _ q hq e => ?_⟩
  obtain ⟨k, hk, rfl⟩ := List.mem_iff_getElem.1 hq
  have hq' := List.getElem?_eq_getElem hk
  have hz : cmpB (l[k]).name s = 0 := by rw [e, cmpB_self]
  rcases Nat.lt_trichotomy k a with hlt | rfl | hgt
  · have := hlo k _ hlt hq'; omega
  · rw [hq'] at hr; cases hr; exact hc hz
  · have h1 := hhi a r (Nat.le_refl _) hr
    have h2 : cmpB s r.name < 0 := cmpB_gt.1 (by omega)
    obtain ⟨h3, rfl⟩ := List.getElem?_eq_some_iff.1 hr
    have h4 : cmpB l[a].name l[k].name < 0 := by
      have := List.pairwise_iff_getElem.1 h a k (by simpa using h3) (by simpa using hk) hgt
      simpa using this
    rw [e] at h4
    have := cmpB_lt_trans h2 h4
    rw [cmpB_self] at this
    omega
theorem rising_one : Rising one := by unfold Rising; decide +kernel
theorem rising_two : Rising two := by unfold Rising; decide +kernel
theorem rising_three : Rising three := by unfold Rising; decide +kernel
theorem rising_all : Rising all := by unfold Rising; decide +kernel
end Pantry.Verbs
