/- The order of floats of 64 bits: a plain whole number for each that is a number. -/
import Derived.Test.YtbjfigegiffefaaOwn
set_option linter.unusedVariables false
set_option linter.unusedSimpArgs false
namespace Pantry
open Go Ieee
def fbig : Int := ((2 ^ (53 + 2047) : Nat) : Int)
def dkey : Datum → Int
  | .number s m i => signed s m (i + 1074).toNat
  | .infinity s => if s then -fbig else fbig
  | .nan .. => 0
/-- What is read of a word that is no NaN. -/
def DGood : Datum → Prop
  | .number _ m i => m < 2 ^ 53 ∧ -1074 ≤ i ∧ i ≤ 971
  | .infinity _ => True
  | .nan .. => False
theorem signed_mul (s : Bool) (m a b : Nat) : signed s m (a + b) = signed s m a * ((2 ^ b : Nat) : Int) := by
  unfold signed
  rw [Nat.shiftLeft_add, Nat.shiftLeft_eq (m <<< a) b]
  cases s <;> simp [Int.neg_mul]
theorem compare_scale {a b c : Int} (hc : 0 < c) : compare (a * c) (b * c) = compare a b := by
  have h1 : a * c < b * c ↔ a < b := Int.mul_lt_mul_right hc
  have h2 : a * c = b * c ↔ a = b := Int.mul_eq_mul_right_iff (by omega)
  simp only [compare, compareOfLessAndEq, h1, h2]
theorem sh_lt (m a k : Nat) (hm : m < 2 ^ 53) (ha : a ≤ k) : m <<< a < 2 ^ (53 + k) := by
  rw [Nat.shiftLeft_eq, Nat.pow_add]
  exact Nat.lt_of_lt_of_le (Nat.mul_lt_mul_of_pos_right hm (Nat.two_pow_pos a)) (Nat.mul_le_mul_left _ (Nat.pow_le_pow_right (by decide) ha))
theorem signed_abs (s : Bool) (m a : Nat) (hm : m < 2 ^ 53) (ha : a ≤ 2045) : -fbig < signed s m a ∧ signed s m a < fbig := by
  have h1 := sh_lt m a 2047 hm (by omega)
  unfold signed fbig
  generalize (2 : Nat) ^ (53 + 2047) = B at h1 ⊢
  generalize m <<< a = q at h1 ⊢
  cases s
  · simp only [if_false, Bool.false_eq_true]; omega
  · simp only [if_true]; omega
theorem compare_lt {a b : Int} (h : a < b) : compare a b = .lt := by simp [compare, compareOfLessAndEq, h]
theorem compare_gt {a b : Int} (h : b < a) : compare a b = .gt := by
  have h1 : ¬ a < b := by omega
  have h2 : ¬ a = b := by omega
  simp [compare, compareOfLessAndEq, h1, h2]
theorem fbig_pos : 0 < fbig := by
  unfold fbig
  have := Nat.two_pow_pos (53 + 2047)
  generalize (2 : Nat) ^ (53 + 2047) = B at this ⊢
  omega
theorem order_key {a b : Datum} (ha : DGood a) (hb : DGood b) : a.order b = some (compare (dkey a) (dkey b)) := by
  have hp := fbig_pos
  cases a with
  | nan => exact ha.elim
  | infinity s =>
    cases b with
    | nan => exact hb.elim
    | infinity t =>
      cases s <;> cases t <;> simp only [Datum.order, dkey, if_true, if_false, Bool.false_eq_true, Bool.toNat]
      · simp [compare, compareOfLessAndEq]
      · rw [compare_gt (by omega)]; rfl
      · rw [compare_lt (by omega)]; rfl
      · simp [compare, compareOfLessAndEq]
    | number t n j =>
      obtain ⟨h1, h2, h3⟩ := hb
      obtain ⟨k1, k2⟩ := signed_abs t n (j + 1074).toNat h1 (by omega)
      cases s <;> simp only [Datum.order, dkey, if_true, if_false, Bool.false_eq_true]
      · rw [compare_gt k2]
      · rw [compare_lt k1]
  | number s m i =>
    obtain ⟨g1, g2, g3⟩ := ha
    cases b with
    | nan => exact hb.elim
    | infinity t =>
      obtain ⟨k1, k2⟩ := signed_abs s m (i + 1074).toNat g1 (by omega)
      cases t <;> simp only [Datum.order, dkey, if_true, if_false, Bool.false_eq_true]
      · rw [compare_lt k2]
      · rw [compare_gt k1]
    | number t n j =>
      obtain ⟨h1, h2, h3⟩ := hb
      simp only [Datum.order, dkey]
      obtain ⟨y, hy⟩ : ∃ y : Nat, (y : Int) = min i j + 1074 := ⟨(min i j + 1074).toNat, by omega⟩
      have e1 : (i + 1074).toNat = (i - min i j).toNat + y := by omega
      have e2 : (j + 1074).toNat = (j - min i j).toNat + y := by omega
      rw [e1, e2, signed_mul, signed_mul, compare_scale (by exact_mod_cast Nat.two_pow_pos y)]
theorem read_good (x : Nat) : DGood (double.read x) ∨ (double.read x).isNaN = true := by
  have e1 : double.binade = 2 ^ 52 := rfl
  have e2 : double.signWeight = 2 ^ 63 := rfl
  have e3 : double.infRung = 2047 * 2 ^ 52 := rfl
  have e4 : double.leastPlace = -1074 := rfl
  unfold Format.read
  rw [e1, e2, e3, e4]
  generalize (x / 2 ^ 63 % 2 == 1) = s
  generalize hr : x % 2 ^ 63 = r
  simp only
  split
  · rename_i h
    left
    refine ⟨?_, by omega, by omega⟩
    omega
  · split
    · rename_i h1 h2
      left
      refine ⟨?_, ?_, ?_⟩
      · omega
      · omega
      · omega
    · split
      · left; trivial
      · right; rfl
/-- The number of a float; is it none? -/
def fkey (x : Nat) : Int := dkey (double.read x)
def fnan (x : Nat) : Prop := (double.read x).isNaN = true
instance (x : Nat) : Decidable (fnan x) := by unfold fnan; infer_instance
theorem f_order {x y : Nat} (hx : ¬ fnan x) (hy : ¬ fnan y) : FloatKind.f64.format.order x y = some (compare (fkey x) (fkey y)) :=
  order_key ((read_good x).resolve_right hx) ((read_good y).resolve_right hy)
theorem f_nan_l {x : Nat} (hx : fnan x) (y : Nat) : FloatKind.f64.format.order x y = none := by
  show (double.read x).order (double.read y) = none
  unfold fnan at hx
  generalize double.read x = d at hx
  cases d <;> first | rfl | cases hx
theorem f_nan_r {y : Nat} (hy : fnan y) (x : Nat) : FloatKind.f64.format.order x y = none := by
  show (double.read x).order (double.read y) = none
  unfold fnan at hy
  generalize double.read y = d at hy
  generalize double.read x = c
  cases d <;> first | (cases c <;> rfl) | cases hy
theorem f_lt {x y : Nat} (hx : ¬ fnan x) (hy : ¬ fnan y) : (FloatKind.f64.format.order x y == some .lt) = decide (fkey x < fkey y) := by
  rw [f_order hx hy]
  rcases Int.lt_trichotomy (fkey x) (fkey y) with h | h | h
  · rw [compare_lt h]; simp [h]
  · rw [h]; simp [compare, compareOfLessAndEq]
  · rw [compare_gt h]
    have : ¬ fkey x < fkey y := by omega
    simp [this]
theorem f_gt {x y : Nat} (hx : ¬ fnan x) (hy : ¬ fnan y) : (FloatKind.f64.format.order x y == some .gt) = decide (fkey y < fkey x) := by
  rw [f_order hx hy]
  rcases Int.lt_trichotomy (fkey x) (fkey y) with h | h | h
  · rw [compare_lt h]
    have : ¬ fkey y < fkey x := by omega
    simp [this]
  · rw [h]; simp [compare, compareOfLessAndEq]
  · rw [compare_gt h]; simp [h]
theorem f_eq {x y : Nat} (hx : ¬ fnan x) (hy : ¬ fnan y) : (FloatKind.f64.format.order x y == some .eq) = decide (fkey x = fkey y) := by
  rw [f_order hx hy]
  rcases Int.lt_trichotomy (fkey x) (fkey y) with h | h | h
  · rw [compare_lt h]
    have : ¬ fkey x = fkey y := by omega
    simp [this]
  · rw [h]; simp [compare, compareOfLessAndEq]
  · rw [compare_gt h]
    have : ¬ fkey x = fkey y := by omega
    simp [this]
theorem f_self {x : Nat} : (FloatKind.f64.format.order x x != some .eq) = decide (fnan x) := by
  by_cases h : fnan x
  · rw [f_nan_l h]; simp [h]
  · have := f_eq h h
    simp only [bne]
    rw [this]; simp [h]
end Pantry
