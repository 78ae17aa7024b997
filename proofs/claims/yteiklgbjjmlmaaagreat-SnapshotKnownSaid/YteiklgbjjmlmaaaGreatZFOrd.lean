
/- The order of floats of 64 bits: a plain whole number for each that is a number. -/
import Derived.Test.YteiklgbjjmlmaaaGreatZMem
import Derived.Lib.Bytealg
import GoSem.Op.String
set_option linter.unusedVariables false
set_option linter.unusedSimpArgs false
namespace Pantry
open Go Ieee
def fbig : Int := ((2 ^ (53 + 2047) : Nat) : Int)
def dkey : Datum → Int
  | .number s m i => signed s m (i + 1074).toNat
  | .infinity s => if s then -fbig else fbig
  | .nan .. => 0
/-- What is read of a word that is no NaN. -/
def FlGood : Datum → Prop
  | .number _ m i => m < 2 ^ 53 ∧ -1074 ≤ i ∧ i ≤ 971
  | .infinity _ => True
  | .nan .. => False
theorem signed_mul (s : Bool) (m a b : Nat) : signed s m (a + b) = signed s m a * ((2 ^ b : Nat) : Int) := by
  unfold signed
  rw [Nat.shiftLeft_add, Nat.shiftLeft_eq (m <<< a) b]
  cases s <;> simp [Int.neg_mul]
theorem compare_scale {a b c : Int} (hc : 0 < c) : compare (a * c) (b * c) = compare a b := by
  have h1 : a * c < b * c ↔ a < b := Int.mul_lt_mul_right hc
  have h2 : a * c = b * c ↔ a = b := Int.mul_eq_mul_right_iff (by omega)
  simp only [compare, compareOfLessAndEq, h1, h2]
theorem sh_lt (m a k : Nat) (hm : m < 2 ^ 53) (ha : a ≤ k) : m <<< a < 2 ^ (53 + k) := by
  rw [Nat.shiftLeft_eq, Nat.pow_add]
  exact Nat.lt_of_lt_of_le (Nat.mul_lt_mul_of_pos_right hm (Nat.two_pow_pos a)) (Nat.mul_le_mul_left _ (Nat.pow_le_pow_right (by decide) ha))
theorem signed_abs (s : Bool) (m a : Nat) (hm : m < 2 ^ 53) (ha : a ≤ 2045) : -fbig < signed s m a ∧ signed s m a < fbig := by
  have h1 := sh_lt m a 2047 hm (by omega)
  unfold signed fbig
  generalize (2 : Nat) ^ (53 + 2047) = B at h1 ⊢
  generalize m <<< a = q at h1 ⊢
  cases s
  · simp only [if_false, Bool.false_eq_true]; omega
  · simp only [if_true]; omega
theorem compare_lt {a b : Int} (h : a < b) : compare a b = .lt := by simp [compare, compareOfLessAndEq, h]
theorem compare_gt {a b : Int} (h : b < a) : compare a b = .gt := by
  have h1 : ¬ a < b := by omega
  have h2 : ¬ a = b := by omega
  simp [compare, compareOfLessAndEq, h1, h2]
theorem fbig_pos : 0 < fbig := by
  unfold fbig
  have := Nat.two_pow_pos (53 + 2047)
  generalize (2 : Nat) ^ (53 + 2047) = B at this ⊢
  omega
theorem order_key {a b : Datum} (ha : FlGood a) (hb : FlGood b) : a.order b = some (compare (dkey a) (dkey b)) := by
  have hp := fbig_pos
  cases a with
  | nan => exact ha.elim
  | infinity s =>
    cases b with
    | nan => exact hb.elim
    | infinity t =>
      cases s <;> cases t <;> simp only [Datum.order, dkey, if_true, if_false, Bool.false_eq_true, Bool.toNat]
      · simp [compare, compareOfLessAndEq]
      · rw [compare_gt (by omega)]; rfl
      · rw [compare_lt (by omega)]; rfl
      · simp [compare, compareOfLessAndEq]
    | number t n j =>
      obtain ⟨h1, h2, h3⟩ := hb
      obtain ⟨k1, k2⟩ := signed_abs t n (j + 1074).toNat h1 (by omega)
      cases s <;> simp only [Datum.order, dkey, if_true, if_false, Bool.false_eq_true]
      · rw [compare_gt k2]
      · rw [compare_lt k1]
  | number s m i =>
    obtain ⟨g1, g2, g3⟩ := ha
    cases b with
    | nan => exact hb.elim
    | infinity t =>
      obtain ⟨k1, k2⟩ := signed_abs s m (i + 1074).toNat g1 (by omega)
      cases t <;> simp only [Datum.order, dkey, if_true, if_false, Bool.false_eq_true]
      · rw [compare_lt k2]
      · rw [compare_gt k1]
    | number t n j =>
      obtain ⟨h1, h2, h3⟩ := hb
      simp only [Datum.order, dkey]
      obtain ⟨y, hy⟩ : ∃ y : Nat, (y : Int) = min i j + 1074 := ⟨(min i j + 1074).toNat, by omega⟩
      have e1 : (i + 1074).toNat = (i - min i j).toNat + y := by omega
      have e2 : (j + 1074).toNat = (j - min i j).toNat + y := by omega
      rw [e1, e2, signed_mul, signed_mul, compare_scale (by exact_mod_cast Nat.two_pow_pos y)]
theorem read_good (x : Nat) : FlGood (double.read x) ∨ (double.read x).isNaN = true := by
  have e1 : double.binade = 2 ^ 52 := rfl
  have e2 : double.signWeight = 2 ^ 63 := rfl
  have e3 : double.infRung = 2047 * 2 ^ 52 := rfl
  have e4 : double.leastPlace = -1074 := rfl
  unfold Format.read
  rw [e1, e2, e3, e4]
  generalize (x / 2 ^ 63 % 2 == 1) = s
  generalize hr : x % 2 ^ 63 = r
  simp only
  split
  · rename_i h
    left
    refine ⟨?_, by omega, by omega⟩
    omega
  · split
    · rename_i h1 h2
      left
      refine ⟨?_, ?_, ?_⟩
      · omega
      · omega
      · omega
    · split
      · left; trivial
      · right; rfl
/-- The number of a float; is it none? -/
def fkey (x : Nat) : Int := dkey (double.read x)
def fnan (x : Nat) : Prop := (double.read x).isNaN = true
instance (x : Nat) : Decidable (fnan x) := by unfold fnan; infer_instance
theorem f_order {x y : Nat} (hx : ¬ fnan x) (hy : ¬ fnan y) : FloatKind.f64.format.order x y = some (compare (fkey x) (fkey y)) :=
  order_key ((read_good x).resolve_right hx) ((read_good y).resolve_right hy)
theorem f_nan_l {x : Nat} (hx : fnan x) (y : Nat) : FloatKind.f64.format.order x y = none := by
  show (double.read x).order (double.read y) = none
  unfold fnan at hx
  generalize double.read x = d at hx
  cases d <;> first | rfl | cases hx
theorem f_lt {x y : Nat} (hx : ¬ fnan x) (hy : ¬ fnan y) : (FloatKind.f64.format.order x y == some .lt) = decide (fkey x < fkey y) := by
  rw [f_order hx hy]
  rcases Int.lt_trichotomy (fkey x) (fkey y) with h | h | h
  · rw [compare_lt h]; simp [h]
  · rw [h]; simp [compare, compareOfLessAndEq]
  · rw [compare_gt h]
    have : ¬ fkey x < fkey y := by omega
    simp [this]
theorem f_gt {x y : Nat} (hx : ¬ fnan x) (hy : ¬ fnan y) : (FloatKind.f64.format.order x y == some .gt) = decide (fkey y < fkey x) := by
  rw [f_order hx hy]
  rcases Int.lt_trichotomy (fkey x) (fkey y) with h | h | h
  · rw [compare_lt h]
    have : ¬ fkey y < fkey x := by omega
    simp [this]
  · rw [h]; simp [compare, compareOfLessAndEq]
  · rw [compare_gt h]; simp [h]
theorem f_eq {x y : Nat} (hx : ¬ fnan x) (hy : ¬ fnan y) : (FloatKind.f64.format.order x y == some .eq) = decide (fkey x = fkey y) := by
  rw [f_order hx hy]
  rcases Int.lt_trichotomy (fkey x) (fkey y) with h | h | h
  · rw [compare_lt h]
    have : ¬ fkey x = fkey y := by omega
    simp [this]
  · rw [h]; simp [compare, compareOfLessAndEq]
  · rw [compare_gt h]
    have : ¬ fkey x = fkey y := by omega
    simp [this]
theorem f_self {x : Nat} : (FloatKind.f64.format.order x x != some .eq) = decide (fnan x) := by
  by_cases h : fnan x
  · rw [f_nan_l h]; simp [h]
  · have := f_eq h h
    simp only [bne]
    rw [this]; simp [h]
end Pantry


/- Plain laws on the order of texts. -/
namespace Pantry
open Go
abbrev cmpB := Lib.compareBytes
theorem cmpB_self : ∀ a : List UInt8, cmpB a a = 0
  | [] => rfl
  | a :: as => by simp [cmpB, Lib.compareBytes, UInt8.lt_irrefl]; exact cmpB_self as
theorem cmpB_eq : ∀ {a b : List UInt8}, cmpB a b = 0 → a = b
  | [], [], _ => rfl
  | [], _ :: _, h => by simp [cmpB, Lib.compareBytes] at h
  | _ :: _, [], h => by simp [cmpB, Lib.compareBytes] at h
  | a :: as, b :: bs, h => by
    simp only [cmpB, Lib.compareBytes] at h
    split at h
    · omega
    · split at h
      · omega
      · rename_i h1 h2
        have : a = b := UInt8.le_antisymm (UInt8.not_lt.1 h2) (UInt8.not_lt.1 h1)
        rw [this, cmpB_eq h]
theorem cmpB_zero {a b : List UInt8} : cmpB a b = 0 ↔ a = b := ⟨cmpB_eq, fun h => h ▸ cmpB_self a⟩
theorem cmpB_lt_trans : ∀ {a b c : List UInt8}, cmpB a b < 0 → cmpB b c < 0 → cmpB a c < 0
  | [], _, [], h1, h2 => by
    rename_i b
    cases b <;> simp [cmpB, Lib.compareBytes] at h1 h2
  | [], _, _ :: _, _, _ => by simp [cmpB, Lib.compareBytes]
  | a :: as, [], _, h1, _ => by simp [cmpB, Lib.compareBytes] at h1
  | a :: as, b :: bs, [], _, h2 => by simp [cmpB, Lib.compareBytes] at h2
  | a :: as, b :: bs, c :: cs, h1, h2 => by
    simp only [cmpB, Lib.compareBytes] at h1 h2 ⊢
    by_cases hab : a < b
    · by_cases hbc : b < c
      · rw [if_pos (UInt8.lt_trans hab hbc)]; omega
      · rw [if_neg hbc] at h2
        by_cases hcb : c < b
        · rw [if_pos hcb] at h2; omega
        · have : b = c := UInt8.le_antisymm (UInt8.not_lt.1 hcb) (UInt8.not_lt.1 hbc)
          rw [← this, if_pos hab]; omega
    · rw [if_neg hab] at h1
      by_cases hba : b < a
      · rw [if_pos hba] at h1; omega
      · rw [if_neg hba] at h1
        have e : a = b := UInt8.le_antisymm (UInt8.not_lt.1 hba) (UInt8.not_lt.1 hab)
        subst e
        by_cases hbc : a < c
        · rw [if_pos hbc]; omega
        · rw [if_neg hbc] at h2 ⊢
          by_cases hcb : c < a
          · rw [if_pos hcb] at h2; omega
          · rw [if_neg hcb] at h2 ⊢
            exact cmpB_lt_trans h1 h2
theorem cmpB_gt : ∀ {a b : List UInt8}, 0 < cmpB a b ↔ cmpB b a < 0
  | [], [] => by simp [cmpB, Lib.compareBytes]
  | [], _ :: _ => by simp [cmpB, Lib.compareBytes]
  | _ :: _, [] => by simp [cmpB, Lib.compareBytes]
  | a :: as, b :: bs => by
    simp only [cmpB, Lib.compareBytes]
    by_cases hab : a < b
    · rw [if_pos hab, if_neg (UInt8.lt_asymm hab), if_pos hab]; omega
    · rw [if_neg hab]
      by_cases hba : b < a
      · rw [if_pos hba, if_pos hba]; omega
      · rw [if_neg hba, if_neg hba, if_neg hab]
        exact cmpB_gt
theorem bytesLess_iff : ∀ (a b : List UInt8), Op.bytesLess a b = decide (cmpB a b < 0)
  | [], [] => by simp [Op.bytesLess, cmpB, Lib.compareBytes]
  | [], _ :: _ => by simp [Op.bytesLess, cmpB, Lib.compareBytes]
  | _ :: _, [] => by simp [Op.bytesLess, cmpB, Lib.compareBytes]
  | a :: as, b :: bs => by
    simp only [Op.bytesLess, cmpB, Lib.compareBytes]
    by_cases hab : a < b
    · simp [hab]
    · by_cases hba : b < a
      · have : a ≠ b := fun h => by subst h; exact hab hba
        simp [hab, hba, this]
      · have e : a = b := UInt8.le_antisymm (UInt8.not_lt.1 hba) (UInt8.not_lt.1 hab)
        subst e
        simp [hab]
        rw [bytesLess_iff as bs]
end Pantry


/- Members in order: plain laws. -/
set_option linter.unusedVariables false
set_option linter.unusedSimpArgs false
namespace Pantry
open Go
/-- A member and its score's bits. -/
abbrev Mb := List UInt8 × Nat
def cmpR (p q : Mb) : Int := if fkey p.2 < fkey q.2 then -1 else if fkey q.2 < fkey p.2 then 1 else cmpB p.1 q.1
theorem cmpR_lt {p q : Mb} : cmpR p q < 0 ↔ fkey p.2 < fkey q.2 ∨ (fkey p.2 = fkey q.2 ∧ cmpB p.1 q.1 < 0) := by
  unfold cmpR
  split
  · rename_i h; exact ⟨fun _ => .inl h, fun _ => by omega⟩
  · rename_i h
    split
    · rename_i h2
      constructor
      · intro h3; omega
      · rintro (h3 | ⟨h3, -⟩) <;> omega
    · rename_i h2
      constructor
      · intro h3; exact .inr ⟨by omega, h3⟩
      · rintro (h3 | ⟨-, h3⟩)
        · omega
        · exact h3
theorem cmpR_trans {p q r : Mb} (h1 : cmpR p q < 0) (h2 : cmpR q r < 0) : cmpR p r < 0 := by
  rw [cmpR_lt] at *
  rcases h1 with h1 | ⟨h1, k1⟩
  · rcases h2 with h2 | ⟨h2, -⟩
    · exact .inl (by omega)
    · exact .inl (by omega)
  · rcases h2 with h2 | ⟨h2, k2⟩
    · exact .inl (by omega)
    · exact .inr ⟨by omega, cmpB_lt_trans k1 k2⟩
theorem cmpR_zero {p q : Mb} : cmpR p q = 0 ↔ fkey p.2 = fkey q.2 ∧ p.1 = q.1 := by
  unfold cmpR
  split
  · constructor
    · intro h; omega
    · rintro ⟨h, -⟩; omega
  · split
    · constructor
      · intro h; omega
      · rintro ⟨h, -⟩; omega
    · rw [cmpB_zero]
      exact ⟨fun h => ⟨by omega, h⟩, fun h => h.2⟩
theorem cmpR_gt {p q : Mb} : 0 < cmpR p q ↔ cmpR q p < 0 := by
  rw [cmpR_lt]
  unfold cmpR
  split
  · constructor
    · intro h; omega
    · rintro (h | ⟨h, -⟩) <;> omega
  · split
    · rename_i h1 h2
      exact ⟨fun _ => .inl h2, fun _ => by omega⟩
    · rw [cmpB_gt]
      constructor
      · intro h; exact .inr ⟨by omega, h⟩
      · rintro (h | ⟨-, h⟩)
        · omega
        · exact h
theorem cmpR_irrefl (p : Mb) : ¬ cmpR p p < 0 := by
  have : cmpR p p = 0 := cmpR_zero.2 ⟨rfl, rfl⟩
  omega
/-- Rising. -/
def Rises (l : List Mb) : Prop := l.Pairwise fun a b => cmpR a b < 0
/-- The place of a member: all ahead of it are less, and none behind. -/
structure AtPlace (l : List Mb) (x : Mb) (i : Nat) : Prop where
  le : i ≤ l.length
  lo : ∀ k p, k < i → l[k]? = some p → cmpR p x < 0
  hi : ∀ k p, i ≤ k → l[k]? = some p → ¬ cmpR p x < 0
theorem AtPlace.uniq {l : List Mb} {x : Mb} {i j : Nat} (h : AtPlace l x i) (k : AtPlace l x j) : i = j := by
  have one : ∀ {i j : Nat}, AtPlace l x i → AtPlace l x j → ¬ i < j := by
    intro i j h k hlt
    have hl : i < l.length := Nat.lt_of_lt_of_le hlt k.le
    exact h.hi i _ (Nat.le_refl _) (List.getElem?_eq_getElem hl) (k.lo i _ hlt (List.getElem?_eq_getElem hl))
  have := one h k
  have := one k h
  omega
theorem Rises.get {l : List Mb} (h : Rises l) {i j : Nat} {p q : Mb} (hij : i < j) (hi : l[i]? = some p) (hj : l[j]? = some q) : cmpR p q < 0 := by
  obtain ⟨a, rfl⟩ := List.getElem?_eq_some_iff.1 hi
  obtain ⟨b, rfl⟩ := List.getElem?_eq_some_iff.1 hj
  exact List.pairwise_iff_getElem.1 h i j a b hij
/-- What is put in at its place leaves the row rising. -/
theorem Rises.insert {l : List Mb} {x : Mb} {i : Nat} (h : Rises l) (hp : AtPlace l x i) (hn : ∀ p ∈ l, cmpR p x ≠ 0) : Rises (l.take i ++ [x] ++ l.drop i) := by
  unfold Rises at *
  rw [List.append_assoc, List.pairwise_append]
  refine ⟨h.sublist (List.take_sublist _ _), ?_, ?_⟩
  · rw [List.singleton_append, List.pairwise_cons]
    refine ⟨?_, h.sublist (List.drop_sublist _ _)⟩
    intro q hq
    obtain ⟨k, hk, rfl⟩ := List.mem_iff_getElem.1 hq
    have hk' : i + k < l.length := by rw [List.length_drop] at hk; omega
    rw [List.getElem_drop]
    have := hp.hi (i + k) _ (by omega) (List.getElem?_eq_getElem hk')
    have h0 := hn _ (List.getElem_mem hk')
    exact cmpR_gt.1 (by omega)
  · intro p hpm q hq
    have hpx : cmpR p x < 0 := by
      obtain ⟨k, hk, rfl⟩ := List.mem_iff_getElem.1 hpm
      rw [List.length_take] at hk
      rw [List.getElem_take]
      exact hp.lo k _ (by omega) (List.getElem?_eq_getElem (by omega))
    rcases List.mem_append.1 hq with hq | hq
    · rw [List.mem_singleton.1 hq]; exact hpx
    · obtain ⟨k, hk, rfl⟩ := List.mem_iff_getElem.1 hq
      have hk' : i + k < l.length := by rw [List.length_drop] at hk; omega
      rw [List.getElem_drop]
      have h1 := hp.hi (i + k) _ (by omega) (List.getElem?_eq_getElem hk')
      have h0 := hn _ (List.getElem_mem hk')
      exact cmpR_trans hpx (cmpR_gt.1 (by omega))
theorem Rises.erase {l : List Mb} (h : Rises l) (i : Nat) : Rises (l.take i ++ l.drop (i + 1)) := by
  unfold Rises at *
  refine h.sublist ?_
  have : l = l.take i ++ l.drop i := (List.take_append_drop i l).symm
  conv => rhs; rw [this]
  exact List.Sublist.append_left (by rw [← List.drop_drop]; exact List.drop_sublist _ _) _
/-- One that stands there is at its own place. -/
theorem Rises.place {l : List Mb} (h : Rises l) {i : Nat} {x : Mb} (hi : l[i]? = some x) : AtPlace l x i := by
  refine ⟨Nat.le_of_lt (List.getElem?_eq_some_iff.1 hi).1, fun k p hk hp => h.get hk hp hi, fun k p hk hp => ?_⟩
  rcases Nat.lt_or_eq_of_le hk with hlt | rfl
  · have := h.get hlt hi hp
    intro h2
    exact cmpR_irrefl _ (cmpR_trans this h2)
  · rw [hi] at hp; cases hp
    exact cmpR_irrefl _
end Pantry
