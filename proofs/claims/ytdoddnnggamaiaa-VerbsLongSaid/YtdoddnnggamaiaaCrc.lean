/- Plain laws on the sum over bytes: the step on one bit, on one byte, on a list. -/
import Derived.WalkKit
namespace Pantry.Crc
open Go
def top : Nat := 18446744073709551616
def poly : Nat := 14514072000185962306
def bit (r : Nat) : Nat := if r % 2 = 1 then (r / 2) ^^^ poly else r / 2
def iter : Nat → Nat → Nat
  | 0, r => r
  | j + 1, r => bit (iter j r)
def byte (r c : Nat) : Nat := iter 8 (r ^^^ c)
def start : Nat := 18446744073709551615
def run (l : List Nat) : Nat := l.foldl byte start
def flip (r : Nat) : Nat := start ^^^ r
def sum (l : List Nat) : Nat := flip (run l)

theorem xor_lt {a b : Nat} (ha : a < top) (hb : b < top) : a ^^^ b < top :=
  Nat.xor_lt_two_pow (n := 64) ha hb
theorem bit_lt {r : Nat} (h : r < top) : bit r < top := by
  unfold bit
  have h2 : r / 2 < top := by omega
  split
  · exact xor_lt h2 (by decide)
  · exact h2
theorem iter_lt {r : Nat} (h : r < top) : ∀ j, iter j r < top
  | 0 => h
  | j + 1 => bit_lt (iter_lt h j)
theorem byte_lt {r c : Nat} (h : r < top) (hc : c < 256) : byte r c < top :=
  iter_lt (xor_lt h (Nat.lt_trans hc (by decide))) 8
theorem run_snoc (l : List Nat) (c : Nat) : run (l ++ [c]) = byte (run l) c := by simp [run]
theorem run_lt : ∀ (l : List Nat), (∀ c ∈ l, c < 256) → run l < top := by
  intro l h
  suffices ∀ (l : List Nat) (r : Nat), (∀ c ∈ l, c < 256) → r < top → l.foldl byte r < top from this l start h (by decide)
  intro l
  induction l with
  | nil => intro r _ hr; exact hr
  | cons a l ih => intro r h hr; exact ih _ (fun c hc => h c (by simp [hc])) (byte_lt hr (h a (by simp)))

theorem xor_int {a b : Nat} (ha : a < top) (hb : b < top) : bits .xor .u64 (a : Int) (b : Int) = ((a ^^^ b : Nat) : Int) := bits_xor_u64_nat a b ha hb
theorem and_int {a b : Nat} (ha : a < top) (hb : b < top) : bits .and .u64 (a : Int) (b : Int) = ((a &&& b : Nat) : Int) := bits_and_u64_nat a b ha hb
theorem wrap_int {a : Nat} (ha : a < top) : IntKind.u64.wrap (a : Int) = (a : Int) := by
  rw [IntKind.wrap_u64]; unfold top at ha; omega
theorem flip_int {r : Nat} (h : r < top) : bits .xor .u64 IntKind.u64.max (r : Int) = ((flip r : Nat) : Int) := by
  have e : IntKind.u64.max = ((start : Nat) : Int) := by decide
  rw [e]
  exact xor_int (by decide) h
theorem half_one {n : Nat} (h : n < top) (h1 : ((n : Int) % 2 == 1) = true) :
    bits .xor .u64 (IntKind.u64.wrap ((n : Int) / 2)) 14514072000185962306 = ((bit n : Nat) : Int) := by
  rw [beq_iff_eq] at h1
  have h3 : n % 2 = 1 := by omega
  have h2 : n / 2 < top := by omega
  have e : ((n : Int) / 2) = ((n / 2 : Nat) : Int) := by omega
  rw [e, wrap_int h2, bit, if_pos h3]
  exact xor_int h2 (by decide)
theorem half_zero {n : Nat} (h : n < top) (h1 : ((n : Int) % 2 == 1) = false) :
    IntKind.u64.wrap ((n : Int) / 2) = ((bit n : Nat) : Int) := by
  rw [beq_eq_false_iff_ne] at h1
  have h3 : ¬ n % 2 = 1 := by omega
  have h2 : n / 2 < top := by omega
  have e : ((n : Int) / 2) = ((n / 2 : Nat) : Int) := by omega
  rw [e, wrap_int h2, bit, if_neg h3]
theorem and_one {n : Nat} (h : n < top) : bits .and .u64 (n : Int) 1 = ((n % 2 : Nat) : Int) := by
  have e := and_int (a := n) (b := 1) h (by decide)
  rw [Nat.and_one_is_mod] at e
  exact e
theorem low_one {n : Nat} (h : n < top) (h1 : (bits .and .u64 (n : Int) 1 == 1) = true) :
    bits .xor .u64 ((n : Int) / 2) 14514072000185962306 = ((bit n : Nat) : Int) := by
  rw [and_one h, beq_iff_eq] at h1
  have h3 : n % 2 = 1 := by omega
  have h2 : n / 2 < top := by omega
  have e : ((n : Int) / 2) = ((n / 2 : Nat) : Int) := by omega
  rw [e, bit, if_pos h3]
  exact xor_int h2 (by decide)
theorem low_zero {n : Nat} (h : n < top) (h1 : (bits .and .u64 (n : Int) 1 == 1) = false) :
    ((n : Int) / 2) = ((bit n : Nat) : Int) := by
  rw [and_one h, beq_eq_false_iff_ne] at h1
  have h3 : ¬ n % 2 = 1 := by omega
  have e : ((n : Int) / 2) = ((n / 2 : Nat) : Int) := by omega
  rw [e, bit, if_neg h3]
theorem int_u64 {a b : Int} (h : a = b) : Value.int .u64 a = Value.int .u64 b := by rw [h]
end Pantry.Crc
