/- What Check and Keys tell, as plain functions on lists of texts. -/
import Derived.Test.YtdoddnnggamaiaaFind
import Derived.Test.YtdoddnnggamaiaaSplit
namespace Pantry.Verbs
def total (l : List (List UInt8)) : Nat := (l.map (·.length)).foldl (· + ·) 0
def longest (l : List (List UInt8)) : Nat := (l.map (·.length)).foldl max 0
def tooLong (l : List (List UInt8)) : Bool := decide (1048576 < longest l) || decide (4194304 < total l)
def check (l : List (List UInt8)) : Row × Int :=
  match l with
  | [] => (empty, 3)
  | x :: _ =>
    if 1024 < l.length ∨ tooLong l = true then (empty, 2)
    else match get all (upL x) with
      | none => (empty, 180)
      | some r => if 0 < r.arity ∧ (l.length : Int) ≠ r.arity ∨ (l.length : Int) < - r.arity then (empty, 181) else (r, 0)
/-- The last place of a key. -/
def lastOf (r : Row) (n : Nat) : Int := if r.last < 0 then r.last + n else r.last
def keyCount (r : Row) (n : Nat) : Nat := ((lastOf r n - r.first) / r.jump + 1).toNat
def keys (l : List (List UInt8)) : List (List UInt8) :=
  if (check l).2 ≠ 0 ∨ (check l).1.first = 0 then []
  else (List.range (keyCount (check l).1 l.length)).map fun k : Nat => l.getD ((check l).1.first + (k : Int) * (check l).1.jump).toNat []
theorem total_snoc (l : List (List UInt8)) (x : List UInt8) : total (l ++ [x]) = total l + x.length := by simp [total]
theorem longest_snoc (l : List (List UInt8)) (x : List UInt8) : longest (l ++ [x]) = max (longest l) x.length := by simp [longest]
theorem take_snoc {l : List (List UInt8)} {k : Nat} {x : List UInt8} (h : l[k]? = some x) : l.take (k + 1) = l.take k ++ [x] := by rw [List.take_add_one, h]; rfl
theorem total_le {l : List (List UInt8)} {M : Nat} (h : ∀ x ∈ l, x.length ≤ M) (k : Nat) : total (l.take k) ≤ k * M := by
  induction k with
  | zero => simp [total]
  | succ k ih =>
    cases hx : l[k]? with
    | none =>
      rw [List.take_add_one, hx]
      simp only [Option.toList_none, List.append_nil]
      rw [Nat.succ_mul]; omega
    | some x =>
      rw [take_snoc hx, total_snoc, Nat.succ_mul]
      have := h x (List.mem_of_getElem? hx)
      omega
theorem longest_le {l : List (List UInt8)} {M : Nat} (h : ∀ x ∈ l, x.length ≤ M) (k : Nat) : longest (l.take k) ≤ M := by
  induction k with
  | zero => simp [longest]
  | succ k ih =>
    cases hx : l[k]? with
    | none =>
      rw [List.take_add_one, hx]
      simpa using ih
    | some x =>
      rw [take_snoc hx, longest_snoc]
      have := h x (List.mem_of_getElem? hx)
      omega
/-- What every row of the table keeps: where its keys are. -/
def KeysOk (r : Row) : Prop :=
  r.arity ≠ 0 ∧ -100 ≤ r.arity ∧ r.arity ≤ 100 ∧ (r.first = 0 ∨ r.first = 1 ∧ (r.jump = 1 ∨ r.jump = 2) ∧ (r.last = -1 ∧ (2 ≤ r.arity ∨ r.arity ≤ -2) ∨ 1 ≤ r.last ∧ r.last ≤ 2 ∧ (r.last < r.arity ∨ r.last < - r.arity)))
instance (r : Row) : Decidable (KeysOk r) := by unfold KeysOk; exact inferInstance
theorem keys_ok : ∀ r ∈ all, KeysOk r := by decide +kernel
end Pantry.Verbs
