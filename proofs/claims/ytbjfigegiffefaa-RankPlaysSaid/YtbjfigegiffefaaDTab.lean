/- Chains of entries, tables; the bucket of a key. -/
import Derived.Test.YtbjfigegiffefaaDHash
import Derived.Deep.LoopGhost
set_option linter.unusedVariables false
set_option linter.unusedSimpArgs false
namespace Pantry
open Go Go.RowKit
@[go_sem] theorem run_store_float {P : Program} {w : World} {a : Addr} {m : Mode} (k : FloatKind) (b : Nat) : (store a (.float k b) m).run P w = stored P w a (.float k b) m := run_store P w a _ m rfl
/-- An entry: its block, its key, its value. -/
structure DE where
  b : Nat
  key : List UInt8
  val : Value
def ptrA : List DE → Option Addr
  | [] => none
  | e :: _ => some ⟨e.b, 0, none⟩
def ptrOf (c : List DE) : Value := .pointer (ptrA c)
theorem and_mask {h n k : Nat} (hn : n = 2 ^ k) (hh : h < 18446744073709551616) (hl : n ≤ 1099511627776) : bits .and .u64 (h : Int) ((n : Int) - 1) = ((h % n : Nat) : Int) := by
  have hp : 0 < n := by subst hn; exact Nat.two_pow_pos k
  have e : ((n : Int) - 1) = ((n - 1 : Nat) : Int) := by omega
  rw [e, bits_and_u64_nat h (n - 1) hh (by omega)]
  subst hn
  rw [Nat.and_two_pow_sub_one_eq_mod]
def dslotN (seed : Nat) (key : List UInt8) (n : Nat) : Nat := hashN seed key % n
end Pantry
namespace Go.Proofs.Ytbjfigegiffefaa
open Go.RowKit Pantry

theorem three {w : World} {g : Nat} {c0 c1 c2 : Value} {t : TypeId} (h : w.heap[g]? = some (.cells #[c0, c1, c2] t)) :
    (w.cell? ⟨g, 0, none⟩ = some c0 ∧ w.cell? ⟨g, 1, none⟩ = some c1 ∧ w.cell? ⟨g, 2, none⟩ = some c2) ∧ ∀ j, w.frozen? ⟨g, j, none⟩ = false := by
  refine ⟨⟨?_, ?_, ?_⟩, fun j => frozen_of_row w g j _ _ h⟩ <;> rw [cell_of_row w g _ _ _ _ h] <;> rfl
/-- A chain in memory: each entry points to the one behind it. -/
def ChainAt (w : World) : List DE → Prop
  | [] => True
  | e :: c => w.heap[e.b]? = some (.cells #[.string ⟨e.key.toArray⟩, e.val, ptrOf c] 97) ∧ ChainAt w c
theorem ChainAt.keep {w w' : World} {c : List DE} (h : ChainAt w c) (hk : ∀ e ∈ c, w'.heap[e.b]? = w.heap[e.b]?) : ChainAt w' c := by
  induction c with
  | nil => trivial
  | cons e c ih => exact ⟨(hk e List.mem_cons_self).trans h.1, ih h.2 fun x hx => hk x (List.mem_cons_of_mem _ hx)⟩
theorem ChainAt.drop {w : World} {c : List DE} (h : ChainAt w c) (k : Nat) : ChainAt w (c.drop k) := by
  induction c generalizing k with
  | nil => simpa using h
  | cons e c ih =>
    cases k with
    | zero => exact h
    | succ k => exact ih h.2 k
theorem ChainAt.mem {w : World} {c : List DE} (h : ChainAt w c) {e : DE} (he : e ∈ c) : ∃ q, w.heap[e.b]? = some (.cells #[.string ⟨e.key.toArray⟩, e.val, q] 97) := by
  induction c with
  | nil => cases he
  | cons x c ih =>
    rcases List.mem_cons.1 he with rfl | he
    · exact ⟨_, h.1⟩
    · exact ih h.2 he
/-- A table's value; a table in memory. -/
def tabV (b : Nat) (T : List (List DE)) : Value := if T = [] then .slice none 0 0 else .slice (some ⟨b, 0, none⟩) T.length T.length
theorem tabV_nil (b : Nat) : tabV b [] = .slice none 0 0 := rfl
theorem tabV_some {b : Nat} {T : List (List DE)} (h : T ≠ []) : tabV b T = .slice (some ⟨b, 0, none⟩) T.length T.length := by rw [tabV, if_neg h]
structure TabAt (w : World) (b : Nat) (T : List (List DE)) : Prop where
  cells : T ≠ [] → w.heap[b]? = some (.cells (T.map ptrOf).toArray 95)
  two : T ≠ [] → ∃ k, T.length = 2 ^ k
  few : T.length ≤ 1099511627776
theorem TabAt.cell {w : World} {b : Nat} {T : List (List DE)} (h : TabAt w b T) {i : Nat} {c : List DE} (hi : T[i]? = some c) : w.cell? ⟨b, i, none⟩ = some (ptrOf c) := by
  have hne : T ≠ [] := by rintro rfl; cases hi
  rw [cell_of_row w b i _ _ _ (h.cells hne)]
  simp [hi]
theorem TabAt.keep {w w' : World} {b : Nat} {T : List (List DE)} (h : TabAt w b T) (hk : T ≠ [] → w'.heap[b]? = w.heap[b]?) : TabAt w' b T := ⟨fun hne => (hk hne).trans (h.cells hne), h.two, h.few⟩

set_option maxHeartbeats 1000000 in
theorem slot_any (w : World) (d b n k seed : Nat) (key : List UInt8) (hd : w.cell? ⟨d, 0, none⟩ = some (.int .u64 seed)) (hseed : seed < 18446744073709551616) (hn : n = 2 ^ k) (hl : n ≤ 1099511627776) (hs : key.length ≤ 140737488351232) :
    Calls Try.prog 71 #[.pointer (some ⟨d, 0, none⟩), .slice (some ⟨b, 0, none⟩) n n, .string ⟨key.toArray⟩] w fun e w' => e = .returned (.pointer (some ⟨b, dslotN seed key n, none⟩)) ∧ w = w' := by
  have hp : 0 < n := by subst hn; exact Nat.two_pow_pos k
  have ha := and_mask hn (hashN_lt seed key) hl
  have hlt : hashN seed key % n < n := Nat.mod_lt _ hp
  have hw : IntKind.u64.wrap ((n : Int) - 1) = (n : Int) - 1 := by rw [IntKind.wrap_u64]; omega
  have HH := Lib.hid (hash_any w seed key hs hseed)
  unfold dslotN
  obtain ⟨h, hh⟩ : ∃ h, hashN seed key = h := ⟨_, rfl⟩
  rw [hh] at ha hlt HH ⊢
  obtain ⟨i, hi⟩ : ∃ i, h % n = i := ⟨_, rfl⟩
  rw [hi] at ha hlt ⊢
  clear hn hh hi
  go_enter Try.func71, Try.ntmps71
  go_wp2_with (go_at_call 74; refine HH.out.mono ?_; rintro e w1 ⟨rfl, rfl⟩)
  go_ret
  exact ⟨rfl, rfl⟩
end Go.Proofs.Ytbjfigegiffefaa
