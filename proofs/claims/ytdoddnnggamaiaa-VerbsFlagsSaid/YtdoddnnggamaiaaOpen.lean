/- How arguments are opened: bytes, over any program. -/
import Derived.Test.YtdoddnnggamaiaaMem
import Derived.ProofKit
import Derived.OpenShut
import Derived.ShutString
import Derived.ChangeOld
import Derived.SizedLaws
namespace Pantry
open Go Go.RowKit Go.ChangeShapes Go.WideShapes Go.ChangeAt

/-- A list of numbers as cells of bytes. -/
def u8s (l : List Nat) : List Value := l.map fun c => .int .u8 (c : Nat)
theorem u8s_length (l : List Nat) : (u8s l).length = l.length := by simp [u8s]
theorem u8s_one (l : List Nat) : ∀ u ∈ u8s l, u.oneCell' = true := by
  intro u hu; simp only [u8s, List.mem_map] at hu; obtain ⟨c, _, rfl⟩ := hu; rfl
theorem u8s_get (l : List Nat) (j : Nat) : (u8s l)[j]? = (l[j]?).map fun c => .int .u8 (c : Nat) := by simp [u8s]
theorem u8s_append (l k : List Nat) : u8s (l ++ k) = u8s l ++ u8s k := by simp [u8s]
theorem u8s_take (l : List Nat) (n : Nat) : u8s (l.take n) = (u8s l).take n := by simp [u8s, List.map_take]
theorem u8s_cell {w : World} {a : Option Addr} {l : List Nat} (h : Rd w a (u8s l)) (j : Nat) (hj : j < l.length) : ∃ x, a = some x ∧ w.cell? (x.add j) = some (.int .u8 (l.getD j 0 : Nat)) :=
  (h j (.int .u8 (l.getD j 0 : Nat)) (by rw [u8s_get, List.getElem?_eq_getElem hj]; simp [hj])).2

section
variable {H : Type} {enc : TypeId × Value → H} {P : Program} {w : World}
/-- An argument of type []byte: nil, or so many bytes. -/
theorem open_bytes {t e : TypeId} {fuel base : Nat} {spare : Nat → Bool} {held : Bool} {a : Option Addr} {len cap : Nat} {d : DataW H} {p : List MemPlace} (ht : P.underlying t = some (.slice e)) (he : P.underlying e = some (.int .u8)) (hc : P.cellsOf e = 1)
    (h : DataW.trod enc P w base spare held fuel t [.slice a len cap] = some (d, p)) :
    ∃ l : List Nat, l.length = len ∧ (∀ c ∈ l, c < 256) ∧ (a = none → cap = 0) ∧ Rd w a (u8s l) ∧ len ≤ cap ∧ cap ≤ 9223372036854775807 ∧
      (d = .nil ∧ l = [] ∨ ∃ zs sp, d = .slice zs sp ∧ zs.length = len) := by
  rcases open_ints ht he hc h with ⟨hcs, hx⟩ | ⟨x, l, c, zs, hcs, _, hl, hm, hz, hx, hcell, hwz⟩
  · simp at hcs hx
    obtain ⟨rfl, rfl, rfl⟩ := hcs
    exact ⟨[], rfl, by simp, fun _ => rfl, Rd.nil _ _, by omega, by omega, .inl ⟨hx.1, rfl⟩⟩
  · simp at hcs
    obtain ⟨rfl, rfl, rfl⟩ := hcs
    simp only [Prod.mk.injEq] at hx
    have hlen : len ≤ zs.length := by rw [hz]; split <;> omega
    have hb : ∀ n ∈ zs, 0 ≤ n ∧ n ≤ 255 := by
      intro n hn
      have := bounds_u8 (hwz n hn)
      omega
    have hget : ∀ i, i < len → ((((zs.take len).map Int.toNat).getD i 0 : Nat) : Int) = zs.getD i 0 := by
      intro i hi
      have hi' : i < zs.length := by omega
      have := hb zs[i] (List.getElem_mem hi')
      simp [List.getD_eq_getElem?_getD, hi, List.getElem?_eq_getElem hi']
      omega
    refine ⟨(zs.take len).map Int.toNat, by simp; omega, ?_, by simp, ?_, hl, by unfold maxLen at hm; omega, .inr ⟨_, _, hx.1, by simp [lits]; omega⟩⟩
    · intro c hc
      simp only [List.mem_map] at hc
      obtain ⟨n, hn, rfl⟩ := hc
      have := hb n (List.mem_of_mem_take hn)
      omega
    · intro j u hu
      rw [u8s_get] at hu
      cases hj : ((zs.take len).map Int.toNat)[j]? with
      | none => rw [hj] at hu; cases hu
      | some c =>
        rw [hj] at hu
        cases hu
        have hjl : j < len := by
          have := (List.getElem?_eq_some_iff.1 hj).1
          simp at this
          omega
        refine ⟨rfl, _, rfl, ?_⟩
        rw [hcell j (by omega), ← hget j hjl, List.getD_eq_getElem?_getD, hj]
        rfl
end
end Pantry
