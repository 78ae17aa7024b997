
/- SnapshotForm's walk. -/
import Derived.Test.YteiklgbjjmlmaaaGreatZSnWk
import Derived.Test.YteiklgbjjmlmaaaGreatZSnVal
set_option linter.unusedVariables false
set_option linter.unusedSimpArgs false
namespace Go.Proofs.YteiklgbjjmlmaaaGreat
open Go.RowKit Pantry

/-- An argument of bytes. -/
structure BArg (w : World) (a : Option Addr) (n c : Nat) (l : List UInt8) : Prop where
  len : l.length = n
  cap : n ≤ c
  max : c ≤ 9223372036854775807
  nil : a = none → c = 0
  rd : Rd w a (b8 l)
  few : n ≤ 140737488351232
theorem BArg.load {w : World} {a : Option Addr} {n c : Nat} {l : List UInt8} (h : BArg w a n c l) : Calls Tryz.prog 18 #[.slice a n c] w (Loaded w (loadR l)) := load_any w a n c l h.len h.cap h.max h.nil h.rd
theorem ownB_barg {w : World} {base : Nat} {e : TypeId} {v : Value} {l : List UInt8} (h : OwnB w base e v l) (hf : l.length ≤ 140737488351232) : ∃ a c, v = .slice a l.length c ∧ BArg w a l.length c l := by
  obtain ⟨a, c, h1, h2, h3, h4, h5, h6⟩ := OwnB.load h
  exact ⟨a, c, h1, rfl, h4, h5, h3, h2, hf⟩
theorem tmod_bounds (c : Int) (n : Nat) (hn : 0 < n) : -(n : Int) < c.tmod n ∧ c.tmod n < n := by
  have h1 := Int.tmod_lt_of_pos c (show (0 : Int) < n by omega)
  have h2 := Int.tmod_lt_of_pos (-c) (show (0 : Int) < n by omega)
  rw [Int.neg_tmod] at h2
  omega
attribute [-go_sem] Builtin.append_
end Go.Proofs.YteiklgbjjmlmaaaGreat
