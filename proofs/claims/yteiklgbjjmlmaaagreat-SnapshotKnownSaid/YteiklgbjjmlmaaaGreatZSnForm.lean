
/- SnapshotForm's walk. -/
import Derived.Test.YteiklgbjjmlmaaaGreatZSnWk
import Derived.Test.YteiklgbjjmlmaaaGreatZSnVal
set_option linter.unusedVariables false
set_option linter.unusedSimpArgs false
namespace Go.Proofs.YteiklgbjjmlmaaaGreat
open Go.RowKit Pantry

/-- An argument of bytes. -/
structure BArg (w : World) (a : Option Addr) (n c : Nat) (l : List UInt8) : Prop where
  len : l.length = n
  cap : n ≤ c
  max : c ≤ 9223372036854775807
  nil : a = none → c = 0
  rd : Rd w a (b8 l)
  few : n ≤ 140737488351232
theorem BArg.load {w : World} {a : Option Addr} {n c : Nat} {l : List UInt8} (h : BArg w a n c l) : Calls Tryz.prog 18 #[.slice a n c] w (Loaded w (loadR l)) := load_any w a n c l h.len h.cap h.max h.nil h.rd
/-- A beginning of an argument. -/
theorem BArg.take {w : World} {a : Option Addr} {n c : Nat} {l : List UInt8} (h : BArg w a n c l) {k : Nat} (hk : k ≤ n) : BArg w a k c (l.take k) := by
  refine ⟨by rw [List.length_take, h.len]; omega, Nat.le_trans hk h.cap, h.max, h.nil, ?_, Nat.le_trans hk h.few⟩
  have := h.rd.take k
  rwa [show (b8 l).take k = b8 (l.take k) by simp [b8, List.map_take]] at this
theorem ownB_barg {w : World} {base : Nat} {e : TypeId} {v : Value} {l : List UInt8} (h : OwnB w base e v l) (hf : l.length ≤ 140737488351232) : ∃ a c, v = .slice a l.length c ∧ BArg w a l.length c l := by
  obtain ⟨a, c, h1, h2, h3, h4, h5, h6⟩ := OwnB.load h
  exact ⟨a, c, h1, rfl, h4, h5, h3, h2, hf⟩
attribute [-go_sem] Builtin.append_
end Go.Proofs.YteiklgbjjmlmaaaGreat
