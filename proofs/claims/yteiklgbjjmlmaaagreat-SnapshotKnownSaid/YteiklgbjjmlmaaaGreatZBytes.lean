
/- General laws on rows of bytes: []byte(s), string(b), a row changed in place. -/
import Derived.Test.YteiklgbjjmlmaaaGreatZMem
import Derived.Laws.IdiomStrings
namespace Pantry
open Go Go.RowKit

/-- Bytes as cells. -/
def b8 (l : List UInt8) : List Value := l.map fun c => .int .u8 (c.toNat : Int)
theorem b8_length (l : List UInt8) : (b8 l).length = l.length := by simp [b8]
theorem b8_one (l : List UInt8) : ∀ u ∈ b8 l, u.oneCell' = true := by
  intro u hu; simp only [b8, List.mem_map] at hu; obtain ⟨c, _, rfl⟩ := hu; rfl
theorem b8_get (l : List UInt8) (j : Nat) : (b8 l)[j]? = (l[j]?).map fun c => .int .u8 (c.toNat : Int) := by simp [b8]
theorem b8_append (l k : List UInt8) : b8 (l ++ k) = b8 l ++ b8 k := by simp [b8]
theorem b8_set (l : List UInt8) (j : Nat) (c : UInt8) : (b8 l).set j (.int .u8 (c.toNat : Int)) = b8 (l.set j c) := by simp [b8, List.map_set]

section
variable {P : Program} {src dst e : TypeId}
theorem run_string_of (hs : P.underlying src = some (.slice e)) (he : P.underlying e = some (.int .u8)) (hd : P.underlying dst = some .string)
    {w : World} {ad : Option Addr} {n c : Nat} {l : List UInt8} (hl : l.length = n) (hr : Rd w ad (b8 l)) : (convert src dst (.slice ad n c)).run P w = .ok (.string ⟨l.toArray⟩) w := by
  subst hl
  cases ad with
  | some ad =>
    exact run_convert_bytes_back w src dst e ad c l hs he hd fun j hj => by
      obtain ⟨_, y, hy, hc⟩ := hr j _ (by rw [b8_get, List.getElem?_eq_getElem hj]; rfl)
      cases hy; exact hc
  | none =>
    have : l = [] := by
      cases l with
      | nil => rfl
      | cons u l => obtain ⟨_, y, hy, _⟩ := hr 0 _ rfl; cases hy
    subst this
    exact run_convert_bytes_nil (w := w) src e hs he 0 c dst hd

theorem wpl_string_of (hs : P.underlying src = some (.slice e)) (he : P.underlying e = some (.int .u8)) (hd : P.underlying dst = some .string)
    {w : World} {ops : Array Oper} {rest : List Oper} {o : Oper} {a : Act} {Q : Exit → Act → World → Prop} (hgd : o.guard = none) (x : Operand) (ho : o.op = .convert src dst x)
    {ad : Option Addr} {n c : Nat} (l : List UInt8) (hx : a.eval x = .slice ad n c) (hl : l.length = n) (hr : Rd w ad (b8 l))
    (h : wpList P ops Q rest (a.put o.dst (.string ⟨l.toArray⟩)) w) :
    wpList P ops Q (o :: rest) a w := by
  refine wpList_plain hgd fun K hK => ?_
  unfold Oper.wp execOp
  simp only [ho, hx, Sem.run_bind, run_string_of hs he hd hl hr, Result.andThen_ok]
  exact hK _ _ h
end

end Pantry


/- Texts cut at a sign: the plain function, and rows of texts as cells. -/
namespace Pantry
open Go
/-- Texts as cells. -/
def txt (l : List UInt8) : Value := .string ⟨l.toArray⟩
def txts (l : List (List UInt8)) : List Value := l.map txt
theorem txts_length (l : List (List UInt8)) : (txts l).length = l.length := by simp [txts]
theorem txts_one (l : List (List UInt8)) : ∀ u ∈ txts l, u.oneCell' = true := by
  intro u hu; simp only [txts, List.mem_map] at hu; obtain ⟨c, _, rfl⟩ := hu; rfl
theorem txts_get (l : List (List UInt8)) (j : Nat) : (txts l)[j]? = (l[j]?).map txt := by simp [txts]
end Pantry
