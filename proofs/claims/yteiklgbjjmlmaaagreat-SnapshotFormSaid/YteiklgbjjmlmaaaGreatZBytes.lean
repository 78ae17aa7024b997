
/- General laws on rows of bytes: []byte(s), string(b), a row changed in place. -/
import Derived.Test.YteiklgbjjmlmaaaGreatZMem
import Derived.Laws.IdiomStrings
namespace Pantry
open Go Go.RowKit

/-- Bytes as cells. -/
def b8 (l : List UInt8) : List Value := l.map fun c => .int .u8 (c.toNat : Int)
theorem b8_length (l : List UInt8) : (b8 l).length = l.length := by simp [b8]
theorem b8_one (l : List UInt8) : ∀ u ∈ b8 l, u.oneCell' = true := by
  intro u hu; simp only [b8, List.mem_map] at hu; obtain ⟨c, _, rfl⟩ := hu; rfl
theorem b8_get (l : List UInt8) (j : Nat) : (b8 l)[j]? = (l[j]?).map fun c => .int .u8 (c.toNat : Int) := by simp [b8]
theorem b8_append (l k : List UInt8) : b8 (l ++ k) = b8 l ++ b8 k := by simp [b8]
theorem b8_set (l : List UInt8) (j : Nat) (c : UInt8) : (b8 l).set j (.int .u8 (c.toNat : Int)) = b8 (l.set j c) := by simp [b8, List.map_set]

/-- Block g begins with the bytes l, none of them frozen. -/
def BRow (w : World) (g : Nat) (l : List UInt8) : Prop :=
  ∃ cur e lo hi, w.heap[g]? = some (.cells cur e (lo, hi)) ∧ (∀ j, j < l.length → ¬ (lo ≤ j ∧ j < hi)) ∧ ∃ rest, cur.toList = b8 l ++ rest
theorem BRow.cell {w : World} {g : Nat} {l : List UInt8} (h : BRow w g l) {j : Nat} {c : UInt8} (hj : l[j]? = some c) : w.cell? ⟨g, j, none⟩ = some (.int .u8 (c.toNat : Int)) := by
  obtain ⟨cur, e, lo, hi, hg, _, rest, hr⟩ := h
  rw [cell_of_row w g j cur e (lo, hi) hg, ← Array.getElem?_toList, hr, List.getElem?_append_left (by rw [b8_length]; exact (List.getElem?_eq_some_iff.1 hj).1), b8_get, hj]
  rfl
theorem BRow.frozen {w : World} {g : Nat} {l : List UInt8} (h : BRow w g l) {j : Nat} (hj : j < l.length) : w.frozen? ⟨g, j, none⟩ = false := by
  obtain ⟨cur, e, lo, hi, hg, hf, _⟩ := h
  simp only [World.frozen?, hg]
  have := hf j hj
  simp; omega
theorem BRow.rd {w : World} {g : Nat} {l : List UInt8} (h : BRow w g l) : Rd w (some ⟨g, 0, none⟩) (b8 l) := by
  intro j u hu
  rw [b8_get] at hu
  cases hj : l[j]? with
  | none => rw [hj] at hu; cases hu
  | some c =>
    rw [hj] at hu; cases hu
    exact ⟨rfl, _, rfl, by rw [Addr.add_base]; exact h.cell hj⟩
theorem BRow.lt {w : World} {g : Nat} {l : List UInt8} (h : BRow w g l) : g < w.heap.size := by
  obtain ⟨cur, e, lo, hi, hg, _⟩ := h
  exact (Array.getElem?_eq_some_iff.1 hg).1
theorem BRow.of_block {w w' : World} {g : Nat} {l : List UInt8} (h : BRow w g l) (hb : w'.heap[g]? = w.heap[g]?) : BRow w' g l := by
  obtain ⟨cur, e, lo, hi, hg, r⟩ := h
  exact ⟨cur, e, lo, hi, hb.trans hg, r⟩
theorem BRow.below {w w' : World} {g B : Nat} {l : List UInt8} (h : BRow w g l) (hb : Below B w w') (hB : g < B) : BRow w' g l := h.of_block (hb.block g hB)
theorem BRow.set {w : World} {g : Nat} {l : List UInt8} (h : BRow w g l) {j : Nat} (hj : j < l.length) (c : UInt8) : BRow (w.setCell ⟨g, j, none⟩ (.int .u8 (c.toNat : Int))) g (l.set j c) := by
  obtain ⟨cur, e, lo, hi, hg, hf, rest, hr⟩ := h
  refine ⟨cur.setIfInBounds j (.int .u8 (c.toNat : Int)), e, lo, hi, ?_, by simpa using hf, rest, ?_⟩
  · rw [setCell_eq_setRow w g j cur e (lo, hi) _ hg]
    exact setRow_heap w g cur _ e _ hg
  · rw [Array.toList_setIfInBounds, hr, List.set_append_left _ _ (by rw [b8_length]; exact hj), b8_set]

section
variable {P : Program} {src dst e : TypeId}
theorem run_string_of (hs : P.underlying src = some (.slice e)) (he : P.underlying e = some (.int .u8)) (hd : P.underlying dst = some .string)
    {w : World} {ad : Option Addr} {n c : Nat} {l : List UInt8} (hl : l.length = n) (hr : Rd w ad (b8 l)) : (convert src dst (.slice ad n c)).run P w = .ok (.string ⟨l.toArray⟩) w := by
  subst hl
  cases ad with
  | some ad =>
    exact run_convert_bytes_back w src dst e ad c l hs he hd fun j hj => by
      obtain ⟨_, y, hy, hc⟩ := hr j _ (by rw [b8_get, List.getElem?_eq_getElem hj]; rfl)
      cases hy; exact hc
  | none =>
    have : l = [] := by
      cases l with
      | nil => rfl
      | cons u l => obtain ⟨_, y, hy, _⟩ := hr 0 _ rfl; cases hy
    subst this
    exact run_convert_bytes_nil (w := w) src e hs he 0 c dst hd

theorem wpl_string_of (hs : P.underlying src = some (.slice e)) (he : P.underlying e = some (.int .u8)) (hd : P.underlying dst = some .string)
    {w : World} {ops : Array Oper} {rest : List Oper} {o : Oper} {a : Act} {Q : Exit → Act → World → Prop} (hgd : o.guard = none) (x : Operand) (ho : o.op = .convert src dst x)
    {ad : Option Addr} {n c : Nat} (l : List UInt8) (hx : a.eval x = .slice ad n c) (hl : l.length = n) (hr : Rd w ad (b8 l))
    (h : wpList P ops Q rest (a.put o.dst (.string ⟨l.toArray⟩)) w) :
    wpList P ops Q (o :: rest) a w := by
  refine wpList_plain hgd fun K hK => ?_
  unfold Oper.wp execOp
  simp only [ho, hx, Sem.run_bind, run_string_of hs he hd hl hr, Result.andThen_ok]
  exact hK _ _ h
end

end Pantry


/- Texts cut at a sign: the plain function, and rows of texts as cells. -/
namespace Pantry
open Go
/-- Texts as cells. -/
def txt (l : List UInt8) : Value := .string ⟨l.toArray⟩
def txts (l : List (List UInt8)) : List Value := l.map txt
theorem txts_length (l : List (List UInt8)) : (txts l).length = l.length := by simp [txts]
theorem txts_one (l : List (List UInt8)) : ∀ u ∈ txts l, u.oneCell' = true := by
  intro u hu; simp only [txts, List.mem_map] at hu; obtain ⟨c, _, rfl⟩ := hu; rfl
theorem txts_get (l : List (List UInt8)) (j : Nat) : (txts l)[j]? = (l[j]?).map txt := by simp [txts]
/-- Block g begins with the texts l. -/
def TRow (w : World) (g : Nat) (l : List (List UInt8)) : Prop := ∀ j x, l[j]? = some x → w.cell? ⟨g, j, none⟩ = some (.string ⟨x.toArray⟩)
theorem TRow.of_block {w w' : World} {g : Nat} {l : List (List UInt8)} (h : TRow w g l) (hb : w'.heap[g]? = w.heap[g]?) : TRow w' g l :=
  fun j x hx => (World.cell?_of_block (w := w) (a := ⟨g, j, none⟩) hb).trans (h j x hx)
theorem TRow.lt {w : World} {g : Nat} {l : List (List UInt8)} (h : TRow w g l) (hl : 0 < l.length) : g < w.heap.size :=
  World.block_lt_of_cell? w _ (h 0 _ (List.getElem?_eq_getElem hl))
end Pantry
