/- Texts cut at a sign: the plain function, and rows of texts as cells. -/
import Derived.Test.YtbjfigegiffefaaBytes
namespace Pantry
open Go
/-- What is done and what is begun, one sign further. -/
def cutStep (sep : UInt8) (st : List (List UInt8) × List UInt8) (b : UInt8) : List (List UInt8) × List UInt8 :=
  if b = sep then (st.1 ++ [st.2], []) else (st.1, st.2 ++ [b])
def cutAt (sep : UInt8) (l : List UInt8) : List (List UInt8) × List UInt8 := l.foldl (cutStep sep) ([], [])
/-- What stands between the signs. -/
def cutB (sep : UInt8) (l : List UInt8) : List (List UInt8) := (cutAt sep (l ++ [sep])).1
theorem cutAt_snoc (sep : UInt8) (l : List UInt8) (b : UInt8) : cutAt sep (l ++ [b]) = cutStep sep (cutAt sep l) b := by simp [cutAt]
theorem cutAt_take (sep : UInt8) (l : List UInt8) {k : Nat} {b : UInt8} (h : l[k]? = some b) : cutAt sep (l.take (k + 1)) = cutStep sep (cutAt sep (l.take k)) b := by
  obtain ⟨hk, rfl⟩ := List.getElem?_eq_some_iff.1 h
  rw [List.take_succ_eq_append_getElem hk, cutAt_snoc]

/-- Texts as cells. -/
def txt (l : List UInt8) : Value := .string ⟨l.toArray⟩
def txts (l : List (List UInt8)) : List Value := l.map txt
theorem txts_length (l : List (List UInt8)) : (txts l).length = l.length := by simp [txts]
theorem txts_one (l : List (List UInt8)) : ∀ u ∈ txts l, u.oneCell' = true := by
  intro u hu; simp only [txts, List.mem_map] at hu; obtain ⟨c, _, rfl⟩ := hu; rfl
theorem txts_get (l : List (List UInt8)) (j : Nat) : (txts l)[j]? = (l[j]?).map txt := by simp [txts]
theorem txts_snoc (l : List (List UInt8)) (x : List UInt8) : txts l ++ [txt x] = txts (l ++ [x]) := by simp [txts]
theorem txts_cell {w : World} {a : Option Addr} {l : List (List UInt8)} (h : Rd w a (txts l)) {j : Nat} {x : List UInt8} (hj : l[j]? = some x) : ∃ y, a = some y ∧ w.cell? (y.add j) = some (txt x) :=
  (h j (txt x) (by rw [txts_get, hj]; rfl)).2
theorem cutAt_len (sep : UInt8) : ∀ (l : List UInt8), (cutAt sep l).1.length ≤ l.length := by
  intro l
  suffices ∀ (l : List UInt8) (st : List (List UInt8) × List UInt8), (l.foldl (cutStep sep) st).1.length ≤ st.1.length + l.length by
    simpa [cutAt] using this l ([], [])
  intro l
  induction l with
  | nil => intro st; simp
  | cons b l ih =>
    intro st
    have := ih (cutStep sep st b)
    simp only [List.foldl_cons, List.length_cons]
    have h2 : (cutStep sep st b).1.length ≤ st.1.length + 1 := by unfold cutStep; split <;> simp
    omega
theorem cutAt_len2 (sep : UInt8) : ∀ (l : List UInt8), (cutAt sep l).2.length ≤ l.length := by
  intro l
  suffices ∀ (l : List UInt8) (st : List (List UInt8) × List UInt8), (l.foldl (cutStep sep) st).2.length ≤ st.2.length + l.length by
    simpa [cutAt] using this l ([], [])
  intro l
  induction l with
  | nil => intro st; simp
  | cons b l ih =>
    intro st
    have := ih (cutStep sep st b)
    simp only [List.foldl_cons, List.length_cons]
    have h2 : (cutStep sep st b).2.length ≤ st.2.length + 1 := by unfold cutStep; split <;> simp
    omega
theorem extract_list (s : ByteArray) (a b : Nat) : (s.extract a b).data.toList = (s.data.toList.take b).drop a := by
  simp [ByteArray.data_extract, List.extract_eq_take_drop, List.drop_take]
theorem bytes_ext {s t : ByteArray} (h : s.data.toList = t.data.toList) : s = t := by
  apply ByteArray.ext
  apply Array.ext'
  exact h
theorem extract_one (s : ByteArray) (k : Nat) (hk : k < s.size) : (s.extract k (k + 1)).data.toList = [s[k]] := by
  rw [extract_list]
  have hk' : k < s.data.toList.length := by rw [Array.length_toList]; exact hk
  rw [List.take_succ_eq_append_getElem hk', List.drop_append_of_le_length (by simp; omega), List.drop_eq_nil_of_le (by simp; omega)]
  simp
  rfl
theorem cutAt_mono (sep : UInt8) (l : List UInt8) (k : Nat) : ∃ r, (cutAt sep l).1 = (cutAt sep (l.take k)).1 ++ r := by
  have h : ∀ (m : List UInt8) (st : List (List UInt8) × List UInt8), ∃ r, (m.foldl (cutStep sep) st).1 = st.1 ++ r := by
    intro m
    induction m with
    | nil => intro st; exact ⟨[], by simp⟩
    | cons b m ih =>
      intro st
      obtain ⟨r, hr⟩ := ih (cutStep sep st b)
      have h2 : ∃ q, (cutStep sep st b).1 = st.1 ++ q := by
        unfold cutStep
        split
        · exact ⟨[st.2], rfl⟩
        · exact ⟨[], by simp⟩
      obtain ⟨q, hq⟩ := h2
      exact ⟨q ++ r, by rw [List.foldl_cons, hr, hq, List.append_assoc]⟩
  obtain ⟨r, hr⟩ := h (l.drop k) (cutAt sep (l.take k))
  refine ⟨r, ?_⟩
  rw [← hr, cutAt, cutAt, ← List.foldl_append, List.take_append_drop]
/-- Block g begins with the texts l. -/
def TRow (w : World) (g : Nat) (l : List (List UInt8)) : Prop := ∀ j x, l[j]? = some x → w.cell? ⟨g, j, none⟩ = some (.string ⟨x.toArray⟩)
theorem TRow.of_block {w w' : World} {g : Nat} {l : List (List UInt8)} (h : TRow w g l) (hb : w'.heap[g]? = w.heap[g]?) : TRow w' g l :=
  fun j x hx => (World.cell?_of_block (w := w) (a := ⟨g, j, none⟩) hb).trans (h j x hx)
theorem TRow.of_own {w : World} {base : Nat} {e : TypeId} {g n c : Nat} {l : List (List UInt8)} (h : w.ownsRow base e 1 (.slice (some ⟨g, 0, none⟩) n c) n (txts l)) : TRow w g l := fun j x hx => by
  have := h.cells rfl j (txt x) (by rw [txts_get, hx]; rfl)
  rw [Addr.add_base] at this
  exact this
theorem TRow.lt {w : World} {g : Nat} {l : List (List UInt8)} (h : TRow w g l) (hl : 0 < l.length) : g < w.heap.size :=
  World.block_lt_of_cell? w _ (h 0 _ (List.getElem?_eq_getElem hl))
end Pantry
