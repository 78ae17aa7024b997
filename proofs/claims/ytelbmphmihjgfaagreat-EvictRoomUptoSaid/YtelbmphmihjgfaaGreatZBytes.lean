/- General laws on rows of bytes: []byte(s), string(b), a row changed in place. -/
import Derived.Test.YtelbmphmihjgfaaGreatZMem
import Derived.Laws.IdiomStrings
namespace Pantry
open Go Go.RowKit

/-- Bytes as cells. -/
def b8 (l : List UInt8) : List Value := l.map fun c => .int .u8 (c.toNat : Int)
theorem b8_length (l : List UInt8) : (b8 l).length = l.length := by simp [b8]
theorem b8_one (l : List UInt8) : ∀ u ∈ b8 l, u.oneCell' = true := by
  intro u hu; simp only [b8, List.mem_map] at hu; obtain ⟨c, _, rfl⟩ := hu; rfl
theorem b8_get (l : List UInt8) (j : Nat) : (b8 l)[j]? = (l[j]?).map fun c => .int .u8 (c.toNat : Int) := by simp [b8]
theorem b8_append (l k : List UInt8) : b8 (l ++ k) = b8 l ++ b8 k := by simp [b8]
theorem b8_set (l : List UInt8) (j : Nat) (c : UInt8) : (b8 l).set j (.int .u8 (c.toNat : Int)) = b8 (l.set j c) := by simp [b8, List.map_set]

/-- Block g begins with the bytes l, none of them frozen. -/
def BRow (w : World) (g : Nat) (l : List UInt8) : Prop :=
  ∃ cur e lo hi, w.heap[g]? = some (.cells cur e (lo, hi)) ∧ (∀ j, j < l.length → ¬ (lo ≤ j ∧ j < hi)) ∧ ∃ rest, cur.toList = b8 l ++ rest
theorem BRow.cell {w : World} {g : Nat} {l : List UInt8} (h : BRow w g l) {j : Nat} {c : UInt8} (hj : l[j]? = some c) : w.cell? ⟨g, j, none⟩ = some (.int .u8 (c.toNat : Int)) := by
  obtain ⟨cur, e, lo, hi, hg, _, rest, hr⟩ := h
  rw [cell_of_row w g j cur e (lo, hi) hg, ← Array.getElem?_toList, hr, List.getElem?_append_left (by rw [b8_length]; exact (List.getElem?_eq_some_iff.1 hj).1), b8_get, hj]
  rfl
theorem BRow.frozen {w : World} {g : Nat} {l : List UInt8} (h : BRow w g l) {j : Nat} (hj : j < l.length) : w.frozen? ⟨g, j, none⟩ = false := by
  obtain ⟨cur, e, lo, hi, hg, hf, _⟩ := h
  simp only [World.frozen?, hg]
  have := hf j hj
  simp; omega
theorem BRow.rd {w : World} {g : Nat} {l : List UInt8} (h : BRow w g l) : Rd w (some ⟨g, 0, none⟩) (b8 l) := by
  intro j u hu
  rw [b8_get] at hu
  cases hj : l[j]? with
  | none => rw [hj] at hu; cases hu
  | some c =>
    rw [hj] at hu; cases hu
    exact ⟨rfl, _, rfl, by rw [Addr.add_base]; exact h.cell hj⟩
theorem BRow.lt {w : World} {g : Nat} {l : List UInt8} (h : BRow w g l) : g < w.heap.size := by
  obtain ⟨cur, e, lo, hi, hg, _⟩ := h
  exact (Array.getElem?_eq_some_iff.1 hg).1
theorem BRow.of_block {w w' : World} {g : Nat} {l : List UInt8} (h : BRow w g l) (hb : w'.heap[g]? = w.heap[g]?) : BRow w' g l := by
  obtain ⟨cur, e, lo, hi, hg, r⟩ := h
  exact ⟨cur, e, lo, hi, hb.trans hg, r⟩
theorem BRow.below {w w' : World} {g B : Nat} {l : List UInt8} (h : BRow w g l) (hb : Below B w w') (hB : g < B) : BRow w' g l := h.of_block (hb.block g hB)
theorem BRow.set {w : World} {g : Nat} {l : List UInt8} (h : BRow w g l) {j : Nat} (hj : j < l.length) (c : UInt8) : BRow (w.setCell ⟨g, j, none⟩ (.int .u8 (c.toNat : Int))) g (l.set j c) := by
  obtain ⟨cur, e, lo, hi, hg, hf, rest, hr⟩ := h
  refine ⟨cur.setIfInBounds j (.int .u8 (c.toNat : Int)), e, lo, hi, ?_, by simpa using hf, rest, ?_⟩
  · rw [setCell_eq_setRow w g j cur e (lo, hi) _ hg]
    exact setRow_heap w g cur _ e _ hg
  · rw [Array.toList_setIfInBounds, hr, List.set_append_left _ _ (by rw [b8_length]; exact hj), b8_set]

section
variable {P : Program} {src dst e : TypeId}
theorem wpl_bytes_of (hs : P.underlying src = some .string) (hd : P.underlying dst = some (.slice e)) (he : P.underlying e = some (.int .u8))
    {w : World} {ops : Array Oper} {rest : List Oper} {o : Oper} {a : Act} {Q : Exit → Act → World → Prop} (hgd : o.guard = none) (x : Operand) (ho : o.op = .convert src dst x)
    {s : ByteArray} (hx : a.eval x = .string s)
    (h : ∀ w' cap, s.size ≤ cap → BRow w' w.heap.size s.data.toList → Below w.heap.size w w' → w'.heap.size = w.heap.size + 1 → wpList P ops Q rest (a.put o.dst (.slice (some ⟨w.heap.size, 0, none⟩) s.size cap)) w') :
    wpList P ops Q (o :: rest) a w := by
  refine wpList_plain hgd fun K hK => ?_
  unfold Oper.wp execOp
  simp only [ho, hx, Sem.run_bind, run_bytes_of_string w src dst e s hs hd he, Result.andThen_ok]
  have hcap : s.size ≤ grownCap w s.size 0 e := grownCap_ge w s.size 0 e
  refine hK _ _ (h _ _ hcap ?_ ?_ ?_)
  · refine ⟨_, e, _, _, heap_alloc_new w.drew _, ?_, List.replicate (grownCap w s.size 0 e - s.size) (.int .u8 0), ?_⟩
    · intro j hj
      have : (bytesRow s (grownCap w s.size 0 e)).size = s.data.size + (grownCap w s.size 0 e - s.size) := by simp [bytesRow]
      rw [this]
      rw [Array.length_toList] at hj
      omega
    · simp [bytesRow, b8]
  · exact (Below.refl _ _).drew.alloc (Nat.le_refl _) _
  · simp

theorem run_string_of (hs : P.underlying src = some (.slice e)) (he : P.underlying e = some (.int .u8)) (hd : P.underlying dst = some .string)
    {w : World} {ad : Option Addr} {n c : Nat} {l : List UInt8} (hl : l.length = n) (hr : Rd w ad (b8 l)) : (convert src dst (.slice ad n c)).run P w = .ok (.string ⟨l.toArray⟩) w := by
  subst hl
  cases ad with
  | some ad =>
    exact run_convert_bytes_back w src dst e ad c l hs he hd fun j hj => by
      obtain ⟨_, y, hy, hc⟩ := hr j _ (by rw [b8_get, List.getElem?_eq_getElem hj]; rfl)
      cases hy; exact hc
  | none =>
    have : l = [] := by
      cases l with
      | nil => rfl
      | cons u l => obtain ⟨_, y, hy, _⟩ := hr 0 _ rfl; cases hy
    subst this
    exact run_convert_bytes_nil (w := w) src e hs he 0 c dst hd

theorem wpl_string_of (hs : P.underlying src = some (.slice e)) (he : P.underlying e = some (.int .u8)) (hd : P.underlying dst = some .string)
    {w : World} {ops : Array Oper} {rest : List Oper} {o : Oper} {a : Act} {Q : Exit → Act → World → Prop} (hgd : o.guard = none) (x : Operand) (ho : o.op = .convert src dst x)
    {ad : Option Addr} {n c : Nat} (l : List UInt8) (hx : a.eval x = .slice ad n c) (hl : l.length = n) (hr : Rd w ad (b8 l))
    (h : wpList P ops Q rest (a.put o.dst (.string ⟨l.toArray⟩)) w) :
    wpList P ops Q (o :: rest) a w := by
  refine wpList_plain hgd fun K hK => ?_
  unfold Oper.wp execOp
  simp only [ho, hx, Sem.run_bind, run_string_of hs he hd hl hr, Result.andThen_ok]
  exact hK _ _ h
end

/-- A list of which the first k have been changed by f. -/
def mapTo {α : Type} (f : α → α) (l : List α) (k : Nat) : List α := (l.take k).map f ++ l.drop k
theorem mapTo_zero {α : Type} (f : α → α) (l : List α) : mapTo f l 0 = l := by simp [mapTo]
theorem mapTo_length {α : Type} (f : α → α) (l : List α) (k : Nat) : (mapTo f l k).length = l.length := by simp [mapTo]; omega
theorem mapTo_whole {α : Type} (f : α → α) (l : List α) {k : Nat} (h : l.length ≤ k) : mapTo f l k = l.map f := by
  simp [mapTo, List.take_of_length_le h, List.drop_eq_nil_of_le h]
theorem mapTo_get {α : Type} (f : α → α) (l : List α) {k : Nat} {c : α} (h : l[k]? = some c) : (mapTo f l k)[k]? = some c := by
  have hk := (List.getElem?_eq_some_iff.1 h).1
  simp only [mapTo]
  rw [List.getElem?_append_right (by simp; omega), List.getElem?_drop]
  simp only [List.length_map, List.length_take, Nat.min_eq_left (Nat.le_of_lt hk), Nat.sub_self, Nat.add_zero]
  exact h
theorem mapTo_succ {α : Type} (f : α → α) (l : List α) {k : Nat} {c : α} (h : l[k]? = some c) : mapTo f l (k + 1) = (mapTo f l k).set k (f c) := by
  obtain ⟨hk, rfl⟩ := List.getElem?_eq_some_iff.1 h
  simp only [mapTo]
  rw [List.set_append_right _ _ (by simp; omega), List.take_succ_eq_append_getElem hk, List.map_append, List.append_assoc]
  congr 1
  rw [List.drop_eq_getElem_cons hk]
  simp only [List.length_map, List.length_take, Nat.min_eq_left (Nat.le_of_lt hk), Nat.sub_self, List.set_cons_zero, List.map_cons, List.map_nil, List.cons_append, List.nil_append]
theorem mapTo_skip {α : Type} (f : α → α) (l : List α) {k : Nat} {c : α} (h : l[k]? = some c) (hf : f c = c) : mapTo f l (k + 1) = mapTo f l k := by
  rw [mapTo_succ f l h, hf]
  have := mapTo_get f l h
  obtain ⟨hk, hx⟩ := List.getElem?_eq_some_iff.1 this
  conv => lhs; rw [← hx]
  exact List.set_getElem_self hk
end Pantry

/- Texts cut at a sign: the plain function, and rows of texts as cells. -/
namespace Pantry
open Go
/-- What is done and what is begun, one sign further. -/
def cutStep (sep : UInt8) (st : List (List UInt8) × List UInt8) (b : UInt8) : List (List UInt8) × List UInt8 :=
  if b = sep then (st.1 ++ [st.2], []) else (st.1, st.2 ++ [b])
def cutAt (sep : UInt8) (l : List UInt8) : List (List UInt8) × List UInt8 := l.foldl (cutStep sep) ([], [])
/-- What stands between the signs. -/
def cutB (sep : UInt8) (l : List UInt8) : List (List UInt8) := (cutAt sep (l ++ [sep])).1
theorem cutAt_snoc (sep : UInt8) (l : List UInt8) (b : UInt8) : cutAt sep (l ++ [b]) = cutStep sep (cutAt sep l) b := by simp [cutAt]
theorem cutAt_take (sep : UInt8) (l : List UInt8) {k : Nat} {b : UInt8} (h : l[k]? = some b) : cutAt sep (l.take (k + 1)) = cutStep sep (cutAt sep (l.take k)) b := by
  obtain ⟨hk, rfl⟩ := List.getElem?_eq_some_iff.1 h
  rw [List.take_succ_eq_append_getElem hk, cutAt_snoc]

/-- Texts as cells. -/
def txt (l : List UInt8) : Value := .string ⟨l.toArray⟩
def txts (l : List (List UInt8)) : List Value := l.map txt
theorem txts_length (l : List (List UInt8)) : (txts l).length = l.length := by simp [txts]
theorem txts_one (l : List (List UInt8)) : ∀ u ∈ txts l, u.oneCell' = true := by
  intro u hu; simp only [txts, List.mem_map] at hu; obtain ⟨c, _, rfl⟩ := hu; rfl
theorem txts_get (l : List (List UInt8)) (j : Nat) : (txts l)[j]? = (l[j]?).map txt := by simp [txts]
theorem txts_snoc (l : List (List UInt8)) (x : List UInt8) : txts l ++ [txt x] = txts (l ++ [x]) := by simp [txts]
theorem txts_cell {w : World} {a : Option Addr} {l : List (List UInt8)} (h : Rd w a (txts l)) {j : Nat} {x : List UInt8} (hj : l[j]? = some x) : ∃ y, a = some y ∧ w.cell? (y.add j) = some (txt x) :=
  (h j (txt x) (by rw [txts_get, hj]; rfl)).2
theorem cutAt_len (sep : UInt8) : ∀ (l : List UInt8), (cutAt sep l).1.length ≤ l.length := by
  intro l
  suffices ∀ (l : List UInt8) (st : List (List UInt8) × List UInt8), (l.foldl (cutStep sep) st).1.length ≤ st.1.length + l.length by
    simpa [cutAt] using this l ([], [])
  intro l
  induction l with
  | nil => intro st; simp
  | cons b l ih =>
    intro st
    have := ih (cutStep sep st b)
    simp only [List.foldl_cons, List.length_cons]
    have h2 : (cutStep sep st b).1.length ≤ st.1.length + 1 := by unfold cutStep; split <;> simp
    omega
theorem cutAt_len2 (sep : UInt8) : ∀ (l : List UInt8), (cutAt sep l).2.length ≤ l.length := by
  intro l
  suffices ∀ (l : List UInt8) (st : List (List UInt8) × List UInt8), (l.foldl (cutStep sep) st).2.length ≤ st.2.length + l.length by
    simpa [cutAt] using this l ([], [])
  intro l
  induction l with
  | nil => intro st; simp
  | cons b l ih =>
    intro st
    have := ih (cutStep sep st b)
    simp only [List.foldl_cons, List.length_cons]
    have h2 : (cutStep sep st b).2.length ≤ st.2.length + 1 := by unfold cutStep; split <;> simp
    omega
theorem extract_list (s : ByteArray) (a b : Nat) : (s.extract a b).data.toList = (s.data.toList.take b).drop a := by
  simp [ByteArray.data_extract, List.extract_eq_take_drop, List.drop_take]
theorem bytes_ext {s t : ByteArray} (h : s.data.toList = t.data.toList) : s = t := by
  apply ByteArray.ext
  apply Array.ext'
  exact h
theorem extract_one (s : ByteArray) (k : Nat) (hk : k < s.size) : (s.extract k (k + 1)).data.toList = [s[k]] := by
  rw [extract_list]
  have hk' : k < s.data.toList.length := by rw [Array.length_toList]; exact hk
  rw [List.take_succ_eq_append_getElem hk', List.drop_append_of_le_length (by simp; omega), List.drop_eq_nil_of_le (by simp; omega)]
  simp
  rfl
theorem cutAt_mono (sep : UInt8) (l : List UInt8) (k : Nat) : ∃ r, (cutAt sep l).1 = (cutAt sep (l.take k)).1 ++ r := by
  have h : ∀ (m : List UInt8) (st : List (List UInt8) × List UInt8), ∃ r, (m.foldl (cutStep sep) st).1 = st.1 ++ r := by
    intro m
    induction m with
    | nil => intro st; exact ⟨[], by simp⟩
    | cons b m ih =>
      intro st
      obtain ⟨r, hr⟩ := ih (cutStep sep st b)
      have h2 : ∃ q, (cutStep sep st b).1 = st.1 ++ q := by
        unfold cutStep
        split
        · exact ⟨[st.2], rfl⟩
        · exact ⟨[], by simp⟩
      obtain ⟨q, hq⟩ := h2
      exact ⟨q ++ r, by rw [List.foldl_cons, hr, hq, List.append_assoc]⟩
  obtain ⟨r, hr⟩ := h (l.drop k) (cutAt sep (l.take k))
  refine ⟨r, ?_⟩
  rw [← hr, cutAt, cutAt, ← List.foldl_append, List.take_append_drop]
/-- Block g begins with the texts l. -/
def TRow (w : World) (g : Nat) (l : List (List UInt8)) : Prop := ∀ j x, l[j]? = some x → w.cell? ⟨g, j, none⟩ = some (.string ⟨x.toArray⟩)
theorem TRow.of_block {w w' : World} {g : Nat} {l : List (List UInt8)} (h : TRow w g l) (hb : w'.heap[g]? = w.heap[g]?) : TRow w' g l :=
  fun j x hx => (World.cell?_of_block (w := w) (a := ⟨g, j, none⟩) hb).trans (h j x hx)
theorem TRow.of_own {w : World} {base : Nat} {e : TypeId} {g n c : Nat} {l : List (List UInt8)} (h : w.ownsRow base e 1 (.slice (some ⟨g, 0, none⟩) n c) n (txts l)) : TRow w g l := fun j x hx => by
  have := h.cells rfl j (txt x) (by rw [txts_get, hx]; rfl)
  rw [Addr.add_base] at this
  exact this
theorem TRow.lt {w : World} {g : Nat} {l : List (List UInt8)} (h : TRow w g l) (hl : 0 < l.length) : g < w.heap.size :=
  World.block_lt_of_cell? w _ (h 0 _ (List.getElem?_eq_getElem hl))
end Pantry
