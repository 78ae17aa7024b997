/- What is refused, and why: the plain law. -/
import Derived.Test.YtipehdbpbmnonaaGreatZVWakes
import Derived.Test.YtipehdbpbmnonaaGreatZVBuild
set_option linter.unusedVariables false
set_option linter.unusedSimpArgs false
namespace Pantry
open Go Go.RowKit
theorem wrong_kindP {q : PD} (h : q.kind < 1 ∨ 5 < q.kind) : wrongP q = 3 := by
  unfold wrongP
  rw [if_pos (by rcases h with h | h <;> simp [h])]
theorem wrong_bel {q : PD} (h : belT q = false ∨ belI q = false ∨ belF q = false ∨ belR q = false) : wrongP q = 3 := by
  unfold wrongP
  rw [if_pos (.inr (.inr h))]
theorem wrong_twice {q : PD} (h : twiceP q = true) : wrongP q = 3 := by
  unfold wrongP
  split
  · rfl
  · simp [h]
theorem twice_of_dup {q : PD} (h : ¬ (namesP q).Nodup) : twiceP q = true := by
  unfold twiceP dupB
  simp [h]
theorem twice_of_nan {q : PD} {x : Mb} (hx : x ∈ q.ranks) (h : fnan x.2) : twiceP q = true := by
  unfold twiceP nanB
  rw [Bool.or_eq_true]
  refine .inr (List.any_eq_true.2 ⟨x, hx, by simpa using h⟩)
theorem wrong_long {q : PD} (hk : 1 ≤ q.kind ∧ q.kind ≤ 5) (b1 : belT q = true) (b2 : belI q = true) (b3 : belF q = true) (b4 : belR q = true) (hn : (namesP q).Nodup) (hnum : ∀ x ∈ q.ranks, ¬ fnan x.2) (hl : 1048576 < longP q) : wrongP q = 2 := by
  have ht : twiceP q = false := by
    unfold twiceP
    rw [Bool.or_eq_false_iff]
    refine ⟨by simp [dupB, hn], ?_⟩
    unfold nanB
    rw [List.any_eq_false]
    intro x hx
    simpa using hnum x hx
  unfold wrongP
  rw [if_neg (by rw [b1, b2, b3, b4]; simp; omega), ht, if_neg (by simp), if_pos hl]
theorem long_text {q : PD} (h : 1048576 < q.text.length) : 1048576 < longP q := by
  obtain ⟨t1, -⟩ := longM_ge (longF (longT q.text.length q.items) q.pairs) q.ranks
  obtain ⟨t3, -⟩ := longF_ge (longT q.text.length q.items) q.pairs
  obtain ⟨t5, -⟩ := longT_ge q.text.length q.items
  unfold longP
  omega
theorem long_item {q : PD} {s : List UInt8} (hs : s ∈ q.items) (h : 1048576 < s.length) : 1048576 < longP q := by
  obtain ⟨t1, -⟩ := longM_ge (longF (longT q.text.length q.items) q.pairs) q.ranks
  obtain ⟨t3, -⟩ := longF_ge (longT q.text.length q.items) q.pairs
  obtain ⟨-, t5⟩ := longT_ge q.text.length q.items
  have := t5 s hs
  unfold longP
  omega
theorem long_pair {q : PD} {s : Fld} (hs : s ∈ q.pairs) (h : 1048576 < s.1.length) : 1048576 < longP q := by
  obtain ⟨t1, -⟩ := longM_ge (longF (longT q.text.length q.items) q.pairs) q.ranks
  obtain ⟨-, t3⟩ := longF_ge (longT q.text.length q.items) q.pairs
  have := t3 s hs
  unfold longP
  omega
theorem long_rank {q : PD} {s : Mb} (hs : s ∈ q.ranks) (h : 1048576 < s.1.length) : 1048576 < longP q := by
  obtain ⟨-, t1⟩ := longM_ge (longF (longT q.text.length q.items) q.pairs) q.ranks
  have := t1 s hs
  unfold longP
  omega
/-- A long text in the place of a text. -/
theorem ref_text {p : PD} (h : Fine p) (hk : p.kind = 1) {L : List UInt8} (hL : L.length = 1048577) : wrongP ⟨1, L, p.items, p.pairs, p.ranks⟩ = 2 := by
  have h2 := h.noItems (by omega) (by omega)
  have h3 := h.noPairs (by omega)
  have h4 := h.noRanks (by omega)
  rw [h2, h3, h4]
  exact wrong_long ⟨by simp, by simp⟩ rfl rfl rfl rfl (by simp [namesP, namesT]) (by simp) (long_text (by show 1048576 < L.length; omega))
theorem ref_list {p : PD} (h : Fine p) (hk : p.kind = 2) {L : List UInt8} (hL : L.length = 1048577) : wrongP ⟨2, p.text, p.items ++ [L], p.pairs, p.ranks⟩ = 2 := by
  have h1 := h.noText (by omega)
  have h3 := h.noPairs (by omega)
  have h4 := h.noRanks (by omega)
  rw [h1, h3, h4]
  exact wrong_long ⟨by simp, by simp⟩ rfl rfl rfl rfl (by simp [namesP, namesT]) (by simp) (long_item (s := L) (by simp) (by omega))
theorem ref_flock {p : PD} (h : Fine p) (hk : p.kind = 4) {L : List UInt8} (hL : L.length = 1048577) : wrongP ⟨4, p.text, p.items ++ [L], p.pairs, p.ranks⟩ = 2 := by
  have h1 := h.noText (by omega)
  have h3 := h.noPairs (by omega)
  have h4 := h.noRanks (by omega)
  rw [h1, h3, h4]
  have hn : (p.items ++ [L]).Nodup := by
    rw [List.nodup_append]
    refine ⟨h.itemKeys hk, by simp, ?_⟩
    intro a ha b hb e
    simp at hb
    have := h.items a ha
    rw [e, hb] at this
    omega
  exact wrong_long ⟨by simp, by simp⟩ rfl rfl rfl rfl (by
    simp only [namesP, namesT, if_true, List.take_length, List.map_nil, List.append_nil]
    exact hn) (by simp) (long_item (s := L) (by simp) (by omega))
theorem ref_record {p : PD} (h : Fine p) (hk : p.kind = 3) {L : List UInt8} (hL : L.length = 1048577) : wrongP ⟨3, p.text, p.items, p.pairs ++ [(L, [])], p.ranks⟩ = 2 := by
  have h1 := h.noText (by omega)
  have h2 := h.noItems (by omega) (by omega)
  have h4 := h.noRanks (by omega)
  rw [h1, h2, h4]
  have hn : ((p.pairs ++ [(L, ([] : List UInt8))]).map (·.1)).Nodup := by
    rw [List.map_append, List.nodup_append]
    refine ⟨h.pairKeys, by simp, ?_⟩
    intro a ha b hb e
    simp at hb
    obtain ⟨x, hx, rfl⟩ := List.mem_map.1 ha
    have := (h.flds x hx).1
    rw [e, hb] at this
    omega
  exact wrong_long ⟨by simp, by simp⟩ rfl rfl rfl rfl (by simpa [namesP, namesT] using hn) (by simp) (long_pair (s := (L, [])) (by simp) (by show 1048576 < L.length; omega))
theorem nan0 : ¬ fnan 0 := by unfold fnan; decide +kernel
theorem ref_ranks {p : PD} (h : Fine p) (hk : p.kind = 5) {L : List UInt8} (hL : L.length = 1048577) : wrongP ⟨5, p.text, p.items, p.pairs, p.ranks ++ [(L, 0)]⟩ = 2 := by
  have h1 := h.noText (by omega)
  have h2 := h.noItems (by omega) (by omega)
  have h3 := h.noPairs (by omega)
  rw [h1, h2, h3]
  have hr : (p.ranks.map (·.1)).Nodup := by
    have := h.names
    unfold namesP at this
    exact (List.nodup_append.1 this).2.1
  have hn : (List.map (fun x : Mb => x.1) (p.ranks ++ [((L, 0) : Mb)])).Nodup := by
    rw [List.map_append, List.nodup_append]
    refine ⟨hr, by simp, ?_⟩
    intro a ha b hb e
    simp at hb
    obtain ⟨x, hx, rfl⟩ := List.mem_map.1 ha
    have := h.mems x hx
    rw [e, hb] at this
    omega
  refine wrong_long ⟨by simp, by simp⟩ rfl rfl rfl rfl (by simpa [namesP, namesT] using hn) ?_ (long_rank (s := (L, 0)) (by simp) (by show 1048576 < L.length; omega))
  intro x hx
  rcases List.mem_append.1 hx with hx | hx
  · exact h.num x hx
  · simp at hx; subst hx; exact nan0
/-- Something twice. -/
theorem ref_twiceI {p : PD} (hk : p.kind = 4) {s : List UInt8} (hs : s ∈ p.items) : wrongP ⟨4, p.text, p.items ++ [s], p.pairs, p.ranks⟩ = 3 := by
  refine wrong_twice (twice_of_dup fun hn => ?_)
  unfold namesP namesT at hn
  simp only [if_true, List.take_length] at hn
  have := (List.nodup_append.1 (List.nodup_append.1 hn).1).1
  exact (List.nodup_append.1 this).2.2 s hs s (by simp) rfl
theorem ref_twiceF {p : PD} {x : Fld} (hx : x ∈ p.pairs) (s : List UInt8) : wrongP ⟨p.kind, p.text, p.items, p.pairs ++ [(x.1, s)], p.ranks⟩ = 3 := by
  refine wrong_twice (twice_of_dup fun hn => ?_)
  unfold namesP at hn
  have := (List.nodup_append.1 (List.nodup_append.1 hn).1).2.1
  simp only [List.map_append] at this
  exact (List.nodup_append.1 this).2.2 x.1 (List.mem_map.2 ⟨x, hx, rfl⟩) x.1 (by simp) rfl
theorem ref_twiceR {p : PD} {x : Mb} (hx : x ∈ p.ranks) (y : Nat) : wrongP ⟨p.kind, p.text, p.items, p.pairs, p.ranks ++ [(x.1, y)]⟩ = 3 := by
  refine wrong_twice (twice_of_dup fun hn => ?_)
  unfold namesP at hn
  have := (List.nodup_append.1 hn).2.1
  simp only [List.map_append] at this
  exact (List.nodup_append.1 this).2.2 x.1 (List.mem_map.2 ⟨x, hx, rfl⟩) x.1 (by simp) rfl
end Pantry

/- Plain data turned about: the plain law. -/
set_option linter.unusedVariables false
set_option linter.unusedSimpArgs false
namespace Pantry
open Go Go.RowKit
/-- Plain data the other way round. -/
def turnP (p : PD) : PD := ⟨p.kind, p.text, p.items.reverse, p.pairs.reverse, p.ranks.reverse⟩
theorem longT_perm (m : Int) {l l' : List (List UInt8)} (h : l.Perm l') : longT m l = longT m l' := by
  obtain ⟨a1, a2⟩ := longT_ge m l
  obtain ⟨b1, b2⟩ := longT_ge m l'
  exact Int.le_antisymm (longT_le m l b1 fun s hs => b2 s (h.mem_iff.1 hs)) (longT_le m l' a1 fun s hs => a2 s (h.mem_iff.2 hs))
theorem longF_perm (m : Int) {l l' : List Fld} (h : l.Perm l') : longF m l = longF m l' := by
  obtain ⟨a1, a2⟩ := longF_ge m l
  obtain ⟨b1, b2⟩ := longF_ge m l'
  exact Int.le_antisymm (longF_le m l b1 fun s hs => b2 s (h.mem_iff.1 hs)) (longF_le m l' a1 fun s hs => a2 s (h.mem_iff.2 hs))
theorem longM_perm (m : Int) {l l' : List Mb} (h : l.Perm l') : longM m l = longM m l' := by
  obtain ⟨a1, a2⟩ := longM_ge m l
  obtain ⟨b1, b2⟩ := longM_ge m l'
  exact Int.le_antisymm (longM_le m l b1 fun s hs => b2 s (h.mem_iff.1 hs)) (longM_le m l' a1 fun s hs => a2 s (h.mem_iff.2 hs))
theorem turn_names (p : PD) : (namesP (turnP p)).Perm (namesP p) := by
  unfold namesP namesT turnP
  refine List.Perm.append (List.Perm.append ?_ ?_) ?_
  · show (if p.kind = 4 then List.take p.items.reverse.length p.items.reverse else []).Perm (if p.kind = 4 then List.take p.items.length p.items else [])
    split
    · rw [List.take_length, List.take_length]; exact List.reverse_perm _
    · exact List.Perm.refl _
  · exact (List.reverse_perm _).map _
  · exact (List.reverse_perm _).map _
theorem wrong_turn (p : PD) : wrongP (turnP p) = wrongP p := by
  have h1 : twiceP (turnP p) = twiceP p := by
    unfold twiceP
    congr 1
    · unfold dupB
      rw [decide_eq_decide.2 (turn_names p).nodup_iff]
    · unfold nanB turnP
      rw [List.any_reverse]
  have h2 : longP (turnP p) = longP p := by
    unfold longP turnP
    rw [longT_perm _ (List.reverse_perm p.items), longF_perm _ (List.reverse_perm p.pairs), longM_perm _ (List.reverse_perm p.ranks)]
  have h3 : mostP (turnP p) = mostP p := by simp [mostP, turnP]
  have b1 : belT (turnP p) = belT p := rfl
  have b2 : belI (turnP p) = belI p := by
    show (decide ((2 : Int) = p.kind) || decide ((4 : Int) = p.kind) || decide (p.items.reverse.length = 0)) = (decide ((2 : Int) = p.kind) || decide ((4 : Int) = p.kind) || decide (p.items.length = 0))
    rw [decide_eq_decide.2 (show p.items.reverse.length = 0 ↔ p.items.length = 0 by rw [List.length_reverse])]
  have b3 : belF (turnP p) = belF p := by
    show (decide ((3 : Int) = p.kind) || decide (p.pairs.reverse.length = 0)) = (decide ((3 : Int) = p.kind) || decide (p.pairs.length = 0))
    rw [decide_eq_decide.2 (show p.pairs.reverse.length = 0 ↔ p.pairs.length = 0 by rw [List.length_reverse])]
  have b4 : belR (turnP p) = belR p := by
    show (decide ((5 : Int) = p.kind) || decide (p.ranks.reverse.length = 0)) = (decide ((5 : Int) = p.kind) || decide (p.ranks.length = 0))
    rw [decide_eq_decide.2 (show p.ranks.reverse.length = 0 ↔ p.ranks.length = 0 by rw [List.length_reverse])]
  unfold wrongP
  rw [h1, h2, h3, b1, b2, b3, b4]
  rfl
/-- Where it is no list, both are told the same. -/
theorem turn_same {p q q' : PD} (h : Fine p) (hk : p.kind ≠ 2) (h1 : Canon p q) (h2 : Canon (turnP p) q') : q' = q := by
  cases h1 with
  | text e => cases h2 <;> first | rfl | simp_all [turnP]
  | list e => exact absurd e hk
  | record e =>
    cases h2 with
    | record e2 => show (⟨3, [], [], sortK p.pairs.reverse, []⟩ : PD) = _; rw [sortK_congr (List.reverse_perm p.pairs) h.pairKeys]
    | text e2 => simp_all [turnP]
    | list e2 => simp_all [turnP]
    | flock e2 => simp_all [turnP]
    | ranks l e2 _ _ => simp_all [turnP]
  | flock e =>
    cases h2 with
    | flock e2 => show (⟨4, [], sortT p.items.reverse, [], []⟩ : PD) = _; rw [sortT_congr (List.reverse_perm p.items) (h.itemKeys e)]
    | text e2 => simp_all [turnP]
    | list e2 => simp_all [turnP]
    | record e2 => simp_all [turnP]
    | ranks l e2 _ _ => simp_all [turnP]
  | ranks l e hl hr =>
    cases h2 with
    | ranks l' e2 hl' hr' => rw [ranks_unique (hl'.trans (List.reverse_perm p.ranks |>.trans hl.symm)) hr' hr]
    | text e2 => simp_all [turnP]
    | list e2 => simp_all [turnP]
    | record e2 => simp_all [turnP]
    | flock e2 => simp_all [turnP]
/-- A list is told as it is, and turned about it is told turned about. -/
theorem turn_list {p q q' : PD} (hk : p.kind = 2) (h1 : Canon p q) (h2 : Canon (turnP p) q') : q = ⟨2, [], p.items, [], []⟩ ∧ q' = turnP q := by
  cases h1 with
  | list e =>
    cases h2 with
    | list e2 => exact ⟨rfl, rfl⟩
    | text e2 => simp_all [turnP]
    | record e2 => simp_all [turnP]
    | flock e2 => simp_all [turnP]
    | ranks l e2 _ _ => simp_all [turnP]
  | text e => omega
  | record e => omega
  | flock e => omega
  | ranks l e _ _ => omega
theorem turn_cost {p q q' : PD} (h : Fine p) (h1 : Canon p q) (h2 : Canon (turnP p) q') : costP q' = costP q := by
  by_cases hk : p.kind = 2
  · obtain ⟨rfl, rfl⟩ := turn_list hk h1 h2
    simp [costP, turnP, textCost, List.sum_reverse]
  · rw [turn_same h hk h1 h2]
theorem turn_fine {p : PD} (h : Fine p) : Fine (turnP p) := wrongP_zero (by rw [wrong_turn]; exact h.wrong)
end Pantry

/- Plain data turned about: the walk. -/
set_option linter.unusedVariables false
set_option linter.unusedSimpArgs false
namespace Pantry
open Go Go.RowKit
theorem rev_take {α : Type} {l : List α} {k m : Nat} (h : m + 1 + k = l.length) (x : α) (hx : l[m]? = some x) : l.reverse.take (k + 1) = l.reverse.take k ++ [x] := by
  rw [List.take_add_one]
  have : l.reverse[k]? = some x := by
    rw [List.getElem?_reverse (by omega)]
    rw [show l.length - 1 - k = m by omega]
    exact hx
  rw [this]; rfl
theorem rev_take_length {α : Type} {l : List α} {k m : Nat} (h : m + k = l.length) : (l.reverse.take k).length = k := by
  rw [List.length_take, List.length_reverse]; omega
/-- Counting down. -/
def TR (n : Nat) (i : Value) (Q : Nat → Prop) : Prop := ∃ k m : Nat, m + k = n ∧ i = .int .i64 ((m : Int) - 1) ∧ Q k
theorem rev_take_all {α : Type} {l : List α} {k : Nat} (h : 0 + k = l.length) : l.reverse.take k = l.reverse := List.take_of_length_le (by rw [List.length_reverse]; omega)
end Pantry
namespace Go.Proofs.YtipehdbpbmnonaaGreat
open Go.RowKit Pantry

/-- Two cells of a row of pairs of cells. -/
theorem Rd.two {w : World} {a : Option Addr} {α : Type} {enc : α → List Value} {l : List α} (h : Rd w a (l.flatMap enc)) (c0 c1 : α → Value) (he : ∀ x, enc x = [c0 x, c1 x]) {k : Nat} {x : α} (hk : l[k]? = some x) :
    ∃ y, a = some y ∧ w.cell? (y.add (k * 2)) = some (c0 x) ∧ w.cell? ((y.add (k * 2)).add 1) = some (c1 x) := by
  have hl : ∀ l : List α, (l.flatMap enc).length = l.length * 2 := fun l => by
    induction l with
    | nil => rfl
    | cons p l ih => rw [List.flatMap_cons, List.length_append, ih, he, List.length_cons]; simp; omega
  have hkl := (List.getElem?_eq_some_iff.1 hk).1
  have hg : ∀ (l : List α) (k : Nat), l[k]? = some x → (l.flatMap enc)[k * 2]? = some (c0 x) ∧ (l.flatMap enc)[k * 2 + 1]? = some (c1 x) := by
    intro l
    induction l with
    | nil => intro k h; simp at h
    | cons p l ih =>
      intro k h
      cases k with
      | zero => simp at h; subst h; rw [List.flatMap_cons, he]; simp
      | succ k =>
        have := ih k (by simpa using h)
        rw [List.flatMap_cons, he]
        rw [show (k + 1) * 2 = k * 2 + 2 by omega, show k * 2 + 2 + 1 = (k * 2 + 1) + 2 by omega]
        simpa using this
  obtain ⟨g1, g2⟩ := hg l k hk
  obtain ⟨y, rfl, h1⟩ := h.cell (k * 2) (by rw [hl]; omega)
  obtain ⟨y', e, h2⟩ := h.cell (k * 2 + 1) (by rw [hl]; omega)
  cases e
  refine ⟨y, rfl, ?_, ?_⟩
  · rw [h1, ← List.getElem?_eq_getElem, g1]
  · rw [Addr.add_add, h2, ← List.getElem?_eq_getElem, g2]
attribute [-go_sem] Builtin.append_
set_option maxHeartbeats 16000000 in
set_option maxRecDepth 100000 in
theorem turned_any (w : World) (p : PD) (a1 a2 a3 : Option Addr) (c1 c2 c3 : Nat) (hD : PlainAt w p a1 a2 a3) (hf : p.items.length ≤ 4294967296 ∧ p.pairs.length ≤ 4294967296 ∧ p.ranks.length ≤ 4294967296) :
    Calls Tryz.prog 11 #[.agg (Tryz.plainCells p a1 a2 a3 c1 c2 c3)] w (ToldPost (turnP p) w) := by
  obtain ⟨w1, hw1⟩ : ∃ W, w.alloc (.cells (Tryz.plainCells p a1 a2 a3 c1 c2 c3) 31) = W := ⟨_, rfl⟩
  obtain ⟨w2, hw2⟩ : ∃ W, w1.alloc (.cells #[.int .i64 0, .string ⟨#[]⟩, .slice none 0 0, .slice none 0 0, .slice none 0 0] 31) = W := ⟨_, rfl⟩
  have hs1 : w1.heap.size = w.heap.size + 1 := by rw [← hw1]; simp
  have hs2 : w2.heap.size = w.heap.size + 1 + 1 := by rw [← hw2]; simp [hs1]
  have hb2 : Below w.heap.size w w2 := by rw [← hw2, ← hw1]; exact ((Below.refl _ _).alloc (Nat.le_refl _) _).alloc (by simp) _
  have hDb : w2.heap[w.heap.size]? = some (.cells (Tryz.plainCells p a1 a2 a3 c1 c2 c3) 31) := by
    rw [← hw2, heap_alloc_old (by omega), ← hw1]
    exact heap_alloc_new w _
  have hRb : w2.heap[w.heap.size + 1]? = some (.cells #[.int .i64 0, .string ⟨#[]⟩, .slice none 0 0, .slice none 0 0, .slice none 0 0] 31) := by
    rw [← hs1, ← hw2]
    exact heap_alloc_new w1 _
  have hPB : PB w2 w2.heap.size p.kind p.text [] [] [] (w2.alloc (.cells #[.int .i64 p.kind, .string ⟨p.text.toArray⟩, .slice none 0 0, .slice none 0 0, .slice none 0 0] 31)) (.slice none 0 0) (.slice none 0 0) (.slice none 0 0) := by
    exact ⟨Nat.le_refl _, heap_alloc_new w2 _, World.ownsRow_nil _ _ _ _, World.ownsRow_nil _ _ _ _, World.ownsRow_nil _ _ _ _, (Below.refl _ _).alloc (Nat.le_refl _) _⟩
  have HD := Lib.hid hD
  have HDC : Hid (∀ A v2 v3 v4 its prs rks, PB w2 w2.heap.size p.kind p.text its prs rks A v2 v3 v4 →
      A.cell? ⟨w.heap.size, 2, none⟩ = some (.slice a1 p.items.length c1) ∧ A.cell? ⟨w.heap.size, 3, none⟩ = some (.slice a2 p.pairs.length c2) ∧ A.cell? ⟨w.heap.size, 4, none⟩ = some (.slice a3 p.ranks.length c3)) := Lib.hid fun A v2 v3 v4 its prs rks h => by
    have := (h.below.block w.heap.size (by omega)).trans hDb
    obtain ⟨⟨-, -, q2, q3, q4⟩, -⟩ := fiveP this
    exact ⟨q2, q3, q4⟩
  have HPLA : Hid (∀ A v2 v3 v4 its prs rks, PB w2 w2.heap.size p.kind p.text its prs rks A v2 v3 v4 → PlainAt A p a1 a2 a3) := Lib.hid fun A v2 v3 v4 its prs rks h => hD.below (hb2.trans (h.below.mono hb2.size))
  obtain ⟨⟨d0, d1, -, -, -⟩, -⟩ := fiveP hDb
  obtain ⟨f2, f3, f4⟩ := HDC.out _ _ _ _ _ _ _ hPB
  obtain ⟨x2, x3, x4, xf⟩ := hPB.cells
  have HP := Lib.hid hPB
  have HB2 := Lib.hid hb2
  have HRb := Lib.hid hRb
  have HS1 := Lib.hid hs1
  have HS2 := Lib.hid hs2
  have HF := Lib.hid hf
  obtain ⟨n2, hn2⟩ : ∃ n, p.items.length = n := ⟨_, rfl⟩
  obtain ⟨n3, hn3⟩ : ∃ n, p.pairs.length = n := ⟨_, rfl⟩
  obtain ⟨n4, hn4⟩ : ∃ n, p.ranks.length = n := ⟨_, rfl⟩
  have HN2 := Lib.hid hn2
  have HN3 := Lib.hid hn3
  have HN4 := Lib.hid hn4
  have hf2 : n2 ≤ 4294967296 := by rw [← hn2]; exact hf.1
  have hf3 : n3 ≤ 4294967296 := by rw [← hn3]; exact hf.2.1
  have hf4 : n4 ≤ 4294967296 := by rw [← hn4]; exact hf.2.2
  have hmx : Tryz.prog.follows .mixedOrders = true := by kernel_rfl
  rw [hn2] at f2 HDC
  rw [hn3] at f3 HDC
  rw [hn4] at f4 HDC
  unfold Tryz.plainCells at hw1 ⊢
  rw [hn2, hn3, hn4] at hw1 ⊢
  clear hPB hb2 hDb hRb hs1 hs2 hD hf hn2 hn3 hn4
  go_enter Tryz.func11, Tryz.ntmps11
  go_wp2_with fail
  go_loopw [4] (fun i wr => TR n2 i fun k => ∃ u2, PB w2 w2.heap.size p.kind p.text (p.items.reverse.take k) [] [] wr u2 (.slice none 0 0) (.slice none 0 0))
    (fun i _ => (intOf i + 1).toNat)
  case atStart => exact ⟨0, n2, by omega, by go_num, _, HP.out⟩
  case round =>
    obtain ⟨k, m, hkm, rfl, u2, hP⟩ := hrel
    obtain ⟨e2, e3, e4⟩ := HDC.out _ _ _ _ _ _ _ hP
    obtain ⟨y2, y3, y4, yf⟩ := hP.cells
    clear HP d0 d1 f2 f3 f4 x2 x3 x4 xf
    cases m with
    | succ m =>
      rw [show ((m + 1 : Nat) : Int) - 1 = (m : Int) by omega]
      obtain ⟨s, hs⟩ : ∃ s, p.items[m]? = some s := ⟨_, List.getElem?_eq_getElem (by rw [HN2.out]; omega)⟩
      obtain ⟨x, rfl, hx⟩ := (HPLA.out _ _ _ _ _ _ _ hP).items.cell m (by rw [List.length_map, HN2.out]; omega)
      have hx2 : wr.cell? (x.add m) = some (.string ⟨s.toArray⟩) := by
        rw [hx, List.getElem_map]
        obtain ⟨h1, e⟩ := List.getElem?_eq_some_iff.1 hs
        rw [e]; rfl
      have hlen : (p.items.reverse.take k).length = k := rev_take_length (m := m + 1) (by rw [HN2.out]; exact hkm)
      have htk := rev_take (k := k) (by rw [HN2.out]; exact hkm) s hs
      obtain ⟨g, cap, w7, hr7, q1, q2, q3⟩ := hP.add2 s (by rw [hlen]; omega)
      rw [hlen] at hr7 q3
      rw [← htk] at q3
      have HQ := Lib.hid q3
      obtain ⟨y2a, -, -, -⟩ := (hP.alloc (.cells #[.string ⟨s.toArray⟩] 9)).cells
      clear hlen htk q3 hx hs yf hP
      go_wp2_with fail
      go_region_with (fail)
      all_goals
        go_wp2_with fail
        go_roundw
        case rel => first | exact ⟨k + 1, m, by omega, by go_num, _, HQ.out⟩ | (refine ⟨_, _, _, _, _, _, _, _, _, _, _, _, _, _, _, ?_, rfl⟩; exact ⟨k + 1, m, by omega, by go_num, _, HQ.out⟩)
        case measure => simp [intOf]
    | zero =>
      obtain rfl : n2 = k := by omega
      rw [rev_take_all (by rw [HN2.out]; exact hkm)] at hP
      have HPI := Lib.hid hP
      clear hP hkm yf
      go_wp2_with fail
      go_loopw [5] (fun i wr => TR n3 i fun k => ∃ u3, PB w2 w2.heap.size p.kind p.text p.items.reverse (p.pairs.reverse.take k) [] wr u2 u3 (.slice none 0 0))
        (fun i _ => (intOf i + 1).toNat)
      case atStart => exact ⟨0, n3, by omega, by go_num, _, HPI.out⟩
      case round =>
        obtain ⟨k, m, hkm, rfl, u3, hP⟩ := hrel
        clear e2 e3 e4 y2 y3 y4 HPI
        obtain ⟨e2, e3, e4⟩ := HDC.out _ _ _ _ _ _ _ hP
        obtain ⟨y2, y3, y4, yf⟩ := hP.cells
        cases m with
        | succ m =>
          rw [show ((m + 1 : Nat) : Int) - 1 = (m : Int) by omega]
          obtain ⟨s, hs⟩ : ∃ s, p.pairs[m]? = some s := ⟨_, List.getElem?_eq_getElem (by rw [HN3.out]; omega)⟩
          obtain ⟨x, rfl, hx2, hx3⟩ := Rd.two (HPLA.out _ _ _ _ _ _ _ hP).pairs (fun x => .string ⟨x.1.toArray⟩) (fun x => .string ⟨x.2.toArray⟩) (fun _ => rfl) hs
          have hx3' : wr.cell? ⟨(x.add (m * 2)).block, (x.add (m * 2)).off + 1, none⟩ = some (.string ⟨s.2.toArray⟩) := hx3
          have hlen : (p.pairs.reverse.take k).length = k := rev_take_length (m := m + 1) (by rw [HN3.out]; exact hkm)
          have htk := rev_take (k := k) (by rw [HN3.out]; exact hkm) s hs
          obtain ⟨g, cap, w7, hr7, q1, q2, q3⟩ := hP.add3 s (by rw [hlen]; omega)
          rw [hlen] at hr7 q3
          rw [← htk] at q3
          have HQ := Lib.hid q3
          obtain ⟨-, y3a, -, -⟩ := (hP.alloc (.cells #[.string ⟨s.1.toArray⟩, .string ⟨s.2.toArray⟩] 43)).cells
          clear hlen htk q3 hs yf hP
          go_wp2_with fail
          go_region_with (fail)
          all_goals
            go_wp2_with fail
            go_roundw
            case rel => first | exact ⟨k + 1, m, by omega, by go_num, _, HQ.out⟩ | (refine ⟨_, _, _, _, _, _, _, _, _, _, _, _, _, _, _, ?_, rfl⟩; exact ⟨k + 1, m, by omega, by go_num, _, HQ.out⟩)
            case measure => simp [intOf]
        | zero =>
          obtain rfl : n3 = k := by omega
          rw [rev_take_all (by rw [HN3.out]; exact hkm)] at hP
          have HPI := Lib.hid hP
          clear hP hkm yf
          go_wp2_with fail
          go_loopw [6] (fun i wr => TR n4 i fun k => ∃ u4, PB w2 w2.heap.size p.kind p.text p.items.reverse p.pairs.reverse (p.ranks.reverse.take k) wr u2 u3 u4)
            (fun i _ => (intOf i + 1).toNat)
          case atStart => exact ⟨0, n4, by omega, by go_num, _, HPI.out⟩
          case round =>
            obtain ⟨k, m, hkm, rfl, u4, hP⟩ := hrel
            clear e2 e3 e4 y2 y3 y4 HPI
            obtain ⟨e2, e3, e4⟩ := HDC.out _ _ _ _ _ _ _ hP
            obtain ⟨y2, y3, y4, yf⟩ := hP.cells
            cases m with
            | succ m =>
              rw [show ((m + 1 : Nat) : Int) - 1 = (m : Int) by omega]
              obtain ⟨s, hs⟩ : ∃ s, p.ranks[m]? = some s := ⟨_, List.getElem?_eq_getElem (by rw [HN4.out]; omega)⟩
              obtain ⟨x, rfl, hx2, hx3⟩ := Rd.two (HPLA.out _ _ _ _ _ _ _ hP).ranks (fun x => .string ⟨x.1.toArray⟩) (fun x => .float .f64 x.2) (fun _ => rfl) hs
              have hx3' : wr.cell? ⟨(x.add (m * 2)).block, (x.add (m * 2)).off + 1, none⟩ = some (.float .f64 s.2) := hx3
              have hlen : (p.ranks.reverse.take k).length = k := rev_take_length (m := m + 1) (by rw [HN4.out]; exact hkm)
              have htk := rev_take (k := k) (by rw [HN4.out]; exact hkm) s hs
              obtain ⟨g, cap, w7, hr7, q1, q2, q3⟩ := hP.add4 s (by rw [hlen]; omega)
              rw [hlen] at hr7 q3
              rw [← htk] at q3
              have HQ := Lib.hid q3
              obtain ⟨-, -, y4a, -⟩ := (hP.alloc (.cells #[.string ⟨s.1.toArray⟩, .float .f64 s.2] 46)).cells
              clear hlen htk q3 hs yf hP
              go_wp2_with fail
              go_region_with (fail)
              all_goals
                go_wp2_with fail
                go_roundw
                case rel => first | exact ⟨k + 1, m, by omega, by go_num, _, HQ.out⟩ | (refine ⟨_, _, _, _, _, _, _, _, _, _, _, _, _, _, _, ?_, rfl⟩; exact ⟨k + 1, m, by omega, by go_num, _, HQ.out⟩)
                case measure => simp [intOf]
            | zero =>
              obtain rfl : n4 = k := by omega
              rw [rev_take_all (by rw [HN4.out]; exact hkm)] at hP
              obtain ⟨b1, b2, b3, l1, l2, l3, rfl, rfl, rfl, hpl, hne⟩ := hP.told
              have hq2 : p.items.reverse.length = n2 := by rw [List.length_reverse]; exact HN2.out
              have hq3 : p.pairs.reverse.length = n3 := by rw [List.length_reverse]; exact HN3.out
              have hq4 : p.ranks.reverse.length = n4 := by rw [List.length_reverse]; exact HN4.out
              rw [hq2, hq3, hq4] at hP
              obtain ⟨z0, z1, z2, z3, z4⟩ := (fiveP hP.blk).1
              have hRw : wr.heap[w.heap.size + 1]? = some (.cells #[.int .i64 0, .string ⟨#[]⟩, .slice none 0 0, .slice none 0 0, .slice none 0 0] 31) := (hP.below.block (w.heap.size + 1) (by have := HS2.out; omega)).trans HRb.out
              rw [← HS1.out] at hRw
              obtain ⟨⟨g0, g1, g2, g3, g4⟩, gf⟩ := fiveP hRw
              have gz0 := gf 0; have gz1 := gf 1; have gz2 := gf 2; have gz3 := gf 3; have gz4 := gf 4
              have hrow := fill5_row hRw (.int .i64 p.kind) (.string ⟨p.text.toArray⟩) (.slice b1 n2 l1) (.slice b2 n3 l2) (.slice b3 n4 l3)
              have hPT : Hid (ToldPost (turnP p) w (.returned (.agg (Tryz.plainCells (turnP p) b1 b2 b3 l1 l2 l3))) (fill5 wr w1.heap.size (.int .i64 p.kind) (.string ⟨p.text.toArray⟩) (.slice b1 n2 l1) (.slice b2 n3 l2) (.slice b3 n4 l3))) := Lib.hid (by
                have hcR := fill5_chg wr w1.heap.size (.int .i64 p.kind) (.string ⟨p.text.toArray⟩) (.slice b1 n2 l1) (.slice b2 n3 l2) (.slice b3 n4 l3)
                have hbw : Below w.heap.size w wr := HB2.out.trans (hP.below.mono HB2.out.size)
                have hd1 := HS1.out
                refine ⟨b1, b2, b3, l1, l2, l3, rfl, ⟨hcR.rd hpl.items fun x hx e => ?_, hcR.rd hpl.pairs fun x hx e => ?_, hcR.rd hpl.ranks fun x hx e => ?_⟩, hbw.trans (hcR.below hbw.size fun k e => by omega)⟩
                · exact row_not (X := w1.heap.size) hP.r2 hRw (by decide) (by subst hx; exact congrArg some e)
                · exact row_not (X := w1.heap.size) hP.r3 hRw (by decide) (by subst hx; exact congrArg some e)
                · exact row_not (X := w1.heap.size) hP.r4 hRw (by decide) (by subst hx; exact congrArg some e))
              clear hP hpl hne hRw gf hkm e2 e3 e4 y2 y3 y4 yf
              go_wp2_with fail
              obtain ⟨⟨g0, g1, g2, g3, g4⟩, -⟩ := fiveP hrow
              have hq := hPT.out
              unfold fill5 at hq g0 g1 g2 g3 g4
              rw [show Tryz.plainCells (turnP p) b1 b2 b3 l1 l2 l3 = #[.int .i64 p.kind, .string ⟨p.text.toArray⟩, .slice b1 n2 l1, .slice b2 n3 l2, .slice b3 n4 l3] from by simp [Tryz.plainCells, turnP, HN2.out, HN3.out, HN4.out]] at hq
              refine bodyPost_ret (v := .agg #[.int .i64 p.kind, .string ⟨p.text.toArray⟩, .slice b1 n2 l1, .slice b2 n3 l2, .slice b3 n4 l3]) ?_ rfl hq
              simp [results, Tryz.f11, go_sem, g0, g1, g2, g3, g4]
end Go.Proofs.YtipehdbpbmnonaaGreat
