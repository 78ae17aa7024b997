/- A dict: two tables of chains; its plain laws; a dict in memory. -/
import Derived.Test.YtbjfigegiffefaaDHang
set_option linter.unusedVariables false
set_option linter.unusedSimpArgs false
namespace Pantry
open Go Go.RowKit
theorem nodup_inj {l : List Nat} (h : l.Nodup) {i j g : Nat} (hi : l[i]? = some g) (hj : l[j]? = some g) : i = j := by
  obtain ⟨a, ha⟩ := List.getElem?_eq_some_iff.1 hi
  obtain ⟨b, hb⟩ := List.getElem?_eq_some_iff.1 hj
  have hp := List.pairwise_iff_getElem.1 h
  rcases Nat.lt_trichotomy i j with h1 | h1 | h1
  · exact absurd (ha.trans hb.symm) (hp i j a b h1)
  · exact h1
  · exact absurd (hb.trans ha.symm) (hp j i b a h1)
structure Dc where
  seed : Nat
  bo : Nat
  T : List (List DE)
  bn : Nat
  Y : List (List DE)
  pos : Nat
def Dc.ents (D : Dc) : List DE := D.T.flatten ++ D.Y.flatten
def Placed (seed : Nat) (T : List (List DE)) : Prop := ∀ i c x, T[i]? = some c → x ∈ c → dslotN seed x.key T.length = i
structure Dc.Wf (D : Dc) : Prop where
  seed : D.seed < 18446744073709551616
  keys : (D.ents.map (·.key)).Nodup
  blocks : (D.ents.map (·.b)).Nodup
  text : ∀ e ∈ D.ents, e.key.length ≤ 140737488351232
  few : D.ents.length ≤ 1099511627776
  placeT : Placed D.seed D.T
  placeY : Placed D.seed D.Y
  past : ∀ i c, i < D.pos → D.T[i]? = some c → c = []
  still : D.Y = [] → D.pos = 0
  moves : D.Y ≠ [] → D.pos < D.T.length
theorem flat_at {T : List (List DE)} {i : Nat} {c : List DE} (h : T[i]? = some c) : ∃ A B, T.flatten = A ++ (c ++ B) ∧ ∀ c', (T.set i c').flatten = A ++ (c' ++ B) := by
  induction T generalizing i with
  | nil => cases h
  | cons x T ih =>
    cases i with
    | zero =>
      simp at h; subst h
      exact ⟨[], T.flatten, by simp, fun c' => by simp⟩
    | succ i =>
      obtain ⟨A, B, h1, h2⟩ := ih (by simpa using h)
      exact ⟨x ++ A, B, by simp [h1], fun c' => by simp [h2]⟩
theorem hang_at {seed : Nat} {T : List (List DE)} (h : T ≠ []) (e : DE) : ∃ c, T[dslotN seed e.key T.length]? = some c ∧ hangT seed T e = T.set (dslotN seed e.key T.length) (e :: c) := by
  obtain ⟨c, hc⟩ := slot_get (seed := seed) h e.key
  exact ⟨c, hc, by rw [hangT, hc]; rfl⟩
theorem hang_perm {seed : Nat} {T : List (List DE)} (h : T ≠ []) (e : DE) : (hangT seed T e).flatten.Perm (e :: T.flatten) := by
  obtain ⟨c, hc, hh⟩ := hang_at (seed := seed) h e
  obtain ⟨A, B, h1, h2⟩ := flat_at hc
  rw [hh, h2, h1]
  simp only [List.cons_append]
  exact List.perm_middle
theorem hang_placed {seed : Nat} {T : List (List DE)} (h : T ≠ []) (hp : Placed seed T) (e : DE) : Placed seed (hangT seed T e) := by
  obtain ⟨c, hc, hh⟩ := hang_at (seed := seed) h e
  intro i c' x hi hx
  rw [hangT_length]
  rw [hh, List.getElem?_set] at hi
  split at hi
  · rename_i hs
    split at hi
    · cases hi
      rcases List.mem_cons.1 hx with rfl | hx
      · exact hs
      · rw [← hs]; exact hp _ _ _ hc hx
    · cases hi
  · exact hp _ _ _ hi hx
theorem hangs_ne {seed : Nat} {T : List (List DE)} (h : T ≠ []) (c : List DE) : c.foldl (hangT seed) T ≠ [] := by
  induction c generalizing T with
  | nil => exact h
  | cons e c ih => exact ih (hangT_ne h)
theorem hangs_length (seed : Nat) (T : List (List DE)) (c : List DE) : (c.foldl (hangT seed) T).length = T.length := by
  induction c generalizing T with
  | nil => rfl
  | cons e c ih => exact (ih _).trans (hangT_length _ _ _)
theorem hangs_perm {seed : Nat} {T : List (List DE)} (h : T ≠ []) (c : List DE) : (c.foldl (hangT seed) T).flatten.Perm (c ++ T.flatten) := by
  induction c generalizing T with
  | nil => exact List.Perm.refl _
  | cons e c ih =>
    refine (ih (hangT_ne h)).trans ?_
    refine ((hang_perm h e).append_left c).trans ?_
    rw [List.cons_append]
    exact List.perm_middle
theorem hangs_placed {seed : Nat} {T : List (List DE)} (h : T ≠ []) (hp : Placed seed T) (c : List DE) : Placed seed (c.foldl (hangT seed) T) := by
  induction c generalizing T with
  | nil => exact hp
  | cons e c ih => exact ih (hangT_ne h) (hang_placed h hp e)
theorem hangs_snoc (seed : Nat) (T : List (List DE)) (c : List DE) (e : DE) : (c ++ [e]).foldl (hangT seed) T = hangT seed (c.foldl (hangT seed) T) e := by simp
/-- The same entries: well formed. -/
theorem Dc.Wf.perm {D D' : Dc} (h : D.Wf) (hs : D'.seed = D.seed) (hp : D'.ents.Perm D.ents) (h1 : Placed D.seed D'.T) (h2 : Placed D.seed D'.Y) (h3 : ∀ i c, i < D'.pos → D'.T[i]? = some c → c = []) (h4 : D'.Y = [] → D'.pos = 0) (h5 : D'.Y ≠ [] → D'.pos < D'.T.length) : D'.Wf :=
  ⟨hs ▸ h.seed, (hp.map _).nodup_iff.2 h.keys, (hp.map _).nodup_iff.2 h.blocks, fun e he => h.text e (hp.mem_iff.1 he), hp.length_eq ▸ h.few, hs ▸ h1, hs ▸ h2, h3, h4, h5⟩
def Dc.withPos (D : Dc) (a : Nat) : Dc := { D with pos := a }
/-- A bucket has been moved. -/
def Dc.moved (D : Dc) (c : List DE) : Dc := { D with T := D.T.set D.pos [], Y := c.foldl (hangT D.seed) D.Y, pos := D.pos + 1 }
/-- The second table has become the first. -/
def Dc.swapped (D : Dc) : Dc := { D with bo := D.bn, T := D.Y, Y := [], pos := 0 }
theorem Dc.moved_perm {D : Dc} {c : List DE} (hc : D.T[D.pos]? = some c) (hY : D.Y ≠ []) : (D.moved c).ents.Perm D.ents := by
  obtain ⟨A, B, h1, h2⟩ := flat_at hc
  unfold Dc.moved Dc.ents
  rw [h2, h1]
  refine ((hangs_perm hY c).append_left _).trans ?_
  simp only [List.nil_append, List.append_assoc]
  refine List.Perm.append_left A ?_
  rw [← List.append_assoc, ← List.append_assoc]
  exact List.Perm.append_right _ List.perm_append_comm
theorem placed_set_nil {seed : Nat} {T : List (List DE)} (h : Placed seed T) (i : Nat) : Placed seed (T.set i []) := by
  intro j c x hj hx
  rw [List.getElem?_set] at hj
  rw [List.length_set]
  split at hj
  · split at hj
    · cases hj; cases hx
    · cases hj
  · exact h j c x hj hx
theorem past_flat {T : List (List DE)} (h : ∀ i c, i < T.length → T[i]? = some c → c = []) : T.flatten = [] := by
  rw [List.flatten_eq_nil_iff]
  intro c hc
  obtain ⟨i, hi, rfl⟩ := List.mem_iff_getElem.1 hc
  exact h i _ hi (List.getElem?_eq_getElem hi)
/-- A dict whose first table may have been gone through to its end: between two statements of step. -/
structure Dc.Mid (D : Dc) : Prop where
  seed : D.seed < 18446744073709551616
  keys : (D.ents.map (·.key)).Nodup
  blocks : (D.ents.map (·.b)).Nodup
  text : ∀ e ∈ D.ents, e.key.length ≤ 140737488351232
  few : D.ents.length ≤ 1099511627776
  placeT : Placed D.seed D.T
  placeY : Placed D.seed D.Y
  past : ∀ i c, i < D.pos → D.T[i]? = some c → c = []
  young : D.Y ≠ []
  le : D.pos ≤ D.T.length
theorem Dc.Wf.mid {D : Dc} (h : D.Wf) (hY : D.Y ≠ []) : D.Mid := ⟨h.seed, h.keys, h.blocks, h.text, h.few, h.placeT, h.placeY, h.past, hY, Nat.le_of_lt (h.moves hY)⟩
theorem Dc.Mid.wf {D : Dc} (h : D.Mid) (hl : D.pos < D.T.length) : D.Wf := ⟨h.seed, h.keys, h.blocks, h.text, h.few, h.placeT, h.placeY, h.past, fun e => absurd e h.young, fun _ => hl⟩
theorem Dc.Mid.passed {D : Dc} (h : D.Mid) (hc : D.T[D.pos]? = some []) : (D.withPos (D.pos + 1)).Mid := by
  refine ⟨h.seed, h.keys, h.blocks, h.text, h.few, h.placeT, h.placeY, ?_, h.young, ?_⟩
  · intro i c hi hg
    have hi' : i < D.pos + 1 := hi
    by_cases e : i = D.pos
    · subst e
      have : D.T[D.pos]? = some c := hg
      rw [hc] at this; cases this; rfl
    · exact h.past i c (by omega) hg
  · exact (List.getElem?_eq_some_iff.1 hc).1
theorem Dc.Mid.moved {D : Dc} (h : D.Mid) {c : List DE} (hc : D.T[D.pos]? = some c) : (D.moved c).Mid ∧ (D.moved c).ents.Perm D.ents := by
  have hp := Dc.moved_perm hc h.young
  have hl := (List.getElem?_eq_some_iff.1 hc).1
  refine ⟨⟨h.seed, (hp.map _).nodup_iff.2 h.keys, (hp.map _).nodup_iff.2 h.blocks, fun e he => h.text e (hp.mem_iff.1 he), hp.length_eq ▸ h.few, placed_set_nil h.placeT _, hangs_placed h.young h.placeY c, ?_, hangs_ne h.young c, ?_⟩, hp⟩
  · intro i c' hi hg
    have hi' : i < D.pos + 1 := hi
    have hg' : (D.T.set D.pos [])[i]? = some c' := hg
    rw [List.getElem?_set] at hg'
    by_cases hne : D.pos = i
    · rw [if_pos hne] at hg'
      split at hg' <;> cases hg' <;> rfl
    · rw [if_neg hne] at hg'
      exact h.past i c' (by omega) hg'
  · show D.pos + 1 ≤ (D.T.set D.pos []).length
    rw [List.length_set]; omega
theorem Dc.Mid.swapped {D : Dc} (h : D.Mid) (he : D.pos = D.T.length) : D.swapped.Wf ∧ D.swapped.ents = D.ents := by
  have h0 : D.T.flatten = [] := past_flat fun i c hi hg => h.past i c (by omega) hg
  have e : D.swapped.ents = D.ents := by unfold Dc.swapped Dc.ents; rw [h0]; simp
  refine ⟨⟨h.seed, e ▸ h.keys, e ▸ h.blocks, e ▸ h.text, e ▸ h.few, h.placeY, fun i c x hi => (by have hi' : ([] : List (List DE))[i]? = some c := hi; simp at hi'), fun i c hi => absurd hi (Nat.not_lt_zero i), fun _ => rfl, fun hh => absurd rfl hh⟩, e⟩
end Pantry
namespace Go.Proofs.Ytbjfigegiffefaa
open Go.RowKit Pantry

/-- Block d is the dict D. -/
structure DictAt (w : World) (d : Nat) (D : Dc) : Prop where
  head : w.heap[d]? = some (.cells #[.int .u64 D.seed, tabV D.bo D.T, tabV D.bn D.Y, .int .i64 D.pos, .int .i64 (D.ents.length : Nat)] 101)
  old : TabAt w D.bo D.T
  young : TabAt w D.bn D.Y
  chT : ∀ c ∈ D.T, ChainAt w c
  chY : ∀ c ∈ D.Y, ChainAt w c
  ne : D.T ≠ [] → D.Y ≠ [] → D.bo ≠ D.bn
def DFoot (d : Nat) (D : Dc) (k : Nat) : Prop := k = d ∨ (D.T ≠ [] ∧ k = D.bo) ∨ (D.Y ≠ [] ∧ k = D.bn) ∨ ∃ e ∈ D.ents, k = e.b
theorem DictAt.keep {w w' : World} {d : Nat} {D : Dc} (h : DictAt w d D) (hk : ∀ k, DFoot d D k → w'.heap[k]? = w.heap[k]?) : DictAt w' d D :=
  ⟨(hk d (.inl rfl)).trans h.head, h.old.keep fun hne => hk _ (.inr (.inl ⟨hne, rfl⟩)), h.young.keep fun hne => hk _ (.inr (.inr (.inl ⟨hne, rfl⟩))),
    fun c hc => (h.chT c hc).keep fun e he => hk _ (.inr (.inr (.inr ⟨e, List.mem_append.2 (.inl (List.mem_flatten.2 ⟨c, hc, he⟩)), rfl⟩))),
    fun c hc => (h.chY c hc).keep fun e he => hk _ (.inr (.inr (.inr ⟨e, List.mem_append.2 (.inr (List.mem_flatten.2 ⟨c, hc, he⟩)), rfl⟩))), h.ne⟩
theorem DictAt.ent {w : World} {d : Nat} {D : Dc} (h : DictAt w d D) {e : DE} (he : e ∈ D.ents) : ∃ q, w.heap[e.b]? = some (.cells #[.string ⟨e.key.toArray⟩, e.val, q] 97) := by
  rcases List.mem_append.1 he with he | he
  · obtain ⟨c, hc, hx⟩ := List.mem_flatten.1 he
    exact (h.chT c hc).mem hx
  · obtain ⟨c, hc, hx⟩ := List.mem_flatten.1 he
    exact (h.chY c hc).mem hx
theorem DictAt.lt {w : World} {d : Nat} {D : Dc} (h : DictAt w d D) : ∀ k, DFoot d D k → k < w.heap.size := by
  rintro k (rfl | ⟨hne, rfl⟩ | ⟨hne, rfl⟩ | ⟨e, he, rfl⟩)
  · exact block_lt h.head
  · exact block_lt (h.old.cells hne)
  · exact block_lt (h.young.cells hne)
  · obtain ⟨q, hq⟩ := h.ent he
    exact block_lt hq
theorem DictAt.chg {w w' : World} {d : Nat} {D : Dc} {S : Nat → Prop} (h : DictAt w d D) (hc : Chg S w w') (hS : ∀ k, DFoot d D k → ¬ S k) : DictAt w' d D :=
  h.keep fun k hk => hc.block k (h.lt k hk) (hS k hk)
theorem five {w : World} {g : Nat} {c0 c1 c2 c3 c4 : Value} {t : TypeId} (h : w.heap[g]? = some (.cells #[c0, c1, c2, c3, c4] t)) :
    (w.cell? ⟨g, 0, none⟩ = some c0 ∧ w.cell? ⟨g, 1, none⟩ = some c1 ∧ w.cell? ⟨g, 2, none⟩ = some c2 ∧ w.cell? ⟨g, 3, none⟩ = some c3 ∧ w.cell? ⟨g, 4, none⟩ = some c4) ∧ ∀ j, w.frozen? ⟨g, j, none⟩ = false := by
  refine ⟨⟨?_, ?_, ?_, ?_, ?_⟩, fun j => frozen_of_row w g j _ _ h⟩ <;> rw [cell_of_row w g _ _ _ _ h] <;> rfl
theorem DictAt.ne_ent {w : World} {d : Nat} {D : Dc} (h : DictAt w d D) {e : Nat} {c : Array Value} (he : w.heap[e]? = some (.cells c 97)) : e ≠ d := types_ne he h.head (by decide)
theorem DictAt.ne_old {w : World} {d : Nat} {D : Dc} (h : DictAt w d D) (hne : D.T ≠ []) : D.bo ≠ d := types_ne (h.old.cells hne) h.head (by decide)
theorem DictAt.ne_young {w : World} {d : Nat} {D : Dc} (h : DictAt w d D) (hne : D.Y ≠ []) : D.bn ≠ d := types_ne (h.young.cells hne) h.head (by decide)
/-- Cells of the head have been written. -/
theorem DictAt.reset {w w' : World} {d : Nat} {D D' : Dc} (h : DictAt w d D) (hh : w'.heap[d]? = some (.cells #[.int .u64 D'.seed, tabV D'.bo D'.T, tabV D'.bn D'.Y, .int .i64 D'.pos, .int .i64 (D'.ents.length : Nat)] 101))
    (ho : ∀ k, k ≠ d → w'.heap[k]? = w.heap[k]?) (h1 : D'.bo = D.bo) (h2 : D'.T = D.T) (h3 : D'.bn = D.bn) (h4 : D'.Y = D.Y) : DictAt w' d D' := by
  refine ⟨hh, ?_, ?_, ?_, ?_, ?_⟩
  · rw [h1, h2]; exact h.old.keep fun hne => ho _ (h.ne_old hne)
  · rw [h3, h4]; exact h.young.keep fun hne => ho _ (h.ne_young hne)
  · rw [h2]; exact fun c hc => (h.chT c hc).keep fun e he => by
      obtain ⟨q, hq⟩ := (h.chT c hc).mem he
      exact ho _ (h.ne_ent hq)
  · rw [h4]; exact fun c hc => (h.chY c hc).keep fun e he => by
      obtain ⟨q, hq⟩ := (h.chY c hc).mem he
      exact ho _ (h.ne_ent hq)
  · rw [h1, h2, h3, h4]; exact h.ne
theorem DictAt.setPos {w : World} {d : Nat} {D : Dc} (h : DictAt w d D) (a : Nat) : DictAt (w.setCell ⟨d, 3, none⟩ (.int .i64 a)) d (D.withPos a) :=
  h.reset (by rw [heapSetHere h.head]; rfl) (fun k hk => heapSetOther (p := ⟨d, 3, none⟩) hk) rfl rfl rfl rfl
end Go.Proofs.Ytbjfigegiffefaa
