/- Ranks of the law's own, in a state; answers where the members are known. -/
import Derived.Test.YtbjfigegiffefaaRkFun
set_option linter.unusedVariables false
set_option linter.unusedSimpArgs false
namespace Pantry
open Go Go.RowKit
theorem rd_block {w : World} {g : Nat} {cs : List Value} {t : TypeId} (h : w.heap[g]? = some (.cells cs.toArray t)) (h1 : ∀ u ∈ cs, u.oneCell' = true) : Rd w (some ⟨g, 0, none⟩) cs := by
  intro j u hj
  refine ⟨h1 u (List.mem_of_getElem? hj), _, rfl, row_cells h j u hj⟩
theorem countP_upto {l : List Mb} {P : Mb → Bool} {i : Nat} (hi : i ≤ l.length) (h1 : ∀ k p, k < i → l[k]? = some p → P p = true) (h2 : ∀ k p, i ≤ k → l[k]? = some p → P p = false) : i = l.countP P := by
  have e : l = l.take i ++ l.drop i := (List.take_append_drop _ _).symm
  rw [e, List.countP_append]
  have h3 : (l.take i).countP P = i := by
    rw [List.countP_eq_length.2]
    · rw [List.length_take]; omega
    · intro q hq
      obtain ⟨k, hk, rfl⟩ := List.mem_iff_getElem.1 hq
      rw [List.length_take] at hk
      rw [List.getElem_take]
      exact h1 k l[k] (by omega) (List.getElem?_eq_getElem (by omega))
  have h4 : (l.drop i).countP P = 0 := by
    rw [List.countP_eq_zero]
    intro q hq
    obtain ⟨k, hk, rfl⟩ := List.mem_iff_getElem.1 hq
    rw [List.length_drop] at hk
    rw [List.getElem_drop]
    simp [h2 (i + k) l[i + k] (by omega) (List.getElem?_eq_getElem (by omega))]
  omega
def withinL (l : List Mb) (a : Nat) (oa : Bool) (b : Nat) (ob : Bool) : Nat × Nat :=
  if fnan a ∨ fnan b then (0, 0) else (l.countP (fun p => withinF p.2 ninfB false a (!oa)), max (l.countP fun p => withinF p.2 ninfB false a (!oa)) (l.countP fun p => withinF p.2 ninfB false b ob))
end Pantry
namespace Go.Proofs.Ytbjfigegiffefaa
open Go.RowKit Pantry

theorem blk_cells {w : World} {g : Nat} {l : List Mb} {t : TypeId} (h : w.heap[g]? = some (.cells (rkCells l).toArray t)) {j : Nat} {p : Mb} (hj : l[j]? = some p) : w.cell? ⟨g, j * 2, none⟩ = some (.string ⟨p.1.toArray⟩) ∧ w.cell? ⟨g, j * 2 + 1, none⟩ = some (.float .f64 p.2) := by
  have h0 := rkCells_get hj 0 (by omega)
  have h1 := rkCells_get hj 1 (by omega)
  refine ⟨?_, ?_⟩
  · rw [cell_of_row w g _ _ _ _ h]
    simpa [mbC] using h0
  · rw [cell_of_row w g _ _ _ _ h]
    simpa [mbC] using h1
theorem WithinPost.fn {l : List Mb} {a : Nat} {oa : Bool} {b : Nat} {ob : Bool} {w : World} {e : Ending} {w' : World} (h : WithinPost l a oa b ob w e w') :
    e = .returned (.tuple #[.int .i64 (withinL l a oa b ob).1, .int .i64 (withinL l a oa b ob).2]) ∧ Below w.heap.size w w' := by
  refine ⟨?_, h.2⟩
  unfold withinL
  rcases h.1 with ⟨hn, rfl⟩ | ⟨ha, hb, i, j, hi, hj, rfl⟩
  · rw [if_pos hn]; rfl
  · rw [if_neg (fun hh => hh.elim ha hb)]
    rw [← countP_upto hi.le (fun k p h1 h2 => hi.lo k p h1 h2) (fun k p h1 h2 => hi.hi k p h1 h2), ← countP_upto hj.le (fun k p h1 h2 => hj.lo k p h1 h2) (fun k p h1 h2 => hj.hi k p h1 h2)]
/-- Ranks that the law has made; what lies in the blocks N is none of theirs. -/
def St (w : World) (r : Nat) (l : List Mb) (N : Nat → Prop) (wr : World) : Prop :=
  ∃ S, Rk wr r S l ∧ (∀ k, S k → w.heap.size ≤ k) ∧ Below w.heap.size w wr ∧ (∀ k, S k → ¬ N k) ∧ ∀ k, N k → k < wr.heap.size
def Stay (N : Nat → Prop) (w w' : World) : Prop := w.heap.size ≤ w'.heap.size ∧ ∀ k, N k → w'.heap[k]? = w.heap[k]?
theorem Stay.trans {N : Nat → Prop} {a b c : World} (h : Stay N a b) (k : Stay N b c) : Stay N a c := ⟨Nat.le_trans h.1 k.1, fun j hj => (k.2 j hj).trans (h.2 j hj)⟩
theorem St.to {w : World} {r : Nat} {l l' : List Mb} {N : Nat → Prop} {wr w' : World} {S : Nat → Prop} (h : RkTo r S l' wr w') (h2 : ∀ k, S k → w.heap.size ≤ k) (h3 : Below w.heap.size w wr) (h4 : ∀ k, S k → ¬ N k) (h5 : ∀ k, N k → k < wr.heap.size) : St w r l' N w' ∧ Stay N wr w' := by
  obtain ⟨⟨S', hr, hS'⟩, hc⟩ := h
  have hb := h3.trans (hc.below h3.size h2)
  refine ⟨⟨S', hr, fun k hk => (hS' k hk).elim (h2 k) fun hh => Nat.le_trans h3.size hh, hb, fun k hk hN => ?_, fun k hk => Nat.lt_of_lt_of_le (h5 k hk) hc.size⟩, hc.size, fun k hk => hc.block k (h5 k hk) fun hs => h4 k hs hk⟩
  rcases hS' k hk with hh | hh
  · exact h4 k hh hN
  · have := h5 k hN; omega
theorem St.q {w : World} {r : Nat} {l : List Mb} {N : Nat → Prop} {wr w' : World} {S : Nat → Prop} (h : RkQ r S l wr w') (h2 : ∀ k, S k → w.heap.size ≤ k) (h3 : Below w.heap.size w wr) (h4 : ∀ k, S k → ¬ N k) (h5 : ∀ k, N k → k < wr.heap.size) : St w r l N w' ∧ Stay N wr w' :=
  ⟨⟨S, h.at_, h2, h3.trans (h.chg.below h3.size h2), h4, fun k hk => Nat.lt_of_lt_of_le (h5 k hk) h.chg.size⟩, h.chg.size, fun k hk => h.chg.block k (h5 k hk) fun hs => h4 k hs hk⟩
theorem St.below {w : World} {r : Nat} {l : List Mb} {N : Nat → Prop} {wr w' : World} (h : St w r l N wr) (hb : Below wr.heap.size wr w') : St w r l N w' := by
  obtain ⟨S, h1, h2, h3, h4, h5⟩ := h
  exact ⟨S, h1.below hb, h2, h3.trans (hb.mono h3.size), h4, fun k hk => Nat.lt_of_lt_of_le (h5 k hk) hb.size⟩
theorem St.under {w : World} {r : Nat} {l : List Mb} {N : Nat → Prop} {wr : World} (h : St w r l N wr) : Below w.heap.size w wr := by
  obtain ⟨S, h1, h2, h3, h4, h5⟩ := h
  exact h3
theorem St.own {w : World} {r : Nat} {l : List Mb} {N : Nat → Prop} {wr : World} (h : St w r l N wr) : ∀ k, N k → k < wr.heap.size := by
  obtain ⟨S, h1, h2, h3, h4, h5⟩ := h
  exact h5
/-- Other blocks are watched: what is not of the ranks. -/
theorem St.watch {w : World} {r : Nat} {l : List Mb} {N M : Nat → Prop} {wr w' : World} (h : St w r l N wr) (hb : Below wr.heap.size wr w') (hM : ∀ k, M k → (wr.heap.size ≤ k ∨ N k) ∧ k < w'.heap.size) : St w r l M w' := by
  obtain ⟨S, h1, h2, h3, h4, h5⟩ := h
  refine ⟨S, h1.below hb, h2, h3.trans (hb.mono h3.size), fun k hk hM2 => ?_, fun k hk => (hM k hk).2⟩
  rcases (hM k hM2).1 with hh | hh
  · have := h1.lt k hk; omega
  · exact h4 k hk hh
theorem St.made {w : World} {r : Nat} {S : Nat → Prop} {l : List Mb} {w1 w2 : World} (h0 : Below w.heap.size w w1) (hr : Rk w2 r S l) (hb : Below w1.heap.size w1 w2) (hS : ∀ k, S k → w1.heap.size ≤ k) : St w r l (fun _ => False) w2 :=
  ⟨S, hr, fun k hk => Nat.le_trans h0.size (hS k hk), h0.trans (hb.mono h0.size), fun _ _ h => h, fun _ h => h.elim⟩
section
variable {w : World} {r : Nat} {l : List Mb} {N : Nat → Prop} {wr : World}
theorem St.set (h : St w r l N wr) (key : List UInt8) (x : Nat) (hs : key.length ≤ 140737488351232) :
    Calls Try.prog 19 #[.pointer (some ⟨r, 0, none⟩), .string ⟨key.toArray⟩, .float .f64 x] wr fun e w' => (∃ l' new code, SetC l key x l' new code ∧ e = .returned (.tuple #[.bool new, .int .i64 code]) ∧ St w r l' N w') ∧ Stay N wr w' := by
  obtain ⟨S, h1, h2, h3, h4, h5⟩ := h
  refine (h1.set key x hs).mono ?_
  rintro e w' ⟨l', new, code, q1, q2, q3⟩
  have := St.to (l := l) q3 h2 h3 h4 h5
  exact ⟨⟨l', new, code, q1, q2, this.1⟩, this.2⟩
theorem St.setK (h : St w r l N wr) (key : List UInt8) (x : Nat) (hs : key.length ≤ 140737488351232) {l' : List Mb} {new : Bool} {code : Int} (he : setL l key x = (l', new, code)) :
    Calls Try.prog 19 #[.pointer (some ⟨r, 0, none⟩), .string ⟨key.toArray⟩, .float .f64 x] wr fun e w' => e = .returned (.tuple #[.bool new, .int .i64 code]) ∧ St w r l' N w' ∧ Stay N wr w' := by
  obtain ⟨S, h1, h2, h3, h4, h5⟩ := h
  refine (h1.setK key x hs he).mono ?_
  rintro e w' ⟨q1, q2⟩
  exact ⟨q1, St.to (l := l) q2 h2 h3 h4 h5⟩
theorem St.del (h : St w r l N wr) (key : List UInt8) (hs : key.length ≤ 140737488351232) :
    Calls Try.prog 33 #[.pointer (some ⟨r, 0, none⟩), .string ⟨key.toArray⟩] wr fun e w' => ((∃ (i x : Nat), l[i]? = some (key, x) ∧ e = .returned (.bool true) ∧ St w r (cutR l i) N w') ∨ ((∀ p ∈ l, p.1 ≠ key) ∧ e = .returned (.bool false) ∧ St w r l N w')) ∧ Stay N wr w' := by
  obtain ⟨S, h1, h2, h3, h4, h5⟩ := h
  refine (h1.del key hs).mono ?_
  rintro e w' (⟨i, x, q1, q2, q3⟩ | ⟨q1, q2, q3⟩)
  · have := St.to (l := l) q3 h2 h3 h4 h5
    exact ⟨.inl ⟨i, x, q1, q2, this.1⟩, this.2⟩
  · have := St.to (l := l) q3 h2 h3 h4 h5
    exact ⟨.inr ⟨q1, q2, this.1⟩, this.2⟩
theorem St.rankK (h : St w r l N wr) {i : Nat} (key : List UInt8) (x : Nat) (hi : l[i]? = some (key, x)) (hs : key.length ≤ 140737488351232) :
    Calls Try.prog 14 #[.pointer (some ⟨r, 0, none⟩), .string ⟨key.toArray⟩] wr fun e w' => e = .returned (.tuple #[.int .i64 i, .bool true]) ∧ St w r l N w' ∧ Stay N wr w' := by
  obtain ⟨S, h1, h2, h3, h4, h5⟩ := h
  exact (h1.rankK key x hi hs).mono fun e w' ⟨q1, q2⟩ => ⟨q1, St.q q2 h2 h3 h4 h5⟩
theorem St.scoreK (h : St w r l N wr) {key : List UInt8} {x : Nat} (hi : (key, x) ∈ l) (hs : key.length ≤ 140737488351232) :
    Calls Try.prog 15 #[.pointer (some ⟨r, 0, none⟩), .string ⟨key.toArray⟩] wr fun e w' => e = .returned (.tuple #[.float .f64 x, .bool true]) ∧ St w r l N w' ∧ Stay N wr w' := by
  obtain ⟨S, h1, h2, h3, h4, h5⟩ := h
  exact (h1.scoreK hi hs).mono fun e w' ⟨q1, q2⟩ => ⟨q1, St.q q2 h2 h3 h4 h5⟩
theorem St.rank (h : St w r l N wr) (key : List UInt8) (hs : key.length ≤ 140737488351232) :
    Calls Try.prog 14 #[.pointer (some ⟨r, 0, none⟩), .string ⟨key.toArray⟩] wr fun e w' => ((∃ (i x : Nat), l[i]? = some (key, x) ∧ e = .returned (.tuple #[.int .i64 i, .bool true])) ∨ ((∀ p ∈ l, p.1 ≠ key) ∧ e = .returned (.tuple #[.int .i64 0, .bool false]))) ∧ St w r l N w' ∧ Stay N wr w' := by
  obtain ⟨S, h1, h2, h3, h4, h5⟩ := h
  exact (h1.rank key hs).mono fun e w' ⟨q1, q2⟩ => ⟨q1, St.q q2 h2 h3 h4 h5⟩
theorem St.score (h : St w r l N wr) (key : List UInt8) (hs : key.length ≤ 140737488351232) :
    Calls Try.prog 15 #[.pointer (some ⟨r, 0, none⟩), .string ⟨key.toArray⟩] wr fun e w' => ((∃ x, (key, x) ∈ l ∧ e = .returned (.tuple #[.float .f64 x, .bool true])) ∨ ((∀ p ∈ l, p.1 ≠ key) ∧ e = .returned (.tuple #[.float .f64 0, .bool false]))) ∧ St w r l N w' ∧ Stay N wr w' := by
  obtain ⟨S, h1, h2, h3, h4, h5⟩ := h
  exact (h1.score key hs).mono fun e w' ⟨q1, q2⟩ => ⟨q1, St.q q2 h2 h3 h4 h5⟩
theorem St.len (h : St w r l N wr) : Calls Try.prog 13 #[.pointer (some ⟨r, 0, none⟩)] wr fun e w' => e = .returned (.int .i64 (l.length : Nat)) ∧ wr = w' := by
  obtain ⟨S, h1, -⟩ := h
  exact h1.len
theorem St.cost (h : St w r l N wr) : Calls Try.prog 17 #[.pointer (some ⟨r, 0, none⟩)] wr fun e w' => e = .returned (.int .i64 (rkCost l : Nat)) ∧ wr = w' := by
  obtain ⟨S, h1, -⟩ := h
  exact h1.cost
theorem St.good (h : St w r l N wr) : RkGood l := by
  obtain ⟨S, h1, -⟩ := h
  exact h1.good
theorem St.keys (h : St w r l N wr) : (l.map (·.1)).Nodup := by
  obtain ⟨S, h1, -⟩ := h
  exact h1.keys
def RowPost (n : Nat) (m : List Mb) (wr : World) (e : Ending) (w' : World) : Prop := ∃ a c, e = .returned (.slice a n c) ∧ Rd w' a (rkCells m) ∧ (∀ y, a = some y → wr.heap.size ≤ y.block ∧ y.block < w'.heap.size) ∧ Below wr.heap.size wr w'
theorem own_block {w : World} {B e : Nat} {size n c : Nat} {a : Option Addr} {xs : List Value} (h : w.ownsRow B e size (.slice a n c) n xs) : ∀ y, a = some y → B ≤ y.block ∧ y.block < w.heap.size := by
  intro y hy
  subst hy
  exact h.lt y.block (by rcases h.2 with ⟨hv, -⟩ | ⟨g, cap, cur, hv, -⟩ <;> cases hv <;> rfl)
theorem St.range (h : St w r l N wr) (x y : Int) {m : List Mb} {n : Nat} (hm : segR l x y = m) (hn : m.length = n) : Calls Try.prog 12 #[.pointer (some ⟨r, 0, none⟩), .int .i64 x, .int .i64 y] wr (RowPost n m wr) := by
  obtain ⟨S, h1, -⟩ := h
  refine (h1.range x y).mono ?_
  rintro e w' ⟨v, rfl, ⟨hrow⟩, hb⟩
  rw [hm] at hrow
  rw [hn] at hrow
  obtain ⟨a, c, rfl, hrd⟩ := ownsRow_rd hrow (rkCells_one _)
  exact ⟨a, c, rfl, hrd, own_block hrow, hb⟩
theorem St.within (h : St w r l N wr) (a : Nat) (oa : Bool) (b : Nat) (ob : Bool) {i j : Nat} (he : withinL l a oa b ob = (i, j)) :
    Calls Try.prog 24 #[.pointer (some ⟨r, 0, none⟩), .agg #[.float .f64 a, .bool oa], .agg #[.float .f64 b, .bool ob]] wr fun e w' => e = .returned (.tuple #[.int .i64 i, .int .i64 j]) ∧ Below wr.heap.size wr w' := by
  obtain ⟨S, h1, -⟩ := h
  refine (h1.within a oa b ob).mono fun e w' hp => ?_
  have := hp.fn
  rw [he] at this
  exact this
end
end Go.Proofs.Ytbjfigegiffefaa
