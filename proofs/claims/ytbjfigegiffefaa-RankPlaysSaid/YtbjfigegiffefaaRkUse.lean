/- Ranks by a handle: the members, and a set of blocks in which they lie. -/
import Derived.Test.YtbjfigegiffefaaRkCopy
set_option linter.unusedVariables false
set_option linter.unusedSimpArgs false
namespace Pantry
open Go Go.RowKit
/-- The place by counting. -/
def placeN (l : List Mb) (p : Mb) : Nat := l.countP fun q => decide (cmpR q p < 0)
theorem AtPlace.count {l : List Mb} {p : Mb} {i : Nat} (h : AtPlace l p i) : i = placeN l p := by
  have e : l = l.take i ++ l.drop i := (List.take_append_drop _ _).symm
  have hi := h.le
  unfold placeN
  rw [e, List.countP_append]
  have h1 : (l.take i).countP (fun q => decide (cmpR q p < 0)) = i := by
    rw [List.countP_eq_length.2]
    · rw [List.length_take]; omega
    · intro q hq
      obtain ⟨k, hk, rfl⟩ := List.mem_iff_getElem.1 hq
      rw [List.length_take] at hk
      rw [List.getElem_take]
      have := h.lo k l[k] (by omega) (List.getElem?_eq_getElem (by omega))
      simpa using this
  have h2 : (l.drop i).countP (fun q => decide (cmpR q p < 0)) = 0 := by
    rw [List.countP_eq_zero]
    intro q hq
    obtain ⟨k, hk, rfl⟩ := List.mem_iff_getElem.1 hq
    rw [List.length_drop] at hk
    rw [List.getElem_drop]
    have := h.hi (i + k) l[i + k] (by omega) (List.getElem?_eq_getElem (by omega))
    simpa using this
  omega
end Pantry
namespace Go.Proofs.Ytbjfigegiffefaa
open Go.RowKit Pantry

structure Rk (w : World) (r : Nat) (S : Nat → Prop) (l : List Mb) : Prop where
  at_ : ∃ seed d D v, seed < 18446744073709551616 ∧ RkAt w r seed d D v l ∧ ∀ k, RFoot r d D v k → S k
  lt : ∀ k, S k → k < w.heap.size
structure RkTo (r : Nat) (S : Nat → Prop) (l' : List Mb) (w w' : World) : Prop where
  ex : ∃ S', Rk w' r S' l' ∧ ∀ k, S' k → S k ∨ w.heap.size ≤ k
  chg : Chg S w w'
structure RkQ (r : Nat) (S : Nat → Prop) (l : List Mb) (w w' : World) : Prop where
  at_ : Rk w' r S l
  chg : Chg S w w'
theorem Rk.good {w : World} {r : Nat} {S : Nat → Prop} {l : List Mb} (h : Rk w r S l) : RkGood l := by
  obtain ⟨seed, d, D, v, -, h1, -⟩ := h.at_
  exact h1.good
theorem Rk.keys {w : World} {r : Nat} {S : Nat → Prop} {l : List Mb} (h : Rk w r S l) : (l.map (·.1)).Nodup := by
  obtain ⟨seed, d, D, v, -, h1, -⟩ := h.at_
  exact h1.keys
theorem Rk.chg {w w' : World} {r : Nat} {S T : Nat → Prop} {l : List Mb} (h : Rk w r S l) (hc : Chg T w w') (hT : ∀ k, S k → ¬ T k) : Rk w' r S l := by
  obtain ⟨⟨seed, d, D, v, hs, h1, h2⟩, h3⟩ := h
  exact ⟨⟨seed, d, D, v, hs, h1.keep hc fun k hk => hT k (h2 k hk), h2⟩, fun k hk => Nat.lt_of_lt_of_le (h3 k hk) hc.size⟩
theorem Rk.below {w w' : World} {r : Nat} {S : Nat → Prop} {l : List Mb} (h : Rk w r S l) (hb : Below w.heap.size w w') : Rk w' r S l :=
  h.chg (T := fun _ => False) (Chg.of_below hb) fun _ _ e => e
theorem ROp.to {w w' : World} {r seed d : Nat} {D : Dc} {v : Value} {l' : List Mb} {S : Nat → Prop} (h : ROp r seed d D v l' w w') (hs : seed < 18446744073709551616) (hS : ∀ k, RFoot r d D v k → S k) (hl : ∀ k, S k → k < w.heap.size) : RkTo r S l' w w' := by
  obtain ⟨⟨D', v', h1, h2⟩, h3⟩ := h
  refine ⟨⟨fun k => (S k ∨ w.heap.size ≤ k) ∧ k < w'.heap.size, ⟨⟨seed, d, D', v', hs, h1, fun k hk => ⟨(h2 k hk).imp (hS k) id, h1.lt k hk⟩⟩, fun k hk => hk.2⟩, fun k hk => hk.1⟩, h3.mono fun k _ hk => hS k hk⟩
theorem RkSame.q {w w' : World} {r seed d : Nat} {D : Dc} {v : Value} {l : List Mb} {S : Nat → Prop} (h : RkSame r seed d D v l w w') (hs : seed < 18446744073709551616) (hS : ∀ k, RFoot r d D v k → S k) (hl : ∀ k, S k → k < w.heap.size) : RkQ r S l w w' := by
  obtain ⟨⟨D', h1, h2⟩, h3⟩ := h
  exact ⟨⟨⟨seed, d, D', v, hs, h1, fun k hk => hS k (h2 k hk)⟩, fun k hk => Nat.lt_of_lt_of_le (hl k hk) h3.size⟩, h3.mono fun k _ hk => hS k hk⟩
def SetTo (r : Nat) (S : Nat → Prop) (l : List Mb) (key : List UInt8) (x : Nat) (w : World) (e : Ending) (w' : World) : Prop :=
  ∃ l' new code, SetC l key x l' new code ∧ e = .returned (.tuple #[.bool new, .int .i64 code]) ∧ RkTo r S l' w w'
theorem Rk.set {w : World} {r : Nat} {S : Nat → Prop} {l : List Mb} (h : Rk w r S l) (key : List UInt8) (x : Nat) (hs : key.length ≤ 140737488351232) :
    Calls Try.prog 19 #[.pointer (some ⟨r, 0, none⟩), .string ⟨key.toArray⟩, .float .f64 x] w (SetTo r S l key x w) := by
  obtain ⟨⟨seed, d, D, v, hd, h1, h2⟩, h3⟩ := h
  refine (rkSet_any w r seed d D v l key x h1 hs).mono ?_
  rintro e w' ⟨l', new, code, q1, q2, q3⟩
  exact ⟨l', new, code, q1, q2, q3.to hd h2 h3⟩
def DelTo (r : Nat) (S : Nat → Prop) (l : List Mb) (key : List UInt8) (w : World) (e : Ending) (w' : World) : Prop :=
  (∃ (i x : Nat), l[i]? = some (key, x) ∧ e = .returned (.bool true) ∧ RkTo r S (cutR l i) w w') ∨ ((∀ p ∈ l, p.1 ≠ key) ∧ e = .returned (.bool false) ∧ RkTo r S l w w')
theorem Rk.del {w : World} {r : Nat} {S : Nat → Prop} {l : List Mb} (h : Rk w r S l) (key : List UInt8) (hs : key.length ≤ 140737488351232) :
    Calls Try.prog 33 #[.pointer (some ⟨r, 0, none⟩), .string ⟨key.toArray⟩] w (DelTo r S l key w) := by
  obtain ⟨⟨seed, d, D, v, hd, h1, h2⟩, h3⟩ := h
  refine (rkDel_any w r seed d D v l key h1 hs).mono ?_
  rintro e w' (⟨i, x, q1, q2, q3⟩ | ⟨q1, q2, q3⟩)
  · exact .inl ⟨i, x, q1, q2, q3.to hd h2 h3⟩
  · exact .inr ⟨q1, q2, q3.to hd h2 h3⟩
def ScoreTo (r : Nat) (S : Nat → Prop) (l : List Mb) (key : List UInt8) (w : World) (e : Ending) (w' : World) : Prop :=
  ((∃ x, (key, x) ∈ l ∧ e = .returned (.tuple #[.float .f64 x, .bool true])) ∨ ((∀ p ∈ l, p.1 ≠ key) ∧ e = .returned (.tuple #[.float .f64 0, .bool false]))) ∧ RkQ r S l w w'
theorem Rk.score {w : World} {r : Nat} {S : Nat → Prop} {l : List Mb} (h : Rk w r S l) (key : List UInt8) (hs : key.length ≤ 140737488351232) :
    Calls Try.prog 15 #[.pointer (some ⟨r, 0, none⟩), .string ⟨key.toArray⟩] w (ScoreTo r S l key w) := by
  obtain ⟨⟨seed, d, D, v, hd, h1, h2⟩, h3⟩ := h
  exact (rkScore_any w r seed d D v l key h1 hs).mono fun e w' ⟨q1, q2⟩ => ⟨q1, q2.q hd h2 h3⟩
def RankTo (r : Nat) (S : Nat → Prop) (l : List Mb) (key : List UInt8) (w : World) (e : Ending) (w' : World) : Prop :=
  ((∃ (i x : Nat), l[i]? = some (key, x) ∧ e = .returned (.tuple #[.int .i64 i, .bool true])) ∨ ((∀ p ∈ l, p.1 ≠ key) ∧ e = .returned (.tuple #[.int .i64 0, .bool false]))) ∧ RkQ r S l w w'
theorem Rk.rank {w : World} {r : Nat} {S : Nat → Prop} {l : List Mb} (h : Rk w r S l) (key : List UInt8) (hs : key.length ≤ 140737488351232) :
    Calls Try.prog 14 #[.pointer (some ⟨r, 0, none⟩), .string ⟨key.toArray⟩] w (RankTo r S l key w) := by
  obtain ⟨⟨seed, d, D, v, hd, h1, h2⟩, h3⟩ := h
  exact (rkRank_any w r seed d D v l key h1 hs).mono fun e w' ⟨q1, q2⟩ => ⟨q1, q2.q hd h2 h3⟩
theorem Rk.len {w : World} {r : Nat} {S : Nat → Prop} {l : List Mb} (h : Rk w r S l) : Calls Try.prog 13 #[.pointer (some ⟨r, 0, none⟩)] w fun e w' => e = .returned (.int .i64 (l.length : Nat)) ∧ w = w' := by
  obtain ⟨⟨seed, d, D, v, hd, h1, h2⟩, h3⟩ := h
  exact rkLen_any w r seed d D v l h1
theorem Rk.cost {w : World} {r : Nat} {S : Nat → Prop} {l : List Mb} (h : Rk w r S l) : Calls Try.prog 17 #[.pointer (some ⟨r, 0, none⟩)] w fun e w' => e = .returned (.int .i64 (rkCost l : Nat)) ∧ w = w' := by
  obtain ⟨⟨seed, d, D, v, hd, h1, h2⟩, h3⟩ := h
  exact rkCost_any w r seed d D v l h1
theorem Rk.range {w : World} {r : Nat} {S : Nat → Prop} {l : List Mb} (h : Rk w r S l) (x y : Int) : Calls Try.prog 12 #[.pointer (some ⟨r, 0, none⟩), .int .i64 x, .int .i64 y] w (MbsPost (segR l x y) w) := by
  obtain ⟨⟨seed, d, D, v, hd, h1, h2⟩, h3⟩ := h
  exact rkRange_any w r seed d D v l x y h1
theorem Rk.within {w : World} {r : Nat} {S : Nat → Prop} {l : List Mb} (h : Rk w r S l) (a : Nat) (oa : Bool) (b : Nat) (ob : Bool) :
    Calls Try.prog 24 #[.pointer (some ⟨r, 0, none⟩), .agg #[.float .f64 a, .bool oa], .agg #[.float .f64 b, .bool ob]] w (WithinPost l a oa b ob w) := by
  obtain ⟨⟨seed, d, D, v, hd, h1, h2⟩, h3⟩ := h
  exact rkWithin_any w r seed d D v l a oa b ob h1
/-- New ranks, beside all that was there. -/
def RkMade (l : List Mb) (w : World) (e : Ending) (w' : World) : Prop := ∃ r S, e = .returned (.pointer (some ⟨r, 0, none⟩)) ∧ Rk w' r S l ∧ Below w.heap.size w w' ∧ ∀ k, S k → w.heap.size ≤ k
theorem Rk.copy {w : World} {r : Nat} {S : Nat → Prop} {l : List Mb} (h : Rk w r S l) : Calls Try.prog 21 #[.pointer (some ⟨r, 0, none⟩)] w (RkMade l w) := by
  obtain ⟨⟨seed, d, D, v, hd, h1, h2⟩, h3⟩ := h
  refine (rkCopy_any w r seed d D v l h1 hd).mono ?_
  rintro e w' ⟨r2, d2, D2, v2, q1, q2, q3, q4⟩
  exact ⟨r2, fun k => w.heap.size ≤ k ∧ k < w'.heap.size, q1, ⟨⟨seed, d2, D2, v2, hd, q2, fun k hk => ⟨q4 k hk, q2.lt k hk⟩⟩, fun k hk => hk.2⟩, q3, fun k hk => hk.1⟩
theorem Rk.new (w : World) (seed : Nat) (hd : seed < 18446744073709551616) : Calls Try.prog 18 #[.int .u64 seed] w (RkMade [] w) := by
  refine (rkNew_any w seed hd).mono ?_
  rintro e w' ⟨r2, d2, D2, q1, q2, q3, q4⟩
  exact ⟨r2, fun k => w.heap.size ≤ k ∧ k < w'.heap.size, q1, ⟨⟨seed, d2, D2, _, hd, q2, fun k hk => ⟨q4 k hk, q2.lt k hk⟩⟩, fun k hk => hk.2⟩, q3, fun k hk => hk.1⟩
/-- Of a base: all that the ranks hold lies at B or later. -/
theorem RkTo.below {B : Nat} {r : Nat} {S : Nat → Prop} {l' : List Mb} {w w' : World} (h : RkTo r S l' w w') (hS : ∀ k, S k → B ≤ k) (hB : B ≤ w.heap.size) : Below B w w' := h.chg.below hB hS
theorem RkQ.below {B : Nat} {r : Nat} {S : Nat → Prop} {l' : List Mb} {w w' : World} (h : RkQ r S l' w w') (hS : ∀ k, S k → B ≤ k) (hB : B ≤ w.heap.size) : Below B w w' := h.chg.below hB hS
end Go.Proofs.Ytbjfigegiffefaa
