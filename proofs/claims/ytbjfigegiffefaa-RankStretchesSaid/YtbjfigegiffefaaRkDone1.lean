/- A step of the law: its plain part; what it leaves. -/
import Derived.Test.YtbjfigegiffefaaRkSteps
set_option linter.unusedVariables false
set_option linter.unusedSimpArgs false
namespace Pantry
open Go Go.RowKit
/-- What a step makes of the members. -/
def stepL (l : List Mb) (o : Stp) : List Mb := if o.act = 0 then (setL l o.s o.x).1 else if o.act = 1 then dropKey l o.s else l
theorem split_at {l : List Mb} {i : Nat} {p : Mb} (h : l[i]? = some p) : l = l.take i ++ p :: l.drop (i + 1) ∧ (l.take i).length = i := by
  obtain ⟨hi, rfl⟩ := List.getElem?_eq_some_iff.1 h
  exact ⟨by rw [← List.drop_eq_getElem_cons hi, List.take_append_drop], by rw [List.length_take]; omega⟩
theorem cut_perm {l : List Mb} {i : Nat} {p : Mb} (h : l[i]? = some p) : l.Perm (p :: cutR l i) := by
  obtain ⟨e, -⟩ := split_at h
  conv => lhs; rw [e]
  exact List.perm_middle
/-- The entry at a place gets another number. -/
theorem set_perm {l L : List Mb} (hp : L.Perm l) {i i' j : Nat} {p q : Mb} (hL : L[i]? = some p) (hl : l[i']? = some p) : (L.set i q).Perm (insR (cutR l i') q j) := by
  have h1 : (cutR L i).Perm (cutR l i') := List.Perm.cons_inv ((cut_perm hL).symm.trans (hp.trans (cut_perm hl)))
  have h2 : (L.set i q).Perm (q :: cutR L i) := by
    obtain ⟨e, he⟩ := split_at hL
    have : L.set i q = L.take i ++ q :: L.drop (i + 1) := by
      conv => lhs; rw [e]
      rw [List.set_append_right _ _ (by omega), he, Nat.sub_self, List.set_cons_zero]
    rw [this]
    exact List.perm_middle
  refine h2.trans ((h1.cons q).trans ?_)
  unfold insR
  exact (ins_perm _ j q).symm
theorem drop_last {A C : List Mb} {p z z' : Mb} (hz : (A ++ p :: (C ++ [z']))[(A ++ p :: (C ++ [z'])).length - 1]? = some z) : ((A ++ p :: (C ++ [z'])).set A.length z).take ((A ++ p :: (C ++ [z'])).length - 1) = A ++ z' :: C := by
  have hl : (A ++ p :: (C ++ [z'])).length - 1 = A.length + (C.length + 1) := by simp
  rw [hl] at hz ⊢
  rw [List.getElem?_append_right (by omega), Nat.add_sub_cancel_left, List.getElem?_cons_succ, List.getElem?_append_right (by omega), Nat.sub_self] at hz
  obtain rfl : z' = z := by simpa using hz
  rw [List.set_append_right _ _ (by omega), Nat.sub_self, List.set_cons_zero, List.take_append, List.take_of_length_le (by omega), Nat.add_sub_cancel_left, List.take_succ_cons, List.take_left]
theorem drop_perm {l L : List Mb} (hp : L.Perm l) {i i' : Nat} {p z : Mb} (hL : L[i]? = some p) (hl : l[i']? = some p) (hz : L[L.length - 1]? = some z) : ((L.set i z).take (L.length - 1)).Perm (cutR l i') := by
  have h1 : (cutR L i).Perm (cutR l i') := List.Perm.cons_inv ((cut_perm hL).symm.trans (hp.trans (cut_perm hl)))
  refine List.Perm.trans ?_ h1
  obtain ⟨e, he⟩ := split_at hL
  have hi := (List.getElem?_eq_some_iff.1 hL).1
  unfold cutR
  rcases List.eq_nil_or_concat (L.drop (i + 1)) with hB | ⟨C, z', hB⟩
  · have hn : i = L.length - 1 := by have := congrArg List.length hB; simp at this; omega
    rw [hB, List.append_nil]
    have : (L.set i z).take (L.length - 1) = L.take i := by
      rw [← hn, List.take_set, List.set_eq_of_length_le (by rw [List.length_take]; omega)]
    rw [this]
  · rw [List.concat_eq_append] at hB
    rw [hB]
    rw [hB] at e
    generalize L.take i = A at e he ⊢
    subst he
    subst e
    rw [drop_last hz]
    exact List.Perm.append_left _ (List.perm_append_comm (l₁ := [z']))
theorem rkCells_set1 (L : List Mb) {i : Nat} {k : List UInt8} {x y : Nat} (h : L[i]? = some (k, y)) : (rkCells L).set (i * 2 + 1) (.float .f64 x) = rkCells (L.set i (k, x)) := by
  induction L generalizing i with
  | nil => cases h
  | cons p L ih =>
    cases i with
    | zero => cases h; simp [rkCells, mbC]
    | succ i =>
      have := ih (by simpa using h)
      simp only [rkCells, List.flatMap_cons, mbC, List.set_cons_succ] at *
      rw [show (i + 1) * 2 + 1 = i * 2 + 1 + 1 + 1 by omega]
      simp [this]
theorem rkCells_set2 (L : List Mb) {i : Nat} (hi : i < L.length) (q : Mb) : ((rkCells L).set (i * 2) (.string ⟨q.1.toArray⟩)).set (i * 2 + 1) (.float .f64 q.2) = rkCells (L.set i q) := by
  induction L generalizing i with
  | nil => cases hi
  | cons p L ih =>
    cases i with
    | zero => simp [rkCells, mbC]
    | succ i =>
      have := ih (by simpa using hi)
      simp only [rkCells, List.flatMap_cons, mbC, List.set_cons_succ] at *
      rw [show (i + 1) * 2 = i * 2 + 1 + 1 by omega, show i * 2 + 1 + 1 + 1 = (i * 2 + 1) + 1 + 1 by omega]
      simp [this]
/-- A shorter row in the same block. -/
theorem own_short {w : World} {base : Nat} {e : TypeId} {size n m c : Nat} {a : Option Addr} {xs : List Value} (h : w.ownsRow base e size (.slice a n c) n xs) (hm : m ≤ n) : w.ownsRow base e size (.slice a m c) m (xs.take (m * size)) := by
  have hmn : m * size ≤ n * size := Nat.mul_le_mul_right _ hm
  refine ⟨by rw [List.length_take, h.1]; omega, ?_⟩
  rcases h.2 with ⟨hv, hn⟩ | ⟨g, cap, cur, hv, h1, h2, h3, h4, h5, h6⟩
  · cases hv
    exact .inl ⟨by rw [show m = 0 by omega], by omega⟩
  · cases hv
    exact .inr ⟨g, c, cur, rfl, h1, h2, by omega, h4, h5, by rw [← h6, List.take_take, Nat.min_eq_left hmn]⟩
end Pantry
namespace Go.Proofs.Ytbjfigegiffefaa
open Go.RowKit Pantry

/-- What a step leaves: the ranks and the list, alike. -/
structure DoneTo (r : Nat) (S : Nat → Prop) (v : Value) (l : List Mb) (o : Stp) (w : World) (v' : Value) (w' : World) : Prop where
  ex : ∃ S' L', Rk w' r S' (stepL l o) ∧ (∀ k, S' k → S k ∨ w.heap.size ≤ k) ∧ L'.Perm (stepL l o) ∧ w'.ownsRow 0 41 2 v' L'.length (rkCells L') ∧ ∀ k, v'.ownBlock = some k → ¬ S' k
  own : ∀ k, v'.ownBlock = some k → v.ownBlock = some k ∨ w.heap.size ≤ k
  chg : Chg (fun k => S k ∨ v.ownBlock = some k) w w'
def DonePost (r : Nat) (S : Nat → Prop) (v : Value) (l : List Mb) (o : Stp) (w : World) (e : Ending) (w' : World) : Prop := ∃ v', e = .returned (.tuple #[v', .bool true]) ∧ DoneTo r S v l o w v' w'
theorem DoneTo.before {r : Nat} {S : Nat → Prop} {v : Value} {l : List Mb} {o : Stp} {w0 w : World} {v' : Value} {w' : World} (h : DoneTo r S v l o w v' w') (hb : Below w0.heap.size w0 w) : DoneTo r S v l o w0 v' w' := by
  obtain ⟨⟨S', L', h1, h2, h3⟩, h4, h5⟩ := h
  exact ⟨⟨S', L', h1, fun k hk => (h2 k hk).imp id fun hh => Nat.le_trans hb.size hh, h3⟩, fun k hk => (h4 k hk).imp id fun hh => Nat.le_trans hb.size hh, (Chg.of_below hb).trans h5 fun _ _ hh => hh⟩
theorem entT : ElemT Try.prog 26 41 2 24 zRk := ⟨Try.underlying26, by kernel_rfl, rfl, by decide, by decide⟩
/-- The ranks have been stepped; the list is as it was. -/
theorem DoneTo.rank {r : Nat} {S : Nat → Prop} {v : Value} {l L : List Mb} {o : Stp} {w w' : World} (h : RkTo r S (stepL l o) w w') (hp : L.Perm (stepL l o)) (hv : w.ownsRow 0 41 2 v L.length (rkCells L)) (hvS : ∀ k, v.ownBlock = some k → ¬ S k) : DoneTo r S v l o w v w' := by
  obtain ⟨⟨S', h1, h2⟩, hc⟩ := h
  exact ⟨⟨S', L, h1, h2, hp, Chg.ownsRow hv hc hvS, fun k hk hs => (h2 k hs).elim (hvS k hk) fun hh => by have := (hv.lt k hk).2; omega⟩, fun k hk => .inl hk, hc.mono fun k _ hk => .inl hk⟩
/-- The ranks have been stepped; then the list has been written. -/
theorem DoneTo.list {r : Nat} {S : Nat → Prop} {v v' : Value} {l L L' : List Mb} {o : Stp} {w w1 w' : World} (h : RkTo r S (stepL l o) w w1) (hp : L'.Perm (stepL l o)) (hv : w.ownsRow 0 41 2 v L.length (rkCells L)) (hvS : ∀ k, v.ownBlock = some k → ¬ S k)
    (hv' : w'.ownsRow 0 41 2 v' L'.length (rkCells L')) (hc : Chg (fun k => v.ownBlock = some k) w1 w') (ho : ∀ k, v'.ownBlock = some k → v.ownBlock = some k ∨ w1.heap.size ≤ k) : DoneTo r S v l o w v' w' := by
  obtain ⟨⟨S', h1, h2⟩, hc1⟩ := h
  have hx : ∀ k, S' k → v.ownBlock ≠ some k := fun k hs hk => (h2 k hs).elim (hvS k hk) fun hh => by have := (hv.lt k hk).2; omega
  refine ⟨⟨S', L', h1.chg hc fun k hk => hx k hk, h2, hp, hv', fun k hk hs => ?_⟩, fun k hk => (ho k hk).imp id fun hh => Nat.le_trans hc1.size hh, (hc1.mono fun k _ hk => .inl hk).trans hc fun k _ hk => .inr hk⟩
  rcases ho k hk with hh | hh
  · exact hx k hs hh
  · have := h1.lt k hs; omega
end Go.Proofs.Ytbjfigegiffefaa
