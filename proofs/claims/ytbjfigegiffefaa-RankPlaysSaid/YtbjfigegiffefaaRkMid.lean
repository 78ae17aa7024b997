/- Ranks between two statements: the row is put, the dict is called, the cost is put; Delete. -/
import Derived.Test.YtbjfigegiffefaaRkFind
set_option linter.unusedVariables false
set_option linter.unusedSimpArgs false
namespace Pantry
open Go Go.RowKit
theorem cut_cost {l : List Mb} {i : Nat} {p : Mb} (h : l[i]? = some p) : rkCost l = rkCost (l.take i ++ l.drop (i + 1)) + (40 + p.1.length) := by
  obtain ⟨hi, rfl⟩ := List.getElem?_eq_some_iff.1 h
  have key : ∀ (A B : List Mb) (p : Mb), rkCost (A ++ p :: B) = rkCost (A ++ B) + (40 + p.1.length) := fun A B p => by simp [rkCost]; omega
  rw [← key, ← List.drop_eq_getElem_cons hi, List.take_append_drop]
theorem cut_filter {l : List Mb} {i : Nat} {key : List UInt8} {x : Nat} (h : l[i]? = some (key, x)) (hn : (l.map (·.1)).Nodup) : (l.map mbKv).filter (fun p => !(p.1 == key)) = (l.take i ++ l.drop (i + 1)).map mbKv := by
  obtain ⟨hi, he⟩ := List.getElem?_eq_some_iff.1 h
  have e : l = l.take i ++ (key, x) :: l.drop (i + 1) := by rw [← he, ← List.drop_eq_getElem_cons hi, List.take_append_drop]
  generalize l.take i = A at e
  generalize l.drop (i + 1) = B at e
  subst e
  rw [List.map_append, List.map_cons, List.nodup_append] at hn
  obtain ⟨-, h2, h3⟩ := hn
  rw [List.nodup_cons] at h2
  have hA : (A.map mbKv).filter (fun p => !(p.1 == key)) = A.map mbKv := by
    rw [List.filter_eq_self]
    intro p hp
    obtain ⟨q, hq, rfl⟩ := List.mem_map.1 hp
    have : q.1 ≠ key := h3 _ (List.mem_map.2 ⟨q, hq, rfl⟩) _ List.mem_cons_self
    simpa [mbKv] using this
  have hB : (B.map mbKv).filter (fun p => !(p.1 == key)) = B.map mbKv := by
    rw [List.filter_eq_self]
    intro p hp
    obtain ⟨q, hq, rfl⟩ := List.mem_map.1 hp
    have : q.1 ≠ key := fun hh => h2.1 (List.mem_map.2 ⟨q, hq, hh⟩)
    simpa [mbKv] using this
  rw [List.map_append, List.map_cons, List.filter_append, List.filter_cons_of_neg (by simp [mbKv]), hA, hB, List.map_append]
theorem RkGood.cut {l : List Mb} (h : RkGood l) (i : Nat) : RkGood (l.take i ++ l.drop (i + 1)) := by
  have hm : ∀ p ∈ l.take i ++ l.drop (i + 1), p ∈ l := fun p hp => by
    rcases List.mem_append.1 hp with hp | hp
    · exact List.mem_of_mem_take hp
    · exact List.mem_of_mem_drop hp
  refine ⟨h.rises.erase i, fun p hp => h.num p (hm p hp), fun p hp => h.text p (hm p hp), ?_⟩
  have := h.few
  simp only [List.length_append, List.length_take, List.length_drop]
  omega
end Pantry
namespace Go.Proofs.Ytbjfigegiffefaa
open Go.RowKit Pantry

structure RkMid (w : World) (r seed d : Nat) (D : Dc) (v : Value) (l : List Mb) (cost : Int) : Prop where
  head : w.heap[r]? = some (.cells #[.int .u64 seed, .pointer (some ⟨d, 0, none⟩), v, .int .i64 cost] 78)
  dict : DictAt w d D
  wf : D.Wf
  row : w.ownsRow 0 34 2 v l.length (rkCells l)
theorem RkAt.mid {w : World} {r seed d : Nat} {D : Dc} {v : Value} {l : List Mb} (h : RkAt w r seed d D v l) : RkMid w r seed d D v l (rkCost l : Nat) := ⟨h.head, h.dict, h.wf, h.row⟩
theorem RkAt.keys {w : World} {r seed d : Nat} {D : Dc} {v : Value} {l : List Mb} (h : RkAt w r seed d D v l) : (l.map (·.1)).Nodup := by
  have h1 := (h.kv.map (·.1)).nodup_iff.1 (by
    have := h.wf.keys
    unfold Dc.kv
    rw [List.map_map]
    exact this)
  rw [List.map_map] at h1
  exact h1
theorem RkMid.row_set {w w2 : World} {r seed d : Nat} {D : Dc} {v v' : Value} {l l2 : List Mb} {cost : Int} (h : RkMid w r seed d D v l cost) (hr : w2.ownsRow 0 34 2 v' l2.length (rkCells l2)) (hg : w.grownBy w2 v.ownBlock) :
    RkMid (w2.setCell ⟨r, 2, none⟩ v') r seed d D v' l2 cost ∧ Chg (fun k => k = r ∨ v.ownBlock = some k) w (w2.setCell ⟨r, 2, none⟩ v') := by
  have hc : Chg (fun k => v.ownBlock = some k) w w2 := Chg.of_grown hg fun k hk => hk
  have hrow : ∀ k, v.ownBlock = some k → ∃ c, w.heap[k]? = some (.cells c 34) := fun k hk => row_type h.row hk
  have hrn : v.ownBlock ≠ some r := fun hk => by
    obtain ⟨c, hc⟩ := hrow r hk
    exact types_ne hc h.head (by decide) rfl
  have hh := hc.heap h.head hrn
  have hd2 : DictAt w2 d D := h.dict.chg hc fun k hk hkv => by
    obtain ⟨c, hc⟩ := hrow k hkv
    exact h.dict.not_foot hc (by decide) hk
  have ho : ∀ k, k ≠ r → (w2.setCell ⟨r, 2, none⟩ v').heap[k]? = w2.heap[k]? := fun k hk => heapSetOther (p := ⟨r, 2, none⟩) hk
  refine ⟨⟨?_, ?_, h.wf, ?_⟩, ?_⟩
  · rw [heapSetHere hh]; rfl
  · exact hd2.keep fun k hk => ho k fun e => by subst e; exact hd2.not_foot hh (by decide) hk
  · refine Chg.ownsRow hr ((Chg.refl (fun k => k = r) w2).setCell (p := ⟨r, 2, none⟩) (fun _ => rfl) v') fun k hk e => ?_
    subst e
    obtain ⟨c, hc⟩ := row_type hr hk
    exact types_ne hc hh (by decide) rfl
  · exact (hc.mono fun k _ hk => .inr hk).setCell (p := ⟨r, 2, none⟩) (fun _ => .inl rfl) v'
theorem RkMid.dict_op {w w' : World} {r seed d : Nat} {D : Dc} {v : Value} {l : List Mb} {cost : Int} {lk : List (List UInt8 × Value)} (h : RkMid w r seed d D v l cost) (ho : DOp d D lk w w') :
    (∃ D', RkMid w' r seed d D' v l cost ∧ D'.kv.Perm lk ∧ ∀ k, DFoot d D' k → DFoot d D k ∨ w.heap.size ≤ k) ∧ Chg (DFoot d D) w w' := by
  obtain ⟨⟨D', h1, -, h3, h4, h5⟩, hc⟩ := ho
  refine ⟨⟨D', ⟨hc.heap h.head (h.dict.not_foot h.head (by decide)), h3, h1, Chg.ownsRow h.row hc fun k hk => ?_⟩, h4, h5⟩, hc⟩
  obtain ⟨c, hcc⟩ := row_type h.row hk
  exact h.dict.not_foot hcc (by decide)
theorem RkMid.cost_set {w : World} {r seed d : Nat} {D : Dc} {v : Value} {l : List Mb} {cost : Int} (h : RkMid w r seed d D v l cost) (c : Int) : RkMid (w.setCell ⟨r, 3, none⟩ (.int .i64 c)) r seed d D v l c := by
  have ho : ∀ k, k ≠ r → (w.setCell ⟨r, 3, none⟩ (.int .i64 c)).heap[k]? = w.heap[k]? := fun k hk => heapSetOther (p := ⟨r, 3, none⟩) hk
  refine ⟨?_, h.dict.keep fun k hk => ho k fun e => by subst e; exact h.dict.not_foot h.head (by decide) hk, h.wf, ?_⟩
  · rw [heapSetHere h.head]; rfl
  · refine Chg.ownsRow h.row ((Chg.refl (fun k => k = r) w).setCell (p := ⟨r, 3, none⟩) (fun _ => rfl) _) fun k hk e => ?_
    subst e
    obtain ⟨c', hc⟩ := row_type h.row hk
    exact types_ne hc h.head (by decide) rfl
/-- What a call that changes ranks leaves. -/
structure ROp (r seed d : Nat) (D : Dc) (v : Value) (l' : List Mb) (w w' : World) : Prop where
  ex : ∃ D' v', RkAt w' r seed d D' v' l' ∧ ∀ k, RFoot r d D' v' k → RFoot r d D v k ∨ w.heap.size ≤ k
  chg : Chg (RFoot r d D v) w w'
theorem RkSame.op {w w' : World} {r seed d : Nat} {D : Dc} {v : Value} {l : List Mb} (h : RkSame r seed d D v l w w') : ROp r seed d D v l w w' := by
  obtain ⟨⟨D', h1, h2⟩, h3⟩ := h
  exact ⟨⟨D', v, h1, fun k hk => .inl (h2 k hk)⟩, h3⟩
theorem ROp.trans {w w1 w2 : World} {r seed d : Nat} {D : Dc} {v : Value} {l l' : List Mb} (h : ROp r seed d D v l w w1) (k : ∀ D1 v1, RkAt w1 r seed d D1 v1 l → ROp r seed d D1 v1 l' w1 w2) : ROp r seed d D v l' w w2 := by
  obtain ⟨⟨D1, v1, h1, h2⟩, h3⟩ := h
  obtain ⟨⟨D2, v2, k1, k2⟩, k3⟩ := k D1 v1 h1
  refine ⟨⟨D2, v2, k1, fun j hj => ?_⟩, h3.trans k3 fun j hj hf => ?_⟩
  · rcases k2 j hj with hh | hh
    · exact h2 j hh
    · exact .inr (Nat.le_trans h3.size hh)
  · rcases h2 j hf with hh | hh
    · exact hh
    · omega
/-- The row, then the dict, then the cost: all three have been changed. -/
theorem rk_changed {w w2 w4 : World} {r seed d : Nat} {D : Dc} {v v' : Value} {l l2 : List Mb} {lk : List (List UInt8 × Value)} (h : RkAt w r seed d D v l) (hr : w2.ownsRow 0 34 2 v' l2.length (rkCells l2)) (hg : w.grownBy w2 v.ownBlock)
    (hv : ∀ k, v'.ownBlock = some k → v.ownBlock = some k ∨ w.heap.size ≤ k) (ho : DOp d D lk (w2.setCell ⟨r, 2, none⟩ v') w4) (hk : lk.Perm (l2.map mbKv)) (hgood : RkGood l2) (c : Int) (hc : c = (rkCost l2 : Nat)) :
    ROp r seed d D v l2 w (w4.setCell ⟨r, 3, none⟩ (.int .i64 c)) ∧ w4.cell? ⟨r, 3, none⟩ = some (.int .i64 (rkCost l : Nat)) ∧ w4.frozen? ⟨r, 3, none⟩ = false := by
  subst hc
  obtain ⟨m1, c1⟩ := h.mid.row_set hr hg
  obtain ⟨⟨D', m2, p2, f2⟩, c2⟩ := m1.dict_op ho
  have m3 := m2.cost_set (rkCost l2 : Nat)
  have hsz : w.heap.size ≤ (w2.setCell ⟨r, 2, none⟩ v').heap.size := c1.size
  obtain ⟨⟨-, -, -, q3⟩, qf⟩ := four m2.head
  refine ⟨⟨⟨D', v', ⟨m3.head, m3.dict, m3.wf, m3.row, p2.trans hk, hgood⟩, ?_⟩, ?_⟩, q3, qf 3⟩
  · rintro k (rfl | hk | hk)
    · exact .inl (.inl rfl)
    · rcases f2 k hk with hh | hh
      · exact .inl (.inr (.inl hh))
      · exact .inr (Nat.le_trans hsz hh)
    · rcases hv k hk with hh | hh
      · exact .inl (.inr (.inr hh))
      · exact .inr hh
  · refine (Chg.trans (S := RFoot r d D v) (c1.mono ?_) c2 ?_).setCell (p := ⟨r, 3, none⟩) (fun _ => .inl rfl) _
    · rintro k - (rfl | hk)
      · exact .inl rfl
      · exact .inr (.inr hk)
    · exact fun k _ hk => .inr (.inl hk)
end Go.Proofs.Ytbjfigegiffefaa
