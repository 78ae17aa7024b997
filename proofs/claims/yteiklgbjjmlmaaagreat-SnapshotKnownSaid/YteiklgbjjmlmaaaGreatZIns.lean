
/- slices.Insert at a row of pointers. -/
import Derived.Test.YteiklgbjjmlmaaaGreatRows
import Derived.Test.YteiklgbjjmlmaaaGreatZMem
import Derived.Deep.DeepCutAuto
import Derived.Lib.AppendZerosOnto
namespace Pantry
open Go Go.RowKit
/-- A row of its own was returned; of the old blocks only the old row's may have changed. -/
def RowPost (base e size : Nat) (w : World) (v : Value) (n : Nat) (ys : List Value) (x : Ending) (w' : World) : Prop :=
  ∃ v', x = .returned v' ∧ w'.ownsRow base e size v' n ys ∧ w.grownBy w' v.ownBlock ∧ ∀ k, v'.ownBlock = some k → v.ownBlock = some k ∨ w.heap.size ≤ k
theorem grownBy_setRow {w w0 : World} {g : Nat} {c : Array Value} (h : w0.grownBy w (some g)) : w0.grownBy (w.setRow g c) (some g) :=
  ⟨h.os, h.tape, h.output, by simpa [World.setRow] using h.size, fun k hk hne => (setRow_other w g k c (fun e => hne (by rw [e]))).trans (h.block k hk hne)⟩
theorem grownBy_new {w w0 : World} {row : Option Nat} {g : Nat} {c : Array Value} (h : w0.grownBy w row) (hg : w0.heap.size ≤ g) : w0.grownBy (w.setRow g c) row :=
  ⟨h.os, h.tape, h.output, by simpa [World.setRow] using h.size, fun k hk hne => (setRow_other w g k c (by omega)).trans (h.block k hk hne)⟩
theorem grownBy_same (w : World) (row : Option Nat) : w.grownBy w row := ⟨rfl, rfl, rfl, Nat.le_refl _, fun _ _ _ => rfl⟩
theorem grownBy_drew {w w0 : World} {row : Option Nat} (h : w0.grownBy w row) : w0.grownBy w.drew row := ⟨h.os, h.tape, h.output, h.size, h.block⟩
theorem grownBy_alloc {w w0 : World} {row : Option Nat} (h : w0.grownBy w row) (o : Obj) : w0.grownBy (w.alloc o) row :=
  ⟨h.os, h.tape, h.output, by simp; have := h.size; omega, fun k hk hne => (Below.heap_alloc w o k (by have := h.size; omega)).trans (h.block k hk hne)⟩
end Pantry
namespace Go.Proofs.YteiklgbjjmlmaaaGreat
open Go.RowKit Pantry

theorem Tryz.rowT : ElemT Tryz.prog 133 140 1 8 (.pointer none) := ⟨Tryz.underlying133, by kernel_rfl, rfl, by decide, by decide⟩
theorem Tryz.elSize : (Tryz.prog.info? 140).map (·.size) = some 1 := by kernel_rfl

/-- Two slices in two blocks of plain cells do not overlap. -/
theorem overlaps_no (w : World) (vb g : Nat) (u : Value) (te : TypeId) (cur : Array Value) (tt : TypeId) (o n c : Nat) (hv : w.heap[vb]? = some (.cells #[u] te)) (hg : w.heap[g]? = some (.cells cur tt)) (hne : vb ≠ g) (hc : cur.size ≠ 0) :
    (callFunc 104 #[.slice (some ⟨vb, 0, none⟩) 1 1, .slice (some ⟨g, o, none⟩) n c]).run Tryz.prog w = .ok (.value (.bool false)) w := by
  rw [run_callFunc_extern Tryz.func104 (by kernel_rfl) (by kernel_rfl) (by kernel_rfl) (e := Extern.SlicesOverlaps.overlaps #[133, 133] #[4]) (by kernel_rfl),
    Lib.run_overlaps_apart w 133 4 140 Tryz.underlying133 1 (fun w => by kernel_rfl) ⟨vb, 0, none⟩ ⟨g, o, none⟩ 1 1 n c hne te tt 1 cur.size (by simp [World.shape?, hv]) (by simp [World.shape?, hg]) hc (frozen_of_row w vb 0 _ _ hv) (frozen_of_row w vb 1 _ _ hv)]
  rfl

set_option maxHeartbeats 4000000 in
set_option maxRecDepth 100000 in
theorem insert_shift (w : World) (base vb g i n cap : Nat) (u : Value) (cur : List Value) (xs : List Value) (hv : w.heap[vb]? = some (.cells #[u] 140)) (hg : w.heap[g]? = some (.cells cur.toArray 140)) (hne : vb ≠ g) (hb : base ≤ g)
    (hx : cur.take n = xs) (hxl : xs.length = n) (hL : cur.length = cap) (hi : i < n) (hr : n + 1 ≤ cap) (hm : cap ≤ maxLen) (h1 : ∀ x ∈ xs, x.oneCell' = true) (hu : u.oneCell' = true) :
    Calls Tryz.prog 81 #[.slice (some ⟨g, 0, none⟩) n cap, .int .i64 i, .slice (some ⟨vb, 0, none⟩) 1 1] w (RowPost base 140 1 w (.slice (some ⟨g, 0, none⟩) n cap) (n + 1) (xs.take i ++ [u] ++ xs.drop i)) := by
  have hov : ∀ o lb cb, (callFunc 104 #[.slice (some ⟨vb, 0, none⟩) 1 1, .slice (some ⟨g, o, none⟩) lb cb]).run Tryz.prog w = .ok (.value (.bool false)) w := fun o lb cb => overlaps_no w vb g u 140 cur.toArray 140 o lb cb hv hg hne (by rw [List.size_toArray]; omega)
  have hdl : (xs.drop i).length = n - i := by rw [List.length_drop, hxl]
  have hcp1 : ∀ ty dc sc, (Builtin.copy_ #[133, 133] ty #[.slice (some ⟨g, i + 1, none⟩) (n - i) dc, .slice (some ⟨g, i, none⟩) (n + 1 - i) sc]).run Tryz.prog w.drew = .ok (goInt (Nat.min (n + 1 - i) (n - i))) (w.drew.setRow g (splice cur (i + 1) (xs.drop i)).toArray) := fun ty dc sc =>
    run_copy_gen w.drew 133 133 ty 140 g (i + 1) _ dc ⟨g, i, none⟩ _ sc cur 140 (xs.drop i) 1 Tryz.underlying133 Tryz.elSize hg (by rw [hdl]; simp only [Nat.min_def]; split <;> omega)
      (fun j v hj => by
        rw [Addr.add_lit]
        show w.cell? _ = _
        rw [cell_of_row w g _ _ _ _ hg]
        rw [← hx, List.getElem?_drop, List.getElem?_take] at hj
        split at hj
        · simpa using hj
        · cases hj)
      (by rw [hdl]; omega) (fun v hv => h1 v (List.mem_of_mem_drop hv))
  obtain ⟨W1, hW1⟩ : ∃ W1, w.drew.setRow g (splice cur (i + 1) (xs.drop i)).toArray = W1 := ⟨_, rfl⟩
  have hl1 : (splice cur (i + 1) (xs.drop i)).length = cap := by rw [length_splice _ _ _ (by omega), hL]
  have hg1 : W1.heap[g]? = some (.cells (splice cur (i + 1) (xs.drop i)).toArray 140) := by rw [← hW1]; exact setRow_heap w.drew g _ _ _ _ hg
  have hv1 : W1.heap[vb]? = some (.cells #[u] 140) := by rw [← hW1]; exact (setRow_other w.drew g vb _ hne).trans hv
  have hcp2 : ∀ ty dc, (Builtin.copy_ #[133, 133] ty #[.slice (some ⟨g, i, none⟩) (n + 1 - i) dc, .slice (some ⟨vb, 0, none⟩) 1 1]).run Tryz.prog W1 = .ok (goInt (Nat.min 1 (n + 1 - i))) (W1.setRow g (splice (splice cur (i + 1) (xs.drop i)) i [u]).toArray) := fun ty dc =>
    run_copy_gen W1 133 133 ty 140 g i _ dc ⟨vb, 0, none⟩ 1 1 _ 140 [u] 1 Tryz.underlying133 Tryz.elSize hg1 (by simp only [Nat.min_def]; split <;> simp; omega)
      (fun j v hj => by
        rw [Addr.add_lit, cell_of_row W1 vb _ _ _ _ hv1]
        cases j with
        | zero => simpa using hj
        | succ j => simp at hj)
      (by rw [hl1]; simp; omega) (by intro v hv; simp at hv; subst hv; exact hu)
  have HT := Lib.hid (ins_room (L := cur) (xs := xs) (us := [u]) (n := n) (i := i) (s := 1) (cap := cap) (by simpa using hx) (by omega) (by omega) hr rfl)
  have HG1 := Lib.hid hg1
  have HL1 := Lib.hid hl1
  have HW1 := Lib.hid hW1
  rw [hW1] at hcp1
  have HLX := Lib.hid hxl
  clear hW1 hl1 hg1 hv1 hdl hx hv hg hL hxl
  have hin : i ≤ n := by omega
  have hz2 : ¬ ((i : Int) = (n : Int)) := by omega
  have hz3 : ¬ i = n := by omega
  have hb2 : ¬ (cap = i + 1) := by omega
  have hb4 : ¬ (cap = i) := by omega
  unfold maxLen at hm
  have hw1 : IntKind.i64.wrap ((i : Int) + 1) = (i : Int) + 1 := by rw [IntKind.wrap_i64]; omega
  have hb1 : (0 : Int) ≤ (i : Int) + 1 := by omega
  have htn : ((i : Int) + 1).toNat = i + 1 := by omega
  have hb3 : (i : Int) ≤ (n : Int) + 1 := by omega
  have hb5 : (i : Int) + 1 ≤ (n : Int) + 1 := by omega
  go_enter Tryz.func81, Tryz.ntmps81
  go_wp2_with (simp only [hov])
  go_region_law (refine step_copy_run rfl _ _ 133 133 rfl _ _ (by simp [Act.eval, Act.put]) (by simp [Act.eval, Act.put]) (hcp1 _ _ _) ?_)
  go_wp2_with (at_builtin; refine wpl_copy_run _ rfl _ _ 133 133 rfl _ _ rfl rfl (hcp2 _ _) ?_)
  go_ret
  have e0 : w.grownBy W1 (some g) := by rw [← HW1.out]; exact grownBy_setRow (grownBy_drew (grownBy_same w _))
  refine ⟨_, rfl, ⟨?_, .inr ⟨g, cap, _, rfl, hb, setRow_heap W1 g _ _ _ _ HG1.out, hr, by unfold maxLen; omega, ?_, ?_⟩⟩, grownBy_setRow e0, fun k hk => .inl hk⟩
  · have := HLX.out; simp; omega
  · rw [List.size_toArray, length_splice _ _ _ (by rw [HL1.out]; simp; omega), HL1.out, Nat.mul_one]
  · have h := HT.out
    simpa using h

set_option maxHeartbeats 4000000 in
set_option maxRecDepth 100000 in
theorem insert_grow (w : World) (base vb g i n cap : Nat) (u : Value) (cur : List Value) (xs : List Value) (hv : w.heap[vb]? = some (.cells #[u] 140)) (hg : w.heap[g]? = some (.cells cur.toArray 140)) (hb : base ≤ w.heap.size)
    (hx : cur.take n = xs) (hxl : xs.length = n) (hi : i < n) (hnc : n ≤ cap) (hr : cap < n + 1) (hbig : (n + 1) * 8 ≤ 140737488355328) (h1 : ∀ x ∈ xs, x.oneCell' = true) (hu : u.oneCell' = true) :
    Calls Tryz.prog 81 #[.slice (some ⟨g, 0, none⟩) n cap, .int .i64 i, .slice (some ⟨vb, 0, none⟩) 1 1] w (RowPost base 140 1 w (.slice (some ⟨g, 0, none⟩) n cap) (n + 1) (xs.take i ++ [u] ++ xs.drop i)) := by
  obtain ⟨i0, hi0, hz0, hzs, hzb⟩ := info_parts Tryz.rowT.info
  have hgw := block_lt hg
  have hvw := block_lt hv
  have hkk : (n : Int) + 1 - (i : Int) = ((n + 1 - i : Nat) : Int) := by omega
  have hik : i + (n + 1 - i) = n + 1 := by omega
  have hcs : ∀ j v, xs[j]? = some v → w.cell? ⟨g, j, none⟩ = some v := by
    intro j v hj
    rw [cell_of_row w g _ _ _ _ hg]
    rw [← hx, List.getElem?_take] at hj
    split at hj
    · simpa using hj
    · cases hj
  have hold : (Builtin.firstCells i0.size i (.slice (some ⟨g, 0, none⟩) i cap)).run Tryz.prog w.drew = .ok (xs.take i).toArray w.drew := by
    rw [hzs]
    exact run_firstCells_some w.drew 1 i ⟨g, 0, none⟩ i cap (xs.take i) (by rw [List.length_take]; omega) (fun j v hj => by
      rw [Addr.add_lit, Nat.zero_add]
      rw [List.getElem?_take] at hj
      split at hj
      · exact hcs j v hj
      · cases hj)
  have hrz0 := Lib.run_append_grow_zeros w 133 3 133 140 i0 _ .i64 .i64 Tryz.underlying133 Tryz.underlying3 hi0 hz0 (some ⟨g, 0, none⟩) i cap (xs.take i) hold (n + 1 - i) (by omega) (by omega) (by omega) (by omega) (by rw [hzb]; omega) (by rw [hzb, hik]; exact growslice_fits hr hbig)
  rw [hik] at hrz0
  have hGn : n + 1 ≤ grownCap w (n + 1) cap 140 := grownCap_ge w _ _ _
  have hG63 : grownCap w (n + 1) cap 140 ≤ maxLen := grownCap_le_maxLen w (n + 1) cap 140 (by unfold maxLen; omega)
  obtain ⟨G, hG⟩ : ∃ G, grownCap w (n + 1) cap 140 = G := ⟨_, rfl⟩
  rw [hG] at hrz0 hGn hG63
  obtain ⟨Z1, hZ1⟩ : ∃ Z1 : List Value, (Builtin.zeroCells (Value.pointer none).cells (n + 1 - i)).toList = Z1 := ⟨_, rfl⟩
  obtain ⟨Z2, hZ2⟩ : ∃ Z2 : List Value, (Builtin.zeroCells (Value.pointer none).cells (G - (n + 1))).toList = Z2 := ⟨_, rfl⟩
  have hl1 : Z1.length = n + 1 - i := by rw [← hZ1]; simp [Builtin.zeroCells, Value.cells]
  have hl2 : Z2.length = G - (n + 1) := by rw [← hZ2]; simp [Builtin.zeroCells, Value.cells]
  have hR : (xs.take i).toArray ++ Builtin.zeroCells (Value.pointer none).cells (n + 1 - i) ++ Builtin.zeroCells (Value.pointer none).cells (G - (n + 1)) = (xs.take i ++ Z1 ++ Z2).toArray := by
    rw [← hZ1, ← hZ2]; apply Array.toList_inj.1; simp
  rw [hR] at hrz0
  obtain ⟨R, hRd⟩ : ∃ R, xs.take i ++ Z1 ++ Z2 = R := ⟨_, rfl⟩
  have hRl : R.length = G := by rw [← hRd]; simp [hl1, hl2, hxl]; omega
  rw [hRd] at hrz0
  obtain ⟨W1, hW1⟩ : ∃ W1, w.drew.alloc (.cells R.toArray 140) = W1 := ⟨_, rfl⟩
  rw [hW1] at hrz0
  have hrz : ∀ ty, (Builtin.append_ #[133, 3] ty #[.slice (some ⟨g, 0, none⟩) i cap, .int .i64 ((n : Int) + 1 - (i : Int))]).run Tryz.prog w = .ok (.slice (some ⟨w.heap.size, 0, none⟩) (n + 1) G) W1 := by
    intro ty
    rw [hkk]
    exact hrz0
  obtain ⟨H, hH⟩ : ∃ H, w.heap.size = H := ⟨_, rfl⟩
  rw [hH] at hrz
  have hgr1 : w.grownBy W1 (some g) := by rw [← hW1]; exact grownBy_alloc (grownBy_drew (grownBy_same w _)) _
  have hgN : W1.heap[H]? = some (.cells R.toArray 140) := by rw [← hW1, ← hH]; exact heap_alloc_new w.drew _
  have hg1 : W1.heap[g]? = some (.cells cur.toArray 140) := by rw [← hW1]; exact (Below.heap_alloc w.drew _ _ hgw).trans hg
  have hv1 : W1.heap[vb]? = some (.cells #[u] 140) := by rw [← hW1]; exact (Below.heap_alloc w.drew _ _ hvw).trans hv
  have hcpA : ∀ ty dc, (Builtin.copy_ #[133, 133] ty #[.slice (some ⟨H, i, none⟩) (n + 1 - i) dc, .slice (some ⟨vb, 0, none⟩) 1 1]).run Tryz.prog W1 = .ok (goInt (Nat.min 1 (n + 1 - i))) (W1.setRow H (splice R i [u]).toArray) := fun ty dc =>
    run_copy_gen W1 133 133 ty 140 H i _ dc ⟨vb, 0, none⟩ 1 1 _ 140 [u] 1 Tryz.underlying133 Tryz.elSize hgN (by simp only [Nat.min_def]; split <;> simp; omega)
      (fun j v hj => by
        rw [Addr.add_lit, cell_of_row W1 vb _ _ _ _ hv1]
        cases j with
        | zero => simpa using hj
        | succ j => simp at hj)
      (by rw [hRl]; simp; omega) (by intro v hv; simp at hv; subst hv; exact hu)
  obtain ⟨W2, hW2⟩ : ∃ W2, W1.setRow H (splice R i [u]).toArray = W2 := ⟨_, rfl⟩
  have hgr2 : w.grownBy W2 (some g) := by rw [← hW2]; exact grownBy_new hgr1 (by omega)
  have hgN2 : W2.heap[H]? = some (.cells (splice R i [u]).toArray 140) := by rw [← hW2]; exact setRow_heap W1 H _ _ _ _ hgN
  have hg2 : W2.heap[g]? = some (.cells cur.toArray 140) := by rw [← hW2]; exact (setRow_other W1 H g _ (by omega)).trans hg1
  have hl3 : (splice R i [u]).length = G := by rw [length_splice _ _ _ (by rw [hRl]; simp; omega), hRl]
  rw [hW2] at hcpA
  have hdl : (xs.drop i).length = n - i := by rw [List.length_drop, hxl]
  have hcpB : ∀ ty dc sc, (Builtin.copy_ #[133, 133] ty #[.slice (some ⟨H, i + 1, none⟩) (n - i) dc, .slice (some ⟨g, i, none⟩) (n - i) sc]).run Tryz.prog W2.drew = .ok (goInt (Nat.min (n - i) (n - i))) (W2.drew.setRow H (splice (splice R i [u]) (i + 1) (xs.drop i)).toArray) := fun ty dc sc =>
    run_copy_gen W2.drew 133 133 ty 140 H (i + 1) _ dc ⟨g, i, none⟩ _ sc _ 140 (xs.drop i) 1 Tryz.underlying133 Tryz.elSize hgN2 (by rw [hdl]; simp)
      (fun j v hj => by
        rw [Addr.add_lit]
        show W2.cell? _ = _
        rw [cell_of_row W2 g _ _ _ _ hg2]
        rw [← hx, List.getElem?_drop, List.getElem?_take] at hj
        split at hj
        · simpa using hj
        · cases hj)
      (by rw [hdl, hl3]; omega) (fun v hv => h1 v (List.mem_of_mem_drop hv))
  have HT := Lib.hid (ins_grow (xs := xs) (us := [u]) (z1 := Z1) (z2 := Z2) (n := n) (i := i) (s := 1) (by omega) (by omega) rfl)
  have HRD := Lib.hid hRd
  have HL3 := Lib.hid hl3
  have HLX := Lib.hid hxl
  have HGN2 := Lib.hid hgN2
  have HGR2 := Lib.hid hgr2
  have HH := Lib.hid hH
  clear hW1 hW2 hgr1 hgr2 hgN hg1 hv1 hgN2 hg2 hl1 hl2 hl3 hRl hdl hx hxl hR hZ1 hZ2 hRd hrz0 hold hik hkk hcs hG hv hg hH
  have hin : i ≤ n := by omega
  have hz2 : ¬ ((i : Int) = (n : Int)) := by omega
  have hz3 : ¬ i = n := by omega
  have hb6 : (cap : Int) < (n : Int) + 1 := by omega
  have hb2 : ¬ (G = i + 1) := by omega
  have hb4 : ¬ (G = i) := by omega
  have hb7 : ¬ (cap = i) := by omega
  unfold maxLen at hG63
  have hw1 : IntKind.i64.wrap ((i : Int) + 1) = (i : Int) + 1 := by rw [IntKind.wrap_i64]; omega
  have hb1 : (0 : Int) ≤ (i : Int) + 1 := by omega
  have htn : ((i : Int) + 1).toNat = i + 1 := by omega
  have hb3 : (i : Int) ≤ (n : Int) + 1 := by omega
  have hb5 : (i : Int) + 1 ≤ (n : Int) + 1 := by omega
  go_enter Tryz.func81, Tryz.ntmps81
  go_wp2_with (first
    | (at_builtin; refine Lib.wpList_append_run _ rfl _ _ _ _ rfl _ _ rfl rfl _ _ (hrz _) ?_)
    | (at_builtin; refine wpl_copy_run _ rfl _ _ 133 133 rfl _ _ rfl rfl (hcpA _ _) ?_))
  go_region_law (refine step_copy_run rfl _ _ 133 133 rfl _ _ (by simp [Act.eval, Act.put]) (by simp [Act.eval, Act.put]) (hcpB _ _ _) ?_)
  go_wp2_with fail
  go_ret
  refine ⟨_, rfl, ⟨?_, .inr ⟨H, G, _, rfl, ?_, setRow_heap W2.drew H _ _ _ _ HGN2.out, by omega, by unfold maxLen; omega, ?_, ?_⟩⟩, grownBy_new (grownBy_drew HGR2.out) (Nat.le_of_eq HH.out), fun k hk => .inr (by cases hk; exact Nat.le_of_eq HH.out)⟩
  · have := HLX.out; simp; omega
  · rw [← HH.out]; exact hb
  · rw [List.size_toArray, length_splice _ _ _ (by rw [HL3.out, List.length_drop, HLX.out]; omega), HL3.out, Nat.mul_one]
  · have h := HT.out
    rw [← HRD.out]
    simpa using h

set_option maxHeartbeats 1000000 in
set_option maxRecDepth 100000 in
theorem insert_any (w : World) (base vb i n : Nat) (v u : Value) (xs : List Value) (hown : w.ownsRow base 140 1 v n xs) (hv : w.heap[vb]? = some (.cells #[u] 140)) (hne : v.ownBlock ≠ some vb) (hb : base ≤ w.heap.size) (hi : i ≤ n)
    (hbig : (n + 1) * 8 ≤ 140737488355328) (h1 : ∀ x ∈ xs, x.oneCell' = true) (hu : u.oneCell' = true) :
    Calls Tryz.prog 81 #[v, .int .i64 i, .slice (some ⟨vb, 0, none⟩) 1 1] w (RowPost base 140 1 w v (n + 1) (xs.take i ++ [u] ++ xs.drop i)) := by
  by_cases hin : i = n
  · subst hin
    have hxl : xs.length = i := by have := hown.1; omega
    have HT := Lib.hid (show xs.take i ++ [u] ++ xs.drop i = xs ++ [u] by rw [List.take_of_length_le (by omega), List.drop_eq_nil_of_le (by omega), List.append_nil])
    have hrd : Rd w (some ⟨vb, 0, none⟩) [u] := by
      intro j x hx
      cases j with
      | zero => simp at hx; subst hx; exact ⟨hu, _, rfl, cell_of_row w vb 0 _ _ _ hv⟩
      | succ j => simp at hx
    obtain ⟨v', w', hr, r1, r2, _, r4⟩ := run_append Tryz.rowT 133 base hown (ad := some ⟨vb, 0, none⟩) (m := 1) (c := 1) (by simp) rfl hrd hbig hb
    have HP := Lib.hid (show RowPost base 140 1 w v (i + 1) (xs.take i ++ [u] ++ xs.drop i) (.returned v') w' from ⟨v', rfl, by rw [HT.out]; exact r1, r2, r4⟩)
    have hcap : ∀ a c, v = .slice a i c → i ≤ c ∧ c ≤ maxLen := by
      rintro a c rfl
      rcases hown.2 with ⟨h, h0⟩ | ⟨g, cap, cur, h, _, _, hnc, hcm, _⟩
      · cases h; exact ⟨Nat.le_refl _, by unfold maxLen; omega⟩
      · cases h; exact ⟨hnc, hcm⟩
    obtain ⟨a, c, rfl, hrd2⟩ := ownsRow_rd hown h1
    obtain ⟨hc1, hc2⟩ := hcap a c rfl
    unfold maxLen at hc2
    have hr2 : ∀ ty, (Builtin.append_ #[133, 133] ty #[.slice a i c, .slice (some ⟨vb, 0, none⟩) 1 1]).run Tryz.prog w = .ok v' w' := by
      intro ty
      obtain ⟨v2, w2, hr2, -⟩ := run_append Tryz.rowT ty base hown (ad := some ⟨vb, 0, none⟩) (m := 1) (c := 1) (by simp) rfl hrd hbig hb
      rw [show (Builtin.append_ #[133, 133] ty #[.slice a i c, .slice (some ⟨vb, 0, none⟩) 1 1]) = (Builtin.append_ #[133, 133] 133 #[.slice a i c, .slice (some ⟨vb, 0, none⟩) 1 1]) from rfl]
      exact hr
    clear hrd hrd2 r1 r2 r4 hown hv hne h1 hxl hcap hr
    by_cases hci : c = i
    · subst hci
      go_enter Tryz.func81, Tryz.ntmps81
      go_wp2_with (at_builtin; refine Lib.wpList_append_run _ rfl _ _ _ _ rfl _ _ rfl rfl _ _ (hr2 _) ?_)
      go_ret
      have h := HP.out
      simpa using h
    · go_enter Tryz.func81, Tryz.ntmps81
      go_wp2_with (at_builtin; refine Lib.wpList_append_run _ rfl _ _ _ _ rfl _ _ rfl rfl _ _ (hr2 _) ?_)
      go_ret
      have h := HP.out
      simpa using h
  · have hilt : i < n := by omega
    rcases hown.2 with ⟨rfl, h0⟩ | ⟨g, cap, cur, rfl, hbg, hg, hnc, hcm, hcs, htake⟩
    · omega
    · have hng : vb ≠ g := fun e => hne (by subst e; rfl)
      by_cases hr : n + 1 ≤ cap
      · exact insert_shift w base vb g i n cap u cur.toList xs hv (by simpa using hg) hng hbg (by simpa using htake) (by have := hown.1; omega) (by simpa using hcs) hilt hr hcm h1 hu
      · exact insert_grow w base vb g i n cap u cur.toList xs hv (by simpa using hg) hb (by simpa using htake) (by have := hown.1; omega) hilt hnc (by omega) hbig h1 hu
end Go.Proofs.YteiklgbjjmlmaaaGreat


/- slices.Delete of one element, at a row of pointers. -/
namespace Go.Proofs.YteiklgbjjmlmaaaGreat
open Go.RowKit Pantry

end Go.Proofs.YteiklgbjjmlmaaaGreat
