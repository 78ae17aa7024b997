
/- slices.Insert at a row of members with scores (two cells each). -/
import Derived.Test.YteiklgbjjmlmaaaGreatRows
import Derived.Test.YteiklgbjjmlmaaaGreatZDHash
import Derived.Deep.DeepCutAuto
import Derived.Lib.AppendZerosOnto
set_option linter.unusedVariables false
set_option linter.unusedSimpArgs false
namespace Pantry
open Go Go.RowKit
/-- A row of its own was returned; of the old blocks only the old row's may have changed. -/
def RowPostR (base e size : Nat) (w : World) (v : Value) (n : Nat) (ys : List Value) (x : Ending) (w' : World) : Prop :=
  ∃ v', x = .returned v' ∧ w'.ownsRow base e size v' n ys ∧ w.grownBy w' v.ownBlock ∧ ∀ k, v'.ownBlock = some k → v.ownBlock = some k ∨ w.heap.size ≤ k
theorem grownBy_setRowR {w w0 : World} {g : Nat} {c : Array Value} (h : w0.grownBy w (some g)) : w0.grownBy (w.setRow g c) (some g) :=
  ⟨h.os, h.tape, h.output, by simpa [World.setRow] using h.size, fun k hk hne => (setRow_other w g k c (fun e => hne (by rw [e]))).trans (h.block k hk hne)⟩
theorem grownBy_newR {w w0 : World} {row : Option Nat} {g : Nat} {c : Array Value} (h : w0.grownBy w row) (hg : w0.heap.size ≤ g) : w0.grownBy (w.setRow g c) row :=
  ⟨h.os, h.tape, h.output, by simpa [World.setRow] using h.size, fun k hk hne => (setRow_other w g k c (by omega)).trans (h.block k hk hne)⟩
theorem grownBy_sameR (w : World) (row : Option Nat) : w.grownBy w row := ⟨rfl, rfl, rfl, Nat.le_refl _, fun _ _ _ => rfl⟩
theorem grownBy_drewR {w w0 : World} {row : Option Nat} (h : w0.grownBy w row) : w0.grownBy w.drew row := ⟨h.os, h.tape, h.output, h.size, h.block⟩
theorem grownBy_allocR {w w0 : World} {row : Option Nat} (h : w0.grownBy w row) (o : Obj) : w0.grownBy (w.alloc o) row :=
  ⟨h.os, h.tape, h.output, by simp; have := h.size; omega, fun k hk hne => (Below.heap_alloc w o k (by have := h.size; omega)).trans (h.block k hk hne)⟩
end Pantry
namespace Go.Proofs.YteiklgbjjmlmaaaGreat
open Go.RowKit Pantry

def zRk : Value := .agg #[.string ⟨#[]⟩, .float .f64 0]
theorem Tryz.rowTR : ElemT Tryz.prog 47 54 2 24 zRk := ⟨Tryz.underlying47, by kernel_rfl, rfl, by decide, by decide⟩
theorem Tryz.elSizeR : (Tryz.prog.info? 54).map (·.size) = some 2 := by kernel_rfl

/-- Two slices in two blocks of plain cells do not overlap. -/
theorem overlaps_noR (w : World) (vb g : Nat) (u u2 : Value) (te : TypeId) (cur : Array Value) (tt : TypeId) (o n c : Nat) (hv : w.heap[vb]? = some (.cells #[u, u2] te)) (hg : w.heap[g]? = some (.cells cur tt)) (hne : vb ≠ g) (hc : cur.size ≠ 0) :
    (callFunc 123 #[.slice (some ⟨vb, 0, none⟩) 1 1, .slice (some ⟨g, o, none⟩) n c]).run Tryz.prog w = .ok (.value (.bool false)) w := by
  rw [run_callFunc_extern Tryz.func123 (by kernel_rfl) (by kernel_rfl) (by kernel_rfl) (e := Extern.SlicesOverlaps.overlaps #[47, 47] #[4]) (by kernel_rfl),
    Lib.run_overlaps_apart w 47 4 54 Tryz.underlying47 2 (fun w => by kernel_rfl) ⟨vb, 0, none⟩ ⟨g, o, none⟩ 1 1 n c hne te tt 2 cur.size (by simp [World.shape?, hv]) (by simp [World.shape?, hg]) hc (frozen_of_row w vb 0 _ _ hv) (frozen_of_row w vb 2 _ _ hv)]
  rfl

set_option maxHeartbeats 4000000 in
set_option maxRecDepth 100000 in
theorem insert_shiftR (w : World) (base vb g i n cap : Nat) (u u2 : Value) (cur : List Value) (xs : List Value) (hv : w.heap[vb]? = some (.cells #[u, u2] 54)) (hg : w.heap[g]? = some (.cells cur.toArray 54)) (hne : vb ≠ g) (hb : base ≤ g)
    (hx : cur.take (n * 2) = xs) (hxl : xs.length = n * 2) (hL : cur.length = cap * 2) (hi : i < n) (hr : n + 1 ≤ cap) (hm : cap ≤ maxLen) (h1 : ∀ x ∈ xs, x.oneCell' = true) (hu : u.oneCell' = true) (hu2 : u2.oneCell' = true) :
    Calls Tryz.prog 95 #[.slice (some ⟨g, 0, none⟩) n cap, .int .i64 i, .slice (some ⟨vb, 0, none⟩) 1 1] w (RowPostR base 54 2 w (.slice (some ⟨g, 0, none⟩) n cap) (n + 1) (xs.take (i * 2) ++ [u, u2] ++ xs.drop (i * 2))) := by
  have hov : ∀ o lb cb, (callFunc 123 #[.slice (some ⟨vb, 0, none⟩) 1 1, .slice (some ⟨g, o, none⟩) lb cb]).run Tryz.prog w = .ok (.value (.bool false)) w := fun o lb cb => overlaps_noR w vb g u u2 54 cur.toArray 54 o lb cb hv hg hne (by rw [List.size_toArray]; omega)
  have hdl : (xs.drop (i * 2)).length = n * 2 - i * 2 := by rw [List.length_drop, hxl]
  have hcp1 : ∀ ty dc sc, (Builtin.copy_ #[47, 47] ty #[.slice (some ⟨g, (i + 1) * 2, none⟩) (n - i) dc, .slice (some ⟨g, i * 2, none⟩) (n + 1 - i) sc]).run Tryz.prog w.drew = .ok (goInt (Nat.min (n + 1 - i) (n - i))) (w.drew.setRow g (splice cur ((i + 1) * 2) (xs.drop (i * 2))).toArray) := fun ty dc sc =>
    run_copy_gen w.drew 47 47 ty 54 g ((i + 1) * 2) _ dc ⟨g, i * 2, none⟩ _ sc cur 54 (xs.drop (i * 2)) 2 Tryz.underlying47 Tryz.elSizeR hg (by rw [hdl]; simp only [Nat.min_def]; split <;> omega)
      (fun j v hj => by
        rw [Addr.add_lit]
        show w.cell? _ = _
        rw [cell_of_row w g _ _ _ _ hg]
        rw [← hx, List.getElem?_drop, List.getElem?_take] at hj
        split at hj
        · simpa using hj
        · cases hj)
      (by rw [hdl]; omega) (fun v hv => h1 v (List.mem_of_mem_drop hv))
  obtain ⟨W1, hW1⟩ : ∃ W1, w.drew.setRow g (splice cur ((i + 1) * 2) (xs.drop (i * 2))).toArray = W1 := ⟨_, rfl⟩
  have hl1 : (splice cur ((i + 1) * 2) (xs.drop (i * 2))).length = cap * 2 := by rw [length_splice _ _ _ (by omega), hL]
  have hg1 : W1.heap[g]? = some (.cells (splice cur ((i + 1) * 2) (xs.drop (i * 2))).toArray 54) := by rw [← hW1]; exact setRow_heap w.drew g _ _ _ _ hg
  have hv1 : W1.heap[vb]? = some (.cells #[u, u2] 54) := by rw [← hW1]; exact (setRow_other w.drew g vb _ hne).trans hv
  have hcp2 : ∀ ty dc, (Builtin.copy_ #[47, 47] ty #[.slice (some ⟨g, i * 2, none⟩) (n + 1 - i) dc, .slice (some ⟨vb, 0, none⟩) 1 1]).run Tryz.prog W1 = .ok (goInt (Nat.min 1 (n + 1 - i))) (W1.setRow g (splice (splice cur ((i + 1) * 2) (xs.drop (i * 2))) (i * 2) [u, u2]).toArray) := fun ty dc =>
    run_copy_gen W1 47 47 ty 54 g (i * 2) _ dc ⟨vb, 0, none⟩ 1 1 _ 54 [u, u2] 2 Tryz.underlying47 Tryz.elSizeR hg1 (by simp only [Nat.min_def]; split <;> simp; omega)
      (fun j v hj => by
        rw [Addr.add_lit, cell_of_row W1 vb _ _ _ _ hv1]
        match j, hj with
        | 0, hj => simpa using hj
        | 1, hj => simpa using hj
        | j + 2, hj => simp at hj)
      (by rw [hl1]; simp; omega) (by intro v hv; simp at hv; rcases hv with rfl | rfl <;> assumption)
  have HT := Lib.hid (ins_room (L := cur) (xs := xs) (us := [u, u2]) (n := n) (i := i) (s := 2) (cap := cap) (by simpa using hx) (by omega) (by omega) hr rfl)
  have HG1 := Lib.hid hg1
  have HL1 := Lib.hid hl1
  have HW1 := Lib.hid hW1
  rw [hW1] at hcp1
  have HLX := Lib.hid hxl
  clear hW1 hl1 hg1 hv1 hdl hx hv hg hL hxl
  have hin : i ≤ n := by omega
  have hz2 : ¬ ((i : Int) = (n : Int)) := by omega
  have hz3 : ¬ i = n := by omega
  have hb2 : ¬ (cap = i + 1) := by omega
  have hb4 : ¬ (cap = i) := by omega
  unfold maxLen at hm
  have hw1 : IntKind.i64.wrap ((i : Int) + 1) = (i : Int) + 1 := by rw [IntKind.wrap_i64]; omega
  have hb1 : (0 : Int) ≤ (i : Int) + 1 := by omega
  have htn : ((i : Int) + 1).toNat = i + 1 := by omega
  have hb3 : (i : Int) ≤ (n : Int) + 1 := by omega
  have hb5 : (i : Int) + 1 ≤ (n : Int) + 1 := by omega
  go_enter Tryz.func95, Tryz.ntmps95
  go_wp2_with (simp only [hov])
  go_region_law (refine step_copy_run rfl _ _ 47 47 rfl _ _ (by simp [Act.eval, Act.put]) (by simp [Act.eval, Act.put]) (hcp1 _ _ _) ?_)
  go_wp2_with (at_builtin; refine wpl_copy_run _ rfl _ _ 47 47 rfl _ _ rfl rfl (hcp2 _ _) ?_)
  go_ret
  have e0 : w.grownBy W1 (some g) := by rw [← HW1.out]; exact grownBy_setRowR (grownBy_drewR (grownBy_sameR w _))
  refine ⟨_, rfl, ⟨?_, .inr ⟨g, cap, _, rfl, hb, setRow_heap W1 g _ _ _ _ HG1.out, hr, by unfold maxLen; omega, ?_, ?_⟩⟩, grownBy_setRowR e0, fun k hk => .inl hk⟩
  · have := HLX.out; simp; omega
  · rw [List.size_toArray, length_splice _ _ _ (by rw [HL1.out]; simp; omega), HL1.out]
  · have h := HT.out
    simpa using h

set_option maxHeartbeats 4000000 in
set_option maxRecDepth 100000 in
theorem insert_growR (w : World) (base vb g i n cap : Nat) (u u2 : Value) (cur : List Value) (xs : List Value) (hv : w.heap[vb]? = some (.cells #[u, u2] 54)) (hg : w.heap[g]? = some (.cells cur.toArray 54)) (hb : base ≤ w.heap.size)
    (hx : cur.take (n * 2) = xs) (hxl : xs.length = n * 2) (hi : i < n) (hnc : n ≤ cap) (hr : cap < n + 1) (hbig : (n + 1) * 24 ≤ 140737488355328) (h1 : ∀ x ∈ xs, x.oneCell' = true) (hu : u.oneCell' = true) (hu2 : u2.oneCell' = true) :
    Calls Tryz.prog 95 #[.slice (some ⟨g, 0, none⟩) n cap, .int .i64 i, .slice (some ⟨vb, 0, none⟩) 1 1] w (RowPostR base 54 2 w (.slice (some ⟨g, 0, none⟩) n cap) (n + 1) (xs.take (i * 2) ++ [u, u2] ++ xs.drop (i * 2))) := by
  obtain ⟨i0, hi0, hz0, hzs, hzb⟩ := info_parts Tryz.rowTR.info
  have hgw := block_lt hg
  have hvw := block_lt hv
  have hkk : (n : Int) + 1 - (i : Int) = ((n + 1 - i : Nat) : Int) := by omega
  have hik : i + (n + 1 - i) = n + 1 := by omega
  have hcs : ∀ j v, xs[j]? = some v → w.cell? ⟨g, j, none⟩ = some v := by
    intro j v hj
    rw [cell_of_row w g _ _ _ _ hg]
    rw [← hx, List.getElem?_take] at hj
    split at hj
    · simpa using hj
    · cases hj
  have hold : (Builtin.firstCells i0.size i (.slice (some ⟨g, 0, none⟩) i cap)).run Tryz.prog w.drew = .ok (xs.take (i * 2)).toArray w.drew := by
    rw [hzs]
    exact run_firstCells_some w.drew 2 i ⟨g, 0, none⟩ i cap (xs.take (i * 2)) (by rw [List.length_take]; omega) (fun j v hj => by
      rw [Addr.add_lit, Nat.zero_add]
      rw [List.getElem?_take] at hj
      split at hj
      · exact hcs j v hj
      · cases hj)
  have hrz0 := Lib.run_append_grow_zeros w 47 3 47 54 i0 _ .i64 .i64 Tryz.underlying47 Tryz.underlying3 hi0 hz0 (some ⟨g, 0, none⟩) i cap (xs.take (i * 2)) hold (n + 1 - i) (by omega) (by omega) (by omega) (by omega) (by rw [hzb]; omega) (by rw [hzb, hik]; exact growslice_fits hr hbig)
  rw [hik] at hrz0
  have hGn : n + 1 ≤ grownCap w (n + 1) cap 54 := grownCap_ge w _ _ _
  have hG63 : grownCap w (n + 1) cap 54 ≤ maxLen := grownCap_le_maxLen w (n + 1) cap 54 (by unfold maxLen; omega)
  obtain ⟨G, hG⟩ : ∃ G, grownCap w (n + 1) cap 54 = G := ⟨_, rfl⟩
  rw [hG] at hrz0 hGn hG63
  obtain ⟨Z1, hZ1⟩ : ∃ Z1 : List Value, (Builtin.zeroCells zRk.cells (n + 1 - i)).toList = Z1 := ⟨_, rfl⟩
  obtain ⟨Z2, hZ2⟩ : ∃ Z2 : List Value, (Builtin.zeroCells zRk.cells (G - (n + 1))).toList = Z2 := ⟨_, rfl⟩
  have hl1 : Z1.length = (n + 1 - i) * 2 := by rw [← hZ1]; simp [Builtin.zeroCells, zRk, Value.cells]
  have hl2 : Z2.length = (G - (n + 1)) * 2 := by rw [← hZ2]; simp [Builtin.zeroCells, zRk, Value.cells]
  have hR : (xs.take (i * 2)).toArray ++ Builtin.zeroCells zRk.cells (n + 1 - i) ++ Builtin.zeroCells zRk.cells (G - (n + 1)) = (xs.take (i * 2) ++ Z1 ++ Z2).toArray := by
    rw [← hZ1, ← hZ2]; apply Array.toList_inj.1; simp
  rw [hR] at hrz0
  obtain ⟨R, hRd⟩ : ∃ R, xs.take (i * 2) ++ Z1 ++ Z2 = R := ⟨_, rfl⟩
  have hRl : R.length = G * 2 := by rw [← hRd]; simp [hl1, hl2, hxl]; omega
  rw [hRd] at hrz0
  obtain ⟨W1, hW1⟩ : ∃ W1, w.drew.alloc (.cells R.toArray 54) = W1 := ⟨_, rfl⟩
  rw [hW1] at hrz0
  have hrz : ∀ ty, (Builtin.append_ #[47, 3] ty #[.slice (some ⟨g, 0, none⟩) i cap, .int .i64 ((n : Int) + 1 - (i : Int))]).run Tryz.prog w = .ok (.slice (some ⟨w.heap.size, 0, none⟩) (n + 1) G) W1 := by
    intro ty
    rw [hkk]
    exact hrz0
  obtain ⟨H, hH⟩ : ∃ H, w.heap.size = H := ⟨_, rfl⟩
  rw [hH] at hrz
  have hgr1 : w.grownBy W1 (some g) := by rw [← hW1]; exact grownBy_allocR (grownBy_drewR (grownBy_sameR w _)) _
  have hgN : W1.heap[H]? = some (.cells R.toArray 54) := by rw [← hW1, ← hH]; exact heap_alloc_new w.drew _
  have hg1 : W1.heap[g]? = some (.cells cur.toArray 54) := by rw [← hW1]; exact (Below.heap_alloc w.drew _ _ hgw).trans hg
  have hv1 : W1.heap[vb]? = some (.cells #[u, u2] 54) := by rw [← hW1]; exact (Below.heap_alloc w.drew _ _ hvw).trans hv
  have hcpA : ∀ ty dc, (Builtin.copy_ #[47, 47] ty #[.slice (some ⟨H, i * 2, none⟩) (n + 1 - i) dc, .slice (some ⟨vb, 0, none⟩) 1 1]).run Tryz.prog W1 = .ok (goInt (Nat.min 1 (n + 1 - i))) (W1.setRow H (splice R (i * 2) [u, u2]).toArray) := fun ty dc =>
    run_copy_gen W1 47 47 ty 54 H (i * 2) _ dc ⟨vb, 0, none⟩ 1 1 _ 54 [u, u2] 2 Tryz.underlying47 Tryz.elSizeR hgN (by simp only [Nat.min_def]; split <;> simp; omega)
      (fun j v hj => by
        rw [Addr.add_lit, cell_of_row W1 vb _ _ _ _ hv1]
        match j, hj with
        | 0, hj => simpa using hj
        | 1, hj => simpa using hj
        | j + 2, hj => simp at hj)
      (by rw [hRl]; simp; omega) (by intro v hv; simp at hv; rcases hv with rfl | rfl <;> assumption)
  obtain ⟨W2, hW2⟩ : ∃ W2, W1.setRow H (splice R (i * 2) [u, u2]).toArray = W2 := ⟨_, rfl⟩
  have hgr2 : w.grownBy W2 (some g) := by rw [← hW2]; exact grownBy_newR hgr1 (by omega)
  have hgN2 : W2.heap[H]? = some (.cells (splice R (i * 2) [u, u2]).toArray 54) := by rw [← hW2]; exact setRow_heap W1 H _ _ _ _ hgN
  have hg2 : W2.heap[g]? = some (.cells cur.toArray 54) := by rw [← hW2]; exact (setRow_other W1 H g _ (by omega)).trans hg1
  have hl3 : (splice R (i * 2) [u, u2]).length = G * 2 := by rw [length_splice _ _ _ (by rw [hRl]; simp; omega), hRl]
  rw [hW2] at hcpA
  have hdl : (xs.drop (i * 2)).length = n * 2 - i * 2 := by rw [List.length_drop, hxl]
  have hcpB : ∀ ty dc sc, (Builtin.copy_ #[47, 47] ty #[.slice (some ⟨H, (i + 1) * 2, none⟩) (n - i) dc, .slice (some ⟨g, i * 2, none⟩) (n - i) sc]).run Tryz.prog W2.drew = .ok (goInt (Nat.min (n - i) (n - i))) (W2.drew.setRow H (splice (splice R (i * 2) [u, u2]) ((i + 1) * 2) (xs.drop (i * 2))).toArray) := fun ty dc sc =>
    run_copy_gen W2.drew 47 47 ty 54 H ((i + 1) * 2) _ dc ⟨g, i * 2, none⟩ _ sc _ 54 (xs.drop (i * 2)) 2 Tryz.underlying47 Tryz.elSizeR hgN2 (by rw [hdl]; simp; omega)
      (fun j v hj => by
        rw [Addr.add_lit]
        show W2.cell? _ = _
        rw [cell_of_row W2 g _ _ _ _ hg2]
        rw [← hx, List.getElem?_drop, List.getElem?_take] at hj
        split at hj
        · simpa using hj
        · cases hj)
      (by rw [hdl, hl3]; omega) (fun v hv => h1 v (List.mem_of_mem_drop hv))
  have HT := Lib.hid (ins_grow (xs := xs) (us := [u, u2]) (z1 := Z1) (z2 := Z2) (n := n) (i := i) (s := 2) (by omega) (by omega) rfl)
  have HRD := Lib.hid hRd
  have HL3 := Lib.hid hl3
  have HLX := Lib.hid hxl
  have HGN2 := Lib.hid hgN2
  have HGR2 := Lib.hid hgr2
  have HH := Lib.hid hH
  clear hW1 hW2 hgr1 hgr2 hgN hg1 hv1 hgN2 hg2 hl1 hl2 hl3 hRl hdl hx hxl hR hZ1 hZ2 hRd hrz0 hold hik hkk hcs hG hv hg hH
  have hin : i ≤ n := by omega
  have hz2 : ¬ ((i : Int) = (n : Int)) := by omega
  have hz3 : ¬ i = n := by omega
  have hb6 : (cap : Int) < (n : Int) + 1 := by omega
  have hb2 : ¬ (G = i + 1) := by omega
  have hb4 : ¬ (G = i) := by omega
  have hb7 : ¬ (cap = i) := by omega
  unfold maxLen at hG63
  have hw1 : IntKind.i64.wrap ((i : Int) + 1) = (i : Int) + 1 := by rw [IntKind.wrap_i64]; omega
  have hb1 : (0 : Int) ≤ (i : Int) + 1 := by omega
  have htn : ((i : Int) + 1).toNat = i + 1 := by omega
  have hb3 : (i : Int) ≤ (n : Int) + 1 := by omega
  have hb5 : (i : Int) + 1 ≤ (n : Int) + 1 := by omega
  go_enter Tryz.func95, Tryz.ntmps95
  go_wp2_with (first
    | (at_builtin; refine Lib.wpList_append_run _ rfl _ _ _ _ rfl _ _ rfl rfl _ _ (hrz _) ?_)
    | (at_builtin; refine wpl_copy_run _ rfl _ _ 47 47 rfl _ _ rfl rfl (hcpA _ _) ?_))
  go_region_law (refine step_copy_run rfl _ _ 47 47 rfl _ _ (by simp [Act.eval, Act.put]) (by simp [Act.eval, Act.put]) (hcpB _ _ _) ?_)
  go_wp2_with fail
  go_ret
  refine ⟨_, rfl, ⟨?_, .inr ⟨H, G, _, rfl, ?_, setRow_heap W2.drew H _ _ _ _ HGN2.out, by omega, by unfold maxLen; omega, ?_, ?_⟩⟩, grownBy_newR (grownBy_drewR HGR2.out) (Nat.le_of_eq HH.out), fun k hk => .inr (by cases hk; exact Nat.le_of_eq HH.out)⟩
  · have := HLX.out; simp; omega
  · rw [← HH.out]; exact hb
  · rw [List.size_toArray, length_splice _ _ _ (by rw [HL3.out, List.length_drop, HLX.out]; omega), HL3.out]
  · have h := HT.out
    rw [← HRD.out]
    simpa using h

set_option maxHeartbeats 1000000 in
set_option maxRecDepth 100000 in
theorem insert_anyR (w : World) (base vb i n : Nat) (v u u2 : Value) (xs : List Value) (hown : w.ownsRow base 54 2 v n xs) (hv : w.heap[vb]? = some (.cells #[u, u2] 54)) (hne : v.ownBlock ≠ some vb) (hb : base ≤ w.heap.size) (hi : i ≤ n)
    (hbig : (n + 1) * 24 ≤ 140737488355328) (h1 : ∀ x ∈ xs, x.oneCell' = true) (hu : u.oneCell' = true) (hu2 : u2.oneCell' = true) :
    Calls Tryz.prog 95 #[v, .int .i64 i, .slice (some ⟨vb, 0, none⟩) 1 1] w (RowPostR base 54 2 w v (n + 1) (xs.take (i * 2) ++ [u, u2] ++ xs.drop (i * 2))) := by
  by_cases hin : i = n
  · subst hin
    have hxl : xs.length = i * 2 := by have := hown.1; omega
    have HT := Lib.hid (show xs.take (i * 2) ++ [u, u2] ++ xs.drop (i * 2) = xs ++ [u, u2] by rw [List.take_of_length_le (by omega), List.drop_eq_nil_of_le (by omega), List.append_nil])
    have hrd : Rd w (some ⟨vb, 0, none⟩) [u, u2] := by
      intro j x hx
      match j, hx with
      | 0, hx => simp at hx; subst hx; exact ⟨hu, _, rfl, cell_of_row w vb 0 _ _ _ hv⟩
      | 1, hx => simp at hx; subst hx; exact ⟨hu2, _, rfl, cell_of_row w vb 1 _ _ _ hv⟩
      | j + 2, hx => simp at hx
    obtain ⟨v', w', hr, r1, r2, _, r4⟩ := run_append Tryz.rowTR 47 base hown (ad := some ⟨vb, 0, none⟩) (m := 1) (c := 1) (by simp) rfl hrd hbig hb
    have HP := Lib.hid (show RowPostR base 54 2 w v (i + 1) (xs.take (i * 2) ++ [u, u2] ++ xs.drop (i * 2)) (.returned v') w' from ⟨v', rfl, by rw [HT.out]; exact r1, r2, r4⟩)
    have hcap : ∀ a c, v = .slice a i c → i ≤ c ∧ c ≤ maxLen := by
      rintro a c rfl
      rcases hown.2 with ⟨h, h0⟩ | ⟨g, cap, cur, h, _, _, hnc, hcm, _⟩
      · cases h; exact ⟨Nat.le_refl _, by unfold maxLen; omega⟩
      · cases h; exact ⟨hnc, hcm⟩
    obtain ⟨a, c, rfl, hrd2⟩ := ownsRow_rd hown h1
    obtain ⟨hc1, hc2⟩ := hcap a c rfl
    unfold maxLen at hc2
    have hr2 : ∀ ty, (Builtin.append_ #[47, 47] ty #[.slice a i c, .slice (some ⟨vb, 0, none⟩) 1 1]).run Tryz.prog w = .ok v' w' := by
      intro ty
      obtain ⟨v2, w2, hr2, -⟩ := run_append Tryz.rowTR ty base hown (ad := some ⟨vb, 0, none⟩) (m := 1) (c := 1) (by simp) rfl hrd hbig hb
      rw [show (Builtin.append_ #[47, 47] ty #[.slice a i c, .slice (some ⟨vb, 0, none⟩) 1 1]) = (Builtin.append_ #[47, 47] 47 #[.slice a i c, .slice (some ⟨vb, 0, none⟩) 1 1]) from rfl]
      exact hr
    clear hrd hrd2 r1 r2 r4 hown hv hne h1 hxl hcap hr
    by_cases hci : c = i
    · subst hci
      go_enter Tryz.func95, Tryz.ntmps95
      go_wp2_with (at_builtin; refine Lib.wpList_append_run _ rfl _ _ _ _ rfl _ _ rfl rfl _ _ (hr2 _) ?_)
      go_ret
      have h := HP.out
      simpa using h
    · go_enter Tryz.func95, Tryz.ntmps95
      go_wp2_with (at_builtin; refine Lib.wpList_append_run _ rfl _ _ _ _ rfl _ _ rfl rfl _ _ (hr2 _) ?_)
      go_ret
      have h := HP.out
      simpa using h
  · have hilt : i < n := by omega
    rcases hown.2 with ⟨rfl, h0⟩ | ⟨g, cap, cur, rfl, hbg, hg, hnc, hcm, hcs, htake⟩
    · omega
    · have hng : vb ≠ g := fun e => hne (by subst e; rfl)
      by_cases hr : n + 1 ≤ cap
      · exact insert_shiftR w base vb g i n cap u u2 cur.toList xs hv (by simpa using hg) hng hbg (by simpa using htake) (by have := hown.1; omega) (by simpa using hcs) hilt hr hcm h1 hu hu2
      · exact insert_growR w base vb g i n cap u u2 cur.toList xs hv (by simpa using hg) hb (by simpa using htake) (by have := hown.1; omega) hilt hnc (by omega) hbig h1 hu hu2
end Go.Proofs.YteiklgbjjmlmaaaGreat


/- slices.Delete of one element, at a row of members with scores. -/
set_option linter.unusedVariables false
set_option linter.unusedSimpArgs false
namespace Go.Proofs.YteiklgbjjmlmaaaGreat
open Go.RowKit Pantry

theorem elZeroR (w : World) : (zeroValue 54).run Tryz.prog w = .ok zRk w := by kernel_rfl

def zL : List Value := [.string ⟨#[]⟩, .float .f64 0]
theorem run_clear_rk (w : World) (ty : TypeId) (g o c : Nat) (cur : List Value) (hg : w.heap[g]? = some (.cells cur.toArray 54)) (hfit : o + 2 ≤ cur.length) :
    (Builtin.clear_ #[47] ty #[.slice (some ⟨g, o, none⟩) 1 c]).run Tryz.prog w = .ok (.tuple #[]) (w.setRow g (splice cur o zL).toArray) := by
  have hz := elZeroR w
  have hst := run_storeCells_at Tryz.prog g o 54 zL 0 cur.toArray w hg (by simpa [zL] using hfit) (by simp [zL, Value.oneCell'])
  have hzc : (Builtin.zeroCells zRk.cells 1).toList = zL := by
    rw [show zRk.cells = #[.string ⟨#[]⟩, .float .f64 0] from rfl]
    apply List.ext_getElem?
    intro j
    match j with
    | 0 => simp [Builtin.zeroCells, zL]
    | 1 => simp [Builtin.zeroCells, zL]
    | j + 2 => simp [Builtin.zeroCells, zL]
  simp [Builtin.clear_, run_underlying Tryz.underlying47, hz, hzc, hst, splice]

set_option maxHeartbeats 4000000 in
set_option maxRecDepth 100000 in
theorem delete_anyR (w : World) (base i n : Nat) (v : Value) (xs : List Value) (hown : w.ownsRow base 54 2 v (n + 1) xs) (hi : i ≤ n) (h1 : ∀ x ∈ xs, x.oneCell' = true) :
    Calls Tryz.prog 121 #[v, .int .i64 i, .int .i64 ((i : Int) + 1)] w fun e w' => RowPostR base 54 2 w v n (xs.take (i * 2) ++ xs.drop ((i + 1) * 2)) e w' := by
  rcases hown.2 with ⟨rfl, h0⟩ | ⟨g, cap, cur, rfl, hbg, hg, hnc, hcm, hcs, htake⟩
  · omega
  · have hxl : xs.length = (n + 1) * 2 := by have := hown.1; omega
    have hg' : w.heap[g]? = some (.cells cur.toList.toArray 54) := by simpa using hg
    have hcl : cur.toList.length = cap * 2 := by simpa using hcs
    obtain ⟨i0, hi0, hz0, hzs, hzb⟩ := info_parts Tryz.rowTR.info
    by_cases hin : i = n
    · subst hin
      have hclr : ∀ ty c, (Builtin.clear_ #[47] ty #[.slice (some ⟨g, i * 2, none⟩) 1 c]).run Tryz.prog w.drew = .ok (.tuple #[]) (w.drew.setRow g (splice cur.toList (i * 2) zL).toArray) := fun ty c =>
        run_clear_rk w.drew ty g (i * 2) c _ hg' (by rw [hcl]; omega)
      have HT := Lib.hid (show (splice cur.toList (i * 2) zL).take (i * 2) = xs.take (i * 2) ++ xs.drop ((i + 1) * 2) by
        rw [List.drop_eq_nil_of_le (by omega), List.append_nil, ← htake]
        unfold splice
        rw [List.take_append_of_le_length (by rw [List.length_take]; omega), List.take_take, List.take_take]
        congr 1; omega)
      have HL := Lib.hid (show (splice cur.toList (i * 2) zL).length = cap * 2 by rw [length_splice _ _ _ (by rw [hcl]; simp [zL]; omega), hcl])
      have HG := Lib.hid hg'
      have HXL := Lib.hid hxl
      clear hg hg' hcl hcs htake hxl hown h1
      unfold maxLen at hcm
      have hz2 : ¬ ((i : Int) = (i : Int) + 1) := by omega
      have hw1 : IntKind.i64.wrap ((i : Int) + 1) = (i : Int) + 1 := by rw [IntKind.wrap_i64]; omega
      have hb1 : (0 : Int) ≤ (i : Int) + 1 := by omega
      have htn : ((i : Int) + 1).toNat = i + 1 := by omega
      have hb4 : ¬ (cap = i) := by omega
      have hb8 : i ≤ cap := by omega
      have hb9 : (i : Int) ≤ (i : Int) + 1 := by omega
      obtain rfl | hb2 : cap = i + 1 ∨ ¬ cap = i + 1 := Decidable.em _
      all_goals
        go_enter Tryz.func121, Tryz.ntmps121
        go_wp2_with fail
        go_region
        all_goals
          go_wp2_with (refine wpl_clear_run _ rfl _ 47 rfl _ rfl (hclr _ _) ?_)
          go_ret
          refine ⟨_, rfl, ⟨?_, .inr ⟨g, _, _, rfl, hbg, setRow_heap w.drew g _ _ _ _ HG.out, by omega, by unfold maxLen; omega, ?_, HT.out⟩⟩, grownBy_setRowR (grownBy_drewR (grownBy_sameR w _)), fun k hk => .inl hk⟩
          · have := HXL.out; simp; omega
          · rw [List.size_toArray, HL.out]
    have hilt : i < n := by omega
    have hdl : (xs.drop ((i + 1) * 2)).length = (n - i) * 2 := by rw [List.length_drop, hxl]; omega
    have hap : ∀ ty (ad : Addr) c, (i < n → ad = ⟨g, (i + 1) * 2, none⟩) → (Builtin.append_ #[47, 47] ty #[.slice (some ⟨g, 0, none⟩) i cap, .slice (some ad) (n - i) c]).run Tryz.prog w.drew = .ok (.slice (some ⟨g, 0, none⟩) n cap) (w.drew.setRow g (splice cur.toList (i * 2) (xs.drop ((i + 1) * 2))).toArray) := by
      intro ty ad c had
      have h := run_append_room (P := Tryz.prog) (w := w.drew) 47 ty 54 i0 Tryz.underlying47 hi0 g i cap cur hg ad (n - i) c (xs.drop ((i + 1) * 2)) (by rw [hdl, hzs])
        (fun j u hj => by
          have hj2 : j < (n - i) * 2 := by rw [← hdl]; exact (List.getElem?_eq_some_iff.1 hj).1
          rw [had (by omega), Addr.add_lit]
          show w.cell? _ = _
          rw [cell_of_row w g _ _ _ _ hg, ← Array.getElem?_toList]
          rw [← htake, List.getElem?_drop, List.getElem?_take] at hj
          split at hj
          · exact hj
          · cases hj)
        (fun u hu => h1 u (List.mem_of_mem_drop hu)) (by omega) (by rw [hzs, hdl]; have : cur.size = cap * 2 := by simpa using hcs
                                                                    omega)
      rw [show i + (n - i) = n by omega, hzs] at h
      rw [h]
      simp [splice]
    obtain ⟨W1, hW1⟩ : ∃ W1, w.drew.setRow g (splice cur.toList (i * 2) (xs.drop ((i + 1) * 2))).toArray = W1 := ⟨_, rfl⟩
    have hl1 : (splice cur.toList (i * 2) (xs.drop ((i + 1) * 2))).length = cap * 2 := by rw [length_splice _ _ _ (by omega), hcl]
    have hg1 : W1.heap[g]? = some (.cells (splice cur.toList (i * 2) (xs.drop ((i + 1) * 2))).toArray 54) := by rw [← hW1]; exact setRow_heap w.drew g _ _ _ _ hg
    have hgr : w.grownBy W1 (some g) := by rw [← hW1]; exact grownBy_setRowR (grownBy_drewR (grownBy_sameR w _))
    have hclr : ∀ ty c, (Builtin.clear_ #[47] ty #[.slice (some ⟨g, n * 2, none⟩) 1 c]).run Tryz.prog W1 = .ok (.tuple #[]) (W1.setRow g (splice (splice cur.toList (i * 2) (xs.drop ((i + 1) * 2))) (n * 2) zL).toArray) := fun ty c =>
      run_clear_rk W1 ty g (n * 2) c _ hg1 (by rw [hl1]; omega)
    have HT := Lib.hid (del_room (L := cur.toList) (xs := xs) (z := zL) (n := n) (i := i) (s := 2) (by simpa using htake) (by omega) hi)
    have HG1 := Lib.hid hg1
    have HL1 := Lib.hid hl1
    have HGR := Lib.hid hgr
    have HXL := Lib.hid hxl
    rw [hW1] at hap
    clear hW1 hl1 hg1 hgr hdl hg hg' hcl hcs htake hxl hown h1
    unfold maxLen at hcm
    have hz2 : ¬ ((i : Int) = (i : Int) + 1) := by omega
    have hw1 : IntKind.i64.wrap ((i : Int) + 1) = (i : Int) + 1 := by rw [IntKind.wrap_i64]; omega
    have hb1 : (0 : Int) ≤ (i : Int) + 1 := by omega
    have htn : ((i : Int) + 1).toNat = i + 1 := by omega
    have hb3 : (i : Int) ≤ (n : Int) + 1 := by omega
    have hb5 : (i : Int) + 1 ≤ (n : Int) + 1 := by omega
    have hb4 : ¬ (cap = i) := by omega
    have hb6 : ¬ (cap = n) := by omega
    have hb8 : i ≤ cap := by omega
    have hb9 : (i : Int) ≤ (i : Int) + 1 := by omega
    have hb2 : ¬ cap = i + 1 := by omega
    go_enter Tryz.func121, Tryz.ntmps121
    go_wp2_with fail
    go_region_law (refine step_append_run rfl _ _ 47 47 rfl (.slice (some ⟨g, 0, none⟩) i cap) (.slice (some ⟨g, (i + 1) * 2, none⟩) (n - i) (cap - (i + 1))) (by simp [Act.eval, Act.put]) (by simp [Act.eval, Act.put]) (hap _ ⟨g, (i + 1) * 2, none⟩ _ (fun _ => rfl)) ?_)
    go_wp2_with (refine wpl_clear_run _ rfl _ 47 rfl _ rfl (hclr _ _) ?_)
    go_ret
    refine ⟨_, rfl, ⟨?_, .inr ⟨g, cap, _, rfl, hbg, setRow_heap W1 g _ _ _ _ HG1.out, by omega, by unfold maxLen; omega, ?_, ?_⟩⟩, grownBy_setRowR HGR.out, fun k hk => .inl hk⟩
    · have := HXL.out; simp; omega
    · rw [List.size_toArray, length_splice _ _ _ (by rw [HL1.out]; simp [zL]; omega), HL1.out]
    · have h := HT.out
      simpa using h
end Go.Proofs.YteiklgbjjmlmaaaGreat
