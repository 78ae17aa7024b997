/- The program's table and its Find. -/
import Derived.Test.YtdoddnnggamaiaaUp
namespace Pantry
open Go
theorem halloc (w : World) (o : Obj) (k : Nat) : (w.alloc o).heap[k]? = if k = w.heap.size then some o else w.heap[k]? := by
  split
  · subst_vars; exact heap_alloc_new w o
  · rename_i h
    show (w.heap.push o)[k]? = _
    rw [Array.getElem?_push, if_neg h]
namespace Verbs
/-- The row of a name in a table; the empty one where there is none. -/
def empty : Row := ⟨[], 0, 0, 0, 0, 0⟩
def get (l : List Row) (s : List UInt8) : Option Row := l.find? fun r => r.name == s
theorem get_none {l : List Row} {s : List UInt8} (h : ∀ r ∈ l, r.name ≠ s) : get l s = none := by
  rw [get, List.find?_eq_none]
  intro r hr
  simpa using h r hr
theorem get_some {l : List Row} {s : List UInt8} (h : Rising l) {r : Row} (hr : r ∈ l) (hs : r.name = s) : get l s = some r := by
  induction l with
  | nil => cases hr
  | cons q l ih =>
    simp only [get, List.find?_cons]
    by_cases hq : q.name = s
    · simp only [hq, beq_self_eq_true]
      rcases List.mem_cons.1 hr with rfl | hm
      · rfl
      · have : cmpB q.name r.name < 0 := List.rel_of_pairwise_cons h (List.mem_map_of_mem hm)
        rw [hq, hs, cmpB_self] at this
        omega
    · have : (q.name == s) = false := by simpa using hq
      simp only [this]
      rcases List.mem_cons.1 hr with rfl | hm
      · exact absurd hs hq
      · exact ih (List.Pairwise.of_cons h) hm
theorem get_append (l k : List Row) (s : List UInt8) : get (l ++ k) s = (get l s).or (get k s) := by simp [get, List.find?_append]
theorem get_mem {l : List Row} {s : List UInt8} {r : Row} (h : get l s = some r) : r ∈ l ∧ r.name = s := by
  unfold get at h
  exact ⟨List.mem_of_find?_eq_some h, by simpa using List.find?_some h⟩
end Verbs
end Pantry
namespace Go.Proofs.Ytdoddnnggamaiaa
open Go.RowKit Pantry

def PartsPost (w : World) (e : Ending) (w' : World) : Prop :=
  ∃ g1 g2 g3, e = .returned (.agg #[.slice (some ⟨g1, 0, none⟩) 40 40, .slice (some ⟨g2, 0, none⟩) 40 40, .slice (some ⟨g3, 0, none⟩) 33 33]) ∧ w.heap.size ≤ g1 ∧ w.heap.size ≤ g2 ∧ w.heap.size ≤ g3 ∧
    w'.heap[g1]? = some (.cells (tabCells Verbs.one).toArray 29) ∧ w'.heap[g2]? = some (.cells (tabCells Verbs.two).toArray 29) ∧ w'.heap[g3]? = some (.cells (tabCells Verbs.three).toArray 29) ∧ Below w.heap.size w w'

set_option maxHeartbeats 400000 in
theorem parts_any (w : World) : Calls Try.prog 30 #[] w (PartsPost w) := by
  go_enter Try.func30, Try.ntmps30
  go_wp2_with (first
    | (go_at_call 37; refine (rowsOne_any _).mono ?_; rintro e w' ⟨rfl, rfl⟩)
    | (go_at_call 38; refine (rowsTwo_any _).mono ?_; rintro e w' ⟨rfl, rfl⟩)
    | (go_at_call 39; refine (rowsThree_any _).mono ?_; rintro e w' ⟨rfl, rfl⟩))
  refine bodyPost_ret (v := .agg #[.slice (some ⟨w.heap.size + 1, 0, none⟩) 40 40, .slice (some ⟨w.heap.size + 1 + 1, 0, none⟩) 40 40, .slice (some ⟨w.heap.size + 1 + 1 + 1, 0, none⟩) 33 33]) (by simp [results, Try.results30, go_sem]) rfl
    ⟨w.heap.size + 1, w.heap.size + 1 + 1, w.heap.size + 1 + 1 + 1, rfl, by omega, by omega, by omega, ?_, ?_, ?_, ?_⟩
  · simp only [halloc, World.size_alloc]; repeat (first | rw [if_pos True.intro] | rw [if_neg (by omega)])
  · simp only [halloc, World.size_alloc]; repeat (first | rw [if_pos True.intro] | rw [if_neg (by omega)])
  · simp only [halloc, World.size_alloc]; repeat (first | rw [if_pos True.intro] | rw [if_neg (by omega)])
  · exact ((((Below.refl _ _).alloc (Nat.le_refl _) _).alloc (by simp) _).alloc (by simp; omega) _).alloc (by simp; omega) _

theorem parts_index0 (a b c : Value) (w : World) : (Instr.index 50 (.agg #[a, b, c]) (.int .i64 0)).run Try.prog w = .ok a w := by kernel_rfl
theorem parts_index1 (a b c : Value) (w : World) : (Instr.index 50 (.agg #[a, b, c]) (.int .i64 1)).run Try.prog w = .ok b w := by kernel_rfl
theorem parts_index2 (a b c : Value) (w : World) : (Instr.index 50 (.agg #[a, b, c]) (.int .i64 2)).run Try.prog w = .ok c w := by kernel_rfl

def rowAgg (r : Verbs.Row) : Value := .agg (rowCells r).toArray
/-- What Find returns: the row of the name, or the empty one. -/
def FindPost (s : List UInt8) (w : World) (e : Ending) (w' : World) : Prop :=
  e = .returned (.tuple #[rowAgg ((Verbs.get Verbs.all s).getD Verbs.empty), .bool (Verbs.get Verbs.all s).isSome]) ∧ Below w.heap.size w w'

/-- A new variable of six cells: they read as zeros and are not frozen. -/
theorem box6 {w' : World} {g : Nat} {c0 c1 c2 c3 c4 c5 : Value} (h : w'.heap[g]? = some (.cells #[c0, c1, c2, c3, c4, c5] 29)) :
    (w'.cell? ⟨g, 0, none⟩ = some c0 ∧ w'.cell? ⟨g, 1, none⟩ = some c1 ∧ w'.cell? ⟨g, 2, none⟩ = some c2 ∧ w'.cell? ⟨g, 3, none⟩ = some c3 ∧ w'.cell? ⟨g, 4, none⟩ = some c4 ∧ w'.cell? ⟨g, 5, none⟩ = some c5) ∧
    ∀ j, w'.frozen? ⟨g, j, none⟩ = false := by
  refine ⟨⟨?_, ?_, ?_, ?_, ?_, ?_⟩, fun j => frozen_of_row w' g j _ _ h⟩ <;> rw [cell_of_row w' g _ _ _ _ h] <;> rfl

set_option maxHeartbeats 1000000 in
theorem find_any (s : ByteArray) (w : World) (hs : s.size ≤ 140737488351232) : Calls Try.prog 15 #[.string s] w (FindPost (upL s.data.toList) w) := by
  go_enter Try.func15, Try.ntmps15
  go_wp2_with (first
    | (go_at_call 17; refine (upper_any s _ hs).mono ?_; rintro e w1 ⟨rfl, hb1⟩)
    | (go_at_call 30; refine (parts_any _).mono ?_; rintro e w2 ⟨g1, g2, g3, rfl, h1, h2, h3, hg1, hg2, hg3, hb2⟩))
  have hs1 := hb1.size
  have hs2 := hb2.size
  simp only [World.size_alloc] at hs1
  have hb := hb1.trans (hb2.mono hb1.size)
  simp only [World.size_alloc] at hb
  have HG1 := Lib.hid hg1
  have HG2 := Lib.hid hg2
  have HG3 := Lib.hid hg3
  clear hg1 hg2 hg3
  have i0 := parts_index0
  have i1 := parts_index1
  have i2 := parts_index2
  refine wp_loop_rounds 4 ?_
  rw [rounds_succ]
  go_wp2_with fail
  refine (search_any g1 Verbs.one 40 ⟨(upL s.data.toList).toArray⟩ w2 rfl (by decide) Verbs.rising_one HG1.out).mono ?_
  rintro e w3 ⟨i, ok, rfl, hf, hx⟩
  have hb3 := hb.trans (hx.mono (by have := hb.size; rw [World.size_alloc] at this; omega))
  have HG1 := Lib.hid ((hx.block g1 (by have := (Array.getElem?_eq_some_iff.1 HG1.out).1; omega)).trans HG1.out)
  have HG2 := Lib.hid ((hx.block g2 (by have := (Array.getElem?_eq_some_iff.1 HG2.out).1; omega)).trans HG2.out)
  have HG3 := Lib.hid ((hx.block g3 (by have := (Array.getElem?_eq_some_iff.1 HG3.out).1; omega)).trans HG3.out)
  cases ok with
  | true =>
    obtain ⟨r, hr, hrs⟩ := hf.1 rfl
    obtain ⟨c0, c1, c2, c3, c4, c5⟩ := tab_cells HG1.out hr
    obtain ⟨⟨d0, d1, d2, d3, d4, d5⟩, hfz⟩ := box6 ((hb3.block w.heap.size (by omega)).trans (heap_alloc_new w _))
    have z0 := hfz 0
    have z1 := hfz 1
    have z2 := hfz 2
    have z3 := hfz 3
    have z4 := hfz 4
    have z5 := hfz 5
    have HR := Lib.hid hr
    have HS := Lib.hid hrs
    have hil : i < 40 := (List.getElem?_eq_some_iff.1 hr).1
    clear hfz hf hr hrs
    go_wp2
    refine bodyPost_ret (v := .tuple #[rowAgg r, .bool true]) (by simp [results, Try.results15, go_sem, d0, d1, d2, d3, d4, d5, rowAgg, rowCells]) rfl ⟨?_, ?_⟩
    · have hg : Verbs.get Verbs.one (upL s.data.toList) = some r := Verbs.get_some Verbs.rising_one (List.mem_of_getElem? HR.out) HS.out
      rw [Verbs.all, Verbs.get_append, Verbs.get_append, hg]
      rfl
    · have hb0 : Below w.heap.size w w3 := ((Below.refl _ _).alloc (Nat.le_refl _) _).trans (hb3.mono (by omega))
      exact (((((hb0.setCell (Nat.le_refl _) _).setCell (Nat.le_refl _) _).setCell (Nat.le_refl _) _).setCell (Nat.le_refl _) _).setCell (Nat.le_refl _) _).setCell (Nat.le_refl _) _
  | false =>
    have HN1 := Lib.hid (hf.2 rfl)
    clear hf hb1 hb2 h1 h2 h3 hx
    go_wp2_with fail
    rw [rounds_succ]
    go_wp2_with fail
    refine (search_any g2 Verbs.two 40 ⟨(upL s.data.toList).toArray⟩ w3 rfl (by decide) Verbs.rising_two HG2.out).mono ?_
    rintro e w4 ⟨i, ok, rfl, hf, hx⟩
    have hb4 := hb3.trans (hx.mono (by have := hb3.size; rw [World.size_alloc] at this; omega))
    have HG2 := Lib.hid ((hx.block g2 (by have := (Array.getElem?_eq_some_iff.1 HG2.out).1; omega)).trans HG2.out)
    have HG3 := Lib.hid ((hx.block g3 (by have := (Array.getElem?_eq_some_iff.1 HG3.out).1; omega)).trans HG3.out)
    cases ok with
    | true =>
      obtain ⟨r, hr, hrs⟩ := hf.1 rfl
      obtain ⟨c0, c1, c2, c3, c4, c5⟩ := tab_cells HG2.out hr
      obtain ⟨⟨d0, d1, d2, d3, d4, d5⟩, hfz⟩ := box6 ((hb4.block w.heap.size (by omega)).trans (heap_alloc_new w _))
      have z0 := hfz 0
      have z1 := hfz 1
      have z2 := hfz 2
      have z3 := hfz 3
      have z4 := hfz 4
      have z5 := hfz 5
      have HR := Lib.hid hr
      have HS := Lib.hid hrs
      have hil : i < 40 := (List.getElem?_eq_some_iff.1 hr).1
      clear hfz hf hr hrs
      go_wp2
      refine bodyPost_ret (v := .tuple #[rowAgg r, .bool true]) (by simp [results, Try.results15, go_sem, d0, d1, d2, d3, d4, d5, rowAgg, rowCells]) rfl ⟨?_, ?_⟩
      · have hg : Verbs.get Verbs.two (upL s.data.toList) = some r := Verbs.get_some Verbs.rising_two (List.mem_of_getElem? HR.out) HS.out
        rw [Verbs.all, Verbs.get_append, Verbs.get_append, Verbs.get_none HN1.out, hg]
        rfl
      · have hb0 : Below w.heap.size w w4 := ((Below.refl _ _).alloc (Nat.le_refl _) _).trans (hb4.mono (by omega))
        exact (((((hb0.setCell (Nat.le_refl _) _).setCell (Nat.le_refl _) _).setCell (Nat.le_refl _) _).setCell (Nat.le_refl _) _).setCell (Nat.le_refl _) _).setCell (Nat.le_refl _) _
    | false =>
      have HN2 := Lib.hid (hf.2 rfl)
      clear hf hx
      go_wp2_with fail
      rw [rounds_succ]
      go_wp2_with fail
      refine (search_any g3 Verbs.three 33 ⟨(upL s.data.toList).toArray⟩ w4 rfl (by decide) Verbs.rising_three HG3.out).mono ?_
      rintro e w5 ⟨i, ok, rfl, hf, hx⟩
      have hb5 := hb4.trans (hx.mono (by have := hb4.size; rw [World.size_alloc] at this; omega))
      have HG3 := Lib.hid ((hx.block g3 (by have := (Array.getElem?_eq_some_iff.1 HG3.out).1; omega)).trans HG3.out)
      cases ok with
      | true =>
        obtain ⟨r, hr, hrs⟩ := hf.1 rfl
        obtain ⟨c0, c1, c2, c3, c4, c5⟩ := tab_cells HG3.out hr
        obtain ⟨⟨d0, d1, d2, d3, d4, d5⟩, hfz⟩ := box6 ((hb5.block w.heap.size (by omega)).trans (heap_alloc_new w _))
        have z0 := hfz 0
        have z1 := hfz 1
        have z2 := hfz 2
        have z3 := hfz 3
        have z4 := hfz 4
        have z5 := hfz 5
        have HR := Lib.hid hr
        have HS := Lib.hid hrs
        have hil : i < 33 := (List.getElem?_eq_some_iff.1 hr).1
        clear hfz hf hr hrs
        go_wp2
        refine bodyPost_ret (v := .tuple #[rowAgg r, .bool true]) (by simp [results, Try.results15, go_sem, d0, d1, d2, d3, d4, d5, rowAgg, rowCells]) rfl ⟨?_, ?_⟩
        · have hg : Verbs.get Verbs.three (upL s.data.toList) = some r := Verbs.get_some Verbs.rising_three (List.mem_of_getElem? HR.out) HS.out
          rw [Verbs.all, Verbs.get_append, Verbs.get_append, Verbs.get_none HN1.out, Verbs.get_none HN2.out, hg]
          rfl
        · have hb0 : Below w.heap.size w w5 := ((Below.refl _ _).alloc (Nat.le_refl _) _).trans (hb5.mono (by omega))
          exact (((((hb0.setCell (Nat.le_refl _) _).setCell (Nat.le_refl _) _).setCell (Nat.le_refl _) _).setCell (Nat.le_refl _) _).setCell (Nat.le_refl _) _).setCell (Nat.le_refl _) _
      | false =>
        have HN3 := Lib.hid (hf.2 rfl)
        clear hf hx
        go_wp2_with fail
        rw [rounds_succ]
        obtain ⟨⟨d0, d1, d2, d3, d4, d5⟩, hfz⟩ := box6 ((hb5.block w.heap.size (by omega)).trans (heap_alloc_new w _))
        have z0 := hfz 0
        have z1 := hfz 1
        have z2 := hfz 2
        have z3 := hfz 3
        have z4 := hfz 4
        have z5 := hfz 5
        clear hfz
        go_wp2
        refine bodyPost_ret (v := .tuple #[rowAgg Verbs.empty, .bool false]) (by simp [results, Try.results15, go_sem, d0, d1, d2, d3, d4, d5, rowAgg, rowCells, Verbs.empty]) rfl ⟨?_, ?_⟩
        · rw [Verbs.all, Verbs.get_append, Verbs.get_append, Verbs.get_none HN1.out, Verbs.get_none HN2.out, Verbs.get_none HN3.out]
          rfl
        · have hb0 : Below w.heap.size w w5 := ((Below.refl _ _).alloc (Nat.le_refl _) _).trans (hb5.mono (by omega))
          exact (((((hb0.setCell (Nat.le_refl _) _).setCell (Nat.le_refl _) _).setCell (Nat.le_refl _) _).setCell (Nat.le_refl _) _).setCell (Nat.le_refl _) _).setCell (Nat.le_refl _) _
end Go.Proofs.Ytdoddnnggamaiaa
