/- The answer's ranks: a list as it came; at, Len, Cost, Score. -/
import Derived.Test.YtbjfigegiffefaaZRkDone1
set_option linter.unusedVariables false
set_option linter.unusedSimpArgs false
namespace Go.Proofs.Ytbjfigegiffefaa
open Go.RowKit Pantry

structure Rf (w : World) (m : Nat) (v : Value) (M : List Mb) : Prop where
  head : w.heap[m]? = some (.cells #[v] 88)
  row : w.ownsRow 0 34 2 v M.length (rkCells M)
  few : M.length ≤ 1048576
theorem Rf.chg {w w' : World} {m : Nat} {v : Value} {M : List Mb} {T : Nat → Prop} (h : Rf w m v M) (hc : Chg T w w') (hm : ¬ T m) (hv : ∀ k, v.ownBlock = some k → ¬ T k) : Rf w' m v M :=
  ⟨hc.heap h.head hm, Chg.ownsRow h.row hc hv, h.few⟩
theorem Rf.below {w w' : World} {m : Nat} {v : Value} {M : List Mb} (h : Rf w m v M) (hb : Below w.heap.size w w') : Rf w' m v M :=
  h.chg (T := fun _ => False) (Chg.of_below hb) (fun e => e) fun _ _ e => e
theorem one {w : World} {g : Nat} {c0 : Value} {t : TypeId} (h : w.heap[g]? = some (.cells #[c0] t)) : w.cell? ⟨g, 0, none⟩ = some c0 ∧ w.frozen? ⟨g, 0, none⟩ = false := by
  refine ⟨?_, frozen_of_row w g 0 _ _ h⟩
  rw [cell_of_row w g _ _ _ _ h]; rfl
theorem Rf.open {w : World} {m : Nat} {v : Value} {M : List Mb} (h : Rf w m v M) : ∃ a c, v = .slice a M.length c ∧ Rd w a (rkCells M) ∧ w.cell? ⟨m, 0, none⟩ = some v ∧ w.frozen? ⟨m, 0, none⟩ = false := by
  obtain ⟨a, c, rfl, hrd⟩ := ownsRow_rd h.row (rkCells_one M)
  exact ⟨a, c, rfl, hrd, one h.head⟩
/-- The first place of a name, or -1. -/
def FirstIs (L : List Mb) (key : List UInt8) (at_ : Int) : Prop := ((∀ p ∈ L, p.1 ≠ key) ∧ at_ = -1) ∨ ∃ (i y : Nat), L[i]? = some (key, y) ∧ at_ = i
def IntPost (P : Int → Prop) (w : World) (e : Ending) (w' : World) : Prop := ∃ z : Int, e = .returned (.int .i64 z) ∧ P z ∧ Below w.heap.size w w'
set_option maxHeartbeats 4000000 in
set_option maxRecDepth 100000 in
theorem rAt_any (w : World) (m : Nat) (v : Value) (M : List Mb) (key : List UInt8) (h : Rf w m v M) :
    Calls Try.prog 66 #[.pointer (some ⟨m, 0, none⟩), .string ⟨key.toArray⟩] w (IntPost (AtIs M key) w) := by
  obtain ⟨a, c, rfl, hrd, h0, -⟩ := h.open
  have hf := h.few
  obtain ⟨n, hn⟩ : ∃ n, M.length = n := ⟨_, rfl⟩
  rw [hn] at h0 hf
  have HN := Lib.hid hn
  have HRD := Lib.hid hrd
  clear h hrd hn
  go_enter Try.func66, Try.ntmps66
  go_wp2_with fail
  go_loopw [14] (fun i wr => ∃ k : Nat, k ≤ n ∧ i = .int .i64 k ∧ Hid (∀ p ∈ M.take k, p.1 ≠ key) ∧ Hid (Below w.heap.size w wr)) (fun i _ => n - (intOf i).toNat)
  case atStart => exact ⟨0, by omega, rfl, Lib.hid (fun p hp => by simp at hp), Lib.hid (Below.refl _ _)⟩
  case round =>
    obtain ⟨k, hk, rfl, HNO, HB⟩ := hrel
    by_cases hlt : k < n
    · obtain ⟨p, hp⟩ : ∃ p, M[k]? = some p := ⟨_, List.getElem?_eq_getElem (by rw [HN.out]; exact hlt)⟩
      obtain ⟨y, rfl, e2, e3⟩ := mb_cells (HRD.out.below HB.out) hp
      have HP := Lib.hid hp
      obtain ⟨ps, px⟩ := p
      obtain ⟨w5, hw5⟩ : ∃ w5, wr.alloc (.cells #[.string ⟨ps.toArray⟩, .float .f64 px] 34) = w5 := ⟨_, rfl⟩
      have hb5 : Below wr.heap.size wr w5 := by rw [← hw5]; exact (Below.refl _ wr).alloc (Nat.le_refl _) _
      obtain ⟨⟨f0, f1⟩, -⟩ := two (w := w5) (g := wr.heap.size) (by rw [← hw5]; exact heap_alloc_new wr _)
      have HB5 := Lib.hid (HB.out.trans (hb5.mono HB.out.size))
      have HW5 := Lib.hid hw5
      clear hp hb5 hw5
      by_cases hq : ps = key
      · have hqb : (ps == key) = true := by simpa using hq
        have HA : Hid (AtIs M key (k : Int)) := Lib.hid (.inr ⟨k, px, by rw [← hq]; exact HP.out, rfl⟩)
        clear hq
        go_upto_region 6 with fail
        rw [HW5.out]
        go_wp2_with fail
        go_ret
        exact ⟨k, rfl, HA.out, HB5.out⟩
      · have hqb : (ps == key) = false := by simpa using hq
        have HA : Hid (∀ p ∈ M.take (k + 1), p.1 ≠ key) := Lib.hid (by
          obtain ⟨hk2, he⟩ := List.getElem?_eq_some_iff.1 HP.out
          intro p hp
          rw [List.take_succ_eq_append_getElem hk2] at hp
          rcases List.mem_append.1 hp with hp | hp
          · exact HNO.out p hp
          · rw [List.mem_singleton.1 hp, he]; exact hq)
        clear hq
        go_upto_region 6 with fail
        rw [HW5.out]
        go_wp2_with fail
        go_roundw
        case rel => exact ⟨k + 1, by omega, by go_num, HA, HB5⟩
        case measure => simp [intOf]; omega
    · have HA : Hid (AtIs M key (-1)) := Lib.hid (.inl ⟨by have := HNO.out; rwa [List.take_of_length_le (by rw [HN.out]; omega)] at this, rfl⟩)
      go_wp2_with fail
      go_ret
      exact ⟨-1, rfl, HA.out, HB.out⟩
theorem rLen_any (w : World) (m : Nat) (v : Value) (M : List Mb) (h : Rf w m v M) : Calls Try.prog 50 #[.pointer (some ⟨m, 0, none⟩)] w fun e w' => e = .returned (.int .i64 (M.length : Nat)) ∧ w = w' := by
  obtain ⟨a, c, rfl, hrd, h0, -⟩ := h.open
  obtain ⟨n, hn⟩ : ∃ n, M.length = n := ⟨_, rfl⟩
  rw [hn] at h0 ⊢
  clear h hrd hn
  go_enter Try.func50, Try.ntmps50
  go_wp2_with fail
  go_ret
  exact ⟨rfl, rfl⟩
set_option maxHeartbeats 4000000 in
set_option maxRecDepth 100000 in
theorem rCost_any (w : World) (m : Nat) (v : Value) (M : List Mb) (h : Rf w m v M) (ht : ∀ p ∈ M, p.1.length ≤ 1048576) : Calls Try.prog 51 #[.pointer (some ⟨m, 0, none⟩)] w (IntPost (fun z => z = (rkCost M : Nat)) w) := by
  obtain ⟨a, c, rfl, hrd, h0, -⟩ := h.open
  have hf := h.few
  obtain ⟨n, hn⟩ : ∃ n, M.length = n := ⟨_, rfl⟩
  rw [hn] at h0 hf
  have HN := Lib.hid hn
  have HRD := Lib.hid hrd
  have HT := Lib.hid ht
  clear h hrd hn ht
  go_enter Try.func51, Try.ntmps51
  go_wp2_with fail
  go_loopw [3, 13] (fun z i wr => ∃ k : Nat, k ≤ n ∧ i = .int .i64 k ∧ z = .int .i64 (rkCost (M.take k) : Nat) ∧ Hid (Below w.heap.size w wr)) (fun _ i _ => n - (intOf i).toNat)
  case atStart => exact ⟨0, by omega, rfl, rfl, Lib.hid (Below.refl _ _)⟩
  case round =>
    obtain ⟨k, hk, rfl, rfl, HB⟩ := hrel
    by_cases hlt : k < n
    · obtain ⟨p, hp⟩ : ∃ p, M[k]? = some p := ⟨_, List.getElem?_eq_getElem (by rw [HN.out]; exact hlt)⟩
      obtain ⟨y, rfl, e2, e3⟩ := mb_cells (HRD.out.below HB.out) hp
      have hct := rkCost_take hp
      have hcb := rkCost_le (l := M.take (k + 1)) fun q hq => HT.out q (List.mem_of_mem_take hq)
      have hcl : (M.take (k + 1)).length ≤ 1048576 := by rw [List.length_take]; omega
      have hcb2 : rkCost (M.take (k + 1)) ≤ 1048576 * 1048616 := Nat.le_trans hcb (Nat.mul_le_mul_right _ hcl)
      have htx := HT.out p (List.mem_of_getElem? hp)
      have HCT := Lib.hid hct
      obtain ⟨c0, hc0⟩ : ∃ c0, rkCost (M.take k) = c0 := ⟨_, rfl⟩
      have HC0 := Lib.hid hc0
      rw [hc0] at hct
      rw [hct] at hcb2
      rw [hc0]
      obtain ⟨w5, hw5⟩ : ∃ w5, wr.alloc (.cells #[.string ⟨p.1.toArray⟩, .float .f64 p.2] 34) = w5 := ⟨_, rfl⟩
      have hb5 : Below wr.heap.size wr w5 := by rw [← hw5]; exact (Below.refl _ wr).alloc (Nat.le_refl _) _
      obtain ⟨⟨f0, f1⟩, -⟩ := two (w := w5) (g := wr.heap.size) (by rw [← hw5]; exact heap_alloc_new wr _)
      have HB5 := Lib.hid (HB.out.trans (hb5.mono HB.out.size))
      have HW5 := Lib.hid hw5
      clear hp hb5 hw5 hct hcb hcl hc0
      go_upto_region 6 with fail
      rw [HW5.out]
      go_wp2_with fail
      go_roundw
      case rel => exact ⟨k + 1, by omega, by go_num, by rw [HCT.out, HC0.out]; go_num, HB5⟩
      case measure => simp [intOf]; omega
    · obtain rfl : k = n := by omega
      have HCE : Hid (rkCost (M.take k) = rkCost M) := Lib.hid (by rw [List.take_of_length_le (by rw [HN.out]; exact Nat.le_refl _)])
      go_wp2_with fail
      go_ret
      exact ⟨_, by rw [HCE.out]; rfl, rfl, HB.out⟩
set_option maxHeartbeats 1000000 in
theorem rScore_any (w : World) (m : Nat) (v : Value) (M : List Mb) (key : List UInt8) (h : Rf w m v M) :
    Calls Try.prog 47 #[.pointer (some ⟨m, 0, none⟩), .string ⟨key.toArray⟩] w fun e w' => ((∃ (i x : Nat), M[i]? = some (key, x) ∧ e = .returned (.tuple #[.float .f64 x, .bool true])) ∨ ((∀ p ∈ M, p.1 ≠ key) ∧ e = .returned (.tuple #[.float .f64 0, .bool false]))) ∧ Below w.heap.size w w' := by
  have HA := Lib.hid (rAt_any w m v M key h)
  have H := Lib.hid h
  clear h
  go_enter Try.func47, Try.ntmps47
  go_wp2_with fail
  refine HA.out.mono ?_
  rintro e w1 ⟨z, rfl, hz, hb⟩
  have HB := Lib.hid hb
  rcases hz with ⟨hk, rfl⟩ | ⟨i, y, hi, rfl⟩
  · have HK := Lib.hid hk
    clear hk hb
    go_wp2_with fail
    go_ret2
    exact ⟨.inr ⟨HK.out, rfl⟩, HB.out⟩
  · have HI := Lib.hid hi
    obtain ⟨a, c, rfl, hrd, h0, -⟩ := (H.out.below hb).open
    obtain ⟨y', rfl, e2, e3⟩ := mb_cells hrd hi
    have hil := (List.getElem?_eq_some_iff.1 hi).1
    have hf := H.out.few
    obtain ⟨n, hn⟩ : ∃ n, M.length = n := ⟨_, rfl⟩
    rw [hn] at h0 hil hf
    have hneg : decide ((i : Int) < 0) = false := by simp
    have hneg2 : ¬ (i : Int) < 0 := by omega
    clear hi hb hrd hn
    go_wp2_with fail
    go_ret2
    exact ⟨.inl ⟨i, y, HI.out, rfl⟩, HB.out⟩
end Go.Proofs.Ytbjfigegiffefaa

/- The answer's New, Copy, ahead, Rank, Within. -/
set_option linter.unusedVariables false
set_option linter.unusedSimpArgs false
namespace Go.Proofs.Ytbjfigegiffefaa
open Go.RowKit Pantry

theorem rNew_any (w : World) (seed : Int) : Calls Try.prog 29 #[.int .u64 seed] w fun e w' => e = .returned (.pointer (some ⟨w.heap.size, 0, none⟩)) ∧ Rf w' w.heap.size (.slice none 0 0) [] ∧ Below w.heap.size w w' := by
  go_enter Try.func29, Try.ntmps29
  go_wp2_with fail
  go_ret
  exact ⟨rfl, ⟨heap_alloc_new w _, World.ownsRow_nil _ _ _ _, Nat.zero_le _⟩, (Below.refl _ _).alloc (Nat.le_refl _) _⟩
theorem Rf.type {w : World} {m : Nat} {v : Value} {M : List Mb} (h : Rf w m v M) : v.ownBlock ≠ some m := fun hk => by
  obtain ⟨c, hc⟩ := row_type h.row hk
  exact types_ne hc h.head (by decide) rfl
set_option maxHeartbeats 4000000 in
set_option maxRecDepth 100000 in
theorem rCopy_any (w : World) (m : Nat) (v : Value) (M : List Mb) (h : Rf w m v M) :
    Calls Try.prog 30 #[.pointer (some ⟨m, 0, none⟩)] w fun e w' => ∃ m' v', e = .returned (.pointer (some ⟨m', 0, none⟩)) ∧ Rf w' m' v' M ∧ Below w.heap.size w w' ∧ w.heap.size ≤ m' ∧ ∀ k, v'.ownBlock = some k → w.heap.size ≤ k := by
  obtain ⟨w1, hw1⟩ : ∃ w1, w.alloc (.cells #[.slice none 0 0] 88) = w1 := ⟨_, rfl⟩
  have hb1 : Below w.heap.size w w1 := by rw [← hw1]; exact (Below.refl _ w).alloc (Nat.le_refl _) _
  have hx1 : w1.heap[w.heap.size]? = some (.cells #[.slice none 0 0] 88) := by rw [← hw1]; exact heap_alloc_new w _
  have hR1 := h.below hb1
  obtain ⟨a, c, rfl, hrd, h0, -⟩ := hR1.open
  have hf := h.few
  have hml := block_lt h.head
  obtain ⟨n, hn⟩ : ∃ n, M.length = n := ⟨_, rfl⟩
  rw [hn] at h0 hf
  obtain ⟨i0, i0f⟩ := one hx1
  have hnil : a = none → c = 0 := by
    rintro rfl
    rcases hR1.row.2 with ⟨hv, -⟩ | ⟨g, cap, cur, hv, -⟩
    · simp only [Value.slice.injEq] at hv; exact hv.2.2
    · simp at hv
  have HN := Lib.hid hn
  have HRD := Lib.hid hrd
  have HB1 := Lib.hid hb1
  have HX1 := Lib.hid hx1
  have HNIL := Lib.hid hnil
  obtain ⟨v', w2, hr, hown, hg, -, hk⟩ := run_append Try.rowT 29 (w := w1.drew) w.heap.size (World.ownsRow_nil _ _ _ _) hnil (by rw [rkCells_length, hn]) (hrd.drew) (by omega) hb1.size
  rw [Nat.zero_add, List.nil_append] at hown
  have HR2 := Lib.hid (show _ ∧ _ from ⟨hown, hg⟩)
  have hb2 : Below w1.heap.size w1 w2 := (Below.refl _ w1).drew.grown hg (Nat.le_refl _) (fun k hk => by cases hk)
  obtain ⟨a2, c2, rfl, -⟩ := ownsRow_rd hown (rkCells_one M)
  have hx2 := (hb2.block _ (block_lt hx1)).trans hx1
  obtain ⟨j0, j0f⟩ := one hx2
  have HK := Lib.hid (show ∀ k, (Value.slice a2 n c2).ownBlock = some k → w1.heap.size ≤ k from fun k hkk => (hk k hkk).elim (fun e => by cases e) id)
  have HB2 := Lib.hid hb2
  have HX2 := Lib.hid hx2
  have hs1 : w.heap.size < w1.heap.size := block_lt hx1
  have hne : m ≠ w.heap.size := by omega
  clear h hR1 hrd hn hb1 hx1 hnil hown hg hk hb2 hx2
  go_enter Try.func30, Try.ntmps30
  go_wp2_with fail
  go_region_law (refine step_append_run rfl _ _ 29 29 rfl (.slice none 0 0) (.slice a n c) (by simp [Act.eval, Act.put]) (by simp [Act.eval, Act.put]) hr ?_)
  all_goals
    go_wp2_with fail
    go_ret
    refine ⟨w.heap.size, .slice a2 n c2, rfl, ⟨heapSetHere HX2.out _, ?_, by rw [HN.out]; exact hf⟩, ?_, Nat.le_refl _, fun k hkk => Nat.le_trans (Nat.le_of_lt hs1) (HK.out k hkk)⟩
    · refine Chg.ownsRow (S := fun k => k = w.heap.size) ?_ ((Chg.refl (fun k => k = w.heap.size) w2).setCell (p := ⟨w.heap.size, 0, none⟩) (fun _ => rfl) _) fun k hkk e => by have := HK.out k hkk; omega
      have := ownsRow_base HR2.out.1 (Nat.zero_le _)
      rw [HN.out]
      exact this
    · exact (HB1.out.trans (HB2.out.mono HB1.out.size)).setCell (Nat.le_refl _) _
set_option maxHeartbeats 1000000 in
theorem ahead_any (w : World) (p q : Mb) (hp : ¬ fnan p.2) (hq : ¬ fnan q.2) : Calls Try.prog 67 #[.agg #[.string ⟨p.1.toArray⟩, .float .f64 p.2], .agg #[.string ⟨q.1.toArray⟩, .float .f64 q.2]] w (QPost w (.bool (decide (cmpR p q < 0)))) := by
  obtain ⟨s, x⟩ := p
  obtain ⟨t, y⟩ := q
  simp only at hp hq ⊢
  have h1 := f_lt hp hq
  have h2 := f_eq hp hq
  have HB := Lib.hid (((Below.refl _ w).alloc (Nat.le_refl _) (.cells #[.string ⟨s.toArray⟩, .float .f64 x] 34)).alloc (by simp) (.cells #[.string ⟨t.toArray⟩, .float .f64 y] 34))
  by_cases hlt : fkey x < fkey y
  · have HC := Lib.hid (show decide (cmpR (s, x) (t, y) < 0) = true from decide_eq_true (cmpR_lt.2 (.inl hlt)))
    rw [decide_eq_true hlt] at h1
    clear h2 hlt
    go_enter Try.func67, Try.ntmps67
    go_wp2_with fail
    go_ret
    exact ⟨by rw [HC.out]; rfl, HB.out⟩
  · rw [decide_eq_false hlt] at h1
    by_cases heq : fkey x = fkey y
    · have HC := Lib.hid (show decide (cmpR (s, x) (t, y) < 0) = Op.bytesLess s t by
        rw [bytesLess_iff]
        have : cmpR (s, x) (t, y) < 0 ↔ cmpB s t < 0 := by
          rw [cmpR_lt]
          exact ⟨fun h => h.elim (fun h => absurd h hlt) fun h => h.2, fun h => .inr ⟨heq, h⟩⟩
        by_cases hh : cmpB s t < 0
        · rw [decide_eq_true (this.2 hh), decide_eq_true hh]
        · rw [decide_eq_false (fun h => hh (this.1 h)), decide_eq_false hh])
      rw [decide_eq_true heq] at h2
      clear hlt heq
      go_enter Try.func67, Try.ntmps67
      go_wp2_with fail
      go_ret
      exact ⟨by rw [HC.out]; rfl, HB.out⟩
    · have HC := Lib.hid (show decide (cmpR (s, x) (t, y) < 0) = false from decide_eq_false fun h => by
        rcases cmpR_lt.1 h with h | ⟨h, -⟩
        · exact hlt h
        · exact heq h)
      rw [decide_eq_false heq] at h2
      clear hlt heq
      go_enter Try.func67, Try.ntmps67
      go_wp2_with fail
      go_ret
      exact ⟨by rw [HC.out]; rfl, HB.out⟩
set_option maxHeartbeats 8000000 in
set_option maxRecDepth 100000 in
theorem rRank_any (w : World) (m : Nat) (v : Value) (M : List Mb) (key : List UInt8) (h : Rf w m v M) (hnum : ∀ p ∈ M, ¬ fnan p.2) :
    Calls Try.prog 48 #[.pointer (some ⟨m, 0, none⟩), .string ⟨key.toArray⟩] w fun e w' => ((∃ (i x : Nat), M[i]? = some (key, x) ∧ e = .returned (.tuple #[.int .i64 (placeN M (key, x) : Nat), .bool true])) ∨ ((∀ p ∈ M, p.1 ≠ key) ∧ e = .returned (.tuple #[.int .i64 0, .bool false]))) ∧ Below w.heap.size w w' := by
  have HA := Lib.hid (rAt_any w m v M key h)
  have H := Lib.hid h
  have HNUM := Lib.hid hnum
  have hmix : Try.prog.follows .mixedOrders = true := by kernel_rfl
  clear h hnum
  go_enter Try.func48, Try.ntmps48
  go_wp2_with fail
  refine HA.out.mono ?_
  rintro e w1 ⟨z, rfl, hz, hb⟩
  have HB := Lib.hid hb
  rcases hz with ⟨hk, rfl⟩ | ⟨i, x, hi, rfl⟩
  · have HK := Lib.hid hk
    clear hk hb
    go_wp2_with fail
    go_ret2
    exact ⟨.inr ⟨HK.out, rfl⟩, HB.out⟩
  · have HI := Lib.hid hi
    have H1 := Lib.hid (H.out.below hb)
    obtain ⟨a, c, rfl, hrd, h0, -⟩ := H1.out.open
    have HRD := Lib.hid hrd
    have hil := (List.getElem?_eq_some_iff.1 hi).1
    have hf := H.out.few
    have hml := block_lt H1.out.head
    obtain ⟨n, hn⟩ : ∃ n, M.length = n := ⟨_, rfl⟩
    have HN := Lib.hid hn
    rw [hn] at h0 hil hf
    have hneg : decide ((i : Int) < 0) = false := by simp
    have hneg2 : ¬ (i : Int) < 0 := by omega
    clear hi hb hrd hn
    go_wp2_with fail
    go_loopw [7, 20] (fun z j wr => ∃ k : Nat, k ≤ n ∧ j = .int .i64 k ∧ z = .int .i64 ((M.take k).countP (fun q => decide (cmpR q (key, x) < 0)) : Nat) ∧ Hid (Below w1.heap.size w1 wr)) (fun _ j _ => n - (intOf j).toNat)
    case atStart => exact ⟨0, by omega, rfl, rfl, Lib.hid (Below.refl _ _)⟩
    case round =>
      obtain ⟨k, hk, rfl, rfl, HBW⟩ := hrel
      by_cases hlt : k < n
      · obtain ⟨p, hp⟩ : ∃ p, M[k]? = some p := ⟨_, List.getElem?_eq_getElem (by rw [HN.out]; exact hlt)⟩
        obtain ⟨y, rfl, e2, e3⟩ := mb_cells (HRD.out.below HBW.out) hp
        obtain ⟨w5, hw5⟩ : ∃ w5, wr.alloc (.cells #[.string ⟨p.1.toArray⟩, .float .f64 p.2] 34) = w5 := ⟨_, rfl⟩
        have hb5 : Below wr.heap.size wr w5 := by rw [← hw5]; exact (Below.refl _ wr).alloc (Nat.le_refl _) _
        have hx5 : w5.heap[wr.heap.size]? = some (.cells #[.string ⟨p.1.toArray⟩, .float .f64 p.2] 34) := by rw [← hw5]; exact heap_alloc_new wr _
        obtain ⟨⟨f0, f1⟩, -⟩ := two (w := w5.drew) hx5
        have hbw5 := HBW.out.trans (hb5.mono HBW.out.size)
        obtain ⟨y', hy', d2, d3⟩ := mb_cells (w := w5.drew) ((HRD.out.below hbw5).drew) HI.out
        cases hy'
        have m0 : w5.drew.cell? ⟨m, 0, none⟩ = some (.slice (some y) n c) := (World.cell?_of_block (w := w1) (w' := w5.drew) (a := ⟨m, 0, none⟩) (hbw5.block m hml)).trans h0
        have HAH := Lib.hid (ahead_any w5.drew p (key, x) (HNUM.out p (List.mem_of_getElem? hp)) (HNUM.out _ (List.mem_of_getElem? HI.out)))
        have HB5 := Lib.hid hbw5
        have HW5 := Lib.hid hw5
        have HCT : Hid ((M.take (k + 1)).countP (fun q => decide (cmpR q (key, x) < 0)) = (M.take k).countP (fun q => decide (cmpR q (key, x) < 0)) + (if decide (cmpR p (key, x) < 0) then 1 else 0)) := Lib.hid (by
          obtain ⟨hk2, rfl⟩ := List.getElem?_eq_some_iff.1 hp
          rw [List.take_succ_eq_append_getElem hk2, List.countP_append, List.countP_singleton])
        have hcb : (M.take k).countP (fun q => decide (cmpR q (key, x) < 0)) ≤ 1048576 := Nat.le_trans List.countP_le_length (by rw [List.length_take]; omega)
        obtain ⟨t, ht⟩ : ∃ t, decide (cmpR p (key, x) < 0) = t := ⟨_, rfl⟩
        rw [ht] at HAH HCT
        obtain ⟨ct, hct⟩ : ∃ ct, (M.take k).countP (fun q => decide (cmpR q (key, x) < 0)) = ct := ⟨_, rfl⟩
        rw [hct] at HCT hcb ⊢
        clear hp hb5 hx5 hw5 hbw5 ht hct
        cases t
        all_goals
          go_upto_region 8 with fail
          rw [HW5.out]
          go_still_tail 8, (by kernel_rfl)
          go_wp2_with (go_at_call 67; refine HAH.out.mono ?_; clear HAH; rintro e w6 ⟨rfl, hb6⟩
                       have HB6 := Lib.hid (HB5.out.drew.trans (hb6.mono HB5.out.size))
                       clear hb6)
          go_roundw
          case rel => exact ⟨k + 1, by omega, by go_num, by rw [HCT.out]; first | rfl | go_num, HB6⟩
          case measure => simp [intOf]; omega
      · obtain rfl : k = n := by omega
        have HCE : Hid ((M.take k).countP (fun q => decide (cmpR q (key, x) < 0)) = placeN M (key, x)) := Lib.hid (by rw [List.take_of_length_le (by rw [HN.out]; exact Nat.le_refl _)]; rfl)
        have HBE := Lib.hid (HB.out.trans (HBW.out.mono HB.out.size))
        go_wp2_with fail
        go_ret2
        exact ⟨.inl ⟨i, x, HI.out, by rw [HCE.out]; rfl⟩, HBE.out⟩
end Go.Proofs.Ytbjfigegiffefaa

/- The answer's Set and Delete. -/
set_option linter.unusedVariables false
set_option linter.unusedSimpArgs false
namespace Pantry
open Go Go.RowKit
/-- What the answer's Set makes of the list. -/
inductive SetM (M : List Mb) (key : List UInt8) (x : Nat) : List Mb → Bool → Int → Prop
  | long (h : 1048576 < key.length) : SetM M key x M false 2
  | nan (h : key.length ≤ 1048576) (hx : fnan x) : SetM M key x M false 20
  | full (h : key.length ≤ 1048576) (hx : ¬ fnan x) (hk : ∀ p ∈ M, p.1 ≠ key) (hf : 1048576 ≤ M.length) : SetM M key x M false 4
  | same (h : key.length ≤ 1048576) (hx : ¬ fnan x) (i y : Nat) (hy : M[i]? = some (key, y)) (he : fkey y = fkey x) : SetM M key x M false 0
  | moved (h : key.length ≤ 1048576) (hx : ¬ fnan x) (i y : Nat) (hy : M[i]? = some (key, y)) (he : fkey y ≠ fkey x) : SetM M key x (M.set i (key, x)) false 0
  | fresh (h : key.length ≤ 1048576) (hx : ¬ fnan x) (hk : ∀ p ∈ M, p.1 ≠ key) (hf : M.length < 1048576) : SetM M key x (M ++ [(key, x)]) true 0
end Pantry
namespace Go.Proofs.Ytbjfigegiffefaa
open Go.RowKit Pantry

/-- What a call of the answer's ranks leaves. -/
structure RfTo (m : Nat) (v : Value) (M' : List Mb) (w w' : World) : Prop where
  ex : ∃ v', Rf w' m v' M' ∧ ∀ k, v'.ownBlock = some k → v.ownBlock = some k ∨ w.heap.size ≤ k
  chg : Chg (fun k => k = m ∨ v.ownBlock = some k) w w'
theorem RfTo.same {m : Nat} {v : Value} {M : List Mb} {w w' : World} (h : Rf w m v M) (hb : Below w.heap.size w w') : RfTo m v M w w' := ⟨⟨v, h.below hb, fun k hk => .inl hk⟩, Chg.of_below hb⟩
theorem RfTo.after {m : Nat} {v : Value} {M : List Mb} {w w1 w' : World} (hb : Below w.heap.size w w1) (h : RfTo m v M w1 w') : RfTo m v M w w' := by
  obtain ⟨⟨v', h1, h2⟩, h3⟩ := h
  exact ⟨⟨v', h1, fun k hk => (h2 k hk).imp id fun hh => Nat.le_trans hb.size hh⟩, (Chg.of_below hb).trans h3 fun _ _ hh => hh⟩
/-- An entry of the answer's row. -/
theorem Rf.entry {w : World} {m : Nat} {v : Value} {M : List Mb} (h : Rf w m v M) {i : Nat} {p : Mb} (hi : M[i]? = some p) :
    ∃ g c, v = .slice (some ⟨g, 0, none⟩) M.length c ∧ (w.cell? ⟨g, i * 2, none⟩ = some (.string ⟨p.1.toArray⟩) ∧ w.cell? ⟨g, i * 2 + 1, none⟩ = some (.float .f64 p.2)) ∧ (∀ j, w.frozen? ⟨g, j, none⟩ = false) ∧ M.length ≤ c ∧ i < M.length := by
  have hil := (List.getElem?_eq_some_iff.1 hi).1
  rcases h.row.2 with ⟨hv, hn⟩ | ⟨g, cap, cur, hv, h1, h2, h3, h4, h5, h6⟩
  · omega
  · subst hv
    refine ⟨g, cap, rfl, ⟨?_, ?_⟩, fun j => h.row.frozenAt j, h3, hil⟩
    · rw [h.row.cellAt _ (by omega), show i * 2 = i * 2 + 0 from rfl, rkCells_get hi 0 (by omega)]; rfl
    · rw [h.row.cellAt _ (by omega), rkCells_get hi 1 (by omega)]; rfl
theorem Rf.reval {w : World} {m g c : Nat} {M : List Mb} (h : Rf w m (.slice (some ⟨g, 0, none⟩) M.length c) M) {i : Nat} {key : List UInt8} {x y : Nat} (hi : M[i]? = some (key, y)) :
    RfTo m (.slice (some ⟨g, 0, none⟩) M.length c) (M.set i (key, x)) w (w.setCell ⟨g, i * 2 + 1, none⟩ (.float .f64 x)) := by
  have hs := h.row.stored (i * 2 + 1) (.float .f64 x)
  rw [rkCells_set1 M hi] at hs
  have hmg : m ≠ g := fun e => h.type (by rw [e]; rfl)
  refine ⟨⟨_, ⟨(heapSetOther (p := ⟨g, _, none⟩) hmg).trans h.head, by rw [List.length_set]; exact hs.1, by rw [List.length_set]; exact h.few⟩, fun k hk => .inl hk⟩, Chg.of_grown hs.2 fun k hk => .inr (by cases hk; rfl)⟩
/-- A new row has been put. -/
theorem Rf.put {w w2 : World} {m : Nat} {v v2 : Value} {M M2 : List Mb} (h : Rf w m v M) (hr : w2.ownsRow 0 34 2 v2 M2.length (rkCells M2)) (hc : Chg (fun k => v.ownBlock = some k) w w2) (hv : ∀ k, v2.ownBlock = some k → v.ownBlock = some k ∨ w.heap.size ≤ k) (hf : M2.length ≤ 1048576) :
    RfTo m v M2 w (w2.setCell ⟨m, 0, none⟩ v2) ∧ w2.cell? ⟨m, 0, none⟩ = some v ∧ w2.frozen? ⟨m, 0, none⟩ = false := by
  have hh := hc.heap h.head h.type
  obtain ⟨q1, q2⟩ := one hh
  have hne : ∀ k, v2.ownBlock = some k → k ≠ m := fun k hk e => by
    rcases hv k hk with h1 | h1
    · exact h.type (by rw [← e]; exact h1)
    · have := block_lt h.head; omega
  refine ⟨⟨⟨v2, ⟨heapSetHere hh v2, Chg.ownsRow hr ((Chg.refl (fun k => k = m) w2).setCell (p := ⟨m, 0, none⟩) (fun _ => rfl) v2) fun k hk e => hne k hk e, hf⟩, hv⟩, ?_⟩, q1, q2⟩
  exact (hc.mono fun k _ hk => .inr hk).setCell (p := ⟨m, 0, none⟩) (fun _ => .inl rfl) v2
def RSetPost' (m : Nat) (v : Value) (M : List Mb) (key : List UInt8) (x : Nat) (w : World) (e : Ending) (w' : World) : Prop :=
  ∃ M' new code, SetM M key x M' new code ∧ e = .returned (.tuple #[.bool new, .int .i64 code]) ∧ RfTo m v M' w w'
set_option maxHeartbeats 8000000 in
set_option maxRecDepth 100000 in
theorem rSet_any (w : World) (m : Nat) (v : Value) (M : List Mb) (key : List UInt8) (x : Nat) (h : Rf w m v M) (hnum : ∀ p ∈ M, ¬ fnan p.2) :
    Calls Try.prog 45 #[.pointer (some ⟨m, 0, none⟩), .string ⟨key.toArray⟩, .float .f64 x] w (RSetPost' m v M key x w) := by
  have HA := Lib.hid (rAt_any w m v M key h)
  have H := Lib.hid h
  have HNUM := Lib.hid hnum
  have hs := f_self (x := x)
  by_cases hlong : 1048576 < key.length
  · have HE : Hid (RfTo m v M w w) := Lib.hid (RfTo.same h (Below.refl _ _))
    have HLO := Lib.hid hlong
    clear h hnum
    go_enter Try.func45, Try.ntmps45
    go_wp2_with fail
    go_ret2
    exact ⟨M, false, 2, .long HLO.out, rfl, HE.out⟩
  · have HLO := Lib.hid (Nat.le_of_not_lt hlong)
    by_cases hx : fnan x
    · have HE : Hid (RfTo m v M w w) := Lib.hid (RfTo.same h (Below.refl _ _))
      have HX := Lib.hid hx
      rw [decide_eq_true hx] at hs
      clear h hnum hx
      go_enter Try.func45, Try.ntmps45
      go_wp2_with fail
      go_ret2
      exact ⟨M, false, 20, .nan HLO.out HX.out, rfl, HE.out⟩
    · have HX := Lib.hid hx
      rw [decide_eq_false hx] at hs
      clear h hnum hx
      go_enter Try.func45, Try.ntmps45
      go_wp2_with fail
      refine HA.out.mono ?_
      rintro e w1 ⟨z, rfl, hz, hb⟩
      have HB := Lib.hid hb
      have H1 := Lib.hid (H.out.below hb)
      have hf := H.out.few
      rcases hz with ⟨hk, rfl⟩ | ⟨i, y, hi, rfl⟩
      · have HK := Lib.hid hk
        obtain ⟨a, c, rfl, hrd, h0, h0f⟩ := H1.out.open
        obtain ⟨n, hn⟩ : ∃ n, M.length = n := ⟨_, rfl⟩
        have HN := Lib.hid hn
        rw [hn] at h0 hf
        by_cases hfull : 1048576 ≤ n
        · have hfd : decide ((1048576 : Int) ≤ (n : Int)) = true := by simp; omega
          have HF := Lib.hid hfull
          have HE : Hid (RfTo m (.slice a M.length c) M w w1) := Lib.hid (RfTo.same H.out HB.out)
          clear hk hb hrd hn hfull
          go_wp2_with fail
          go_ret2
          exact ⟨M, false, 4, .full HLO.out HX.out HK.out (by rw [HN.out]; exact HF.out), rfl, HE.out⟩
        · have hfd : decide ((1048576 : Int) ≤ (n : Int)) = false := by simp; omega
          have HF := Lib.hid (Nat.lt_of_not_le hfull)
          have HT := Lib.hid Try.rowT
          have hrow := H1.out.row
          rw [hn] at hrow
          have HROW := Lib.hid hrow
          have HP : Hid (∀ v2 w2, w2.ownsRow 0 34 2 v2 (n + 1) (rkCells M ++ [.string ⟨key.toArray⟩, .float .f64 x]) → w1.grownBy w2 (Value.slice a n c).ownBlock → (∀ k, v2.ownBlock = some k → (Value.slice a n c).ownBlock = some k ∨ w1.heap.size ≤ k) →
              RfTo m (.slice a M.length c) (M ++ [(key, x)]) w (w2.setCell ⟨m, 0, none⟩ v2) ∧ w2.cell? ⟨m, 0, none⟩ = some (.slice a n c) ∧ w2.frozen? ⟨m, 0, none⟩ = false) := Lib.hid fun v2 w2 q1 q2 q3 => by
            have hp := H1.out.put (v2 := v2) (M2 := M ++ [(key, x)]) (w2 := w2) (by rw [List.length_append, HN.out, rkCells_append]; exact q1) (Chg.of_grown q2 fun k hk => by rw [HN.out]; exact hk) (fun k hk => by rw [HN.out]; exact q3 k hk) (by rw [List.length_append]; have := HF.out; have := HN.out; simp; omega)
            rw [HN.out] at hp
            rw [HN.out]
            exact ⟨hp.1.after HB.out, hp.2⟩
          clear hk hb hrd hn hrow hfull
          go_wp2_with (at_builtin; refine wpl_append1 HT.out rfl _ _ rfl 0 rfl HROW.out #[.string ⟨key.toArray⟩, .float .f64 x] rfl rfl (by simp [Value.oneCell']) (by omega) (Nat.zero_le _) ?_
                       intro v2 w2 hown2 hg2 _hb2 hv2
                       obtain ⟨q1, q2, q3⟩ := HP.out v2 w2 hown2 hg2 hv2
                       have HE := Lib.hid q1
                       obtain ⟨a3, c3, rfl, -⟩ := ownsRow_rd hown2 (by rw [show (#[Value.string ⟨key.toArray⟩, Value.float .f64 x] : Array Value).toList = rkCells [(key, x)] from rfl, ← rkCells_append]; exact rkCells_one _)
                       clear q1 hown2 hg2 hv2)
          go_ret2
          exact ⟨_, true, 0, .fresh HLO.out HX.out HK.out (by rw [HN.out]; exact HF.out), rfl, HE.out⟩
      · have HI := Lib.hid hi
        obtain ⟨g, c, rfl, ⟨e0, e1⟩, ef, hnc, hin⟩ := H1.out.entry hi
        obtain ⟨-, -, -, -, h0, h0f⟩ := H1.out.open
        have hne := f_ne (HNUM.out _ (List.mem_of_getElem? hi)) HX.out
        have HRV := Lib.hid ((H1.out.reval (x := x) hi).after HB.out)
        have HSA : Hid (RfTo m (.slice (some ⟨g, 0, none⟩) M.length c) M w w1) := Lib.hid (RfTo.same H.out HB.out)
        obtain ⟨n, hn⟩ : ∃ n, M.length = n := ⟨_, rfl⟩
        rw [hn] at h0 hf hnc hin
        have hneg : decide ((i : Int) < 0) = false := by simp
        have hneg2 : ¬ (i : Int) < 0 := by omega
        have ef1 := ef (i * 2 + 1)
        clear hi hb ef hn
        by_cases heq : fkey y = fkey x
        · have HE := Lib.hid heq
          rw [decide_eq_true heq] at hne
          clear heq
          go_wp2_with fail
          go_ret2
          exact ⟨M, false, 0, .same HLO.out HX.out i y HI.out HE.out, rfl, HSA.out⟩
        · have HE := Lib.hid heq
          rw [decide_eq_false heq] at hne
          clear heq
          go_wp2_with fail
          go_ret2
          exact ⟨_, false, 0, .moved HLO.out HX.out i y HI.out HE.out, rfl, HRV.out⟩
def RDelPost' (m : Nat) (v : Value) (M : List Mb) (key : List UInt8) (w : World) (e : Ending) (w' : World) : Prop :=
  (∃ (i y : Nat), M[i]? = some (key, y) ∧ e = .returned (.bool true) ∧ RfTo m v (cutR M i) w w') ∨ ((∀ p ∈ M, p.1 ≠ key) ∧ e = .returned (.bool false) ∧ RfTo m v M w w')
set_option maxHeartbeats 8000000 in
set_option maxRecDepth 100000 in
theorem rDel_any (w : World) (m : Nat) (v : Value) (M : List Mb) (key : List UInt8) (h : Rf w m v M) :
    Calls Try.prog 46 #[.pointer (some ⟨m, 0, none⟩), .string ⟨key.toArray⟩] w (RDelPost' m v M key w) := by
  have HA := Lib.hid (rAt_any w m v M key h)
  have H := Lib.hid h
  clear h
  go_enter Try.func46, Try.ntmps46
  go_wp2_with fail
  refine HA.out.mono ?_
  rintro e w1 ⟨z, rfl, hz, hb⟩
  have HB := Lib.hid hb
  have H1 := Lib.hid (H.out.below hb)
  have hf := H.out.few
  rcases hz with ⟨hk, rfl⟩ | ⟨i, y, hi, rfl⟩
  · have HK := Lib.hid hk
    have HE := Lib.hid (RfTo.same H.out HB.out)
    clear hk hb
    go_wp2_with fail
    go_ret
    exact .inr ⟨HK.out, rfl, HE.out⟩
  · have HI := Lib.hid hi
    obtain ⟨g, c, rfl, -, -, hnc, hin⟩ := H1.out.entry hi
    obtain ⟨-, -, -, -, h0, h0f⟩ := H1.out.open
    obtain ⟨a', c', hv', hrd⟩ := ownsRow_rd H1.out.row (rkCells_one M)
    cases hv'
    have hml := block_lt H1.out.head
    obtain ⟨n, hn⟩ : ∃ n, M.length = n := ⟨_, rfl⟩
    rw [hn] at h0 hf hnc hin
    have HN := Lib.hid hn
    have hneg : decide ((i : Int) < 0) = false := by simp
    have hneg2 : ¬ (i : Int) < 0 := by omega
    have hrd1 : Rd w1 (some ⟨g, 0, none⟩) (rkCells (M.take i)) := by rw [← rkCells_take]; exact hrd.take _
    have hrd2 : ∀ w2, Below w1.heap.size w1 w2 → Rd w2 (some ⟨g, (i + 1) * 2, none⟩) (rkCells (M.drop (i + 1))) := by
      intro w2 hb2
      have hrdw := hrd.below hb2
      intro j u hj
      rw [← rkCells_drop, List.getElem?_drop] at hj
      obtain ⟨q1, x, hx, q2⟩ := hrdw _ _ hj
      cases hx
      refine ⟨q1, _, rfl, ?_⟩
      have e1 : (⟨g, 0, none⟩ : Addr).add ((i + 1) * 2 + j) = (⟨g, (i + 1) * 2, none⟩ : Addr).add j := by
        rw [Addr.add_base]; cases j <;> simp [Addr.add]
      rw [← e1]; exact q2
    have HR1 := Lib.hid hrd1
    have HR2 := Lib.hid hrd2
    have HT := Lib.hid Try.rowT
    have HM0 : Hid (∀ w2, Below w1.heap.size w1 w2 → w2.cell? ⟨m, 0, none⟩ = some (.slice (some ⟨g, 0, none⟩) n c)) := Lib.hid fun w2 hb2 => (World.cell?_of_block (w := w1) (w' := w2) (a := ⟨m, 0, none⟩) (hb2.block m hml)).trans h0
    have HPUT : Hid (∀ v3 w3, w3.ownsRow 0 34 2 v3 (i + (n - (i + 1))) (rkCells (M.take i) ++ rkCells (M.drop (i + 1))) → Below w1.heap.size w1 w3 → (∀ k, v3.ownBlock = some k → w1.heap.size ≤ k) →
        RfTo m (.slice (some ⟨g, 0, none⟩) M.length c) (cutR M i) w (w3.setCell ⟨m, 0, none⟩ v3) ∧ w3.cell? ⟨m, 0, none⟩ = some (.slice (some ⟨g, 0, none⟩) n c) ∧ w3.frozen? ⟨m, 0, none⟩ = false) := Lib.hid fun v3 w3 q1 q2 q3 => by
      have hl : (cutR M i).length = i + (n - (i + 1)) := by unfold cutR; rw [List.length_append, List.length_take, List.length_drop, HN.out]; omega
      have hp := H1.out.put (v2 := v3) (M2 := cutR M i) (w2 := w3) (by rw [hl]; unfold cutR; rw [rkCells_append]; exact q1) (Chg.of_below q2) (fun k hk => .inr (q3 k hk)) (by rw [hl]; omega)
      rw [HN.out] at hp
      rw [HN.out]
      exact ⟨hp.1.after HB.out, hp.2⟩
    have hic : i ≤ c := by omega
    have hi1 : i + 1 ≤ c := by omega
    have hi2 : i + 1 ≤ n := by omega
    have hl1 : (rkCells (M.take i)).length = i * 2 := by rw [rkCells_length, List.length_take, HN.out]; omega
    have hl2 : (rkCells (M.drop (i + 1))).length = (n - (i + 1)) * 2 := by rw [rkCells_length, List.length_drop, HN.out]
    have HL1 := Lib.hid hl1
    have HL2 := Lib.hid hl2
    clear hi hb hrd hn hrd1 hrd2 hl1 hl2
    by_cases hcap : c = i + 1
    · have hn1 : n = i + 1 := by omega
      subst hcap
      subst hn1
      have tok : True := trivial
      go_wp2_with (first
        | (at_builtin; have _t := tok; refine wpl_append HT.out rfl _ _ rfl w1.heap.size rfl (World.ownsRow_nil _ _ _ _) (ad := some ⟨g, 0, none⟩) (m := i) (c := i + 1) (news := rkCells (M.take i)) rfl (fun h => by cases h) HL1.out HR1.out (by omega) (Nat.le_refl _) ?_
           intro v2 w2 hown2 hg2 hv2
           rw [Nat.zero_add, List.nil_append] at hown2
           have HO2 := Lib.hid hown2
           have HB2 : Hid (Below w1.heap.size w1 w2) := Lib.hid ((Below.refl _ w1).grown hg2 (Nat.le_refl _) (fun k hk => by cases hk))
           have HV2 := Lib.hid (show ∀ k, v2.ownBlock = some k → w1.heap.size ≤ k from fun k hk => (hv2 k hk).elim (fun e => by cases e) id)
           have m2 := HM0.out w2 HB2.out
           obtain ⟨a2, c2, rfl, -⟩ := ownsRow_rd hown2 (rkCells_one _)
           clear hown2 hg2 hv2 tok _t)
        | (at_builtin; refine wpl_append HT.out rfl _ _ rfl w1.heap.size rfl HO2.out (m := 0) (news := []) rfl (fun h => by cases h) rfl (Rd.nil _ _) (by omega) HB2.out.size ?_
           intro v3 w3 hown3 hg3 hv3
           obtain ⟨q1, q2, q3⟩ := HPUT.out v3 w3 (by
             have := ownsRow_base hown3 (Nat.zero_le _)
             have e : rkCells (M.drop (i + 1)) = [] := List.eq_nil_of_length_eq_zero (by rw [HL2.out]; omega)
             rw [e, Nat.sub_self]; exact this) (HB2.out.grown hg3 HB2.out.size HV2.out) (fun k hk => (hv3 k hk).elim (HV2.out k) fun hh => Nat.le_trans HB2.out.size hh)
           have HE := Lib.hid q1
           obtain ⟨a3, c3, rfl, -⟩ := ownsRow_rd hown3 (by rw [List.append_nil]; exact rkCells_one _)
           clear q1 hown3 hg3 hv3))
      go_ret
      exact .inl ⟨i, y, HI.out, rfl, HE.out⟩
    · have hcap2 : ¬ i + 1 = c := fun e => hcap e.symm
      have hlt : i + 1 < c := by omega
      have tok : True := trivial
      go_wp2_with (first
        | (at_builtin; have _t := tok; refine wpl_append HT.out rfl _ _ rfl w1.heap.size rfl (World.ownsRow_nil _ _ _ _) (ad := some ⟨g, 0, none⟩) (m := i) (c := c) (news := rkCells (M.take i)) rfl (fun h => by cases h) HL1.out HR1.out (by omega) (Nat.le_refl _) ?_
           intro v2 w2 hown2 hg2 hv2
           rw [Nat.zero_add, List.nil_append] at hown2
           have HO2 := Lib.hid hown2
           have HB2 : Hid (Below w1.heap.size w1 w2) := Lib.hid ((Below.refl _ w1).grown hg2 (Nat.le_refl _) (fun k hk => by cases hk))
           have HV2 := Lib.hid (show ∀ k, v2.ownBlock = some k → w1.heap.size ≤ k from fun k hk => (hv2 k hk).elim (fun e => by cases e) id)
           have m2 := HM0.out w2 HB2.out
           obtain ⟨a2, c2, rfl, -⟩ := ownsRow_rd hown2 (rkCells_one _)
           clear hown2 hg2 hv2 tok _t)
        | (at_builtin; refine wpl_append HT.out rfl _ _ rfl w1.heap.size rfl HO2.out (ad := some ⟨g, (i + 1) * 2, none⟩) (m := n - (i + 1)) (c := c - (i + 1)) (news := rkCells (M.drop (i + 1))) rfl (fun h => by cases h) HL2.out (HR2.out w2 HB2.out) (by omega) HB2.out.size ?_
           intro v3 w3 hown3 hg3 hv3
           obtain ⟨q1, q2, q3⟩ := HPUT.out v3 w3 (ownsRow_base hown3 (Nat.zero_le _)) (HB2.out.grown hg3 HB2.out.size HV2.out) (fun k hk => (hv3 k hk).elim (HV2.out k) fun hh => Nat.le_trans HB2.out.size hh)
           have HE := Lib.hid q1
           obtain ⟨a3, c3, rfl, -⟩ := ownsRow_rd hown3 (by rw [← rkCells_append]; exact rkCells_one _)
           clear q1 hown3 hg3 hv3))
      go_ret
      exact .inl ⟨i, y, HI.out, rfl, HE.out⟩
end Go.Proofs.Ytbjfigegiffefaa
