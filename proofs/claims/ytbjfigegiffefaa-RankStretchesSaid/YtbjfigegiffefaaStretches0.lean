/- Who stands within a stretch. The walk. -/
import Derived.Test.YtbjfigegiffefaaCopies0
set_option linter.unusedVariables false
set_option linter.unusedSimpArgs false
namespace Pantry
open Go Go.RowKit
/-- Those from one place up to another are those within. -/
structure Stretch (l : List Mb) (P : Nat → Bool) (A B : Nat) : Prop where
  le : A ≤ B
  len : B ≤ l.length
  iff : ∀ (k : Nat) (p : Mb), l[k]? = some p → P p.2 = decide (A ≤ k ∧ k < B)
theorem Stretch.count {l : List Mb} {P : Nat → Bool} {A B : Nat} (h : Stretch l P A B) : l.countP (fun p => P p.2) = B - A := by
  have e : l = l.take A ++ ((l.take B).drop A ++ l.drop B) := by
    rw [← List.append_assoc]
    have h1 : l.take A = (l.take B).take A := by rw [List.take_take, Nat.min_eq_left h.le]
    rw [h1, List.take_append_drop, List.take_append_drop]
  have hl := h.len
  have hle := h.le
  conv => lhs; rw [e]
  rw [List.countP_append, List.countP_append]
  have c1 : (l.take A).countP (fun p => P p.2) = 0 := by
    rw [List.countP_eq_zero]
    intro q hq
    obtain ⟨k, hk, rfl⟩ := List.mem_iff_getElem.1 hq
    rw [List.length_take] at hk
    rw [List.getElem_take, h.iff k l[k] (List.getElem?_eq_getElem (by omega))]
    simp; omega
  have c2 : ((l.take B).drop A).countP (fun p => P p.2) = B - A := by
    rw [List.countP_eq_length.2]
    · rw [List.length_drop, List.length_take]; omega
    · intro q hq
      obtain ⟨k, hk, rfl⟩ := List.mem_iff_getElem.1 hq
      rw [List.length_drop, List.length_take] at hk
      rw [List.getElem_drop, List.getElem_take, h.iff (A + k) l[A + k] (List.getElem?_eq_getElem (by omega))]
      simp; omega
  have c3 : (l.drop B).countP (fun p => P p.2) = 0 := by
    rw [List.countP_eq_zero]
    intro q hq
    obtain ⟨k, hk, rfl⟩ := List.mem_iff_getElem.1 hq
    rw [List.length_drop] at hk
    rw [List.getElem_drop, h.iff (B + k) l[B + k] (List.getElem?_eq_getElem (by omega))]
    simp
  omega
theorem Stretch.seg {l : List Mb} {P : Nat → Bool} {A B : Nat} (h : Stretch l P A B) : segR l (A : Nat) (B : Nat) = (l.take B).drop A ∧ ((l.take B).drop A).length = B - A ∧ ∀ (k : Nat) (p : Mb), ((l.take B).drop A)[k]? = some p → P p.2 = true := by
  have hl := h.len
  have hle := h.le
  refine ⟨?_, by rw [List.length_drop, List.length_take]; omega, fun k p hk => ?_⟩
  · unfold segR
    rw [show (max ((A : Nat) : Int) 0).toNat = A by omega, show (min ((B : Nat) : Int) ((l.length : Nat) : Int)).toNat = B by omega]
  · rw [List.getElem?_drop, List.getElem?_take] at hk
    split at hk
    · rw [h.iff _ p hk]; simp; omega
    · cases hk
end Pantry
namespace Go.Proofs.Ytbjfigegiffefaa
open Go.RowKit Pantry

theorem WithinPost.stretch {l : List Mb} {a : Nat} {oa : Bool} {b : Nat} {ob : Bool} {w : World} {e : Ending} {w' : World} (h : WithinPost l a oa b ob w e w') (hg : RkGood l) :
    ∃ A B : Nat, e = .returned (.tuple #[.int .i64 A, .int .i64 B]) ∧ Stretch l (fun x => withinF x a oa b ob) A B ∧ Below w.heap.size w w' := by
  rcases h.1 with ⟨hn, rfl⟩ | ⟨ha, hb, i, j, hi, hj, rfl⟩
  · exact ⟨0, 0, rfl, ⟨Nat.le_refl _, Nat.zero_le _, fun k p hk => by rw [within_nan hn]; simp⟩, h.2⟩
  · refine ⟨i, max i j, rfl, ⟨by omega, by have := hi.le; have := hj.le; omega, fun k p hk => ?_⟩, h.2⟩
    have hx := hg.num p (List.mem_of_getElem? hk)
    have h1 := within_upto (x := p.2) (a := a) (oa := !oa) hx ha
    have h2 := within_upto (x := p.2) (a := b) (oa := ob) hx hb
    rw [withinF_num hx ha hb]
    by_cases hki : k < i
    · have h3 := h1.1 (hi.lo k p hki hk)
      rw [decide_eq_false (by omega : ¬ (i ≤ k ∧ k < max i j))]
      rcases h3 with h3 | ⟨h3, h4⟩
      · rw [decide_eq_false (by omega), decide_eq_false (by omega)]; rfl
      · have : oa = true := by simpa using h4
        rw [decide_eq_false (by omega), this]; simp
    · have h3 : ¬ (fkey p.2 < fkey a ∨ (fkey p.2 = fkey a ∧ (!oa) = false)) := fun hh => by
        have := h1.2 hh
        rw [hi.hi k p (by omega) hk] at this
        cases this
      have hlow : (decide (fkey a < fkey p.2) || (decide (fkey p.2 = fkey a) && !oa)) = true := by
        rcases Int.lt_trichotomy (fkey p.2) (fkey a) with q | q | q
        · exact absurd (.inl q) h3
        · have : oa = false := by
            cases oa
            · rfl
            · exact absurd (.inr ⟨q, rfl⟩) h3
          rw [this, decide_eq_true q]; simp
        · rw [decide_eq_true q]; rfl
      rw [hlow, Bool.true_and]
      by_cases hkj : k < j
      · have h4 := h2.1 (hj.lo k p hkj hk)
        rw [decide_eq_true (by omega : i ≤ k ∧ k < max i j)]
        rcases h4 with h4 | ⟨h4, h5⟩
        · rw [decide_eq_true h4]; rfl
        · rw [decide_eq_true h4, h5]; simp
      · have h4 : ¬ (fkey p.2 < fkey b ∨ (fkey p.2 = fkey b ∧ ob = false)) := fun hh => by
          have := h2.2 hh
          rw [hj.hi k p (by omega) hk] at this
          cases this
        rw [decide_eq_false (by omega : ¬ (i ≤ k ∧ k < max i j)), decide_eq_false (fun hh => h4 (.inl hh))]
        cases ob
        · rw [decide_eq_false (fun hh => h4 (.inr ⟨hh, rfl⟩))]; rfl
        · simp
theorem Twin.within {w : World} {r : Nat} {v : Value} {l : List Mb} {wr : World} (h : Twin w r v l wr) (a : Nat) (oa : Bool) (b : Nat) (ob : Bool) :
    Calls Try.prog 24 #[.pointer (some ⟨r, 0, none⟩), .agg #[.float .f64 a, .bool oa], .agg #[.float .f64 b, .bool ob]] wr (fun e w' => ∃ A B : Nat, e = .returned (.tuple #[.int .i64 A, .int .i64 B]) ∧ Stretch l (fun x => withinF x a oa b ob) A B ∧ Below wr.heap.size wr w') := by
  obtain ⟨⟨S, L, h1, h2, h3, h4, h5⟩, h6⟩ := h
  exact (h1.within a oa b ob).mono fun e w' hp => hp.stretch h1.good
theorem Twin.rangeSeg {w : World} {r : Nat} {v : Value} {l : List Mb} {wr : World} (h : Twin w r v l wr) (x y : Int) {m : List Mb} {n : Nat} (hm : segR l x y = m) (hn : m.length = n) : Calls Try.prog 12 #[.pointer (some ⟨r, 0, none⟩), .int .i64 x, .int .i64 y] wr (RowPost n m wr) := h.range x y hm hn
set_option maxHeartbeats 16000000 in
set_option maxRecDepth 100000 in
theorem stretches_walk (w : World) (seed : Nat) (hs : seed < 18446744073709551616) (a : Option Addr) (n c : Nat) (ops : List Stp) (hl : OpsAt w a n ops) (x y : Nat) (ox oy : Bool) :
    Calls Try.prog 6 #[.int .u64 seed, .slice a n c, .int .u64 x, .int .u64 y, .bool ox, .bool oy] w (OkPost w) := by
  have HW := Lib.hid (wakes_any w)
  have HL := Lib.hid hl
  have H1 := Lib.hid hs
  have hfb := frombits
  clear hl hs
  go_enter Try.func6, Try.ntmps6
  go_wp2_with (first
    | (go_at_call 10; refine HW.out.mono ?_; rintro e w1 ⟨rfl, hb⟩
       have HB := Lib.hid hb
       have HBU := Lib.hid (built_any w1 seed H1.out a n c ops (HL.out.keep hb))
       clear hb)
    | (go_at_call 11; refine HBU.out.mono ?_; rintro e w2 ⟨r, v, rfl, ht⟩
       obtain ⟨L, a2, c2, rfl, hp, hrd, hlen⟩ := ht.entries
       have hf := ht.good.1.few
       obtain ⟨l, hll⟩ : ∃ l, runL ops = l := ⟨_, rfl⟩
       rw [hll] at hlen hf hp ht
       rw [hll]
       obtain ⟨m, hm⟩ : ∃ m, l.length = m := ⟨_, rfl⟩
       rw [hm] at hlen hf ht
       rw [hm]
       have HT := Lib.hid ht
       have HLL := Lib.hid (show _ ∧ _ ∧ _ ∧ _ from ⟨hp, hrd, hlen, hm⟩)
       clear ht hp hrd hlen hm hll HBU))
  obtain ⟨w4, hw4⟩ : ∃ w4, (w2.alloc (.cells #[.float .f64 x, .bool ox] 58)).alloc (.cells #[.float .f64 y, .bool oy] 58) = w4 := ⟨_, rfl⟩
  have hb4 : Below w2.heap.size w2 w4 := by rw [← hw4]; exact ((Below.refl _ w2).alloc (Nat.le_refl _) _).alloc (by simp) _
  have hx4 : w4.heap[w2.heap.size]? = some (.cells #[.float .f64 x, .bool ox] 58) := by rw [← hw4, heap_alloc_old (by simp)]; exact heap_alloc_new w2 _
  have hy4 : w4.heap[w2.heap.size + 1]? = some (.cells #[.float .f64 y, .bool oy] 58) := by
    rw [← hw4]
    have := heap_alloc_new (w2.alloc (.cells #[.float .f64 x, .bool ox] 58)) (.cells #[.float .f64 y, .bool oy] 58)
    simpa using this
  have HX4 := Lib.hid hx4
  have HY4 := Lib.hid hy4
  have HT4 := Lib.hid (HT.out.below hb4)
  have HRL4 := Lib.hid (HLL.out.2.1.below hb4)
  have HWI := Lib.hid (HT4.out.within x ox y oy)
  rw [hw4]
  clear hb4 hx4 hy4 hw4 HW
  refine HWI.out.mono ?_
  rintro e w5 ⟨A, B, rfl, hst, hb5⟩
  have HST := Lib.hid hst
  have hAB := hst.le
  have hBl := hst.len
  rw [HLL.out.2.2.2] at hBl
  have HT5 := Lib.hid (HT4.out.below hb5)
  have HRL5 := Lib.hid (HRL4.out.below hb5)
  have HX5 := Lib.hid ((hb5.block _ (block_lt HX4.out)).trans HX4.out)
  have HY5 := Lib.hid ((hb5.block _ (block_lt HY4.out)).trans HY4.out)
  have HLN := Lib.hid HT5.out.len
  rw [HLL.out.2.2.2] at HLN
  have h1 : decide ((A : Int) < 0) = false := by simp
  have h2 : decide ((B : Int) < (A : Int)) = false := by simp; omega
  have h3 : decide ((m : Int) < (B : Int)) = false := by simp; omega
  have h4 : decide (B < A) = false := by simp; omega
  have h5 : decide (m < B) = false := by simp; omega
  clear hst hb5 HWI HT4 HRL4 HX4 HY4
  go_wp2_with (go_at_call 13; refine HLN.out.mono ?_; rintro e w6 ⟨rfl, rfl⟩)
  clear HLN h1 h2 h3 h4 h5
  go_loopw [20, 67] (fun z i wr => ∃ k : Nat, k ≤ m ∧ i = .int .i64 k ∧ z = .int .i64 ((L.take k).countP (fun p => withinF p.2 x ox y oy) : Nat) ∧ Hid (Below w5.heap.size w5 wr)) (fun _ i _ => m - (intOf i).toNat)
  case atStart => exact ⟨0, by omega, rfl, rfl, Lib.hid (Below.refl _ _)⟩
  case round =>
    obtain ⟨k, hk, rfl, rfl, HBW⟩ := hrel
    have hxw := (HBW.out.block _ (block_lt HX5.out)).trans HX5.out
    have hyw := (HBW.out.block _ (block_lt HY5.out)).trans HY5.out
    by_cases hlt : k < m
    · obtain ⟨p, hp⟩ : ∃ p, L[k]? = some p := ⟨_, List.getElem?_eq_getElem (by rw [HLL.out.2.2.1]; exact hlt)⟩
      obtain ⟨z, rfl, e2, e3⟩ := mb_cells (HRL5.out.below HBW.out) hp
      obtain ⟨w6, hw6⟩ : ∃ w6, wr.alloc (.cells #[.string ⟨p.1.toArray⟩, .float .f64 p.2] 41) = w6 := ⟨_, rfl⟩
      have hb6 : Below wr.heap.size wr w6 := by rw [← hw6]; exact (Below.refl _ wr).alloc (Nat.le_refl _) _
      have hx6 : w6.heap[wr.heap.size]? = some (.cells #[.string ⟨p.1.toArray⟩, .float .f64 p.2] 41) := by rw [← hw6]; exact heap_alloc_new wr _
      obtain ⟨⟨g0, g1⟩, -⟩ := two hx6
      obtain ⟨⟨i0, i1⟩, -⟩ := two ((hb6.block _ (block_lt hxw)).trans hxw)
      obtain ⟨⟨j0, j1⟩, -⟩ := two ((hb6.block _ (block_lt hyw)).trans hyw)
      have HB6 := Lib.hid (HBW.out.trans (hb6.mono HBW.out.size))
      have HW6 := Lib.hid hw6
      have HWF := Lib.hid (within_any w6 p.2 x ox y oy)
      have HCT : Hid ((L.take (k + 1)).countP (fun p => withinF p.2 x ox y oy) = (L.take k).countP (fun p => withinF p.2 x ox y oy) + (if withinF p.2 x ox y oy then 1 else 0)) := Lib.hid (by
        obtain ⟨hk2, rfl⟩ := List.getElem?_eq_some_iff.1 hp
        rw [List.take_succ_eq_append_getElem hk2, List.countP_append, List.countP_singleton])
      have hcb : (L.take k).countP (fun p => withinF p.2 x ox y oy) ≤ 1048576 := Nat.le_trans List.countP_le_length (by rw [List.length_take]; omega)
      obtain ⟨t, ht⟩ : ∃ t, withinF p.2 x ox y oy = t := ⟨_, rfl⟩
      rw [ht] at HWF HCT
      obtain ⟨ct, hct⟩ : ∃ ct, (L.take k).countP (fun p => withinF p.2 x ox y oy) = ct := ⟨_, rfl⟩
      rw [hct] at HCT hcb ⊢
      clear hp hb6 hx6 hw6 hxw hyw ht hct
      cases t
      all_goals
        go_upto_region 15 with fail
        rw [HW6.out]
        go_wp2_with (go_at_call 25; refine HWF.out.mono ?_; clear HWF; rintro e w7 ⟨rfl, hb7⟩
                     have HB7 := Lib.hid (HB6.out.trans (hb7.mono HB6.out.size))
                     clear hb7)
        go_roundw
        case rel => exact ⟨k + 1, by omega, by go_num, by rw [HCT.out]; first | rfl | go_num, HB7⟩
        case measure => simp [intOf]; omega
    · obtain rfl : k = m := by omega
      have HCE : Hid ((L.take k).countP (fun p => withinF p.2 x ox y oy) = B - A) := Lib.hid (by
        rw [List.take_of_length_le (by rw [HLL.out.2.2.1]; exact Nat.le_refl _), HLL.out.1.countP_eq]
        exact HST.out.count)
      rw [HCE.out]
      obtain ⟨hs1, hs2, hs3⟩ := HST.out.seg
      obtain ⟨d, hd⟩ : ∃ d, B - A = d := ⟨_, rfl⟩
      rw [hd] at hs2 ⊢
      obtain ⟨sg, hsg⟩ : ∃ sg, (l.take B).drop A = sg := ⟨_, rfl⟩
      rw [hsg] at hs1 hs2 hs3
      have HSG := Lib.hid (show _ ∧ _ from ⟨hs2, hs3⟩)
      have hsub : (B : Int) - (A : Int) = (d : Int) := by omega
      have HTW := Lib.hid (HT5.out.below HBW.out)
      have HRG := Lib.hid (HTW.out.range A B hs1 hs2)
      have HXW := Lib.hid hxw
      have HYW := Lib.hid hyw
      have hdb : d ≤ 1048576 := by omega
      clear hs1 hs2 hs3 hsg hd hxw hyw
      go_wp2_with (go_at_call 12; refine HRG.out.mono ?_; clear HRG; rintro e w8 ⟨a8, c8, rfl, hrd, -, hb8⟩
                   have HRD8 := Lib.hid hrd
                   have HB8 := Lib.hid hb8
                   have HX8 := Lib.hid ((hb8.block _ (block_lt HXW.out)).trans HXW.out)
                   have HY8 := Lib.hid ((hb8.block _ (block_lt HYW.out)).trans HYW.out)
                   have HU8 := Lib.hid (HB.out.trans ((HTW.out.below hb8).under.mono HB.out.size))
                   clear hrd hb8)
      go_loopw [96] (fun i wr => ∃ j : Nat, j ≤ d ∧ i = .int .i64 j ∧ Hid (Below w8.heap.size w8 wr)) (fun i _ => d - (intOf i).toNat)
      case atStart => exact ⟨0, by omega, rfl, Lib.hid (Below.refl _ _)⟩
      case round =>
        obtain ⟨j, hj, rfl, HBV⟩ := hrel
        have hxw := (HBV.out.block _ (block_lt HX8.out)).trans HX8.out
        have hyw := (HBV.out.block _ (block_lt HY8.out)).trans HY8.out
        by_cases hjl : j < d
        · obtain ⟨p, hp⟩ : ∃ p, sg[j]? = some p := ⟨_, List.getElem?_eq_getElem (by rw [HSG.out.1]; exact hjl)⟩
          obtain ⟨z, rfl, e2, e3⟩ := mb_cells (HRD8.out.below HBV.out) hp
          obtain ⟨w6, hw6⟩ : ∃ w6, wr.alloc (.cells #[.string ⟨p.1.toArray⟩, .float .f64 p.2] 34) = w6 := ⟨_, rfl⟩
          have hb6 : Below wr.heap.size wr w6 := by rw [← hw6]; exact (Below.refl _ wr).alloc (Nat.le_refl _) _
          have hx6 : w6.heap[wr.heap.size]? = some (.cells #[.string ⟨p.1.toArray⟩, .float .f64 p.2] 34) := by rw [← hw6]; exact heap_alloc_new wr _
          obtain ⟨⟨g0, g1⟩, -⟩ := two hx6
          obtain ⟨⟨i0, i1⟩, -⟩ := two ((hb6.block _ (block_lt hxw)).trans hxw)
          obtain ⟨⟨j0, j1⟩, -⟩ := two ((hb6.block _ (block_lt hyw)).trans hyw)
          have HB6 := Lib.hid (HBV.out.trans (hb6.mono HBV.out.size))
          have HW6 := Lib.hid hw6
          have HWF := Lib.hid (within_any w6 p.2 x ox y oy)
          have ht : withinF p.2 x ox y oy = true := HSG.out.2 j p hp
          rw [ht] at HWF
          clear hp hb6 hx6 hw6 hxw hyw ht
          go_upto_region 24 with fail
          rw [HW6.out]
          go_wp2_with (go_at_call 25; refine HWF.out.mono ?_; clear HWF; rintro e w7 ⟨rfl, hb7⟩
                       have HB7 := Lib.hid (HB6.out.trans (hb7.mono HB6.out.size))
                       clear hb7)
          go_roundw
          case rel => exact ⟨j + 1, by omega, by go_num, HB7⟩
          case measure => simp [intOf]; omega
        · clear hxw hyw
          go_wp2_with fail
          go_ret
          exact ⟨rfl, HU8.out.trans (HBV.out.mono HU8.out.size)⟩
end Go.Proofs.Ytbjfigegiffefaa
