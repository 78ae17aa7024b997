/- Behind every script all members stand once, in order, each at its place. The walk. -/
import Derived.Test.YtbjfigegiffefaaAnyWay0
set_option linter.unusedVariables false
set_option linter.unusedSimpArgs false
namespace Pantry
open Go Go.RowKit
theorem rkCost_take {l : List Mb} {k : Nat} {p : Mb} (h : l[k]? = some p) : rkCost (l.take (k + 1)) = rkCost (l.take k) + (40 + p.1.length) := by
  obtain ⟨hk, rfl⟩ := List.getElem?_eq_some_iff.1 h
  rw [List.take_succ_eq_append_getElem hk]
  simp only [rkCost, List.map_append, List.sum_append, List.map_cons, List.map_nil, List.sum_cons, List.sum_nil]
  omega
end Pantry
namespace Go.Proofs.Ytbjfigegiffefaa
open Go.RowKit Pantry

/-- The block of a slice. -/
def BlkOf (a : Option Addr) (k : Nat) : Prop := ∃ x, a = some x ∧ x.block = k
theorem rd_stay {N : Nat → Prop} {w w' : World} {a : Option Addr} {xs : List Value} (h : Rd w a xs) (hs : Stay N w w') (hN : ∀ k, BlkOf a k → N k) : Rd w' a xs :=
  h.of_block fun x hx _ => hs.2 _ (hN _ ⟨x, hx, rfl⟩)
theorem St.sub {w : World} {r : Nat} {l : List Mb} {N M : Nat → Prop} {wr : World} (h : St w r l N wr) (hM : ∀ k, M k → N k) : St w r l M wr := by
  obtain ⟨S, h1, h2, h3, h4, h5⟩ := h
  exact ⟨S, h1, h2, h3, fun k hk hm => h4 k hk (hM k hm), fun k hk => h5 k (hM k hk)⟩
theorem Stay.below {N : Nat → Prop} {w w' : World} (hb : Below w.heap.size w w') (hN : ∀ k, N k → k < w.heap.size) : Stay N w w' := ⟨hb.size, fun k hk => hb.block k (hN k hk)⟩
theorem Twin.st {w : World} {r : Nat} {a : Option Addr} {n c : Nat} {l : List Mb} {wr : World} (h : Twin w r (.slice a n c) l wr) : St w r l (BlkOf a) wr := by
  obtain ⟨⟨S, L, h1, h2, h3, h4, h5⟩, h6⟩ := h
  have hown : ∀ k, BlkOf a k → (Value.slice a n c).ownBlock = some k := by
    rintro k ⟨x, rfl, rfl⟩
    rcases h4.2 with ⟨hv, -⟩ | ⟨g, cap, cur, hv, -⟩ <;> cases hv <;> rfl
  exact ⟨S, h1, h2, h6, fun k hk hb => (h5 k (hown k hb)).1 hk, fun k hk => (h4.lt k (hown k hk)).2⟩
theorem cmpR_split {p q : Mb} (h : cmpR q p < 0) : fkey q.2 < fkey p.2 ∨ (fkey q.2 = fkey p.2 ∧ Op.bytesLess q.1 p.1 = true) := by
  rcases cmpR_lt.1 h with h | ⟨h1, h2⟩
  · exact .inl h
  · exact .inr ⟨h1, by rw [bytesLess_iff]; simpa using h2⟩
set_option maxHeartbeats 16000000 in
set_option maxRecDepth 100000 in
theorem orders_walk (w : World) (seed : Nat) (hs : seed < 18446744073709551616) (a : Option Addr) (n c : Nat) (ops : List Stp) (hl : OpsAt w a n ops) :
    Calls Try.prog 3 #[.int .u64 seed, .slice a n c] w (OkPost w) := by
  have HW := Lib.hid (wakes_any w)
  have HL := Lib.hid hl
  have H1 := Lib.hid hs
  clear hl hs
  go_enter Try.func3, Try.ntmps3
  go_wp2_with (first
    | (go_at_call 10; refine HW.out.mono ?_; rintro e w1 ⟨rfl, hb⟩
       have HB := Lib.hid hb
       have HBU := Lib.hid (built_any w1 seed H1.out a n c ops (HL.out.keep hb))
       clear hb)
    | (go_at_call 11; refine HBU.out.mono ?_; rintro e w2 ⟨r, v, rfl, ht⟩
       have HT := Lib.hid ht
       have HG := Lib.hid ht.good
       obtain ⟨L, a2, c2, rfl, hp, hrd, hlen⟩ := ht.entries
       have hf := ht.good.1.few
       obtain ⟨l, hll⟩ : ∃ l, runL ops = l := ⟨_, rfl⟩
       rw [hll] at hlen hf hp HG HT
       rw [hll]
       obtain ⟨m, hm⟩ : ∃ m, l.length = m := ⟨_, rfl⟩
       rw [hm] at hlen hf HT
       rw [hm]
       have HLL := Lib.hid (show _ ∧ _ ∧ _ ∧ _ from ⟨hp, hrd, hlen, hm⟩)
       have HLN := Lib.hid (HT.out.len)
       rw [hm] at HLN
       have HR1 := Lib.hid (HT.out.range 0 m (m := l) (n := m) (by have := segR_all l; rwa [hm] at this) hm)
       have HST2 := Lib.hid HT.out.st
       clear ht hp hrd hlen hm hll HBU)
    | (go_at_call 13; refine HLN.out.mono ?_; rintro e w3 ⟨rfl, rfl⟩)
    | (go_at_call 12; refine HR1.out.mono ?_; clear HR1; rintro e w3 ⟨a3, c3, rfl, hrd, hblk, hb⟩
       have HRD3 := Lib.hid hrd
       have HRL3 := Lib.hid (HLL.out.2.1.below hb)
       have HST3 : Hid (St w1 r l (fun k => BlkOf a3 k ∨ BlkOf a2 k) w3) := Lib.hid (HST2.out.watch hb fun k hk => by
         rcases hk with ⟨x, hx, rfl⟩ | hk
         · exact ⟨.inl (hblk x hx).1, (hblk x hx).2⟩
         · exact ⟨.inr hk, Nat.lt_of_lt_of_le (HST2.out.own k hk) hb.size⟩)
       have HLN3 := Lib.hid HST3.out.len
       rw [HLL.out.2.2.2] at HLN3
       clear hrd hblk hb HLN)
    | (go_at_call 13; refine HLN3.out.mono ?_; rintro e w4 ⟨rfl, rfl⟩))
  clear HW HLN3 HST2
  go_loopw [9, 50] (fun x i wr => ∃ k : Nat, k ≤ m ∧ i = .int .i64 k ∧ x = .int .i64 (rkCost (l.take k) : Nat) ∧ Hid (St w1 r l (fun k => BlkOf a3 k ∨ BlkOf a2 k) wr) ∧ Hid (Rd wr a3 (rkCells l)) ∧ Hid (Rd wr a2 (rkCells L))) (fun _ i _ => m - (intOf i).toNat)
  case atStart => exact ⟨0, by omega, rfl, rfl, HST3, HRD3, HRL3⟩
  case round =>
    clear HST3 HRD3 HRL3
    obtain ⟨k, hk, rfl, rfl, HS, HRR, HRL⟩ := hrel
    by_cases hlt : k < m
    · obtain ⟨p, hp⟩ : ∃ p, l[k]? = some p := ⟨_, List.getElem?_eq_getElem (by rw [HLL.out.2.2.2]; exact hlt)⟩
      obtain ⟨y, rfl, e2, e3⟩ := mb_cells HRR.out hp
      have hct := rkCost_take hp
      have hcb := rkCost_le (l := l.take (k + 1)) fun q hq => HG.out.1.text q (List.mem_of_mem_take hq)
      have hcl : (l.take (k + 1)).length ≤ 1048576 := by rw [List.length_take]; have := HG.out.1.few; omega
      have hcb2 : rkCost (l.take (k + 1)) ≤ 1048576 * 1048616 := Nat.le_trans hcb (Nat.mul_le_mul_right _ hcl)
      obtain ⟨w5, hw5⟩ : ∃ w5, wr.alloc (.cells #[.string ⟨p.1.toArray⟩, .float .f64 p.2] 34) = w5 := ⟨_, rfl⟩
      have hb5 : Below wr.heap.size wr w5 := by rw [← hw5]; exact (Below.refl _ wr).alloc (Nat.le_refl _) _
      have hs5 : w5.heap.size = wr.heap.size + 1 := by rw [← hw5]; simp
      have hx5 : w5.heap[wr.heap.size]? = some (.cells #[.string ⟨p.1.toArray⟩, .float .f64 p.2] 34) := by rw [← hw5]; exact heap_alloc_new wr _
      have HNUM := Lib.hid (HG.out.1.num p (List.mem_of_getElem? hp))
      have HTXT := HG.out.1.text p (List.mem_of_getElem? hp)
      -- what Rank and Score do behind here
      have HRK : Hid (∀ W, Below wr.heap.size wr W → W.heap[wr.heap.size]? = some (.cells #[.string ⟨p.1.toArray⟩, .float .f64 p.2] 34) → St w1 r l (fun j => (BlkOf (some y) j ∨ BlkOf a2 j) ∨ j = wr.heap.size) W ∧ Rd W (some y) (rkCells l) ∧ Rd W a2 (rkCells L)) := Lib.hid fun W hW hx =>
        ⟨HS.out.watch hW fun j hj => by
          rcases hj with hj | rfl
          · exact ⟨.inr hj, Nat.lt_of_lt_of_le (HS.out.own j hj) hW.size⟩
          · exact ⟨.inl (Nat.le_refl _), block_lt hx⟩, HRR.out.below hW, HRL.out.below hW⟩
      have HAL := Lib.hid (fun W => alike_any W p.2 p.2)
      have HAB : Hid (alikeB p.2 p.2 = true) := Lib.hid (by rw [alikeB_num HNUM.out HNUM.out]; simp)
      have HP := Lib.hid hp
      have HB5 := Lib.hid hb5
      have HX5 := Lib.hid hx5
      obtain ⟨⟨g0, g1⟩, -⟩ := two hx5
      have HW5 := Lib.hid hw5
      have HCT := Lib.hid hct
      obtain ⟨c0, hc0⟩ : ∃ c0, rkCost (l.take k) = c0 := ⟨_, rfl⟩
      have HC0 := Lib.hid hc0
      rw [hc0] at hct
      rw [hct] at hcb2
      rw [hc0]
      clear hp hb5 hx5 hw5 hct hcb hcl hc0
      by_cases hk0 : k = 0
      · have hgt : decide ((0 : Int) < (k : Int)) = false := by simp; omega
        have hgt2 : ¬ (0 : Int) < (k : Int) := by omega
        obtain ⟨hst5, hr5, hr5'⟩ := HRK.out w5 HB5.out HX5.out
        have HRC := Lib.hid (hst5.rankK (i := k) p.1 p.2 HP.out (by omega))
        have HRD5 := Lib.hid (show _ ∧ _ from ⟨hr5, hr5'⟩)
        clear hst5 hr5 hr5' hk0
        go_upto_region 13 with fail
        rw [HW5.out]
        go_wp2_with (first
          | (go_at_call 14; refine HRC.out.mono ?_; clear HRC; rintro e w7 ⟨rfl, hst, hsy⟩
             obtain ⟨⟨g0', g1'⟩, -⟩ := two ((hsy.2 _ (.inr rfl)).trans HX5.out)
             have HX7 := Lib.hid ((hsy.2 _ (.inr rfl)).trans HX5.out)
             have HRD7 := Lib.hid (show _ ∧ _ from ⟨rd_stay HRD5.out.1 hsy fun j hj => .inl (.inl hj), rd_stay HRD5.out.2 hsy fun j hj => .inl (.inr hj)⟩)
             have HSC := Lib.hid (hst.scoreK (List.mem_of_getElem? HP.out) (by omega))
             clear hst hsy)
          | (go_at_call 15; refine HSC.out.mono ?_; clear HSC; rintro e w8 ⟨rfl, hst, hsy⟩
             obtain ⟨⟨g0'', g1''⟩, -⟩ := two ((hsy.2 _ (.inr rfl)).trans HX7.out)
             have HRD8 := Lib.hid (show _ ∧ _ from ⟨rd_stay HRD7.out.1 hsy fun j hj => .inl (.inl hj), rd_stay HRD7.out.2 hsy fun j hj => .inl (.inr hj)⟩)
             have HS8 := Lib.hid (hst.sub (M := fun k => BlkOf (some y) k ∨ BlkOf a2 k) fun j hj => .inl hj)
             clear hst hsy)
          | (go_at_call 16; refine (HAL.out _).mono ?_; rintro e w9 ⟨rfl, rfl⟩; rw [HAB.out]))
        go_roundw
        case rel => exact ⟨k + 1, by omega, by go_num, by rw [HCT.out, HC0.out]; go_num, HS8, Lib.hid HRD8.out.1, Lib.hid HRD8.out.2⟩
        case measure => simp [intOf]; omega
      · obtain ⟨j, rfl⟩ : ∃ j, k = j + 1 := ⟨k - 1, by omega⟩
        obtain ⟨q, hq⟩ : ∃ q, l[j]? = some q := ⟨_, List.getElem?_eq_getElem (by rw [HLL.out.2.2.2]; omega)⟩
        obtain ⟨y', hy', d2, d3⟩ := mb_cells (HRR.out.below HB5.out) hq
        cases hy'
        have hcm := HG.out.1.rises.get (Nat.lt_succ_self j) hq HP.out
        have HNUQ := Lib.hid (HG.out.1.num q (List.mem_of_getElem? hq))
        have h1 := f_lt HNUQ.out HNUM.out
        have h2 := f_eq HNUQ.out HNUM.out
        have hgt : decide ((0 : Int) < ((j + 1 : Nat) : Int)) = true := by simp <;> omega
        obtain ⟨w6, hw6⟩ : ∃ w6, w5.alloc (.cells #[.string ⟨q.1.toArray⟩, .float .f64 q.2] 34) = w6 := ⟨_, rfl⟩
        have hb6 : Below w5.heap.size w5 w6 := by rw [← hw6]; exact (Below.refl _ w5).alloc (Nat.le_refl _) _
        have hx6 : w6.heap[w5.heap.size]? = some (.cells #[.string ⟨q.1.toArray⟩, .float .f64 q.2] 34) := by rw [← hw6]; exact heap_alloc_new w5 _
        have hx65 := (hb6.block _ (block_lt HX5.out)).trans HX5.out
        obtain ⟨⟨i0, i1⟩, -⟩ := two hx6
        obtain ⟨⟨j0, j1⟩, -⟩ := two hx65
        rw [hs5] at i0 i1
        obtain ⟨hst5, hr5, hr5'⟩ := HRK.out w6 (HB5.out.trans (hb6.mono HB5.out.size)) hx65
        have HX65 := Lib.hid hx65
        have HRC := Lib.hid (hst5.rankK (i := j + 1) p.1 p.2 HP.out (by omega))
        have HRD5 := Lib.hid (show _ ∧ _ from ⟨hr5, hr5'⟩)
        have HW6 := Lib.hid hw6
        have hj1 : ((j + 1 : Nat) : Int) - 1 = (j : Int) := by omega
        clear hst5 hr5 hr5' hk0 hq hb6 hx6 hx65 hw6
        rcases cmpR_split hcm with hlt1 | ⟨heq1, hls⟩
        · rw [decide_eq_true hlt1] at h1
          clear hcm hlt1 h2
          go_upto_region 13 with fail
          rw [HW5.out]
          go_upto_region 15 with fail
          rw [HW6.out]
          go_wp2_with (first
            | (go_at_call 14; refine HRC.out.mono ?_; clear HRC; rintro e w7 ⟨rfl, hst, hsy⟩
               obtain ⟨⟨g0', g1'⟩, -⟩ := two ((hsy.2 _ (.inr rfl)).trans HX65.out)
               have HX7 := Lib.hid ((hsy.2 _ (.inr rfl)).trans HX65.out)
               have HRD7 := Lib.hid (show _ ∧ _ from ⟨rd_stay HRD5.out.1 hsy fun j hj => .inl (.inl hj), rd_stay HRD5.out.2 hsy fun j hj => .inl (.inr hj)⟩)
               have HSC := Lib.hid (hst.scoreK (List.mem_of_getElem? HP.out) (by omega))
               clear hst hsy)
            | (go_at_call 15; refine HSC.out.mono ?_; clear HSC; rintro e w8 ⟨rfl, hst, hsy⟩
               obtain ⟨⟨g0'', g1''⟩, -⟩ := two ((hsy.2 _ (.inr rfl)).trans HX7.out)
               have HRD8 := Lib.hid (show _ ∧ _ from ⟨rd_stay HRD7.out.1 hsy fun j hj => .inl (.inl hj), rd_stay HRD7.out.2 hsy fun j hj => .inl (.inr hj)⟩)
               have HS8 := Lib.hid (hst.sub (M := fun k => BlkOf (some y) k ∨ BlkOf a2 k) fun j hj => .inl hj)
               clear hst hsy)
            | (go_at_call 16; refine (HAL.out _).mono ?_; rintro e w9 ⟨rfl, rfl⟩; rw [HAB.out]))
          go_roundw
          case rel => exact ⟨j + 1 + 1, by omega, by go_num, by rw [HCT.out, HC0.out]; go_num, HS8, Lib.hid HRD8.out.1, Lib.hid HRD8.out.2⟩
          case measure => simp [intOf]; omega
        · rw [decide_eq_false (by omega)] at h1
          rw [decide_eq_true heq1] at h2
          clear hcm heq1
          go_upto_region 13 with fail
          rw [HW5.out]
          go_upto_region 15 with fail
          rw [HW6.out]
          go_wp2_with (first
            | (go_at_call 14; refine HRC.out.mono ?_; clear HRC; rintro e w7 ⟨rfl, hst, hsy⟩
               obtain ⟨⟨g0', g1'⟩, -⟩ := two ((hsy.2 _ (.inr rfl)).trans HX65.out)
               have HX7 := Lib.hid ((hsy.2 _ (.inr rfl)).trans HX65.out)
               have HRD7 := Lib.hid (show _ ∧ _ from ⟨rd_stay HRD5.out.1 hsy fun j hj => .inl (.inl hj), rd_stay HRD5.out.2 hsy fun j hj => .inl (.inr hj)⟩)
               have HSC := Lib.hid (hst.scoreK (List.mem_of_getElem? HP.out) (by omega))
               clear hst hsy)
            | (go_at_call 15; refine HSC.out.mono ?_; clear HSC; rintro e w8 ⟨rfl, hst, hsy⟩
               obtain ⟨⟨g0'', g1''⟩, -⟩ := two ((hsy.2 _ (.inr rfl)).trans HX7.out)
               have HRD8 := Lib.hid (show _ ∧ _ from ⟨rd_stay HRD7.out.1 hsy fun j hj => .inl (.inl hj), rd_stay HRD7.out.2 hsy fun j hj => .inl (.inr hj)⟩)
               have HS8 := Lib.hid (hst.sub (M := fun k => BlkOf (some y) k ∨ BlkOf a2 k) fun j hj => .inl hj)
               clear hst hsy)
            | (go_at_call 16; refine (HAL.out _).mono ?_; rintro e w9 ⟨rfl, rfl⟩; rw [HAB.out]))
          go_roundw
          case rel => exact ⟨j + 1 + 1, by omega, by go_num, by rw [HCT.out, HC0.out]; go_num, HS8, Lib.hid HRD8.out.1, Lib.hid HRD8.out.2⟩
          case measure => simp [intOf]; omega
    · obtain rfl : k = m := by omega
      have HCE : Hid (rkCost (l.take k) = rkCost l) := Lib.hid (by rw [List.take_of_length_le (by rw [HLL.out.2.2.2]; exact Nat.le_refl _)])
      rw [HCE.out]
      obtain ⟨cc, hcc⟩ : ∃ cc, rkCost l = cc := ⟨_, rfl⟩
      rw [hcc]
      have HCC := Lib.hid hcc
      clear hcc HRR
      go_wp2_with fail
      go_loopw [123] (fun i wr => ∃ j : Nat, j ≤ k ∧ i = .int .i64 j ∧ Hid (St w1 r l (fun k => BlkOf a3 k ∨ BlkOf a2 k) wr) ∧ Hid (Rd wr a2 (rkCells L))) (fun i _ => k - (intOf i).toNat)
      case atStart => exact ⟨0, by omega, rfl, HS, HRL⟩
      case round =>
        clear HS HRL
        obtain ⟨j, hj, rfl, HS, HRL⟩ := hrel
        by_cases hjl : j < k
        · obtain ⟨p, hp⟩ : ∃ p, L[j]? = some p := ⟨_, List.getElem?_eq_getElem (by rw [HLL.out.2.2.1]; exact hjl)⟩
          obtain ⟨y, rfl, e2, e3⟩ := mb_cells HRL.out hp
          have hpl : p ∈ l := HLL.out.1.mem_iff.1 (List.mem_of_getElem? hp)
          obtain ⟨w5, hw5⟩ : ∃ w5, wr.alloc (.cells #[.string ⟨p.1.toArray⟩, .float .f64 p.2] 41) = w5 := ⟨_, rfl⟩
          have hb5 : Below wr.heap.size wr w5 := by rw [← hw5]; exact (Below.refl _ wr).alloc (Nat.le_refl _) _
          have hx5 : w5.heap[wr.heap.size]? = some (.cells #[.string ⟨p.1.toArray⟩, .float .f64 p.2] 41) := by rw [← hw5]; exact heap_alloc_new wr _
          have HNUM := Lib.hid (HG.out.1.num p hpl)
          have HTXT := HG.out.1.text p hpl
          have HAL := Lib.hid (fun W => alike_any W p.2 p.2)
          have HAB : Hid (alikeB p.2 p.2 = true) := Lib.hid (by rw [alikeB_num HNUM.out HNUM.out]; simp)
          have HST5 : St w1 r l (fun j => (BlkOf a3 j ∨ BlkOf (some y) j) ∨ j = wr.heap.size) w5 := HS.out.watch hb5 fun j hj => by
            rcases hj with hj | rfl
            · exact ⟨.inr hj, Nat.lt_of_lt_of_le (HS.out.own j hj) hb5.size⟩
            · exact ⟨.inl (Nat.le_refl _), block_lt hx5⟩
          have HSC := Lib.hid (HST5.scoreK hpl (by omega))
          obtain ⟨⟨g0, g1⟩, -⟩ := two hx5
          have HX5 := Lib.hid hx5
          have HRL5 := Lib.hid (HRL.out.below hb5)
          have HW5 := Lib.hid hw5
          clear hp hpl hb5 hx5 hw5 HST5
          go_upto_region 26 with fail
          rw [HW5.out]
          go_wp2_with (first
            | (go_at_call 15; refine HSC.out.mono ?_; clear HSC; rintro e w8 ⟨rfl, hst, hsy⟩
               obtain ⟨⟨g0'', g1''⟩, -⟩ := two ((hsy.2 _ (.inr rfl)).trans HX5.out)
               have HRL8 := Lib.hid (rd_stay HRL5.out hsy fun j hj => .inl (.inr hj))
               have HS8 := Lib.hid (hst.sub (M := fun k => BlkOf a3 k ∨ BlkOf (some y) k) fun j hj => .inl hj)
               clear hst hsy)
            | (go_at_call 16; refine (HAL.out _).mono ?_; rintro e w9 ⟨rfl, rfl⟩; rw [HAB.out]))
          go_roundw
          case rel => exact ⟨j + 1, by omega, by go_num, HS8, HRL8⟩
          case measure => simp [intOf]; omega
        · have HCO := Lib.hid HS.out.cost
          rw [HCC.out] at HCO
          have HU := Lib.hid (HB.out.trans (HS.out.under.mono HB.out.size))
          clear hj
          go_wp2_with (go_at_call 17; refine HCO.out.mono ?_; rintro e w10 ⟨rfl, rfl⟩)
          go_ret
          exact ⟨by simp, HU.out⟩
end Go.Proofs.Ytbjfigegiffefaa
