/- The chapter's examples. -/
import Derived.Test.YtbjfigegiffefaaRkSt
set_option linter.unusedVariables false
set_option linter.unusedSimpArgs false
namespace Pantry
open Go Go.RowKit
def infB : Nat := 9218868437227405312
def nzB : Nat := 9223372036854775808
def ks : List Mb := [([98], 4607182418800017408), ([97], 4607182418800017408), ([99], nzB), ([100], ninfB)]
def lkN (k : Nat) : List Mb := (ks.take k).foldl (fun l p => (setL l p.1 p.2).1) []
theorem ks_step : ∀ k : Fin 4, setL (lkN k) (ks.getD k default).1 (ks.getD k default).2 = (lkN (k + 1), true, 0) := by decide +kernel
def K4 : List Mb := [([100], ninfB), ([99], nzB), ([97], 4607182418800017408), ([98], 4607182418800017408)]
def K5 : List Mb := [([100], ninfB), ([99], nzB), ([98], 4607182418800017408), ([97], 4611686018427387904)]
theorem lk4 : lkN 4 = K4 := by decide +kernel
theorem k_set1 : setL K4 [99] 0 = (K4, false, 0) := by decide +kernel
theorem k_set2 : setL K4 [97] 4611686018427387904 = (K5, false, 0) := by decide +kernel
theorem k_set3 : setL K5 [101] 9221120237041090561 = (K5, false, 20) := by decide +kernel
theorem k_seg1 : segR K4 0 9 = K4 := by decide +kernel
theorem k_seg2 : segR K5 (-5) 1 = [([100], ninfB)] := by decide +kernel
theorem k_seg3 : segR K5 2 1 = [] := by decide +kernel
theorem k_seg4 : segR K5 1 2 = [([99], nzB)] := by decide +kernel
theorem k_cost : rkCost K5 = 164 := by decide +kernel
theorem k_same1 : sameB K4 K4 = true := by decide +kernel
theorem k_same2 : sameB [([100], ninfB)] [([100], ninfB)] = true := by decide +kernel
theorem k_same4 : sameB [([99], nzB)] [([99], nzB)] = true := by decide +kernel
theorem k_alike : alikeB nzB nzB = true := by decide +kernel
/-- A stretch, and what Within answers. -/
structure Cs where
  a : Nat
  oa : Bool
  b : Nat
  ob : Bool
  i : Nat
  j : Nat
instance : Inhabited Cs := ⟨⟨0, false, 0, false, 0, 0⟩⟩
def Cs.cells (c : Cs) : List Value := [.float .f64 c.a, .bool c.oa, .float .f64 c.b, .bool c.ob, .int .i64 c.i, .int .i64 c.j]
def cs6 : List Cs := [⟨0, false, 4607182418800017408, false, 1, 3⟩, ⟨0, true, 4607182418800017408, false, 2, 3⟩, ⟨4611686018427387904, false, 4611686018427387904, true, 3, 3⟩,
  ⟨ninfB, false, infB, false, 0, 4⟩, ⟨4617315517961601024, false, 13840687554816376832, false, 4, 4⟩, ⟨9221120237041090561, false, 4607182418800017408, false, 0, 0⟩]
theorem cs_flat (l : List Cs) {k : Nat} {p : Cs} (h : l[k]? = some p) {j : Nat} {u : Value} (hj : p.cells[j]? = some u) : (l.flatMap Cs.cells)[k * 6 + j]? = some u := by
  have hj6 : j < 6 := by have := (List.getElem?_eq_some_iff.1 hj).1; simpa [Cs.cells] using this
  induction l generalizing k with
  | nil => cases h
  | cons q l ih =>
    have hq : q.cells.length = 6 := by simp [Cs.cells]
    cases k with
    | zero =>
      cases h
      rw [List.flatMap_cons, Nat.zero_mul, Nat.zero_add, List.getElem?_append_left (by omega)]
      exact hj
    | succ k =>
      rw [List.flatMap_cons, List.getElem?_append_right (by omega), hq, show (k + 1) * 6 + j - 6 = k * 6 + j by omega]
      exact ih (by simpa using h)
theorem cs_get {k : Nat} {p : Cs} (h : cs6[k]? = some p) {j : Nat} {u : Value} (hj : p.cells[j]? = some u) : (cs6.flatMap Cs.cells)[k * 6 + j]? = some u := cs_flat _ h hj
theorem cs_step : ∀ k : Fin 6, withinL K5 (cs6.getD k default).a (cs6.getD k default).oa (cs6.getD k default).b (cs6.getD k default).ob = ((cs6.getD k default).i, (cs6.getD k default).j) := by decide +kernel
end Pantry
namespace Go.Proofs.Ytbjfigegiffefaa
open Go.RowKit Pantry

theorem copied {wr w3 : World} {z cells : Array Value} {t : TypeId} (hw : (wr.alloc (.cells z t)).setRow wr.heap.size cells = w3) : w3.heap[wr.heap.size]? = some (.cells cells t) ∧ w3.heap.size = wr.heap.size + 1 ∧ Chg (fun _ => False) wr w3 := by
  subst hw
  refine ⟨setRow_heap _ _ _ _ _ _ (heap_alloc_new wr _), by simp [World.setRow], ?_⟩
  exact ((Chg.refl _ wr).alloc _).setRow (fun e => absurd e (Nat.lt_irrefl _)) _
theorem inf_any (w : World) : Calls Try.prog 26 #[.int .i64 1] w fun e w' => e = .returned (.float .f64 infB) ∧ w = w' := by
  have h1 := frombits
  go_enter Try.func26, Try.ntmps26
  go_wp2
  go_ret
  exact ⟨rfl, rfl⟩
theorem nan_any (w : World) : Calls Try.prog 28 #[] w fun e w' => e = .returned (.float .f64 9221120237041090561) ∧ w = w' := by
  have h1 := frombits
  go_enter Try.func28, Try.ntmps28
  go_wp2
  go_ret
  exact ⟨rfl, rfl⟩
theorem copysign_any (w : World) : Calls Try.prog 27 #[.float .f64 0, .float .f64 13830554455654793216] w fun e w' => e = .returned (.float .f64 nzB) ∧ w = w' := by
  have h1 := frombits
  have h2 := tobits
  go_enter Try.func27, Try.ntmps27
  go_wp2
  go_ret
  exact ⟨rfl, rfl⟩
set_option maxHeartbeats 8000000 in
set_option maxRecDepth 100000 in
theorem known_walk (w : World) : Calls Try.prog 7 #[] w (OkPost w) := by
  have HW := Lib.hid (wakes_any w)
  have HI := fun w => Lib.hid (inf_any w)
  have HC := fun w => Lib.hid (copysign_any w)
  have HNA := fun w => Lib.hid (nan_any w)
  have HN := fun w => Lib.hid (Rk.new w 9 (by decide))
  have hneg : ∀ w : World, Sem.run Try.prog (Op.unary UnOp.neg (.float .f64 infB)) w = .ok (.float .f64 ninfB) w := fun w => by kernel_rfl
  go_enter Try.func7, Try.ntmps7
  go_wp2_with (first
    | (go_at_call 10; refine HW.out.mono ?_; rintro e w1 ⟨rfl, hb⟩
       have HB := Lib.hid hb
       clear hb)
    | (go_at_call 26; refine (HI _).out.mono ?_; rintro e w2 ⟨rfl, rfl⟩)
    | (go_at_call 27; refine (HC _).out.mono ?_; rintro e w2 ⟨rfl, rfl⟩)
    | (go_at_call 18; refine (HN _).out.mono ?_; rintro e w2 ⟨r, S, rfl, hr, hb, hS⟩
       have HST := Lib.hid (St.made HB.out hr hb hS)
       clear hr hb hS))
  obtain ⟨w3, hw3⟩ : ∃ w3, w2.alloc (.cells #[.string ⟨#[98]⟩, .float .f64 4607182418800017408, .string ⟨#[97]⟩, .float .f64 4607182418800017408, .string ⟨#[99]⟩, .float .f64 nzB, .string ⟨#[100]⟩, .float .f64 ninfB] 34) = w3 := ⟨_, rfl⟩
  have hb3 : Below w2.heap.size w2 w3 := by rw [← hw3]; exact (Below.refl _ w2).alloc (Nat.le_refl _) _
  have hg3 : w3.heap[w2.heap.size]? = some (.cells (rkCells ks).toArray 34) := by rw [← hw3]; exact heap_alloc_new w2 _
  have HST3 : Hid (St w r [] (fun k => k = w2.heap.size) w3) := Lib.hid (HST.out.watch hb3 fun k hk => by subst hk; exact ⟨.inl (Nat.le_refl _), block_lt hg3⟩)
  have HG3 := Lib.hid hg3
  rw [hw3]
  clear hb3 hg3 hw3
  go_loopw [34] (fun i wr => ∃ k : Nat, k ≤ 4 ∧ i = .int .i64 k ∧ Hid (St w r (lkN k) (fun k => k = w2.heap.size) wr) ∧ Hid (wr.heap[w2.heap.size]? = some (.cells (rkCells ks).toArray 34))) (fun i _ => 4 - (intOf i).toNat)
  case atStart => exact ⟨0, by omega, rfl, HST3, HG3⟩
  case round =>
    obtain ⟨k, hk, rfl, HS, HG⟩ := hrel
    by_cases hlt : k < 4
    · have hstep := ks_step ⟨k, hlt⟩
      obtain ⟨p, hm⟩ : ∃ p, ks[k]? = some p := ⟨_, List.getElem?_eq_getElem hlt⟩
      have hp : ks.getD k default = p := by rw [List.getD_eq_getElem?_getD, hm]; rfl
      simp only at hstep
      rw [hp] at hstep
      obtain ⟨e2, e3⟩ := blk_cells HG.out hm
      obtain ⟨s, x⟩ := p
      have hsl : s.length ≤ 140737488351232 := by
        have : ∀ p ∈ ks, p.1.length ≤ 140737488351232 := by decide +kernel
        exact this _ (List.mem_of_getElem? hm)
      obtain ⟨w4, hw4⟩ : ∃ w4, wr.alloc (.cells #[.string ⟨s.toArray⟩, .float .f64 x] 34) = w4 := ⟨_, rfl⟩
      have hb4 : Below wr.heap.size wr w4 := by rw [← hw4]; exact (Below.refl _ wr).alloc (Nat.le_refl _) _
      have HB4 := Lib.hid hb4
      have HSET := Lib.hid ((HS.out.below hb4).setK s x hsl hstep)
      obtain ⟨⟨f0, f1⟩, -⟩ := two (w := w4) (g := wr.heap.size) (by rw [← hw4]; exact heap_alloc_new wr _)
      have HW4 := Lib.hid hw4
      clear hb4 hp hm hstep hw4
      have HGK := Lib.hid (block_lt HG.out)
      go_wp2_with (go_at_call 19; rw [HW4.out]; refine HSET.out.mono ?_; rintro e w5 ⟨rfl, hst, hsy⟩
                   have HS5 := Lib.hid hst
                   have HG5 : Hid (w5.heap[w2.heap.size]? = some (.cells (rkCells ks).toArray 34)) := Lib.hid ((hsy.2 _ rfl).trans ((HB4.out.block _ HGK.out).trans HG.out))
                   clear hst hsy HSET)
      go_roundw
      case rel => exact ⟨k + 1, by omega, by go_num, HS5, HG5⟩
      case measure => simp [intOf]; omega
    · obtain rfl : k = 4 := by omega
      have HS4 : Hid (St w r K4 (fun k => k = w2.heap.size) wr) := Lib.hid (by have := HS.out; rwa [lk4] at this)
      clear HS HG hlt hk
      have HR1 := Lib.hid (HS4.out.range 0 9 (m := K4) (n := 4) k_seg1 rfl)
      go_wp2_with (first
        | (go_at_call 12; refine HR1.out.mono ?_; rintro e w4 ⟨a4, c4, rfl, hrd, -, hb4⟩
           have HRD4 := Lib.hid hrd
           have HS5 := Lib.hid (HS4.out.below hb4)
           clear hrd hb4 HR1 HS4)
        | (go_at_call 20; refine (same_any _ _ 4 4 _ _ K4 K4 _ rfl rfl (by decide) (HRD4.out.alloc _) (show Rd _ _ (rkCells K4) from Rd.new _ _ _ (0, 0) (by decide))).mono ?_; rintro e w6 ⟨rfl, q6, rfl⟩
           rw [k_same1]
           have hs6 := (HS5.out.below ((Below.refl _ _).alloc (Nat.le_refl _) (.cells #[.string ⟨#[100]⟩, .float .f64 ninfB, .string ⟨#[99]⟩, .float .f64 nzB, .string ⟨#[97]⟩, .float .f64 4607182418800017408, .string ⟨#[98]⟩, .float .f64 4607182418800017408] 34))).below (belowN (q := q6) (Below.refl _ _))
           have HK1 := Lib.hid (hs6.rankK (i := 2) [97] 4607182418800017408 rfl (by decide))
           clear hs6 HS5 HRD4)
        | (go_at_call 14; refine HK1.out.mono ?_; clear HK1; rintro e w7 ⟨rfl, hst, -⟩
           have HSE1 := Lib.hid (hst.setK [99] 0 (by decide) k_set1)
           clear hst)
        | (go_at_call 19; refine HSE1.out.mono ?_; clear HSE1; rintro e w8 ⟨rfl, hst, -⟩
           have HSC := Lib.hid (hst.scoreK (key := [99]) (x := nzB) (by decide) (by decide))
           clear hst)
        | (go_at_call 15; refine HSC.out.mono ?_; clear HSC; rintro e w9 ⟨rfl, hst, -⟩
           have HS9 := Lib.hid hst
           have HAL := Lib.hid (alike_any w9 nzB nzB)
           clear hst)
        | (go_at_call 16; refine HAL.out.mono ?_; clear HAL; rintro e w10 ⟨rfl, rfl⟩
           rw [k_alike]
           have HSE2 := Lib.hid (HS9.out.setK [97] 4611686018427387904 (by decide) k_set2)
           clear HS9)
        | (go_at_call 19; refine HSE2.out.mono ?_; clear HSE2; rintro e w11 ⟨rfl, hst, -⟩
           have HK2 := Lib.hid (hst.rankK (i := 3) [97] 4611686018427387904 rfl (by decide))
           clear hst)
        | (go_at_call 14; refine HK2.out.mono ?_; clear HK2; rintro e w12 ⟨rfl, hst, -⟩
           have HS12 := Lib.hid hst
           clear hst)
        | (go_at_call 28; refine (HNA _).out.mono ?_; rintro e w13 ⟨rfl, rfl⟩))
      obtain ⟨w13, hw13⟩ : ∃ w13, w12.alloc (.cells #[.float .f64 0, .bool false, .float .f64 4607182418800017408, .bool false, .int .i64 1, .int .i64 3, .float .f64 0, .bool true, .float .f64 4607182418800017408, .bool false, .int .i64 2, .int .i64 3, .float .f64 4611686018427387904, .bool false, .float .f64 4611686018427387904, .bool true, .int .i64 3, .int .i64 3, .float .f64 ninfB, .bool false, .float .f64 infB, .bool false, .int .i64 0, .int .i64 4, .float .f64 4617315517961601024, .bool false, .float .f64 13840687554816376832, .bool false, .int .i64 4, .int .i64 4, .float .f64 9221120237041090561, .bool false, .float .f64 4607182418800017408, .bool false, .int .i64 0, .int .i64 0] 65) = w13 := ⟨_, rfl⟩
      have HS13 : Hid (St w r K5 (fun k => k = w2.heap.size) w13) := Lib.hid (HS12.out.below (by rw [← hw13]; exact (Below.refl _ w12).alloc (Nat.le_refl _) _))
      have HG13 : Hid (w13.heap[w12.heap.size]? = some (.cells (cs6.flatMap Cs.cells).toArray 65)) := Lib.hid (by rw [← hw13]; exact heap_alloc_new w12 _)
      have HSZ := Lib.hid (show (Try.prog.info? 65).map (·.size) = some 6 by kernel_rfl)
      rw [hw13]
      clear hw13 HS12
      go_loopw [129] (fun i wr => ∃ k : Nat, k ≤ 6 ∧ i = .int .i64 k ∧ Hid (St w r K5 (fun k => k = w2.heap.size) wr) ∧ Hid (wr.heap[w12.heap.size]? = some (.cells (cs6.flatMap Cs.cells).toArray 65))) (fun i _ => 6 - (intOf i).toNat)
      case atStart => exact ⟨0, by omega, rfl, HS13, HG13⟩
      case round =>
        obtain ⟨k, hk, rfl, HS, HG⟩ := hrel
        by_cases hlt : k < 6
        · have hstep := cs_step ⟨k, hlt⟩
          obtain ⟨p, hm⟩ : ∃ p, cs6[k]? = some p := ⟨_, List.getElem?_eq_getElem hlt⟩
          have hp : cs6.getD k default = p := by rw [List.getD_eq_getElem?_getD, hm]; rfl
          simp only at hstep
          rw [hp] at hstep
          have HCL := Lib.hid (show ∀ j u, p.cells[j]? = some u → wr.cell? ((⟨w12.heap.size, k * 6, none⟩ : Addr).add j) = some u from fun j u hj => by
            have e1 : (⟨w12.heap.size, k * 6, none⟩ : Addr).add j = ⟨w12.heap.size, k * 6 + j, none⟩ := by unfold Addr.add; split <;> simp_all
            rw [e1, cell_of_row wr _ _ _ _ _ HG.out]
            simpa using cs_get hm hj)
          obtain ⟨a, oa, b, ob, i, j⟩ := p
          have HWI := Lib.hid (fun W (hW : Below wr.heap.size wr W) => (HS.out.below hW).within a oa b ob hstep)
          have HGK := Lib.hid (block_lt HG.out)
          clear hstep hm hp
          go_wp2_with (first
            | (refine wpl_load_at rfl _ _ rfl _ rfl _ _ HCL.out Try.underlying65 rfl HSZ.out ?_)
            | (refine wpList_store_row rfl _ _ _ rfl wr.heap.size (Cs.cells ⟨a, oa, b, ob, i, j⟩).toArray rfl rfl _ _ (heap_alloc_new wr _) HSZ.out rfl (by simp [Cs.cells, Value.oneCell']) ?_
               generalize hw3 : World.setRow _ wr.heap.size (Cs.cells ⟨a, oa, b, ob, i, j⟩).toArray = w14
               obtain ⟨f1, f2, f3⟩ := copied hw3
               have HB14 := Lib.hid (f3.below (B := wr.heap.size) (Nat.le_refl _) (fun _ h => h.elim))
               have g0 : w14.cell? ⟨wr.heap.size, 0, none⟩ = some (.float .f64 a) := cell_of_row w14 wr.heap.size 0 _ _ _ f1
               have g1 : w14.cell? ⟨wr.heap.size, 1, none⟩ = some (.bool oa) := cell_of_row w14 wr.heap.size 1 _ _ _ f1
               have g2 : w14.cell? ⟨wr.heap.size, 2, none⟩ = some (.float .f64 b) := cell_of_row w14 wr.heap.size 2 _ _ _ f1
               have g3 : w14.cell? ⟨wr.heap.size, 3, none⟩ = some (.bool ob) := cell_of_row w14 wr.heap.size 3 _ _ _ f1
               have HF1 := Lib.hid f1
               have HWI2 := Lib.hid (HWI.out w14 HB14.out)
               clear hw3 f1 f2 f3)
            | (go_at_call 24; refine HWI2.out.mono ?_; clear HWI2; rintro e w15 ⟨rfl, hb15⟩
               have HB15 := Lib.hid (HB14.out.trans (hb15.mono HB14.out.size))
               have f15 := (hb15.block _ (block_lt HF1.out)).trans HF1.out
               have g4 : w15.cell? ⟨wr.heap.size, 4, none⟩ = some (.int .i64 i) := cell_of_row w15 wr.heap.size 4 _ _ _ f15
               have g5 : w15.cell? ⟨wr.heap.size, 5, none⟩ = some (.int .i64 j) := cell_of_row w15 wr.heap.size 5 _ _ _ f15
               clear hb15 f15 g0 g1 g2 g3))
          go_roundw
          case rel => exact ⟨k + 1, by omega, by go_num, Lib.hid (HS.out.below HB15.out), Lib.hid ((HB15.out.block _ HGK.out).trans HG.out)⟩
          case measure => simp [intOf]; omega
        · obtain rfl : k = 6 := by omega
          clear HG hlt hk
          have HSE := Lib.hid (HS.out.setK [101] 9221120237041090561 (by decide) k_set3)
          go_wp2_with (first
            | (go_at_call 28; refine (HNA _).out.mono ?_; rintro e w13 ⟨rfl, rfl⟩)
            | (go_at_call 19; refine HSE.out.mono ?_; clear HSE; rintro e w16 ⟨rfl, hst, -⟩
               have HS16 := Lib.hid hst
               have HR1 := Lib.hid (hst.range (-5) 1 k_seg2 (n := 1) rfl)
               clear hst)
            | (go_at_call 12; refine HR1.out.mono ?_; clear HR1; rintro e w17 ⟨a17, c17, rfl, hrd, -, hb⟩
               have HRD17 := Lib.hid hrd
               have HS17 := Lib.hid (HS16.out.below hb)
               clear hrd hb)
            | (go_at_call 20; refine (same_any _ _ 1 1 _ _ [([100], ninfB)] [([100], ninfB)] _ rfl rfl (by decide) (HRD17.out.alloc _) (show Rd _ _ (rkCells [([100], ninfB)]) from Rd.new _ _ _ (0, 0) (by decide))).mono ?_; rintro e w18 ⟨rfl, q18, rfl⟩
               rw [k_same2]
               have hs18 := (HS17.out.below ((Below.refl _ _).alloc (Nat.le_refl _) (.cells #[.string ⟨#[100]⟩, .float .f64 ninfB] 34))).below (belowN (q := q18) (Below.refl _ _))
               have HS18 := Lib.hid hs18
               have HR2 := Lib.hid (hs18.range 2 1 k_seg3 (n := 0) rfl)
               clear hs18 HRD17 HS17)
            | (go_at_call 12; refine HR2.out.mono ?_; clear HR2; rintro e w19 ⟨a19, c19, rfl, hrd, -, hb⟩
               have HS19 := Lib.hid (HS18.out.below hb)
               have HR3 := Lib.hid (HS19.out.range 1 2 k_seg4 (n := 1) rfl)
               clear hrd hb)
            | (go_at_call 12; refine HR3.out.mono ?_; clear HR3; rintro e w20 ⟨a20, c20, rfl, hrd, -, hb⟩
               have HRD20 := Lib.hid hrd
               have HS20 := Lib.hid (HS19.out.below hb)
               clear hrd hb)
            | (go_at_call 20; refine (same_any _ _ 1 1 _ _ [([99], nzB)] [([99], nzB)] _ rfl rfl (by decide) (HRD20.out.alloc _) (show Rd _ _ (rkCells [([99], nzB)]) from Rd.new _ _ _ (0, 0) (by decide))).mono ?_; rintro e w21 ⟨rfl, q21, rfl⟩
               rw [k_same4]
               have hs21 := (HS20.out.below ((Below.refl _ _).alloc (Nat.le_refl _) (.cells #[.string ⟨#[99]⟩, .float .f64 nzB] 34))).below (belowN (q := q21) (Below.refl _ _))
               have HS21 := Lib.hid hs21
               have HCO := Lib.hid hs21.cost
               clear hs21 HRD20 HS20)
            | (go_at_call 17; refine HCO.out.mono ?_; clear HCO; rintro e w22 ⟨rfl, rfl⟩; rw [k_cost]))
          go_ret
          exact ⟨rfl, HS21.out.under⟩
end Go.Proofs.Ytbjfigegiffefaa
