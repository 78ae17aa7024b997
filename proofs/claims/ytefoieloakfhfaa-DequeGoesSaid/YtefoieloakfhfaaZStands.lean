/- The law's stands: all that is told of a deque is what the answer tells. -/
import Derived.Test.YtefoieloakfhfaaZPlaysC
set_option linter.unusedVariables false
set_option linter.unusedSimpArgs false
namespace Go.Proofs.Ytefoieloakfhfaa
open Go.RowKit Pantry

theorem DeqOr.below {w w' : World} {p : Option Addr} {cs : List (List Txt)} (h : DeqOr w p cs) (hb : Below w.heap.size w w') : DeqOr w' p cs := h.imp id fun ⟨d, v, gs, e, hd⟩ => ⟨d, v, gs, e, hd.chg (Chg.of_below (S := fun _ => False) hb) fun _ _ e => e⟩
theorem RefOr.below {w w' : World} {p : Option Addr} {cs : List (List Txt)} (h : RefOr w p cs) (hb : Below w.heap.size w w') : RefOr w' p cs := h.imp id fun ⟨m, e, hm⟩ => ⟨m, e, hm.keeps (T := fun _ => True) (KeepsT.ofBelow hb) (fun _ _ => trivial)⟩
theorem len_or (w : World) (p : Option Addr) (cs : List (List Txt)) (h : DeqOr w p cs) : Calls Try.prog 16 #[.pointer p] w fun e w' => e = .returned (.int .i64 (total cs : Nat)) ∧ w = w' := by
  rcases h with ⟨rfl, rfl⟩ | ⟨d, v, gs, rfl, h⟩
  · exact len_nil w
  · exact len_any w d v gs cs h
theorem cost_or (w : World) (p : Option Addr) (cs : List (List Txt)) (h : DeqOr w p cs) : Calls Try.prog 14 #[.pointer p] w fun e w' => e = .returned (.int .i64 (costOf cs : Nat)) ∧ w = w' := by
  rcases h with ⟨rfl, rfl⟩ | ⟨d, v, gs, rfl, h⟩
  · exact cost_nil w
  · exact cost_any w d v gs cs h
theorem chunks_or (w : World) (p : Option Addr) (cs : List (List Txt)) (h : DeqOr w p cs) (hf : Fits cs) : Calls Try.prog 13 #[.pointer p] w (IntsPost (sizesL cs) w) := by
  rcases h with ⟨rfl, rfl⟩ | ⟨d, v, gs, rfl, h⟩
  · refine (chunks_nil w).mono ?_
    rintro e w' ⟨rfl, rfl⟩
    exact ⟨_, rfl, World.ownsRow_nil _ _ _ _, Below.refl _ _⟩
  · exact chunks_any w d v gs cs h hf
theorem intsE : ElemT Try.prog 30 3 1 8 (.int .i64 0) := ⟨Try.underlying30, by kernel_rfl, rfl, by decide, by decide⟩

set_option maxHeartbeats 4000000 in
set_option maxRecDepth 100000 in
theorem stands_any (w : World) (p q : Option Addr) (cs : List (List Txt)) (hd : DeqOr w p cs) (hm : RefOr w q cs) (hf : Fits cs) :
    Calls Try.prog 31 #[.pointer p, .pointer q] w fun e w' => e = .returned (.bool true) ∧ Below w.heap.size w w' := by
  have HD := Lib.hid hd
  have HM := Lib.hid hm
  have HF := Lib.hid hf
  have hn := hf.rows
  obtain ⟨n, hn2⟩ : ∃ n, cs.length = n := ⟨_, rfl⟩
  obtain ⟨l, hl⟩ : ∃ l, cs.flatten = l := ⟨_, rfl⟩
  obtain ⟨L, hL⟩ : ∃ L, l.length = L := ⟨_, rfl⟩
  have hL2 : L ≤ 1048576 := by rw [← hL, ← hl, flatten_length]; exact hf.total
  have hS : (sizesL cs).length = n := by rw [← hn2]; simp [sizesL]
  rw [hn2] at hn
  have HS := Lib.hid hS
  have HL := Lib.hid hL
  have HROW := Lib.hid (row_any w p cs hd hf)
  rw [hl] at HROW
  have HLL := Lib.hid hl
  clear hd hm hf hn2 hl hL hS
  go_enter Try.func31, Try.ntmps31
  go_wp2_with (first
    | (go_at_call 20; refine HROW.out.mono ?_; clear HROW; rintro e w1 ⟨v1, rfl, hown1, hb1⟩
       obtain ⟨a1, c1, rfl, hr1⟩ := textsRd hown1
       rw [HL.out]
       have HR1 := Lib.hid hr1
       have HB1 := Lib.hid hb1
       have HC1 := Lib.hid (chunks_or w1 p cs (HD.out.below hb1) HF.out)
       clear hown1 hb1 hr1)
    | (go_at_call 13; refine HC1.out.mono ?_; clear HC1; rintro e w2 ⟨v2, rfl, hown2, hb2⟩
       obtain ⟨a2, c2, rfl, hr2⟩ := intsRd hown2
       rw [HS.out] at hown2 ⊢
       have HO2 := Lib.hid hown2
       have HB2 := Lib.hid (HB1.out.trans (hb2.mono HB1.out.size))
       have HR12 := Lib.hid (Rd.keep HR1.out hb2)
       have HC2 := Lib.hid (rchunks_or w2 q cs (HM.out.below HB2.out) HF.out.rows)
       clear hown2 hb2 hr2)
    | (go_at_call 51; refine HC2.out.mono ?_; clear HC2; rintro e w3 ⟨v3, rfl, hown3, hb3⟩
       obtain ⟨a3, c3, rfl, hr3⟩ := intsRd hown3
       rw [HS.out] at hown3 ⊢
       have HO3 := Lib.hid hown3
       have HB3 := Lib.hid (HB2.out.trans (hb3.mono HB2.out.size))
       have HR13 := Lib.hid (Rd.keep HR12.out hb3)
       have HO23 := Lib.hid (ownsRow_belowAll HO2.out hb3)
       have HRR := Lib.hid (rrow_or w3 q cs (HM.out.below HB3.out) HF.out.rows (Nat.le_trans HF.out.total (by omega)))
       rw [HLL.out] at HRR
       clear hown3 hb3 hr3)
    | (go_at_call 32; refine HRR.out.mono ?_; clear HRR; rintro e w4 ⟨v4, rfl, hown4, hb4⟩
       obtain ⟨a4, c4, rfl, hr4⟩ := textsRd hown4
       rw [HL.out]
       have HB4 := Lib.hid (HB3.out.trans (hb4.mono HB3.out.size))
       have HO34 := Lib.hid (ownsRow_belowAll HO3.out hb4)
       have HO24 := Lib.hid (ownsRow_belowAll HO23.out hb4)
       have HST := Lib.hid (same_any a1 a4 L L c1 c4 l l w4 HL.out HL.out (by omega) (Rd.keep HR13.out hb4) hr4)
       rw [decide_eq_true rfl] at HST
       clear hown4 hb4 hr4)
    | (go_at_call 21; refine HST.out.mono ?_; clear HST; rintro e w5 ⟨rfl, q5, hw5⟩
       have hb5 : Below w4.heap.size w4 w5 := by rw [hw5]; exact belowN (Below.refl _ _)
       have HB5 := Lib.hid (HB4.out.trans (hb5.mono HB4.out.size))
       have HO25 := Lib.hid (ownsRow_belowAll HO24.out hb5)
       have HO35 := Lib.hid (ownsRow_belowAll HO34.out hb5)
       have HSI := Lib.hid (ints_any a2 a3 n n c2 c3 (sizesL cs) (sizesL cs) w5 HS.out HS.out (by omega) (rdOf HO25.out (intsL_one _)) (rdOf HO35.out (intsL_one _)))
       rw [decide_eq_true rfl] at HSI
       clear hw5 hb5)
    | (go_at_call 25; refine HSI.out.mono ?_; clear HSI; rintro e w6 ⟨rfl, q6, hw6⟩
       have hb6 : Below w5.heap.size w5 w6 := by rw [hw6]; exact belowN (Below.refl _ _)
       have HB6 := Lib.hid (HB5.out.trans (hb6.mono HB5.out.size))
       have HO26 := Lib.hid (ownsRow_belowAll HO25.out hb6)
       have HO36 := Lib.hid (ownsRow_belowAll HO35.out hb6)
       have HLE := Lib.hid (len_or w6 p cs (HD.out.below HB6.out))
       have HLR := Lib.hid (rlen_or w6 q cs (HM.out.below HB6.out) HF.out.rows (Nat.le_trans HF.out.total (by omega)))
       clear hw6 hb6)
    | (go_at_call 16; refine HLE.out.mono ?_; clear HLE; rintro e w7 ⟨rfl, rfl⟩)
    | (go_at_call 52; refine HLR.out.mono ?_; clear HLR; rintro e w8 ⟨rfl, hb8⟩
       have HB8 := Lib.hid (HB6.out.trans (hb8.mono HB6.out.size))
       have HO28 := Lib.hid (ownsRow_belowAll HO26.out hb8)
       have HO38 := Lib.hid (ownsRow_belowAll HO36.out hb8)
       have HCO := Lib.hid (cost_or _ p cs (HD.out.below HB8.out))
       have HCR := Lib.hid (rcost_or _ q cs (HM.out.below HB8.out) HF.out)
       clear hb8)
    | (go_at_call 14; refine HCO.out.mono ?_; clear HCO; rintro e w9 ⟨rfl, rfl⟩)
    | (go_at_call 53; refine HCR.out.mono ?_; clear HCR; rintro e w9 ⟨rfl, hb9⟩
       have HB9 := Lib.hid (HB8.out.trans (hb9.mono HB8.out.size))
       have HO29 := Lib.hid (ownsRow_belowAll HO28.out hb9)
       have HO39 := Lib.hid (ownsRow_belowAll HO38.out hb9)
       clear hb9))
  have hint : ∀ u ∈ intsL (sizesL cs), ∃ z : Int, u = .int .i64 z := fun u hu => by
    simp only [intsL, List.mem_map] at hu
    obtain ⟨x, _, rfl⟩ := hu
    exact ⟨_, rfl⟩
  have HG2 := Lib.hid (show ∀ j, (Value.slice a2 n c2).ownBlock = some j → j < w2.heap.size from fun j hj => (HO2.out.lt j hj).2)
  have HINT := Lib.hid hint
  have hw12 := HB1.out.size
  clear hint
  go_loopw [50] (fun z wr => ∃ k : Nat, k ≤ n ∧ z = .int .i64 k ∧ ∃ xs, Hid (wr.ownsRow w.heap.size 3 1 (.slice a2 n c2) n xs) ∧ Hid (∀ u ∈ xs, ∃ z : Int, u = .int .i64 z) ∧ Hid (wr.ownsRow w2.heap.size 3 1 (.slice a3 n c3) n (intsL (sizesL cs))) ∧ Hid (Below w.heap.size w wr)) (fun z _ => n - (intOf z).toNat)
  case atStart => exact ⟨0, Nat.zero_le _, rfl, _, Lib.hid (ownsRow_base HO29.out hw12), HINT, HO39, HB9⟩
  case round =>
    obtain ⟨k, hk, rfl, xs, HO, HI, HW, HB⟩ := hrel
    by_cases hlt : k < n
    · have hxl : xs.length = n := by have := HO.out.1; omega
      obtain ⟨u, hu⟩ : ∃ u, xs[k]? = some u := ⟨_, List.getElem?_eq_getElem (by rw [hxl]; exact hlt)⟩
      obtain ⟨z, rfl⟩ := HI.out u (List.mem_of_getElem? hu)
      obtain ⟨g, cap, hsl, hcell, hfr⟩ := own_cell HO.out (fun u hu => by obtain ⟨z, rfl⟩ := HI.out u hu; rfl) hu
      cases hsl
      have hk0 : (0 : Int) ≤ (k : Int) := by omega
      have hkn : (k : Int) < (n : Int) := by omega
      have hst := HO.out.stored k (.int .i64 (-1))
      have hgl := HG2.out g rfl
      have hgb := (HO.out.lt g rfl).1
      have hch : Chg (fun j => j < w2.heap.size) wr (wr.setCell ⟨g, k, none⟩ (.int .i64 (-1))) := Chg.of_grown hst.2 fun j hj => by cases hj; exact hgl
      have HO1 := Lib.hid hst.1
      have HI1 : Hid (∀ u ∈ xs.set k (.int .i64 (-1)), ∃ z : Int, u = .int .i64 z) := Lib.hid fun u hu => (List.mem_or_eq_of_mem_set hu).elim (HI.out u) fun e => ⟨_, e⟩
      have HW1 := Lib.hid (Chg.ownsRow HW.out hch fun j hj e => by have := (HW.out.lt j hj).1; omega)
      have HBB := Lib.hid (HB.out.grown hst.2 HB.out.size fun j hj => by cases hj; exact hgb)
      clear hu hst hch hgl hgb
      go_wp2_with fail
      go_roundw
      case rel => exact ⟨k + 1, by omega, by go_num, _, HO1, HI1, HW1, HBB⟩
      case measure => simp [intOf]; omega
    · obtain rfl : k = n := by omega
      have HONE := Lib.hid (show ∀ u ∈ xs ++ [.int .i64 (-1), .int .i64 (-1)], u.oneCell' = true from fun u hu => by
        rcases List.mem_append.1 hu with h | h
        · obtain ⟨z, rfl⟩ := HI.out u h
          rfl
        · obtain rfl : u = .int .i64 (-1) := by simpa using h
          rfl)
      have hkk : IntKind.i64.wrap ((k : Int) + 2) = (k : Int) + 2 := by rw [IntKind.wrap_i64]; omega
      go_wp2_with (first
        | (at_builtin; refine wpl_append intsE rfl _ _ rfl w.heap.size rfl (HO.out.alloc (.cells #[.int .i64 (-1), .int .i64 (-1)] 3)) (news := [.int .i64 (-1), .int .i64 (-1)]) rfl (fun h => by cases h) rfl (Rd.new wr #[.int .i64 (-1), .int .i64 (-1)] 3 (0, 0) (by simp [Value.oneCell'])) (by omega) (by have := HB.out.size; simp; omega) ?_
           intro v11 w11 hown11 hg11 hv11
           obtain ⟨a11, c11, rfl, -⟩ := own_slice hown11 HONE.out
           have hch : Chg (fun j => j < w2.heap.size) wr w11 := ((Chg.refl _ wr).alloc _).trans (Chg.of_grown hg11 fun j hj => HG2.out j hj) fun _ _ e => e
           have HW11 := Lib.hid (Chg.ownsRow HW.out hch fun j hj e => by have := (HW.out.lt j hj).1; omega)
           have HB11 := Lib.hid ((HB.out.alloc HB.out.size (.cells #[.int .i64 (-1), .int .i64 (-1)] 3)).grown hg11 (by have := HB.out.size; simp; omega) fun j hj => (HO.out.lt j hj).1)
           have HCL := Lib.hid (chunks_or w11 p cs (HD.out.below HB11.out) HF.out)
           clear hown11 hg11 hv11 hch)
        | (go_at_call 13; refine HCL.out.mono ?_; clear HCL; rintro e w12 ⟨v12, rfl, hown12, hb12⟩
           obtain ⟨a12, c12, rfl, hr12⟩ := intsRd hown12
           rw [HS.out] at hown12 ⊢
           have HW12 := Lib.hid (ownsRow_belowAll HW11.out hb12)
           have HB12 := Lib.hid (HB11.out.trans (hb12.mono HB11.out.size))
           have HSI := Lib.hid (ints_any a12 a3 k k c12 c3 (sizesL cs) (sizesL cs) w12 HS.out HS.out (by omega) hr12 (rdOf HW12.out (intsL_one _)))
           rw [decide_eq_true rfl] at HSI
           clear hown12 hb12 hr12)
        | (go_at_call 25; refine HSI.out.mono ?_; clear HSI; rintro e w13 ⟨rfl, q13, hw13⟩
           have HB13 : Hid (Below w.heap.size w w13) := Lib.hid (by rw [hw13]; exact belowN HB12.out)
           clear hw13))
      go_ret
      exact ⟨by first | rfl | simp, HB13.out⟩
end Go.Proofs.Ytefoieloakfhfaa
