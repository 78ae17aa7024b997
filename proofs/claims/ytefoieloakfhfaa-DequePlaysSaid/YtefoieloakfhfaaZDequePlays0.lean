/- Every script of calls to two deques and to none: all is told as the document's answer tells it. -/
import Derived.Test.YtefoieloakfhfaaZPlaysE
import Derived.Test.YtefoieloakfhfaaRows
import Derived.Deep.CutRange
set_option linter.unusedVariables false
set_option linter.unusedSimpArgs false
namespace Go.Proofs.Ytefoieloakfhfaa.dequePlays
open Go Go.Proofs Go.Proofs.Ytefoieloakfhfaa Go.RowKit Go.ChangeShapes Go.WideShapes Go.ChangeAt Pantry

set_option maxHeartbeats 8000000 in
set_option maxRecDepth 100000 in
theorem walk (a : Option Addr) (n c : Nat) (l0 : List Op7) (w : World) (hl : OpsAt w a n l0) : Calls Try.prog 7 #[.slice a n c] w (OkPost w) := by
  have HL := Lib.hid hl
  have hn := hl.few
  clear hl
  have HN := fun A => Lib.hid (Dq.new A)
  have HN1 := Lib.hid (Dq.new w)
  have HR := fun A => Lib.hid (rnew_any A)
  have tk : True := trivial
  go_enter Try.func7, Try.ntmps7
  go_wp2_with (first
    | (go_at_call 10; refine HN1.out.mono ?_; clear HN1; rintro e w1 ⟨rfl, hd1, -⟩
       have HD1 := Lib.hid hd1
       clear hd1)
    | (go_at_call 10; refine (HN w1).out.mono ?_; rintro e w2 ⟨rfl, hd2, hc2⟩
       have HD2 := Lib.hid hd2
       have HC2 := Lib.hid hc2
       clear hd2 hc2)
    | (go_at_call 27; clear tk; refine (HR w2).out.mono ?_; rintro e w3 ⟨rfl, hr3, hc3⟩
       have HR3 := Lib.hid hr3
       have HC3 := Lib.hid hc3
       clear hr3 hc3)
    | (go_at_call 27; refine (HR w3).out.mono ?_; rintro e w4 ⟨rfl, hr4, hc4⟩
       have HR4 := Lib.hid hr4
       have HC4 := Lib.hid hc4
       clear hr4 hc4))
  clear HN HR
  have HI0 : Hid (PInv w w4 w.heap.size w2.heap.size w1.heap.size w3.heap.size) := by
    obtain ⟨-, b1, v1, g1, e1, f1⟩ := HD1.out
    obtain ⟨-, b2, v2, g2, e2, f2⟩ := HD2.out
    have s2 := b2.size
    have s1 := b1.size
    have s3 := HC3.out.size
    have hl3 : w2.heap.size < w3.heap.size := by obtain ⟨u, h, -⟩ := HR3.out; exact block_lt h
    refine Lib.hid (PInv.fresh w (w2 := w2) ⟨v1, g1, v2, g2, e1.chg HC2.out (fun _ _ e => e), e2, f1, fun j hj => by have := f2 j hj; omega, fun j hj hk => ?_, b1.trans (b2.mono s1)⟩ ⟨HR3.out.keeps (T := fun _ => True) (keepsQuiet HC4.out) (fun _ _ => trivial), HR4.out, Nat.le_refl _, s3, by omega, HC3.out.trans HC4.out fun _ _ e => e⟩)
    have := f2 j hk
    have := e1.lt j hj
    omega
  clear HD1 HC2 HD2 HC3 HR3 HC4 HR4
  generalize hA : w.heap.size = A at HI0 ⊢
  generalize hB : w1.heap.size = B at HI0 ⊢
  generalize hC : w2.heap.size = C at HI0 ⊢
  generalize hD : w3.heap.size = D at HI0 ⊢
  go_loopw [3, 4, 7, 8, 25] (fun x y z u i wr => ∃ k : Nat, k ≤ n ∧ i = .int .i64 k ∧ ∃ d e m q, x = .pointer (some ⟨d, 0, none⟩) ∧ y = .pointer (some ⟨e, 0, none⟩) ∧ z = .pointer (some ⟨m, 0, none⟩) ∧ u = .pointer (some ⟨q, 0, none⟩) ∧ Hid (PInv w wr d m e q)) (fun _ _ _ _ i _ => n - (intOf i).toNat)
  case atStart => exact ⟨0, Nat.zero_le _, rfl, _, _, _, _, rfl, rfl, rfl, rfl, HI0⟩
  case round =>
    clear HI0
    obtain ⟨k, hk, rfl, d, e, m, q, rfl, rfl, rfl, rfl, HI⟩ := hrel
    by_cases hlt : k < n
    · obtain ⟨o, hok⟩ : ∃ o, l0[k]? = some o := ⟨_, List.getElem?_eq_getElem (by rw [HL.out.len]; exact hlt)⟩
      obtain ⟨y, hy, hcells⟩ := (HL.out.keep HI.out.below).cell k _ hok
      subst hy
      have HCL := Lib.hid (show ∀ j u, o.cells[j]? = some u → wr.cell? ((y.add (k * 7)).add j) = some u from fun j u hj => by rw [Addr.add_add]; exact hcells j u hj)
      have HOK := Lib.hid (HL.out.ok _ (List.mem_of_getElem? hok))
      have HS7 := Lib.hid (show (Try.prog.info? 39).map (·.size) = some 7 by kernel_rfl)
      clear hok hcells
      obtain ⟨owho, oact, oi, oj, oflag, os, obig⟩ := o
      go_upto_region 13 with (first
        | (refine wpl_load_at rfl _ _ rfl _ rfl _ _ HCL.out Try.underlying39 rfl HS7.out ?_)
        | (refine wpList_store_row rfl _ _ _ rfl wr.heap.size (Op7.cells ⟨owho, oact, oi, oj, oflag, os, obig⟩).toArray rfl rfl _ _ (heap_alloc_new wr _) HS7.out rfl (cells_one _) ?_
           generalize hw3 : World.setRow _ wr.heap.size (Op7.cells ⟨owho, oact, oi, oj, oflag, os, obig⟩).toArray = w3
           obtain ⟨f1, f2, f3⟩ := copied hw3
           have g0 : w3.cell? ⟨wr.heap.size, 0, none⟩ = some (.int .i64 owho) := cell_of_row w3 wr.heap.size 0 _ _ _ f1
           have g1 : w3.cell? ⟨wr.heap.size, 1, none⟩ = some (.int .i64 oact) := cell_of_row w3 wr.heap.size 1 _ _ _ f1
           have HI3 := Lib.hid (HI.out.quiet f3)
           have HF1 := Lib.hid f1
           clear hw3 f1 f2 f3))
      all_goals
        clear HCL HI
        by_cases ha : oact = 9
        · subst ha
          by_cases hb : owho = 0
          · subst hb
            go_wp2_with (first
              | (go_at_call 28; refine HI3.out.copy.mono ?_; rintro e2 w5 ⟨f, rfl, hm5⟩
                 have HM5 := Lib.hid hm5
                 clear hm5)
              | (go_at_call 29; refine HM5.out.copy.mono ?_; rintro e2 w6 ⟨f2, rfl, hm6⟩
                 have HN4 := Lib.hid hm6
                 clear hm6))
            go_roundw
            case rel => exact ⟨k + 1, by omega, by go_num, _, _, _, _, rfl, rfl, rfl, rfl, HN4⟩
            case measure => simp [intOf]; omega
          · have HI4 := Lib.hid HI3.out.swap
            clear HI3
            go_wp2_with (first
              | (go_at_call 28; refine HI4.out.copy.mono ?_; rintro e2 w5 ⟨f, rfl, hm5⟩
                 have HM5 := Lib.hid hm5
                 clear hm5)
              | (go_at_call 29; refine HM5.out.copy.mono ?_; rintro e2 w6 ⟨f2, rfl, hm6⟩
                 have HN4 := Lib.hid hm6.swap
                 clear hm6))
            go_roundw
            case rel => exact ⟨k + 1, by omega, by go_num, _, _, _, _, rfl, rfl, rfl, rfl, HN4⟩
            case measure => simp [intOf]; omega
        · by_cases hb : owho = 0
          · subst hb
            go_wp2_with (first
              | (refine wpList_load_row rfl _ _ rfl wr.heap.size rfl _ (Op7.cells ⟨_, oact, oi, oj, oflag, os, obig⟩).toArray (0, 0) _ HF1.out Try.underlying39 rfl HS7.out ?_)
              | (go_at_call 30; refine (HI3.out.plays _ HOK.out).mono ?_; rintro e2 w5 ⟨rfl, hm5⟩
                 have HN4 := Lib.hid hm5
                 clear hm5))
            go_roundw
            case rel => exact ⟨k + 1, by omega, by go_num, _, _, _, _, rfl, rfl, rfl, rfl, HN4⟩
            case measure => simp [intOf]; omega
          · by_cases hb1 : owho = 1
            · subst hb1
              have HI4 := Lib.hid HI3.out.swap
              clear HI3
              go_wp2_with (first
                | (refine wpList_load_row rfl _ _ rfl wr.heap.size rfl _ (Op7.cells ⟨_, oact, oi, oj, oflag, os, obig⟩).toArray (0, 0) _ HF1.out Try.underlying39 rfl HS7.out ?_)
                | (go_at_call 30; refine (HI4.out.plays _ HOK.out).mono ?_; rintro e2 w5 ⟨rfl, hm5⟩
                   have HN4 := Lib.hid hm5.swap
                   clear hm5))
              go_roundw
              case rel => exact ⟨k + 1, by omega, by go_num, _, _, _, _, rfl, rfl, rfl, rfl, HN4⟩
              case measure => simp [intOf]; omega
            · go_wp2_with (first
                | (refine wpList_load_row rfl _ _ rfl wr.heap.size rfl _ (Op7.cells ⟨_, oact, oi, oj, oflag, os, obig⟩).toArray (0, 0) _ HF2.out Try.underlying39 rfl HS7.out ?_)
                | (go_at_call 28; refine HI3.out.copyNone.mono ?_; rintro e2 w5 ⟨f, fv, fgs, rfl, hm5, hd5, hc5⟩
                   have HF2 := Lib.hid (hc5.heap HF1.out fun e => e)
                   clear hc5
                   have HM5 := Lib.hid hm5
                   have HD5 := Lib.hid hd5
                   clear hm5 hd5)
                | (go_at_call 30; refine (HM5.out.playsNone _ HOK.out f fv fgs HD5.out).mono ?_; rintro e2 w6 ⟨rfl, hm6, hd6⟩
                   have HM6 := Lib.hid hm6
                   have HD6 := Lib.hid hd6
                   clear hm6 hd6)
                | (go_at_call 27; refine (HM6.out.refNone HD6.out).mono ?_; rintro e2 w7 ⟨f7, rfl, hm7, hd7, hr7⟩
                   have HM7 := Lib.hid hm7
                   have HD7 := Lib.hid hd7
                   have HR7 := Lib.hid hr7
                   clear hm7 hd7 hr7)
                | (go_at_call 31; refine (HM7.out.standsNone HD7.out HR7.out).mono ?_; rintro e2 w8 ⟨rfl, hm8⟩
                   have HN4 := Lib.hid hm8
                   clear hm8))
              go_roundw
              case rel => exact ⟨k + 1, by omega, by go_num, _, _, _, _, rfl, rfl, rfl, rfl, HN4⟩
              case measure => simp [intOf]; omega
    · obtain rfl : k = n := by omega
      go_wp2_with (first
        | (go_at_call 31; refine HI.out.stands.mono ?_; rintro e2 w5 ⟨rfl, hm5⟩
           have HI5 := Lib.hid hm5.swap
           clear hm5 HI)
        | (go_at_call 31; refine HI5.out.stands.mono ?_; rintro e2 w6 ⟨rfl, hm6⟩
           have HI6 := Lib.hid hm6
           clear hm6 HI5)
        | (go_at_call 31; refine HI6.out.nils.mono ?_; rintro e2 w7 ⟨rfl, hm7⟩
           have HI7 := Lib.hid hm7
           clear hm7 HI6))
      go_ret
      exact ⟨by first | rfl | simp, HI7.out.below⟩
end Go.Proofs.Ytefoieloakfhfaa.dequePlays
