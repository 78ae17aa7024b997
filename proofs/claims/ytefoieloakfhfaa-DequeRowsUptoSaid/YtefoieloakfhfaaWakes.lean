/- The law's wakes. -/
import Derived.Test.YtefoieloakfhfaaUse
namespace Go.Proofs.Ytefoieloakfhfaa
open Go.RowKit Pantry

/-- True is answered, and whatever lay lies as it lay. -/
def OkPost (w : World) (e : Ending) (w' : World) : Prop := e = .returned (.bool true) ∧ Below w.heap.size w w'
theorem wk1 : pushC false [98] [] = [[[98]]] := rfl
theorem wk2 : pushC true [97] [[[98]]] = [[[97], [98]]] := by decide
theorem wk3 : insC 2 [99] [[[97], [98]]] = [[[97], [98], [99]]] := by decide
theorem wk4 : removeC (popAt false [[[97], [98], [99]]]) [[[97], [98], [99]]] = [[[97], [98]]] := by decide

set_option maxHeartbeats 4000000 in
set_option maxRecDepth 100000 in
theorem wakes_any (w : World) : Calls Try.prog 9 #[] w (OkPost w) := by
  have HN := Lib.hid (Dq.new w)
  go_enter Try.func9, Try.ntmps9
  go_wp2_with (first
    | (go_at_call 10; refine HN.out.mono ?_; rintro e w1 ⟨rfl, hd0, -⟩
       have HP1 := Lib.hid (hd0.push false (s := [98]) (by decide) (by decide))
       clear hd0)
    | (go_at_call 11; refine HP1.out.mono ?_; clear HP1; rintro e w2 ⟨rfl, hd1, -⟩
       rw [wk1] at hd1
       have HP2 := Lib.hid (hd1.push true (s := [97]) (by decide) (by decide))
       clear hd1)
    | (go_at_call 11; refine HP2.out.mono ?_; clear HP2; rintro e w3 ⟨rfl, hd2, -⟩
       rw [wk2] at hd2
       have HI := Lib.hid (hd2.ins (i := 2) (by decide) (s := [99]) (by decide) (by decide))
       clear hd2)
    | (go_at_call 15; refine HI.out.mono ?_; rintro e w4 ⟨rfl, hd3, -⟩
       rw [wk3] at hd3
       have HL := Lib.hid hd3.len
       have HR := Lib.hid hd3.row
       have HD3 := Lib.hid hd3
       clear hd3)
    | (go_at_call 16; refine HL.out.mono ?_; rintro e w5 ⟨rfl, rfl⟩
       rw [show ((total [[[97], [98], [99]]] : Nat) : Int) = 3 from rfl])
    | (go_at_call 20; refine HR.out.mono ?_; rintro e w6 ⟨v6, rfl, hown6, hb6⟩
       have hd6 := HD3.out.quiet (Chg.of_below hb6)
       have HP := Lib.hid (hd6.pop false (x := [99]) (by decide))
       rw [show ([[[97], [98], [99]]] : List (List Txt)).flatten = [[97], [98], [99]] from rfl] at hown6
       clear hb6 hd6)
    | (go_at_call 12; refine HP.out.mono ?_; clear HP; rintro e w7 ⟨rfl, hd7, hk7⟩
       have hown7 := ownsRow_keeps hown6 hk7 (by unfold ndT dqT; decide)
       obtain ⟨a7, c7, rfl, -⟩ := textsRd hown7
       rw [wk4] at hd7
       clear hown6 hk7)
    | (go_at_call 21; refine (same_any _ _ 3 3 _ _ [[97], [98], [99]] [[97], [98], [99]] _ rfl rfl (by decide) (rdOf (hown7.alloc _) (txts_one _)) (Rd.new _ _ _ (0, 0) (by decide))).mono ?_; rintro e w8 ⟨rfl, q8, rfl⟩
       have hd8 := hd7.quiet (((Chg.refl _ w7).alloc (.cells #[.string ⟨#[97]⟩, .string ⟨#[98]⟩, .string ⟨#[99]⟩] 9)).drewN (q := q8))
       have HC := Lib.hid hd8.chunks
       have HB := Lib.hid hd8.below
       rw [decide_eq_true rfl]
       clear hd8 hown7 hd7)
    | (go_at_call 13; refine HC.out.mono ?_; clear HC; rintro e w9 ⟨v9, rfl, hown9, hb9⟩
       rw [show sizesL [[[97], [98]]] = [2] from rfl] at hown9
       obtain ⟨a9, c9, rfl, -⟩ := intsRd hown9
       have HB9 := Lib.hid (HB.out.trans (hb9.mono HB.out.size))
       clear hb9)
    | (go_at_call 25; refine (ints_any _ _ 1 1 _ _ [2] [2] _ rfl rfl (by decide) (rdOf (hown9.alloc _) (intsL_one _)) (Rd.new _ _ _ (0, 0) (by decide))).mono ?_; rintro e w10 ⟨rfl, q10, rfl⟩
       rw [decide_eq_true rfl]))
  go_ret
  exact ⟨rfl, belowN (HB9.out.alloc HB9.out.size _)⟩
end Go.Proofs.Ytefoieloakfhfaa
