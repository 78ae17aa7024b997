/- The law's plays: what takes a text. -/
import Derived.Test.YtefoieloakfhfaaZDuos
import Derived.Deep.RegionHeld3
set_option linter.unusedVariables false
set_option linter.unusedSimpArgs false
namespace Go.Proofs.Ytefoieloakfhfaa
open Go.RowKit Pantry

theorem quietDrew {w w' : World} (h : Below w.drew.heap.size w.drew w') : Chg (fun _ => False) w w' := ⟨h.os, h.tape, h.output, h.size, fun k hk _ => h.block k hk⟩
/-- What plays leaves. -/
def PlayPost (En : World → Prop) (e : Ending) (w' : World) : Prop := e = .returned (.bool true) ∧ En w'
theorem box_start {w : World} {o : Op7} : Bx (w.alloc (.cells o.cells.toArray 39)) w.heap.size o := heap_alloc_new w _
set_option maxHeartbeats 4000000 in
set_option maxRecDepth 100000 in
theorem plays_push (w : World) (p q : Option Addr) (St Md En : World → Prop) (who i j : Int) (flag : Bool) (s : Txt) (big : Int) (c : Int) (ho : (⟨who, 0, i, j, flag, s, big⟩ : Op7).Ok)
    (hD : Duo St Md En 42 11 (.pointer q) (.pointer p) [.bool flag, .string ⟨(txtOf ⟨who, 0, i, j, flag, s, big⟩).toArray⟩] (.int .i64 c)) (hst : St w) :
    Calls Try.prog 30 #[.pointer p, .pointer q, .agg #[.int .i64 who, .int .i64 0, .int .i64 i, .int .i64 j, .bool flag, .string ⟨s.toArray⟩, .int .i64 big]] w (PlayPost En) := by
  have HTX := fun A => Lib.hid (text_any A ⟨who, 0, i, j, flag, s, big⟩ ho)
  obtain ⟨T, hT⟩ : ∃ T, txtOf ⟨who, 0, i, j, flag, s, big⟩ = T := ⟨_, rfl⟩
  rw [hT] at hD HTX
  have HD := Lib.hid hD
  obtain ⟨w1, hw1⟩ : ∃ w1, w.alloc (.cells #[.int .i64 who, .int .i64 0, .int .i64 i, .int .i64 j, .bool flag, .string ⟨s.toArray⟩, .int .i64 big] 39) = w1 := ⟨_, rfl⟩
  have HX1 : Hid (Bx w1 w.heap.size ⟨who, 0, i, j, flag, s, big⟩) := Lib.hid (by rw [← hw1]; exact box_start (o := ⟨who, 0, i, j, flag, s, big⟩))
  have HS1 : Hid (St w1) := Lib.hid (by rw [← hw1]; exact hD.st w _ hst ((Chg.refl _ w).alloc _))
  obtain ⟨x0, x1, x2, x3, x4, x5, x6⟩ := HX1.out.cells
  clear hst hD hT ho
  go_enter Try.func30, Try.ntmps30
  go_upto_region 3 with fail
  go_region_held3 (fun w' => w'.cell? ⟨w.heap.size, 0, none⟩ = some (.int .i64 who) ∧ w'.cell? ⟨w.heap.size, 1, none⟩ = some (.int .i64 0) ∧ w'.cell? ⟨w.heap.size, 2, none⟩ = some (.int .i64 i) ∧ w'.cell? ⟨w.heap.size, 3, none⟩ = some (.int .i64 j) ∧ w'.cell? ⟨w.heap.size, 4, none⟩ = some (.bool flag) ∧ w'.cell? ⟨w.heap.size, 5, none⟩ = some (.string ⟨s.toArray⟩) ∧ w'.cell? ⟨w.heap.size, 6, none⟩ = some (.int .i64 big))
    (first
      | exact HX1.out.cells
      | exact HX2.out.cells
      | exact HX3.out.cells)
    (first
      | (go_at_call 43; refine (HTX w1.drew).out.mono ?_; rintro e w2 ⟨rfl, hb2⟩
         have HX2 := Lib.hid (HX1.out.below (((Below.refl w1.heap.size w1).drew).trans hb2))
         have HS2 := Lib.hid (HD.out.st _ _ HS1.out (quietDrew hb2))
         clear hb2)
      | (go_at_call 42; refine (HD.out.a w2 HS2.out).mono ?_; rintro e w3 ⟨rfl, hm3, hk3⟩
         have HX3 := Lib.hid (HX2.out.keeps hk3)
         have HM3 := Lib.hid hm3
         obtain ⟨y0, y1, y2, y3, y4, y5, y6⟩ := HX3.out.cells
         clear hm3 hk3))
  all_goals
    go_upto_region 4 with fail
    go_region_held3 (fun w' => w'.cell? ⟨w.heap.size, 0, none⟩ = some (.int .i64 who) ∧ w'.cell? ⟨w.heap.size, 1, none⟩ = some (.int .i64 0) ∧ w'.cell? ⟨w.heap.size, 2, none⟩ = some (.int .i64 i) ∧ w'.cell? ⟨w.heap.size, 3, none⟩ = some (.int .i64 j) ∧ w'.cell? ⟨w.heap.size, 4, none⟩ = some (.bool flag) ∧ w'.cell? ⟨w.heap.size, 5, none⟩ = some (.string ⟨s.toArray⟩) ∧ w'.cell? ⟨w.heap.size, 6, none⟩ = some (.int .i64 big))
      (first
        | exact HX3.out.cells
        | exact HX4.out.cells
        | exact HX5.out.cells)
      (first
        | (go_at_call 43; refine (HTX w3.drew).out.mono ?_; rintro e w4 ⟨rfl, hb4⟩
           have HX4 := Lib.hid (HX3.out.below (((Below.refl w3.heap.size w3).drew).trans hb4))
           have HM4 := Lib.hid (HD.out.md _ _ HM3.out (quietDrew hb4))
           clear hb4)
        | (go_at_call 11; refine (HD.out.b w4 HM4.out).mono ?_; rintro e w5 ⟨rfl, hm5, hk5⟩
           have HX5 := Lib.hid (HX4.out.keeps hk5)
           have HM5 := Lib.hid hm5
           clear hm5 hk5))
    all_goals
      go_wp2_with fail
      go_ret
      exact ⟨by first | rfl | simp, HM5.out⟩
set_option maxHeartbeats 4000000 in
set_option maxRecDepth 100000 in
theorem plays_set (w : World) (p q : Option Addr) (St Md En : World → Prop) (who i j : Int) (flag : Bool) (s : Txt) (big : Int) (ok : Bool) (ho : (⟨who, 3, i, j, flag, s, big⟩ : Op7).Ok)
    (hD : Duo St Md En 46 47 (.pointer q) (.pointer p) [.int .i64 i, .string ⟨(txtOf ⟨who, 3, i, j, flag, s, big⟩).toArray⟩] (.bool ok)) (hst : St w) :
    Calls Try.prog 30 #[.pointer p, .pointer q, .agg #[.int .i64 who, .int .i64 3, .int .i64 i, .int .i64 j, .bool flag, .string ⟨s.toArray⟩, .int .i64 big]] w (PlayPost En) := by
  have HTX := fun A => Lib.hid (text_any A ⟨who, 3, i, j, flag, s, big⟩ ho)
  obtain ⟨T, hT⟩ : ∃ T, txtOf ⟨who, 3, i, j, flag, s, big⟩ = T := ⟨_, rfl⟩
  rw [hT] at hD HTX
  have HD := Lib.hid hD
  obtain ⟨w1, hw1⟩ : ∃ w1, w.alloc (.cells #[.int .i64 who, .int .i64 3, .int .i64 i, .int .i64 j, .bool flag, .string ⟨s.toArray⟩, .int .i64 big] 39) = w1 := ⟨_, rfl⟩
  have HX1 : Hid (Bx w1 w.heap.size ⟨who, 3, i, j, flag, s, big⟩) := Lib.hid (by rw [← hw1]; exact box_start (o := ⟨who, 3, i, j, flag, s, big⟩))
  have HS1 : Hid (St w1) := Lib.hid (by rw [← hw1]; exact hD.st w _ hst ((Chg.refl _ w).alloc _))
  obtain ⟨x0, x1, x2, x3, x4, x5, x6⟩ := HX1.out.cells
  clear hst hD hT ho
  go_enter Try.func30, Try.ntmps30
  go_upto_region 14 with fail
  go_region_held3 (fun w' => w'.cell? ⟨w.heap.size, 0, none⟩ = some (.int .i64 who) ∧ w'.cell? ⟨w.heap.size, 1, none⟩ = some (.int .i64 3) ∧ w'.cell? ⟨w.heap.size, 2, none⟩ = some (.int .i64 i) ∧ w'.cell? ⟨w.heap.size, 3, none⟩ = some (.int .i64 j) ∧ w'.cell? ⟨w.heap.size, 4, none⟩ = some (.bool flag) ∧ w'.cell? ⟨w.heap.size, 5, none⟩ = some (.string ⟨s.toArray⟩) ∧ w'.cell? ⟨w.heap.size, 6, none⟩ = some (.int .i64 big))
    (first
      | exact HX1.out.cells
      | exact HX2.out.cells
      | exact HX3.out.cells)
    (first
      | (go_at_call 43; refine (HTX w1.drew).out.mono ?_; rintro e w2 ⟨rfl, hb2⟩
         have HX2 := Lib.hid (HX1.out.below (((Below.refl w1.heap.size w1).drew).trans hb2))
         have HS2 := Lib.hid (HD.out.st _ _ HS1.out (quietDrew hb2))
         clear hb2)
      | (go_at_call 46; refine (HD.out.a w2 HS2.out).mono ?_; rintro e w3 ⟨rfl, hm3, hk3⟩
         have HX3 := Lib.hid (HX2.out.keeps hk3)
         have HM3 := Lib.hid hm3
         obtain ⟨y0, y1, y2, y3, y4, y5, y6⟩ := HX3.out.cells
         clear hm3 hk3))
  all_goals
    go_upto_region 15 with fail
    go_region_held3 (fun w' => w'.cell? ⟨w.heap.size, 0, none⟩ = some (.int .i64 who) ∧ w'.cell? ⟨w.heap.size, 1, none⟩ = some (.int .i64 3) ∧ w'.cell? ⟨w.heap.size, 2, none⟩ = some (.int .i64 i) ∧ w'.cell? ⟨w.heap.size, 3, none⟩ = some (.int .i64 j) ∧ w'.cell? ⟨w.heap.size, 4, none⟩ = some (.bool flag) ∧ w'.cell? ⟨w.heap.size, 5, none⟩ = some (.string ⟨s.toArray⟩) ∧ w'.cell? ⟨w.heap.size, 6, none⟩ = some (.int .i64 big))
      (first
        | exact HX3.out.cells
        | exact HX4.out.cells
        | exact HX5.out.cells)
      (first
        | (go_at_call 43; refine (HTX w3.drew).out.mono ?_; rintro e w4 ⟨rfl, hb4⟩
           have HX4 := Lib.hid (HX3.out.below (((Below.refl w3.heap.size w3).drew).trans hb4))
           have HM4 := Lib.hid (HD.out.md _ _ HM3.out (quietDrew hb4))
           clear hb4)
        | (go_at_call 47; refine (HD.out.b w4 HM4.out).mono ?_; rintro e w5 ⟨rfl, hm5, hk5⟩
           have HX5 := Lib.hid (HX4.out.keeps hk5)
           have HM5 := Lib.hid hm5
           clear hm5 hk5))
    all_goals
      go_wp2_with fail
      go_ret
      exact ⟨by first | rfl | simp, HM5.out⟩
set_option maxHeartbeats 4000000 in
set_option maxRecDepth 100000 in
theorem plays_ins (w : World) (p q : Option Addr) (St Md En : World → Prop) (who i j : Int) (flag : Bool) (s : Txt) (big : Int) (c : Int) (ho : (⟨who, 4, i, j, flag, s, big⟩ : Op7).Ok)
    (hD : Duo St Md En 48 15 (.pointer q) (.pointer p) [.int .i64 i, .string ⟨(txtOf ⟨who, 4, i, j, flag, s, big⟩).toArray⟩] (.int .i64 c)) (hst : St w) :
    Calls Try.prog 30 #[.pointer p, .pointer q, .agg #[.int .i64 who, .int .i64 4, .int .i64 i, .int .i64 j, .bool flag, .string ⟨s.toArray⟩, .int .i64 big]] w (PlayPost En) := by
  have HTX := fun A => Lib.hid (text_any A ⟨who, 4, i, j, flag, s, big⟩ ho)
  obtain ⟨T, hT⟩ : ∃ T, txtOf ⟨who, 4, i, j, flag, s, big⟩ = T := ⟨_, rfl⟩
  rw [hT] at hD HTX
  have HD := Lib.hid hD
  obtain ⟨w1, hw1⟩ : ∃ w1, w.alloc (.cells #[.int .i64 who, .int .i64 4, .int .i64 i, .int .i64 j, .bool flag, .string ⟨s.toArray⟩, .int .i64 big] 39) = w1 := ⟨_, rfl⟩
  have HX1 : Hid (Bx w1 w.heap.size ⟨who, 4, i, j, flag, s, big⟩) := Lib.hid (by rw [← hw1]; exact box_start (o := ⟨who, 4, i, j, flag, s, big⟩))
  have HS1 : Hid (St w1) := Lib.hid (by rw [← hw1]; exact hD.st w _ hst ((Chg.refl _ w).alloc _))
  obtain ⟨x0, x1, x2, x3, x4, x5, x6⟩ := HX1.out.cells
  clear hst hD hT ho
  go_enter Try.func30, Try.ntmps30
  go_upto_region 17 with fail
  go_region_held3 (fun w' => w'.cell? ⟨w.heap.size, 0, none⟩ = some (.int .i64 who) ∧ w'.cell? ⟨w.heap.size, 1, none⟩ = some (.int .i64 4) ∧ w'.cell? ⟨w.heap.size, 2, none⟩ = some (.int .i64 i) ∧ w'.cell? ⟨w.heap.size, 3, none⟩ = some (.int .i64 j) ∧ w'.cell? ⟨w.heap.size, 4, none⟩ = some (.bool flag) ∧ w'.cell? ⟨w.heap.size, 5, none⟩ = some (.string ⟨s.toArray⟩) ∧ w'.cell? ⟨w.heap.size, 6, none⟩ = some (.int .i64 big))
    (first
      | exact HX1.out.cells
      | exact HX2.out.cells
      | exact HX3.out.cells)
    (first
      | (go_at_call 43; refine (HTX w1.drew).out.mono ?_; rintro e w2 ⟨rfl, hb2⟩
         have HX2 := Lib.hid (HX1.out.below (((Below.refl w1.heap.size w1).drew).trans hb2))
         have HS2 := Lib.hid (HD.out.st _ _ HS1.out (quietDrew hb2))
         clear hb2)
      | (go_at_call 48; refine (HD.out.a w2 HS2.out).mono ?_; rintro e w3 ⟨rfl, hm3, hk3⟩
         have HX3 := Lib.hid (HX2.out.keeps hk3)
         have HM3 := Lib.hid hm3
         obtain ⟨y0, y1, y2, y3, y4, y5, y6⟩ := HX3.out.cells
         clear hm3 hk3))
  all_goals
    go_upto_region 18 with fail
    go_region_held3 (fun w' => w'.cell? ⟨w.heap.size, 0, none⟩ = some (.int .i64 who) ∧ w'.cell? ⟨w.heap.size, 1, none⟩ = some (.int .i64 4) ∧ w'.cell? ⟨w.heap.size, 2, none⟩ = some (.int .i64 i) ∧ w'.cell? ⟨w.heap.size, 3, none⟩ = some (.int .i64 j) ∧ w'.cell? ⟨w.heap.size, 4, none⟩ = some (.bool flag) ∧ w'.cell? ⟨w.heap.size, 5, none⟩ = some (.string ⟨s.toArray⟩) ∧ w'.cell? ⟨w.heap.size, 6, none⟩ = some (.int .i64 big))
      (first
        | exact HX3.out.cells
        | exact HX4.out.cells
        | exact HX5.out.cells)
      (first
        | (go_at_call 43; refine (HTX w3.drew).out.mono ?_; rintro e w4 ⟨rfl, hb4⟩
           have HX4 := Lib.hid (HX3.out.below (((Below.refl w3.heap.size w3).drew).trans hb4))
           have HM4 := Lib.hid (HD.out.md _ _ HM3.out (quietDrew hb4))
           clear hb4)
        | (go_at_call 15; refine (HD.out.b w4 HM4.out).mono ?_; rintro e w5 ⟨rfl, hm5, hk5⟩
           have HX5 := Lib.hid (HX4.out.keeps hk5)
           have HM5 := Lib.hid hm5
           clear hm5 hk5))
    all_goals
      go_wp2_with fail
      go_ret
      exact ⟨by first | rfl | simp, HM5.out⟩
end Go.Proofs.Ytefoieloakfhfaa
