/- The law's plays: what takes no text. -/
import Derived.Test.YtefoieloakfhfaaZPlaysA
import Derived.Deep.RegionHeld3
set_option linter.unusedVariables false
set_option linter.unusedSimpArgs false
namespace Go.Proofs.Ytefoieloakfhfaa
open Go.RowKit Pantry

set_option maxHeartbeats 4000000 in
set_option maxRecDepth 100000 in
theorem plays_pop (w : World) (p q : Option Addr) (St Md En : World → Prop) (who i j : Int) (flag : Bool) (s : Txt) (big : Int) (y : ByteArray) (ok : Bool)
    (hD : Duo St Md En 44 12 (.pointer q) (.pointer p) [.bool flag] (.tuple #[.string y, .bool ok])) (hst : St w) :
    Calls Try.prog 30 #[.pointer p, .pointer q, .agg #[.int .i64 who, .int .i64 1, .int .i64 i, .int .i64 j, .bool flag, .string ⟨s.toArray⟩, .int .i64 big]] w (PlayPost En) := by
  obtain ⟨w1, hw1⟩ : ∃ w1, w.alloc (.cells #[.int .i64 who, .int .i64 1, .int .i64 i, .int .i64 j, .bool flag, .string ⟨s.toArray⟩, .int .i64 big] 39) = w1 := ⟨_, rfl⟩
  have HX1 : Hid (Bx w1 w.heap.size ⟨who, 1, i, j, flag, s, big⟩) := Lib.hid (by rw [← hw1]; exact box_start (o := ⟨who, 1, i, j, flag, s, big⟩))
  have HS1 : Hid (St w1) := Lib.hid (by rw [← hw1]; exact hD.st w _ hst ((Chg.refl _ w).alloc _))
  obtain ⟨x0, x1, x2, x3, x4, x5, x6⟩ := HX1.out.cells
  have HD := Lib.hid hD
  clear hst hD
  go_enter Try.func30, Try.ntmps30
  go_wp2_with (first
    | (go_at_call 44; refine (HD.out.a w1 HS1.out).mono ?_; rintro e w3 ⟨rfl, hm3, hk3⟩
       have HX3 := Lib.hid (HX1.out.keeps hk3)
       have HM3 := Lib.hid hm3
       obtain ⟨y0, y1, y2, y3, y4, y5, y6⟩ := HX3.out.cells
       clear hm3 hk3)
    | (go_at_call 12; refine (HD.out.b w3 HM3.out).mono ?_; rintro e w5 ⟨rfl, hm5, hk5⟩
       have HM5 := Lib.hid hm5
       clear hm5 hk5))
  go_ret
  exact ⟨by first | rfl | simp, HM5.out⟩
set_option maxHeartbeats 4000000 in
set_option maxRecDepth 100000 in
theorem plays_at (w : World) (p q : Option Addr) (St Md En : World → Prop) (who i j : Int) (flag : Bool) (s : Txt) (big : Int) (y : ByteArray) (ok : Bool)
    (hD : Duo St Md En 45 23 (.pointer q) (.pointer p) [.int .i64 i] (.tuple #[.string y, .bool ok])) (hst : St w) :
    Calls Try.prog 30 #[.pointer p, .pointer q, .agg #[.int .i64 who, .int .i64 2, .int .i64 i, .int .i64 j, .bool flag, .string ⟨s.toArray⟩, .int .i64 big]] w (PlayPost En) := by
  obtain ⟨w1, hw1⟩ : ∃ w1, w.alloc (.cells #[.int .i64 who, .int .i64 2, .int .i64 i, .int .i64 j, .bool flag, .string ⟨s.toArray⟩, .int .i64 big] 39) = w1 := ⟨_, rfl⟩
  have HX1 : Hid (Bx w1 w.heap.size ⟨who, 2, i, j, flag, s, big⟩) := Lib.hid (by rw [← hw1]; exact box_start (o := ⟨who, 2, i, j, flag, s, big⟩))
  have HS1 : Hid (St w1) := Lib.hid (by rw [← hw1]; exact hD.st w _ hst ((Chg.refl _ w).alloc _))
  obtain ⟨x0, x1, x2, x3, x4, x5, x6⟩ := HX1.out.cells
  have HD := Lib.hid hD
  clear hst hD
  go_enter Try.func30, Try.ntmps30
  go_wp2_with (first
    | (go_at_call 45; refine (HD.out.a w1 HS1.out).mono ?_; rintro e w3 ⟨rfl, hm3, hk3⟩
       have HX3 := Lib.hid (HX1.out.keeps hk3)
       have HM3 := Lib.hid hm3
       obtain ⟨y0, y1, y2, y3, y4, y5, y6⟩ := HX3.out.cells
       clear hm3 hk3)
    | (go_at_call 23; refine (HD.out.b w3 HM3.out).mono ?_; rintro e w5 ⟨rfl, hm5, hk5⟩
       have HM5 := Lib.hid hm5
       clear hm5 hk5))
  go_ret
  exact ⟨by first | rfl | simp, HM5.out⟩
set_option maxHeartbeats 4000000 in
set_option maxRecDepth 100000 in
theorem plays_rem (w : World) (p q : Option Addr) (St Md En : World → Prop) (who i j : Int) (flag : Bool) (s : Txt) (big : Int) (ok : Bool)
    (hD : Duo St Md En 49 18 (.pointer q) (.pointer p) [.int .i64 i] (.bool ok)) (hst : St w) :
    Calls Try.prog 30 #[.pointer p, .pointer q, .agg #[.int .i64 who, .int .i64 5, .int .i64 i, .int .i64 j, .bool flag, .string ⟨s.toArray⟩, .int .i64 big]] w (PlayPost En) := by
  obtain ⟨w1, hw1⟩ : ∃ w1, w.alloc (.cells #[.int .i64 who, .int .i64 5, .int .i64 i, .int .i64 j, .bool flag, .string ⟨s.toArray⟩, .int .i64 big] 39) = w1 := ⟨_, rfl⟩
  have HX1 : Hid (Bx w1 w.heap.size ⟨who, 5, i, j, flag, s, big⟩) := Lib.hid (by rw [← hw1]; exact box_start (o := ⟨who, 5, i, j, flag, s, big⟩))
  have HS1 : Hid (St w1) := Lib.hid (by rw [← hw1]; exact hD.st w _ hst ((Chg.refl _ w).alloc _))
  obtain ⟨x0, x1, x2, x3, x4, x5, x6⟩ := HX1.out.cells
  have HD := Lib.hid hD
  clear hst hD
  go_enter Try.func30, Try.ntmps30
  go_wp2_with (first
    | (go_at_call 49; refine (HD.out.a w1 HS1.out).mono ?_; rintro e w3 ⟨rfl, hm3, hk3⟩
       have HX3 := Lib.hid (HX1.out.keeps hk3)
       have HM3 := Lib.hid hm3
       obtain ⟨y0, y1, y2, y3, y4, y5, y6⟩ := HX3.out.cells
       clear hm3 hk3)
    | (go_at_call 18; refine (HD.out.b w3 HM3.out).mono ?_; rintro e w5 ⟨rfl, hm5, hk5⟩
       have HM5 := Lib.hid hm5
       clear hm5 hk5))
  go_ret
  exact ⟨by first | rfl | simp, HM5.out⟩
set_option maxHeartbeats 4000000 in
set_option maxRecDepth 100000 in
theorem plays_trim (w : World) (p q : Option Addr) (St Md En : World → Prop) (who i j : Int) (flag : Bool) (s : Txt) (big : Int) 
    (hD : Duo St Md En 50 19 (.pointer q) (.pointer p) [.int .i64 i, .int .i64 j] (.tuple #[])) (hst : St w) :
    Calls Try.prog 30 #[.pointer p, .pointer q, .agg #[.int .i64 who, .int .i64 6, .int .i64 i, .int .i64 j, .bool flag, .string ⟨s.toArray⟩, .int .i64 big]] w (PlayPost En) := by
  obtain ⟨w1, hw1⟩ : ∃ w1, w.alloc (.cells #[.int .i64 who, .int .i64 6, .int .i64 i, .int .i64 j, .bool flag, .string ⟨s.toArray⟩, .int .i64 big] 39) = w1 := ⟨_, rfl⟩
  have HX1 : Hid (Bx w1 w.heap.size ⟨who, 6, i, j, flag, s, big⟩) := Lib.hid (by rw [← hw1]; exact box_start (o := ⟨who, 6, i, j, flag, s, big⟩))
  have HS1 : Hid (St w1) := Lib.hid (by rw [← hw1]; exact hD.st w _ hst ((Chg.refl _ w).alloc _))
  obtain ⟨x0, x1, x2, x3, x4, x5, x6⟩ := HX1.out.cells
  have HD := Lib.hid hD
  clear hst hD
  go_enter Try.func30, Try.ntmps30
  go_wp2_with (first
    | (go_at_call 50; refine (HD.out.a w1 HS1.out).mono ?_; rintro e w3 ⟨rfl, hm3, hk3⟩
       have HX3 := Lib.hid (HX1.out.keeps hk3)
       have HM3 := Lib.hid hm3
       obtain ⟨y0, y1, y2, y3, y4, y5, y6⟩ := HX3.out.cells
       clear hm3 hk3)
    | (go_at_call 19; refine (HD.out.b w3 HM3.out).mono ?_; rintro e w5 ⟨rfl, hm5, hk5⟩
       have HM5 := Lib.hid hm5
       clear hm5 hk5))
  go_ret
  exact ⟨by first | rfl | simp, HM5.out⟩
set_option maxHeartbeats 4000000 in
set_option maxRecDepth 100000 in
theorem plays_other (w : World) (p q : Option Addr) (St : World → Prop) (hq : ∀ A B, St A → Chg (fun _ => False) A B → St B) (who act i j : Int) (flag : Bool) (s : Txt) (big : Int) (h : act < 0 ∨ 8 < act) (hst : St w) :
    Calls Try.prog 30 #[.pointer p, .pointer q, .agg #[.int .i64 who, .int .i64 act, .int .i64 i, .int .i64 j, .bool flag, .string ⟨s.toArray⟩, .int .i64 big]] w (PlayPost St) := by
  have h0 : ¬ act = 0 := by omega
  have h1 : ¬ act = 1 := by omega
  have h2 : ¬ act = 2 := by omega
  have h3 : ¬ act = 3 := by omega
  have h4 : ¬ act = 4 := by omega
  have h5 : ¬ act = 5 := by omega
  have h6 : ¬ act = 6 := by omega
  have h7 : ¬ act = 7 := by omega
  have h8 : ¬ act = 8 := by omega
  have HS := Lib.hid (hq w _ hst ((Chg.refl _ w).alloc (.cells #[.int .i64 who, .int .i64 act, .int .i64 i, .int .i64 j, .bool flag, .string ⟨s.toArray⟩, .int .i64 big] 39)))
  clear hst h
  go_enter Try.func30, Try.ntmps30
  go_wp2_with fail
  go_ret
  exact ⟨rfl, HS.out⟩
end Go.Proofs.Ytefoieloakfhfaa
