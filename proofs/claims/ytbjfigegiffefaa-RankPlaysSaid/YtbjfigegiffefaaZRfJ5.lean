/- A step of the law's script: Within. -/
import Derived.Test.YtbjfigegiffefaaZRfJ
import Derived.RegionTactic
import Derived.ChangeAlike
set_option linter.unusedVariables false
set_option linter.unusedSimpArgs false
namespace Go.Proofs.Ytbjfigegiffefaa
open Go.RowKit Pantry

set_option maxHeartbeats 16000000 in
set_option maxRecDepth 100000 in
theorem play5 (w : World) (r m : Nat) (Z : Nat → Prop) (l : List Mb) (o : Stp) (h : Hf w r m Z l) (hok : o.Ok) (ha : o.act = 5) :
    Calls Try.prog 31 #[.pointer (some ⟨r, 0, none⟩), .pointer (some ⟨m, 0, none⟩), .agg o.cells.toArray] w (PlayPost r m Z w) := by
  obtain ⟨S, v, M, hin, hb0⟩ := play_in h hok
  obtain ⟨wb, hwb⟩ : ∃ wb, w.alloc (.cells o.cells.toArray 52) = wb := ⟨_, rfl⟩
  rw [hwb] at hin hb0
  have HIN := Lib.hid hin
  have HB0 := Lib.hid hb0
  have hfb := frombits
  have htx := hok.s
  obtain ⟨⟨c1, c2, c3, c4, c5⟩, c6, c7, c8⟩ := box9 hin.box
  obtain ⟨who, act, oi, oj, s, x, y, ox, oy⟩ := o
  show Calls Try.prog 31 #[.pointer (some ⟨r, 0, none⟩), .pointer (some ⟨m, 0, none⟩), .agg #[.int .i64 who, .int .i64 act, .int .i64 oi, .int .i64 oj, .string ⟨s.toArray⟩, .int .u64 x, .int .u64 y, .bool ox, .bool oy]] w (PlayPost r m Z w)
  replace hwb : w.alloc (.cells #[.int .i64 who, .int .i64 act, .int .i64 oi, .int .i64 oj, .string ⟨s.toArray⟩, .int .u64 x, .int .u64 y, .bool ox, .bool oy] 52) = wb := hwb
  simp only at c1 c2 c3 c4 c5 c6 c7 c8 htx ha
  clear hin hb0 h hok
  rw [ha] at c1
  clear ha
  have HCL : Hid (∀ W, Below wb.heap.size wb W → (W.cell? ⟨w.heap.size, 5, none⟩ = some (.int .u64 x) ∧ W.cell? ⟨w.heap.size, 6, none⟩ = some (.int .u64 y) ∧ W.cell? ⟨w.heap.size, 7, none⟩ = some (.bool ox) ∧ W.cell? ⟨w.heap.size, 8, none⟩ = some (.bool oy))) := Lib.hid fun W hW => by
    obtain ⟨⟨-, -, -, -, q5⟩, q6, q7, q8⟩ := box9 ((hW.block _ (block_lt HIN.out.box)).trans HIN.out.box)
    exact ⟨q5, q6, q7, q8⟩
  have G5 : ∀ o, (wb.alloc o).cell? ⟨w.heap.size, 5, none⟩ = some (.int .u64 x) := fun o => (HCL.out _ ((Below.refl _ wb).alloc (Nat.le_refl _) o)).1
  have G7 : ∀ o, (wb.alloc o).cell? ⟨w.heap.size, 7, none⟩ = some (.bool ox) := fun o => (HCL.out _ ((Below.refl _ wb).alloc (Nat.le_refl _) o)).2.2.1
  go_enter Try.func31, Try.ntmps31
  go_wp2_with fail
  go_region
  obtain ⟨w2, hw2⟩ : ∃ w2, (wb.alloc (.cells #[.float .f64 x, .bool ox] 58)).drew = w2 := ⟨_, rfl⟩
  have hb2 : Below wb.heap.size wb w2 := by rw [← hw2]; exact ((Below.refl _ wb).alloc (Nat.le_refl _) _).drew
  have hx2 : w2.heap[wb.heap.size]? = some (.cells #[.float .f64 x, .bool ox] 58) := by rw [← hw2]; exact heap_alloc_new wb _
  rw [hw2]
  have HB2 := Lib.hid hb2
  have HX2 := Lib.hid hx2
  obtain ⟨-, i6, -, i8⟩ := HCL.out w2 hb2
  have I6 : ∀ o, (w2.alloc o).cell? ⟨w.heap.size, 6, none⟩ = some (.int .u64 y) := fun o => (HCL.out _ (hb2.alloc hb2.size o)).2.1
  have I8 : ∀ o, (w2.alloc o).cell? ⟨w.heap.size, 8, none⟩ = some (.bool oy) := fun o => (HCL.out _ (hb2.alloc hb2.size o)).2.2.2
  clear hb2 hx2 hw2 G5 G7 c1 c2 c3 c4 c5 c6 c7 c8
  go_wp2_with fail
  go_region
  obtain ⟨w3, hw3⟩ : ∃ w3, (w2.alloc (.cells #[.float .f64 y, .bool oy] 58)).drew = w3 := ⟨_, rfl⟩
  have hb3 : Below w2.heap.size w2 w3 := by rw [← hw3]; exact ((Below.refl _ w2).alloc (Nat.le_refl _) _).drew
  have hy3 : w3.heap[w2.heap.size]? = some (.cells #[.float .f64 y, .bool oy] 58) := by rw [← hw3]; exact heap_alloc_new w2 _
  rw [hw3]
  have HX3 := Lib.hid ((hb3.block _ (block_lt HX2.out)).trans HX2.out)
  have HY3 := Lib.hid hy3
  obtain ⟨⟨j0, j1⟩, -⟩ := two HX3.out
  obtain ⟨⟨k0, k1⟩, -⟩ := two hy3
  have HIN3 := Lib.hid (HIN.out.quiet (HB2.out.trans (hb3.mono HB2.out.size)))
  have HB3 := Lib.hid (HB0.out.trans ((HB2.out.trans (hb3.mono HB2.out.size)).mono HB0.out.size))
  have HWM := Lib.hid (rWithin_any w3 m v M x ox y oy HIN3.out.rf HIN3.out.num)
  have hwl : withinL M x ox y oy = withinL l x ox y oy := by
    unfold withinL
    rw [HIN.out.perm.countP_eq, HIN.out.perm.countP_eq]
  rw [hwl] at HWM
  clear hb3 hy3 hw3 I6 I8 i6 i8 hwl
  go_wp2_with fail
  refine HWM.out.mono ?_
  rintro e w4 ⟨rfl, hb4⟩
  have HIN4 := Lib.hid (HIN3.out.quiet hb4)
  have HB4 := Lib.hid (HB3.out.trans (hb4.mono HB3.out.size))
  obtain ⟨⟨p0, p1⟩, -⟩ := two ((hb4.block _ (block_lt HX3.out)).trans HX3.out)
  obtain ⟨⟨q0, q1⟩, -⟩ := two ((hb4.block _ (block_lt HY3.out)).trans HY3.out)
  have HWR := Lib.hid ((HIN4.out.rk.within x ox y oy).mono fun e w' hp => WithinPost.fn hp)
  obtain ⟨z1, hz1⟩ : ∃ z, (withinL l x ox y oy).1 = z := ⟨_, rfl⟩
  obtain ⟨z2, hz2⟩ : ∃ z, (withinL l x ox y oy).2 = z := ⟨_, rfl⟩
  rw [hz1, hz2] at HWR ⊢
  clear hb4 j0 j1 k0 k1 hz1 hz2 HWM
  go_wp2_with (go_at_call 24; refine HWR.out.mono ?_; clear HWR; rintro e w5 ⟨rfl, hb5⟩
               have HE : Hid (HfTo r m Z l w w5) := Lib.hid (HfTo.before HB4.out (HfTo.same HIN4.out.hf hb5))
               clear hb5)
  go_ret
  exact ⟨by simp, _, HE.out⟩
end Go.Proofs.Ytbjfigegiffefaa
