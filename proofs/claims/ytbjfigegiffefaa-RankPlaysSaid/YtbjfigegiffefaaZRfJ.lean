/- A step of the law's script, act by act. -/
import Derived.Test.YtbjfigegiffefaaZRfD
set_option linter.unusedVariables false
set_option linter.unusedSimpArgs false
namespace Go.Proofs.Ytbjfigegiffefaa
open Go.RowKit Pantry

theorem play_in {w : World} {r m : Nat} {Z : Nat → Prop} {l : List Mb} {o : Stp} (h : Hf w r m Z l) (hok : o.Ok) : ∃ S v M, PIn (w.alloc (.cells o.cells.toArray 52)) r m w.heap.size Z S v l M o ∧ Below w.heap.size w (w.alloc (.cells o.cells.toArray 52)) := by
  have hb : Below w.heap.size w (w.alloc (.cells o.cells.toArray 52)) := (Below.refl _ w).alloc (Nat.le_refl _) _
  obtain ⟨⟨S, v, M, h1, h2, h3, h4, h5⟩, h6⟩ := h
  exact ⟨S, v, M, ⟨h1.below hb, h2.below hb, h3, h4, h5, heap_alloc_new w _, fun hz => by have := h6 _ hz; omega, hok, fun k hk => Nat.lt_of_lt_of_le (h6 k hk) hb.size⟩, hb⟩
set_option maxHeartbeats 16000000 in
set_option maxRecDepth 100000 in
theorem play1 (w : World) (r m : Nat) (Z : Nat → Prop) (l : List Mb) (o : Stp) (h : Hf w r m Z l) (hok : o.Ok) (ha : o.act = 1) :
    Calls Try.prog 31 #[.pointer (some ⟨r, 0, none⟩), .pointer (some ⟨m, 0, none⟩), .agg o.cells.toArray] w (PlayPost r m Z w) := by
  obtain ⟨S, v, M, hin, hb0⟩ := play_in h hok
  obtain ⟨wb, hwb⟩ : ∃ wb, w.alloc (.cells o.cells.toArray 52) = wb := ⟨_, rfl⟩
  rw [hwb] at hin hb0
  have HIN := Lib.hid hin
  have HB0 := Lib.hid hb0
  have hfb := frombits
  have htx := hok.s
  obtain ⟨⟨c1, c2, c3, c4, c5⟩, c6, c7, c8⟩ := box9 hin.box
  obtain ⟨who, act, oi, oj, s, x, y, ox, oy⟩ := o
  show Calls Try.prog 31 #[.pointer (some ⟨r, 0, none⟩), .pointer (some ⟨m, 0, none⟩), .agg #[.int .i64 who, .int .i64 act, .int .i64 oi, .int .i64 oj, .string ⟨s.toArray⟩, .int .u64 x, .int .u64 y, .bool ox, .bool oy]] w (PlayPost r m Z w)
  replace hwb : w.alloc (.cells #[.int .i64 who, .int .i64 act, .int .i64 oi, .int .i64 oj, .string ⟨s.toArray⟩, .int .u64 x, .int .u64 y, .bool ox, .bool oy] 52) = wb := hwb
  simp only at c1 c2 c3 c4 c5 c6 c7 c8 htx ha
  clear hin hb0 h hok
  have HS := Lib.hid (rDel_any wb m v M s HIN.out.rf)
  rw [ha] at c1
  clear ha
  go_enter Try.func31, Try.ntmps31
  go_wp2_with fail
  refine HS.out.mono ?_
  rintro e w1 (⟨i, y1, hi, rfl, hto⟩ | ⟨hno, rfl, hto⟩)
  · have HI := Lib.hid hi
    have HTO := Lib.hid hto
    obtain ⟨hrk1, hbx1⟩ := HIN.out.apartM hto
    obtain ⟨⟨d1, d2, d3, d4, d5⟩, d6, d7, d8⟩ := box9 hbx1
    have HRS := Lib.hid (hrk1.del s htx)
    clear hi hto hrk1 hbx1 c1 c2 c3 c4 c5 c6 c7 c8 HS
    go_wp2_with (go_at_call 33; refine HRS.out.mono ?_; clear HRS; rintro e w2 hd
                 obtain ⟨i', y2, hi', rfl, hto2⟩ : ∃ (i' y2 : Nat), l[i']? = some (s, y2) ∧ e = .returned (.bool true) ∧ RkTo r S (cutR l i') w1 w2 := by
                   rcases hd with hd | ⟨hno, -⟩
                   · exact hd
                   · exact absurd rfl (hno _ (HIN.out.perm.mem_iff.1 (List.mem_of_getElem? HI.out)))
                 have HE : Hid (HfTo r m Z (cutR l i') w w2) := Lib.hid (HfTo.before HB0.out (Hf.both HIN.out.rk HIN.out.rf HIN.out.apart HIN.out.foot HTO.out hto2 (by
                   have := key_uniq HIN.out.rk.keys (HIN.out.perm.mem_iff.1 (List.mem_of_getElem? HI.out)) (List.mem_of_getElem? hi')
                   subst this
                   exact List.Perm.cons_inv ((cut_perm HI.out).symm.trans (HIN.out.perm.trans (cut_perm hi'))))))
                 clear hd hi' hto2)
    go_ret
    exact ⟨by simp, _, HE.out⟩
  · have HNO := Lib.hid hno
    have HTO := Lib.hid hto
    obtain ⟨hrk1, hbx1⟩ := HIN.out.apartM hto
    obtain ⟨⟨d1, d2, d3, d4, d5⟩, d6, d7, d8⟩ := box9 hbx1
    have HRS := Lib.hid (hrk1.del s htx)
    clear hno hto hrk1 hbx1 c1 c2 c3 c4 c5 c6 c7 c8 HS
    go_wp2_with (go_at_call 33; refine HRS.out.mono ?_; clear HRS; rintro e w2 hd
                 obtain ⟨rfl, hto2⟩ : e = .returned (.bool false) ∧ RkTo r S l w1 w2 := by
                   rcases hd with ⟨i', y2, hi', -⟩ | ⟨-, hd⟩
                   · exact absurd rfl (HNO.out _ (HIN.out.perm.mem_iff.2 (List.mem_of_getElem? hi')))
                   · exact hd
                 have HE : Hid (HfTo r m Z l w w2) := Lib.hid (HfTo.before HB0.out (Hf.both HIN.out.rk HIN.out.rf HIN.out.apart HIN.out.foot HTO.out hto2 HIN.out.perm))
                 clear hd hto2)
    go_ret
    exact ⟨by simp, _, HE.out⟩
set_option maxHeartbeats 16000000 in
set_option maxRecDepth 100000 in
theorem play2 (w : World) (r m : Nat) (Z : Nat → Prop) (l : List Mb) (o : Stp) (h : Hf w r m Z l) (hok : o.Ok) (ha : o.act = 2) :
    Calls Try.prog 31 #[.pointer (some ⟨r, 0, none⟩), .pointer (some ⟨m, 0, none⟩), .agg o.cells.toArray] w (PlayPost r m Z w) := by
  obtain ⟨S, v, M, hin, hb0⟩ := play_in h hok
  obtain ⟨wb, hwb⟩ : ∃ wb, w.alloc (.cells o.cells.toArray 52) = wb := ⟨_, rfl⟩
  rw [hwb] at hin hb0
  have HIN := Lib.hid hin
  have HB0 := Lib.hid hb0
  have hfb := frombits
  have htx := hok.s
  obtain ⟨⟨c1, c2, c3, c4, c5⟩, c6, c7, c8⟩ := box9 hin.box
  obtain ⟨who, act, oi, oj, s, x, y, ox, oy⟩ := o
  show Calls Try.prog 31 #[.pointer (some ⟨r, 0, none⟩), .pointer (some ⟨m, 0, none⟩), .agg #[.int .i64 who, .int .i64 act, .int .i64 oi, .int .i64 oj, .string ⟨s.toArray⟩, .int .u64 x, .int .u64 y, .bool ox, .bool oy]] w (PlayPost r m Z w)
  replace hwb : w.alloc (.cells #[.int .i64 who, .int .i64 act, .int .i64 oi, .int .i64 oj, .string ⟨s.toArray⟩, .int .u64 x, .int .u64 y, .bool ox, .bool oy] 52) = wb := hwb
  simp only at c1 c2 c3 c4 c5 c6 c7 c8 htx ha
  clear hin hb0 h hok
  have HS := Lib.hid (rScore_any wb m v M s HIN.out.rf)
  rw [ha] at c1
  clear ha
  go_enter Try.func31, Try.ntmps31
  go_wp2_with fail
  refine HS.out.mono ?_
  rintro e w1 ⟨hres, hb1⟩
  have HIN1 := Lib.hid (HIN.out.quiet hb1)
  obtain ⟨⟨d1, d2, d3, d4, d5⟩, d6, d7, d8⟩ := box9 HIN1.out.box
  have HB1 := Lib.hid (HB0.out.trans (hb1.mono HB0.out.size))
  have HRS := Lib.hid (HIN1.out.rk.score s htx)
  rcases hres with ⟨i, x1, hi, rfl⟩ | ⟨hno, rfl⟩
  · have HI := Lib.hid (HIN.out.perm.mem_iff.1 (List.mem_of_getElem? hi))
    have HAL : Hid (alikeB x1 x1 = true) := Lib.hid (by rw [alikeB_num (HIN.out.rk.good.num _ HI.out) (HIN.out.rk.good.num _ HI.out)]; simp)
    have HAA := fun W => Lib.hid (alike_any W x1 x1)
    clear hi hb1 c1 c2 c3 c4 c5 c6 c7 c8 HS
    go_wp2_with (first
      | (go_at_call 15; refine HRS.out.mono ?_; clear HRS; rintro e w2 ⟨hd, hq⟩
         obtain rfl : e = .returned (.tuple #[.float .f64 x1, .bool true]) := by
           rcases hd with ⟨x2, hx2, rfl⟩ | ⟨hno, -⟩
           · rw [key_uniq HIN.out.rk.keys hx2 HI.out]
           · exact absurd rfl (hno _ HI.out)
         have HE : Hid (HfTo r m Z l w w2) := Lib.hid (HfTo.before HB1.out (Hf.both HIN1.out.rk HIN1.out.rf HIN1.out.apart HIN1.out.foot (RfTo.same HIN1.out.rf (Below.refl _ _)) ⟨⟨S, hq.at_, fun k hk => .inl hk⟩, hq.chg⟩ HIN1.out.perm))
         clear hd hq)
      | (go_at_call 16; refine (HAA _).out.mono ?_; rintro e w3 ⟨rfl, rfl⟩; rw [HAL.out]))
    go_ret
    exact ⟨by simp, _, HE.out⟩
  · have HNO := Lib.hid hno
    have HAL : Hid (alikeB 0 0 = true) := Lib.hid (by decide +kernel)
    have HAA := fun W => Lib.hid (alike_any W 0 0)
    clear hno hb1 c1 c2 c3 c4 c5 c6 c7 c8 HS
    go_wp2_with (first
      | (go_at_call 15; refine HRS.out.mono ?_; clear HRS; rintro e w2 ⟨hd, hq⟩
         obtain rfl : e = .returned (.tuple #[.float .f64 0, .bool false]) := by
           rcases hd with ⟨x2, hx2, -⟩ | ⟨-, hd⟩
           · exact absurd rfl (HNO.out _ (HIN.out.perm.mem_iff.2 hx2))
           · exact hd
         have HE : Hid (HfTo r m Z l w w2) := Lib.hid (HfTo.before HB1.out (Hf.both HIN1.out.rk HIN1.out.rf HIN1.out.apart HIN1.out.foot (RfTo.same HIN1.out.rf (Below.refl _ _)) ⟨⟨S, hq.at_, fun k hk => .inl hk⟩, hq.chg⟩ HIN1.out.perm))
         clear hd hq)
      | (go_at_call 16; refine (HAA _).out.mono ?_; rintro e w3 ⟨rfl, rfl⟩; rw [HAL.out]))
    go_ret
    exact ⟨by simp, _, HE.out⟩
set_option maxHeartbeats 16000000 in
set_option maxRecDepth 100000 in
theorem play3 (w : World) (r m : Nat) (Z : Nat → Prop) (l : List Mb) (o : Stp) (h : Hf w r m Z l) (hok : o.Ok) (ha : o.act = 3) :
    Calls Try.prog 31 #[.pointer (some ⟨r, 0, none⟩), .pointer (some ⟨m, 0, none⟩), .agg o.cells.toArray] w (PlayPost r m Z w) := by
  obtain ⟨S, v, M, hin, hb0⟩ := play_in h hok
  obtain ⟨wb, hwb⟩ : ∃ wb, w.alloc (.cells o.cells.toArray 52) = wb := ⟨_, rfl⟩
  rw [hwb] at hin hb0
  have HIN := Lib.hid hin
  have HB0 := Lib.hid hb0
  have hfb := frombits
  have htx := hok.s
  obtain ⟨⟨c1, c2, c3, c4, c5⟩, c6, c7, c8⟩ := box9 hin.box
  obtain ⟨who, act, oi, oj, s, x, y, ox, oy⟩ := o
  show Calls Try.prog 31 #[.pointer (some ⟨r, 0, none⟩), .pointer (some ⟨m, 0, none⟩), .agg #[.int .i64 who, .int .i64 act, .int .i64 oi, .int .i64 oj, .string ⟨s.toArray⟩, .int .u64 x, .int .u64 y, .bool ox, .bool oy]] w (PlayPost r m Z w)
  replace hwb : w.alloc (.cells #[.int .i64 who, .int .i64 act, .int .i64 oi, .int .i64 oj, .string ⟨s.toArray⟩, .int .u64 x, .int .u64 y, .bool ox, .bool oy] 52) = wb := hwb
  simp only at c1 c2 c3 c4 c5 c6 c7 c8 htx ha
  clear hin hb0 h hok
  have HS := Lib.hid (rRank_any wb m v M s HIN.out.rf HIN.out.num)
  rw [ha] at c1
  clear ha
  go_enter Try.func31, Try.ntmps31
  go_wp2_with fail
  refine HS.out.mono ?_
  rintro e w1 ⟨hres, hb1⟩
  have HIN1 := Lib.hid (HIN.out.quiet hb1)
  obtain ⟨⟨d1, d2, d3, d4, d5⟩, d6, d7, d8⟩ := box9 HIN1.out.box
  have HB1 := Lib.hid (HB0.out.trans (hb1.mono HB0.out.size))
  have HRS := Lib.hid (HIN1.out.rk.rank s htx)
  rcases hres with ⟨i, x1, hi, rfl⟩ | ⟨hno, rfl⟩
  · have HI := Lib.hid (HIN.out.perm.mem_iff.1 (List.mem_of_getElem? hi))
    obtain ⟨z, hz⟩ : ∃ z, placeN M (s, x1) = z := ⟨_, rfl⟩
    have HZ := Lib.hid hz
    rw [hz]
    clear hi hb1 c1 c2 c3 c4 c5 c6 c7 c8 HS hz
    go_wp2_with (first
      | (go_at_call 14; refine HRS.out.mono ?_; clear HRS; rintro e w2 ⟨hd, hq⟩
         obtain rfl : e = .returned (.tuple #[.int .i64 z, .bool true]) := by
           rcases hd with ⟨i2, x2, hx2, rfl⟩ | ⟨hno, -⟩
           · have := key_uniq HIN.out.rk.keys (List.mem_of_getElem? hx2) HI.out
             subst this
             rw [← HZ.out, place_of HIN.out.perm HIN.out.rk.good.rises hx2]
           · exact absurd rfl (hno _ HI.out)
         have HE : Hid (HfTo r m Z l w w2) := Lib.hid (HfTo.before HB1.out (Hf.both HIN1.out.rk HIN1.out.rf HIN1.out.apart HIN1.out.foot (RfTo.same HIN1.out.rf (Below.refl _ _)) ⟨⟨S, hq.at_, fun k hk => .inl hk⟩, hq.chg⟩ HIN1.out.perm))
         clear hd hq))
    go_ret
    exact ⟨by simp, _, HE.out⟩
  · have HNO := Lib.hid hno
    clear hno hb1 c1 c2 c3 c4 c5 c6 c7 c8 HS
    go_wp2_with (first
      | (go_at_call 14; refine HRS.out.mono ?_; clear HRS; rintro e w2 ⟨hd, hq⟩
         obtain rfl : e = .returned (.tuple #[.int .i64 0, .bool false]) := by
           rcases hd with ⟨i2, x2, hx2, -⟩ | ⟨-, hd⟩
           · exact absurd rfl (HNO.out _ (HIN.out.perm.mem_iff.2 (List.mem_of_getElem? hx2)))
           · exact hd
         have HE : Hid (HfTo r m Z l w w2) := Lib.hid (HfTo.before HB1.out (Hf.both HIN1.out.rk HIN1.out.rf HIN1.out.apart HIN1.out.foot (RfTo.same HIN1.out.rf (Below.refl _ _)) ⟨⟨S, hq.at_, fun k hk => .inl hk⟩, hq.chg⟩ HIN1.out.perm))
         clear hd hq))
    go_ret
    exact ⟨by simp, _, HE.out⟩
set_option maxHeartbeats 16000000 in
set_option maxRecDepth 100000 in
theorem play4 (w : World) (r m : Nat) (Z : Nat → Prop) (l : List Mb) (o : Stp) (h : Hf w r m Z l) (hok : o.Ok) (ha : o.act = 4) :
    Calls Try.prog 31 #[.pointer (some ⟨r, 0, none⟩), .pointer (some ⟨m, 0, none⟩), .agg o.cells.toArray] w (PlayPost r m Z w) := by
  obtain ⟨S, v, M, hin, hb0⟩ := play_in h hok
  obtain ⟨wb, hwb⟩ : ∃ wb, w.alloc (.cells o.cells.toArray 52) = wb := ⟨_, rfl⟩
  rw [hwb] at hin hb0
  have HIN := Lib.hid hin
  have HB0 := Lib.hid hb0
  have hfb := frombits
  have htx := hok.s
  obtain ⟨⟨c1, c2, c3, c4, c5⟩, c6, c7, c8⟩ := box9 hin.box
  obtain ⟨who, act, oi, oj, s, x, y, ox, oy⟩ := o
  show Calls Try.prog 31 #[.pointer (some ⟨r, 0, none⟩), .pointer (some ⟨m, 0, none⟩), .agg #[.int .i64 who, .int .i64 act, .int .i64 oi, .int .i64 oj, .string ⟨s.toArray⟩, .int .u64 x, .int .u64 y, .bool ox, .bool oy]] w (PlayPost r m Z w)
  replace hwb : w.alloc (.cells #[.int .i64 who, .int .i64 act, .int .i64 oi, .int .i64 oj, .string ⟨s.toArray⟩, .int .u64 x, .int .u64 y, .bool ox, .bool oy] 52) = wb := hwb
  simp only at c1 c2 c3 c4 c5 c6 c7 c8 htx ha
  clear hin hb0 h hok
  have HS := Lib.hid (lrow_any wb r m Z l oi oj HIN.out.hf)
  rw [ha] at c1
  clear ha
  go_enter Try.func31, Try.ntmps31
  go_wp2_with (go_at_call 32; refine HS.out.mono ?_; clear HS; rintro e w1 ⟨rfl, hb1⟩
               have HE : Hid (HfTo r m Z l w w1) := Lib.hid (HfTo.before HB0.out (HfTo.same HIN.out.hf hb1))
               clear hb1)
  go_ret
  exact ⟨rfl, _, HE.out⟩
set_option maxHeartbeats 16000000 in
set_option maxRecDepth 100000 in
theorem play6 (w : World) (r m : Nat) (Z : Nat → Prop) (l : List Mb) (o : Stp) (h : Hf w r m Z l) (hok : o.Ok) (h0 : o.act ≠ 0) (h1 : o.act ≠ 1) (h2 : o.act ≠ 2) (h3 : o.act ≠ 3) (h4 : o.act ≠ 4) (h5 : o.act ≠ 5) :
    Calls Try.prog 31 #[.pointer (some ⟨r, 0, none⟩), .pointer (some ⟨m, 0, none⟩), .agg o.cells.toArray] w (PlayPost r m Z w) := by
  obtain ⟨S, v, M, hin, hb0⟩ := play_in h hok
  obtain ⟨wb, hwb⟩ : ∃ wb, w.alloc (.cells o.cells.toArray 52) = wb := ⟨_, rfl⟩
  rw [hwb] at hin hb0
  have HIN := Lib.hid hin
  have HB0 := Lib.hid hb0
  have hfb := frombits
  have htx := hok.s
  obtain ⟨⟨c1, c2, c3, c4, c5⟩, c6, c7, c8⟩ := box9 hin.box
  obtain ⟨who, act, oi, oj, s, x, y, ox, oy⟩ := o
  show Calls Try.prog 31 #[.pointer (some ⟨r, 0, none⟩), .pointer (some ⟨m, 0, none⟩), .agg #[.int .i64 who, .int .i64 act, .int .i64 oi, .int .i64 oj, .string ⟨s.toArray⟩, .int .u64 x, .int .u64 y, .bool ox, .bool oy]] w (PlayPost r m Z w)
  replace hwb : w.alloc (.cells #[.int .i64 who, .int .i64 act, .int .i64 oi, .int .i64 oj, .string ⟨s.toArray⟩, .int .u64 x, .int .u64 y, .bool ox, .bool oy] 52) = wb := hwb
  simp only at c1 c2 c3 c4 c5 c6 c7 c8 htx h0 h1 h2 h3 h4 h5
  clear hin hb0 h hok
  have k0 : (act == 0) = false := by simpa using h0
  have k1 : (act == 1) = false := by simpa using h1
  have k2 : (act == 2) = false := by simpa using h2
  have k3 : (act == 3) = false := by simpa using h3
  have k4 : (act == 4) = false := by simpa using h4
  have k5 : (act == 5) = false := by simpa using h5
  have HL1 := Lib.hid (HIN.out.rk.len)
  have HL2 := Lib.hid (rLen_any wb m v M HIN.out.rf)
  have HC1 := Lib.hid (HIN.out.rk.cost)
  have HC2 := Lib.hid (rCost_any wb m v M HIN.out.rf fun p hp => HIN.out.rk.good.text p (HIN.out.perm.mem_iff.1 hp))
  have hcs : rkCost M = rkCost l := (HIN.out.perm.map _).sum_nat
  rw [HIN.out.perm.length_eq] at HL2
  rw [hcs] at HC2
  obtain ⟨cc, hcc⟩ : ∃ c, rkCost l = c := ⟨_, rfl⟩
  obtain ⟨n, hn⟩ : ∃ n, l.length = n := ⟨_, rfl⟩
  rw [hcc] at HC1 HC2
  rw [hn] at HL1 HL2
  clear h0 h1 h2 h3 h4 h5 hcs hcc hn
  go_enter Try.func31, Try.ntmps31
  go_wp2_with (first
    | (go_at_call 13; refine HL1.out.mono ?_; clear HL1; rintro e w1 ⟨rfl, rfl⟩)
    | (go_at_call 50; refine HL2.out.mono ?_; clear HL2; rintro e w1 ⟨rfl, rfl⟩)
    | (go_at_call 17; refine HC1.out.mono ?_; clear HC1; rintro e w1 ⟨rfl, rfl⟩)
    | (go_at_call 51; refine HC2.out.mono ?_; clear HC2; rintro e w1 ⟨z, rfl, rfl, hb1⟩
       have HE : Hid (HfTo r m Z l w w1) := Lib.hid (HfTo.before HB0.out (HfTo.same HIN.out.hf hb1))
       clear hb1))
  go_ret
  exact ⟨by simp, _, HE.out⟩
end Go.Proofs.Ytbjfigegiffefaa
