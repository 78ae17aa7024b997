/- A step of the law's script: Set. -/
import Derived.Test.YtbjfigegiffefaaZRfJ
set_option linter.unusedVariables false
set_option linter.unusedSimpArgs false
namespace Go.Proofs.Ytbjfigegiffefaa
open Go.RowKit Pantry

set_option maxHeartbeats 16000000 in
set_option maxRecDepth 100000 in
theorem play0 (w : World) (r m : Nat) (Z : Nat → Prop) (l : List Mb) (o : Stp) (h : Hf w r m Z l) (hok : o.Ok) (ha : o.act = 0) :
    Calls Try.prog 31 #[.pointer (some ⟨r, 0, none⟩), .pointer (some ⟨m, 0, none⟩), .agg o.cells.toArray] w (PlayPost r m Z w) := by
  obtain ⟨S, v, M, hin, hb0⟩ := play_in h hok
  obtain ⟨wb, hwb⟩ : ∃ wb, w.alloc (.cells o.cells.toArray 52) = wb := ⟨_, rfl⟩
  rw [hwb] at hin hb0
  have HIN := Lib.hid hin
  have HB0 := Lib.hid hb0
  have hfb := frombits
  have htx := hok.s
  obtain ⟨⟨c1, c2, c3, c4, c5⟩, c6, c7, c8⟩ := box9 hin.box
  obtain ⟨who, act, oi, oj, s, x, y, ox, oy⟩ := o
  show Calls Try.prog 31 #[.pointer (some ⟨r, 0, none⟩), .pointer (some ⟨m, 0, none⟩), .agg #[.int .i64 who, .int .i64 act, .int .i64 oi, .int .i64 oj, .string ⟨s.toArray⟩, .int .u64 x, .int .u64 y, .bool ox, .bool oy]] w (PlayPost r m Z w)
  replace hwb : w.alloc (.cells #[.int .i64 who, .int .i64 act, .int .i64 oi, .int .i64 oj, .string ⟨s.toArray⟩, .int .u64 x, .int .u64 y, .bool ox, .bool oy] 52) = wb := hwb
  simp only at c1 c2 c3 c4 c5 c6 c7 c8 htx ha
  clear hin hb0 h hok
  have HS := Lib.hid (rSet_any wb.drew m v M s x (HIN.out.rf.chg (w' := wb.drew) (T := fun _ => False) (Chg.refl _ wb).drew (fun e => e) fun _ _ e => e) HIN.out.num)
  rw [ha] at c1
  clear ha
  go_enter Try.func31, Try.ntmps31
  go_wp2_with fail
  go_region_with (go_at_call 45; refine HS.out.mono ?_; clear HS; rintro e w1 ⟨M', new, code, hsm, rfl, hto⟩
                  have HSM := Lib.hid hsm
                  have HTO := Lib.hid hto.undrew
                  obtain ⟨hrk1, hbx1⟩ := HIN.out.apartM hto.undrew
                  obtain ⟨⟨d1, d2, d3, d4, d5⟩, d6, d7, d8⟩ := box9 hbx1
                  have HRS := Lib.hid ((hrk1.chg (w' := w1.drew) (T := fun _ => False) (Chg.refl _ w1).drew fun _ _ e => e).set s x htx)
                  clear hsm hto hrk1 hbx1)
  all_goals
    clear c1 c2 c3 c4 c5 c6 c7 c8
    go_wp2_with fail
    go_region_with (go_at_call 19; refine HRS.out.mono ?_; clear HRS; rintro e w2 ⟨l', new2, code2, hsc, rfl, hto2⟩
                    obtain ⟨rfl, rfl, hpm⟩ := set_agree HSM.out hsc HIN.out.perm HIN.out.rk.keys
                    have HE : Hid (HfTo r m Z l' w w2) := Lib.hid (HfTo.before HB0.out (Hf.both HIN.out.rk HIN.out.rf HIN.out.apart HIN.out.foot HTO.out hto2.undrew hpm))
                    clear hsc hto2 hpm)
    all_goals
      go_wp2_with fail
      go_ret
      exact ⟨by simp, l', HE.out⟩
end Go.Proofs.Ytbjfigegiffefaa
