/- Trim: the walk. -/
import Derived.Test.YtefoieloakfhfaaTrim
namespace Go.Proofs.Ytefoieloakfhfaa
open Go.RowKit Pantry

set_option maxHeartbeats 4000000 in
set_option maxRecDepth 100000 in
theorem trim_any (w : World) (d : Nat) (v : Value) (gs : List Nat) (cs : List (List Txt)) (F T : Int) (h : DeqAt w d v gs cs) (hf : Fits cs) :
    Calls Try.prog 19 #[.pointer (some ⟨d, 0, none⟩), .int .i64 F, .int .i64 T] w (DeqPost d v gs (trimC F T cs) (.tuple #[]) w) := by
  obtain ⟨⟨d0, d1, -⟩, -⟩ := three h.head
  obtain ⟨a0, c0, hv, -⟩ := ownsRow_rd h.row (ptr_one gs)
  have HD := Lib.hid h
  have HF := Lib.hid hf
  have HW := Lib.hid (winOf_le F T (total cs))
  have htot := hf.total
  have hrl := hf.rows
  obtain ⟨f, hf1⟩ : ∃ f, (winOf F T (total cs)).1 = f := ⟨_, rfl⟩
  obtain ⟨t, ht1⟩ : ∃ t, (winOf F T (total cs)).2 = t := ⟨_, rfl⟩
  have HC : Hid (trimC F T cs = full (trimAt f t 0 cs)) := Lib.hid (by unfold trimC; rw [hf1, ht1])
  have hft := HW.out.1
  have htn := HW.out.2
  rw [hf1, ht1] at hft
  rw [ht1] at htn
  have hcase : (min T (total cs : Int) ≤ max F 0 ∧ f = 0 ∧ t = 0) ∨ (¬ min T (total cs : Int) ≤ max F 0 ∧ max F 0 = (f : Int) ∧ min T (total cs : Int) = (t : Int)) := by
    unfold winOf at hf1 ht1
    split at hf1
    · rename_i hh
      rw [if_pos hh] at ht1
      exact .inl ⟨hh, hf1.symm, ht1.symm⟩
    · rename_i hh
      rw [if_neg hh] at ht1
      simp only at hf1 ht1
      exact .inr ⟨hh, by omega, by omega⟩
  obtain ⟨N, hN⟩ : ∃ N, total cs = N := ⟨_, rfl⟩
  obtain ⟨m, hm⟩ : ∃ m, cs.length = m := ⟨_, rfl⟩
  have HN := Lib.hid hN
  have HM := Lib.hid hm
  rw [hN] at d1 htot htn hcase
  rw [hm] at hv hrl
  have HV0 := Lib.hid hv
  rw [hv] at d0
  clear h hf hf1 ht1 hN hm hv HW
  rcases hcase with ⟨hcond, hf0, ht0⟩ | ⟨hcond, hm1, hm2⟩
  have HF0 := Lib.hid hf0
  have HT0 := Lib.hid ht0
  clear hf0 ht0
  all_goals
    go_enter Try.func19, Try.ntmps19
    go_wp2_with fail
    go_region
  all_goals
    go_wp2_with fail
    try simp only [hm1, hm2]
    try simp only [show decide (t ≤ f) = false by rw [decide_eq_false_iff_not]; omega]
    try clear hm1 hm2
    go_loopw [6, 30] (fun x y wr => ∃ k a : Nat, k ≤ m ∧ x = .int .i64 a ∧ y = .int .i64 k ∧ Hid (a = total (cs.take k)) ∧ ∃ cur, Hid (TrimInv d v gs cs f t k w wr cur)) (fun _ y _ => m - (intOf y).toNat)
    case atStart =>
      exact ⟨0, 0, Nat.zero_le _, rfl, rfl, Lib.hid (by simp [total]), cs, Lib.hid ⟨HD.out.chg (S := fun _ => False) ((Chg.refl _ _).drew) (fun _ _ e => e), HF.out, rfl, by simp [trimAt], rfl, (Chg.refl _ _).drew⟩⟩
    case round =>
      obtain ⟨k, a, hk, rfl, rfl, HA, cur, HV⟩ := hrel
      by_cases hlt : k < m
      · obtain ⟨c, hc⟩ : ∃ c, cs[k]? = some c := ⟨_, List.getElem?_eq_getElem (by rw [HM.out]; exact hlt)⟩
        have hcc := HV.out.at hc
        obtain ⟨g, sb, cap, -, hv', -, -, hcell, hch⟩ := HV.out.deq.at hcc
        have hc32 := HV.out.fits.chunk c (List.mem_of_getElem? hcc)
        have hn := hch.n hc32
        rw [HV.out.len, HM.out, HV0.out] at hv'
        cases hv'
        obtain ⟨n, hnn⟩ : ∃ n, c.length = n := ⟨_, rfl⟩
        obtain ⟨x, hx⟩ : ∃ x : Nat, x = f - a := ⟨_, rfl⟩
        obtain ⟨y, hy⟩ : ∃ y : Nat, y = t - a := ⟨_, rfl⟩
        obtain ⟨lo, hlo⟩ : ∃ lo : Nat, lo = min x n := ⟨_, rfl⟩
        obtain ⟨hi, hhi⟩ : ∃ hi : Nat, hi = min y n := ⟨_, rfl⟩
        have haN : a + n ≤ N := by
          have h1 := total_take hc
          have h2 := total_take_le cs (k + 1)
          have h3 := HA.out
          have h4 := HN.out
          omega
        have HA2 := Lib.hid (show a + n = total (cs.take (k + 1)) by rw [total_take hc, ← HA.out, hnn])
        have HCUT := Lib.hid (show (c.take hi).drop lo = cutC f t (total (cs.take k)) c by rw [← HA.out]; unfold cutC; rw [hnn, ← hx, ← hy, ← hlo, ← hhi])
        have HSTEP := Lib.hid (fun w2 hd hcg => HV.out.step (w2 := w2) hc hd hcg)
        have hx1 : max ((f : Int) - (a : Int)) 0 = (x : Int) := by omega
        have hy1 : max ((t : Int) - (a : Int)) 0 = (y : Int) := by omega
        have hlo1 : min (x : Int) (n : Int) = (lo : Int) := by omega
        have hhi1 : min (y : Int) (n : Int) = (hi : Int) := by omega
        have hw1 : IntKind.i64.wrap ((f : Int) - (a : Int)) = (f : Int) - (a : Int) := by rw [IntKind.wrap_i64]; omega
        have hw2 : IntKind.i64.wrap ((t : Int) - (a : Int)) = (t : Int) - (a : Int) := by rw [IntKind.wrap_i64]; omega
        have hhn : hi ≤ n := by omega
        rw [← HCUT.out] at HSTEP
        by_cases hlh : hi ≤ lo
        · have HT := Lib.hid (two_takes (lo := 0) (hi := 0) HV.out.deq HV.out.fits hcc (Nat.le_refl _) (Nat.zero_le _))
          have he : (c.take hi).drop lo = (c.take 0).drop 0 := by
            rw [List.drop_eq_nil_of_le (by rw [List.length_take]; omega)]; simp
          rw [he] at HSTEP
          rw [hnn] at HT hn
          have hge : (hi : Int) ≤ (lo : Int) := by omega
          clear hc hcc hch hnn hx hy hlo hhi he
          try simp only [HF0.out, HT0.out, Int.cast_ofNat_Int] at hx1 hy1 hw1 hw2
          go_wp2_with fail
          refine HT.out.1.mono ?_
          rintro e w1 ⟨rfl, hd1, hc1⟩
          have HT2 := Lib.hid (HT.out.2 w1 hd1 hc1)
          clear hd1 hc1
          go_wp2_with fail
          refine HT2.out.mono ?_
          rintro e w2 ⟨rfl, hd2, hc2⟩
          have HN2 := Lib.hid (HSTEP.out w2 hd2 hc2)
          clear hd2 hc2
          go_wp2_with fail
          go_roundw
          case rel => exact ⟨k + 1, a + n, by omega, by go_num, by go_num, HA2, _, HN2⟩
          case measure => simp [intOf]; omega
        · try (exfalso; have h01 := HT0.out; have h02 := HF0.out; omega)
          all_goals
            have HT := Lib.hid (two_takes (lo := lo) (hi := hi) HV.out.deq HV.out.fits hcc (by omega) (by rw [hnn]; exact hhn))
            rw [hnn] at HT hn
            have hge : ¬ (hi : Int) ≤ (lo : Int) := by omega
            clear hc hcc hch hnn hx hy hlo hhi
            try simp only [HF0.out, HT0.out, Int.cast_ofNat_Int] at hx1 hy1 hw1 hw2
            go_wp2_with fail
            refine HT.out.1.mono ?_
            rintro e w1 ⟨rfl, hd1, hc1⟩
            have HT2 := Lib.hid (HT.out.2 w1 hd1 hc1)
            clear hd1 hc1
            go_wp2_with fail
            refine HT2.out.mono ?_
            rintro e w2 ⟨rfl, hd2, hc2⟩
            have HN2 := Lib.hid (HSTEP.out w2 hd2 hc2)
            clear hd2 hc2
            go_wp2_with fail
            go_roundw
            case rel => exact ⟨k + 1, a + n, by omega, by go_num, by go_num, HA2, _, HN2⟩
            case measure => simp [intOf]; omega
      · obtain rfl : k = m := by omega
        have HS := Lib.hid (sweep_any wr d v gs cur HV.out.deq HV.out.fits)
        have HEND := Lib.hid (fun (e : Ending) (w' : World) (hp : DeqPost d v gs (full cur) (.tuple #[]) wr e w') => show DeqPost d v gs (trimC F T cs) (.tuple #[]) w e w' from by
          obtain ⟨v', gs', he, r1, r2, r3⟩ := hp
          have e1 : cur = trimAt f t 0 cs := by
            have h1 := HV.out.done
            rw [List.take_of_length_le (by rw [HV.out.len, HM.out]; exact Nat.le_refl _), List.take_of_length_le (by rw [HM.out]; exact Nat.le_refl _)] at h1
            exact h1
          refine ⟨v', gs', he, by rw [HC.out, ← e1]; exact r1, HV.out.chg.trans r2 fun j _ e => e, fun j hj => ?_⟩
          rcases r3 j hj with e | e
          · exact .inl e
          · exact .inr (Nat.le_trans HV.out.chg.size e))
        go_wp2_with fail
        refine HS.out.mono ?_
        rintro e w2 ⟨v', gs', rfl, r1, r2, r3⟩
        have HP := Lib.hid (HEND.out _ w2 ⟨v', gs', rfl, r1, r2, r3⟩)
        clear r1 r2 r3
        go_wp2_with fail
        go_end0
        exact HP.out
end Go.Proofs.Ytefoieloakfhfaa
