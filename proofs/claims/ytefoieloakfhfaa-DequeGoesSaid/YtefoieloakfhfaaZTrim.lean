/- Trim. -/
import Derived.Test.YtefoieloakfhfaaZChunks
import Derived.Lib.MinMax
namespace Pantry
open Go Go.RowKit
theorem Fits.shrink {cs : List (List Txt)} {k : Nat} {c c' : List Txt} (h : Fits cs) (hk : cs[k]? = some c) (hl : c'.length ≤ c.length) (hm : ∀ x ∈ c', x ∈ c) : Fits (cs.set k c') := by
  have hc := List.mem_of_getElem? hk
  refine ⟨?_, ?_, ?_, by rw [List.length_set]; exact h.rows⟩
  · intro x hx
    rcases List.mem_or_eq_of_mem_set hx with hx | rfl
    · exact h.chunk x hx
    · exact Nat.le_trans hl (h.chunk c hc)
  · intro x hx y hy
    rcases List.mem_or_eq_of_mem_set hx with hx | rfl
    · exact h.text x hx y hy
    · exact h.text c hc y (hm y hy)
  · have := total_set (c' := c') hk
    have := h.total
    omega
def cutC (f t a : Nat) (c : List Txt) : List Txt := (c.take (min (t - a) c.length)).drop (min (f - a) c.length)
def trimAt (f t : Nat) : Nat → List (List Txt) → List (List Txt)
  | _, [] => []
  | a, c :: cs => cutC f t a c :: trimAt f t (a + c.length) cs
theorem trimAt_snoc (f t a : Nat) (l : List (List Txt)) (c : List Txt) : trimAt f t a (l ++ [c]) = trimAt f t a l ++ [cutC f t (a + total l) c] := by
  induction l generalizing a with
  | nil => simp [trimAt, total]
  | cons x l ih =>
    have : a + x.length + total l = a + total (x :: l) := by simp [total]; omega
    simp only [List.cons_append, trimAt, ih, this]
def winOf (F T : Int) (n : Nat) : Nat × Nat := if min T (n : Int) ≤ max F 0 then (0, 0) else ((max F 0).toNat, (min T (n : Int)).toNat)
theorem winOf_le (F T : Int) (n : Nat) : (winOf F T n).1 ≤ (winOf F T n).2 ∧ (winOf F T n).2 ≤ n := by
  unfold winOf
  split
  · simp
  · simp only; omega
def trimC (F T : Int) (cs : List (List Txt)) : List (List Txt) := full (trimAt (winOf F T (total cs)).1 (winOf F T (total cs)).2 0 cs)
theorem total_take {cs : List (List Txt)} {k : Nat} {c : List Txt} (h : cs[k]? = some c) : total (cs.take (k + 1)) = total (cs.take k) + c.length := by
  rw [List.take_add_one, h]; simp [total]
theorem total_take_le (cs : List (List Txt)) (k : Nat) : total (cs.take k) ≤ total cs := by
  have h : total (cs.take k ++ cs.drop k) = total cs := by rw [List.take_append_drop]
  have e : ∀ a b : List (List Txt), total (a ++ b) = total a + total b := fun a b => by simp [total]
  rw [e] at h
  omega
end Pantry
namespace Go.Proofs.Ytefoieloakfhfaa
open Go.RowKit Pantry

/-- The deque within the loop: k chunks are cut. -/
structure TrimInv (d : Nat) (v : Value) (gs : List Nat) (cs : List (List Txt)) (f t k : Nat) (w wr : World) (cur : List (List Txt)) : Prop where
  deq : DeqAt wr d v gs cur
  fits : Fits cur
  len : cur.length = cs.length
  done : cur.take k = trimAt f t 0 (cs.take k)
  rest : cur.drop k = cs.drop k
  chg : Chg (Foot d v gs) w wr

theorem TrimInv.step {d : Nat} {v : Value} {gs : List Nat} {cs : List (List Txt)} {f t k : Nat} {w wr w2 : World} {cur : List (List Txt)} (h : TrimInv d v gs cs f t k w wr cur) {c : List Txt} (hk : cs[k]? = some c)
    (hd : DeqAt w2 d v gs (cur.set k (cutC f t (total (cs.take k)) c))) (hc : Chg (Foot d v gs) wr w2) : TrimInv d v gs cs f t (k + 1) w w2 (cur.set k (cutC f t (total (cs.take k)) c)) := by
  have hkl := (List.getElem?_eq_some_iff.1 hk).1
  have hkc : cur[k]? = some c := by
    have e : (cur.drop k)[0]? = (cs.drop k)[0]? := by rw [h.rest]
    simpa [List.getElem?_drop, hk] using e
  refine ⟨hd, h.fits.shrink hkc ?_ ?_, by rw [List.length_set]; exact h.len, ?_, ?_, h.chg.trans hc fun j _ e => e⟩
  · simp [cutC]; omega
  · intro x hx
    exact List.mem_of_mem_take (List.mem_of_mem_drop hx)
  · rw [List.take_add_one, List.getElem?_set_self (by rw [h.len]; exact hkl), List.take_set_of_le (Nat.le_refl _), h.done, List.take_add_one, hk]
    simp only [Option.toList_some]
    rw [trimAt_snoc, Nat.zero_add]
  · rw [List.drop_set_of_lt (by omega)]
    have e : (cur.drop k).drop 1 = (cs.drop k).drop 1 := by rw [h.rest]
    rw [List.drop_drop, List.drop_drop] at e
    exact e
theorem TrimInv.at {d : Nat} {v : Value} {gs : List Nat} {cs : List (List Txt)} {f t k : Nat} {w wr : World} {cur : List (List Txt)} (h : TrimInv d v gs cs f t k w wr cur) {c : List Txt} (hk : cs[k]? = some c) : cur[k]? = some c := by
  have e : (cur.drop k)[0]? = (cs.drop k)[0]? := by rw [h.rest]
  simpa [List.getElem?_drop, hk] using e
/-- The two takes of one round. -/
theorem two_takes {d : Nat} {v : Value} {gs : List Nat} {cur : List (List Txt)} {wr : World} {k lo hi : Nat} {c : List Txt} (hd : DeqAt wr d v gs cur) (hf : Fits cur) (hk : cur[k]? = some c) (h1 : lo ≤ hi) (h2 : hi ≤ c.length) :
    Calls Try.prog 38 #[.pointer (some ⟨d, 0, none⟩), .int .i64 k, .int .i64 hi, .int .i64 c.length] wr (StayPost d v gs (cur.set k (c.take hi)) (.tuple #[]) wr) ∧
    ∀ w1, DeqAt w1 d v gs (cur.set k (c.take hi)) → Chg (Foot d v gs) wr w1 → Calls Try.prog 38 #[.pointer (some ⟨d, 0, none⟩), .int .i64 k, .int .i64 0, .int .i64 lo] w1 fun e w2 => e = .returned (.tuple #[]) ∧ DeqAt w2 d v gs (cur.set k ((c.take hi).drop lo)) ∧ Chg (Foot d v gs) wr w2 := by
  have hkl := (List.getElem?_eq_some_iff.1 hk).1
  refine ⟨?_, fun w1 hd1 hc1 => ?_⟩
  · have h := take_any wr d v gs cur k hi c.length c hd hf hk h2 (Nat.le_refl _)
    rw [List.drop_length, List.append_nil] at h
    exact h
  · have h := take_any w1 d v gs (cur.set k (c.take hi)) k 0 lo (c.take hi) hd1 (hf.shrink hk (by simp; omega) fun x hx => List.mem_of_mem_take hx) (List.getElem?_set_self hkl) (Nat.zero_le _) (by simp; omega)
    rw [List.set_set, List.take_zero, List.nil_append] at h
    refine Calls.mono h ?_
    rintro e w2 ⟨rfl, a, b⟩
    exact ⟨rfl, a, hc1.trans b fun j _ e => e⟩
end Go.Proofs.Ytefoieloakfhfaa

/- Trim: the walk. -/
namespace Go.Proofs.Ytefoieloakfhfaa
open Go.RowKit Pantry

set_option maxHeartbeats 4000000 in
set_option maxRecDepth 100000 in
theorem trim_any (w : World) (d : Nat) (v : Value) (gs : List Nat) (cs : List (List Txt)) (F T : Int) (h : DeqAt w d v gs cs) (hf : Fits cs) :
    Calls Try.prog 19 #[.pointer (some ⟨d, 0, none⟩), .int .i64 F, .int .i64 T] w (DeqPost d v gs (trimC F T cs) (.tuple #[]) w) := by
  obtain ⟨⟨d0, d1, -⟩, -⟩ := three h.head
  obtain ⟨a0, c0, hv, -⟩ := ownsRow_rd h.row (ptr_one gs)
  have HD := Lib.hid h
  have HF := Lib.hid hf
  have HW := Lib.hid (winOf_le F T (total cs))
  have htot := hf.total
  have hrl := hf.rows
  obtain ⟨f, hf1⟩ : ∃ f, (winOf F T (total cs)).1 = f := ⟨_, rfl⟩
  obtain ⟨t, ht1⟩ : ∃ t, (winOf F T (total cs)).2 = t := ⟨_, rfl⟩
  have HC : Hid (trimC F T cs = full (trimAt f t 0 cs)) := Lib.hid (by unfold trimC; rw [hf1, ht1])
  have hft := HW.out.1
  have htn := HW.out.2
  rw [hf1, ht1] at hft
  rw [ht1] at htn
  have hcase : (min T (total cs : Int) ≤ max F 0 ∧ f = 0 ∧ t = 0) ∨ (¬ min T (total cs : Int) ≤ max F 0 ∧ max F 0 = (f : Int) ∧ min T (total cs : Int) = (t : Int)) := by
    unfold winOf at hf1 ht1
    split at hf1
    · rename_i hh
      rw [if_pos hh] at ht1
      exact .inl ⟨hh, hf1.symm, ht1.symm⟩
    · rename_i hh
      rw [if_neg hh] at ht1
      simp only at hf1 ht1
      exact .inr ⟨hh, by omega, by omega⟩
  obtain ⟨N, hN⟩ : ∃ N, total cs = N := ⟨_, rfl⟩
  obtain ⟨m, hm⟩ : ∃ m, cs.length = m := ⟨_, rfl⟩
  have HN := Lib.hid hN
  have HM := Lib.hid hm
  rw [hN] at d1 htot htn hcase
  rw [hm] at hv hrl
  have HV0 := Lib.hid hv
  rw [hv] at d0
  clear h hf hf1 ht1 hN hm hv HW
  rcases hcase with ⟨hcond, hf0, ht0⟩ | ⟨hcond, hm1, hm2⟩
  have HF0 := Lib.hid hf0
  have HT0 := Lib.hid ht0
  clear hf0 ht0
  all_goals
    go_enter Try.func19, Try.ntmps19
    go_wp2_with fail
    go_region
  all_goals
    go_wp2_with fail
    try simp only [hm1, hm2]
    try simp only [show decide (t ≤ f) = false by rw [decide_eq_false_iff_not]; omega]
    try clear hm1 hm2
    go_loopw [6, 30] (fun x y wr => ∃ k a : Nat, k ≤ m ∧ x = .int .i64 a ∧ y = .int .i64 k ∧ Hid (a = total (cs.take k)) ∧ ∃ cur, Hid (TrimInv d v gs cs f t k w wr cur)) (fun _ y _ => m - (intOf y).toNat)
    case atStart =>
      exact ⟨0, 0, Nat.zero_le _, rfl, rfl, Lib.hid (by simp [total]), cs, Lib.hid ⟨HD.out.chg (S := fun _ => False) ((Chg.refl _ _).drew) (fun _ _ e => e), HF.out, rfl, by simp [trimAt], rfl, (Chg.refl _ _).drew⟩⟩
    case round =>
      obtain ⟨k, a, hk, rfl, rfl, HA, cur, HV⟩ := hrel
      by_cases hlt : k < m
      · obtain ⟨c, hc⟩ : ∃ c, cs[k]? = some c := ⟨_, List.getElem?_eq_getElem (by rw [HM.out]; exact hlt)⟩
        have hcc := HV.out.at hc
        obtain ⟨g, sb, cap, -, hv', -, -, hcell, hch⟩ := HV.out.deq.at hcc
        have hc32 := HV.out.fits.chunk c (List.mem_of_getElem? hcc)
        have hn := hch.n hc32
        rw [HV.out.len, HM.out, HV0.out] at hv'
        cases hv'
        obtain ⟨n, hnn⟩ : ∃ n, c.length = n := ⟨_, rfl⟩
        obtain ⟨x, hx⟩ : ∃ x : Nat, x = f - a := ⟨_, rfl⟩
        obtain ⟨y, hy⟩ : ∃ y : Nat, y = t - a := ⟨_, rfl⟩
        obtain ⟨lo, hlo⟩ : ∃ lo : Nat, lo = min x n := ⟨_, rfl⟩
        obtain ⟨hi, hhi⟩ : ∃ hi : Nat, hi = min y n := ⟨_, rfl⟩
        have haN : a + n ≤ N := by
          have h1 := total_take hc
          have h2 := total_take_le cs (k + 1)
          have h3 := HA.out
          have h4 := HN.out
          omega
        have HA2 := Lib.hid (show a + n = total (cs.take (k + 1)) by rw [total_take hc, ← HA.out, hnn])
        have HCUT := Lib.hid (show (c.take hi).drop lo = cutC f t (total (cs.take k)) c by rw [← HA.out]; unfold cutC; rw [hnn, ← hx, ← hy, ← hlo, ← hhi])
        have HSTEP := Lib.hid (fun w2 hd hcg => HV.out.step (w2 := w2) hc hd hcg)
        have hx1 : max ((f : Int) - (a : Int)) 0 = (x : Int) := by omega
        have hy1 : max ((t : Int) - (a : Int)) 0 = (y : Int) := by omega
        have hlo1 : min (x : Int) (n : Int) = (lo : Int) := by omega
        have hhi1 : min (y : Int) (n : Int) = (hi : Int) := by omega
        have hw1 : IntKind.i64.wrap ((f : Int) - (a : Int)) = (f : Int) - (a : Int) := by rw [IntKind.wrap_i64]; omega
        have hw2 : IntKind.i64.wrap ((t : Int) - (a : Int)) = (t : Int) - (a : Int) := by rw [IntKind.wrap_i64]; omega
        have hhn : hi ≤ n := by omega
        rw [← HCUT.out] at HSTEP
        by_cases hlh : hi ≤ lo
        · have HT := Lib.hid (two_takes (lo := 0) (hi := 0) HV.out.deq HV.out.fits hcc (Nat.le_refl _) (Nat.zero_le _))
          have he : (c.take hi).drop lo = (c.take 0).drop 0 := by
            rw [List.drop_eq_nil_of_le (by rw [List.length_take]; omega)]; simp
          rw [he] at HSTEP
          rw [hnn] at HT hn
          have hge : (hi : Int) ≤ (lo : Int) := by omega
          clear hc hcc hch hnn hx hy hlo hhi he
          try simp only [HF0.out, HT0.out, Int.cast_ofNat_Int] at hx1 hy1 hw1 hw2
          go_wp2_with fail
          refine HT.out.1.mono ?_
          rintro e w1 ⟨rfl, hd1, hc1⟩
          have HT2 := Lib.hid (HT.out.2 w1 hd1 hc1)
          clear hd1 hc1
          go_wp2_with fail
          refine HT2.out.mono ?_
          rintro e w2 ⟨rfl, hd2, hc2⟩
          have HN2 := Lib.hid (HSTEP.out w2 hd2 hc2)
          clear hd2 hc2
          go_wp2_with fail
          go_roundw
          case rel => exact ⟨k + 1, a + n, by omega, by go_num, by go_num, HA2, _, HN2⟩
          case measure => simp [intOf]; omega
        · try (exfalso; have h01 := HT0.out; have h02 := HF0.out; omega)
          all_goals
            have HT := Lib.hid (two_takes (lo := lo) (hi := hi) HV.out.deq HV.out.fits hcc (by omega) (by rw [hnn]; exact hhn))
            rw [hnn] at HT hn
            have hge : ¬ (hi : Int) ≤ (lo : Int) := by omega
            clear hc hcc hch hnn hx hy hlo hhi
            try simp only [HF0.out, HT0.out, Int.cast_ofNat_Int] at hx1 hy1 hw1 hw2
            go_wp2_with fail
            refine HT.out.1.mono ?_
            rintro e w1 ⟨rfl, hd1, hc1⟩
            have HT2 := Lib.hid (HT.out.2 w1 hd1 hc1)
            clear hd1 hc1
            go_wp2_with fail
            refine HT2.out.mono ?_
            rintro e w2 ⟨rfl, hd2, hc2⟩
            have HN2 := Lib.hid (HSTEP.out w2 hd2 hc2)
            clear hd2 hc2
            go_wp2_with fail
            go_roundw
            case rel => exact ⟨k + 1, a + n, by omega, by go_num, by go_num, HA2, _, HN2⟩
            case measure => simp [intOf]; omega
      · obtain rfl : k = m := by omega
        have HS := Lib.hid (sweep_any wr d v gs cur HV.out.deq HV.out.fits)
        have HEND := Lib.hid (fun (e : Ending) (w' : World) (hp : DeqPost d v gs (full cur) (.tuple #[]) wr e w') => show DeqPost d v gs (trimC F T cs) (.tuple #[]) w e w' from by
          obtain ⟨v', gs', he, r1, r2, r3⟩ := hp
          have e1 : cur = trimAt f t 0 cs := by
            have h1 := HV.out.done
            rw [List.take_of_length_le (by rw [HV.out.len, HM.out]; exact Nat.le_refl _), List.take_of_length_le (by rw [HM.out]; exact Nat.le_refl _)] at h1
            exact h1
          refine ⟨v', gs', he, by rw [HC.out, ← e1]; exact r1, HV.out.chg.trans r2 fun j _ e => e, fun j hj => ?_⟩
          rcases r3 j hj with e | e
          · exact .inl e
          · exact .inr (Nat.le_trans HV.out.chg.size e))
        go_wp2_with fail
        refine HS.out.mono ?_
        rintro e w2 ⟨v', gs', rfl, r1, r2, r3⟩
        have HP := Lib.hid (HEND.out _ w2 ⟨v', gs', rfl, r1, r2, r3⟩)
        clear r1 r2 r3
        go_wp2_with fail
        go_end0
        exact HP.out
end Go.Proofs.Ytefoieloakfhfaa

/- Trim: the plain law. -/
namespace Pantry
open Go Go.RowKit
theorem full_flatten (cs : List (List Txt)) : (full cs).flatten = cs.flatten := by
  induction cs with
  | nil => rfl
  | cons c cs ih =>
    rw [full_cons]
    split
    · rename_i h
      have : c = [] := by simpa using h
      subst this
      simpa using ih
    · simp only [List.flatten_cons, ih]
theorem cutC_eq (f t a : Nat) (c : List Txt) : cutC f t a c = (c.take (t - a)).drop (f - a) := by
  unfold cutC
  have e : c.take (min (t - a) c.length) = c.take (t - a) := by
    by_cases h : t - a ≤ c.length
    · rw [Nat.min_eq_left h]
    · rw [Nat.min_eq_right (by omega), List.take_of_length_le (Nat.le_refl _), List.take_of_length_le (by omega)]
  rw [e]
  by_cases h : f - a ≤ c.length
  · rw [Nat.min_eq_left h]
  · rw [Nat.min_eq_right (by omega), List.drop_eq_nil_of_le (by rw [List.length_take]; omega), List.drop_eq_nil_of_le (by rw [List.length_take]; omega)]
theorem trimAt_flatten (f t a : Nat) (cs : List (List Txt)) : (trimAt f t a cs).flatten = (cs.flatten.take (t - a)).drop (f - a) := by
  induction cs generalizing a with
  | nil => simp [trimAt]
  | cons c cs ih =>
    simp only [trimAt, List.flatten_cons, ih, cutC_eq]
    rw [List.take_append, List.drop_append, List.length_take]
    congr 1
    rw [show t - (a + c.length) = t - a - c.length by omega]
    by_cases h : c.length ≤ t - a
    · rw [Nat.min_eq_right h]
      congr 1; omega
    · rw [show t - a - c.length = 0 by omega]
      simp
theorem trimC_row (F T : Int) (cs : List (List Txt)) : (trimC F T cs).flatten = (cs.flatten.take (winOf F T (total cs)).2).drop (winOf F T (total cs)).1 := by
  unfold trimC
  rw [full_flatten, trimAt_flatten, Nat.sub_zero, Nat.sub_zero]
theorem trimAt_length (f t a : Nat) (cs : List (List Txt)) : (trimAt f t a cs).length = cs.length := by
  induction cs generalizing a with
  | nil => rfl
  | cons c cs ih => simp [trimAt, ih]
theorem trimAt_mem {f t a : Nat} {cs : List (List Txt)} {c' : List Txt} (h : c' ∈ trimAt f t a cs) : ∃ c ∈ cs, c'.length ≤ c.length ∧ ∀ x ∈ c', x ∈ c := by
  induction cs generalizing a with
  | nil => simp [trimAt] at h
  | cons c cs ih =>
    simp only [trimAt, List.mem_cons] at h
    rcases h with rfl | h
    · refine ⟨c, by simp, by rw [cutC_eq]; simp; omega, fun x hx => ?_⟩
      rw [cutC_eq] at hx
      exact List.mem_of_mem_take (List.mem_of_mem_drop hx)
    · obtain ⟨c0, h1, h2⟩ := ih h
      exact ⟨c0, by simp [h1], h2⟩
theorem DGood.trim {cs : List (List Txt)} (h : DGood cs) (F T : Int) : DGood (trimC F T cs) ∧ total (trimC F T cs) ≤ total cs := by
  have htot : total (trimC F T cs) ≤ total cs := by
    rw [← flatten_length, trimC_row, ← flatten_length cs]
    rw [List.length_drop, List.length_take]
    omega
  refine ⟨⟨⟨?_, ?_, Nat.le_trans htot h.total, ?_⟩, fun c hc => (full_mem hc).2⟩, htot⟩
  · intro c hc
    obtain ⟨c0, h1, h2, -⟩ := trimAt_mem (full_mem hc).1
    exact Nat.le_trans h2 (h.chunk c0 h1)
  · intro c hc x hx
    obtain ⟨c0, h1, -, h3⟩ := trimAt_mem (full_mem hc).1
    exact h.text c0 h1 x (h3 x hx)
  · have h1 : (trimC F T cs).length ≤ (trimAt (winOf F T (total cs)).1 (winOf F T (total cs)).2 0 cs).length := List.length_filter_le _ _
    rw [trimAt_length] at h1
    exact Nat.le_trans h1 h.rows
end Pantry
namespace Go.Proofs.Ytefoieloakfhfaa
open Go.RowKit Pantry

theorem trim_nil (w : World) (F T : Int) : Calls Try.prog 19 #[.pointer none, .int .i64 F, .int .i64 T] w fun e w' => e = .returned (.tuple #[]) ∧ w = w' := by
  go_enter Try.func19, Try.ntmps19
  go_wp2_with fail
  (try simp only [Exit.inBlock, Exit.then]); refine bodyPost_ret (results_none rfl _ _ _) rfl ?_
  exact ⟨rfl, rfl⟩
end Go.Proofs.Ytefoieloakfhfaa

/- Set where nothing is set; Copy of no deque. -/
namespace Go.Proofs.Ytefoieloakfhfaa
open Go.RowKit Pantry

theorem set_low (w : World) (p : Option Addr) (i : Int) (s : ByteArray) (hi : i < 0) : Calls Try.prog 47 #[.pointer p, .int .i64 i, .string s] w fun e w' => e = .returned (.bool false) ∧ w = w' := by
  go_enter Try.func47, Try.ntmps47
  go_wp2_with fail
  go_ret
  exact ⟨rfl, rfl⟩
theorem set_nil (w : World) (i : Int) (s : ByteArray) : Calls Try.prog 47 #[.pointer none, .int .i64 i, .string s] w fun e w' => e = .returned (.bool false) ∧ w = w' := by
  by_cases h0 : i < 0
  · exact set_low w none i s h0
  · have h1 : (0 : Int) ≤ i := by omega
    go_enter Try.func47, Try.ntmps47
    go_wp2_with (go_at_call 16; refine (len_nil _).mono ?_; rintro e w' ⟨rfl, rfl⟩)
    go_ret
    exact ⟨rfl, rfl⟩
theorem set_out (w : World) (d : Nat) (v : Value) (gs : List Nat) (cs : List (List Txt)) (i : Int) (s : ByteArray) (h : DeqAt w d v gs cs) (hi : i < 0 ∨ (total cs : Int) ≤ i) :
    Calls Try.prog 47 #[.pointer (some ⟨d, 0, none⟩), .int .i64 i, .string s] w fun e w' => e = .returned (.bool false) ∧ w = w' := by
  have HL := Lib.hid (len_any w d v gs cs h)
  obtain ⟨N, hN⟩ : ∃ N, total cs = N := ⟨_, rfl⟩
  rw [hN] at hi HL
  clear h hN
  by_cases h0 : i < 0
  · exact set_low w _ i s h0
  · have h1 : (N : Int) ≤ i := by omega
    clear hi
    go_enter Try.func47, Try.ntmps47
    go_wp2_with (go_at_call 16; refine HL.out.mono ?_; rintro e w' ⟨rfl, rfl⟩)
    go_ret
    exact ⟨rfl, rfl⟩
theorem set_long (w : World) (d : Nat) (v : Value) (gs : List Nat) (cs : List (List Txt)) (i : Nat) (s : ByteArray) (h : DeqAt w d v gs cs) (hi : i < total cs) (hs : (1048576 : Int) < (s.size : Int)) :
    Calls Try.prog 47 #[.pointer (some ⟨d, 0, none⟩), .int .i64 i, .string s] w fun e w' => e = .returned (.bool false) ∧ w = w' := by
  have HL := Lib.hid (len_any w d v gs cs h)
  obtain ⟨N, hN⟩ : ∃ N, total cs = N := ⟨_, rfl⟩
  rw [hN] at hi HL
  clear h hN
  have h0 : ¬ (i : Int) < 0 := by omega
  have h1 : (i : Int) < (N : Int) := by omega
  go_enter Try.func47, Try.ntmps47
  go_wp2_with (go_at_call 16; refine HL.out.mono ?_; rintro e w' ⟨rfl, rfl⟩)
  go_ret
  exact ⟨rfl, rfl⟩
theorem copy_nil (w : World) : Calls Try.prog 28 #[.pointer none] w fun e w' => e = .returned (.pointer (some ⟨w.heap.size, 0, none⟩)) ∧ w' = w.alloc (.cells #[.slice none 0 0, .int .i64 0, .int .i64 0] 62) := by
  have HN := Lib.hid (new_any w)
  go_enter Try.func28, Try.ntmps28
  go_wp2_with (go_at_call 10; refine HN.out.mono ?_; rintro e w' ⟨rfl, rfl⟩)
  go_ret
  exact ⟨rfl, rfl⟩
end Go.Proofs.Ytefoieloakfhfaa

/- Set: the plain law. -/
namespace Pantry
open Go Go.RowKit
theorem setC_row {cs : List (List Txt)} {i : Nat} (hi : i < total cs) (s : Txt) : (setC i s cs).flatten = cs.flatten.set i s := by
  have hne : cs ≠ [] := by rintro rfl; simp [total] at hi
  obtain ⟨c, h1, h2, h3, h4⟩ := findC_spec hne (Nat.le_of_lt hi)
  have h4 := h4 hi
  unfold setC
  rw [h1]
  simp only
  obtain ⟨⟨k, p⟩, hkp⟩ : ∃ q, findC cs i = q := ⟨_, rfl⟩
  rw [hkp] at h1 h2 h3 h4 ⊢
  simp only at h1 h2 h3 h4 ⊢
  have hT : (cs.take k).flatten.length = total (cs.take k) := flatten_length _
  rw [set_flatten h1, at_flatten h1, List.append_assoc, List.append_assoc, List.set_append_right _ _ (by omega), List.set_append_left _ _ (by omega)]
  rw [show i - (cs.take k).flatten.length = p by omega]
theorem DGood.set {cs : List (List Txt)} (h : DGood cs) {i : Nat} (hi : i < total cs) {s : Txt} (hs : s.length ≤ 1048576) : DGood (setC i s cs) ∧ total (setC i s cs) = total cs := by
  have hrow := setC_row hi s
  have htot : total (setC i s cs) = total cs := by
    rw [← flatten_length, hrow, List.length_set, flatten_length]
  refine ⟨?_, htot⟩
  have hne : cs ≠ [] := by rintro rfl; simp [total] at hi
  obtain ⟨c, h1, h2, h3, h4⟩ := findC_spec hne (Nat.le_of_lt hi)
  have h4 := h4 hi
  have hc := List.mem_of_getElem? h1
  have ht := h.total
  have hr := h.rows
  unfold setC at htot ⊢
  rw [h1] at htot ⊢
  simp only at htot ⊢
  refine ⟨⟨fun x hx => ?_, fun x hx y hy => ?_, by omega, by rw [List.length_set]; exact hr⟩, fun x hx => ?_⟩
  · rcases set_mem hx with h5 | rfl
    · exact h.chunk x h5
    · rw [List.length_set]; exact h.chunk c hc
  · rcases set_mem hx with h5 | rfl
    · exact h.text x h5 y hy
    · rcases List.mem_or_eq_of_mem_set hy with h6 | rfl
      · exact h.text c hc y h6
      · exact hs
  · rcases set_mem hx with h5 | rfl
    · exact h.some_ x h5
    · intro e
      have := congrArg List.length e
      rw [List.length_set] at this
      simp at this
      rw [this] at h4
      simp at h4
end Pantry

/- Each. -/
namespace Go.Proofs.Ytefoieloakfhfaa
open Go.RowKit Pantry

theorem each_any (w : World) (p : Option Addr) : Calls Try.prog 26 #[.pointer p] w fun e w' => e = .returned (.func (.func 41) #[] #[.pointer (some ⟨w.heap.size, 0, none⟩)]) ∧ w' = w.alloc (.cells #[.pointer p] 24) := by
  go_enter Try.func26, Try.ntmps26
  go_wp2_with fail
  go_ret
  exact ⟨rfl, rfl⟩
end Go.Proofs.Ytefoieloakfhfaa

/- Copy. -/
namespace Go.Proofs.Ytefoieloakfhfaa
open Go.RowKit Pantry

/-- The copy within the loop: k chunks are copied; the head has the whole's numbers already. -/
structure CopyInv (d2 : Nat) (gs2 : List Nat) (cs : List (List Txt)) (k : Nat) (w wr : World) (v2 : Value) : Prop where
  head : wr.heap[d2]? = some (.cells #[v2, .int .i64 (total cs : Nat), .int .i64 (costOf cs : Nat)] 62)
  row : wr.ownsRow (d2 + 1) 67 1 v2 k (gs2.map ptr)
  chunk : ∀ (i g : Nat) (c : List Txt), gs2[i]? = some g → cs[i]? = some c → ChunkAt wr g c
  nodup : gs2.Nodup
  fresh : ∀ g ∈ gs2, d2 < g ∧ g < wr.heap.size
  rowg : ∀ j, v2.ownBlock = some j → j ∉ gs2
  chg : Chg (fun _ => False) w wr
  old : w.heap.size ≤ d2
/-- A copy: all its blocks are new. -/
def CopyPost (cs : List (List Txt)) (w : World) (e : Ending) (w' : World) : Prop :=
  ∃ d2 v2 gs2, e = .returned (.pointer (some ⟨d2, 0, none⟩)) ∧ DeqAt w' d2 v2 gs2 cs ∧ Chg (fun _ => False) w w' ∧ ∀ j, Foot d2 v2 gs2 j → w.heap.size ≤ j
theorem CopyInv.post {d2 : Nat} {gs2 : List Nat} {cs : List (List Txt)} {w wr : World} {v2 : Value} (h : CopyInv d2 gs2 cs cs.length w wr v2) : CopyPost cs w (.returned (.pointer (some ⟨d2, 0, none⟩))) wr := by
  have hr : ∀ j, v2.ownBlock = some j → d2 + 1 ≤ j := fun j hj => (h.row.lt j hj).1
  refine ⟨d2, v2, gs2, rfl, ⟨h.head, ⟨h.row.1, h.row.2.imp id fun ⟨g, cap, cur, a, _, c⟩ => ⟨g, cap, cur, a, Nat.zero_le _, c⟩⟩, h.chunk, h.nodup, fun hm => by have := (h.fresh d2 hm).1; omega, fun e => by have := hr d2 e; omega, h.rowg⟩, h.chg, fun j hj => ?_⟩
  have := h.old
  rcases hj with rfl | hj | hj
  · exact h.old
  · have := (h.fresh j hj).1; omega
  · have := hr j hj; omega
end Go.Proofs.Ytefoieloakfhfaa

/- Copy: one round, plain. -/
namespace Go.Proofs.Ytefoieloakfhfaa
open Go.RowKit Pantry

theorem CopyInv.step {d2 : Nat} {gs2 : List Nat} {cs : List (List Txt)} {k : Nat} {w wr w3 w4 : World} {v2 v3 : Value} {c : List Txt} (h : CopyInv d2 gs2 cs k w wr v2) (hc : cs[k]? = some c)
    (hn : w3.heap[wr.heap.size]? = some (.cells (chunkL c).toArray 66)) (hs : w3.heap.size = wr.heap.size + 1) (hcg : Chg (fun _ => False) wr w3)
    (hown : w4.ownsRow (d2 + 1) 67 1 v3 (k + 1) ((gs2 ++ [wr.heap.size]).map ptr)) (hg : w3.grownBy w4 v2.ownBlock) (hv : ∀ q, v3.ownBlock = some q → v2.ownBlock = some q ∨ w3.heap.size ≤ q) :
    CopyInv d2 (gs2 ++ [wr.heap.size]) cs (k + 1) w (w4.setCell ⟨d2, 0, none⟩ v3) v3 := by
  have hl : gs2.length = k := by have := h.row.1; simpa using this
  have hd := block_lt h.head
  have hlt2 : ∀ q, v2.ownBlock = some q → d2 + 1 ≤ q ∧ q < wr.heap.size := fun q hq => h.row.lt q hq
  have hcg1 : Chg (fun q => v2.ownBlock = some q) w3 w4 := Chg.of_grown hg fun q e => e
  have hhd : w4.heap[d2]? = some (.cells #[v2, .int .i64 (total cs : Nat), .int .i64 (costOf cs : Nat)] 62) := hcg1.heap (hcg.heap h.head (fun e => e)) (fun e => by have := (hlt2 d2 e).1; omega)
  have hU := (Upd.same hhd).setCell 0 v3
  have hold := h.old
  have hsz : w3.heap.size ≤ w4.heap.size := hcg1.size
  refine ⟨hU.here, ?_, ?_, ?_, ?_, ?_, ?_, h.old⟩
  · refine Chg.ownsRow hown hU.chg fun j hj e => ?_
    have := (hown.lt j hj).1
    omega
  · intro i g ci hi hci
    have key : w4.heap[g]? = some (.cells (chunkL ci).toArray 66) ∧ g ≠ d2 := by
      by_cases hik : i < gs2.length
      · rw [List.getElem?_append_left hik] at hi
        have hm := List.mem_of_getElem? hi
        have hf := h.fresh g hm
        exact ⟨hcg1.heap (hcg.heap (h.chunk i g ci hi hci) (fun e => e)) (fun e => h.rowg g e hm), by omega⟩
      · rw [List.getElem?_append_right (by omega)] at hi
        have h0 : i - gs2.length = 0 := by
          by_cases e : i - gs2.length = 0
          · exact e
          · rw [List.getElem?_eq_none (by simp; omega)] at hi; cases hi
        rw [h0] at hi
        have e1 : wr.heap.size = g := by simpa using hi
        have e2 : i = k := by omega
        subst e1 e2
        rw [hc] at hci
        cases hci
        exact ⟨hcg1.heap hn (fun e => by have := (hlt2 _ e).2; omega), by omega⟩
    exact (hU.other g key.2).trans key.1
  · rw [List.nodup_append]
    refine ⟨h.nodup, by simp, ?_⟩
    intro a ha b hb e
    have hb2 : b = wr.heap.size := by simpa using hb
    have := (h.fresh a ha).2
    omega
  · intro g hgm
    have e1 : (w4.setCell ⟨d2, 0, none⟩ v3).heap.size = w4.heap.size := hU.size
    rcases List.mem_append.1 hgm with hm | hm
    · have := h.fresh g hm; omega
    · have : g = wr.heap.size := by simpa using hm
      omega
  · intro j hj hm
    rcases List.mem_append.1 hm with hm | hm
    · have hf := h.fresh j hm
      rcases hv j hj with e | e
      · exact h.rowg j e hm
      · omega
    · have hjg : j = wr.heap.size := by simpa using hm
      rcases hv j hj with e | e
      · have := (hlt2 j e).2; omega
      · omega
  · refine h.chg.trans ((hcg.mono (T := fun q => d2 ≤ q) fun q _ e => e.elim).trans ((hcg1.mono (T := fun q => d2 ≤ q) fun q _ e => by have := (hlt2 q e).1; omega).trans (hU.chg) fun q _ (e : q = d2) => by omega) fun q _ e => e) fun q hq (e : d2 ≤ q) => by omega
/-- The world in which a chunk has been copied. -/
theorem copied {wr w3 : World} {z cells : Array Value} {t : TypeId} (hw : (wr.alloc (.cells z t)).setRow wr.heap.size cells = w3) : w3.heap[wr.heap.size]? = some (.cells cells t) ∧ w3.heap.size = wr.heap.size + 1 ∧ Chg (fun _ => False) wr w3 := by
  subst hw
  refine ⟨setRow_heap _ _ _ _ _ _ (heap_alloc_new wr _), by simp [World.setRow], ?_⟩
  exact ((Chg.refl _ wr).alloc _).setRow (fun e => absurd e (Nat.lt_irrefl _)) _
end Go.Proofs.Ytefoieloakfhfaa

/- Copy: the walk. -/
namespace Go.Proofs.Ytefoieloakfhfaa
open Go.RowKit Pantry

set_option maxHeartbeats 4000000 in
set_option maxRecDepth 100000 in
theorem copy_any (w : World) (d : Nat) (v : Value) (gs : List Nat) (cs : List (List Txt)) (h : DeqAt w d v gs cs) (hf : Fits cs) :
    Calls Try.prog 28 #[.pointer (some ⟨d, 0, none⟩)] w (CopyPost cs w) := by
  have HN := Lib.hid (new_any w)
  have HD := Lib.hid h
  have HF := Lib.hid hf
  have hdl := h.lt d (.inl rfl)
  obtain ⟨a0, c0, hv, -⟩ := ownsRow_rd h.row (ptr_one gs)
  obtain ⟨H, hH⟩ : ∃ H, w.heap.size = H := ⟨_, rfl⟩
  obtain ⟨W1, hW1⟩ : ∃ W1, w.alloc (.cells #[.slice none 0 0, .int .i64 0, .int .i64 0] 62) = W1 := ⟨_, rfl⟩
  rw [hW1, hH] at HN
  have hcg : Chg (fun _ => False) w W1 := by rw [← hW1]; exact (Chg.refl _ w).alloc _
  have hd1 : DeqAt W1 d v gs cs := h.chg hcg (fun _ _ e => e)
  have hnew : W1.heap[H]? = some (.cells #[.slice none 0 0, .int .i64 0, .int .i64 0] 62) := by rw [← hW1, ← hH]; exact heap_alloc_new w _
  obtain ⟨⟨d0, d1, d2⟩, -⟩ := three hd1.head
  obtain ⟨⟨e0, e1, e2⟩, ef⟩ := three hnew
  have ef0 := ef 0
  have ef1 := ef 1
  have ef2 := ef 2
  have hne : ¬ d = H := by omega
  have hrl := hf.rows
  obtain ⟨m, hm⟩ : ∃ m, cs.length = m := ⟨_, rfl⟩
  obtain ⟨N, hN⟩ : ∃ N, total cs = N := ⟨_, rfl⟩
  obtain ⟨C, hC⟩ : ∃ C, costOf cs = C := ⟨_, rfl⟩
  rw [hN] at d1
  rw [hC] at d2
  rw [hm] at hv hrl
  have HTN := Lib.hid hN
  have HTC := Lib.hid hC
  have HH := Lib.hid hH
  have HV0 := Lib.hid hv
  rw [hv] at d0
  have HCG := Lib.hid hcg
  have HD1 := Lib.hid hd1
  have HNEW := Lib.hid hnew
  have HM := Lib.hid hm
  clear h hf hH hW1 hcg hd1 hnew ef hm hN hC hv
  go_enter Try.func28, Try.ntmps28
  go_wp2_with (go_at_call 10; refine HN.out.mono ?_; rintro e w' ⟨rfl, rfl⟩)
  go_region
  all_goals
    go_wp2_with fail
    go_loopw [30] (fun y wr => ∃ k : Nat, k ≤ m ∧ y = .int .i64 k ∧ ∃ gs2 v2, Hid (CopyInv H gs2 cs k w wr v2)) (fun y _ => m - (intOf y).toNat)
    case atStart =>
      have hU := ((Upd.same HNEW.out).setCell 1 (.int .i64 (N : Int))).setCell 2 (.int .i64 (C : Int))
      refine ⟨0, Nat.zero_le _, rfl, [], _, Lib.hid ⟨?_, World.ownsRow_nil _ _ _ _, fun i g c h => by simp at h, List.nodup_nil, by simp, by simp, ?_, by have := HCG.out.size; have := HH.out; omega⟩⟩
      · rw [HTN.out, HTC.out]; exact hU.here
      · exact HCG.out.trans hU.drew.chg fun q hq (e : q = H) => by have := HH.out; omega
    case round =>
      obtain ⟨k, hk, rfl, gs2, v2, HV⟩ := hrel
      by_cases hlt : k < m
      · obtain ⟨c, hc⟩ : ∃ c, cs[k]? = some c := ⟨_, List.getElem?_eq_getElem (by rw [HM.out]; exact hlt)⟩
        have hdw := HD.out.chg HV.out.chg (fun _ _ e => e)
        obtain ⟨g, sb, cap, -, hv', -, -, hcell, hch⟩ := hdw.at hc
        rw [HM.out, HV0.out] at hv'
        cases hv'
        have hc32 := HF.out.chunk c (List.mem_of_getElem? hc)
        have HSZ := Lib.hid (show (Try.prog.info? 66).map (·.size) = some (chunkL c).toArray.size by rw [List.size_toArray, chunkL_length hc32]; kernel_rfl)
        have HSZ2 := Lib.hid (show (chunkL c).toArray.size = 33 by rw [List.size_toArray, chunkL_length hc32])
        have HONE := Lib.hid (show (chunkL c).toArray.all (·.oneCell') = true by
          rw [List.all_toArray, List.all_eq_true]
          exact chunkL_one c)
        obtain ⟨a2, c2, hv2, -⟩ := ownsRow_rd HV.out.row (ptr_one gs2)
        subst hv2
        have hHl := block_lt HV.out.head
        go_wp2_with (first
          | (refine wpList_load_row rfl _ _ rfl g rfl _ (chunkL c).toArray (0, 0) _ hch Try.underlying66 rfl HSZ.out ?_)
          | (refine wpList_store_row rfl _ _ _ rfl wr.heap.size (chunkL c).toArray rfl rfl _ _ (heap_alloc_new wr _) HSZ.out HSZ2.out.symm HONE.out ?_
             generalize hw3 : World.setRow _ wr.heap.size (chunkL c).toArray = w3
             obtain ⟨f1, f2, f3⟩ := copied hw3
             have hh3 := f3.heap HV.out.head (fun e => e)
             obtain ⟨⟨g0, -, -⟩, gf⟩ := three hh3
             have gf0 := gf 0
             clear hw3 gf hh3)
          | (at_builtin; (refine wpl_append1 Try.rowT rfl _ _ rfl (H + 1) rfl (Chg.ownsRow HV.out.row f3 (fun _ _ e => e)) #[.pointer (some ⟨wr.heap.size, 0, none⟩)] (by rw [f2]; rfl) rfl (by simp [Value.oneCell']) (by omega) (by rw [f2]; omega) ?_); intro v3 w4 hown4 hg4 hb4 hv4
             have hown5 : w4.ownsRow (H + 1) 67 1 v3 (k + 1) ((gs2 ++ [wr.heap.size]).map ptr) := by rw [List.map_append]; exact hown4
             have HN2 := Lib.hid (HV.out.step hc f1 f2 f3 hown5 hg4 hv4)
             have hh4 := (Chg.of_grown hg4 (S := fun q => (Value.slice a2 k c2).ownBlock = some q) fun q e => e).heap (f3.heap HV.out.head (fun e => e)) (fun e => by have := (HV.out.row.lt H e).1; omega)
             obtain ⟨a3, c3, hv3, -⟩ := ownsRow_rd hown5 (ptr_one _)
             subst hv3
             obtain ⟨⟨k0, -, -⟩, kf⟩ := three hh4
             have kf0 := kf 0
             clear hown4 hown5 hg4 hb4 hv4 hh4 kf))
        go_roundw
        case rel => exact ⟨k + 1, by omega, by go_num, _, _, HN2⟩
        case measure => simp [intOf]; omega
      · obtain rfl : k = m := by omega
        have HE := Lib.hid (show CopyInv H gs2 cs cs.length w wr v2 by rw [HM.out]; exact HV.out)
        go_wp2_with fail
        go_ret
        exact HE.out.post
end Go.Proofs.Ytefoieloakfhfaa
