
/- SnapshotForm's walk. -/
import Derived.Test.YteiklgbjjmlmaaaGreatZSnWk
import Derived.Test.YteiklgbjjmlmaaaGreatZSnVal
set_option linter.unusedVariables false
set_option linter.unusedSimpArgs false
namespace Go.Proofs.YteiklgbjjmlmaaaGreat
open Go.RowKit Pantry

/-- An argument of bytes. -/
structure BArg (w : World) (a : Option Addr) (n c : Nat) (l : List UInt8) : Prop where
  len : l.length = n
  cap : n ≤ c
  max : c ≤ 9223372036854775807
  nil : a = none → c = 0
  rd : Rd w a (b8 l)
  few : n ≤ 140737488351232
theorem BArg.below {w w' : World} {a : Option Addr} {n c : Nat} {l : List UInt8} (h : BArg w a n c l) (hb : Below w.heap.size w w') : BArg w' a n c l := ⟨h.len, h.cap, h.max, h.nil, h.rd.below hb, h.few⟩
theorem BArg.load {w : World} {a : Option Addr} {n c : Nat} {l : List UInt8} (h : BArg w a n c l) : Calls Tryz.prog 18 #[.slice a n c] w (Loaded w (loadR l)) := load_any w a n c l h.len h.cap h.max h.nil h.rd
/-- A beginning of an argument. -/
theorem BArg.take {w : World} {a : Option Addr} {n c : Nat} {l : List UInt8} (h : BArg w a n c l) {k : Nat} (hk : k ≤ n) : BArg w a k c (l.take k) := by
  refine ⟨by rw [List.length_take, h.len]; omega, Nat.le_trans hk h.cap, h.max, h.nil, ?_, Nat.le_trans hk h.few⟩
  have := h.rd.take k
  rwa [show (b8 l).take k = b8 (l.take k) by simp [b8, List.map_take]] at this
theorem ownB_barg {w : World} {base : Nat} {e : TypeId} {v : Value} {l : List UInt8} (h : OwnB w base e v l) (hf : l.length ≤ 140737488351232) : ∃ a c, v = .slice a l.length c ∧ BArg w a l.length c l := by
  obtain ⟨a, c, h1, h2, h3, h4, h5, h6⟩ := OwnB.load h
  exact ⟨a, c, h1, rfl, h4, h5, h3, h2, hf⟩
/-- What was loaded may be saved. -/
theorem loaded_big {b : List UInt8} {now : Nat} {l : List SE} (h : loadR b = .ok (now, l)) : SBig l := by
  obtain ⟨h1, h2, h3, h4, h5⟩ := loadR_ok h
  have hlen : l.length ≤ 16777216 := by
    have h6 : l.length ≤ (l.flatMap entB).length := by
      clear h h2 h3 h5
      induction l with
      | nil => simp
      | cons x l ih =>
        have : 1 ≤ (entB x).length := by
          unfold entB valB
          simp only [List.length_append, List.length_cons]; omega
        simp only [List.flatMap_cons, List.length_append, List.length_cons]; omega
    have h7 := congrArg List.length h5
    unfold bodyB at h7
    simp only [List.length_append] at h7
    omega
  have hg : ∀ x ∈ l, x.key.length ≤ 1048576 ∧ Shaped x.val := by
    intro x hx
    obtain ⟨i, hi⟩ := List.getElem?_of_mem hx
    have hf := right_at (acc := []) h2 hi
    have := follows_good hf (h3 x hx)
    exact ⟨this.1, this.2.2⟩
  exact ⟨by omega, fun x hx => shaped_big (hg x hx).2, fun x hx => by have := (hg x hx).1; omega, h3⟩
theorem tmod_bounds (c : Int) (n : Nat) (hn : 0 < n) : -(n : Int) < c.tmod n ∧ c.tmod n < n := by
  have h1 := Int.tmod_lt_of_pos c (show (0 : Int) < n by omega)
  have h2 := Int.tmod_lt_of_pos (-c) (show (0 : Int) < n by omega)
  rw [Int.neg_tmod] at h2
  omega
attribute [-go_sem] Builtin.append_
set_option maxRecDepth 100000 in
set_option maxHeartbeats 16000000 in
theorem form_any (w : World) (ab am : Option Addr) (nb cb nm cm : Nat) (b m : List UInt8) (cut : Int) (hcut : -9223372036854775808 ≤ cut ∧ cut ≤ 9223372036854775807) (hb : BArg w ab nb cb b) (hm : BArg w am nm cm m) :
    Calls Tryz.prog 6 #[.slice ab nb cb, .int .i64 cut, .slice am nm cm] w (SamePost true w) := by
  have HW := Lib.hid (wakes29_any w)
  have HBA := Lib.hid hb
  have HMA := Lib.hid hm
  have hbf := hb.few
  have hmf := hm.few
  have hbn := hb.len
  obtain ⟨c1, c2⟩ := hcut
  clear hb hm
  cases hl : loadR b with
  | error c =>
    have hc := loadR_errs hl
    have HL := Lib.hid hl
    clear hl
    rw [hbn] at hc
    clear hbn
    rcases hc with rfl | rfl | rfl | ⟨rfl, hbig⟩
    all_goals
      try (have hbi : (16777216 : Int) < (nb : Int) := by omega)
      go_enter Tryz.func6, Tryz.ntmps6
      go_wp2_with (first
        | (go_at_call 21; refine HW.out.mono ?_; rintro e w1 ⟨rfl, hb1⟩
           have HB1 := Lib.hid hb1
           have HLD := Lib.hid ((HBA.out.below hb1).load)
           rw [HL.out] at HLD
           clear hb1)
        | (go_at_call 18; refine HLD.out.mono ?_; rintro e w2 ⟨hb2, rfl⟩; have HB2 := Lib.hid (HB1.out.trans (hb2.mono HB1.out.size)); clear hb2))
      go_ret
      exact ⟨rfl, HB2.out⟩
  | ok q =>
    obtain ⟨now, l⟩ := q
    obtain ⟨hsv, h18⟩ := load_save hl
    have hbg := loaded_big hl
    obtain ⟨h53, -, -, h24, -⟩ := loadR_ok hl
    rw [hbn] at h18 h24
    have HBG := Lib.hid hbg
    have HL := Lib.hid hl
    have HBN := Lib.hid hbn
    have HSV := Lib.hid hsv
    clear hl hbn hsv hbg
    have hnz : ¬ (nb : Int) = 0 := by omega
    have h18i : ¬ (nb : Int) < 18 := by omega
    obtain ⟨r, hr⟩ : ∃ r, cut.tmod (nb : Int) = r := ⟨_, rfl⟩
    have hrb := tmod_bounds cut nb (by omega)
    rw [hr] at hrb
    obtain ⟨r1, r2⟩ := hrb
    go_enter Tryz.func6, Tryz.ntmps6
    go_upto_region 4 with (first
      | (go_at_call 21; refine HW.out.mono ?_; rintro e w1 ⟨rfl, hb1⟩
         have HB1 := Lib.hid hb1
         have HLD := Lib.hid ((HBA.out.below hb1).load)
         rw [HL.out] at HLD
         clear hb1)
      | (go_at_call 18; refine HLD.out.mono ?_; rintro e w2 ⟨hb2, v2, L, rfl, ho, hll⟩
         have HB2 := Lib.hid (HB1.out.trans (hb2.mono HB1.out.size))
         obtain ⟨a2, d2, rfl, hs2⟩ := ho.srow
         have hLn : L.length = l.length := by rw [← hll, List.length_map]
         rw [hll] at hs2
         rw [hLn]
         obtain ⟨ln, hln⟩ : ∃ ln, l.length = ln := ⟨_, rfl⟩
         rw [hln]
         have hld : ln ≤ d2 := by rw [← hln, ← hLn]; exact ownsRow_cap ho.row
         have HSA := Lib.hid (save_any w2 (now : Int) a2 ln d2 l hln hld hs2 HBG.out)
         rw [HSV.out] at HSA
         have HSR := Lib.hid hs2
         have HLN := Lib.hid hln
         have HOS := Lib.hid ho
         clear hb2 hs2 hLn hln hll hld ho))
    go_upto_region 9 with (first
      | (go_at_call 11; refine HSA.out.mono ?_; rintro e w3 ⟨hb3, vc, rfl, hoc⟩
         have HB3 := Lib.hid (HB2.out.trans (hb3.mono HB2.out.size))
         have HS3 := Lib.hid hb3.size
         obtain ⟨ac, dc, rfl, hba⟩ := ownB_barg hoc (by rw [HBN.out]; exact hbf)
         rw [HBN.out] at hba ⊢
         rw [HBN.out] at hoc
         have HOC := Lib.hid hoc
         have HSB := Lib.hid (sameB_self29 ab ac nb cb dc b w3 HBN.out (by omega) (HBA.out.below HB3.out).rd hba.rd)
         clear hb3 hoc hba)
      | (go_at_call 12; refine HSB.out.mono ?_; rintro e w4 ⟨rfl, qq, rfl⟩))
    have HB4 : Hid (Below w.heap.size w (w3.drewN qq)) := Lib.hid (HB3.out.trans ⟨rfl, rfl, rfl, Nat.le_refl _, fun _ _ => rfl⟩)
    have HOC4 : Hid (OwnB (w3.drewN qq) w2.heap.size 5 (.slice ac nb dc) b) := Lib.hid HOC.out
    obtain ⟨W4, hW4⟩ : ∃ W4, w3.drewN qq = W4 := ⟨_, rfl⟩
    have HZ4 : Hid (w2.heap.size ≤ W4.heap.size) := Lib.hid (by rw [← hW4]; exact HS3.out)
    rw [hW4] at HB4 HOC4 ⊢
    clear hW4 HOC HSB HSA
    obtain ⟨k, hk⟩ : ∃ k : Nat, (k : Int) = if r < 0 then r + (nb : Int) else r := ⟨(if r < 0 then r + (nb : Int) else r).toNat, by split <;> omega⟩
    have hkn : k < nb := by split at hk <;> omega
    have HLC := Lib.hid ((HBA.out.below HB4.out).take (Nat.le_of_lt hkn)).load
    rw [load_cut HL.out (by rw [HBN.out]; exact hkn)] at HLC
    have hkc : (k : Int) ≤ (cb : Int) := by have := HBA.out.cap; omega
    have hcb := HBA.out.max
    have HMX : Hid (∀ W, Below w.heap.size w W → OwnB W w2.heap.size 5 (.slice ac nb dc) b → w2.heap.size ≤ W.heap.size → ¬ nm = 0 → nb + nm ≤ 16777216 → ∃ av nv cv W2, (Builtin.append_ #[24, 24] 24 #[.slice ac nb dc, .slice am nm cm]).run Tryz.prog W = .ok (.slice av nv cv) W2 ∧
        Calls Tryz.prog 18 #[.slice av nv cv] W2 (fun e w' => Below W2.heap.size W2 w' ∧ e = .returned (.tuple #[.int .i64 0, .slice none 0 0, .int .i64 290])) ∧ Below w.heap.size w W2) := Lib.hid fun W hW ho hz hn0 hfew => by
      have hma := HMA.out.below hW
      have hne : m ≠ [] := fun e => hn0 (by rw [← hma.len, e]; rfl)
      obtain ⟨x, rfl, -⟩ := hma.rd.block_lt (fun e => hne (by simpa [b8] using e))
      obtain ⟨v', W2, hr, ho2, hg⟩ := run_appendB snT (24 : TypeId) ho (k := m) (m := nm) (c := cm) hma.len hma.rd (by rw [HBN.out]; omega) hz
      have hlen : (b ++ m).length = nb + nm := by rw [List.length_append, HBN.out, hma.len]
      obtain ⟨av, cv, rfl, hba⟩ := ownB_barg ho2 (by rw [hlen]; omega)
      have hb2 : Below w.heap.size w W2 := hW.grown hg hW.size (fun k hk => Nat.le_trans HB2.out.size (ho.lt k hk).1)
      refine ⟨av, _, cv, W2, hr, hba.load.mono fun e w' h => ?_, hb2⟩
      rw [load_more HL.out hne (by rw [HBN.out, hma.len]; omega)] at h
      exact h
    clear HBA
    by_cases hr0 : r < 0
    · rw [if_pos hr0] at hk
      have hkr : r + (nb : Int) = (k : Int) := hk.symm
      have HKN := Lib.hid hkn
      clear hk hkn
      go_upto_region 12 with fail
      clear hkr hr
      by_cases hn0 : nm = 0
      · subst hn0
        clear HMX
        go_wp2_with (go_at_call 18; refine HLC.out.mono ?_; rintro e w5 ⟨hb5, rfl⟩; have HB5 := Lib.hid (HB4.out.trans (hb5.mono HB4.out.size)); clear hb5)
        go_ret
        exact ⟨rfl, HB5.out⟩
      · have hn1 : ((nm : Int) == 0) = false := by simp; omega
        by_cases hbig : 16777216 < nb + nm
        · have hbi : (16777216 : Int) < (nb : Int) + (nm : Int) := by omega
          clear HMX hn0
          go_wp2_with (go_at_call 18; refine HLC.out.mono ?_; rintro e w5 ⟨hb5, rfl⟩; have HB5 := Lib.hid (HB4.out.trans (hb5.mono HB4.out.size)); clear hb5)
          go_ret
          exact ⟨rfl, HB5.out⟩
        · have hbi : ¬ (16777216 : Int) < (nb : Int) + (nm : Int) := by omega
          have HN0 := Lib.hid hn0
          have HBG2 := Lib.hid hbig
          clear hn0 hbig
          go_upto_region 17 with (go_at_call 18; refine HLC.out.mono ?_; rintro e w5 ⟨hb5, rfl⟩
                                  have HB5 := Lib.hid (HB4.out.trans (hb5.mono HB4.out.size))
                                  obtain ⟨av, nv, cv, W2, hrun, hcalls, hb6⟩ := HMX.out w5 HB5.out (HOC4.out.below hb5) (Nat.le_trans HZ4.out hb5.size) HN0.out (by have := HBG2.out; omega)
                                  have HC6 := Lib.hid hcalls
                                  have HB6 := Lib.hid hb6
                                  clear hb5 hcalls hb6)
          clear HMX
          go_wp2_with (go_at_call 18; refine HC6.out.mono ?_; rintro e w7 ⟨hb7, rfl⟩; have HB7 := Lib.hid (HB6.out.trans (hb7.mono HB6.out.size)); clear hb7)
          go_ret
          exact ⟨rfl, HB7.out⟩
    · rw [if_neg hr0] at hk
      have hkr : r = (k : Int) := hk.symm
      have HKN := Lib.hid hkn
      clear hk hkn
      go_upto_region 12 with fail
      clear hkr hr
      by_cases hn0 : nm = 0
      · subst hn0
        clear HMX
        go_wp2_with (go_at_call 18; refine HLC.out.mono ?_; rintro e w5 ⟨hb5, rfl⟩; have HB5 := Lib.hid (HB4.out.trans (hb5.mono HB4.out.size)); clear hb5)
        go_ret
        exact ⟨rfl, HB5.out⟩
      · have hn1 : ((nm : Int) == 0) = false := by simp; omega
        by_cases hbig : 16777216 < nb + nm
        · have hbi : (16777216 : Int) < (nb : Int) + (nm : Int) := by omega
          clear HMX hn0
          go_wp2_with (go_at_call 18; refine HLC.out.mono ?_; rintro e w5 ⟨hb5, rfl⟩; have HB5 := Lib.hid (HB4.out.trans (hb5.mono HB4.out.size)); clear hb5)
          go_ret
          exact ⟨rfl, HB5.out⟩
        · have hbi : ¬ (16777216 : Int) < (nb : Int) + (nm : Int) := by omega
          have HN0 := Lib.hid hn0
          have HBG2 := Lib.hid hbig
          clear hn0 hbig
          go_upto_region 17 with (go_at_call 18; refine HLC.out.mono ?_; rintro e w5 ⟨hb5, rfl⟩
                                  have HB5 := Lib.hid (HB4.out.trans (hb5.mono HB4.out.size))
                                  obtain ⟨av, nv, cv, W2, hrun, hcalls, hb6⟩ := HMX.out w5 HB5.out (HOC4.out.below hb5) (Nat.le_trans HZ4.out hb5.size) HN0.out (by have := HBG2.out; omega)
                                  have HC6 := Lib.hid hcalls
                                  have HB6 := Lib.hid hb6
                                  clear hb5 hcalls hb6)
          clear HMX
          go_wp2_with (go_at_call 18; refine HC6.out.mono ?_; rintro e w7 ⟨hb7, rfl⟩; have HB7 := Lib.hid (HB6.out.trans (hb7.mono HB6.out.size)); clear hb7)
          go_ret
          exact ⟨rfl, HB7.out⟩
end Go.Proofs.YteiklgbjjmlmaaaGreat
