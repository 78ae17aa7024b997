/- EvictRoom: the walk. -/
import Derived.Test.YtelbmphmihjgfaaGreatZEwCfg
import Derived.Test.YtelbmphmihjgfaaGreatZEwRoomQ
import Derived.Test.YtelbmphmihjgfaaGreatZEwPrep
import Derived.Test.YtelbmphmihjgfaaGreatZRegRound
import Derived.Deep.CutRange
import Derived.Deep.RegionHeld3
set_option linter.unusedVariables false
set_option linter.unusedSimpArgs false
namespace Go.Proofs.YtelbmphmihjgfaaGreat.DEnt
open Go.RowKit Pantry Go.Maps Go.Sort

set_option maxRecDepth 100000 in
set_option maxHeartbeats 20000000 in
theorem room_any (w : World) (c : Cfg) (hc : CfgOk c) (most : Int) (a2 : Option Addr) (n2 k2 : Nat) (l2 : List Nat) (hl2 : l2.length = n2) (hr2 : Rd w a2 (u64R l2)) (hn2 : n2 ≤ 17592186044416) (hx2 : ∀ x ∈ l2, x < 18446744073709551616)
    (a3 : Option Addr) (n3 k3 : Nat) (ls : List LSt) (hl3 : ScrAt w a3 n3 ls) (hn3 : n3 ≤ 1048576) :
    Calls Tryz.prog 4 #[Cfg.val c, .int .i64 most, .slice a2 n2 k2, .slice a3 n3 k3] w (OneBool true w) := by
  have HNEW := Lib.hid fun o => (Below.refl w.heap.size w).alloc (Nat.le_refl _) o
  have HW := Lib.hid wakes_any
  have HP := Lib.hid fun W => pNew_any W most
  obtain ⟨seed, mo, policy, samples⟩ := c
  have HBOX : Hid (∀ W, Below (w.heap.size + 1) (w.alloc (.cells #[.int .u64 seed, .int .i64 mo, .int .i64 policy, .int .i64 samples] 24)) W → W.cell? ⟨w.heap.size, 0, none⟩ = some (.int .u64 seed) ∧ W.cell? ⟨w.heap.size, 1, none⟩ = some (.int .i64 mo) ∧ W.cell? ⟨w.heap.size, 2, none⟩ = some (.int .i64 policy) ∧ W.cell? ⟨w.heap.size, 3, none⟩ = some (.int .i64 samples)) := Lib.hid fun W hW => by
    have h0 := Below.block hW w.heap.size (Nat.lt_succ_self _)
    rw [heap_alloc_new] at h0
    exact ⟨cell_of_row _ _ 0 _ _ _ h0, cell_of_row _ _ 1 _ _ _ h0, cell_of_row _ _ 2 _ _ _ h0, cell_of_row _ _ 3 _ _ _ h0⟩
  by_cases hb : Cfg.bad ⟨seed, mo, policy, samples⟩
  · have HB : Hid (∀ W, Below w.heap.size w W → Calls Tryz.prog 6 #[.agg #[.int .u64 seed, .int .i64 mo, .int .i64 policy, .int .i64 samples], .slice a3 n3 k3] W fun e w' => Below W.heap.size W w' ∧ e = .returned (.pointer none)) := Lib.hid fun W hW => by
      refine (built_any W _ hc a3 n3 k3 ls (hl3.below hW) hn3).mono ?_
      rintro e w' ⟨h1, ⟨-, rfl⟩ | ⟨h2, -⟩⟩
      · exact ⟨h1, rfl⟩
      · exact absurd hb h2
    have HPP : Hid (∀ W, Calls Tryz.prog 7 #[.int .i64 most] W fun e w' => Below W.heap.size W w' ∧ ∃ pp code, e = .returned (.tuple #[.pointer pp, .int .i64 code])) := Lib.hid fun W => by
      refine (HP.out W).mono ?_
      rintro e w' (⟨-, rfl, rfl⟩ | ⟨-, p, G, rfl, h2, h3, h4⟩)
      · exact ⟨Below.refl _ _, _, _, rfl⟩
      · exact ⟨h4, _, _, rfl⟩
    simp only [Cfg.val]
    clear hc hl2 hr2 hn2 hx2 hl3 hn3 hb
    go_enter Tryz.func4, Tryz.ntmps4
    go_wp2_with (first
      | (go_at_call 5; refine (HW.out _).mono ?_; rintro e w1 ⟨rfl, hb1⟩
         have HC1 := Lib.hid (hb1.mono (Nat.le_of_eq (by simp : w.heap.size + 1 = _)))
         have HB1 := Lib.hid ((HNEW.out _).trans (hb1.mono (by simp)))
         obtain ⟨d0, d1, d2, d3⟩ := HBOX.out _ HC1.out
         clear hb1)
      | (go_at_call 6; refine (HB.out _ HB1.out).mono ?_; rintro e w2 ⟨hb2, rfl⟩
         have HB2 := Lib.hid (HB1.out.trans (hb2.mono HB1.out.size))
         clear hb2)
      | (go_at_call 7; refine (HPP.out _).mono ?_; rintro e w3 ⟨hb3, pp, code, rfl⟩
         have HB3 := Lib.hid (HB2.out.trans (hb3.mono HB2.out.size))
         clear hb3))
    go_ret
    exact ⟨rfl, HB3.out⟩
  · have HB : Hid (∀ W, Below w.heap.size w W → Calls Tryz.prog 6 #[.agg #[.int .u64 seed, .int .i64 mo, .int .i64 policy, .int .i64 samples], .slice a3 n3 k3] W fun e w' => Below W.heap.size W w' ∧ ∃ s F X, e = .returned (.pointer (some ⟨s, 0, none⟩)) ∧ SpX w' s F X ∧ X.samples = samples ∧ (X.steps = [] ∧ X.touched = []) ∧ (X.most = mo ∧ X.policy = policy) ∧ ∀ k, F k → W.heap.size ≤ k) := Lib.hid fun W hW => by
      refine (built_any W _ hc a3 n3 k3 ls (hl3.below hW) hn3).mono ?_
      rintro e w' ⟨h1, ⟨h2, -⟩ | ⟨-, s, F, X, rfl, h3, h7, h8, h4, h5, h6⟩⟩
      · exact absurd h2 hb
      · exact ⟨h1, s, F, X, rfl, h3, h4.2.2.1, ⟨h7, h8⟩, ⟨h4.1, h4.2.1⟩, h6⟩
    by_cases hm : most < 1 ∨ 16 < most
    · have HPP : Hid (∀ W, Calls Tryz.prog 7 #[.int .i64 most] W fun e w' => e = .returned (.tuple #[.pointer none, .int .i64 3]) ∧ W = w') := Lib.hid fun W => by
        refine (HP.out W).mono ?_
        rintro e w' (⟨-, rfl, rfl⟩ | ⟨h1, -⟩)
        · exact ⟨rfl, rfl⟩
        · omega
      simp only [Cfg.val]
      clear hc hl2 hr2 hn2 hx2 hl3 hn3 hb hm
      go_enter Tryz.func4, Tryz.ntmps4
      go_wp2_with (first
        | (go_at_call 5; refine (HW.out _).mono ?_; rintro e w1 ⟨rfl, hb1⟩
           have HC1 := Lib.hid (hb1.mono (Nat.le_of_eq (by simp : w.heap.size + 1 = _)))
           have HB1 := Lib.hid ((HNEW.out _).trans (hb1.mono (by simp)))
           obtain ⟨d0, d1, d2, d3⟩ := HBOX.out _ HC1.out
           clear hb1)
        | (go_at_call 6; refine (HB.out _ HB1.out).mono ?_; rintro e w2 ⟨hb2, s, F, X, rfl, -⟩
           have HB2 := Lib.hid (HB1.out.trans (hb2.mono HB1.out.size))
           clear hb2)
        | (go_at_call 7; refine (HPP.out _).mono ?_; rintro e w3 ⟨rfl, rfl⟩))
      go_ret
      exact ⟨rfl, HB2.out⟩
    · have HPP : Hid (∀ W, Calls Tryz.prog 7 #[.int .i64 most] W fun e w' => ∃ p G, e = .returned (.tuple #[.pointer (some ⟨p, 0, none⟩), .int .i64 0]) ∧ PlH w' p G most.toNat [] ∧ (∀ k, G k → W.heap.size ≤ k) ∧ Below W.heap.size W w') := Lib.hid fun W => by
        refine (HP.out W).mono ?_
        rintro e w' (⟨h1, -⟩ | ⟨-, h2⟩)
        · exact absurd h1 hm
        · exact h2
      have HR : Hid (∀ W, Below w.heap.size w W → Calls Tryz.prog 10 #[.slice a2 n2 k2] W (RNewPost l2 W)) := Lib.hid fun W hW => rnew_any W a2 n2 k2 l2 hl2 (hr2.below hW) hn2
      have HX := Lib.hid hx2
      have HL := Lib.hid hl2
      have HPOL : Hid (0 ≤ policy ∧ policy ≤ 2) := Lib.hid (by unfold Cfg.bad at hb; simp only at hb; omega)
      have hsm : 0 ≤ samples ∧ samples ≤ 16 := by unfold Cfg.bad at hb; simp only at hb; omega
      obtain ⟨sm, rfl⟩ : ∃ sm : Nat, samples = (sm : Int) := ⟨samples.toNat, by omega⟩
      have HSM : Hid (sm ≤ 16) := Lib.hid (by omega)
      have HNN : Hid (n2 ≤ 17592186044416 ∧ n3 ≤ 1048576) := Lib.hid ⟨hn2, hn3⟩
      simp only [Cfg.val]
      clear hc hl2 hr2 hn2 hx2 hl3 hn3 hb hm hsm
      go_enter Tryz.func4, Tryz.ntmps4
      go_wp2_with (first
        | (go_at_call 5; refine (HW.out _).mono ?_; rintro e w1 ⟨rfl, hb1⟩
           have HC1 := Lib.hid (hb1.mono (Nat.le_of_eq (by simp : w.heap.size + 1 = _)))
           have HB1 := Lib.hid ((HNEW.out _).trans (hb1.mono (by simp)))
           obtain ⟨d0, d1, d2, d3⟩ := HBOX.out _ HC1.out
           clear hb1)
        | (go_at_call 6; refine (HB.out _ HB1.out).mono ?_; rintro e w2 ⟨hb2, s, F, X, rfl, hx, hsx, hmx, hmp, hf⟩
           have HMP := Lib.hid hmp
           have HC2 := Lib.hid (HC1.out.trans (hb2.mono (by have := HC1.out.size; simpa using this)))
           have HB2 := Lib.hid (HB1.out.trans (hb2.mono HB1.out.size))
           have HT1 := Lib.hid hb2.size
           have HSX := Lib.hid hx
           have HMX := Lib.hid (And.intro hsx hmx)
           have HF := Lib.hid hf
           clear hb2 hx hsx hmx hmp hf)
        | (go_at_call 7; refine (HPP.out _).mono ?_; rintro e w3 ⟨p, G, rfl, hp, hG, hb3⟩
           have HC3 := Lib.hid (HC2.out.trans (hb3.mono (by have := HC2.out.size; simpa using this)))
           have HB3 := Lib.hid (HB2.out.trans (hb3.mono HB2.out.size))
           have HSX3 := Lib.hid (HSX.out.below hb3)
           have HPL := Lib.hid hp
           have HG := Lib.hid hG
           have HT3 := Lib.hid (Nat.le_trans HT1.out hb3.size)
           have HT2 := HT1
           clear hb3 hp hG)
        | (go_at_call 17; refine (sStored HSX3.out).mono ?_; rintro e w4 ⟨v, l, rfl, hl, hrow, hb4⟩
           have hl8 : l.length ≤ 8388608 := by
             rw [hl.1.length_eq]
             have := HSX3.out.sp.good.few
             unfold Sp.mass at this
             omega
           obtain ⟨qa, qc, hv, hst⟩ := stoAt_row hrow hl8
           obtain ⟨q, hq⟩ : ∃ q, l.length = q := ⟨_, rfl⟩
           rw [hq] at hv hst
           subst hv
           have HCA := Lib.hid (row_cap hrow)
           have HC4 := Lib.hid (HC3.out.trans (hb4.mono (by have := HC3.out.size; simpa using this)))
           have HB4 := Lib.hid (HB3.out.trans (hb4.mono HB3.out.size))
           have HSX4 := Lib.hid (HSX3.out.below hb4)
           have HPL4 := Lib.hid (HPL.out.below hb4)
           have HST := Lib.hid hst
           have HT4 := Lib.hid (Nat.le_trans HT3.out hb4.size)
           have HRB := Lib.hid (hrow.lt)
           have HRW := Lib.hid hl
           have HUS := Lib.hid (sUsed HSX4.out.sp)
           clear hb4 hl hrow hq hst hl8)
        | (go_at_call 8; refine HUS.out.mono ?_; rintro e w5 ⟨rfl, rfl⟩)
        | (go_at_call 10; refine (HR.out _ HB4.out).mono ?_; rintro e w5 ⟨r, rfl, hr, hrl, hb5⟩
           have HC5 := Lib.hid (HC4.out.trans (hb5.mono (by have := HC4.out.size; simpa using this)))
           have HB5 := Lib.hid (HB4.out.trans (hb5.mono HB4.out.size))
           have HEN := Lib.hid (enf_room (HSX4.out.below hb5) (HPL4.out.below hb5) hr HX.out HMX.out.2.1 HMX.out.2.2)
           have HST5 := Lib.hid (HST.out.below hb5)
           have HRL := Lib.hid hrl
           have HT5 := Lib.hid hb5.size
           clear hb5 hr hrl))
      have HTT : Hid (∀ w6, Chg (EvT F G r) w5 w6 → Below (w.heap.size + 1) (w.alloc (.cells #[.int .u64 seed, .int .i64 mo, .int .i64 policy, .int .i64 sm] 24)) w6) := Lib.hid fun w6 hch => HC5.out.trans (hch.below (Nat.le_trans (by simp) HC5.out.size) (fun k hk => by
        have h1 : w.heap.size + 1 ≤ w1.heap.size := by have := HC1.out.size; simpa using this
        rcases hk with hk | hk | rfl
        · exact Nat.le_trans h1 (HF.out k hk)
        · exact Nat.le_trans h1 (Nat.le_trans HT1.out (HG.out k hk))
        · exact Nat.le_trans h1 (Nat.le_trans HT4.out HRL.out)))
      refine HEN.out.mono ?_
      rintro e w6 (⟨h0, rfl, ⟨F', hx6, hf6⟩, hch⟩ | ⟨hm, n, Y, code, rfl, hrm, hfr, hp6, hn6, hz, ⟨F', hx6, hf6⟩, hch, hcode⟩)
      · have HC6 := Lib.hid (HTT.out _ hch)
        have HX6 := Lib.hid hx6
        have HST6 : Hid (StoAt w6 qa q l) := Lib.hid (HST5.out.chg hch (fun p' hp' => by
          obtain ⟨b1, b2⟩ := HRB.out p'.block (by rw [hp']; rfl)
          rintro (hk | hk | hk)
          · exact absurd (HSX3.out.sp.lt hk) (by omega)
          · exact absurd (HPL.out.lt hk) (by omega)
          · have := HRL.out; omega))
        have HRN : Hid (∀ p', qa = some p' → ¬ F' p'.block) := Lib.hid (fun p' hp' hk => by
          obtain ⟨b1, b2⟩ := HRB.out p'.block (by rw [hp']; rfl)
          rcases hf6 _ hk with (hk | hk | hk) | hk
          · exact absurd (HSX3.out.sp.lt hk) (by omega)
          · exact absurd (HPL.out.lt hk) (by omega)
          · have := HRL.out; omega
          · have := HT5.out; omega)
        have H0 := Lib.hid h0
        have HFG : Hid (∀ k, F' k → w.heap.size + 1 ≤ k) := Lib.hid (fun k hk => by
          have h1 : w.heap.size + 1 ≤ w1.heap.size := by have := HC1.out.size; simpa using this
          have h3 := HT1.out
          have h4 := HT4.out
          have h5 := HT5.out
          rcases hf6 _ hk with (hk | hk | hk) | hk
          · exact Nat.le_trans h1 (HF.out k hk)
          · exact Nat.le_trans h1 (Nat.le_trans HT1.out (HG.out k hk))
          · have := HRL.out; omega
          · omega)
        clear hch hf6 hx6 h0
        go_upto_region 12 with (first
          | (go_at_call 17; refine (sStored HX6.out).mono ?_; rintro e w7 ⟨v2, lb, rfl, hlb, hrow2, hb7⟩
             obtain rfl : lb = l := Sp.Rows.unique hlb HRW.out
             obtain ⟨qa2, qc2, hv2, hst2⟩ := stoAt_row hrow2 (by rw [HST.out.len]; exact HST.out.few)
             rw [HST.out.len] at hv2 hst2
             subst hv2
             have HC7 := Lib.hid (HC6.out.trans (hb7.mono (by have := HC6.out.size; simpa using this)))
             have HX7 := Lib.hid (HX6.out.below hb7)
             have HST7 := Lib.hid (HST6.out.below hb7)
             have HST72 := Lib.hid hst2
             have HR2 := Lib.hid hrow2.lt
             clear hb7 hrow2 hst2 hlb)
          | (go_at_call 12; refine (sSteps HX7.out.sp).mono ?_; rintro e w8 ⟨v8, rfl, hrow8, F8, -, -, -, hch8⟩
             obtain ⟨sa, sc, hv8⟩ : ∃ a c, v8 = .slice a 0 c := by
               obtain ⟨a, c, hv, -⟩ := ownsRow_rd hrow8 (stCells_one _)
               rw [HMX.out.2.1] at hv
               exact ⟨a, c, hv⟩
             subst hv8
             have HC8 := Lib.hid (HC7.out.trans (hch8.below (by have := HC7.out.size; simpa using this) HFG.out))
             have HSA := Lib.hid (lsame_any w8 qa qa2 q qc qc2 lb (HST7.out.chg hch8 HRN.out) (HST72.out.chg hch8 (fun p' hp' hk => by
               obtain ⟨b1, b2⟩ := HR2.out p'.block (by rw [hp']; rfl)
               exact absurd (HX6.out.sp.lt hk) (by omega))))
             clear hrow8 hch8))
        obtain ⟨g0, g1, g2, g3⟩ := HBOX.out _ HC8.out
        have HB8 : Hid (Below w.heap.size w w8) := Lib.hid ((HNEW.out _).trans (HC8.out.mono (Nat.le_succ _)))
        by_cases hz : mo = 0
        · have hz1 : (mo == 0) = true := by rw [hz]; rfl
          go_wp2_with (go_at_call 18; refine HSA.out.mono ?_; intro e w9 hq; have HB9 := Lib.hid hq.below; obtain ⟨rfl, -⟩ := hq)
          go_ret
          exact ⟨rfl, HB8.out.trans (HB9.out.mono HB8.out.size)⟩
        · have hz1 : (mo == 0) = false := by simpa using hz
          have hle : ((usedN X.ents : Nat) : Int) ≤ mo := by
            rcases H0.out with h0 | h0
            · rw [HMP.out.1] at h0; exact absurd h0 hz
            · rwa [HMP.out.1] at h0
          go_wp2_with (go_at_call 18; refine HSA.out.mono ?_; intro e w9 hq; have HB9 := Lib.hid hq.below; obtain ⟨rfl, -⟩ := hq)
          go_ret
          exact ⟨rfl, HB8.out.trans (HB9.out.mono HB8.out.size)⟩
      · have HC6 := Lib.hid (HTT.out _ hch)
        have HX6 := Lib.hid hx6
        have HST6 : Hid (StoAt w6 qa q l) := Lib.hid (HST5.out.chg hch (fun p' hp' => by
          obtain ⟨b1, b2⟩ := HRB.out p'.block (by rw [hp']; rfl)
          rintro (hk | hk | hk)
          · exact absurd (HSX3.out.sp.lt hk) (by omega)
          · exact absurd (HPL.out.lt hk) (by omega)
          · have := HRL.out; omega))
        have HRN : Hid (∀ p', qa = some p' → ¬ F' p'.block) := Lib.hid (fun p' hp' hk => by
          obtain ⟨b1, b2⟩ := HRB.out p'.block (by rw [hp']; rfl)
          rcases hf6 _ hk with (hk | hk | hk) | hk
          · exact absurd (HSX3.out.sp.lt hk) (by omega)
          · exact absurd (HPL.out.lt hk) (by omega)
          · have := HRL.out; omega
          · have := HT5.out; omega)
        have HFG : Hid (∀ k, F' k → w.heap.size + 1 ≤ k) := Lib.hid (fun k hk => by
          have h1 : w.heap.size + 1 ≤ w1.heap.size := by have := HC1.out.size; simpa using this
          have h3 := HT1.out
          have h4 := HT4.out
          have h5 := HT5.out
          rcases hf6 _ hk with (hk | hk | hk) | hk
          · exact Nat.le_trans h1 (HF.out k hk)
          · exact Nat.le_trans h1 (Nat.le_trans HT1.out (HG.out k hk))
          · have := HRL.out; omega
          · omega)
        have hmo : ¬ (mo = 0) := by rw [← HMP.out.1]; exact hm.1
        have hmu : mo < ((usedN X.ents : Nat) : Int) := by rw [← HMP.out.1]; exact hm.2
        have HRM := Lib.hid hrm
        have HFR := Lib.hid hfr
        have HP6 := Lib.hid (hp6.trans HMP.out.2)
        have HN6 := Lib.hid hn6
        have HZ := Lib.hid hz
        have HCODE : Hid ((code = 0 ∧ ((usedN Y.ents : Nat) : Int) ≤ mo) ∨ (code = 4 ∧ mo < ((usedN Y.ents : Nat) : Int) ∧ (policy ≠ 0 → ∀ k, Y.rank k = none))) := Lib.hid (by rw [← HMP.out.1, ← HMP.out.2]; exact hcode)
        clear hch hf6 hx6 hm hrm hfr hp6 hn6 hz hcode
        go_upto_region 12 with (first
          | (go_at_call 17; refine (sStored HX6.out).mono ?_; rintro e w7 ⟨v2, lb, rfl, hlb, hrow2, hb7⟩
             have hl8 : lb.length ≤ 8388608 := by
               rw [hlb.1.length_eq]
               have := HX6.out.sp.good.few
               unfold Sp.mass at this
               omega
             obtain ⟨qa2, qc2, hv2, hst2⟩ := stoAt_row hrow2 hl8
             obtain ⟨q2, hq2⟩ : ∃ q2, lb.length = q2 := ⟨_, rfl⟩
             rw [hq2] at hv2 hst2
             subst hv2
             have HQ2 := Lib.hid hq2
             have HCB := Lib.hid (row_cap hrow2)
             have HC7 := Lib.hid (HC6.out.trans (hb7.mono (by have := HC6.out.size; simpa using this)))
             have HX7 := Lib.hid (HX6.out.below hb7)
             have HST7 := Lib.hid (HST6.out.below hb7)
             have HST72 := Lib.hid hst2
             have HLB := Lib.hid hlb
             have HR2 := Lib.hid hrow2.lt
             clear hb7 hrow2 hst2 hlb hl8 hq2)
          | (go_at_call 12; refine (sSteps HX7.out.sp).mono ?_; rintro e w8 ⟨v8, rfl, hrow8, F8, h8, hf8, -, hch8⟩
             obtain ⟨sa, sc, hv8⟩ : ∃ a c, v8 = .slice a Y.steps.length c := by
               obtain ⟨a, c, hv, -⟩ := ownsRow_rd hrow8 (stCells_one _)
               exact ⟨a, c, hv⟩
             obtain ⟨q3, hq3⟩ : ∃ q3, Y.steps.length = q3 := ⟨_, rfl⟩
             subst hv8
             rw [hq3] at hrow8
             have HQ3 := Lib.hid hq3
             have HROW := Lib.hid hrow8
             have HC8 := Lib.hid (HC7.out.trans (hch8.below (by have := HC7.out.size; simpa using this) HFG.out))
             have HSA := Lib.hid (HST7.out.chg hch8 HRN.out)
             have HSB := Lib.hid (HST72.out.chg hch8 (fun p' hp' hk => by
               obtain ⟨b1, b2⟩ := HR2.out p'.block (by rw [hp']; rfl)
               exact absurd (HX6.out.sp.lt hk) (by omega)))
             have HX8 := Lib.hid h8
             have HF8 : Hid (∀ k, F8 k → w.heap.size + 1 ≤ k) := Lib.hid fun k hk => HFG.out k (hf8 k hk)
             clear hrow8 hch8 h8 hf8))
        obtain ⟨g0, g1, g2, g3⟩ := HBOX.out _ HC8.out
        have HB8 : Hid (Below w.heap.size w w8) := Lib.hid ((HNEW.out _).trans (HC8.out.mono (Nat.le_succ _)))
        have hz1 : (mo == 0) = false := by simpa using hmo
        have hle : ¬ ((usedN X.ents : Nat) : Int) ≤ mo := by omega
        obtain ⟨uy, huy⟩ : ∃ uy, usedN Y.ents = uy := ⟨_, rfl⟩
        have HU8 : ∀ nq, Hid (Calls Tryz.prog 8 #[.pointer (some ⟨s, 0, none⟩)] (w8.drewN nq) fun e w' => e = .returned (.int .i64 (uy : Nat)) ∧ w' = w8.drewN nq) := fun nq => Lib.hid ((sUsed (HX8.out.below (belowDN _ _))).mono fun e w' h => ⟨by rw [h.1, ← huy], h.2.symm⟩)
        rw [huy] at HCODE
        clear hmo hmu
        go_upto_region 14 with fail
        go_cut [96] from 81 to 96 (fun b wx => b = .bool false ∧ ∃ nq, wx = w8.drewN nq)
        case first =>
          rcases HCODE.out with ⟨rfl, hu⟩ | ⟨rfl, hu, -⟩
          · go_quiet (first | (go_at_call 8; refine Calls.quiet_of_same (HU8 _).out))
            go_wp2_with fail
            go_meet
            exact ⟨rfl, _, rfl⟩
          · have hu2 : ¬ (uy : Int) ≤ mo := by omega
            have hu3 : decide ((uy : Int) ≤ mo) = false := decide_eq_false hu2
            go_quiet (first | (go_at_call 8; refine Calls.quiet_of_same (HU8 _).out))
            go_wp2_with fail
            go_meet
            exact ⟨rfl, _, rfl⟩
        case rest =>
          obtain ⟨rfl, nq, rfl⟩ := hcut
          go_upto_region 18 with fail
          have HB9 := Lib.hid (belowDN w8 nq)
          generalize w8.drewN nq = w9 at HB9 ⊢
          have hpol : 0 ≤ policy ∧ policy ≤ 2 := HPOL.out
          go_loopw [18, 19] (fun lf i wr => ∃ (j lv : Nat), j ≤ q2 ∧ i = .int .i64 j ∧ lf = .int .i64 lv ∧ lv ≤ j ∧ Hid (code = 4 → lv = 0) ∧ Below w8.heap.size w8 wr) (fun _ i _ => q2 - (intOf i).toNat)
          case atStart => exact ⟨0, 0, Nat.zero_le _, rfl, rfl, Nat.le_refl _, Lib.hid fun _ => rfl, HB9.out⟩
          case round =>
            obtain ⟨j, lv, hj, rfl, rfl, hlv, hl4, hbr⟩ := hrel
            have HBR := Lib.hid hbr
            have hq28 := HST72.out.few
            clear hbr
            by_cases hlt : j < q2
            · have hlti : (j : Int) < (q2 : Int) := by omega
              obtain ⟨e, he⟩ : ∃ e, lb[j]? = some e := ⟨_, List.getElem?_eq_getElem (by rw [HQ2.out]; exact hlt)⟩
              obtain ⟨at_, hat1, hat2, hat3⟩ := room_behind HRW.out HLB.out HRM.out he
              rw [HST.out.len] at hat1
              obtain ⟨p2, hp2, -⟩ := HSB.out.cells j e he
              obtain ⟨p1, hp1, -⟩ := HSA.out.cells at_ e hat2
              subst hp1 hp2
              have HAT2 := Lib.hid hat2
              have HEQ := Lib.hid he
              have HFRE : Hid (e.past X.now = false) := Lib.hid (by
                rw [← HN6.out]; exact HFR.out e (HLB.out.1.mem_iff.1 (List.mem_of_getElem? he)))
              have HST9 : ∀ W, Hid (Below w8.heap.size w8 W → Calls Tryz.prog 19 #[.slice (some p1) q qc, .string ⟨e.key.toArray⟩] W (QRet W (.int .i64 at_))) := fun W => Lib.hid fun hW =>
                stored_any W (some p1) q qc l e.key at_ (HSA.out.below hW) at_ (by omega) hat3 (fun e' he' => by rw [HAT2.out] at he'; cases he'; rfl) (fun _ => rfl) (fun h => by omega)
              have HLS : ∀ W k k', Hid (Below w8.heap.size w8 W → Calls Tryz.prog 18 #[.slice (some (p1.add (at_ * 7))) 1 k, .slice (some (p2.add (j * 7))) 1 k'] W (QRet W (.bool true))) := fun W k k' => Lib.hid fun hW =>
                lsame_any W _ _ 1 k k' [e] ((HSA.out.below hW).one HAT2.out) ((HSB.out.below hW).one HEQ.out)
              have HNW : ∀ W, Hid (Below w8.heap.size w8 W → Calls Tryz.prog 21 #[.pointer (some ⟨s, 0, none⟩)] W fun r w' => r = .returned (.int .i64 X.now) ∧ W = w') := fun W => Lib.hid fun hW => by
                refine (sNow (HX8.out.below hW)).mono ?_
                rintro r w' ⟨rfl, rfl⟩
                exact ⟨by show Ending.returned (.int .i64 (Y.now : Int)) = _; rw [HN6.out], rfl⟩
              have HPA : ∀ W, Hid (Calls Tryz.prog 20 #[.agg #[.string ⟨e.key.toArray⟩, .int .i64 1, .string ⟨(zeros e.cost).toArray⟩, .slice none 0 0, .slice none 0 0, .slice none 0 0, .int .i64 e.dl], .int .i64 X.now] W (PastQ W false)) := fun W => Lib.hid (lpast_seven W e X.now false HFRE.out)
              have HK7 : ∀ W, Hid (Below w8.heap.size w8 W → Stored7 W (p2.add (j * 7)) e) := fun W => Lib.hid fun hW => (HSB.out.below hW).seven HEQ.out
              obtain ⟨f0, f1, f2, f3, f4, f5, f6⟩ := (HK7 wr).out HBR.out
              have hca : q ≤ qc ∧ qc ≤ 9223372036854775807 := by have := HST.out.len; have := HCA.out; omega
              have hcb : q2 ≤ qc2 ∧ qc2 ≤ 9223372036854775807 := by have := HQ2.out; have := HCB.out; omega
              have hati : (at_ : Int) < (q : Int) := by omega
              have hat0 : ((at_ : Int) < 0) = False := by simp
              have hac1 : (at_ : Int) + 1 ≤ (qc : Int) := by omega
              have hw1 : IntKind.i64.wrap ((at_ : Int) + 1) = (at_ : Int) + 1 := by rw [IntKind.wrap_i64]; omega
              have hw2 : IntKind.i64.wrap ((j : Int) + 1) = (j : Int) + 1 := by rw [IntKind.wrap_i64]; omega
              have hge1 : (0 : Int) ≤ (at_ : Int) := by omega
              have hge2 : (0 : Int) ≤ (j : Int) := by omega
              have hle1 : (at_ : Int) ≤ (at_ : Int) + 1 := by omega
              have hle2 : (j : Int) ≤ (j : Int) + 1 := by omega
              have hac2 : ¬ qc = at_ := by omega
              have hac3 : ¬ at_ = qc := by omega
              have hbc1 : (j : Int) + 1 ≤ (qc2 : Int) := by omega
              have hbc2 : ¬ qc2 = j := by omega
              have hbc3 : ¬ j = qc2 := by omega
              clear he hat2 hat3
              go_upto_region 21 with (first
                | (go_at_call 19; refine ((HST9 _).out HBR.out).mono ?_; intro e' w10 hq10; obtain ⟨rfl, nq10, rfl⟩ := hq10))
              have HBR2 := Lib.hid (HBR.out.trans ((belowDN wr nq10).mono HBR.out.size))
              generalize wr.drewN nq10 = wr2 at HBR2 ⊢
              clear f0 f1 f2 f3 f4 f5 f6
              obtain ⟨f0, f1, f2, f3, f4, f5, f6⟩ := (HK7 wr2).out HBR2.out
              go_cut [134] from 110 to 134 (fun b wx => b = .bool false ∧ Below w8.heap.size w8 wx)
              case first =>
                go_region_held3 (fun w' => w'.cell? (p2.add (j * 7)) = some (.string ⟨e.key.toArray⟩) ∧ w'.cell? ⟨(p2.add (j * 7)).block, (p2.add (j * 7)).off + 1, none⟩ = some (.int .i64 1) ∧ w'.cell? ⟨(p2.add (j * 7)).block, (p2.add (j * 7)).off + 2, none⟩ = some (.string ⟨(zeros e.cost).toArray⟩) ∧ w'.cell? ⟨(p2.add (j * 7)).block, (p2.add (j * 7)).off + 3, none⟩ = some (.slice none 0 0) ∧ w'.cell? ⟨(p2.add (j * 7)).block, (p2.add (j * 7)).off + 4, none⟩ = some (.slice none 0 0) ∧ w'.cell? ⟨(p2.add (j * 7)).block, (p2.add (j * 7)).off + 5, none⟩ = some (.slice none 0 0) ∧ w'.cell? ⟨(p2.add (j * 7)).block, (p2.add (j * 7)).off + 6, none⟩ = some (.int .i64 e.dl))
                  (exact (HK7 _).out (by first | exact HBR2.out | exact HBR2.out.drew | assumption))
                  (first
                  | (go_at_call 18; refine ((HLS _ _ _).out (by first | exact HBR2.out | exact HBR2.out.drew)).mono ?_; intro e' w11 hq11; have hb11 : Below w8.heap.size w8 w11 := HBR2.out.drew.trans (hq11.below.mono HBR2.out.size); obtain ⟨rfl, -⟩ := hq11)
                  | (go_at_call 21; refine ((HNW _).out (by first | assumption | exact HBR2.out | exact HBR2.out.drew)).mono ?_; rintro e' w12 ⟨rfl, rfl⟩)
                  | (go_at_call 20; refine (HPA _).out.mono ?_; rintro e' w13 ⟨rfl, hb13⟩; have hb14 : Below w8.heap.size w8 w13 := hb11.trans (hb13.mono hb11.size)))
                all_goals (go_wp2_with fail)
                all_goals go_meet
                all_goals exact ⟨rfl, hb14⟩
              case rest =>
                obtain ⟨rfl, hbc⟩ := hcut
                obtain ⟨k0, k1, k2', k3'⟩ := HBOX.out _ (HC8.out.trans (hbc.mono (by have := HC8.out.size; simpa using this)))
                obtain ⟨f0', f1', f2', f3', f4', f5', f6'⟩ := (HK7 _).out hbc
                have HLEFT : Hid (code = 4 → policy ≠ 1 ∧ (policy ≠ 0 → e.dl = 0)) := Lib.hid (fun h4 => by
                  rcases HCODE.out with ⟨h0, -⟩ | ⟨-, -, hr⟩
                  · omega
                  · have h5 : policy ≠ 0 → Y.policy ≠ 1 ∧ e.dl = 0 := fun h => room_left HLB.out HX6.out.sp.good (hr h) HEQ.out
                    refine ⟨fun h => ?_, fun h => (h5 h).2⟩
                    have := (h5 (by omega)).1
                    rw [HP6.out] at this
                    exact this h)
                have HBC := Lib.hid hbc
                have HL4 := hl4
                obtain ⟨dl, hdl⟩ : ∃ dl, e.dl = dl := ⟨_, rfl⟩
                rw [hdl] at f6' HLEFT
                have hmeas : q2 - (j + 1) < q2 - j := by omega
                clear hbc hdl f0 f1 f2 f3 f4 f5 f6 g0 g1 g2 g3 hl4
                have hp3 : policy = 0 ∨ policy = 1 ∨ policy = 2 := by omega
                rcases hp3 with rfl | rfl | rfl
                · go_wp2_with fail
                  go_roundw
                  case rel => exact ⟨j + 1, lv, by omega, by go_num, rfl, by omega, HL4, HBC.out⟩
                  case measure => simp [intOf]; omega
                · go_wp2_with fail
                  go_roundw
                  case rel => exact ⟨j + 1, lv + 1, by omega, by go_num, by go_num, by omega, Lib.hid (fun h => absurd rfl (HLEFT.out h).1), HBC.out⟩
                  case measure => simp [intOf]; omega
                · by_cases hd0 : dl = 0
                  · have hdb : ((dl : Int) != 0) = false := by simp [hd0]
                    have hdb2 : decide (dl = 0) = true := by simp [hd0]
                    clear hd0
                    go_wp2_with fail
                    go_roundw
                    case rel => exact ⟨j + 1, lv, by omega, by go_num, rfl, by omega, HL4, HBC.out⟩
                    case measure => simp [intOf]; omega
                  · have hdb : ((dl : Int) != 0) = true := by simpa using hd0
                    have HD0 := Lib.hid hd0
                    clear hd0
                    go_wp2_with fail
                    go_roundw
                    case rel => exact ⟨j + 1, lv + 1, by omega, by go_num, by go_num, by omega, Lib.hid (fun h => absurd ((HLEFT.out h).2 (by decide)) HD0.out), HBC.out⟩
                    case measure => simp [intOf]; omega
            · obtain rfl : j = q2 := by omega
              clear hj
              go_upto_region 25 with fail
              have hlen : (q : Int) = (j : Int) + (q3 : Int) := by
                have a1 := HRM.out.len
                have a2 := HRW.out.1.length_eq
                have a3 := HLB.out.1.length_eq
                have a4 := HST.out.len
                have a5 := HQ2.out
                have a6 := HQ3.out
                omega
              have HLEN := Lib.hid hlen
              have hq8 := HST.out.few
              have hwl : IntKind.i64.wrap ((j : Int) + (q3 : Int)) = (q : Int) := by rw [IntKind.wrap_i64]; omega
              have hlb : ((q : Int) != (q : Int)) = false := by simp
              clear hlen
              go_cut [168] from 153 to 168 (fun b wx => b = .bool false ∧ wx = wr)
              case first =>
                rcases HCODE.out with ⟨rfl, -⟩ | ⟨rfl, -, -⟩
                · go_wp2_with fail
                  go_meet
                  exact ⟨rfl, rfl⟩
                · obtain rfl : lv = 0 := hl4.out rfl
                  go_wp2_with fail
                  go_meet
                  exact ⟨rfl, rfl⟩
              case rest =>
                obtain ⟨rfl, rfl⟩ := hcut
                clear hwl hlb
                go_upto_region 29 with fail
                go_loopw [21, 22] (fun ev i wx => ∃ m : Nat, m ≤ q3 ∧ i = .int .i64 m ∧ ev = .int .i64 (evN Y.steps m : Nat) ∧ Below w8.heap.size w8 wx) (fun _ i _ => q3 - (intOf i).toNat)
                case atStart => exact ⟨0, Nat.zero_le _, rfl, rfl, HBR.out⟩
                case round =>
                  obtain ⟨m, hm, rfl, rfl, hbx⟩ := hrel
                  have HBX := Lib.hid hbx
                  have hq38 : q3 ≤ 8388608 := by have := HLEN.out; omega
                  have hev8 : evN Y.steps m ≤ 8388608 := Nat.le_trans (evN_le _ _) (by omega)
                  clear hbx
                  by_cases hlt : m < q3
                  · have hlti : (m : Int) < (q3 : Int) := by omega
                    obtain ⟨st, hst⟩ : ∃ st, Y.steps[m]? = some st := ⟨_, List.getElem?_eq_getElem (by rw [HQ3.out]; exact hlt)⟩
                    obtain ⟨at_, e, hat1, hat2, hkey, hat3, hat4, hcase⟩ := room_step HRW.out HLB.out HRM.out (fun h => HZ.out h) hst
                    rw [HST.out.len] at hat1
                    obtain ⟨p1, hp1, -⟩ := HSA.out.cells at_ e hat2
                    obtain ⟨kd, ky⟩ := st
                    obtain ⟨ps, hps, s0, s1⟩ := step_cells (ownsRow_belowAll HROW.out HBX.out) hst
                    simp only at s0 s1 hkey hcase hat3 hat4
                    subst hp1 hps hkey
                    have HAT2 := Lib.hid hat2
                    have HSTT := Lib.hid hst
                    have HST9 : ∀ W, Hid (Below w8.heap.size w8 W → Calls Tryz.prog 19 #[.slice (some p1) q qc, .string ⟨e.key.toArray⟩] W (QRet W (.int .i64 at_))) := fun W => Lib.hid fun hW =>
                      stored_any W (some p1) q qc l e.key at_ (HSA.out.below hW) at_ (by omega) hat3 (fun e' he' => by rw [HAT2.out] at he'; cases he'; rfl) (fun _ => rfl) (fun h => by omega)
                    have HSN9 : ∀ W, Hid (Below w8.heap.size w8 W → Calls Tryz.prog 19 #[.slice qa2 j qc2, .string ⟨e.key.toArray⟩] W (QRet W (.int .i64 (-1)))) := fun W => Lib.hid fun hW =>
                      stored_any W qa2 j qc2 lb e.key (-1) (HSB.out.below hW) j (Nat.le_refl _) (fun i' e' _ he' => hat4 i' e' he') (fun e' he' => by
                        have h1 := (List.getElem?_eq_some_iff.1 he').1
                        rw [HQ2.out] at h1
                        exact absurd h1 (Nat.lt_irrefl _)) (fun h => absurd h (Nat.lt_irrefl _)) (fun _ => rfl)
                    have HNW : ∀ W, Hid (Below w8.heap.size w8 W → Calls Tryz.prog 21 #[.pointer (some ⟨s, 0, none⟩)] W fun r w' => r = .returned (.int .i64 X.now) ∧ W = w') := fun W => Lib.hid fun hW => by
                      refine (sNow (HX8.out.below hW)).mono ?_
                      rintro r w' ⟨rfl, rfl⟩
                      exact ⟨by show Ending.returned (.int .i64 (Y.now : Int)) = _; rw [HN6.out], rfl⟩
                    have HPA : ∀ W b, Hid (e.past X.now = b → Calls Tryz.prog 20 #[.agg #[.string ⟨e.key.toArray⟩, .int .i64 1, .string ⟨(zeros e.cost).toArray⟩, .slice none 0 0, .slice none 0 0, .slice none 0 0, .int .i64 e.dl], .int .i64 X.now] W (PastQ W b)) := fun W b => Lib.hid (lpast_seven W e X.now b)
                    have HK7 : ∀ W, Hid (Below w8.heap.size w8 W → Stored7 W (p1.add (at_ * 7)) e) := fun W => Lib.hid fun hW => (HSA.out.below hW).seven HAT2.out
                    have HKB : ∀ W, Hid (Below w8.heap.size w8 W → W.cell? ⟨w.heap.size, 2, none⟩ = some (.int .i64 policy)) := fun W => Lib.hid fun hW => (HBOX.out _ (HC8.out.trans (hW.mono (by have := HC8.out.size; simpa using this)))).2.2.1
                    have HKS : ∀ W, Hid (Below w8.heap.size w8 W → W.cell? (ps.add (m * 2)) = some (.int .i64 kd)) := fun W => Lib.hid fun hW => by
                      obtain ⟨ps', hps', z0, -⟩ := step_cells (ownsRow_belowAll HROW.out hW) HSTT.out
                      cases hps'; exact z0
                    have hca : q ≤ qc ∧ qc ≤ 9223372036854775807 := by have := HST.out.len; have := HCA.out; omega
                    have hati : (at_ : Int) < (q : Int) := by omega
                    have hat0 : ((at_ : Int) < 0) = False := by simp
                    have hge1 : (0 : Int) ≤ (at_ : Int) := by omega
                    have HCASE := Lib.hid hcase
                    clear hst hat2 hat3 hat4 hcase g0 g1 g2 g3
                    have hkk : kd = 1 ∨ kd = 2 := by rcases HCASE.out with h | h; exact .inl h.1; exact .inr h.1
                    rcases hkk with rfl | rfl
                    · have HPT : Hid (e.past X.now = true) := Lib.hid (by rcases HCASE.out with h | h; exact h.2; exact absurd h.1 (by decide))
                      have HEV : Hid (evN Y.steps (m + 1) = evN Y.steps m) := Lib.hid (by rw [evN_succ HSTT.out]; rfl)
                      go_upto_region 32 with (go_at_call 19; refine ((HST9 _).out HBX.out).mono ?_; intro e' w10 hq10; have HB10 := Lib.hid (HBX.out.trans (hq10.below.mono HBX.out.size)); obtain ⟨rfl, -⟩ := hq10)
                      obtain ⟨ps', hps', s0', s1'⟩ := step_cells (ownsRow_belowAll HROW.out HB10.out) HSTT.out
                      cases hps'
                      clear s0 s1
                      go_upto_region 34 with (go_at_call 19; refine ((HSN9 _).out HB10.out).mono ?_; intro e' w11 hq11; have HB11 := Lib.hid (HB10.out.trans (hq11.below.mono HB10.out.size)); obtain ⟨rfl, -⟩ := hq11)
                      obtain ⟨ps2, hps2, t0, t1⟩ := step_cells (ownsRow_belowAll HROW.out HB11.out) HSTT.out
                      cases hps2
                      clear s0' s1'
                      go_upto_region 35 with fail
                      obtain ⟨f0, f1, f2, f3, f4, f5, f6⟩ := (HK7 _).out HB11.out
                      go_cut [207] from 200 to 207 (fun b wx => b = .bool false ∧ Below w8.heap.size w8 wx)
                      case first =>
                        go_region_held3 (fun w' => w'.cell? (p1.add (at_ * 7)) = some (.string ⟨e.key.toArray⟩) ∧ w'.cell? ⟨(p1.add (at_ * 7)).block, (p1.add (at_ * 7)).off + 1, none⟩ = some (.int .i64 1) ∧ w'.cell? ⟨(p1.add (at_ * 7)).block, (p1.add (at_ * 7)).off + 2, none⟩ = some (.string ⟨(zeros e.cost).toArray⟩) ∧ w'.cell? ⟨(p1.add (at_ * 7)).block, (p1.add (at_ * 7)).off + 3, none⟩ = some (.slice none 0 0) ∧ w'.cell? ⟨(p1.add (at_ * 7)).block, (p1.add (at_ * 7)).off + 4, none⟩ = some (.slice none 0 0) ∧ w'.cell? ⟨(p1.add (at_ * 7)).block, (p1.add (at_ * 7)).off + 5, none⟩ = some (.slice none 0 0) ∧ w'.cell? ⟨(p1.add (at_ * 7)).block, (p1.add (at_ * 7)).off + 6, none⟩ = some (.int .i64 e.dl))
                          (exact (HK7 _).out (by first | exact HB11.out | exact HB11.out.drew | assumption))
                          (first
                          | (go_at_call 21; refine ((HNW _).out (by first | exact HB11.out | exact HB11.out.drew)).mono ?_; rintro e' w12 ⟨rfl, rfl⟩)
                          | (go_at_call 20; refine ((HPA _ true).out HPT.out).mono ?_; rintro e' w13 ⟨rfl, hb13⟩; have hb14 : Below w8.heap.size w8 w13 := HB11.out.drew.trans (hb13.mono HB11.out.size)))
                        all_goals (go_wp2_with fail)
                        all_goals go_meet
                        all_goals exact ⟨rfl, hb14⟩
                      case rest =>
                        obtain ⟨rfl, hbc⟩ := hcut
                        have HBC := Lib.hid hbc
                        clear hbc f0 f1 f2 f3 f4 f5 f6
                        go_wp2_with fail
                        go_roundw
                        case rel => exact ⟨m + 1, by omega, by go_num, by rw [HEV.out], HBC.out⟩
                        case measure => simp [intOf]; omega
                    · have HPT : Hid (e.past X.now = false) := Lib.hid (by rcases HCASE.out with h | h; exact absurd h.1 (by decide); exact h.2.1)
                      have HEV : Hid (evN Y.steps (m + 1) = evN Y.steps m + 1) := Lib.hid (by rw [evN_succ HSTT.out]; rfl)
                      have hpc : policy = 1 ∨ (policy = 2 ∧ ¬ e.dl = 0) := by
                        rcases HCASE.out with h | ⟨-, -, h3, h4⟩
                        · exact absurd h.1 (by decide)
                        · rw [HMP.out.2] at h3 h4
                          omega
                      go_upto_region 32 with (go_at_call 19; refine ((HST9 _).out HBX.out).mono ?_; intro e' w10 hq10; have HB10 := Lib.hid (HBX.out.trans (hq10.below.mono HBX.out.size)); obtain ⟨rfl, -⟩ := hq10)
                      obtain ⟨ps', hps', s0', s1'⟩ := step_cells (ownsRow_belowAll HROW.out HB10.out) HSTT.out
                      cases hps'
                      clear s0 s1
                      go_upto_region 34 with (go_at_call 19; refine ((HSN9 _).out HB10.out).mono ?_; intro e' w11 hq11; have HB11 := Lib.hid (HB10.out.trans (hq11.below.mono HB10.out.size)); obtain ⟨rfl, -⟩ := hq11)
                      obtain ⟨ps2, hps2, t0, t1⟩ := step_cells (ownsRow_belowAll HROW.out HB11.out) HSTT.out
                      cases hps2
                      clear s0' s1'
                      obtain ⟨f0, f1, f2, f3, f4, f5, f6⟩ := (HK7 _).out HB11.out
                      have fc := (HKB _).out HB11.out
                      go_upto_region 38 with fail
                      go_cut [242] from 210 to 242 (fun b wx => b = .bool false ∧ Below w8.heap.size w8 wx)
                      case first =>
                        rcases hpc with rfl | ⟨rfl, hdl0⟩
                        · first
                          | go_region_with (first
                              | (go_at_call 21; refine ((HNW _).out (by first | exact HB11.out | exact HB11.out.drew)).mono ?_; rintro e' w12 ⟨rfl, rfl⟩)
                              | (go_at_call 20; refine ((HPA _ false).out HPT.out).mono ?_; rintro e' w13 ⟨rfl, hb13⟩; have hb14 : Below w8.heap.size w8 w13 := HB11.out.drew.trans (hb13.mono HB11.out.size); have fc2 := (HKB _).out hb14))
                          | fail "region"
                          all_goals (go_wp2_with fail)
                          all_goals go_meet
                          all_goals exact ⟨rfl, hb14⟩
                        · have hdb : ((e.dl : Int) == 0) = false := by simpa using hdl0
                          have hdb2 : decide (e.dl = 0) = false := decide_eq_false hdl0
                          go_region_held3 (fun w' => w'.cell? ⟨w.heap.size, 2, none⟩ = some (.int .i64 2) ∧ w'.cell? (ps.add (m * 2)) = some (.int .i64 2) ∧ w'.cell? (p1.add (at_ * 7)) = some (.string ⟨e.key.toArray⟩) ∧ w'.cell? ⟨(p1.add (at_ * 7)).block, (p1.add (at_ * 7)).off + 1, none⟩ = some (.int .i64 1) ∧ w'.cell? ⟨(p1.add (at_ * 7)).block, (p1.add (at_ * 7)).off + 2, none⟩ = some (.string ⟨(zeros e.cost).toArray⟩) ∧ w'.cell? ⟨(p1.add (at_ * 7)).block, (p1.add (at_ * 7)).off + 3, none⟩ = some (.slice none 0 0) ∧ w'.cell? ⟨(p1.add (at_ * 7)).block, (p1.add (at_ * 7)).off + 4, none⟩ = some (.slice none 0 0) ∧ w'.cell? ⟨(p1.add (at_ * 7)).block, (p1.add (at_ * 7)).off + 5, none⟩ = some (.slice none 0 0) ∧ w'.cell? ⟨(p1.add (at_ * 7)).block, (p1.add (at_ * 7)).off + 6, none⟩ = some (.int .i64 e.dl))
                            (exact ⟨(HKB _).out (by first | exact HB11.out | exact HB11.out.drew | assumption), (HKS _).out (by first | exact HB11.out | exact HB11.out.drew | assumption), (HK7 _).out (by first | exact HB11.out | exact HB11.out.drew | assumption)⟩)
                            (first
                            | (go_at_call 21; refine ((HNW _).out (by first | exact HB11.out | exact HB11.out.drew)).mono ?_; rintro e' w12 ⟨rfl, rfl⟩)
                            | (go_at_call 20; refine ((HPA _ false).out HPT.out).mono ?_; rintro e' w13 ⟨rfl, hb13⟩; have hb14 : Below w8.heap.size w8 w13 := HB11.out.drew.trans (hb13.mono HB11.out.size)))
                          all_goals (go_wp2_with fail)
                          all_goals go_meet
                          all_goals exact ⟨rfl, hb14⟩
                      case rest =>
                        obtain ⟨rfl, hbc⟩ := hcut
                        have HBC := Lib.hid hbc
                        clear hbc f0 f1 f2 f3 f4 f5 f6
                        go_wp2_with fail
                        go_roundw
                        case rel => exact ⟨m + 1, by omega, by go_num, by rw [HEV.out]; go_num, HBC.out⟩
                        case measure => simp [intOf]; omega
                  · obtain rfl : m = q3 := by omega
                    have HFIN : Hid (evN Y.steps m = n) := Lib.hid (by rw [← HQ3.out, evN_all]; exact HRM.out.count)
                    have hev : ((evN Y.steps m : Nat) : Int) = (n : Int) := by rw [HFIN.out]
                    have HTO := Lib.hid (sTouched (HX8.out.below HBX.out))
                    rw [hev]
                    clear hev
                    go_wp2_with (go_at_call 22; refine HTO.out.mono ?_; rintro e' w14 ⟨tv, tl, rfl, hnd, hmem, hrowt, hto⟩
                                 have htl : tl.length = m := by rw [← HQ3.out]; exact HRM.out.touchedLen hnd hmem
                                 obtain ⟨ta, tc, rfl, -⟩ := ownsRow_rd hrowt (fun u hu => by obtain ⟨x, -, rfl⟩ := List.mem_map.1 hu; rfl)
                                 rw [htl]
                                 have HTC := Lib.hid hto.chg
                                 clear hnd hmem hrowt hto htl)
                    go_ret
                    refine ⟨rfl, ?_⟩
                    have hs8 : w.heap.size + 1 ≤ w8.heap.size := by have := HC8.out.size; simpa using this
                    have b1 := HC8.out.trans (HBX.out.mono hs8)
                    have b2 := b1.trans (HTC.out.below (Nat.le_trans hs8 HBX.out.size) HF8.out)
                    exact (HNEW.out _).trans (b2.mono (Nat.le_succ _))
end Go.Proofs.YtelbmphmihjgfaaGreat.DEnt
