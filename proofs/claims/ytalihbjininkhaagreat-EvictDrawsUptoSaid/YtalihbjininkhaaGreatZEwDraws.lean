/- EvictDraws: the walk. -/
import Derived.Test.YtalihbjininkhaaGreatZEwNil
import Derived.Test.YtalihbjininkhaaGreatZEwPrep
import Derived.Test.YtalihbjininkhaaGreatZRegRound
set_option linter.unusedVariables false
set_option linter.unusedSimpArgs false
namespace Go.Proofs.YtalihbjininkhaaGreat.DEnt
open Go.RowKit Pantry Go.Maps Go.Sort

/-- What Enforce answers, for the law of draws. -/
def EnfD (T : Nat → Prop) (r : Nat) (X : Sp) (D : List Nat) (w : World) (e : Ending) (w' : World) : Prop :=
  ∃ (n : Nat) (code : Int), e = .returned (.tuple #[.int .i64 n, .int .i64 code]) ∧ n ≤ X.ents.length ∧ SrcAt w' r (D.drop (n * X.samples.toNat)) ∧ Chg T w w'
theorem enf_draws {w : World} {s p r pm : Nat} {F G : Nat → Prop} {X : Sp} {D : List Nat} (hx : SpH w s F X) (hp : PlH w p G pm []) (hr : SrcAt w r D) (hD : ∀ x ∈ D, x < 18446744073709551616) :
    Calls Tryz.prog 17 #[.pointer (some ⟨s, 0, none⟩), .pointer (some ⟨p, 0, none⟩), .pointer (some ⟨r, 0, none⟩)] w (EnfD (EvT F G r) r X D w) := by
  have hs : X.swept.ents.length ≤ X.ents.length := by
    rw [X.swept_ents hx.good]
    exact List.length_filter_le _ _
  have H : Calls Tryz.prog 17 #[.pointer (some ⟨s, 0, none⟩), .pointer (some ⟨p, 0, none⟩), .pointer (some ⟨r, 0, none⟩)] w (EnfPost (EvT F G r) s p r pm X [] D w) := by
    by_cases hm : X.most ≠ 0 ∧ X.most < ((usedN X.ents : Nat) : Int)
    · exact enf_full hx hp hr (fun c hc => by cases hc) hD hm
    · refine enf_no hx hp hr ?_
      by_cases h0 : X.most = 0
      · exact .inl h0
      · exact .inr (Int.not_lt.1 fun h => hm ⟨h0, h⟩)
  refine H.mono ?_
  rintro e w' (⟨-, rfl, ht⟩ | ⟨-, n, Y, P', code, hg, ht, rfl, -⟩)
  · obtain ⟨F', G', -, -, h3, -⟩ := ht.ex
    exact ⟨0, 0, rfl, Nat.zero_le _, by simpa using h3, ht.chg⟩
  · obtain ⟨F', G', -, -, h3, -⟩ := ht.ex
    have := hg.len
    exact ⟨n, code, rfl, by omega, h3, ht.chg⟩
theorem draws_left (l n sm : Nat) (D : List Nat) (h : D.length = l) : l - (D.drop (n * sm)).length = Nat.min (n * sm) l := by
  rw [List.length_drop, h]
  simp only [Nat.min_def]
  split <;> omega
set_option maxRecDepth 100000 in
set_option maxHeartbeats 4000000 in
theorem draws_any (w : World) (c : Cfg) (hc : CfgOk c) (most : Int) (a2 : Option Addr) (n2 k2 : Nat) (l2 : List Nat) (hl2 : l2.length = n2) (hr2 : Rd w a2 (u64R l2)) (hn2 : n2 ≤ 17592186044416) (hx2 : ∀ x ∈ l2, x < 18446744073709551616)
    (a3 : Option Addr) (n3 k3 : Nat) (ls : List LSt) (hl3 : ScrAt w a3 n3 ls) (hn3 : n3 ≤ 1048576) :
    Calls Tryz.prog 5 #[Cfg.val c, .int .i64 most, .slice a2 n2 k2, .slice a3 n3 k3] w (OneBool true w) := by
  have HNEW := Lib.hid fun o => (Below.refl w.heap.size w).alloc (Nat.le_refl _) o
  have HW := Lib.hid wakes_any
  have HP := Lib.hid fun W => pNew_any W most
  obtain ⟨seed, mo, policy, samples⟩ := c
  have HBOX : Hid (∀ W, Below (w.heap.size + 1) (w.alloc (.cells #[.int .u64 seed, .int .i64 mo, .int .i64 policy, .int .i64 samples] 24)) W → W.cell? ⟨w.heap.size, 0, none⟩ = some (.int .u64 seed) ∧ W.cell? ⟨w.heap.size, 1, none⟩ = some (.int .i64 mo) ∧ W.cell? ⟨w.heap.size, 2, none⟩ = some (.int .i64 policy) ∧ W.cell? ⟨w.heap.size, 3, none⟩ = some (.int .i64 samples)) := Lib.hid fun W hW => by
    have h0 := Below.block hW w.heap.size (Nat.lt_succ_self _)
    rw [heap_alloc_new] at h0
    exact ⟨cell_of_row _ _ 0 _ _ _ h0, cell_of_row _ _ 1 _ _ _ h0, cell_of_row _ _ 2 _ _ _ h0, cell_of_row _ _ 3 _ _ _ h0⟩
  by_cases hb : Cfg.bad ⟨seed, mo, policy, samples⟩
  · have HB : Hid (∀ W, Below w.heap.size w W → Calls Tryz.prog 19 #[.agg #[.int .u64 seed, .int .i64 mo, .int .i64 policy, .int .i64 samples], .slice a3 n3 k3] W fun e w' => Below W.heap.size W w' ∧ e = .returned (.pointer none)) := Lib.hid fun W hW => by
      refine (built_any W _ hc a3 n3 k3 ls (hl3.below hW) hn3).mono ?_
      rintro e w' ⟨h1, ⟨-, rfl⟩ | ⟨h2, -⟩⟩
      · exact ⟨h1, rfl⟩
      · exact absurd hb h2
    have HPP : Hid (∀ W, Calls Tryz.prog 14 #[.int .i64 most] W fun e w' => Below W.heap.size W w' ∧ ∃ pp code, e = .returned (.tuple #[.pointer pp, .int .i64 code])) := Lib.hid fun W => by
      refine (HP.out W).mono ?_
      rintro e w' (⟨-, rfl, rfl⟩ | ⟨-, p, G, rfl, h2, h3, h4⟩)
      · exact ⟨Below.refl _ _, _, _, rfl⟩
      · exact ⟨h4, _, _, rfl⟩
    simp only [Cfg.val]
    clear hc hl2 hr2 hn2 hx2 hl3 hn3 hb
    go_enter Tryz.func5, Tryz.ntmps5
    go_wp2_with (first
      | (go_at_call 18; refine (HW.out _).mono ?_; rintro e w1 ⟨rfl, hb1⟩
         have HC1 := Lib.hid (hb1.mono (Nat.le_of_eq (by simp : w.heap.size + 1 = _)))
         have HB1 := Lib.hid ((HNEW.out _).trans (hb1.mono (by simp)))
         obtain ⟨d0, d1, d2, d3⟩ := HBOX.out _ HC1.out
         clear hb1)
      | (go_at_call 19; refine (HB.out _ HB1.out).mono ?_; rintro e w2 ⟨hb2, rfl⟩
         have HB2 := Lib.hid (HB1.out.trans (hb2.mono HB1.out.size))
         clear hb2)
      | (go_at_call 14; refine (HPP.out _).mono ?_; rintro e w3 ⟨hb3, pp, code, rfl⟩
         have HB3 := Lib.hid (HB2.out.trans (hb3.mono HB2.out.size))
         clear hb3))
    go_ret
    exact ⟨rfl, HB3.out⟩
  · have HB : Hid (∀ W, Below w.heap.size w W → Calls Tryz.prog 19 #[.agg #[.int .u64 seed, .int .i64 mo, .int .i64 policy, .int .i64 samples], .slice a3 n3 k3] W fun e w' => Below W.heap.size W w' ∧ ∃ s F X, e = .returned (.pointer (some ⟨s, 0, none⟩)) ∧ SpX w' s F X ∧ X.samples = samples ∧ X.mass ≤ 5 * n3 ∧ ∀ k, F k → W.heap.size ≤ k) := Lib.hid fun W hW => by
      refine (built_any W _ hc a3 n3 k3 ls (hl3.below hW) hn3).mono ?_
      rintro e w' ⟨h1, ⟨h2, -⟩ | ⟨-, s, F, X, rfl, h3, -, -, h4, h5, h6⟩⟩
      · exact absurd h2 hb
      · exact ⟨h1, s, F, X, rfl, h3, h4.2.2.1, h5, h6⟩
    by_cases hm : most < 1 ∨ 16 < most
    · have HPP : Hid (∀ W, Calls Tryz.prog 14 #[.int .i64 most] W fun e w' => e = .returned (.tuple #[.pointer none, .int .i64 3]) ∧ W = w') := Lib.hid fun W => by
        refine (HP.out W).mono ?_
        rintro e w' (⟨-, rfl, rfl⟩ | ⟨h1, -⟩)
        · exact ⟨rfl, rfl⟩
        · omega
      simp only [Cfg.val]
      clear hc hl2 hr2 hn2 hx2 hl3 hn3 hb hm
      go_enter Tryz.func5, Tryz.ntmps5
      go_wp2_with (first
        | (go_at_call 18; refine (HW.out _).mono ?_; rintro e w1 ⟨rfl, hb1⟩
           have HC1 := Lib.hid (hb1.mono (Nat.le_of_eq (by simp : w.heap.size + 1 = _)))
           have HB1 := Lib.hid ((HNEW.out _).trans (hb1.mono (by simp)))
           obtain ⟨d0, d1, d2, d3⟩ := HBOX.out _ HC1.out
           clear hb1)
        | (go_at_call 19; refine (HB.out _ HB1.out).mono ?_; rintro e w2 ⟨hb2, s, F, X, rfl, -⟩
           have HB2 := Lib.hid (HB1.out.trans (hb2.mono HB1.out.size))
           clear hb2)
        | (go_at_call 14; refine (HPP.out _).mono ?_; rintro e w3 ⟨rfl, rfl⟩))
      go_ret
      exact ⟨rfl, HB2.out⟩
    · have HPP : Hid (∀ W, Calls Tryz.prog 14 #[.int .i64 most] W fun e w' => ∃ p G, e = .returned (.tuple #[.pointer (some ⟨p, 0, none⟩), .int .i64 0]) ∧ PlH w' p G most.toNat [] ∧ (∀ k, G k → W.heap.size ≤ k) ∧ Below W.heap.size W w') := Lib.hid fun W => by
        refine (HP.out W).mono ?_
        rintro e w' (⟨h1, -⟩ | ⟨-, h2⟩)
        · exact absurd h1 hm
        · exact h2
      have HR : Hid (∀ W, Below w.heap.size w W → Calls Tryz.prog 15 #[.slice a2 n2 k2] W (RNewPost l2 W)) := Lib.hid fun W hW => rnew_any W a2 n2 k2 l2 hl2 (hr2.below hW) hn2
      have HX := Lib.hid hx2
      have HL := Lib.hid hl2
      have hsm : 0 ≤ samples ∧ samples ≤ 16 := by unfold Cfg.bad at hb; simp only at hb; omega
      obtain ⟨sm, rfl⟩ : ∃ sm : Nat, samples = (sm : Int) := ⟨samples.toNat, by omega⟩
      have HSM : Hid (sm ≤ 16) := Lib.hid (by omega)
      have HNN : Hid (n2 ≤ 17592186044416 ∧ n3 ≤ 1048576) := Lib.hid ⟨hn2, hn3⟩
      simp only [Cfg.val]
      clear hc hl2 hr2 hn2 hx2 hl3 hn3 hb hm hsm
      go_enter Tryz.func5, Tryz.ntmps5
      go_wp2_with (first
        | (go_at_call 18; refine (HW.out _).mono ?_; rintro e w1 ⟨rfl, hb1⟩
           have HC1 := Lib.hid (hb1.mono (Nat.le_of_eq (by simp : w.heap.size + 1 = _)))
           have HB1 := Lib.hid ((HNEW.out _).trans (hb1.mono (by simp)))
           obtain ⟨d0, d1, d2, d3⟩ := HBOX.out _ HC1.out
           clear hb1)
        | (go_at_call 19; refine (HB.out _ HB1.out).mono ?_; rintro e w2 ⟨hb2, s, F, X, rfl, hx, hsx, hmx, hf⟩
           have HC2 := Lib.hid (HC1.out.trans (hb2.mono (by have := HC1.out.size; simpa using this)))
           have HB2 := Lib.hid (HB1.out.trans (hb2.mono HB1.out.size))
           have HT1 := Lib.hid hb2.size
           have HSX := Lib.hid hx
           have HMX := Lib.hid (And.intro hsx hmx)
           have HF := Lib.hid hf
           clear hb2 hx hsx hmx hf)
        | (go_at_call 14; refine (HPP.out _).mono ?_; rintro e w3 ⟨p, G, rfl, hp, hG, hb3⟩
           have HC3 := Lib.hid (HC2.out.trans (hb3.mono (by have := HC2.out.size; simpa using this)))
           have HB3 := Lib.hid (HB2.out.trans (hb3.mono HB2.out.size))
           have HSX3 := Lib.hid (HSX.out.below hb3)
           have HPL := Lib.hid hp
           have HG := Lib.hid hG
           have HT3 := Lib.hid (Nat.le_trans HT1.out hb3.size)
           have HT2 := HT1
           clear hb3 hp hG)
        | (go_at_call 15; refine (HR.out _ HB3.out).mono ?_; rintro e w4 ⟨r, rfl, hr, hrl, hb4⟩
           have HC4 := Lib.hid (HC3.out.trans (hb4.mono (by have := HC3.out.size; simpa using this)))
           have HB4 := Lib.hid (HB3.out.trans (hb4.mono HB3.out.size))
           have HSX4 := Lib.hid (HSX3.out.below hb4)
           have HPL4 := Lib.hid (HPL.out.below hb4)
           have HR4 := Lib.hid hr
           have HRL := Lib.hid hrl
           clear hb4 hr hrl)
        | (go_at_call 26; refine (sStored HSX4.out).mono ?_; rintro e w5 ⟨v, l, rfl, hl, hrow, hb5⟩
           obtain ⟨qa, qc, hv⟩ : ∃ qa qc, v = .slice qa l.length qc := by
             rcases hrow.2 with ⟨rfl, h0⟩ | ⟨g, cap, cur, rfl, -⟩
             · exact ⟨none, 0, by rw [h0]⟩
             · exact ⟨_, _, rfl⟩
           have hll := hl.1.length_eq
           obtain ⟨q, hq⟩ : ∃ q, l.length = q := ⟨_, rfl⟩
           rw [hq] at hv hll
           subst hv
           have HC5 := Lib.hid (HC4.out.trans (hb5.mono (by have := HC4.out.size; simpa using this)))
           have HB5 := Lib.hid (HB4.out.trans (hb5.mono HB4.out.size))
           have HEN := Lib.hid (enf_draws (HSX4.out.below hb5).sp (HPL4.out.below hb5) (HR4.out.below hb5) HX.out)
           have HLL := Lib.hid hll
           clear hb5 hl hrow hll hq)
        | (go_at_call 17; refine HEN.out.mono ?_; rintro e w6 ⟨n, code, rfl, hn, hd, hch⟩
           rw [HMX.out.1, Int.toNat_natCast] at hd
           have hB6 : Below (w.heap.size + 1) _ w6 := hch.below (Nat.le_trans (by simp) HC5.out.size) (fun k hk => by
             have h1 : w.heap.size + 1 ≤ w1.heap.size := by have := HC1.out.size; simpa using this
             rcases hk with hk | hk | rfl
             · exact Nat.le_trans h1 (HF.out k hk)
             · exact Nat.le_trans h1 (Nat.le_trans HT2.out (HG.out k hk))
             · exact Nat.le_trans h1 (Nat.le_trans HT3.out HRL.out))
           have HC6 := Lib.hid (HC5.out.trans hB6)
           have HB6 := Lib.hid (HB5.out.trans (hB6.mono (Nat.le_succ _)))
           obtain ⟨g0, g1, g2, g3⟩ := HBOX.out _ HC6.out
           have hnq : (n : Int) ≤ (q : Int) := by have := HLL.out; omega
           have hn0 : (0 : Int) ≤ (n : Int) := Int.natCast_nonneg n
           have hqb : n ≤ 5242880 := by
             have h1 := HMX.out.2
             have h2 := HLL.out
             have h3 := HNN.out
             unfold Sp.mass at h1
             omega
           obtain ⟨lf, hlf⟩ : ∃ lf, (l2.drop (n * sm)).length = lf := ⟨_, rfl⟩
           obtain ⟨pr, hpr⟩ : ∃ pr, n * sm = pr := ⟨_, rfl⟩
           obtain ⟨mn, hmn⟩ : ∃ mn, Nat.min pr n2 = mn := ⟨_, rfl⟩
           have hpb : pr ≤ 83886080 := by
             rw [← hpr]
             exact Nat.le_trans (Nat.mul_le_mul hqb HSM.out) (by decide)
           have hsub : n2 - lf = mn := by rw [← hlf, ← hmn, ← hpr]; exact draws_left n2 n sm l2 HL.out
           have hlb : lf ≤ n2 := by rw [← hlf, ← HL.out, List.length_drop]; exact Nat.sub_le _ _
           have hw1 : IntKind.i64.wrap ((n2 : Int) - (lf : Int)) = (mn : Int) := by have := HNN.out; rw [IntKind.wrap_i64]; omega
           have hw2 : IntKind.i64.wrap ((n : Int) * (sm : Int)) = (pr : Int) := by
             have hpi : (n : Int) * (sm : Int) = (pr : Int) := by rw [← hpr]; simp
             rw [hpi, IntKind.wrap_i64]; omega
           have HMN := Lib.hid hmn
           have HD : Hid (Calls Tryz.prog 27 #[.pointer (some ⟨r, 0, none⟩)] w6 fun e w' => e = .returned (.int .i64 lf) ∧ w6 = w') := Lib.hid (by have := left_any hd; rwa [hlf] at this)
           clear hd hch hB6 hqb hlf hpr hmn hpb hsub hlb)
        | (go_at_call 27; refine HD.out.mono ?_; rintro e w7 ⟨rfl, rfl⟩))
      go_ret
      refine ⟨?_, HB6.out⟩
      have h1 : min pr n2 = mn := HMN.out
      have h2 : min (pr : Int) (n2 : Int) = (mn : Int) := by omega
      rw [h2]
      simp
end Go.Proofs.YtalihbjininkhaaGreat.DEnt
