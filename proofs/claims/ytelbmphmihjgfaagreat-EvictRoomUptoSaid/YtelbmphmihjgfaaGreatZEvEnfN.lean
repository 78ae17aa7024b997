/- evict.Enforce. -/
import Derived.Test.YtelbmphmihjgfaaGreatZEvEnf0
import Derived.LoopN
set_option linter.unusedVariables false
set_option linter.unusedSimpArgs false
namespace Go.Proofs.YtelbmphmihjgfaaGreat.DEnt
open Go.RowKit Pantry Go.Maps Go.Sort

/-- What Enforce answers where nothing may be evicted. -/
def EnfPost0 (T : Nat → Prop) (s p r pm : Nat) (X : Sp) (P : List Cand) (D : List Nat) (w : World) (e : Ending) (w' : World) : Prop :=
  ∃ code : Int, e = .returned (.tuple #[.int .i64 0, .int .i64 code]) ∧ EvTo T s p r pm X.swept P D w w' ∧ ((code = 0 ∧ ((usedN X.swept.ents : Nat) : Int) ≤ X.most) ∨ (code = 4 ∧ X.most < ((usedN X.swept.ents : Nat) : Int)))
section
variable {F G : Nat → Prop} {s p r pm : Nat} {X : Sp} {P : List Cand} {D : List Nat} {w : World}
set_option maxRecDepth 100000 in
set_option maxHeartbeats 4000000 in
theorem enf_none (h1 : SpH w s F X) (h2 : PlH w p G pm P) (h3 : SrcAt w r D) (hP : ∀ c ∈ P, c.key.length ≤ 1048576) (hD : ∀ x ∈ D, x < 18446744073709551616) (hpol : X.policy = 0) (hm : X.most ≠ 0 ∧ X.most < ((usedN X.ents : Nat) : Int)) :
    Calls Tryz.prog 9 #[.pointer (some ⟨s, 0, none⟩), .pointer (some ⟨p, 0, none⟩), .pointer (some ⟨r, 0, none⟩)] w (EnfPost0 (EvT F G r) s p r pm X P D w) := by
  have hfm := field_most
  obtain ⟨T, hT⟩ : ∃ T, EvT F G r = T := ⟨_, rfl⟩
  have hT2 : (fun k => F k ∨ G k ∨ k = r) = T := hT
  have HST : Hid (∀ w', Below w.heap.size w w' → EvTo T s p r pm X P D w w') := Lib.hid fun w' hb => by
    have := (EvTo.start h1 h2 h3).below hb
    rwa [hT2] at this
  have HC := Lib.hid (sConfig h1)
  have HU : Hid (∀ w', Below w.heap.size w w' → Calls Tryz.prog 8 #[.pointer (some ⟨s, 0, none⟩)] w' fun e w2 => e = .returned (.int .i64 (usedN X.ents : Nat)) ∧ w' = w2) := Lib.hid fun w' hb => sUsed (h1.below hb)
  have hpo := h1.good.policy
  have hsam := h1.good.samples
  have hroom : 0 < pm := by
    obtain ⟨v, q1, -⟩ := h2.ex
    exact q1.room.1
  have HSW : Hid (X.swept.most = X.most ∧ X.swept.policy = X.policy ∧ X.swept.samples = X.samples) := Lib.hid (by
    obtain ⟨-, q2, q3, q4, -⟩ := expAll_same X.duesL X
    exact ⟨q2, q3, q4⟩)
  have HFR : Hid X.swept.Fresh := Lib.hid (Sp.swept_fresh h1.good)
  have HLN : Hid (X.swept.ents.length ≤ 2796202) := Lib.hid (Sp.swept_good h1.good).1.ents
  obtain ⟨m, hmm⟩ : ∃ m, X.samples.toNat = m := ⟨_, rfl⟩
  have HM := Lib.hid hmm
  unfold EnfPost0
  obtain ⟨u, hu⟩ : ∃ u, usedN X.ents = u := ⟨_, rfl⟩
  obtain ⟨mo, hmo⟩ : ∃ u, X.most = u := ⟨_, rfl⟩
  rw [hT]
  rw [hu, hmo] at hm
  rw [hu] at HU
  rw [hmo] at HC
  have HEND : Hid (∀ (code : Int) w', EvTo T s p r pm X.swept P D w w' → ((code = 0 ∧ ((usedN X.swept.ents : Nat) : Int) ≤ mo) ∨ (code = 4 ∧ mo < ((usedN X.swept.ents : Nat) : Int))) → EnfPost0 T s p r pm X P D w (.returned (.tuple #[.int .i64 0, .int .i64 code])) w') := Lib.hid (by
    intro code w' q2 q3
    refine ⟨code, rfl, q2, ?_⟩
    rw [hmo]; exact q3)
  change Calls _ _ _ _ (EnfPost0 T s p r pm X P D w)
  have h0' : (mo == 0) = false := by simpa using hm.1
  have hlt0 : ¬ (u : Int) ≤ mo := by omega
  clear h1 h2 h3 hu hmo hT hT2 hP hD hmm hm
  clear hpo hsam
  have HPOL := Lib.hid hpol
  have HRO : Hid (∀ W, EvTo T s p r pm X.swept P D w W → Calls Tryz.prog 28 #[.pointer (some ⟨s, 0, none⟩)] W fun e w' => e = .returned (.tuple #[.agg #[.bool false, .nilFunc], .bool false]) ∧ Below W.heap.size W w') := Lib.hid fun W hE => by
    obtain ⟨F', g1, -⟩ := hE.sp
    exact rankOf_off g1 (by rw [HSW.out.2.1]; exact hpol)
  clear hpol
  go_enter Tryz.func9, Tryz.ntmps9
  go_wp2_with (first
    | (go_at_call 27; refine HC.out.mono ?_; rintro e w1 ⟨rfl, hb⟩
       have HB := Lib.hid hb
       clear hb)
    | (go_at_call 8; refine (HU.out _ HB.out).mono ?_; rintro e w1 ⟨rfl, rfl⟩)
    | (go_at_call 11; refine (evSweep (HST.out _ HB.out)).mono ?_; rintro e w2 ⟨⟨n0, rfl⟩, hE⟩
       have HE := Lib.hid hE
       clear hE)
    | (go_at_call 28; refine (HRO.out _ HE.out).mono ?_; rintro e w3 ⟨rfl, hb3⟩
       have HE3 := Lib.hid (HE.out.below hb3)
       clear hb3))
  have HEB := Lib.hid (HE3.out.below ((Below.refl w3.heap.size w3).alloc (Nat.le_refl _) (.cells #[.bool false, .nilFunc] 84)))
  obtain ⟨wB, hwB⟩ : ∃ wB, w3.alloc (.cells #[.bool false, .nilFunc] 84) = wB := ⟨_, rfl⟩
  rw [hwB] at HEB ⊢
  clear hwB
  have HU2 := Lib.hid (evUsed HEB.out)
  obtain ⟨u2, hu2⟩ : ∃ u, usedN X.swept.ents = u := ⟨_, rfl⟩
  rw [hu2] at HU2
  have HU3 := Lib.hid hu2
  clear hu2
  refine wp_loop_rounds 1 ?_
  rw [rounds_succ]
  by_cases hlt : mo < (u2 : Int)
  · go_wp2_with (go_at_call 8; refine HU2.out.mono ?_; rintro e w4 ⟨rfl, rfl⟩)
    go_ret2
    exact HEND.out 4 _ HEB.out (.inr ⟨rfl, by rw [HU3.out]; exact hlt⟩)
  · go_wp2_with (go_at_call 8; refine HU2.out.mono ?_; rintro e w4 ⟨rfl, rfl⟩)
    go_ret2
    exact HEND.out 0 _ HEB.out (.inl ⟨rfl, by rw [HU3.out]; omega⟩)
end
end Go.Proofs.YtelbmphmihjgfaaGreat.DEnt
