/- evict.Enforce: the plain laws, the calls. -/
import Derived.Test.YtelbmphmihjgfaaGreatZEvRound
import Derived.LoopN
set_option linter.unusedVariables false
set_option linter.unusedSimpArgs false
namespace Pantry
open Go Go.RowKit
theorem refresh_fold {X : Sp} {most : Nat} : ∀ (l Q : List Cand), (∀ x ∈ Q, X.rank x.key = some x.rank ∨ ∃ c ∈ l, c.key = x.key) → ∀ x ∈ l.foldl (refreshP X most) Q, X.rank x.key = some x.rank
  | [], Q, h, x, hx => by
    rcases h x hx with h | ⟨c, hc, -⟩
    · exact h
    · cases hc
  | c :: l, Q, h, x, hx => by
    refine refresh_fold l (refreshP X most Q c) (fun y hy => ?_) x hx
    have other : y ∈ Q → y.key ≠ c.key → X.rank y.key = some y.rank ∨ ∃ c ∈ l, c.key = y.key := fun h1 h2 => by
      rcases h y h1 with h3 | ⟨c', hc', hk⟩
      · exact .inl h3
      · rcases List.mem_cons.1 hc' with rfl | hc'
        · exact absurd hk.symm h2
        · exact .inr ⟨c', hc', hk⟩
    unfold refreshP at hy
    cases hr : X.rank c.key with
    | some r =>
      rw [hr] at hy
      rcases mem_offerC hy with rfl | ⟨h1, h2⟩
      · exact .inl hr
      · exact other h1 h2
    | none =>
      rw [hr] at hy
      obtain ⟨h1, h2⟩ := mem_dropC.1 hy
      exact other h1 h2
theorem rank_pick {X : Sp} (hg : SpGood X) (hp : X.policy ≠ 0) {all : Bool} (ha : all = true ↔ X.policy = 1) {e : KE} (he : e ∈ X.pick all) : ∃ r, X.rank e.key = some r := by
  have hm := pick_mem he
  unfold Sp.rank
  rw [find_of_mem hg hm]
  by_cases h1 : X.policy = 1
  · exact ⟨e.stamp, by simp [h1]⟩
  · have h2 : all = false := by cases all with
      | true => exact absurd (ha.1 rfl) h1
      | false => rfl
    subst h2
    unfold Sp.pick at he
    rw [if_neg (by simp)] at he
    have := (List.mem_filter.1 he).2
    have h0 : ¬ e.dl = 0 := by simp [KE.late] at this; omega
    exact ⟨e.dl, by simp [h1, h0]⟩
theorem pick_nil {X : Sp} (hg : SpGood X) {all : Bool} (ha : all = true ↔ X.policy = 1) (h : X.pick all = []) (k : List UInt8) : X.rank k = none := by
  unfold Sp.rank
  cases hf : X.find k with
  | none => rfl
  | some e =>
    have hm := (find_some hf).1
    unfold Sp.pick at h
    by_cases h1 : X.policy = 1
    · rw [if_pos (ha.2 h1)] at h
      rw [h] at hm; cases hm
    · have h2 : ¬ all = true := fun e => h1 (ha.1 e)
      rw [if_neg h2] at h
      have h3 := List.filter_eq_nil_iff.1 h e hm
      have h0 : e.dl = 0 := by simp [KE.late] at h3; omega
      simp [h1, h0]
theorem offers_ranked {X : Sp} {most : Nat} : ∀ (ks : List (List UInt8)) (Q : List Cand), (∀ k ∈ ks, ∃ r, X.rank k = some r) → (∀ x ∈ Q, X.rank x.key = some x.rank) → ∀ x ∈ ks.foldl (offerK X most) Q, X.rank x.key = some x.rank
  | [], Q, _, h, x, hx => h x hx
  | k :: ks, Q, hk, h, x, hx => by
    refine offers_ranked ks (offerK X most Q k) (fun k' hk' => hk k' (.tail _ hk')) (fun y hy => ?_) x hx
    rcases mem_offerC hy with rfl | ⟨h1, -⟩
    · obtain ⟨r, hr⟩ := hk k (.head _)
      simp [hr]
    · exact h y h1
/-- Behind a round each candidate has its rank; there is one, if there is a key. -/
theorem RndRel.ranked {X : Sp} (hg : SpGood X) (hp : X.policy ≠ 0) {all : Bool} (ha : all = true ↔ X.policy = 1) {most : Nat} (hm : 0 < most) {P P' : List Cand} (h : RndRel X most all X.samples.toNat P P') :
    (∀ x ∈ P', X.rank x.key = some x.rank) ∧ (X.pick all ≠ [] → P' ≠ []) := by
  obtain ⟨ks, h1, h2, rfl⟩ := h
  refine ⟨offers_ranked ks _ (fun k hk => ?_) (refresh_fold P P fun x hx => .inr ⟨x, hx, rfl⟩), fun hne => ?_⟩
  · obtain ⟨e, he, rfl⟩ := h1 k hk
    exact rank_pick hg hp ha he
  · have hl : ks.length = X.samples.toNat := h2.resolve_right hne
    have hs := hg.need hp
    have hs2 := hg.samples
    obtain ⟨k0, k, rfl⟩ : ∃ k0 k, ks = k0 ++ [k] := by
      have : ks ≠ [] := by rintro rfl; simp at hl; omega
      exact ⟨_, _, (List.dropLast_concat_getLast this).symm⟩
    rw [List.foldl_append]
    exact offerC_ne hm _ _
theorem rank_mem {X : Sp} {k : List UInt8} {r : Nat} (h : X.rank k = some r) : ∃ e ∈ X.ents, e.key = k ∧ X.find k = some e := by
  unfold Sp.rank at h
  cases hf : X.find k with
  | none => rw [hf] at h; cases h
  | some e => exact ⟨e, (find_some hf).1, (find_some hf).2, rfl⟩
/-- Keys have gone, one by one, while it was too full. -/
inductive Gone (limit : Int) (X : Sp) : Nat → Sp → Prop
  | zero : Gone limit X 0 X
  | succ {n : Nat} {Y : Sp} {k : List UInt8} : Gone limit X n Y → limit < (usedN Y.ents : Nat) → Y.rank k ≠ none → Gone limit X (n + 1) ((Y.goes k).step 2 k)
theorem Gone.same {limit : Int} {X Y : Sp} {n : Nat} (h : Gone limit X n Y) : Y.most = X.most ∧ Y.policy = X.policy ∧ Y.samples = X.samples ∧ Y.now = X.now ∧ Y.seed = X.seed ∧ Y.uses = X.uses := by
  induction h with
  | zero => exact ⟨rfl, rfl, rfl, rfl, rfl, rfl⟩
  | succ h _ _ ih => exact ih
theorem Gone.fresh {limit : Int} {X Y : Sp} {n : Nat} (hf : X.Fresh) (h : Gone limit X n Y) : Y.Fresh := by
  induction h with
  | zero => exact hf
  | succ h _ _ ih => exact fun e he => ih e (mem_dropK.1 he).1
theorem Gone.len {limit : Int} {X Y : Sp} {n : Nat} (h : Gone limit X n Y) : n + Y.ents.length ≤ X.ents.length := by
  induction h with
  | zero => omega
  | @succ n Y k h _ hr ih =>
    cases hk : Y.rank k with
    | none => exact absurd hk hr
    | some r =>
      obtain ⟨e, he, rfl, -⟩ := rank_mem hk
      have := dropK_length he
      show n + 1 + (dropK Y.ents e.key).length ≤ _
      omega
theorem evict_eq {X : Sp} (hf : X.Fresh) {k : List UInt8} {r : Nat} (h : X.rank k = some r) : X.evict k = (X.goes k).step 2 k := by
  obtain ⟨e, -, -, hfe⟩ := rank_mem h
  unfold Sp.evict
  rw [hf.met k, hfe]
end Pantry
namespace Go.Proofs.YtelbmphmihjgfaaGreat.DEnt
open Go.RowKit Pantry Go.Maps Go.Sort

section
variable {T : Nat → Prop} {s p r most : Nat} {X : Sp} {P : List Cand} {D : List Nat} {w1 W : World}
theorem evUsed (h : EvTo T s p r most X P D w1 W) : Calls Tryz.prog 8 #[.pointer (some ⟨s, 0, none⟩)] W fun e w' => e = .returned (.int .i64 (usedN X.ents : Nat)) ∧ W = w' := by
  obtain ⟨F, g1, -⟩ := h.sp
  exact sUsed g1
theorem evSweep (h : EvTo T s p r most X P D w1 W) : Calls Tryz.prog 11 #[.pointer (some ⟨s, 0, none⟩), .int .i64 9223372036854775807] W fun e w' => (∃ n, e = .returned (.int .i64 n)) ∧ EvTo T s p r most X.swept P D w1 w' := by
  obtain ⟨F, g1, g2⟩ := h.sp
  refine (sSweep g1 9223372036854775807 (by omega) (by omega)).mono ?_
  rintro e w' ⟨ds, hd, rfl, ht⟩
  refine ⟨⟨_, rfl⟩, g2 _ _ ?_⟩
  have hl : ds.take (9223372036854775807 : Int).toNat = ds := by
    apply List.take_of_length_le
    have h1 := hd.1.length_eq
    have h2 := List.length_filter_le (fun e : KE => e.past X.now) X.ents
    have h3 := g1.good.few
    unfold Sp.mass at h3
    rw [h1, List.length_map]
    show _ ≤ 9223372036854775807
    omega
  rw [hl, X.duesL_eq g1.good hd] at ht
  exact ht
theorem evTake (h : EvTo T s p r most X P D w1 W) : Calls Tryz.prog 31 #[.pointer (some ⟨p, 0, none⟩)] W fun e w' => e = TakeRes P ∧ EvTo T s p r most X (takeC P) D w1 w' := by
  obtain ⟨G, g1, g2⟩ := h.pl
  refine (pTake g1).mono ?_
  rintro e w' ⟨he, ht⟩
  exact ⟨he, g2 _ _ ht⟩
theorem evEvict (h : EvTo T s p r most X P D w1 W) (hf : X.Fresh) {k : List UInt8} {q : Nat} (hk : X.rank k = some q) : Calls Tryz.prog 32 #[.pointer (some ⟨s, 0, none⟩), .string ⟨k.toArray⟩] W fun e w' => (∃ b, e = .returned (.bool b)) ∧ EvTo T s p r most ((X.goes k).step 2 k) P D w1 w' := by
  obtain ⟨F, g1, g2⟩ := h.sp
  obtain ⟨e, he, hek, -⟩ := rank_mem hk
  have hkl := g1.good.text e he
  rw [hek] at hkl
  refine (sEvict g1 k (by omega)).mono ?_
  rintro e w' ⟨he, ht⟩
  rw [evict_eq hf hk] at ht
  exact ⟨⟨_, he⟩, g2 _ _ ht⟩
end
end Go.Proofs.YtelbmphmihjgfaaGreat.DEnt

/- evict.Enforce. -/
set_option linter.unusedVariables false
set_option linter.unusedSimpArgs false
namespace Go.Proofs.YtelbmphmihjgfaaGreat.DEnt
open Go.RowKit Pantry Go.Maps Go.Sort

def EnfPost (T : Nat → Prop) (s p r pm : Nat) (X : Sp) (P : List Cand) (D : List Nat) (w : World) (e : Ending) (w' : World) : Prop :=
  ((X.most = 0 ∨ ((usedN X.ents : Nat) : Int) ≤ X.most) ∧ e = .returned (.tuple #[.int .i64 0, .int .i64 0]) ∧ EvTo T s p r pm X P D w w') ∨
  ((X.most ≠ 0 ∧ X.most < ((usedN X.ents : Nat) : Int)) ∧ ∃ (n : Nat) (Y : Sp) (P' : List Cand) (code : Int), Gone X.most X.swept n Y ∧ EvTo T s p r pm Y P' (D.drop (n * X.samples.toNat)) w w' ∧ e = .returned (.tuple #[.int .i64 n, .int .i64 code]) ∧
    ((code = 0 ∧ ((usedN Y.ents : Nat) : Int) ≤ X.most) ∨ (code = 4 ∧ X.most < ((usedN Y.ents : Nat) : Int) ∧ (X.policy ≠ 0 → ∀ k, Y.rank k = none))))
section
variable {F G : Nat → Prop} {s p r pm : Nat} {X : Sp} {P : List Cand} {D : List Nat} {w : World}
theorem evRnd {T : Nat → Prop} {w1 W : World} {Y : Sp} (h : EvTo T s p r pm Y P D w1 W) (hf : Y.Fresh) (all : Bool) (fv : Value) (hR : RankFn s Y W all fv) (hP : ∀ c ∈ P, c.key.length ≤ 1048576) (hD : ∀ x ∈ D, x < 18446744073709551616) :
    Calls Tryz.prog 30 #[.pointer (some ⟨s, 0, none⟩), .pointer (some ⟨p, 0, none⟩), .pointer (some ⟨r, 0, none⟩), .agg #[.bool all, fv]] W fun e w' => e = .returned (.tuple #[]) ∧ ∃ P', RndRel Y pm all Y.samples.toNat P P' ∧ EvTo T s p r pm Y P' (D.drop Y.samples.toNat) w1 w' := by
  obtain ⟨F, G, g1, g2, g3, g4⟩ := h.re
  refine (round_any g1 g2 g3 hf all fv hR hP hD).mono ?_
  rintro e w' ⟨he, P', hp, ht⟩
  exact ⟨he, P', hp, g4 _ _ _ _ ht⟩
set_option maxRecDepth 100000 in
set_option maxHeartbeats 4000000 in
theorem enf_no (h1 : SpH w s F X) (h2 : PlH w p G pm P) (h3 : SrcAt w r D) (hm : X.most = 0 ∨ ((usedN X.ents : Nat) : Int) ≤ X.most) :
    Calls Tryz.prog 9 #[.pointer (some ⟨s, 0, none⟩), .pointer (some ⟨p, 0, none⟩), .pointer (some ⟨r, 0, none⟩)] w (EnfPost (EvT F G r) s p r pm X P D w) := by
  have hfm := field_most
  have HE : Hid (∀ w', Below w.heap.size w w' → EnfPost (EvT F G r) s p r pm X P D w (.returned (.tuple #[.int .i64 0, .int .i64 0])) w') := Lib.hid fun w' hb => .inl ⟨hm, rfl, (EvTo.start h1 h2 h3).below hb⟩
  have HC := Lib.hid (sConfig h1)
  have HU : Hid (∀ w', Below w.heap.size w w' → Calls Tryz.prog 8 #[.pointer (some ⟨s, 0, none⟩)] w' fun e w2 => e = .returned (.int .i64 (usedN X.ents : Nat)) ∧ w' = w2) := Lib.hid fun w' hb => sUsed (h1.below hb)
  obtain ⟨u, hu⟩ : ∃ u, usedN X.ents = u := ⟨_, rfl⟩
  obtain ⟨mo, hmo⟩ : ∃ u, X.most = u := ⟨_, rfl⟩
  rw [hu] at hm HU
  rw [hmo] at hm HC
  clear h1 h2 h3 hu hmo
  by_cases h0 : mo = 0
  · subst h0
    clear hm
    go_enter Tryz.func9, Tryz.ntmps9
    go_wp2_with (go_at_call 27; refine HC.out.mono ?_; rintro e w1 ⟨rfl, hb⟩
                 have HB := Lib.hid hb
                 clear hb)
    go_ret2
    exact HE.out _ HB.out
  · have hle : (u : Int) ≤ mo := hm.resolve_left h0
    have h0' : (mo == 0) = false := by simpa using h0
    clear hm
    go_enter Tryz.func9, Tryz.ntmps9
    go_wp2_with (first
      | (go_at_call 27; refine HC.out.mono ?_; rintro e w1 ⟨rfl, hb⟩
         have HB := Lib.hid hb
         clear hb)
      | (go_at_call 8; refine (HU.out _ HB.out).mono ?_; rintro e w1 ⟨rfl, rfl⟩))
    go_ret2
    exact HE.out _ HB.out
set_option maxRecDepth 100000 in
set_option maxHeartbeats 8000000 in
theorem enf_full (h1 : SpH w s F X) (h2 : PlH w p G pm P) (h3 : SrcAt w r D) (hP : ∀ c ∈ P, c.key.length ≤ 1048576) (hD : ∀ x ∈ D, x < 18446744073709551616) (hm : X.most ≠ 0 ∧ X.most < ((usedN X.ents : Nat) : Int)) :
    Calls Tryz.prog 9 #[.pointer (some ⟨s, 0, none⟩), .pointer (some ⟨p, 0, none⟩), .pointer (some ⟨r, 0, none⟩)] w (EnfPost (EvT F G r) s p r pm X P D w) := by
  have hfm := field_most
  obtain ⟨T, hT⟩ : ∃ T, EvT F G r = T := ⟨_, rfl⟩
  have hT2 : (fun k => F k ∨ G k ∨ k = r) = T := hT
  have HST : Hid (∀ w', Below w.heap.size w w' → EvTo T s p r pm X P D w w') := Lib.hid fun w' hb => by
    have := (EvTo.start h1 h2 h3).below hb
    rwa [hT2] at this
  have HC := Lib.hid (sConfig h1)
  have HU : Hid (∀ w', Below w.heap.size w w' → Calls Tryz.prog 8 #[.pointer (some ⟨s, 0, none⟩)] w' fun e w2 => e = .returned (.int .i64 (usedN X.ents : Nat)) ∧ w' = w2) := Lib.hid fun w' hb => sUsed (h1.below hb)
  have hpo := h1.good.policy
  have hsam := h1.good.samples
  have hroom : 0 < pm := by
    obtain ⟨v, q1, -⟩ := h2.ex
    exact q1.room.1
  have HSW : Hid (X.swept.most = X.most ∧ X.swept.policy = X.policy ∧ X.swept.samples = X.samples) := Lib.hid (by
    obtain ⟨-, q2, q3, q4, -⟩ := expAll_same X.duesL X
    exact ⟨q2, q3, q4⟩)
  have HFR : Hid X.swept.Fresh := Lib.hid (Sp.swept_fresh h1.good)
  have HLN : Hid (X.swept.ents.length ≤ 2796202) := Lib.hid (Sp.swept_good h1.good).1.ents
  obtain ⟨m, hmm⟩ : ∃ m, X.samples.toNat = m := ⟨_, rfl⟩
  have HM := Lib.hid hmm
  unfold EnfPost
  obtain ⟨u, hu⟩ : ∃ u, usedN X.ents = u := ⟨_, rfl⟩
  obtain ⟨mo, hmo⟩ : ∃ u, X.most = u := ⟨_, rfl⟩
  rw [hT]
  rw [hu, hmo] at hm
  rw [hu] at HU
  rw [hmo] at HC
  have HPK := Lib.hid hP
  have HDD := Lib.hid hD
  have HEND : Hid (∀ (n : Nat) (Y : Sp) (P' : List Cand) (code : Int) w', Gone mo X.swept n Y → EvTo T s p r pm Y P' (D.drop (n * m)) w w' → ((code = 0 ∧ ((usedN Y.ents : Nat) : Int) ≤ mo) ∨ (code = 4 ∧ mo < ((usedN Y.ents : Nat) : Int) ∧ (X.policy ≠ 0 → ∀ k, Y.rank k = none))) → EnfPost T s p r pm X P D w (.returned (.tuple #[.int .i64 n, .int .i64 code])) w') := Lib.hid (by
    intro n Y P' code w' q1 q2 q3
    refine .inr ⟨by rw [hmo, hu]; exact hm, n, Y, P', code, ?_, ?_, rfl, ?_⟩
    · rw [hmo]; exact q1
    · rw [hmm]; exact q2
    · rw [hmo]; exact q3)
  change Calls _ _ _ _ (EnfPost T s p r pm X P D w)
  have h0' : (mo == 0) = false := by simpa using hm.1
  have hlt0 : ¬ (u : Int) ≤ mo := by omega
  clear h1 h2 h3 hu hmo hT hT2 hP hD hmm hm
  have hpol3 : X.policy = 1 ∨ X.policy = 2 ∨ X.policy = 0 := by omega
  clear hpo hsam
  rcases hpol3 with hpol | hpol | hpol
  · have HPOL := Lib.hid hpol
    have HRO : Hid (∀ W, EvTo T s p r pm X.swept P D w W → Calls Tryz.prog 28 #[.pointer (some ⟨s, 0, none⟩)] W fun e w' => e = .returned (.tuple #[.agg #[.bool true, .func (.func 15) #[.pointer (some ⟨s, 0, none⟩)] #[]], .bool true]) ∧ Below W.heap.size W w') := Lib.hid fun W hE => by
      obtain ⟨F', g1, -⟩ := hE.sp
      exact rankOf_lru g1 (by rw [HSW.out.2.1]; exact hpol)
    clear hpol
    go_enter Tryz.func9, Tryz.ntmps9
    go_wp2_with (first
      | (go_at_call 27; refine HC.out.mono ?_; rintro e w1 ⟨rfl, hb⟩
         have HB := Lib.hid hb
         clear hb)
      | (go_at_call 8; refine (HU.out _ HB.out).mono ?_; rintro e w1 ⟨rfl, rfl⟩)
      | (go_at_call 11; refine (evSweep (HST.out _ HB.out)).mono ?_; rintro e w2 ⟨⟨n0, rfl⟩, hE⟩
         have HE := Lib.hid hE
         clear hE)
      | (go_at_call 28; refine (HRO.out _ HE.out).mono ?_; rintro e w3 ⟨rfl, hb3⟩
         have HE3 := Lib.hid (HE.out.below hb3)
         clear hb3))
    have hnw := (Below.refl w3.heap.size w3).alloc (Nat.le_refl _) (.cells #[.bool true, .func (.func 15) #[.pointer (some ⟨s, 0, none⟩)] #[]] 84)
    have hbx := heap_alloc_new w3 (.cells #[.bool true, .func (.func 15) #[.pointer (some ⟨s, 0, none⟩)] #[]] 84)
    have hEB := HE3.out.below hnw
    obtain ⟨b9, hb9⟩ : ∃ b, w3.heap.size = b := ⟨_, rfl⟩
    rw [hb9] at hbx
    obtain ⟨wB, hwB⟩ : ∃ wB, w3.alloc (.cells #[.bool true, .func (.func 15) #[.pointer (some ⟨s, 0, none⟩)] #[]] 84) = wB := ⟨_, rfl⟩
    rw [hwB] at hbx hEB
    rw [hwB, hb9]
    obtain ⟨F', G', g1, g2, g3, g4⟩ := hEB.re
    have HST2 := Lib.hid (EvTo.start g1 g2 g3)
    have HNO := Lib.hid (evT_no g1 g2 g3 hbx (.inr rfl))
    obtain ⟨T', hT'⟩ : ∃ T', EvT F' G' r = T' := ⟨_, rfl⟩
    have hT2 : (fun k => F' k ∨ G' k ∨ k = r) = T' := hT'
    rw [hT'] at HNO g4
    rw [hT2] at HST2
    have HBX := Lib.hid hbx
    have HJ := Lib.hid g4
    have HRF : Hid (∀ Y W, EvTo T' s p r pm Y P D wB W ∨ True → Y.policy = 1 → W.heap[b9]? = wB.heap[b9]? → RankFn s Y W true (.func (.func 15) #[.pointer (some ⟨s, 0, none⟩)] #[])) := Lib.hid fun Y W _ hp _ => .inl ⟨hp, rfl, rfl⟩
    clear hnw hbx hEB hb9 hwB g1 g2 g3 g4 hT' hT2
    go_loopg [10, 11] (X.swept.ents.length + 1) (fun g ok gone wr => ∃ (n : Nat) (Y : Sp) (P' : List Cand), ok = .bool true ∧ gone = .int .i64 n ∧ Y.ents.length + 1 ≤ g ∧ Hid (EvTo T' s p r pm Y P' (D.drop (n * m)) wB wr) ∧ Hid (Gone mo X.swept n Y) ∧ Hid (∀ c ∈ P', c.key.length ≤ 1048576))
    case atStart => exact ⟨0, X.swept, P, rfl, rfl, Nat.le_refl _, Lib.hid (by simpa using HST2.out), Lib.hid .zero, HPK⟩
    case round =>
      obtain ⟨n, Y, P', rfl, rfl, hfu, HY, HG, HPY⟩ := hrel
      have HYG : Hid (SpGood Y ∧ Y.Fresh ∧ Y.policy = 1 ∧ Y.samples.toNat = m) := Lib.hid (by
        obtain ⟨F'', q1, -⟩ := HY.out.sp
        obtain ⟨s1, s2, s3, -⟩ := HG.out.same
        exact ⟨q1.good, HG.out.fresh HFR.out, by rw [s2, HSW.out.2.1]; exact HPOL.out, by rw [s3, HSW.out.2.2]; exact HM.out⟩)
      have hnl : n ≤ 2796202 := by have := HG.out.len; have := HLN.out; omega
      have hbx := HY.out.chg.heap HBX.out HNO.out
      obtain ⟨e0, e1, -⟩ := two_cells hbx
      have HU2 := Lib.hid (evUsed HY.out)
      obtain ⟨u2, hu2⟩ : ∃ u, usedN Y.ents = u := ⟨_, rfl⟩
      rw [hu2] at HU2
      have HU3 := Lib.hid hu2
      clear hbx hu2
      by_cases hlt : mo < (u2 : Int)
      · have HSM := Lib.hid (evSample HY.out HYG.out.2.1 true 0 (by omega))
        go_wp2_with (first
          | (go_at_call 8; refine HU2.out.mono ?_; rintro e w4 ⟨rfl, rfl⟩)
          | (go_at_call 29; refine HSM.out.mono ?_; rintro e w5 ⟨⟨key, b, rfl, h0, h1⟩, hE5⟩
             have HK0 := Lib.hid h0
             have HK1 := Lib.hid h1
             have hbx5 := hE5.chg.heap HBX.out HNO.out
             have HB5 := Lib.hid hbx5
             obtain ⟨d0, d1, -⟩ := two_cells hbx5
             have HE5 := Lib.hid hE5
             clear hE5 h0 h1 hbx5
             cases b)
          | (go_at_call 30; refine (evRnd HE5.out HYG.out.2.1 true _ (HRF.out Y _ (.inr trivial) HYG.out.2.2.1 (HB5.out.trans HBX.out.symm)) HPY.out (fun x hx => HDD.out x ((List.drop_sublist _ _).subset hx))).mono ?_
             rintro e w6 ⟨rfl, P2, hrl, hE6⟩
             obtain ⟨hrk, hne⟩ := hrl.ranked HYG.out.1 (by rw [HYG.out.2.2.1]; decide) (by rw [HYG.out.2.2.1]; decide) hroom
             obtain ⟨y, hy, -⟩ := HK1.out (by simp)
             obtain ⟨c, Q, rfl⟩ : ∃ c Q, P2 = c :: Q := by
               cases P2 with
               | nil => exact absurd rfl (hne fun e => by rw [e] at hy; cases hy)
               | cons c Q => exact ⟨c, Q, rfl⟩
             rw [HYG.out.2.2.2, List.drop_drop] at hE6
             have HTK := Lib.hid (evTake hE6)
             simp only [TakeRes, takeC] at HTK
             have HRC := Lib.hid (hrk c (.head _))
             have HQ : Hid (∀ x ∈ Q, x.key.length ≤ 1048576) := Lib.hid fun x hx => by
               obtain ⟨e, he, hek, -⟩ := rank_mem (hrk x (.tail _ hx))
               rw [← hek]
               exact HYG.out.1.text e he
             clear hrl hE6 hrk hne hy)
          | (go_at_call 31; refine HTK.out.mono ?_; rintro e w7 ⟨rfl, hE7⟩
             have HE7 := Lib.hid hE7
             clear hE7)
          | (go_at_call 32; refine (evEvict (HE7.out.below ((Below.refl _ _).alloc (Nat.le_refl _) _)) HYG.out.2.1 HRC.out).mono ?_; rintro e w8 ⟨⟨b, rfl⟩, hE8⟩
             have HE8 := Lib.hid hE8
             clear hE8))
        · go_ret2
          refine HEND.out n Y P' 4 _ HG.out (HJ.out _ _ _ _ HE5.out) (.inr ⟨rfl, by rw [HU3.out]; exact hlt, fun _ k => ?_⟩)
          exact pick_nil HYG.out.1 (by rw [HYG.out.2.2.1]; decide) (HK0.out (by simp)) k
        · have HLL : Hid (((Y.goes c.key).step 2 c.key).ents.length + 1 ≤ Y.ents.length) := Lib.hid (by
            obtain ⟨e, he, hek, -⟩ := rank_mem HRC.out
            have := dropK_length he
            rw [hek] at this
            exact this)
          go_roundg (Y.ents.length)
          case measure => exact hfu
          case rel => exact ⟨n + 1, (Y.goes c.key).step 2 c.key, Q, rfl, by go_num, HLL.out, Lib.hid (by have := HE8.out; rwa [show n * m + m = (n + 1) * m from (Nat.succ_mul n m).symm] at this), Lib.hid (.succ HG.out (by rw [HU3.out]; exact hlt) (by rw [HRC.out]; simp)), HQ⟩
      · go_wp2_with (go_at_call 8; refine HU2.out.mono ?_; rintro e w4 ⟨rfl, rfl⟩)
        go_ret2
        exact HEND.out n Y P' 0 _ HG.out (HJ.out _ _ _ _ HY.out) (.inl ⟨rfl, by rw [HU3.out]; omega⟩)
  · have HPOL := Lib.hid hpol
    have HRO : Hid (∀ W, EvTo T s p r pm X.swept P D w W → Calls Tryz.prog 28 #[.pointer (some ⟨s, 0, none⟩)] W fun e w' => (∃ bx, e = .returned (.tuple #[.agg #[.bool false, .func (.func 65) #[] #[.pointer (some ⟨bx, 0, none⟩)]], .bool true]) ∧ w'.heap[bx]? = some (.cells #[.pointer (some ⟨s, 0, none⟩)] 28)) ∧ Below W.heap.size W w') := Lib.hid fun W hE => by
      obtain ⟨F', g1, -⟩ := hE.sp
      exact rankOf_ttl g1 (by rw [HSW.out.2.1]; exact hpol)
    clear hpol
    go_enter Tryz.func9, Tryz.ntmps9
    go_wp2_with (first
      | (go_at_call 27; refine HC.out.mono ?_; rintro e w1 ⟨rfl, hb⟩
         have HB := Lib.hid hb
         clear hb)
      | (go_at_call 8; refine (HU.out _ HB.out).mono ?_; rintro e w1 ⟨rfl, rfl⟩)
      | (go_at_call 11; refine (evSweep (HST.out _ HB.out)).mono ?_; rintro e w2 ⟨⟨n0, rfl⟩, hE⟩
         have HE := Lib.hid hE
         clear hE)
      | (go_at_call 28; refine (HRO.out _ HE.out).mono ?_; rintro e w3 ⟨⟨bx, rfl, hbx0⟩, hb3⟩
         have HX0 := Lib.hid hbx0
         have HE3 := Lib.hid (HE.out.below hb3)
         clear hb3 hbx0))
    have hnw := (Below.refl w3.heap.size w3).alloc (Nat.le_refl _) (.cells #[.bool false, .func (.func 65) #[] #[.pointer (some ⟨bx, 0, none⟩)]] 84)
    have hbx := heap_alloc_new w3 (.cells #[.bool false, .func (.func 65) #[] #[.pointer (some ⟨bx, 0, none⟩)]] 84)
    have hEB := HE3.out.below hnw
    have hbx1 := (hnw.block bx (block_lt HX0.out)).trans HX0.out
    obtain ⟨b9, hb9⟩ : ∃ b, w3.heap.size = b := ⟨_, rfl⟩
    rw [hb9] at hbx
    obtain ⟨wB, hwB⟩ : ∃ wB, w3.alloc (.cells #[.bool false, .func (.func 65) #[] #[.pointer (some ⟨bx, 0, none⟩)]] 84) = wB := ⟨_, rfl⟩
    rw [hwB] at hbx hEB hbx1
    rw [hwB, hb9]
    obtain ⟨F', G', g1, g2, g3, g4⟩ := hEB.re
    have HST2 := Lib.hid (EvTo.start g1 g2 g3)
    have HNO := Lib.hid (evT_no g1 g2 g3 hbx (.inr rfl))
    have HNX := Lib.hid (evT_no g1 g2 g3 hbx1 (.inl rfl))
    obtain ⟨T', hT'⟩ : ∃ T', EvT F' G' r = T' := ⟨_, rfl⟩
    have hT2 : (fun k => F' k ∨ G' k ∨ k = r) = T' := hT'
    rw [hT'] at HNO HNX g4
    rw [hT2] at HST2
    have HBX := Lib.hid hbx
    have HXX := Lib.hid hbx1
    have HJ := Lib.hid g4
    have HRF : Hid (∀ Y W, Y.policy = 2 → W.heap[bx]? = some (.cells #[.pointer (some ⟨s, 0, none⟩)] 28) → RankFn s Y W false (.func (.func 65) #[] #[.pointer (some ⟨bx, 0, none⟩)])) := Lib.hid fun Y W hp hh => .inr ⟨hp, rfl, bx, rfl, hh⟩
    clear hnw hbx hbx1 hEB hb9 hwB g1 g2 g3 g4 hT' hT2
    go_loopg [10, 11] (X.swept.ents.length + 1) (fun g ok gone wr => ∃ (n : Nat) (Y : Sp) (P' : List Cand), ok = .bool true ∧ gone = .int .i64 n ∧ Y.ents.length + 1 ≤ g ∧ Hid (EvTo T' s p r pm Y P' (D.drop (n * m)) wB wr) ∧ Hid (Gone mo X.swept n Y) ∧ Hid (∀ c ∈ P', c.key.length ≤ 1048576))
    case atStart => exact ⟨0, X.swept, P, rfl, rfl, Nat.le_refl _, Lib.hid (by simpa using HST2.out), Lib.hid .zero, HPK⟩
    case round =>
      obtain ⟨n, Y, P', rfl, rfl, hfu, HY, HG, HPY⟩ := hrel
      have HYG : Hid (SpGood Y ∧ Y.Fresh ∧ Y.policy = 2 ∧ Y.samples.toNat = m) := Lib.hid (by
        obtain ⟨F'', q1, -⟩ := HY.out.sp
        obtain ⟨s1, s2, s3, -⟩ := HG.out.same
        exact ⟨q1.good, HG.out.fresh HFR.out, by rw [s2, HSW.out.2.1]; exact HPOL.out, by rw [s3, HSW.out.2.2]; exact HM.out⟩)
      have hnl : n ≤ 2796202 := by have := HG.out.len; have := HLN.out; omega
      have hbx := HY.out.chg.heap HBX.out HNO.out
      obtain ⟨e0, e1, -⟩ := two_cells hbx
      have HU2 := Lib.hid (evUsed HY.out)
      obtain ⟨u2, hu2⟩ : ∃ u, usedN Y.ents = u := ⟨_, rfl⟩
      rw [hu2] at HU2
      have HU3 := Lib.hid hu2
      clear hbx hu2
      by_cases hlt : mo < (u2 : Int)
      · have HSM := Lib.hid (evSample HY.out HYG.out.2.1 false 0 (by omega))
        go_wp2_with (first
          | (go_at_call 8; refine HU2.out.mono ?_; rintro e w4 ⟨rfl, rfl⟩)
          | (go_at_call 29; refine HSM.out.mono ?_; rintro e w5 ⟨⟨key, b, rfl, h0, h1⟩, hE5⟩
             have HK0 := Lib.hid h0
             have HK1 := Lib.hid h1
             have hbx5 := hE5.chg.heap HBX.out HNO.out
             have HB5 := Lib.hid (hE5.chg.heap HXX.out HNX.out)
             obtain ⟨d0, d1, -⟩ := two_cells hbx5
             have HE5 := Lib.hid hE5
             clear hE5 h0 h1 hbx5
             cases b)
          | (go_at_call 30; refine (evRnd HE5.out HYG.out.2.1 false _ (HRF.out Y _ HYG.out.2.2.1 HB5.out) HPY.out (fun x hx => HDD.out x ((List.drop_sublist _ _).subset hx))).mono ?_
             rintro e w6 ⟨rfl, P2, hrl, hE6⟩
             obtain ⟨hrk, hne⟩ := hrl.ranked HYG.out.1 (by rw [HYG.out.2.2.1]; decide) (by rw [HYG.out.2.2.1]; decide) hroom
             obtain ⟨y, hy, -⟩ := HK1.out (by simp)
             obtain ⟨c, Q, rfl⟩ : ∃ c Q, P2 = c :: Q := by
               cases P2 with
               | nil => exact absurd rfl (hne fun e => by rw [e] at hy; cases hy)
               | cons c Q => exact ⟨c, Q, rfl⟩
             rw [HYG.out.2.2.2, List.drop_drop] at hE6
             have HTK := Lib.hid (evTake hE6)
             simp only [TakeRes, takeC] at HTK
             have HRC := Lib.hid (hrk c (.head _))
             have HQ : Hid (∀ x ∈ Q, x.key.length ≤ 1048576) := Lib.hid fun x hx => by
               obtain ⟨e, he, hek, -⟩ := rank_mem (hrk x (.tail _ hx))
               rw [← hek]
               exact HYG.out.1.text e he
             clear hrl hE6 hrk hne hy)
          | (go_at_call 31; refine HTK.out.mono ?_; rintro e w7 ⟨rfl, hE7⟩
             have HE7 := Lib.hid hE7
             clear hE7)
          | (go_at_call 32; refine (evEvict (HE7.out.below ((Below.refl _ _).alloc (Nat.le_refl _) _)) HYG.out.2.1 HRC.out).mono ?_; rintro e w8 ⟨⟨b, rfl⟩, hE8⟩
             have HE8 := Lib.hid hE8
             clear hE8))
        · go_ret2
          refine HEND.out n Y P' 4 _ HG.out (HJ.out _ _ _ _ HE5.out) (.inr ⟨rfl, by rw [HU3.out]; exact hlt, fun _ k => ?_⟩)
          exact pick_nil HYG.out.1 (by rw [HYG.out.2.2.1]; decide) (HK0.out (by simp)) k
        · have HLL : Hid (((Y.goes c.key).step 2 c.key).ents.length + 1 ≤ Y.ents.length) := Lib.hid (by
            obtain ⟨e, he, hek, -⟩ := rank_mem HRC.out
            have := dropK_length he
            rw [hek] at this
            exact this)
          go_roundg (Y.ents.length)
          case measure => exact hfu
          case rel => exact ⟨n + 1, (Y.goes c.key).step 2 c.key, Q, rfl, by go_num, HLL.out, Lib.hid (by have := HE8.out; rwa [show n * m + m = (n + 1) * m from (Nat.succ_mul n m).symm] at this), Lib.hid (.succ HG.out (by rw [HU3.out]; exact hlt) (by rw [HRC.out]; simp)), HQ⟩
      · go_wp2_with (go_at_call 8; refine HU2.out.mono ?_; rintro e w4 ⟨rfl, rfl⟩)
        go_ret2
        exact HEND.out n Y P' 0 _ HG.out (HJ.out _ _ _ _ HY.out) (.inl ⟨rfl, by rw [HU3.out]; omega⟩)
  · have HPOL := Lib.hid hpol
    have HRO : Hid (∀ W, EvTo T s p r pm X.swept P D w W → Calls Tryz.prog 28 #[.pointer (some ⟨s, 0, none⟩)] W fun e w' => e = .returned (.tuple #[.agg #[.bool false, .nilFunc], .bool false]) ∧ Below W.heap.size W w') := Lib.hid fun W hE => by
      obtain ⟨F', g1, -⟩ := hE.sp
      exact rankOf_off g1 (by rw [HSW.out.2.1]; exact hpol)
    clear hpol
    go_enter Tryz.func9, Tryz.ntmps9
    go_wp2_with (first
      | (go_at_call 27; refine HC.out.mono ?_; rintro e w1 ⟨rfl, hb⟩
         have HB := Lib.hid hb
         clear hb)
      | (go_at_call 8; refine (HU.out _ HB.out).mono ?_; rintro e w1 ⟨rfl, rfl⟩)
      | (go_at_call 11; refine (evSweep (HST.out _ HB.out)).mono ?_; rintro e w2 ⟨⟨n0, rfl⟩, hE⟩
         have HE := Lib.hid hE
         clear hE)
      | (go_at_call 28; refine (HRO.out _ HE.out).mono ?_; rintro e w3 ⟨rfl, hb3⟩
         have HE3 := Lib.hid (HE.out.below hb3)
         clear hb3))
    have HEB := Lib.hid (HE3.out.below ((Below.refl w3.heap.size w3).alloc (Nat.le_refl _) (.cells #[.bool false, .nilFunc] 84)))
    obtain ⟨wB, hwB⟩ : ∃ wB, w3.alloc (.cells #[.bool false, .nilFunc] 84) = wB := ⟨_, rfl⟩
    rw [hwB] at HEB ⊢
    clear hwB
    have HU2 := Lib.hid (evUsed HEB.out)
    obtain ⟨u2, hu2⟩ : ∃ u, usedN X.swept.ents = u := ⟨_, rfl⟩
    rw [hu2] at HU2
    have HU3 := Lib.hid hu2
    clear hu2
    refine wp_loop_rounds 1 ?_
    rw [rounds_succ]
    by_cases hlt : mo < (u2 : Int)
    · go_wp2_with (go_at_call 8; refine HU2.out.mono ?_; rintro e w4 ⟨rfl, rfl⟩)
      go_ret2
      exact HEND.out 0 X.swept P 4 _ .zero (by simpa using HEB.out) (.inr ⟨rfl, by rw [HU3.out]; exact hlt, fun h => absurd HPOL.out h⟩)
    · go_wp2_with (go_at_call 8; refine HU2.out.mono ?_; rintro e w4 ⟨rfl, rfl⟩)
      go_ret2
      exact HEND.out 0 X.swept P 0 _ .zero (by simpa using HEB.out) (.inl ⟨rfl, by rw [HU3.out]; omega⟩)
end
end Go.Proofs.YtelbmphmihjgfaaGreat.DEnt
