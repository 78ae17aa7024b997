/- A keyspace: all, Sample. -/
import Derived.Test.YtelbmphmihjgfaaGreatZKsSweep
import Derived.Test.YtelbmphmihjgfaaGreatZEDSample
set_option linter.unusedVariables false
set_option linter.unusedSimpArgs false
namespace Pantry
open Go Go.RowKit Go.Proofs Go.Sort
theorem cmpD_tot (a b : Due) : (!decide (cmpD b a < 0) || !decide (cmpD a b < 0)) = true := by
  by_cases h : cmpD b a < 0
  · have : ¬ cmpD a b < 0 := fun h2 => by
      have h3 := swoD.trans a b a (by simpa [ltOf] using h2) (by simpa [ltOf] using h)
      exact cmpD_irr a (by simpa [ltOf] using h3)
    simp [this]
  · simp [h]
/-- What is due, in its order. -/
def Sp.duesL (X : Sp) : List Due := ((X.ents.filter fun e => e.past X.now).map KE.due).mergeSort fun a b => !decide (cmpD b a < 0)
theorem Sp.dues (X : Sp) : X.Dues X.duesL := by
  refine ⟨List.mergeSort_perm _ _, ?_⟩
  have := List.pairwise_mergeSort (le := fun a b : Due => !decide (cmpD b a < 0)) (fun a b c h1 h2 => by
    have h1' : ltOf cmpD b a = false := by simpa [ltOf] using h1
    have h2' : ltOf cmpD c b = false := by simpa [ltOf] using h2
    have := swoD.ntrans c b a h2' h1'
    simpa [ltOf] using this) cmpD_tot ((X.ents.filter fun e => e.past X.now).map KE.due)
  exact this.imp fun {a b} h => by simpa using h
theorem Sp.duesL_eq {X : Sp} (hg : SpGood X) {ds : List Due} (h : X.Dues ds) : ds = X.duesL := h.unique hg X.dues
/-- All that is past is gone. -/
def Sp.swept (X : Sp) : Sp := X.expAll X.duesL
theorem Sp.swept_good {X : Sp} (hg : SpGood X) : SpGood X.swept ∧ X.swept.mass ≤ X.mass :=
  expAll_good X.duesL hg (X.dues.keys hg) fun d hd => by
    obtain ⟨e, he, rfl⟩ := List.mem_map.1 (X.dues.1.subset hd)
    exact ⟨e, (List.mem_filter.1 he).1, rfl⟩
theorem expAll_ents (l : List Due) (X : Sp) : (X.expAll l).ents = X.ents.filter fun e => !(l.any fun d => d.key == e.key) := by
  induction l generalizing X with
  | nil => exact (List.filter_eq_self.2 (by simp)).symm
  | cons d l ih =>
    rw [Sp.expAll, ih]
    show (dropK X.ents d.key).filter _ = _
    unfold dropK
    rw [List.filter_filter]
    refine List.filter_congr fun e _ => ?_
    rw [List.any_cons, Bool.not_or, Bool.and_comm]
    have : (e.key == d.key) = (d.key == e.key) := Bool.eq_iff_iff.2 (by rw [beq_iff_eq, beq_iff_eq]; exact eq_comm)
    rw [this]
theorem expAll_same (l : List Due) (X : Sp) : (X.expAll l).now = X.now ∧ (X.expAll l).most = X.most ∧ (X.expAll l).policy = X.policy ∧ (X.expAll l).samples = X.samples ∧ (X.expAll l).uses = X.uses ∧ (X.expAll l).seed = X.seed ∧ (X.expAll l).steps = X.steps ++ l.map fun d => ((1 : Int), d.key) := by
  induction l generalizing X with
  | nil => simp [Sp.expAll]
  | cons d l ih =>
    obtain ⟨h1, h2, h3, h4, h5, h6, h7⟩ := ih (X.expires d.key)
    refine ⟨h1, h2, h3, h4, h5, h6, ?_⟩
    rw [Sp.expAll, h7]
    show (X.steps ++ [(1, d.key)]) ++ _ = _
    simp
theorem Sp.swept_ents {X : Sp} (hg : SpGood X) : X.swept.ents = X.ents.filter fun e => !e.past X.now := by
  rw [Sp.swept, expAll_ents]
  refine List.filter_congr fun e he => ?_
  congr 1
  rw [Bool.eq_iff_iff, List.any_eq_true]
  constructor
  · rintro ⟨d, hd, hk⟩
    obtain ⟨e', he', rfl⟩ := List.mem_map.1 (X.dues.1.subset hd)
    have h2 := List.mem_filter.1 he'
    have : e' = e := key_inj hg.keys h2.1 he (by simpa [KE.due] using hk)
    rw [← this]; simpa using h2.2
  · intro hp
    exact ⟨e.due, X.dues.1.symm.subset (List.mem_map.2 ⟨e, List.mem_filter.2 ⟨he, by simpa using hp⟩, rfl⟩), by simp [KE.due]⟩
/-- Nothing of it is past. -/
def Sp.Fresh (X : Sp) : Prop := ∀ e ∈ X.ents, e.past X.now = false
theorem Sp.swept_fresh {X : Sp} (hg : SpGood X) : X.swept.Fresh := by
  intro e he
  rw [X.swept_ents hg] at he
  have h1 := (List.mem_filter.1 he).2
  have h2 : X.swept.now = X.now := (expAll_same X.duesL X).1
  rw [h2]
  simpa using h1
theorem Sp.Fresh.swept {X : Sp} (h : X.Fresh) : X.swept = X := by
  have h0 : X.ents.filter (fun e => e.past X.now) = [] := List.filter_eq_nil_iff.2 fun e he => by simp [h e he]
  have : X.duesL = [] := by unfold Sp.duesL; rw [h0]; simp
  rw [Sp.swept, this]; rfl
theorem Sp.Fresh.met {X : Sp} (h : X.Fresh) (key : List UInt8) : X.met key = (X.find key, X) := by
  cases hf : X.find key with
  | none => exact met_none hf
  | some e => exact met_some hf (h e (find_some hf).1)
/-- The keys that are sampled. -/
def Sp.pick (X : Sp) (all : Bool) : List KE := if all then X.ents else X.ents.filter KE.late
end Pantry
namespace Go.Proofs.YtelbmphmihjgfaaGreat.DEnt
open Go.RowKit Pantry Go.Maps Go.Sort

theorem SpTo.after {w w1 w2 : World} {s : Nat} {F : Nat → Prop} {X : Sp} (h : SpTo s F X w w1) (hb : Below w1.heap.size w1 w2) : SpTo s F X w w2 := by
  obtain ⟨⟨F', h1, h2⟩, hc⟩ := h
  exact ⟨⟨F', h1.below hb, h2⟩, hc.trans (T := fun _ => False) (Chg.of_below hb) fun _ _ e => e.elim⟩
theorem sweep_nil (w : World) (most : Int) : Calls Tryz.prog 11 #[.pointer none, .int .i64 most] w fun r w' => r = .returned (.int .i64 0) ∧ Below w.heap.size w w' := by
  go_enter Tryz.func11, Tryz.ntmps11
  go_wp2_with fail
  go_ret
  exact ⟨rfl, by repeat (first | exact Below.refl _ _ | refine Below.alloc ?_ (by simp) _)⟩
theorem all_nil (w : World) : Calls Tryz.prog 66 #[.pointer none] w fun r w' => r = .returned (.bool false) ∧ Below w.heap.size w w' := by
  have HS := Lib.hid (sweep_nil w 9223372036854775807)
  go_enter Tryz.func66, Tryz.ntmps66
  go_wp2_with (go_at_call 11; refine HS.out.mono ?_; rintro r w1 ⟨rfl, hb⟩; have HB := Lib.hid hb; clear hb)
  go_ret
  exact ⟨rfl, HB.out⟩
section
variable {w : World} {s : Nat} {F : Nat → Prop} {X : Sp}
theorem sAll (h : SpH w s F X) : Calls Tryz.prog 66 #[.pointer (some ⟨s, 0, none⟩)] w fun r w' => r = .returned (.bool true) ∧ SpTo s F X.swept w w' := by
  have HS := Lib.hid (sSweep h 9223372036854775807 (by omega) (by omega))
  have HF : Hid (∀ ds, X.Dues ds → X.expAll (ds.take (9223372036854775807 : Int).toNat) = X.swept) := Lib.hid (by
    intro ds hd
    rw [X.duesL_eq h.good hd, List.take_of_length_le, Sp.swept]
    have h1 := X.dues.1.length_eq
    have h2 := List.length_filter_le (fun e : KE => e.past X.now) X.ents
    have h3 := h.good.few
    unfold Sp.mass at h3
    rw [h1, List.length_map]
    show _ ≤ 9223372036854775807
    omega)
  clear h
  go_enter Tryz.func66, Tryz.ntmps66
  go_wp2_with (go_at_call 11; refine HS.out.mono ?_; rintro r w1 ⟨ds, hd, rfl, ht⟩
               rw [HF.out ds hd] at ht
               have HT := Lib.hid ht
               clear hd ht)
  go_ret
  exact ⟨rfl, HT.out⟩
def SamplePost (s : Nat) (F : Nat → Prop) (X : Sp) (all : Bool) (w : World) (r : Ending) (w' : World) : Prop :=
  SpTo s F X.swept w w' ∧ ((X.swept.pick all = [] ∧ r = .returned (.tuple #[.string ⟨#[]⟩, .bool false])) ∨ ∃ e ∈ X.swept.pick all, r = .returned (.tuple #[.string ⟨e.key.toArray⟩, .bool true]))
theorem perm_keys {D : Dc} {l : List KE} (h : D.kv.Perm (l.map KE.kv)) : (D.ents = [] → l = []) ∧ ∀ x ∈ D.ents, ∃ e ∈ l, e.key = x.key := by
  constructor
  · intro h0
    have := h.length_eq
    simp [Dc.kv, h0] at this
    exact List.eq_nil_of_length_eq_zero this.symm
  · intro x hx
    obtain ⟨e, he, hk⟩ := List.mem_map.1 (h.subset (List.mem_map.2 ⟨x, hx, rfl⟩))
    exact ⟨e, he, congrArg Prod.fst hk⟩
/-- A sample of a dict of a space. -/
theorem sample_any (w d r : Nat) (W : World) (D : Dc) (h : DictAt W d D) (hw : D.Wf) (l : List KE) (hp : D.kv.Perm (l.map KE.kv)) (hr : r < 18446744073709551616) :
    Calls Tryz.prog 67 #[.pointer (some ⟨d, 0, none⟩), .int .u64 r] W fun e w' => Below W.heap.size W w' ∧ ∃ k b, e = .returned (.tuple #[.string k, .bool b]) ∧ ((l = [] ∧ k = ⟨#[]⟩ ∧ b = false) ∨ ∃ e ∈ l, k = ⟨e.key.toArray⟩ ∧ b = true) := by
  obtain ⟨h1, h2⟩ := perm_keys hp
  by_cases hn : D.ents = []
  · refine (sample_none W d r D h hn).mono ?_
    rintro e w' ⟨rfl, rfl⟩
    exact ⟨Below.refl _ _, _, _, rfl, .inl ⟨h1 hn, rfl, rfl⟩⟩
  · refine (sample_some W d r D h hw hn hr).mono ?_
    rintro e w' ⟨⟨x, hx, rfl⟩, q, rfl⟩
    obtain ⟨e, he, hk⟩ := h2 x (hx.mem hw)
    exact ⟨⟨rfl, rfl, rfl, Nat.le_refl _, fun _ _ => rfl⟩, _, _, rfl, .inr ⟨e, he, by rw [hk], rfl⟩⟩
set_option maxHeartbeats 1000000 in
theorem sSample (h : SpH w s F X) (all : Bool) (r : Nat) (hr : r < 18446744073709551616) : Calls Tryz.prog 29 #[.pointer (some ⟨s, 0, none⟩), .bool all, .int .u64 r] w (SamplePost s F X all w) := by
  have HA := Lib.hid (sAll h)
  clear h
  cases all
  · go_enter Tryz.func29, Tryz.ntmps29
    go_wp2_with (first
      | (go_at_call 66; refine HA.out.mono ?_; rintro r w1 ⟨rfl, ht⟩
         obtain ⟨F', hF, -⟩ := ht.ex
         obtain ⟨m, l, t, M, L, sv, h1, -⟩ := hF.ex
         obtain ⟨-, -, -, -, -, -, -, c7, c8, -⟩ := head11 h1.head
         have HS := Lib.hid (sample_any 0 l r w1 _ h1.late h1.lwf (X.swept.ents.filter KE.late) h1.lkv hr)
         have HT := Lib.hid ht
         clear ht hF h1)
      | (go_at_call 67; refine HS.out.mono ?_; rintro e w2 ⟨hb, k, b, rfl, hk⟩
         have HB := Lib.hid (HT.out.after hb)
         have HK := Lib.hid hk
         clear hb hk))
    go_ret2
    refine ⟨HB.out, ?_⟩
    rcases HK.out with ⟨h1, rfl, rfl⟩ | ⟨e, he, rfl, rfl⟩
    · exact .inl ⟨h1, rfl⟩
    · exact .inr ⟨e, he, rfl⟩
  · go_enter Tryz.func29, Tryz.ntmps29
    go_wp2_with (first
      | (go_at_call 66; refine HA.out.mono ?_; rintro r w1 ⟨rfl, ht⟩
         obtain ⟨F', hF, -⟩ := ht.ex
         obtain ⟨m, l, t, M, L, sv, h1, -⟩ := hF.ex
         obtain ⟨-, -, -, -, -, -, -, c7, c8, -⟩ := head11 h1.head
         have HS := Lib.hid (sample_any 0 m r w1 _ h1.main h1.mwf X.swept.ents h1.mkv hr)
         have HT := Lib.hid ht
         clear ht hF h1)
      | (go_at_call 67; refine HS.out.mono ?_; rintro e w2 ⟨hb, k, b, rfl, hk⟩
         have HB := Lib.hid (HT.out.after hb)
         have HK := Lib.hid hk
         clear hb hk))
    go_ret2
    refine ⟨HB.out, ?_⟩
    rcases HK.out with ⟨h1, rfl, rfl⟩ | ⟨e, he, rfl, rfl⟩
    · exact .inl ⟨h1, rfl⟩
    · exact .inr ⟨e, he, rfl⟩
end
end Go.Proofs.YtelbmphmihjgfaaGreat.DEnt
