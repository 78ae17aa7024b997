/- EvictRoom, the plain law: what Enforce leaves. -/
import Derived.Test.YtelbmphmihjgfaaGreatZEvEnf0
set_option linter.unusedVariables false
namespace Pantry
open Go Go.RowKit

/-- Y is what is left of X: n have been evicted, the others that have gone were past. -/
structure Rm (X : Sp) (n : Nat) (Y : Sp) : Prop where
  keys : (Y.ents.map (·.key)).Nodup
  sub : ∀ e ∈ Y.ents, e ∈ X.ents
  len : X.ents.length = Y.ents.length + Y.steps.length
  tlen : Y.touched.length = Y.steps.length
  tnd : Y.touched.Nodup
  tch : ∀ k ∈ Y.touched, ∀ e ∈ Y.ents, e.key ≠ k
  gone : ∀ s ∈ Y.steps, ∀ e ∈ Y.ents, e.key ≠ s.2
  st : ∀ s ∈ Y.steps, ∃ e ∈ X.ents, e.key = s.2 ∧ ((s.1 = 1 ∧ e.past X.now = true) ∨ (s.1 = 2 ∧ e.past X.now = false ∧ (X.policy = 1 ∨ e.dl ≠ 0)))
  count : (Y.steps.filter fun s => s.1 == 2).length = n
theorem Rm.start {X : Sp} (hg : SpGood X) (h1 : X.steps = []) (h2 : X.touched = []) : Rm X 0 X :=
  ⟨hg.keys, fun _ h => h, by rw [h1]; rfl, by rw [h1, h2]; rfl, by rw [h2]; exact List.nodup_nil, fun k hk => (by rw [h2] at hk; cases hk), fun s hs => (by rw [h1] at hs; cases hs), fun s hs => (by rw [h1] at hs; cases hs), by rw [h1]; rfl⟩
theorem dropK_len : ∀ {l : List KE}, (l.map (·.key)).Nodup → ∀ {e : KE}, e ∈ l → (dropK l e.key).length + 1 = l.length
  | x :: l, hn, e, he => by
    have hn' := List.nodup_cons.1 (by simpa using hn : (x.key :: l.map (·.key)).Nodup)
    unfold dropK
    rw [List.filter_cons]
    rcases List.mem_cons.1 he with rfl | he'
    · have : (l.filter fun z => !(z.key == e.key)) = l := List.filter_eq_self.2 fun z hz => by
        have : z.key ≠ e.key := fun hk => hn'.1 (hk ▸ List.mem_map_of_mem hz)
        simpa using this
      simp [this]
    · have hne : x.key ≠ e.key := fun hk => hn'.1 (hk ▸ List.mem_map_of_mem he')
      have ih := dropK_len hn'.2 he'
      unfold dropK at ih
      simp [hne, ih]
theorem Rm.out {X Y : Sp} {n : Nat} (h : Rm X n Y) {e : KE} (he : e ∈ Y.ents) (kind : Int) (hk : (kind = 1 ∧ e.past X.now = true) ∨ (kind = 2 ∧ e.past X.now = false ∧ (X.policy = 1 ∨ e.dl ≠ 0))) :
    Rm X (if kind = 2 then n + 1 else n) ((Y.goes e.key).step kind e.key) := by
  have hl := dropK_len h.keys he
  have hd : ∀ z, z ∈ dropK Y.ents e.key ↔ z ∈ Y.ents ∧ z.key ≠ e.key := fun z => by unfold dropK; simp
  have hnt : e.key ∉ Y.touched := fun hm => h.tch _ hm e he rfl
  refine ⟨?_, ?_, ?_, ?_, ?_, ?_, ?_, ?_, ?_⟩
  · show ((dropK Y.ents e.key).map (·.key)).Nodup
    exact h.keys.sublist (List.filter_sublist.map _)
  · intro z hz
    exact h.sub z ((hd z).1 hz).1
  · show X.ents.length = (dropK Y.ents e.key).length + (Y.steps ++ [(kind, e.key)]).length
    have := h.len
    rw [List.length_append, List.length_singleton]
    omega
  · show (addT Y.touched e.key).length = (Y.steps ++ [(kind, e.key)]).length
    unfold addT
    rw [if_neg hnt, List.length_cons, List.length_append, List.length_singleton, h.tlen]
  · show (addT Y.touched e.key).Nodup
    unfold addT
    rw [if_neg hnt]
    exact List.nodup_cons.2 ⟨hnt, h.tnd⟩
  · intro k hk' z hz
    rcases mem_addT.1 hk' with rfl | hk'
    · exact ((hd z).1 hz).2
    · exact h.tch k hk' z ((hd z).1 hz).1
  · intro s hs z hz
    rcases List.mem_append.1 hs with hs | hs
    · exact h.gone s hs z ((hd z).1 hz).1
    · obtain rfl := List.mem_singleton.1 hs
      exact ((hd z).1 hz).2
  · intro s hs
    rcases List.mem_append.1 hs with hs | hs
    · exact h.st s hs
    · obtain rfl := List.mem_singleton.1 hs
      exact ⟨e, h.sub e he, rfl, hk⟩
  · show ((Y.steps ++ [(kind, e.key)]).filter fun s => s.1 == 2).length = _
    rw [List.filter_append, List.length_append, h.count]
    rcases hk with ⟨rfl, -⟩ | ⟨rfl, -⟩ <;> simp
theorem Rm.expAll {X : Sp} : ∀ (l : List Due) {Y : Sp}, Rm X 0 Y → (l.map (·.key)).Nodup → (∀ d ∈ l, ∃ e ∈ Y.ents, e.due = d ∧ e.past X.now = true) → Rm X 0 (Y.expAll l)
  | [], Y, h, _, _ => h
  | d :: l, Y, h, hn, hm => by
    have hn' := List.nodup_cons.1 (by simpa using hn : (d.key :: l.map (·.key)).Nodup)
    obtain ⟨e, he, rfl, hp⟩ := hm d List.mem_cons_self
    have h1 : Rm X 0 ((Y.goes e.key).step 1 e.key) := by simpa using h.out he 1 (.inl ⟨rfl, hp⟩)
    refine Rm.expAll l h1 hn'.2 fun d' hd' => ?_
    obtain ⟨z, hz, rfl, hzp⟩ := hm d' (List.mem_cons_of_mem _ hd')
    refine ⟨z, mem_expires hz (fun hk => hn'.1 ?_), rfl, hzp⟩
    rw [← hk]
    exact List.mem_map.2 ⟨z.due, hd', rfl⟩
theorem Rm.swept {X : Sp} (hg : SpGood X) (h1 : X.steps = []) (h2 : X.touched = []) : Rm X 0 X.swept :=
  Rm.expAll X.duesL (Rm.start hg h1 h2) (X.dues.keys hg) fun d hd => by
    obtain ⟨e, he, rfl⟩ := List.mem_map.1 (X.dues.1.subset hd)
    have h := List.mem_filter.1 he
    exact ⟨e, h.1, rfl, by simpa using h.2⟩
theorem Rm.go {X Y : Sp} {n : Nat} (hg : SpGood X) (h1 : X.steps = []) (h2 : X.touched = []) (h : Gone X.most X.swept n Y) : Rm X n Y ∧ Y.Fresh ∧ Y.policy = X.policy ∧ Y.now = X.now := by
  have hf : X.swept.Fresh := Sp.swept_fresh hg
  have hs : X.swept.policy = X.policy ∧ X.swept.now = X.now := ⟨(expAll_same X.duesL X).2.2.1, (expAll_same X.duesL X).1⟩
  refine ⟨?_, h.fresh hf, h.same.2.1.trans hs.1, h.same.2.2.2.1.trans hs.2⟩
  induction h with
  | zero => exact Rm.swept hg h1 h2
  | @succ n Y k hG _ hr ih =>
    cases hk : Y.rank k with
    | none => exact absurd hk hr
    | some r =>
      obtain ⟨e, he, rfl, hfe⟩ := rank_mem hk
      have hfr := hG.fresh hf e he
      have hnow : Y.now = X.now := hG.same.2.2.2.1.trans hs.2
      have hpol : Y.policy = X.policy := hG.same.2.1.trans hs.1
      rw [hnow] at hfr
      have hd : X.policy = 1 ∨ e.dl ≠ 0 := by
        unfold Sp.rank at hk
        rw [hfe] at hk
        simp only [hpol] at hk
        by_cases hp : X.policy = 1
        · exact .inl hp
        · rw [if_neg hp] at hk
          refine .inr fun h0 => ?_
          rw [if_pos h0] at hk
          cases hk
      simpa using ih.out he 2 (.inr ⟨rfl, hfr, hd⟩)
/-- The row of touched keys is as long as the steps. -/
theorem Rm.touchedLen {X Y : Sp} {n : Nat} (h : Rm X n Y) {l : List (List UInt8)} (hn : l.Nodup) (hm : ∀ k, k ∈ l ↔ k ∈ Y.touched) : l.length = Y.steps.length := by
  have hp : l.Perm Y.touched := (List.perm_ext_iff_of_nodup hn h.tnd).2 hm
  rw [hp.length_eq, h.tlen]
end Pantry
