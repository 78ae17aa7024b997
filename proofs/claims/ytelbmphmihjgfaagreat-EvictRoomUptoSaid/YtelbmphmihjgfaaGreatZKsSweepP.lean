/- Sweep: the late keys as its range meets them. -/
import Derived.Test.YtelbmphmihjgfaaGreatZKsCmp
set_option linter.unusedVariables false
set_option linter.unusedSimpArgs false
namespace Pantry
open Go Go.RowKit Go.Proofs Go.Sort
/-- The due of a key, if its entry is past. -/
def dueP (X : Sp) (p : List UInt8 × Nat) : Option Due :=
  match X.find p.1 with
  | some e => if e.past X.now then some e.due else none
  | none => none
theorem find_mem {X : Sp} (hg : SpGood X) {e : KE} (he : e ∈ X.ents) : X.find e.key = some e := by
  unfold Sp.find
  cases hf : X.ents.find? fun x => x.key == e.key with
  | none =>
    have := List.find?_eq_none.1 hf e he
    simp at this
  | some x =>
    have h1 := List.mem_of_find?_eq_some hf
    have h2 := List.find?_some hf
    rw [key_inj hg.keys h1 he (by simpa using h2)]
def keB (e : KE) : List UInt8 × Nat := (e.key, e.b)
theorem dueP_mem {X : Sp} (hg : SpGood X) {e : KE} (he : e ∈ X.ents) : dueP X (keB e) = if e.past X.now then some e.due else none := by
  unfold dueP keB
  rw [find_mem hg he]
/-- What a dict of the late keys holds, as a list of entries. -/
theorem late_list {X : Sp} (hg : SpGood X) {kv : List (List UInt8 × Value)} (h : kv.Perm (lateKv X.ents)) :
    ∃ es : List KE, es.Perm (X.ents.filter KE.late) ∧ kv = es.map KE.kv := by
  have hin : ∀ p ∈ kv, ∃ e ∈ X.ents, p = e.kv := fun p hp => by
    obtain ⟨e, he, rfl⟩ := List.mem_map.1 (h.subset hp)
    exact ⟨e, (List.mem_filter.1 he).1, rfl⟩
  refine ⟨kv.map fun p => (X.find p.1).getD ⟨[], 0, 0, 0, 0, 0⟩, ?_, ?_⟩
  · refine (h.map _).trans ?_
    unfold lateKv
    rw [List.map_map]
    have : (X.ents.filter KE.late).map ((fun p : List UInt8 × Value => (X.find p.1).getD ⟨[], 0, 0, 0, 0, 0⟩) ∘ KE.kv) = (X.ents.filter KE.late).map id := by
      refine List.map_congr_left fun e he => ?_
      have he2 := (List.mem_filter.1 he).1
      show (X.find e.key).getD _ = e
      rw [find_mem hg he2]; rfl
    rw [this, List.map_id]
  · rw [List.map_map]
    conv => lhs; rw [← List.map_id kv]
    refine List.map_congr_left fun p hp => ?_
    obtain ⟨e, he, rfl⟩ := hin p hp
    show e.kv = KE.kv ((X.find e.key).getD _)
    rw [find_mem hg he]; rfl
/-- All that is met and past, is what is due. -/
theorem late_dues {X : Sp} (hg : SpGood X) {es : List KE} (h : es.Perm (X.ents.filter KE.late)) : ((es.map keB).filterMap (dueP X)).Perm ((X.ents.filter fun e => e.past X.now).map KE.due) := by
  have hin : ∀ e ∈ es, e ∈ X.ents := fun e he => (List.mem_filter.1 (h.subset he)).1
  have e1 : (es.map keB).filterMap (dueP X) = (es.filter fun e => e.past X.now).map KE.due := by
    clear h
    induction es with
    | nil => rfl
    | cons e es ih =>
      have ih' := ih fun x hx => hin x (.tail _ hx)
      have hd := dueP_mem hg (hin e (.head _))
      rw [List.map_cons, List.filterMap_cons, hd, List.filter_cons]
      by_cases hp : e.past X.now = true
      · rw [if_pos hp, if_pos hp, List.map_cons, ← ih']
      · rw [if_neg hp, if_neg hp, ← ih']
  rw [e1]
  refine List.Perm.map _ ?_
  refine (h.filter _).trans ?_
  rw [List.filter_filter]
  have : (X.ents.filter fun a => a.past X.now && a.late) = X.ents.filter fun e => e.past X.now := by
    refine List.filter_congr fun e he => ?_
    unfold KE.past KE.late
    by_cases h0 : 0 < e.dl <;> simp [h0]
  rw [this]
end Pantry
