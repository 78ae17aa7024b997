/- A new chunk in a deque; Push. -/
import Derived.Test.YtefoieloakfhfaaAt
namespace Pantry
open Go Go.RowKit
/-- An element put into a list. -/
def putIn {α : Type} (l : List α) (k : Nat) (x : α) : List α := l.take k ++ [x] ++ l.drop k
theorem putIn_length {α : Type} {l : List α} {k : Nat} (h : k ≤ l.length) (x : α) : (putIn l k x).length = l.length + 1 := by simp [putIn]; omega
theorem putIn_get {α : Type} {l : List α} {k : Nat} (h : k ≤ l.length) (x : α) (j : Nat) : (putIn l k x)[j]? = if j < k then l[j]? else if j = k then some x else l[j - 1]? := by
  unfold putIn
  by_cases h1 : j < k
  · rw [if_pos h1, List.append_assoc, List.getElem?_append_left (by rw [List.length_take]; omega), List.getElem?_take, if_pos h1]
  · rw [if_neg h1]
    by_cases h2 : j = k
    · subst h2
      rw [if_pos rfl, List.append_assoc, List.getElem?_append_right (by rw [List.length_take]; omega), List.length_take, Nat.min_eq_left h, Nat.sub_self]
      rfl
    · rw [if_neg h2, List.getElem?_append_right (by simp; omega), List.getElem?_drop]
      congr 1
      simp; omega
theorem putIn_map {α β : Type} (f : α → β) (l : List α) (k : Nat) (x : α) : (putIn l k x).map f = putIn (l.map f) k (f x) := by simp [putIn, List.map_take, List.map_drop]
theorem putIn_mem {α : Type} {l : List α} {k : Nat} {x y : α} (h : y ∈ putIn l k x) : y ∈ l ∨ y = x := by
  simp only [putIn, List.mem_append, List.mem_singleton] at h
  rcases h with (h | h) | h
  · exact .inl (List.mem_of_mem_take h)
  · exact .inr h
  · exact .inl (List.mem_of_mem_drop h)
theorem putIn_nodup {l : List Nat} (k : Nat) {x : Nat} (h : l.Nodup) (hx : x ∉ l) : (putIn l k x).Nodup := by
  have e : l.take k ++ l.drop k = l := List.take_append_drop k l
  have hp : (putIn l k x).Perm (x :: l) := by
    unfold putIn
    rw [List.append_assoc]
    have h1 : (l.take k ++ ([x] ++ l.drop k)).Perm ([x] ++ l.drop k ++ l.take k) := List.perm_append_comm
    refine h1.trans ?_
    simp only [List.cons_append]
    refine List.Perm.cons x ?_
    have h2 : (l.drop k ++ l.take k).Perm (l.take k ++ l.drop k) := List.perm_append_comm
    rw [e] at h2
    exact h2
  exact hp.nodup_iff.2 (List.nodup_cons.2 ⟨hx, h⟩)
theorem sum_putIn {α : Type} {f : α → Nat} (l : List α) (k : Nat) (x : α) : ((putIn l k x).map f).sum = (l.map f).sum + f x := by
  have e : (l.map f).sum = ((l.take k).map f).sum + ((l.drop k).map f).sum := by rw [← List.sum_append, ← List.map_append, List.take_append_drop]
  rw [e]; simp [putIn]; omega
theorem total_putIn (cs : List (List Txt)) (k : Nat) (c : List Txt) : total (putIn cs k c) = total cs + c.length := sum_putIn (f := fun c : List Txt => c.length) cs k c
theorem costOf_putIn (cs : List (List Txt)) (k : Nat) (c : List Txt) : costOf (putIn cs k c) = costOf cs + (c.map fun x : Txt => 16 + x.length).sum := sum_putIn (f := fun c : List Txt => (c.map fun x : Txt => 16 + x.length).sum) cs k c
theorem putIn_set {α : Type} {l : List α} {k : Nat} (h : k ≤ l.length) (x y : α) : (putIn l k x).set k y = putIn l k y := by
  apply List.ext_getElem?
  intro j
  rw [List.getElem?_set, putIn_get h, putIn_get h, putIn_length h]
  by_cases hj : k = j
  · subst hj; simp; omega
  · rw [if_neg hj]
    by_cases h1 : j < k
    · rw [if_pos h1, if_pos h1]
    · rw [if_neg h1, if_neg h1, if_neg (fun e => hj e.symm), if_neg (fun e => hj e.symm)]
/-- Push, on the chunks. -/
def pushC (ahead : Bool) (s : Txt) (cs : List (List Txt)) : List (List Txt) :=
  match cs[if ahead then 0 else cs.length - 1]? with
  | none => [[s]]
  | some c => if c.length = 32 then putIn cs (if ahead then 0 else cs.length) [s] else cs.set (if ahead then 0 else cs.length - 1) (insAt c (if ahead then 0 else c.length) s)
end Pantry
namespace Go.Proofs.Ytefoieloakfhfaa
open Go.RowKit Pantry

theorem newChunk : (chunkL []).toArray = #[.string ⟨#[]⟩, .string ⟨#[]⟩, .string ⟨#[]⟩, .string ⟨#[]⟩, .string ⟨#[]⟩, .string ⟨#[]⟩, .string ⟨#[]⟩, .string ⟨#[]⟩, .string ⟨#[]⟩, .string ⟨#[]⟩, .string ⟨#[]⟩, .string ⟨#[]⟩, .string ⟨#[]⟩, .string ⟨#[]⟩, .string ⟨#[]⟩, .string ⟨#[]⟩,
    .string ⟨#[]⟩, .string ⟨#[]⟩, .string ⟨#[]⟩, .string ⟨#[]⟩, .string ⟨#[]⟩, .string ⟨#[]⟩, .string ⟨#[]⟩, .string ⟨#[]⟩, .string ⟨#[]⟩, .string ⟨#[]⟩, .string ⟨#[]⟩, .string ⟨#[]⟩, .string ⟨#[]⟩, .string ⟨#[]⟩, .string ⟨#[]⟩, .string ⟨#[]⟩, .int .i64 0] := rfl
/-- What a change leaves, where the row may have moved and chunks may have come. -/
def DeqPost (d : Nat) (v : Value) (gs : List Nat) (cs' : List (List Txt)) (r : Value) (w : World) (e : Ending) (w' : World) : Prop :=
  ∃ v' gs', e = .returned r ∧ DeqAt w' d v' gs' cs' ∧ Chg (Foot d v gs) w w' ∧ ∀ k, Foot d v' gs' k → Foot d v gs k ∨ w.heap.size ≤ k
theorem ptr_one (gs : List Nat) : ∀ u ∈ gs.map ptr, u.oneCell' = true := by
  intro u hu
  obtain ⟨g, _, rfl⟩ := List.mem_map.1 hu
  rfl
/-- A chunk has come in: the row is new, the head is not told of it yet. -/
theorem DeqAt.inserted {w w3 w4 : World} {d : Nat} {v v' : Value} {gs : List Nat} {cs : List (List Txt)} (h : DeqAt w d v gs cs) {k g : Nat} {c : List Txt} (hk : k ≤ cs.length) (hg : w.heap.size ≤ g) (hch : ChunkAt w3 g c)
    (hc : Chg (fun j => v.ownBlock = some j) w w3) (hrow : w3.ownsRow 0 67 1 v' (cs.length + 1) (putIn (gs.map ptr) k (ptr g))) (hv : ∀ j, v'.ownBlock = some j → v.ownBlock = some j ∨ w.heap.size ≤ j ∧ j ≠ g)
    (hu : Upd d (.cells #[v', .int .i64 (total (putIn cs k c) : Nat), .int .i64 (costOf (putIn cs k c) : Nat)] 62) w3 w4) : DeqAt w4 d v' (putIn gs k g) (putIn cs k c) := by
  have hl := h.len
  have hdl := h.lt d (.inl rfl)
  have hgd : g ≠ d := by omega
  have hgl : ∀ j ∈ gs, j < w.heap.size := fun j hj => h.lt j (.inr (.inl hj))
  refine ⟨hu.here, ?_, ?_, putIn_nodup k h.nodup fun hm => absurd (hgl g hm) (by omega), ?_, ?_, ?_⟩
  · rw [putIn_length hk, putIn_map]
    refine Chg.ownsRow hrow hu.chg fun j hj e => ?_
    subst e
    rcases hv _ hj with h1 | h1
    · exact h.rowd h1
    · omega
  · intro i gi ci hi hci
    rw [putIn_get (by omega)] at hi
    rw [putIn_get hk] at hci
    have key : gi ∈ gs ∧ ChunkAt w gi ci ∨ gi = g ∧ ci = c := by
      by_cases h1 : i < k
      · rw [if_pos h1] at hi hci
        exact .inl ⟨List.mem_of_getElem? hi, h.chunk i gi ci hi hci⟩
      · rw [if_neg h1] at hi hci
        by_cases h2 : i = k
        · rw [if_pos h2] at hi hci
          cases hi; cases hci; exact .inr ⟨rfl, rfl⟩
        · rw [if_neg h2] at hi hci
          exact .inl ⟨List.mem_of_getElem? hi, h.chunk _ gi ci hi hci⟩
    rcases key with ⟨hm, hca⟩ | ⟨rfl, rfl⟩
    · have hne : gi ≠ d := fun e => h.notd (by rw [← e]; exact hm)
      unfold ChunkAt
      rw [hu.other gi hne]
      exact hc.heap hca fun e => h.rowg _ e hm
    · unfold ChunkAt
      rw [hu.other gi hgd]
      exact hch
  · intro hm
    rcases putIn_mem hm with hm | hm
    · exact h.notd hm
    · omega
  · intro e
    rcases hv d e with h1 | h1
    · exact h.rowd h1
    · omega
  · intro j hj hm
    rcases hv j hj with h1 | h1
    · rcases putIn_mem hm with hm | hm
      · exact h.rowg j h1 hm
      · have := h.lt j (.inr (.inr h1)); omega
    · rcases putIn_mem hm with hm | hm
      · have := hgl j hm; omega
      · exact h1.2 hm
end Go.Proofs.Ytefoieloakfhfaa
