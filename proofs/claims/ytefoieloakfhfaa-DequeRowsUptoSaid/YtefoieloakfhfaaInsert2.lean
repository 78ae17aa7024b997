/- Insert where a chunk of 32 is parted. -/
import Derived.Test.YtefoieloakfhfaaInsert
namespace Pantry
open Go Go.RowKit
theorem partC_get {cs : List (List Txt)} {k : Nat} {c : List Txt} (h : cs[k]? = some c) (j : Nat) : (partC k c cs)[j]? = if j = k then some (c.take 16) else if j = k + 1 then some (c.drop 16) else if j < k then cs[j]? else cs[j - 1]? := by
  have hk := (List.getElem?_eq_some_iff.1 h).1
  unfold partC
  rw [putIn_get (by rw [List.length_set]; omega)]
  by_cases h1 : j = k
  · subst h1
    rw [if_pos (by omega), if_pos rfl, List.getElem?_set_self hk]
  · rw [if_neg h1]
    by_cases h2 : j = k + 1
    · rw [if_neg (by omega), if_pos h2, if_pos h2]
    · rw [if_neg h2, if_neg h2]
      by_cases h3 : j < k
      · rw [if_pos (by omega), if_pos h3, List.getElem?_set_ne (by omega)]
      · rw [if_neg (by omega), if_neg h3, List.getElem?_set_ne (by omega)]
theorem partC_total {cs : List (List Txt)} {k : Nat} {c : List Txt} (h : cs[k]? = some c) : total (partC k c cs) = total cs := by
  have := total_set (c' := c.take 16) h
  unfold partC
  rw [total_putIn]
  have e : (c.take 16).length + (c.drop 16).length = c.length := by rw [← List.length_append, List.take_append_drop]
  omega
theorem partC_cost {cs : List (List Txt)} {k : Nat} {c : List Txt} (h : cs[k]? = some c) : costOf (partC k c cs) = costOf cs := by
  have := costOf_set (c' := c.take 16) h
  unfold partC
  rw [costOf_putIn]
  have e : sumW (c.take 16) + sumW (c.drop 16) = sumW c := by rw [← sumW_append, List.take_append_drop]
  unfold sumW at e
  omega
theorem partC_length {cs : List (List Txt)} {k : Nat} {c : List Txt} (h : cs[k]? = some c) : (partC k c cs).length = cs.length + 1 := by
  have hk := (List.getElem?_eq_some_iff.1 h).1
  unfold partC
  rw [putIn_length (by rw [List.length_set]; omega), List.length_set]
theorem partC_fits {cs : List (List Txt)} {k : Nat} {c : List Txt} (h : cs[k]? = some c) (hf : Fits cs) (hr : cs.length ≤ 1048576) : Fits (partC k c cs) := by
  have hm := List.mem_of_getElem? h
  have key : ∀ c' ∈ partC k c cs, c' ∈ cs ∨ c' = c.take 16 ∨ c' = c.drop 16 := by
    intro c' hc'
    rcases putIn_mem hc' with h1 | h1
    · rcases List.mem_or_eq_of_mem_set h1 with h2 | h2
      · exact .inl h2
      · exact .inr (.inl h2)
    · exact .inr (.inr h1)
  refine ⟨fun c' hc' => ?_, fun c' hc' x hx => ?_, by rw [partC_total h]; exact hf.total, by rw [partC_length h]; omega⟩
  · have := hf.chunk c hm
    rcases key c' hc' with h1 | rfl | rfl
    · exact hf.chunk c' h1
    · rw [List.length_take]; omega
    · rw [List.length_drop]; omega
  · rcases key c' hc' with h1 | rfl | rfl
    · exact hf.text c' h1 x hx
    · exact hf.text c hm x (List.mem_of_mem_take hx)
    · exact hf.text c hm x (List.mem_of_mem_drop hx)
end Pantry
namespace Go.Proofs.Ytefoieloakfhfaa
open Go.RowKit Pantry

theorem DeqAt.split {w w5 w6 : World} {d : Nat} {v v' : Value} {gs : List Nat} {cs : List (List Txt)} (h : DeqAt w d v gs cs) {k g H : Nat} {c : List Txt} (hk : cs[k]? = some c) (hgk : gs[k]? = some g) (hH : w.heap.size ≤ H)
    (hc5 : Chg (fun j => v.ownBlock = some j ∨ j = g) w w5) (h5g : ChunkAt w5 g (c.take 16)) (h5H : ChunkAt w5 H (c.drop 16))
    (hrow : w5.ownsRow 0 67 1 v' (cs.length + 1) (putIn (gs.map ptr) (k + 1) (ptr H))) (hv : ∀ j, v'.ownBlock = some j → v.ownBlock = some j ∨ w.heap.size ≤ j ∧ j ≠ H)
    (hu : Upd d (.cells #[v', .int .i64 (total cs : Nat), .int .i64 (costOf cs : Nat)] 62) w5 w6) : DeqAt w6 d v' (putIn gs (k + 1) H) (partC k c cs) := by
  have hl := h.len
  have hkl := (List.getElem?_eq_some_iff.1 hk).1
  have hdl := h.lt d (.inl rfl)
  have hHd : H ≠ d := by omega
  have hgl : ∀ j ∈ gs, j < w.heap.size := fun j hj => h.lt j (.inr (.inl hj))
  refine ⟨by rw [partC_total hk, partC_cost hk]; exact hu.here, ?_, ?_, putIn_nodup (k + 1) h.nodup fun hm => absurd (hgl H hm) (by omega), ?_, ?_, ?_⟩
  · rw [partC_length hk, putIn_map]
    refine Chg.ownsRow hrow hu.chg fun j hj e => ?_
    subst e
    rcases hv _ hj with h1 | h1
    · exact h.rowd h1
    · omega
  · intro i gi ci hi hci
    rw [putIn_get (by omega)] at hi
    rw [partC_get hk] at hci
    have key : (gi ∈ gs ∧ gi ≠ g ∧ ChunkAt w gi ci) ∨ (gi = g ∧ ci = c.take 16) ∨ gi = H ∧ ci = c.drop 16 := by
      by_cases h1 : i = k
      · subst h1
        rw [if_pos (by omega), hgk] at hi
        rw [if_pos rfl] at hci
        cases hi; cases hci
        exact .inr (.inl ⟨rfl, rfl⟩)
      · rw [if_neg h1] at hci
        by_cases h2 : i = k + 1
        · rw [if_neg (by omega), if_pos h2] at hi
          rw [if_pos h2] at hci
          cases hi; cases hci
          exact .inr (.inr ⟨rfl, rfl⟩)
        · rw [if_neg h2] at hci
          by_cases h3 : i < k
          · rw [if_pos (by omega)] at hi
            rw [if_pos h3] at hci
            exact .inl ⟨List.mem_of_getElem? hi, fun e => h1 (nodup_inj h.nodup (by rw [hi, e]) hgk), h.chunk _ _ _ hi hci⟩
          · rw [if_neg (by omega), if_neg h2] at hi
            rw [if_neg h3] at hci
            exact .inl ⟨List.mem_of_getElem? hi, fun e => by have := nodup_inj h.nodup (show gs[i - 1]? = some g by rw [hi, e]) hgk; omega, h.chunk _ _ _ hi hci⟩
    have hgd : ∀ j ∈ gs, j ≠ d := fun j hj e => h.notd (by rw [← e]; exact hj)
    rcases key with ⟨hm, hne, hca⟩ | ⟨rfl, rfl⟩ | ⟨rfl, rfl⟩
    · unfold ChunkAt
      rw [hu.other gi (hgd gi hm)]
      exact hc5.heap hca (by rintro (e | e); exact h.rowg _ e hm; exact hne e)
    · unfold ChunkAt
      rw [hu.other gi (hgd gi (List.mem_of_getElem? hgk))]
      exact h5g
    · unfold ChunkAt
      rw [hu.other gi hHd]
      exact h5H
  · intro hm
    rcases putIn_mem hm with hm | hm
    · exact h.notd hm
    · omega
  · intro e
    rcases hv d e with h1 | h1
    · exact h.rowd h1
    · omega
  · intro j hj hm
    rcases hv j hj with h1 | h1
    · rcases putIn_mem hm with hm | hm
      · exact h.rowg j h1 hm
      · have := h.lt j (.inr (.inr h1)); omega
    · rcases putIn_mem hm with hm | hm
      · have := hgl j hm; omega
      · exact h1.2 hm
/-- A new chunk as its literal lays it: 16 texts, all empty. -/
def rawHalf : List Value := List.replicate 32 (.string ⟨#[]⟩) ++ [.int .i64 16]
theorem rawLit : rawHalf.toArray = #[.string ⟨#[]⟩, .string ⟨#[]⟩, .string ⟨#[]⟩, .string ⟨#[]⟩, .string ⟨#[]⟩, .string ⟨#[]⟩, .string ⟨#[]⟩, .string ⟨#[]⟩, .string ⟨#[]⟩, .string ⟨#[]⟩, .string ⟨#[]⟩, .string ⟨#[]⟩, .string ⟨#[]⟩, .string ⟨#[]⟩, .string ⟨#[]⟩, .string ⟨#[]⟩,
    .string ⟨#[]⟩, .string ⟨#[]⟩, .string ⟨#[]⟩, .string ⟨#[]⟩, .string ⟨#[]⟩, .string ⟨#[]⟩, .string ⟨#[]⟩, .string ⟨#[]⟩, .string ⟨#[]⟩, .string ⟨#[]⟩, .string ⟨#[]⟩, .string ⟨#[]⟩, .string ⟨#[]⟩, .string ⟨#[]⟩, .string ⟨#[]⟩, .string ⟨#[]⟩, .int .i64 16] := rfl
theorem raw_copy {c : List Txt} (h : c.length = 16) : splice rawHalf 0 (txts c) = chunkL c := by
  unfold splice rawHalf chunkL
  rw [txts_length, h]
  simp
end Go.Proofs.Ytefoieloakfhfaa
