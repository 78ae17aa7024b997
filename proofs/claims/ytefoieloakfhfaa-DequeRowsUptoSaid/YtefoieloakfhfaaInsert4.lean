/- Insert, whole. -/
import Derived.Test.YtefoieloakfhfaaInsert3
namespace Pantry
theorem partC_flatten {cs : List (List Txt)} {k : Nat} {c : List Txt} (h : cs[k]? = some c) : (partC k c cs).flatten = cs.flatten := by
  have hk := (List.getElem?_eq_some_iff.1 h).1
  unfold partC
  rw [putIn_flatten, List.take_set, List.drop_set_of_lt (by omega), at_flatten h]
  have e : ((cs.take (k + 1)).set k (c.take 16)).flatten = (cs.take k).flatten ++ c.take 16 := by
    rw [set_flatten (c := c) (by rw [List.getElem?_take, if_pos (by omega)]; exact h)]
    rw [List.take_take, Nat.min_eq_left (by omega), List.drop_eq_nil_of_le (by rw [List.length_take]; omega)]
    simp
  rw [e]
  have e2 : c.take 16 ++ c.drop 16 = c := List.take_append_drop 16 c
  conv => rhs; rw [← e2]
  simp
theorem lay_row {cs : List (List Txt)} {k p : Nat} {c : List Txt} (h : cs[k]? = some c) (hp : p ≤ c.length) (s : Txt) : (cs.set k (insAt c p s)).flatten = putIn cs.flatten (total (cs.take k) + p) s := by
  have hT : (cs.take k).flatten.length = total (cs.take k) := flatten_length _
  rw [set_flatten h]
  have hf := at_flatten h
  rw [List.append_assoc] at hf
  unfold putIn insAt
  rw [hf, ← hT]
  rw [List.take_length_add_append, List.drop_length_add_append, List.take_append_of_le_length hp, List.drop_append_of_le_length hp]
  simp
theorem partC_take {cs : List (List Txt)} {k : Nat} {c : List Txt} (h : cs[k]? = some c) : total ((partC k c cs).take k) = total (cs.take k) ∧ (16 ≤ c.length → total ((partC k c cs).take (k + 1)) = total (cs.take k) + 16) := by
  have hk := (List.getElem?_eq_some_iff.1 h).1
  have h1 : (partC k c cs).take k = cs.take k := by
    apply List.ext_getElem?
    intro j
    rw [List.getElem?_take, List.getElem?_take]
    by_cases hj : j < k
    · rw [if_pos hj, if_pos hj, partC_get h, if_neg (by omega), if_neg (by omega), if_pos hj]
    · rw [if_neg hj, if_neg hj]
  refine ⟨by rw [h1], fun h16 => ?_⟩
  have h2 : (partC k c cs).take (k + 1) = cs.take k ++ [c.take 16] := by
    rw [List.take_add_one, h1, partC_get h, if_pos rfl]
    rfl
  rw [h2]
  simp [total]; omega
theorem insC_row {cs : List (List Txt)} (hg : DGood cs) {i : Nat} (hi : i ≤ total cs) (s : Txt) : (insC i s cs).flatten = putIn cs.flatten i s := by
  by_cases hne : cs = []
  · subst hne
    have : i = 0 := by simp [total] at hi; exact hi
    subst this
    simp [insC, findC, pushC, putIn]
  · obtain ⟨c, h1, h2, h3, h4⟩ := findC_spec hne hi
    unfold insC
    rw [h1]
    simp only
    obtain ⟨⟨k, p⟩, hkp⟩ : ∃ q, findC cs i = q := ⟨_, rfl⟩
    rw [hkp] at h1 h2 h3 ⊢
    simp only at h1 h2 h3 ⊢
    by_cases h32 : c.length = 32
    · rw [if_pos h32]
      obtain ⟨t1, t2⟩ := partC_take h1
      by_cases hp : 16 ≤ p
      · rw [if_pos hp, lay_row (by rw [partC_get h1, if_neg (by omega), if_pos rfl]) (by rw [List.length_drop]; omega), partC_flatten h1, t2 (by omega)]
        congr 1; omega
      · rw [if_neg hp, lay_row (by rw [partC_get h1, if_pos rfl]) (by rw [List.length_take]; omega), partC_flatten h1, t1, h3]
    · rw [if_neg h32, lay_row h1 h2, h3]
theorem DGood.ins {cs : List (List Txt)} (h : DGood cs) {i : Nat} {s : Txt} (hi : i ≤ total cs) (hs : s.length ≤ 1048576) (ht : Pantry.total cs < 1048576) : DGood (insC i s cs) := by
  by_cases hne : cs = []
  · subst hne
    simp only [insC, findC]
    exact DGood.push DGood.nil true hs ht
  · obtain ⟨c, h1, h2, h3, h4⟩ := findC_spec hne hi
    unfold insC
    rw [h1]
    simp only
    obtain ⟨⟨k, p⟩, hkp⟩ : ∃ q, findC cs i = q := ⟨_, rfl⟩
    rw [hkp] at h1 h2 ⊢
    simp only at h1 h2 ⊢
    have hc := h.chunk c (List.mem_of_getElem? h1)
    by_cases h32 : c.length = 32
    · rw [if_pos h32]
      have hr := h.rows_le
      have hpg : DGood (partC k c cs) := ⟨partC_fits h1 h.toFits (by omega), fun c' hc' => by
        rcases putIn_mem hc' with h5 | h5
        · rcases set_mem h5 with h6 | h6
          · exact h.some_ c' h6
          · rw [h6]; intro e; have hl : (c.take 16).length = 16 := by rw [List.length_take]; omega
            rw [e] at hl; simp at hl
        · rw [h5]; intro e; have hl : (c.drop 16).length = 16 := by rw [List.length_drop]; omega
          rw [e] at hl; simp at hl⟩
      have htt := partC_total h1
      by_cases hp : 16 ≤ p
      · rw [if_pos hp]
        exact hpg.lay (by rw [partC_get h1, if_neg (by omega), if_pos rfl]) (by rw [List.length_drop]; omega) (by rw [List.length_drop]; omega) hs (by rw [htt]; exact ht)
      · rw [if_neg hp]
        exact hpg.lay (by rw [partC_get h1, if_pos rfl]) (by rw [List.length_take]; omega) (by rw [List.length_take]; omega) hs (by rw [htt]; exact ht)
    · rw [if_neg h32]
      exact h.lay h1 h2 (by omega) hs ht
end Pantry
namespace Go.Proofs.Ytefoieloakfhfaa
open Go.RowKit Pantry

theorem ins_ok (w : World) (d : Nat) (v : Value) (gs : List Nat) (cs : List (List Txt)) (i : Nat) (s : Txt) (h : DeqAt w d v gs cs) (hg : DGood cs) (hi : i ≤ total cs) (hs : s.length ≤ 1048576) (ht : total cs < 1048576) :
    Calls Try.prog 15 #[.pointer (some ⟨d, 0, none⟩), .int .i64 i, .string ⟨s.toArray⟩] w (DeqPost d v gs (insC i s cs) (.int .i64 0) w) := by
  have hr := hg.rows_le
  by_cases hne : cs = []
  · subst hne
    have : i = 0 := by simp [total] at hi; exact hi
    subst this
    simp only [insC, findC]
    exact ins_empty w d v gs s h hs
  · have ht0 : 0 < total cs := by have := List.length_pos_iff.2 hne; omega
    obtain ⟨c, h1, h2, h3, h4⟩ := findC_spec hne hi
    unfold insC
    rw [h1]
    simp only
    obtain ⟨⟨k, p⟩, hkp⟩ : ∃ q, findC cs i = q := ⟨_, rfl⟩
    rw [hkp] at h1 h2 ⊢
    simp only at h1 h2 ⊢
    have hc := hg.chunk c (List.mem_of_getElem? h1)
    by_cases h32 : c.length = 32
    · rw [if_pos h32]
      exact ins_split w d v gs cs i s k p c h hg.toFits (by omega) hne hi ht0 hs ht hkp h1 h32 h2
    · rw [if_neg h32]
      exact ins_room w d v gs cs i s k p c h hg.toFits hne hi ht0 hs ht hkp h1 (by omega) h2
end Go.Proofs.Ytefoieloakfhfaa
