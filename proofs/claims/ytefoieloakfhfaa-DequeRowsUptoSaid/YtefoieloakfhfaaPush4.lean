/- Push, whole. -/
import Derived.Test.YtefoieloakfhfaaPush3
namespace Pantry
/-- What a deque keeps: no chunk is empty. -/
structure DGood (cs : List (List Txt)) : Prop extends Fits cs where
  some_ : ∀ c ∈ cs, c ≠ []
theorem DGood.rows_le {cs : List (List Txt)} (h : DGood cs) : cs.length ≤ Pantry.total cs := Pantry.rows_le h.some_
theorem DGood.nil : DGood [] := ⟨⟨by simp, by simp, by simp [Pantry.total], by simp⟩, by simp⟩
theorem insAt_ne (c : List Txt) (p : Nat) (s : Txt) : insAt c p s ≠ [] := by simp [insAt]
theorem set_mem {α : Type} {l : List α} {k : Nat} {x y : α} (h : y ∈ l.set k x) : y ∈ l ∨ y = x := List.mem_or_eq_of_mem_set h
theorem insAt_mem {c : List Txt} {p : Nat} {s x : Txt} (h : x ∈ insAt c p s) : x ∈ c ∨ x = s := by
  simp only [insAt, List.mem_append, List.mem_singleton] at h
  rcases h with (h | h) | h
  · exact .inl (List.mem_of_mem_take h)
  · exact .inr h
  · exact .inl (List.mem_of_mem_drop h)
theorem DGood.lay {cs : List (List Txt)} (h : DGood cs) {k p : Nat} {c : List Txt} {s : Txt} (hk : cs[k]? = some c) (hp : p ≤ c.length) (hc : c.length < 32) (hs : s.length ≤ 1048576) (ht : Pantry.total cs < 1048576) : DGood (cs.set k (insAt c p s)) := by
  have hm := List.mem_of_getElem? hk
  have hT := total_set (c' := insAt c p s) hk
  rw [insAt_length hp] at hT
  refine ⟨⟨fun c' hc' => ?_, fun c' hc' x hx => ?_, by omega, by rw [List.length_set]; exact h.rows⟩, fun c' hc' => ?_⟩
  · rcases set_mem hc' with h1 | rfl
    · exact h.chunk c' h1
    · rw [insAt_length hp]; omega
  · rcases set_mem hc' with h1 | rfl
    · exact h.text c' h1 x hx
    · rcases insAt_mem hx with h2 | rfl
      · exact h.text c hm x h2
      · exact hs
  · rcases set_mem hc' with h1 | rfl
    · exact h.some_ c' h1
    · exact insAt_ne _ _ _
theorem DGood.new {cs : List (List Txt)} (h : DGood cs) {k : Nat} {s : Txt} (hk : k ≤ cs.length) (hs : s.length ≤ 1048576) (ht : Pantry.total cs < 1048576) : DGood (Pantry.putIn cs k [s]) := by
  have hr := h.rows_le
  refine ⟨h.toFits.putIn k (by simp) (by simpa using hs) (by simp; omega) (by omega) hk, fun c' hc' => ?_⟩
  rcases putIn_mem hc' with h1 | rfl
  · exact h.some_ c' h1
  · simp
theorem DGood.push {cs : List (List Txt)} (h : DGood cs) (ahead : Bool) {s : Txt} (hs : s.length ≤ 1048576) (ht : Pantry.total cs < 1048576) : DGood (pushC ahead s cs) := by
  unfold pushC
  cases hc : cs[if ahead then 0 else cs.length - 1]? with
  | none =>
    refine ⟨⟨?_, ?_, ?_, by simp⟩, by simp⟩
    · simp
    · simpa using hs
    · simp [Pantry.total]
  | some c =>
    simp only
    have h32 := h.chunk c (List.mem_of_getElem? hc)
    by_cases hf : c.length = 32
    · rw [if_pos hf]; exact h.new (by split <;> omega) hs ht
    · rw [if_neg hf]; exact h.lay hc (by split <;> omega) (by omega) hs ht
/-- The row behind Push. -/
theorem putIn_flatten (cs : List (List Txt)) (k : Nat) (c : List Txt) : (putIn cs k c).flatten = (cs.take k).flatten ++ c ++ (cs.drop k).flatten := by simp [putIn]
theorem set_flatten {cs : List (List Txt)} {k : Nat} {c c' : List Txt} (h : cs[k]? = some c) : (cs.set k c').flatten = (cs.take k).flatten ++ c' ++ (cs.drop (k + 1)).flatten := by
  obtain ⟨hk, rfl⟩ := List.getElem?_eq_some_iff.1 h
  rw [List.set_eq_take_append_cons_drop, if_pos hk]
  simp
theorem at_flatten {cs : List (List Txt)} {k : Nat} {c : List Txt} (h : cs[k]? = some c) : cs.flatten = (cs.take k).flatten ++ c ++ (cs.drop (k + 1)).flatten := by
  have := set_flatten (c' := c) h
  rw [← this]
  congr 1
  obtain ⟨hk, rfl⟩ := List.getElem?_eq_some_iff.1 h
  exact (List.set_getElem_self hk).symm
theorem push_row (ahead : Bool) (s : Txt) (cs : List (List Txt)) : (pushC ahead s cs).flatten = if ahead then s :: cs.flatten else cs.flatten ++ [s] := by
  unfold pushC
  cases hc : cs[if ahead then 0 else cs.length - 1]? with
  | none =>
    have : cs = [] := by
      rw [List.getElem?_eq_none_iff] at hc
      cases ahead <;> simp at hc
      · apply List.eq_nil_of_length_eq_zero; omega
      · exact hc
    subst this
    cases ahead <;> simp
  | some c =>
    simp only
    cases ahead with
    | true =>
      simp only [if_true] at hc ⊢
      by_cases hf : c.length = 32
      · rw [if_pos hf, putIn_flatten]; simp
      · rw [if_neg hf, set_flatten hc, at_flatten hc]; simp [insAt]
    | false =>
      simp only [Bool.false_eq_true, if_false] at hc ⊢
      have hd : cs.drop (cs.length - 1 + 1) = [] := List.drop_eq_nil_of_le (by omega)
      by_cases hf : c.length = 32
      · rw [if_pos hf, putIn_flatten]; simp
      · rw [if_neg hf, set_flatten hc, at_flatten hc, hd]; simp [insAt]
end Pantry
namespace Go.Proofs.Ytefoieloakfhfaa
open Go.RowKit Pantry

theorem push_ok (w : World) (d : Nat) (v : Value) (gs : List Nat) (cs : List (List Txt)) (ahead : Bool) (s : Txt) (h : DeqAt w d v gs cs) (hg : DGood cs) (hs : s.length ≤ 1048576) (ht : total cs < 1048576) :
    Calls Try.prog 11 #[.pointer (some ⟨d, 0, none⟩), .bool ahead, .string ⟨s.toArray⟩] w (DeqPost d v gs (pushC ahead s cs) (.int .i64 0) w) := by
  have hne := hg.rows_le
  unfold pushC
  cases hc : cs[if ahead then 0 else cs.length - 1]? with
  | none =>
    have h0 : cs = [] := by
      rw [List.getElem?_eq_none_iff] at hc
      cases ahead <;> simp at hc
      · apply List.eq_nil_of_length_eq_zero; omega
      · exact hc
    have := push_new w d v gs cs ahead s h hg.toFits hne hs ht (.inl h0)
    subst h0
    simpa [putIn] using this
  | some c =>
    simp only
    have h32 := hg.chunk c (List.mem_of_getElem? hc)
    by_cases hf : c.length = 32
    · rw [if_pos hf]
      exact push_new w d v gs cs ahead s h hg.toFits hne hs ht (.inr ⟨c, hc, hf⟩)
    · rw [if_neg hf]
      exact push_room w d v gs cs ahead s c h hg.toFits hs ht hc (by omega)
end Go.Proofs.Ytefoieloakfhfaa
