/- Remove of no place; Pop. -/
import Derived.Test.YtefoieloakfhfaaRemove
namespace Pantry
theorem removeC_row {cs : List (List Txt)} {i : Nat} (hi : i < total cs) : (removeC i cs).flatten = dropAt cs.flatten i := by
  have hne : cs ≠ [] := by rintro rfl; simp [total] at hi
  obtain ⟨c, h1, h2, h3, h4⟩ := findC_spec hne (Nat.le_of_lt hi)
  have h4 := h4 hi
  unfold removeC
  rw [h1]
  simp only
  obtain ⟨⟨k, p⟩, hkp⟩ : ∃ q, findC cs i = q := ⟨_, rfl⟩
  rw [hkp] at h1 h2 h3 h4 ⊢
  simp only at h1 h2 h3 h4 ⊢
  have hT : (cs.take k).flatten.length = total (cs.take k) := flatten_length _
  have key : dropAt cs.flatten i = (cs.take k).flatten ++ dropAt c p ++ (cs.drop (k + 1)).flatten := by
    rw [at_flatten h1, ← h3]
    unfold dropAt
    rw [← hT, List.append_assoc, List.append_assoc]
    rw [List.take_length_add_append, show (cs.take k).flatten.length + p + 1 = (cs.take k).flatten.length + (p + 1) by omega, List.drop_length_add_append]
    rw [List.take_append_of_le_length h2, List.drop_append_of_le_length (by omega)]
    simp
  rw [key]
  by_cases he : (dropAt c p).isEmpty = true
  · rw [if_pos he]
    have he2 : dropAt c p = [] := by simpa using he
    rw [he2]
    simp [dropAt]
  · rw [if_neg he, set_flatten h1]
theorem DGood.remove {cs : List (List Txt)} (h : DGood cs) {i : Nat} (hi : i < total cs) : DGood (removeC i cs) ∧ total (removeC i cs) + 1 = total cs := by
  have hrow := removeC_row hi
  have htot : total (removeC i cs) + 1 = total cs := by
    rw [← flatten_length, hrow, ← flatten_length cs]
    exact dropAt_length (by rw [flatten_length]; exact hi)
  refine ⟨?_, htot⟩
  have hne : cs ≠ [] := by rintro rfl; simp [total] at hi
  obtain ⟨c, h1, h2, h3, h4⟩ := findC_spec hne (Nat.le_of_lt hi)
  have h4 := h4 hi
  have hkl := (List.getElem?_eq_some_iff.1 h1).1
  have hc := List.mem_of_getElem? h1
  have ht := h.total
  have hr := h.rows
  unfold removeC at htot ⊢
  rw [h1] at htot ⊢
  simp only at htot ⊢
  by_cases he : (dropAt c (findC cs i).2).isEmpty = true
  · rw [if_pos he] at htot ⊢
    exact ⟨⟨fun x hx => h.chunk x (dropAt_mem hx), fun x hx => h.text x (dropAt_mem hx), by omega, by have := dropAt_length hkl; omega⟩, fun x hx => h.some_ x (dropAt_mem hx)⟩
  · rw [if_neg he] at htot ⊢
    refine ⟨⟨fun x hx => ?_, fun x hx y hy => ?_, by omega, by rw [List.length_set]; exact hr⟩, fun x hx => ?_⟩
    · rcases set_mem hx with h5 | rfl
      · exact h.chunk x h5
      · have := h.chunk c hc; have := dropAt_length h4; omega
    · rcases set_mem hx with h5 | rfl
      · exact h.text x h5 y hy
      · exact h.text c hc y (dropAt_mem hy)
    · rcases set_mem hx with h5 | rfl
      · exact h.some_ x h5
      · intro e; exact he (by rw [e]; rfl)
end Pantry
namespace Go.Proofs.Ytefoieloakfhfaa
open Go.RowKit Pantry

theorem remove_out (w : World) (d : Nat) (v : Value) (gs : List Nat) (cs : List (List Txt)) (i : Int) (h : DeqAt w d v gs cs) (hi : i < 0 ∨ (total cs : Int) ≤ i) :
    Calls Try.prog 18 #[.pointer (some ⟨d, 0, none⟩), .int .i64 i] w fun e w' => e = .returned (.bool false) ∧ w = w' := by
  have HL := Lib.hid (len_any w d v gs cs h)
  obtain ⟨N, hN⟩ : ∃ N, total cs = N := ⟨_, rfl⟩
  rw [hN] at hi HL
  clear h hN
  by_cases h0 : i < 0
  · clear hi
    go_enter Try.func18, Try.ntmps18
    go_wp2_with fail
    go_ret
    exact ⟨rfl, rfl⟩
  · have h1 : (N : Int) ≤ i := by omega
    clear hi
    go_enter Try.func18, Try.ntmps18
    go_wp2_with (go_at_call 16; refine HL.out.mono ?_; rintro e w' ⟨rfl, rfl⟩)
    go_ret
    exact ⟨rfl, rfl⟩
theorem remove_nil (w : World) (i : Int) : Calls Try.prog 18 #[.pointer none, .int .i64 i] w fun e w' => e = .returned (.bool false) ∧ w = w' := by
  by_cases h0 : i < 0
  · go_enter Try.func18, Try.ntmps18
    go_wp2_with fail
    go_ret
    exact ⟨rfl, rfl⟩
  · have h1 : (0 : Int) ≤ i := by omega
    go_enter Try.func18, Try.ntmps18
    go_wp2_with (go_at_call 16; refine (len_nil _).mono ?_; rintro e w' ⟨rfl, rfl⟩)
    go_ret
    exact ⟨rfl, rfl⟩
theorem pop_nil (w : World) (b : Bool) : Calls Try.prog 12 #[.pointer none, .bool b] w fun e w' => e = .returned (.tuple #[.string ⟨#[]⟩, .bool false]) ∧ w = w' := by
  cases b
  all_goals
    go_enter Try.func12, Try.ntmps12
    go_wp2_with (first
      | (go_at_call 16; refine (len_nil _).mono ?_; rintro e w' ⟨rfl, rfl⟩)
      | (go_at_call 23; refine (at_nil _ _).mono ?_; rintro e w' ⟨rfl, rfl⟩)
      | (go_at_call 18; refine (remove_nil _ _).mono ?_; rintro e w' ⟨rfl, rfl⟩))
    go_ret2
    exact ⟨rfl, rfl⟩
theorem pop_empty (w : World) (d : Nat) (v : Value) (gs : List Nat) (b : Bool) (h : DeqAt w d v gs []) : Calls Try.prog 12 #[.pointer (some ⟨d, 0, none⟩), .bool b] w fun e w' => e = .returned (.tuple #[.string ⟨#[]⟩, .bool false]) ∧ w = w' := by
  have HL := Lib.hid (len_any w d v gs [] h)
  have HA := Lib.hid (fun (i : Int) (hi : i < 0 ∨ ((total [] : Nat) : Int) ≤ i) => at_out w d v gs [] i h hi)
  have HR := Lib.hid (fun (i : Int) (hi : i < 0 ∨ ((total [] : Nat) : Int) ≤ i) => remove_out w d v gs [] i h hi)
  have ht : total [] = 0 := rfl
  rw [ht] at HL HA HR
  clear h ht
  cases b
  all_goals
    go_enter Try.func12, Try.ntmps12
    go_wp2_with (first
      | (go_at_call 16; refine HL.out.mono ?_; rintro e w' ⟨rfl, rfl⟩)
      | (go_at_call 23; refine (HA.out _ (by simp)).mono ?_; rintro e w' ⟨rfl, rfl⟩)
      | (go_at_call 18; refine (HR.out _ (by simp)).mono ?_; rintro e w' ⟨rfl, rfl⟩))
    go_ret2
    exact ⟨rfl, rfl⟩
/-- Which place Pop takes. -/
def popAt (b : Bool) (cs : List (List Txt)) : Nat := if b then 0 else total cs - 1
set_option maxHeartbeats 1000000 in
theorem pop_some (w : World) (d : Nat) (v : Value) (gs : List Nat) (cs : List (List Txt)) (b : Bool) (x : Txt) (h : DeqAt w d v gs cs) (hf : Fits cs) (hx : cs.flatten[popAt b cs]? = some x) :
    Calls Try.prog 12 #[.pointer (some ⟨d, 0, none⟩), .bool b] w (DeqPost d v gs (removeC (popAt b cs) cs) (.tuple #[.string ⟨x.toArray⟩, .bool true]) w) := by
  have hi : popAt b cs < total cs := by rw [← flatten_length]; exact (List.getElem?_eq_some_iff.1 hx).1
  have HL := Lib.hid (len_any w d v gs cs h)
  have HA := Lib.hid (at_in w d v gs cs (popAt b cs) x h hf hx)
  have HR := Lib.hid (remove_in w d v gs cs (popAt b cs) h hf hi)
  obtain ⟨I, hI⟩ : ∃ I, popAt b cs = I := ⟨_, rfl⟩
  obtain ⟨N, hN⟩ : ∃ N, total cs = N := ⟨_, rfl⟩
  have hIN : I = if b then 0 else N - 1 := by rw [← hI, ← hN]; rfl
  rw [hI] at HA HR hi ⊢
  have hNb := hf.total
  rw [hN] at HL hi hNb
  clear h hf hx hI hN
  cases b with
  | true =>
    simp only [if_true] at hIN
    subst hIN
    rw [show ((0 : Nat) : Int) = 0 from rfl] at HA HR
    go_enter Try.func12, Try.ntmps12
    go_wp2_with (go_at_call 16; refine HL.out.mono ?_; rintro e w' ⟨rfl, rfl⟩)
    refine HA.out.mono ?_
    rintro e w' ⟨rfl, rfl⟩
    go_wp2_with fail
    refine HR.out.mono ?_
    rintro e w' ⟨v', gs', rfl, hd, hc, hft⟩
    go_wp2_with fail
    go_ret2
    exact ⟨v', gs', rfl, hd, hc, hft⟩
  | false =>
    simp only [Bool.false_eq_true, if_false] at hIN
    obtain ⟨j, rfl⟩ : ∃ j, N = j + 1 := ⟨N - 1, by omega⟩
    simp only [Nat.add_sub_cancel] at hIN
    subst hIN
    rw [show ((I + 1 : Nat) : Int) = (I : Int) + 1 from rfl] at HL
    go_enter Try.func12, Try.ntmps12
    go_wp2_with (go_at_call 16; refine HL.out.mono ?_; rintro e w' ⟨rfl, rfl⟩)
    refine HA.out.mono ?_
    rintro e w' ⟨rfl, rfl⟩
    go_wp2_with fail
    refine HR.out.mono ?_
    rintro e w' ⟨v', gs', rfl, hd, hc, hft⟩
    go_wp2_with fail
    go_ret2
    exact ⟨v', gs', rfl, hd, hc, hft⟩
end Go.Proofs.Ytefoieloakfhfaa
