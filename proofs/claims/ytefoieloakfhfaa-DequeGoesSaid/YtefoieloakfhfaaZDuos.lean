/- Each call, of a deque and of its answer. -/
import Derived.Test.YtefoieloakfhfaaZPair
set_option linter.unusedVariables false
set_option linter.unusedSimpArgs false
namespace Go.Proofs.Ytefoieloakfhfaa
open Go.RowKit Pantry

theorem mayC_cases (s : Txt) (n : Nat) : (mayC s n = 2 ∧ 1048576 < s.length) ∨ (mayC s n = 4 ∧ s.length ≤ 1048576 ∧ 1048576 ≤ n) ∨ (mayC s n = 0 ∧ s.length ≤ 1048576 ∧ n < 1048576) := by
  unfold mayC
  by_cases h : 1048576 < s.length
  · exact .inl ⟨by rw [if_pos h], h⟩
  · by_cases h2 : 1048576 ≤ n
    · exact .inr (.inl ⟨by rw [if_neg h, if_pos h2], by omega, h2⟩)
    · exact .inr (.inr ⟨by rw [if_neg h, if_neg h2], by omega, by omega⟩)
theorem stay_deq {d : Nat} {v : Value} {gs : List Nat} {cs' : List (List Txt)} {r : Value} {w : World} {f : Nat} {args : Array Value} (h : Calls Try.prog f args w (StayPost d v gs cs' r w)) : Calls Try.prog f args w (DeqPost d v gs cs' r w) :=
  h.mono fun _ _ ⟨e1, e2, e3⟩ => ⟨v, gs, e1, e2, e3, fun _ hk => .inl hk⟩
theorem same_nil {w : World} {f : Nat} {args : Array Value} {r : Value} (h : Calls Try.prog f args w fun e w' => e = .returned r ∧ w = w') : Calls Try.prog f args w fun e w' => e = .returned r ∧ Below w.heap.size w w' :=
  h.mono fun _ _ ⟨e1, e2⟩ => ⟨e1, by subst e2; exact Below.refl _ _⟩
section
variable (d : Nat) (v : Value) (gs : List Nat) (m : Nat) (w : World) (v1 : Value) (gs1 : List Nat) (cs : List (List Txt)) (hg : DGood cs)
include hg
theorem duo_push (b : Bool) (s : Txt) (hs : s.length ≤ 281474976710656) : ∃ c Md, Duo (fun A => Half d v gs m w A v1 gs1 cs cs) Md (Stood d v gs m w) 42 11 (.pointer (some ⟨m, 0, none⟩)) (.pointer (some ⟨d, 0, none⟩)) [.bool b, .string ⟨s.toArray⟩] (.int .i64 c) := by
  rcases mayC_cases s (total cs) with ⟨h1, h2⟩ | ⟨h1, h2, h3⟩ | ⟨h1, h2, h3⟩
  · refine ⟨2, _, duo_none hg (fun A h => ?_) fun A h => push_long A d b s h2 hs⟩
    have := rpush_no A m cs b s h hg.toFits hs (by rw [h1]; decide)
    rw [h1] at this; exact this
  · refine ⟨4, _, duo_none hg (fun A h => ?_) fun A h => push_full A d v1 gs1 cs b s h h2 h3⟩
    have := rpush_no A m cs b s h hg.toFits hs (by rw [h1]; decide)
    rw [h1] at this; exact this
  · exact ⟨0, _, duo_both (hg.push b h2 h3) (fun A h => rpush_ok A m cs b s h hg.toFits hs h1) fun A h => push_ok A d v1 gs1 cs b s h hg h2 h3⟩
theorem duo_pop (b : Bool) : ∃ y ok Md, Duo (fun A => Half d v gs m w A v1 gs1 cs cs) Md (Stood d v gs m w) 44 12 (.pointer (some ⟨m, 0, none⟩)) (.pointer (some ⟨d, 0, none⟩)) [.bool b] (.tuple #[.string y, .bool ok]) := by
  by_cases he : cs = []
  · subst he
    exact ⟨⟨#[]⟩, false, _, duo_none DGood.nil (fun A h => rpop_none A _ b (.inr ⟨m, rfl, h⟩)) fun A h => pop_empty A d v1 gs1 b h⟩
  · have ht : 0 < total cs := by
      have h1 := hg.rows_le
      have h2 := List.length_pos_iff.2 he
      omega
    have hp : popAt b cs < cs.flatten.length := by rw [flatten_length]; unfold popAt; cases b <;> simp <;> omega
    obtain ⟨x, hx⟩ : ∃ x, cs.flatten[popAt b cs]? = some x := ⟨_, List.getElem?_eq_getElem hp⟩
    exact ⟨⟨x.toArray⟩, true, _, duo_both (hg.remove (popAt_lt hx)).1 (fun A h => rpop_some A m cs b x h hg hx) fun A h => pop_some A d v1 gs1 cs b x h hg.toFits hx⟩
theorem duo_at (i : Int) : ∃ y ok Md, Duo (fun A => Half d v gs m w A v1 gs1 cs cs) Md (Stood d v gs m w) 45 23 (.pointer (some ⟨m, 0, none⟩)) (.pointer (some ⟨d, 0, none⟩)) [.int .i64 i] (.tuple #[.string y, .bool ok]) := by
  by_cases hi : i < 0 ∨ (total cs : Int) ≤ i
  · exact ⟨⟨#[]⟩, false, _, duo_none hg (fun A h => rat_out A _ cs (.inr ⟨m, rfl, h⟩) hg.toFits i hi) fun A h => at_out A d v1 gs1 cs i h hi⟩
  · obtain ⟨n, rfl⟩ : ∃ n : Nat, i = n := ⟨i.toNat, by omega⟩
    obtain ⟨x, hx⟩ : ∃ x, cs.flatten[n]? = some x := ⟨_, List.getElem?_eq_getElem (by rw [flatten_length]; omega)⟩
    exact ⟨⟨x.toArray⟩, true, _, duo_none hg (fun A h => rat_in A _ cs (.inr ⟨m, rfl, h⟩) hg.toFits n x hx) fun A h => at_in A d v1 gs1 cs n x h hg.toFits hx⟩
theorem duo_set (i : Int) (s : Txt) (hs : s.length ≤ 281474976710656) : ∃ ok Md, Duo (fun A => Half d v gs m w A v1 gs1 cs cs) Md (Stood d v gs m w) 46 47 (.pointer (some ⟨m, 0, none⟩)) (.pointer (some ⟨d, 0, none⟩)) [.int .i64 i, .string ⟨s.toArray⟩] (.bool ok) := by
  by_cases hi : i < 0 ∨ (total cs : Int) ≤ i
  · exact ⟨false, _, duo_none hg (fun A h => rset_out A _ cs i _ (.inr ⟨m, rfl, h⟩) hg.toFits hi) fun A h => set_out A d v1 gs1 cs i _ h hi⟩
  · obtain ⟨n, rfl⟩ : ∃ n : Nat, i = n := ⟨i.toNat, by omega⟩
    have hn : n < total cs := by omega
    by_cases hl : 1048576 < s.length
    · exact ⟨false, _, duo_none hg (fun A h => rset_long A m cs n s h hg.toFits hn hl) fun A h => set_long A d v1 gs1 cs n _ h hn (by rw [mk_size]; omega)⟩
    · exact ⟨true, _, duo_both (hg.set hn (by omega)).1 (fun A h => rset_in A m cs n s h hg.toFits hn (by omega)) fun A h => stay_deq (set_in A d v1 gs1 cs n s h hg.toFits hn (by omega))⟩
theorem duo_ins (i : Int) (s : Txt) (hs : s.length ≤ 281474976710656) : ∃ c Md, Duo (fun A => Half d v gs m w A v1 gs1 cs cs) Md (Stood d v gs m w) 48 15 (.pointer (some ⟨m, 0, none⟩)) (.pointer (some ⟨d, 0, none⟩)) [.int .i64 i, .string ⟨s.toArray⟩] (.int .i64 c) := by
  by_cases hi : i < 0 ∨ (total cs : Int) < i
  · exact ⟨3, _, duo_none hg (fun A h => rins_arg A m cs i _ h hg.toFits hi) fun A h => ins_arg A d v1 gs1 cs i _ h hi⟩
  · have hi2 : 0 ≤ i ∧ i ≤ (total cs : Int) := by omega
    rcases mayC_cases s (total cs) with ⟨h1, h2⟩ | ⟨h1, h2, h3⟩ | ⟨h1, h2, h3⟩
    · refine ⟨2, _, duo_none hg (fun A h => ?_) fun A h => ins_refused A d v1 gs1 cs i _ 2 h hi2 rfl (refused_long A d s h2 hs)⟩
      have := rins_no A m cs i s h hg.toFits hi2 hs (by rw [h1]; decide)
      rw [h1] at this; exact this
    · refine ⟨4, _, duo_none hg (fun A h => ?_) fun A h => ins_refused A d v1 gs1 cs i _ 4 h hi2 rfl (refused_full A d v1 gs1 cs s h h2 h3)⟩
      have := rins_no A m cs i s h hg.toFits hi2 hs (by rw [h1]; decide)
      rw [h1] at this; exact this
    · obtain ⟨n, rfl⟩ : ∃ n : Nat, i = n := ⟨i.toNat, by omega⟩
      have hn : n ≤ total cs := by omega
      exact ⟨0, _, duo_both (hg.ins hn h2 h3) (fun A h => rins_ok A m cs n s h hg hs h1 hn) fun A h => ins_ok A d v1 gs1 cs n s h hg hn h2 h3⟩
theorem duo_rem (i : Int) : ∃ ok Md, Duo (fun A => Half d v gs m w A v1 gs1 cs cs) Md (Stood d v gs m w) 49 18 (.pointer (some ⟨m, 0, none⟩)) (.pointer (some ⟨d, 0, none⟩)) [.int .i64 i] (.bool ok) := by
  by_cases hi : i < 0 ∨ (total cs : Int) ≤ i
  · exact ⟨false, _, duo_none hg (fun A h => rremove_out A _ cs i (.inr ⟨m, rfl, h⟩) hg.toFits hi) fun A h => remove_out A d v1 gs1 cs i h hi⟩
  · obtain ⟨n, rfl⟩ : ∃ n : Nat, i = n := ⟨i.toNat, by omega⟩
    have hn : n < total cs := by omega
    exact ⟨true, _, duo_both (hg.remove hn).1 (fun A h => rremove_in A m cs n h hg hn) fun A h => remove_in A d v1 gs1 cs n h hg.toFits hn⟩
theorem duo_trim (F T : Int) : ∃ Md, Duo (fun A => Half d v gs m w A v1 gs1 cs cs) Md (Stood d v gs m w) 50 19 (.pointer (some ⟨m, 0, none⟩)) (.pointer (some ⟨d, 0, none⟩)) [.int .i64 F, .int .i64 T] (.tuple #[]) :=
  ⟨_, duo_both (hg.trim F T).1 (fun A h => rtrim_any A m cs F T h hg.toFits) fun A h => trim_any A d v1 gs1 cs F T h hg.toFits⟩
end
section
variable (w : World)
theorem nil_push (b : Bool) (s : ByteArray) : Duo (Chg (fun _ => False) w) (Chg (fun _ => False) w) (Chg (fun _ => False) w) 42 11 (.pointer none) (.pointer none) [.bool b, .string s] (.int .i64 1) :=
  duo_nil (fun A => same_nil (rpush_nil A b s)) fun A => push_nil A b s
theorem nil_pop (b : Bool) : Duo (Chg (fun _ => False) w) (Chg (fun _ => False) w) (Chg (fun _ => False) w) 44 12 (.pointer none) (.pointer none) [.bool b] (.tuple #[.string ⟨#[]⟩, .bool false]) :=
  duo_nil (fun A => rpop_none A _ b (.inl ⟨rfl, rfl⟩)) fun A => pop_nil A b
theorem nil_at (i : Int) : Duo (Chg (fun _ => False) w) (Chg (fun _ => False) w) (Chg (fun _ => False) w) 45 23 (.pointer none) (.pointer none) [.int .i64 i] (.tuple #[.string ⟨#[]⟩, .bool false]) :=
  duo_nil (fun A => rat_out A _ [] (.inl ⟨rfl, rfl⟩) DGood.nil.toFits i (by have : total [] = 0 := rfl; omega)) fun A => at_nil A i
theorem nil_set (i : Int) (s : ByteArray) : Duo (Chg (fun _ => False) w) (Chg (fun _ => False) w) (Chg (fun _ => False) w) 46 47 (.pointer none) (.pointer none) [.int .i64 i, .string s] (.bool false) :=
  duo_nil (fun A => rset_out A _ [] i s (.inl ⟨rfl, rfl⟩) DGood.nil.toFits (by have : total [] = 0 := rfl; omega)) fun A => set_nil A i s
theorem nil_ins (i : Int) (s : ByteArray) : Duo (Chg (fun _ => False) w) (Chg (fun _ => False) w) (Chg (fun _ => False) w) 48 15 (.pointer none) (.pointer none) [.int .i64 i, .string s] (.int .i64 1) :=
  duo_nil (fun A => same_nil (rins_nil A i s)) fun A => ins_nil A i s
theorem nil_rem (i : Int) : Duo (Chg (fun _ => False) w) (Chg (fun _ => False) w) (Chg (fun _ => False) w) 49 18 (.pointer none) (.pointer none) [.int .i64 i] (.bool false) :=
  duo_nil (fun A => rremove_out A _ [] i (.inl ⟨rfl, rfl⟩) DGood.nil.toFits (by have : total [] = 0 := rfl; omega)) fun A => remove_nil A i
theorem nil_trim (F T : Int) : Duo (Chg (fun _ => False) w) (Chg (fun _ => False) w) (Chg (fun _ => False) w) 50 19 (.pointer none) (.pointer none) [.int .i64 F, .int .i64 T] (.tuple #[]) :=
  duo_nil (fun A => same_nil (rtrim_nil A F T)) fun A => trim_nil A F T
end
end Go.Proofs.Ytefoieloakfhfaa
