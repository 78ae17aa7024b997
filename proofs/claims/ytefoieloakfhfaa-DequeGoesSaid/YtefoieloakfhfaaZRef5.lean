/- The document's answer for the deque: Remove, Pop, Trim. -/
import Derived.Test.YtefoieloakfhfaaZRef5P
namespace Go.Proofs.Ytefoieloakfhfaa
open Go.RowKit Pantry

theorem RefAt.below {w w' : World} {m : Nat} {css : List (List Txt)} (h : RefAt w m css) (hb : Below w.heap.size w w') : RefAt w' m css := h.keeps (T := fun _ => True) (KeepsT.ofBelow hb) fun _ _ => trivial
theorem rremove_in (w : World) (m : Nat) (css : List (List Txt)) (i : Nat) (h : RefAt w m css) (hg : DGood css) (hi : i < total css) :
    Calls Try.prog 49 #[.pointer (some ⟨m, 0, none⟩), .int .i64 i] w (RefPost m (removeC i css) (.bool true) w) := by
  have hlt : i < css.flatten.length := by rw [flatten_length]; exact hi
  obtain ⟨x, hx⟩ : ∃ x, css.flatten[i]? = some x := ⟨_, List.getElem?_eq_getElem hlt⟩
  have HA := Lib.hid (rat_in w _ css (.inr ⟨m, rfl, h⟩) hg.toFits i x hx)
  have HW := Lib.hid (fun w' (hb : Below w.heap.size w w') => rwithout_any w' m css i ((i : Int) + 1) false (h.below hb) hg.toFits)
  have HE := Lib.hid (without_remove hg hi)
  have hb := hg.total
  have hib : i < 1048577 := by omega
  clear h hg hi hlt hb hx
  go_enter Try.func49, Try.ntmps49
  go_wp2_with (first
    | (go_at_call 45; refine HA.out.mono ?_; clear HA; rintro e w1 ⟨rfl, hb1⟩; have HB1 := Lib.hid hb1; have HW1 := Lib.hid (HW.out w1 hb1); clear hb1)
    | (go_at_call 62; refine HW1.out.mono ?_; clear HW1; rintro e w2 ⟨rfl, hr2, hc2⟩; have HR2 := Lib.hid hr2; have HC2 := Lib.hid hc2; clear hr2 hc2))
  go_ret
  exact ⟨rfl, by rw [← HE.out]; exact HR2.out, (Chg.of_below (S := fun j => j = m) HB1.out).trans HC2.out fun _ _ e => e⟩
theorem rremove_out (w : World) (p : Option Addr) (css : List (List Txt)) (i : Int) (h : RefOr w p css) (hg : Fits css) (hi : i < 0 ∨ (total css : Int) ≤ i) :
    Calls Try.prog 49 #[.pointer p, .int .i64 i] w fun e w' => e = .returned (.bool false) ∧ Below w.heap.size w w' := by
  have HA := Lib.hid (rat_out w p css h hg i hi)
  clear h hg hi
  go_enter Try.func49, Try.ntmps49
  go_wp2_with (go_at_call 45; refine HA.out.mono ?_; clear HA; rintro e w1 ⟨rfl, hb1⟩; have HB1 := Lib.hid hb1; clear hb1)
  go_ret
  exact ⟨rfl, HB1.out⟩
theorem rtrim_any (w : World) (m : Nat) (css : List (List Txt)) (F T : Int) (h : RefAt w m css) (hg : Fits css) :
    Calls Try.prog 50 #[.pointer (some ⟨m, 0, none⟩), .int .i64 F, .int .i64 T] w (RefPost m (trimC F T css) (.tuple #[]) w) := by
  have HW := Lib.hid (rwithout_any w m css F T true h hg)
  have HE := Lib.hid (without_trim F T css)
  rw [HE.out] at HW
  clear h hg
  go_enter Try.func50, Try.ntmps50
  go_wp2_with (go_at_call 62; refine HW.out.mono ?_; clear HW; rintro e w2 ⟨rfl, hr2, hc2⟩; have HR2 := Lib.hid hr2; have HC2 := Lib.hid hc2; clear hr2 hc2)
  go_end0
  exact ⟨rfl, HR2.out, HC2.out⟩
theorem rtrim_nil (w : World) (F T : Int) : Calls Try.prog 50 #[.pointer none, .int .i64 F, .int .i64 T] w fun e w' => e = .returned (.tuple #[]) ∧ w = w' := by
  go_enter Try.func50, Try.ntmps50
  go_wp2_with fail
  go_end0
  exact ⟨rfl, rfl⟩
theorem rpop_some (w : World) (m : Nat) (css : List (List Txt)) (b : Bool) (x : Txt) (h : RefAt w m css) (hg : DGood css) (hx : css.flatten[popAt b css]? = some x) :
    Calls Try.prog 44 #[.pointer (some ⟨m, 0, none⟩), .bool b] w (RefPost m (removeC (popAt b css) css) (.tuple #[.string ⟨x.toArray⟩, .bool true]) w) := by
  have hi := popAt_lt hx
  have HL := Lib.hid (rlen_or w _ css (.inr ⟨m, rfl, h⟩) hg.rows (Nat.le_trans hg.total (by omega)))
  have HA := Lib.hid (fun w' (hb : Below w.heap.size w w') => rat_in w' _ css (.inr ⟨m, rfl, h.below hb⟩) hg.toFits (popAt b css) x hx)
  have HW := Lib.hid (fun w' (hb : Below w.heap.size w w') => rwithout_any w' m css (popAt b css) ((popAt b css : Int) + 1) false (h.below hb) hg.toFits)
  have HE := Lib.hid (without_remove hg hi)
  have hb := hg.total
  obtain ⟨i, hpi⟩ : ∃ i, popAt b css = i := ⟨_, rfl⟩
  rw [hpi] at HA HW HE hi ⊢
  have hib : i < 1048577 := by omega
  have hbi : (b = true → i = 0) ∧ (b = false → i + 1 = total css) := by
    unfold popAt at hpi
    constructor
    · rintro rfl; simpa using hpi.symm
    · rintro rfl; simp at hpi; omega
  obtain ⟨N, hN⟩ : ∃ N, total css = N := ⟨_, rfl⟩
  rw [hN] at HL hbi
  have hNb : N ≤ 1048576 := by rw [← hN]; exact hb
  clear h hg hi hx hb hpi hN
  cases b with
  | true =>
    obtain rfl : i = 0 := hbi.1 rfl
    clear hbi
    go_enter Try.func44, Try.ntmps44
    go_wp2_with (first
      | (go_at_call 52; refine HL.out.mono ?_; clear HL; rintro e w1 ⟨rfl, hb1⟩; have HB1 := Lib.hid hb1; have HA1 := Lib.hid (HA.out w1 hb1); clear hb1)
      | (go_at_call 45; refine HA1.out.mono ?_; clear HA1; rintro e w2 ⟨rfl, hb2⟩; have HB2 := Lib.hid (HB1.out.trans (hb2.mono HB1.out.size)); have HW2 := Lib.hid (HW.out w2 HB2.out); clear hb2)
      | (go_at_call 62; refine HW2.out.mono ?_; clear HW2; rintro e w3 ⟨rfl, hr3, hc3⟩; have HR3 := Lib.hid hr3; have HC3 := Lib.hid hc3; clear hr3 hc3))
    go_ret2
    exact ⟨rfl, by rw [← HE.out]; exact HR3.out, (Chg.of_below (S := fun j => j = m) HB2.out).trans HC3.out fun _ _ e => e⟩
  | false =>
    obtain rfl : N = i + 1 := (hbi.2 rfl).symm
    clear hbi
    go_enter Try.func44, Try.ntmps44
    go_wp2_with (first
      | (go_at_call 52; refine HL.out.mono ?_; clear HL; rintro e w1 ⟨rfl, hb1⟩; have HB1 := Lib.hid hb1; have HA1 := Lib.hid (HA.out w1 hb1); clear hb1)
      | (go_at_call 45; refine HA1.out.mono ?_; clear HA1; rintro e w2 ⟨rfl, hb2⟩; have HB2 := Lib.hid (HB1.out.trans (hb2.mono HB1.out.size)); have HW2 := Lib.hid (HW.out w2 HB2.out); clear hb2)
      | (go_at_call 62; refine HW2.out.mono ?_; clear HW2; rintro e w3 ⟨rfl, hr3, hc3⟩; have HR3 := Lib.hid hr3; have HC3 := Lib.hid hc3; clear hr3 hc3))
    go_ret2
    exact ⟨rfl, by rw [← HE.out]; exact HR3.out, (Chg.of_below (S := fun j => j = m) HB2.out).trans HC3.out fun _ _ e => e⟩
theorem rpop_none (w : World) (p : Option Addr) (b : Bool) (h : RefOr w p []) :
    Calls Try.prog 44 #[.pointer p, .bool b] w fun e w' => e = .returned (.tuple #[.string ⟨#[]⟩, .bool false]) ∧ Below w.heap.size w w' := by
  have HL := Lib.hid (rlen_or w p [] h (by simp) (by simp [total]))
  rw [show ((total [] : Nat) : Int) = 0 from rfl] at HL
  have HA := Lib.hid (fun w' (hb : Below w.heap.size w w') (i : Int) (hi : i < 0 ∨ ((total [] : Nat) : Int) ≤ i) =>
    rat_out w' p [] (h.imp id fun ⟨m, e, hr⟩ => ⟨m, e, hr.below hb⟩) DGood.nil.toFits i hi)
  clear h
  cases b
  all_goals
    go_enter Try.func44, Try.ntmps44
    go_wp2_with (first
      | (go_at_call 52; refine HL.out.mono ?_; clear HL; rintro e w1 ⟨rfl, hb1⟩; have HB1 := Lib.hid hb1; have HA1 := Lib.hid (HA.out w1 hb1); clear hb1)
      | (go_at_call 45; refine (HA1.out _ (by simp [total])).mono ?_; clear HA1; rintro e w2 ⟨rfl, hb2⟩; have HB2 := Lib.hid (HB1.out.trans (hb2.mono HB1.out.size)); clear hb2))
    go_ret2
    exact ⟨rfl, HB2.out⟩
end Go.Proofs.Ytefoieloakfhfaa
