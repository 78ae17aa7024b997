/- The law's plays, whole: of a deque and its answer, and of none. -/
import Derived.Test.YtefoieloakfhfaaZStands
set_option linter.unusedVariables false
set_option linter.unusedSimpArgs false
namespace Go.Proofs.Ytefoieloakfhfaa
open Go.RowKit Pantry

set_option maxHeartbeats 4000000 in
set_option maxRecDepth 100000 in
theorem plays_stands (w : World) (p q : Option Addr) (StE : World → Prop) (hq : ∀ A B, StE A → Chg (fun _ => False) A B → StE B) (who i j : Int) (flag : Bool) (s : Txt) (big : Int)
    (hS : ∀ A, StE A → Calls Try.prog 31 #[.pointer p, .pointer q] A fun e A' => e = .returned (.bool true) ∧ Below A.heap.size A A') (hst : StE w) :
    Calls Try.prog 30 #[.pointer p, .pointer q, .agg #[.int .i64 who, .int .i64 8, .int .i64 i, .int .i64 j, .bool flag, .string ⟨s.toArray⟩, .int .i64 big]] w (PlayPost StE) := by
  have HQ := Lib.hid hq
  obtain ⟨w1, hw1⟩ : ∃ w1, w.alloc (.cells #[.int .i64 who, .int .i64 8, .int .i64 i, .int .i64 j, .bool flag, .string ⟨s.toArray⟩, .int .i64 big] 39) = w1 := ⟨_, rfl⟩
  have HX1 : Hid (Bx w1 w.heap.size ⟨who, 8, i, j, flag, s, big⟩) := Lib.hid (by rw [← hw1]; exact box_start (o := ⟨who, 8, i, j, flag, s, big⟩))
  have HS1 : Hid (StE w1) := Lib.hid (by rw [← hw1]; exact hq w _ hst ((Chg.refl _ w).alloc _))
  obtain ⟨x0, x1, x2, x3, x4, x5, x6⟩ := HX1.out.cells
  have HSS := Lib.hid (hS w1 HS1.out)
  clear hst hS hq
  go_enter Try.func30, Try.ntmps30
  go_wp2_with (go_at_call 31; refine HSS.out.mono ?_; rintro e w3 ⟨rfl, hb3⟩
               have HM3 := Lib.hid (HQ.out _ _ HS1.out (Chg.of_below hb3))
               clear hb3)
  go_ret
  exact ⟨by first | rfl | simp, HM3.out⟩

theorem plays_some (w : World) (d : Nat) (v : Value) (gs : List Nat) (m : Nat) (cs : List (List Txt)) (o : Op7) (ho : o.Ok) (hg : DGood cs) (h : DeqAt w d v gs cs) (r : RefAt w m cs) :
    Calls Try.prog 30 #[.pointer (some ⟨d, 0, none⟩), .pointer (some ⟨m, 0, none⟩), .agg o.cells.toArray] w (PlayPost (Stood d v gs m w)) := by
  obtain ⟨who, act, i, j, flag, s, big⟩ := o
  have hh := Half.refl h r
  have hq : ∀ A B, Stood d v gs m w A → Chg (fun _ => False) A B → Stood d v gs m w B := fun A B h hc => h.quiet hc
  by_cases h0 : act = 0
  · subst h0; obtain ⟨c, Md, hD⟩ := duo_push d v gs m w v gs cs hg flag (txtOf ⟨who, 0, i, j, flag, s, big⟩) (txtOf_length ho)
    exact plays_push w _ _ _ _ _ who i j flag s big c ho hD hh
  by_cases h1 : act = 1
  · subst h1; obtain ⟨y, ok, Md, hD⟩ := duo_pop d v gs m w v gs cs hg flag
    exact plays_pop w _ _ _ _ _ who i j flag s big y ok hD hh
  by_cases h2 : act = 2
  · subst h2; obtain ⟨y, ok, Md, hD⟩ := duo_at d v gs m w v gs cs hg i
    exact plays_at w _ _ _ _ _ who i j flag s big y ok hD hh
  by_cases h3 : act = 3
  · subst h3; obtain ⟨ok, Md, hD⟩ := duo_set d v gs m w v gs cs hg i (txtOf ⟨who, 3, i, j, flag, s, big⟩) (txtOf_length ho)
    exact plays_set w _ _ _ _ _ who i j flag s big ok ho hD hh
  by_cases h4 : act = 4
  · subst h4; obtain ⟨c, Md, hD⟩ := duo_ins d v gs m w v gs cs hg i (txtOf ⟨who, 4, i, j, flag, s, big⟩) (txtOf_length ho)
    exact plays_ins w _ _ _ _ _ who i j flag s big c ho hD hh
  by_cases h5 : act = 5
  · subst h5; obtain ⟨ok, Md, hD⟩ := duo_rem d v gs m w v gs cs hg i
    exact plays_rem w _ _ _ _ _ who i j flag s big ok hD hh
  by_cases h6 : act = 6
  · subst h6; obtain ⟨Md, hD⟩ := duo_trim d v gs m w v gs cs hg i j
    exact plays_trim w _ _ _ _ _ who i j flag s big hD hh
  by_cases h7 : act = 7
  · subst h7
    refine plays_many w _ _ (Stood d v gs m w) hq who i j flag s big ho.s ?_ ⟨v, gs, cs, hg, hh⟩
    rintro A t ⟨v', gs', cs', hg', hh'⟩ ht
    obtain ⟨c, Md, hD⟩ := duo_push d v gs m w v' gs' cs' hg' flag t ht
    exact ⟨c, _, Md, hh', hD⟩
  by_cases h8 : act = 8
  · subst h8
    refine plays_stands w _ _ (Stood d v gs m w) hq who i j flag s big ?_ ⟨v, gs, cs, hg, hh⟩
    rintro A ⟨v', gs', cs', hg', hh'⟩
    exact stands_any A _ _ cs' (.inr ⟨d, v', gs', rfl, hh'.deq⟩) (.inr ⟨m, rfl, hh'.ref⟩) hg'.toFits
  exact plays_other w _ _ _ hq who act i j flag s big (by omega) ⟨v, gs, cs, hg, hh⟩
theorem plays_nil (w : World) (o : Op7) (ho : o.Ok) : Calls Try.prog 30 #[.pointer none, .pointer none, .agg o.cells.toArray] w (PlayPost (Chg (fun _ => False) w)) := by
  obtain ⟨who, act, i, j, flag, s, big⟩ := o
  have hh : Chg (fun _ => False) w w := Chg.refl _ w
  have hq : ∀ A B, Chg (fun _ => False) w A → Chg (fun _ => False) A B → Chg (fun _ => False) w B := fun A B h hc => h.trans hc fun _ _ e => e
  by_cases h0 : act = 0
  · subst h0; exact plays_push w _ _ _ _ _ who i j flag s big _ ho (nil_push w flag _) hh
  by_cases h1 : act = 1
  · subst h1; exact plays_pop w _ _ _ _ _ who i j flag s big _ _ (nil_pop w flag) hh
  by_cases h2 : act = 2
  · subst h2; exact plays_at w _ _ _ _ _ who i j flag s big _ _ (nil_at w i) hh
  by_cases h3 : act = 3
  · subst h3; exact plays_set w _ _ _ _ _ who i j flag s big _ ho (nil_set w i _) hh
  by_cases h4 : act = 4
  · subst h4; exact plays_ins w _ _ _ _ _ who i j flag s big _ ho (nil_ins w i _) hh
  by_cases h5 : act = 5
  · subst h5; exact plays_rem w _ _ _ _ _ who i j flag s big _ (nil_rem w i) hh
  by_cases h6 : act = 6
  · subst h6; exact plays_trim w _ _ _ _ _ who i j flag s big (nil_trim w i j) hh
  by_cases h7 : act = 7
  · subst h7
    exact plays_many w _ _ _ hq who i j flag s big ho.s (fun A t h ht => ⟨_, _, _, h, nil_push w flag _⟩) hh
  by_cases h8 : act = 8
  · subst h8
    exact plays_stands w _ _ _ hq who i j flag s big (fun A _ => stands_any A _ _ [] (.inl ⟨rfl, rfl⟩) (.inl ⟨rfl, rfl⟩) DGood.nil.toFits) hh
  exact plays_other w _ _ _ hq who act i j flag s big (by omega) hh
end Go.Proofs.Ytefoieloakfhfaa
