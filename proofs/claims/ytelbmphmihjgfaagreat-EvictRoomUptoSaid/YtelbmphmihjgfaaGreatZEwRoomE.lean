/- EvictRoom: a space of texts behind Enforce; Enforce told as Rm. -/
import Derived.Test.YtelbmphmihjgfaaGreatZEwPrep
import Derived.Test.YtelbmphmihjgfaaGreatZEwRoomP
import Derived.Test.YtelbmphmihjgfaaGreatZEvEnfN
set_option linter.unusedVariables false
namespace Go.Proofs.YtelbmphmihjgfaaGreat.DEnt
open Go.RowKit Pantry Go.Maps Go.Sort

variable {w w' : World} {s p r pm : Nat} {F G : Nat → Prop} {X Y : Sp} {P P' : List Cand} {D D' : List Nat}
theorem EvTo.spx (hx : SpX w s F X) (hp : PlH w p G pm P) (hr : SrcAt w r D) (h : EvTo (EvT F G r) s p r pm Y P' D' w w') (hs : ∀ e ∈ Y.ents, e ∈ X.ents) :
    ∃ F', SpX w' s F' Y ∧ ∀ k, F' k → EvT F G r k ∨ w.heap.size ≤ k := by
  obtain ⟨F', G', h1, h2, h3, h4⟩ := h.ex
  refine ⟨F', ⟨h1, fun e he => ?_⟩, fun k hk => h4 k (.inl hk)⟩
  obtain ⟨ht, hc⟩ := hx.tx e (hs e he)
  refine ⟨h.chg.heap ht ?_, hc⟩
  rintro (hk | hk | hk)
  · exact SpX.no hx.sp ht hk
  · exact hp.not_foot ht (by decide) hk
  · obtain ⟨c, hc2⟩ := hr.head
    exact types_ne ht hc2 (by decide) hk
/-- What Enforce leaves, for the law of room. -/
def RoomE (T : Nat → Prop) (s : Nat) (X : Sp) (w : World) (e : Ending) (w' : World) : Prop :=
  ((X.most = 0 ∨ ((usedN X.ents : Nat) : Int) ≤ X.most) ∧ e = .returned (.tuple #[.int .i64 0, .int .i64 0]) ∧ (∃ F', SpX w' s F' X ∧ ∀ k, F' k → T k ∨ w.heap.size ≤ k) ∧ Chg T w w') ∨
  ((X.most ≠ 0 ∧ X.most < ((usedN X.ents : Nat) : Int)) ∧ ∃ (n : Nat) (Y : Sp) (code : Int), e = .returned (.tuple #[.int .i64 n, .int .i64 code]) ∧ Rm X n Y ∧ Y.Fresh ∧ Y.policy = X.policy ∧ Y.now = X.now ∧ (X.policy = 0 → n = 0) ∧
    (∃ F', SpX w' s F' Y ∧ ∀ k, F' k → T k ∨ w.heap.size ≤ k) ∧ Chg T w w' ∧
    ((code = 0 ∧ ((usedN Y.ents : Nat) : Int) ≤ X.most) ∨ (code = 4 ∧ X.most < ((usedN Y.ents : Nat) : Int) ∧ (X.policy ≠ 0 → ∀ k, Y.rank k = none))))
theorem enf_room (hx : SpX w s F X) (hp : PlH w p G pm []) (hr : SrcAt w r D) (hD : ∀ x ∈ D, x < 18446744073709551616) (h1 : X.steps = []) (h2 : X.touched = []) :
    Calls Tryz.prog 9 #[.pointer (some ⟨s, 0, none⟩), .pointer (some ⟨p, 0, none⟩), .pointer (some ⟨r, 0, none⟩)] w (RoomE (EvT F G r) s X w) := by
  have hg := hx.sp.good
  by_cases hm : X.most ≠ 0 ∧ X.most < ((usedN X.ents : Nat) : Int)
  · by_cases hpol : X.policy = 0
    · refine (enf_none hx.sp hp hr (fun c hc => by cases hc) hD hpol hm).mono ?_
      rintro e w' ⟨code, rfl, ht, hc⟩
      obtain ⟨q1, q2, q3, q4⟩ := Rm.go hg h1 h2 (.zero : Gone X.most X.swept 0 X.swept)
      refine .inr ⟨hm, 0, _, code, rfl, q1, q2, q3, q4, fun _ => rfl, EvTo.spx hx hp hr ht q1.sub, ht.chg, ?_⟩
      exact hc.imp id fun h => ⟨h.1, h.2, fun h0 => absurd hpol h0⟩
    · refine (enf_full hx.sp hp hr (fun c hc => by cases hc) hD hm).mono ?_
      rintro e w' (⟨h0, -⟩ | ⟨-, n, Y, P', code, hG, ht, rfl, hc⟩)
      · rcases h0 with h0 | h0
        · exact absurd h0 hm.1
        · exact absurd hm.2 (Int.not_lt.2 h0)
      · obtain ⟨q1, q2, q3, q4⟩ := Rm.go hg h1 h2 hG
        exact .inr ⟨hm, n, Y, code, rfl, q1, q2, q3, q4, fun h0 => absurd h0 hpol, EvTo.spx hx hp hr ht q1.sub, ht.chg, hc⟩
  · have h0 : X.most = 0 ∨ ((usedN X.ents : Nat) : Int) ≤ X.most := by
      by_cases h0 : X.most = 0
      · exact .inl h0
      · exact .inr (Int.not_lt.1 fun h => hm ⟨h0, h⟩)
    refine (enf_no hx.sp hp hr h0).mono ?_
    rintro e w' (⟨-, rfl, ht⟩ | ⟨h3, -⟩)
    · exact .inl ⟨h0, rfl, EvTo.spx hx hp hr ht (fun _ h => h), ht.chg⟩
    · exact absurd h3 hm
end Go.Proofs.YtelbmphmihjgfaaGreat.DEnt
