/- A region that draws its order and ends in a call, within a round of a range over a function. -/
import Derived.Test.YtefoieloakfhfaaRows
import Derived.WalkKit
import Derived.StillTailTactics
import Derived.RangeFuncCalls
import Derived.TacticsIn
import Derived.OrdersIn
set_option linter.unusedVariables false
set_option linter.unusedSimpArgs false
namespace Pantry
open Go Go.RowKit
section
variable {P : Program} {l n : Nat} {ops : Array Oper} {Q : Exit → Act → World → Prop}
theorem rows_round {row : String} {args : Array Value} {w : World} {R : Value → World → Prop} (h : Rows P row args w R) : RowsIn (Fence.wide.inRound l) n P row args w R :=
  fun c cs _ => let ⟨v, w', r, s⟩ := h c cs; ⟨v, w', r, stepsIn_wide.2 s⟩
theorem oper_round {o : Oper} {a : Act} {w : World} {K : Act → World → Prop} (hd : ∀ c, o.op ≠ .defer c) (h : o.wp P a w K Q) : o.wpIn (Fence.wide.inRound l) n P a w K Q := by
  refine ⟨fun _ _ => trivial, ?_⟩
  rw [Fence.inRound_round, Oper.semAt_some l _ _ hd]
  have h1 : o.upon P a K Q ((execOp a.eval o).run P w) := h
  revert h1
  generalize (execOp a.eval o).run P w = r
  have hdp : (Fence.wide.inRound l).depth.isSome = true → 1 ≤ n := fun e => by cases e
  cases r with
  | ok x w' =>
    cases x with
    | enter f args => exact fun h => ⟨hdp, callsIn_wide.2 h⟩
    | row r args => exact fun h => ⟨hdp, rows_round h⟩
    | value v => exact id
    | skip => exact id
    | defer d => exact id
    | _ => exact fun h => h.elim
  | halt x w' => cases x <;> first | exact id | exact fun h => h.elim
theorem wpOp_round {i : Nat} {a : Act} {w : World} {K : Act → World → Prop} (hd : ∀ o ∈ ops, ∀ c, o.op ≠ .defer c) (hq : ¬ LetsOut Q) (h : wpOp P ops Q i K a w) : wpOpIn (Fence.wide.inRound l) n P ops Q i K a w := by
  unfold wpOp at h
  unfold wpOpIn
  cases ho : ops[i]? with
  | none => simpa [ho] using h
  | some o =>
    simp only [ho] at h ⊢
    by_cases hw : Region.wanted o (yielded ops a.tmps) = true
    · rw [if_pos hw] at h ⊢
      rcases h with h | h
      · exact oper_round (hd o (Array.mem_of_getElem? ho)) h
      · exact absurd h.2 hq
    · rw [if_neg hw] at h ⊢
      exact ⟨fun _ _ => trivial, h⟩
theorem wpAny_round {md : Region.Mode} (hd : ∀ o ∈ ops, ∀ c, o.op ≠ .defer c) (hq : ¬ LetsOut Q) : ∀ (fuel : Nat) (listed : Array Bool) (a : Act) (w : World), wpAny P md ops Q fuel listed a w → wpAnyIn (Fence.wide.inRound l) n P md ops Q fuel listed a w
  | 0, _, _, _, h => h
  | fuel + 1, _, _, _, h => ⟨h.1, fun i hi => wpOpIn_mono (fun a' w' h' => wpAny_round hd hq fuel _ a' w' h') (wpOp_round hd hq (h.2 i hi))⟩
/-- No deferred call. -/
def noDefer (ops : Array Oper) : Bool := ops.all fun o => match o.op with | .defer _ => false | _ => true
theorem noDefer_spec (h : noDefer ops = true) : ∀ o ∈ ops, ∀ c, o.op ≠ .defer c := fun o ho c e => by
  have := (Array.all_eq_true_iff_forall_mem.1 h) o ho
  rw [e] at this; cases this
theorem region_round {id : Nat} {a : Act} {w : World} (hm : P.follows .mixedOrders = true) (hd : noDefer ops = true) (hq : ¬ LetsOut Q) (h : wpAny P .any ops Q ops.size (Array.replicate ops.size false) a { w with drawn := w.drawn + 1 }) :
    (Code.region id ops true).wpIn (Fence.wide.inRound l) n P Q a w :=
  wpIn_region_any hm (wpAny_round (noDefer_spec hd) hq _ _ _ _ h)
end
/-- Reads first, then a forced row of operations. -/
theorem region_tail_round {P : Program} {l m id : Nat} {Q : Exit → Act → World → Prop} {a : Act} {w : World} {os : List Oper} (n : Nat) (hm : P.follows .mixedOrders = true) (hB : Region.lexTailB .any os.toArray n = true) (hd : noDefer os.toArray = true) (hq : ¬ LetsOut Q)
    (h : wpStill P os.toArray w.drew (fun a' => wpList P os.toArray Q (os.drop n) a' w.drew) (os.take n) a) : (Code.region id os.toArray true).wpIn (Fence.wide.inRound l) m P Q a w := by
  refine region_round hm hd hq ?_
  simp only [Region.lexTailB, Bool.and_eq_true, decide_eq_true_eq] at hB
  obtain ⟨⟨⟨⟨b1, b2⟩, b3⟩, b4⟩, b5⟩ := hB
  have hn : n < os.length := by simpa using b2
  have e1 : (os.take n).length = n := by simp; omega
  have e2 : (os.drop n).length = os.toArray.size - n := by simp
  have i0 : HeadInv .any os.toArray n (Array.replicate os.toArray.size false) := by
    refine ⟨by simp, ?_, ?_⟩
    · intro j oj _ hl
      rw [getD_replicate_false] at hl
      cases hl
    · intro t _ ht
      exact getD_in (by simpa using ht) (getD_replicate_false _ _)
  have hL := wpAnyL_lex (md := .any) (g := os.toArray.size - n) b1 b3 b4 b2 (os.take n) 0 _ a (fun j hj => by rw [e1] at hj; simp [hj]) (by simpa using e1) i0 (by rw [e1]; exact b5) h
  have hA := wpAny_of_head (Q' := Q) (g := os.toArray.size - n) (fun listed a' hl => by
    have hs := wpAny_of_seq (md := .any) (Q' := Q) (os.drop n) n listed a' w.drew (fun j => by simp [List.getElem?_drop]) (by rw [e2]; exact hl.1) hl.2
    rwa [e2] at hs) _ _ _ hL
  rw [e1, show n + (os.toArray.size - n) = os.toArray.size by omega] at hA
  exact hA
end Pantry
