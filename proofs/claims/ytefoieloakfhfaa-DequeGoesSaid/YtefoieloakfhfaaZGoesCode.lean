/- Parts of a function's code; leaving behind two ranges over functions. -/
import Derived.Test.YtefoieloakfhfaaZGoesIn
import Derived.Test.YtefoieloakfhfaaRows
set_option linter.unusedVariables false
set_option linter.unusedSimpArgs false
namespace Pantry
open Go
/-- What stands behind the first part, in front of it, within. -/
def csnd : Code → Code | .seq _ b => b | c => c
def cfst : Code → Code | .seq a _ => a | c => c
def cin : Code → Code | .block _ b => b | .loop b => b | .rangeFunc _ _ _ b => b | .scope b => b | c => c
def cskip : Nat → Code → Code | 0, c => c | n + 1, c => cskip n (csnd c)
def cbody (f : Func) : Code := match f.body with | some c => c | none => .skip
theorem via {c : Code} {P : Code → Prop} (c' : Code) (h : c = c') (hp : P c') : ∀ x, c = x → P x := by
  rintro x rfl
  rw [h]; exact hp
theorem wpStill_skip {P : Program} {ops : Array Oper} {rest : List Oper} {o : Oper} {a : Act} {w : World} {Q : Act → Prop} (hw : Region.wanted o (yielded ops a.tmps) = false) (h : wpStill P ops w Q rest (a.put o.dst undef)) : wpStill P ops w Q (o :: rest) a := by
  show if _ then _ else _
  rw [if_neg (by rw [hw]; decide)]
  exact h
theorem wpStill_move {P : Program} {ops : Array Oper} {rest : List Oper} {o : Oper} {a : Act} {w : World} {Q : Act → Prop} (hw : Region.wanted o (yielded ops a.tmps) = true) (x : Operand) (ho : o.op = .move x) (v : Value) (hx : a.eval x = v)
    (h : wpStill P ops w Q rest (a.put o.dst v)) : wpStill P ops w Q (o :: rest) a := by
  subst hx
  show if _ then _ else _
  rw [if_pos hw]
  unfold Oper.still execOp
  simp only [ho, Sem.run_pure]
  exact ⟨rfl, h⟩
theorem wpStill_load_at {P : Program} {ops : Array Oper} {rest : List Oper} {o : Oper} {a : Act} {w : World} {Q : Act → Prop} (hw : Region.wanted o (yielded ops a.tmps) = true) (ty : TypeId) (x : Operand) (ho : o.op = .load ty x)
    (p : Addr) (hx : a.eval x = .pointer (some p)) (cs : List Value) (d : TypeDesc) (hc : ∀ j u, cs[j]? = some u → w.cell? (p.add j) = some u)
    (hu : P.underlying ty = some d) (hd : (match d with | .struct _ | .array _ _ => true | _ => false) = true) (hi : (P.info? ty).map (·.size) = some cs.length)
    (h : wpStill P ops w Q rest (a.put o.dst (.agg cs.toArray))) : wpStill P ops w Q (o :: rest) a := by
  show if _ then _ else _
  rw [if_pos hw]
  unfold Oper.still execOp
  simp only [ho, hx, Instr.loadAt, Instr.sureAddr, Sem.run_bind, Sem.run_pure, Result.andThen_ok, run_loadVar_at w p ty cs d hc hu hd hi]
  exact ⟨rfl, h⟩
end Pantry
namespace Go.Proofs.Ytefoieloakfhfaa.dequeGoes
open Go Go.Proofs Go.Proofs.Ytefoieloakfhfaa Go.RowKit Go.ChangeShapes Go.WideShapes Go.ChangeAt Pantry
abbrev mark (D : Nat) : Deferred := { target := .collected D, args := #[] }
theorem leave_two {n : Nat} {w W : World} {tmps : Array Value} {D0 D1 b6 : Nat} (h0 : W.heap[D0]? = some (.deferred (some []))) (h1 : W.heap[D1]? = some (.deferred (some []))) (hne : D0 ≠ D1)
    (hD0 : w.heap.size ≤ D0) (hD1 : w.heap.size ≤ D1) (hc : W.cell? ⟨b6, 0, none⟩ = some (.bool true)) (ht : tmps[6]? = some (.pointer (some ⟨b6, 0, none⟩))) (hb : Below w.heap.size w W) :
    LeavesInM Fence.wide n Try.prog Try.f8 tmps (OkPost w) [mark D1, mark D0] .returning W := by
  have h0' : (W.putObj D1 (.deferred none)).heap[D0]? = some (.deferred (some [])) := (World.putObj_heap_other hne).trans h0
  have hc1 := cell_kept hc (grownBy_putObj' W D1 (.deferred none)) (fun r e => by cases e; exact ⟨_, h1, rfl⟩)
  have hc2 := cell_kept hc1 (grownBy_putObj' _ D0 (.deferred none)) (fun r e => by cases e; exact ⟨_, h0', rfl⟩)
  refine ⟨by simp, .inl ⟨_, _, rfl, run_takeDeferred h1, ?_⟩⟩
  refine ⟨by simp, .inl ⟨_, _, rfl, run_takeDeferred h0', ?_⟩⟩
  refine ⟨.bool true, ?_, rfl, ?_⟩
  · have hg : tmps[6]! = .pointer (some ⟨b6, 0, none⟩) := by simp [Array.getElem!_eq_getD, Array.getD_eq_getD_getElem?, ht]
    simp [results, Try.f8, go_sem, hc2, ht, hg]
  · have h := hb.size
    exact (hb.trans (belowK_b (w := w) (by omega) W D1 _ _ hD1 h1 rfl rfl)).trans (belowK_b (w := w) (by omega) _ D0 _ _ hD0 h0' rfl rfl)
theorem below_keep {A B : World} (h : Below A.heap.size A B) {k : Nat} {o : Obj} (hk : A.heap[k]? = some o) : B.heap[k]? = some o := (h.block k (block_lt hk)).trans hk
theorem last_step {n : Nat} {w W W1 : World} {tmps : Array Value} {D0 D1 b6 : Nat} (hb : Below w.heap.size w W) (hx : Boxed W b6 4 (.bool false)) (hb1 : Below W.heap.size W W1) (h0 : W.heap[D0]? = some (.deferred (some []))) (h1 : W.heap[D1]? = some (.deferred (some []))) (hne : D0 ≠ D1)
    (hD0 : w.heap.size ≤ D0) (hD1 : w.heap.size ≤ D1) (hb6 : w.heap.size ≤ b6) (ht : tmps[6]? = some (.pointer (some ⟨b6, 0, none⟩))) :
    LeavesInM Fence.wide n Try.prog Try.f8 tmps (OkPost w) [mark D1, mark D0] .returning (W1.setCell ⟨b6, 0, none⟩ (.bool true)) := by
  have hx1 : Boxed W1 b6 4 (.bool false) := below_keep hb1 hx
  have ne : ∀ D : Nat, W.heap[D]? = some (Obj.deferred (some [])) → (W1.setCell ⟨b6, 0, none⟩ (.bool true)).heap[D]? = some (Obj.deferred (some [])) := fun D hD => by
    have hD1 : W1.heap[D]? = some (Obj.deferred (some [])) := below_keep hb1 hD
    refine ((grownBy_setCell' W1 b6 (.bool true)).block D (block_lt hD1) ?_).trans hD1
    intro e
    obtain rfl : D = b6 := by simpa using e
    rw [show W1.heap[D]? = _ from hx1] at hD1; cases hD1
  exact leave_two (ne D0 h0) (ne D1 h1) hne hD0 hD1 (hx1.set (.bool true)).cell ht ((hb.trans (hb1.mono hb.size)).setCell (p := ⟨b6, 0, none⟩) hb6 _)
end Go.Proofs.Ytefoieloakfhfaa.dequeGoes
