/- An append of one element within a region that draws its order. -/
import Derived.Test.YtdoddnnggamaiaaMem
import Derived.Deep.RegionHeld3
import Derived.Deep.AppendLies
namespace Pantry
open Go Go.RowKit
theorem grownBy_drew_first {w w' : World} {row : Option Nat} (h : w.drew.grownBy w' row) : w.grownBy w' row := ⟨h.os, h.tape, h.output, h.size, h.block⟩
theorem step_append1 {P : Program} {t e : TypeId} {size bytes : Nat} {z : Value} (E : ElemT P t e size bytes z) {w : World} {ops : Array Oper} {o : Oper} {a : Act} {K : Act → World → Prop} {Q : Exit → Act → World → Prop} {E' : Prop} (hgd : o.guard = none) (s x : Operand)
    (ho : o.op = .call { callee := .builtin .append, args := #[s, x], argTypes := #[t, t] })
    (base : Nat) {v : Value} {n : Nat} {xs : List Value} (hs : a.eval s = v) (hown : w.ownsRow base e size v n xs)
    (us : Array Value) (hx : a.eval x = .slice (some ⟨w.heap.size, 0, none⟩) 1 1) (hl : us.size = size) (h1 : ∀ u ∈ us, u.oneCell' = true)
    (hbytes : (n + 1) * bytes ≤ 140737488355328) (hbase : base ≤ w.heap.size)
    (h : ∀ v' w', w'.ownsRow base e size v' (n + 1) (xs ++ us.toList) → w.grownBy w' v.ownBlock → Below base w w' → (∀ k, v'.ownBlock = some k → v.ownBlock = some k ∨ w.heap.size ≤ k) → K (a.put o.dst v') w') :
    if Region.wanted o (yielded ops a.tmps) = true then Oper.wp P o a ((w.alloc (.cells us e)).drew) K Q else E' := by
  have hw : Region.wanted o (yielded ops a.tmps) = true := by simp [Region.wanted, hgd]
  rw [if_pos hw]
  obtain ⟨v', w', hr, a1, a2, _, a4⟩ := run_append (P := P) E o.type (w := (w.alloc (.cells us e)).drew) base ((hown.alloc (.cells us e)).drew) (ad := some ⟨w.heap.size, 0, none⟩) (m := 1) (c := 1) (news := us.toList) (by simp) (by rw [Nat.one_mul]; exact hl) (Rd.drew (Rd.new w us e (0, 0) h1)) hbytes (by simp; omega)
  have g : w.grownBy w' v.ownBlock := grownBy_alloc_first (grownBy_drew_first a2)
  unfold Oper.wp execOp
  simp only [ho, resolve, invoke, builtin, Sem.run_bind, Sem.run_pure, Result.andThen_ok, List.map_toArray, List.map_cons, List.map_nil, hs, hx, hr]
  exact h v' w' a1 g ((Below.refl _ _).grown g hbase (fun k hk => (hown.lt k hk).1)) fun k hk => (a4 k hk).imp id (by simp; omega)
end Pantry
