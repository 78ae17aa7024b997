/- General laws: which blocks may have changed; copies into a row; rows in which elements are put in or taken out. -/
import Derived.Test.YtbjfigegiffefaaMem
import Derived.Laws.CopyOwn
import Derived.Laws.OwnMore
import Derived.Laws.Externs
import Derived.Lib.Overlaps
import Derived.Lib.AppendZeros
import Derived.Lib.JoinLaws
import Derived.Deep.RegionLaw
namespace Pantry
open Go Go.RowKit

/-- From w to w' only blocks of S, and new ones, may have changed. -/
structure Chg (S : Nat → Prop) (w w' : World) : Prop where
  os : w'.os = w.os
  tape : w'.tape = w.tape
  output : w'.output = w.output
  size : w.heap.size ≤ w'.heap.size
  block : ∀ k, k < w.heap.size → ¬ S k → w'.heap[k]? = w.heap[k]?
theorem Chg.refl (S : Nat → Prop) (w : World) : Chg S w w := ⟨rfl, rfl, rfl, Nat.le_refl _, fun _ _ _ => rfl⟩
theorem Chg.mono {S T : Nat → Prop} {w w' : World} (h : Chg S w w') (hS : ∀ k, k < w.heap.size → S k → T k) : Chg T w w' :=
  ⟨h.os, h.tape, h.output, h.size, fun k hk hT => h.block k hk fun hs => hT (hS k hk hs)⟩
theorem Chg.trans {S T : Nat → Prop} {a b c : World} (h : Chg S a b) (k : Chg T b c) (hT : ∀ j, j < a.heap.size → T j → S j) : Chg S a c :=
  ⟨k.os.trans h.os, k.tape.trans h.tape, k.output.trans h.output, Nat.le_trans h.size k.size, fun j hj hs =>
    (k.block j (Nat.lt_of_lt_of_le hj h.size) fun ht => hs (hT j hj ht)).trans (h.block j hj hs)⟩
theorem Chg.drew {S : Nat → Prop} {a w : World} (h : Chg S a w) : Chg S a w.drew := ⟨h.os, h.tape, h.output, h.size, h.block⟩
theorem Chg.drewN {S : Nat → Prop} {a w : World} {q : Nat} (h : Chg S a w) : Chg S a (w.drewN q) := ⟨h.os, h.tape, h.output, h.size, h.block⟩
theorem Chg.of_below {S : Nat → Prop} {w w' : World} (h : Below w.heap.size w w') : Chg S w w' := ⟨h.os, h.tape, h.output, h.size, fun k hk _ => h.block k hk⟩
theorem Chg.below {S : Nat → Prop} {B : Nat} {w w' : World} (h : Chg S w w') (hB : B ≤ w.heap.size) (hS : ∀ k, S k → B ≤ k) : Below B w w' :=
  ⟨h.os, h.tape, h.output, h.size, fun k hk => h.block k (Nat.lt_of_lt_of_le hk hB) fun hs => absurd (hS k hs) (by omega)⟩
theorem Chg.of_grown {S : Nat → Prop} {w w' : World} {row : Option Nat} (h : w.grownBy w' row) (hr : ∀ k, row = some k → S k) : Chg S w w' :=
  ⟨h.os, h.tape, h.output, h.size, fun k hk hs => h.block k hk fun e => hs (hr k e.symm)⟩
theorem Chg.alloc {S : Nat → Prop} {a w : World} (h : Chg S a w) (o : Obj) : Chg S a (w.alloc o) :=
  h.trans (T := fun _ => False) (Chg.of_below ((Below.refl _ _).alloc (Nat.le_refl _) o)) fun _ _ h => h.elim
theorem Chg.setCell {S : Nat → Prop} {a w : World} (h : Chg S a w) {p : Addr} (hp : p.block < a.heap.size → S p.block) (u : Value) : Chg S a (w.setCell p u) :=
  h.trans (T := fun k => k = p.block) ⟨rfl, rfl, rfl, by simp, fun k _ hk => Below.heap_setCell w p u k hk⟩ fun j hj e => by subst e; exact hp hj
theorem Chg.setRow {S : Nat → Prop} {a w : World} (h : Chg S a w) {g : Nat} (hp : g < a.heap.size → S g) (c : Array Value) : Chg S a (w.setRow g c) :=
  h.trans (T := fun k => k = g) ⟨rfl, rfl, rfl, by simp [World.setRow], fun k _ hk => setRow_other w g k c hk⟩ fun j hj e => by subst e; exact hp hj
theorem Chg.ownsRow {S : Nat → Prop} {w w' : World} {base : Nat} {e : TypeId} {size : Nat} {v : Value} {n : Nat} {xs : List Value} (h : w.ownsRow base e size v n xs) (hc : Chg S w w') (hS : ∀ k, v.ownBlock = some k → ¬ S k) : w'.ownsRow base e size v n xs := by
  refine ⟨h.1, ?_⟩
  rcases h.2 with hn | ⟨g, cap, cur, rfl, h1, hgg, r⟩
  · exact .inl hn
  · exact .inr ⟨g, cap, cur, rfl, h1, (hc.block g (h.lt g rfl).2 (hS g rfl)).trans hgg, r⟩
theorem Chg.heap {S : Nat → Prop} {w w' : World} (hc : Chg S w w') {k : Nat} {o : Obj} (h : w.heap[k]? = some o) (hk : ¬ S k) : w'.heap[k]? = some o :=
  (hc.block k (Array.getElem?_eq_some_iff.1 h).1 hk).trans h
theorem Chg.rd {S : Nat → Prop} {w w' : World} {a : Option Addr} {xs : List Value} (h : Rd w a xs) (hc : Chg S w w') (hS : ∀ x, a = some x → ¬ S x.block) : Rd w' a xs :=
  h.of_block fun x hx hlt => hc.block x.block hlt (hS x hx)
theorem block_lt {w : World} {k : Nat} {o : Obj} (h : w.heap[k]? = some o) : k < w.heap.size := (Array.getElem?_eq_some_iff.1 h).1

section
variable {P : Program}
/-- A copy into a row that is known whole, elements of any size. -/
theorem run_copy_gen (w : World) (dT sT ty elem : TypeId) (g o dLen dCap : Nat) (a : Addr) (sLen sCap : Nat) (cur : List Value) (t : TypeId) (cs : List Value) (size : Nat)
    (hu : P.underlying dT = some (.slice elem)) (hs : (P.info? elem).map (·.size) = some size)
    (hg : w.heap[g]? = some (.cells cur.toArray t (0, 0))) (hn : cs.length = Nat.min sLen dLen * size)
    (hsrc : ∀ j v, cs[j]? = some v → w.cell? (a.add j) = some v) (hfit : o + cs.length ≤ cur.length) (h1 : ∀ v ∈ cs, v.oneCell' = true) :
    (Builtin.copy_ #[dT, sT] ty #[.slice (some ⟨g, o, none⟩) dLen dCap, .slice (some a) sLen sCap]).run P w =
      .ok (goInt (Nat.min sLen dLen)) (w.setRow g (splice cur o cs).toArray) := by
  have hl := run_loadCells_list (P := P) w a cs hsrc
  have hst := run_storeCells_at P g o t cs 0 cur.toArray w hg (by simpa using hfit) h1
  cases hq : P.info? elem with
  | none => simp [hq] at hs
  | some i =>
    have hi : i.size = size := by simpa [hq] using hs
    simp [Builtin.copy_, run_underlying hu, Builtin.lenOf, Builtin.firstCells, Go.sizeOf, typeInfo, hq, hi, ← hn, hl, hst, splice]
theorem run_copy_zero (w : World) (dT sT ty elem : TypeId) (dp sp : Option Addr) (dLen dCap sLen sCap : Nat) (size : Nat)
    (hu : P.underlying dT = some (.slice elem)) (hs : (P.info? elem).map (·.size) = some size) (hn : Nat.min sLen dLen = 0) :
    (Builtin.copy_ #[dT, sT] ty #[.slice dp dLen dCap, .slice sp sLen sCap]).run P w = .ok (goInt 0) w := by
  cases hq : P.info? elem with
  | none => simp [hq] at hs
  | some i =>
    have hi : i.size = size := by simpa [hq] using hs
    cases sp with
    | none => cases dp <;> simp [Builtin.copy_, run_underlying hu, Builtin.lenOf, Builtin.firstCells, Go.sizeOf, typeInfo, hq, hn, storeCells]
    | some a =>
      have hl := run_loadCells_list (P := P) w a [] (by simp)
      simp at hl
      cases dp <;> simp [Builtin.copy_, run_underlying hu, Builtin.lenOf, Builtin.firstCells, Go.sizeOf, typeInfo, hq, hn, hl, storeCells]

/-- copy, where its run is known. -/
theorem wp_copy_run (w : World) {o : Oper} {a : Act} {K : Act → World → Prop} {Q : Exit → Act → World → Prop} (d s : Operand) (t t' : TypeId)
    (ho : o.op = .call { callee := .builtin .copy, args := #[d, s], argTypes := #[t, t'] }) (v u : Value) (hd : a.eval d = v) (hs : a.eval s = u) {v' : Value} {w' : World}
    (hr : (Builtin.copy_ #[t, t'] o.type #[v, u]).run P w = .ok v' w') (h : K (a.put o.dst v') w') : o.wp P a w K Q := by
  unfold Oper.wp execOp
  simp only [ho, resolve, invoke, builtin, Sem.run_bind, Sem.run_pure, Result.andThen_ok, List.map_toArray, List.map_cons, List.map_nil, hd, hs, hr]
  exact h
theorem wpl_copy_run (w : World) {ops : Array Oper} {rest : List Oper} {o : Oper} {a : Act} {Q : Exit → Act → World → Prop} (hgd : o.guard = none) (d s : Operand) (t t' : TypeId)
    (ho : o.op = .call { callee := .builtin .copy, args := #[d, s], argTypes := #[t, t'] }) (v u : Value) (hd : a.eval d = v) (hs : a.eval s = u) {v' : Value} {w' : World}
    (hr : (Builtin.copy_ #[t, t'] o.type #[v, u]).run P w = .ok v' w') (h : wpList P ops Q rest (a.put o.dst v') w') : wpList P ops Q (o :: rest) a w :=
  wpList_plain hgd fun _ hK => wp_copy_run w d s t t' ho v u hd hs hr (hK _ _ h)
theorem step_copy_run {ops : Array Oper} {o : Oper} {a : Act} {w : World} {K : Act → World → Prop} {Q : Exit → Act → World → Prop} {E : Prop}
    (hg : o.guard = none) (d x : Operand) (dT sT : TypeId) (hop : o.op = Op.call { callee := Callee.builtin Builtin.copy, args := #[d, x], argTypes := #[dT, sT] })
    (v u : Value) (hd : a.eval d = v) (hx : a.eval x = u) {v' : Value} {w' : World} (hr : (Builtin.copy_ #[dT, sT] o.type #[v, u]).run P w = .ok v' w') (hK : K (a.put o.dst v') w') :
    if Region.wanted o (yielded ops a.tmps) = true then Oper.wp P o a w K Q else E := by
  have hw : Region.wanted o (yielded ops a.tmps) = true := by simp [Region.wanted, hg]
  rw [if_pos hw]
  exact wp_copy_run w d x dT sT hop v u hd hx hr hK
theorem wpl_clear_run (w : World) {ops : Array Oper} {rest : List Oper} {o : Oper} {a : Act} {Q : Exit → Act → World → Prop} (hgd : o.guard = none) (x : Operand) (t : TypeId)
    (ho : o.op = .call { callee := .builtin .clear, args := #[x], argTypes := #[t] }) (v : Value) (hd : a.eval x = v) {v' : Value} {w' : World}
    (hr : (Builtin.clear_ #[t] o.type #[v]).run P w = .ok v' w') (h : wpList P ops Q rest (a.put o.dst v') w') : wpList P ops Q (o :: rest) a w :=
  wpList_plain hgd fun _ hK => by
    unfold Oper.wp execOp
    simp only [ho, resolve, invoke, builtin, Sem.run_bind, Sem.run_pure, Result.andThen_ok, List.map_toArray, List.map_cons, List.map_nil, hd, hr]
    exact hK _ _ h
theorem step_append_run {ops : Array Oper} {o : Oper} {a : Act} {w : World} {K : Act → World → Prop} {Q : Exit → Act → World → Prop} {E : Prop}
    (hg : o.guard = none) (d x : Operand) (dT sT : TypeId) (hop : o.op = Op.call { callee := Callee.builtin Builtin.append, args := #[d, x], argTypes := #[dT, sT] })
    (v u : Value) (hd : a.eval d = v) (hx : a.eval x = u) {v' : Value} {w' : World} (hr : (Builtin.append_ #[dT, sT] o.type #[v, u]).run P w = .ok v' w') (hK : K (a.put o.dst v') w') :
    if Region.wanted o (yielded ops a.tmps) = true then Oper.wp P o a w K Q else E := by
  have hw : Region.wanted o (yielded ops a.tmps) = true := by simp [Region.wanted, hg]
  rw [if_pos hw]
  exact Lib.wp_append_run w d x dT sT hop v u hd hx _ _ hr hK
/-- clear of a stretch of a row that is known whole. -/
theorem run_clear_gen (w : World) (t ty elem : TypeId) (g o n c : Nat) (cur : List Value) (tt : TypeId) (z : Value) (hu : P.underlying t = some (.slice elem)) (hz : (zeroValue elem).run P w = .ok z w) (hz1 : z.cells = #[z]) (h1 : z.oneCell' = true)
    (hg : w.heap[g]? = some (.cells cur.toArray tt (0, 0))) (hfit : o + n ≤ cur.length) :
    (Builtin.clear_ #[t] ty #[.slice (some ⟨g, o, none⟩) n c]).run P w = .ok (.tuple #[]) (w.setRow g (splice cur o (List.replicate n z)).toArray) := by
  have hzc : (Builtin.zeroCells #[z] n).toList = List.replicate n z := by
    apply List.ext_getElem?
    intro j
    by_cases hj : j < n
    · simp [Builtin.zeroCells, hj, Nat.mod_one]
    · simp [Builtin.zeroCells, hj]
  cases n with
  | zero =>
    have e : (splice cur o (List.replicate 0 z)).toArray = cur.toArray := by simp [splice]
    rw [e, setRow_self w g _ tt (0, 0) hg]
    simp [Builtin.clear_, run_underlying hu]
  | succ n =>
    have hst := run_storeCells_at P g o tt (List.replicate (n + 1) z) 0 cur.toArray w hg (by simpa using hfit) (by intro v hv; rw [(List.mem_replicate.1 hv).2]; exact h1)
    simp [Builtin.clear_, run_underlying hu, hz, hz1, hzc, hst, splice]
end

/-- A row with elements put in at a place. -/
theorem ins_room {L xs us : List Value} {n i s cap : Nat} (hx : L.take (n * s) = xs) (hL : L.length = cap * s) (hi : i ≤ n) (hr : n + 1 ≤ cap) (hu : us.length = s) :
    (splice (splice L ((i + 1) * s) (xs.drop (i * s))) (i * s) us).take ((n + 1) * s) = xs.take (i * s) ++ us ++ xs.drop (i * s) := by
  have e1 : (i + 1) * s = i * s + s := Nat.succ_mul i s
  have e2 : (n + 1) * s = n * s + s := Nat.succ_mul n s
  have l1 : i * s ≤ n * s := Nat.mul_le_mul_right s hi
  have l2 : (n + 1) * s ≤ cap * s := Nat.mul_le_mul_right s hr
  have hxl : xs.length = n * s := by rw [← hx, List.length_take]; omega
  have hti : L.take (i * s) = xs.take (i * s) := by rw [← hx, List.take_take, Nat.min_eq_left l1]
  unfold splice
  have a1 : (L.take ((i + 1) * s) ++ (xs.drop (i * s) ++ L.drop ((i + 1) * s + (xs.drop (i * s)).length))).take (i * s) = xs.take (i * s) := by
    rw [List.take_append_of_le_length (by rw [List.length_take]; omega), List.take_take, Nat.min_eq_left (by omega), hti]
  have a2 : (L.take ((i + 1) * s) ++ (xs.drop (i * s) ++ L.drop ((i + 1) * s + (xs.drop (i * s)).length))).drop (i * s + us.length) = xs.drop (i * s) ++ L.drop ((i + 1) * s + (xs.drop (i * s)).length) := by
    rw [List.drop_append_of_le_length (by rw [List.length_take]; omega), List.drop_eq_nil_of_le (by rw [List.length_take]; omega), List.nil_append]
  rw [a1, a2, ← List.append_assoc, ← List.append_assoc]
  rw [List.take_append_of_le_length (by simp; omega), List.take_of_length_le (by simp; omega)]
theorem del_room {L xs z : List Value} {n i s : Nat} (hx : L.take ((n + 1) * s) = xs) (hL : (n + 1) * s ≤ L.length) (hi : i ≤ n) :
    (splice (splice L (i * s) (xs.drop ((i + 1) * s))) (n * s) z).take (n * s) = xs.take (i * s) ++ xs.drop ((i + 1) * s) := by
  have e1 : (i + 1) * s = i * s + s := Nat.succ_mul i s
  have e2 : (n + 1) * s = n * s + s := Nat.succ_mul n s
  have l1 : i * s ≤ n * s := Nat.mul_le_mul_right s hi
  have hxl : xs.length = (n + 1) * s := by rw [← hx, List.length_take]; omega
  have hti : L.take (i * s) = xs.take (i * s) := by rw [← hx, List.take_take, Nat.min_eq_left (by omega)]
  have hl : (xs.take (i * s) ++ xs.drop ((i + 1) * s)).length = n * s := by rw [List.length_append, List.length_take, List.length_drop]; omega
  have hsp : splice L (i * s) (xs.drop ((i + 1) * s)) = (xs.take (i * s) ++ xs.drop ((i + 1) * s)) ++ L.drop (i * s + (xs.drop ((i + 1) * s)).length) := by
    unfold splice; rw [hti, List.append_assoc]
  have hlen : (splice L (i * s) (xs.drop ((i + 1) * s))).take (n * s) = xs.take (i * s) ++ xs.drop ((i + 1) * s) := by
    rw [hsp, List.take_append_of_le_length (by omega), List.take_of_length_le (by omega)]
  have hge : n * s ≤ (splice L (i * s) (xs.drop ((i + 1) * s))).length := by rw [hsp, List.length_append]; omega
  generalize splice L (i * s) (xs.drop ((i + 1) * s)) = S at hlen hge ⊢
  unfold splice
  rw [List.take_append_of_le_length (by rw [List.length_take]; omega), List.take_take, Nat.min_self, hlen]
theorem ins_grow {xs us z1 z2 : List Value} {n i s : Nat} (hxl : xs.length = n * s) (hi : i ≤ n) (hu : us.length = s) :
    (splice (splice (xs.take (i * s) ++ z1 ++ z2) (i * s) us) ((i + 1) * s) (xs.drop (i * s))).take ((n + 1) * s) = xs.take (i * s) ++ us ++ xs.drop (i * s) := by
  have e1 : (i + 1) * s = i * s + s := Nat.succ_mul i s
  have e2 : (n + 1) * s = n * s + s := Nat.succ_mul n s
  have l1 : i * s ≤ n * s := Nat.mul_le_mul_right s hi
  have ht : (xs.take (i * s)).length = i * s := by rw [List.length_take]; omega
  have a1 : splice (xs.take (i * s) ++ z1 ++ z2) (i * s) us = xs.take (i * s) ++ us ++ (z1 ++ z2).drop us.length := by
    unfold splice
    rw [List.append_assoc, List.take_append_of_le_length (by omega), List.take_of_length_le (by omega), List.drop_append, ht, List.drop_eq_nil_of_le (by omega), List.nil_append, ← List.append_assoc]
    congr 2
    omega
  rw [a1]
  unfold splice
  have b1 : (xs.take (i * s) ++ us ++ (z1 ++ z2).drop us.length).take ((i + 1) * s) = xs.take (i * s) ++ us := by
    rw [List.take_append_of_le_length (by rw [List.length_append, ht, hu]; omega), List.take_of_length_le (by rw [List.length_append, ht, hu]; omega)]
  rw [b1, ← List.append_assoc]
  have hl : (xs.take (i * s) ++ us ++ xs.drop (i * s)).length = (n + 1) * s := by
    rw [List.length_append, List.length_append, ht, List.length_drop]; omega
  rw [List.take_append_of_le_length (by omega), List.take_of_length_le (by omega)]
end Pantry
