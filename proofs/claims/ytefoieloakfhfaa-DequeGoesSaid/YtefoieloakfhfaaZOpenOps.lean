/- How an argument of type []Op is opened. -/
import Derived.Test.YtefoieloakfhfaaZOpenWords
import Derived.Test.YtefoieloakfhfaaZSame
import Derived.Deep.Slices
namespace Pantry
open Go Go.RowKit Go.ChangeShapes Go.WideShapes Go.ChangeAt Go.Deep
/-- A call, as the law's script has it. -/
structure Op7 where
  who : Int
  act : Int
  i : Int
  j : Int
  flag : Bool
  s : Txt
  big : Int
instance : Inhabited Op7 := ⟨⟨0, 0, 0, 0, false, [], 0⟩⟩
def Op7.cells (o : Op7) : List Value := [.int .i64 o.who, .int .i64 o.act, .int .i64 o.i, .int .i64 o.j, .bool o.flag, .string ⟨o.s.toArray⟩, .int .i64 o.big]
theorem cells_one (o : Op7) : o.cells.toArray.all (·.oneCell') = true := by simp [Op7.cells, Value.oneCell']
def isI64 (x : Int) : Prop := -9223372036854775808 ≤ x ∧ x ≤ 9223372036854775807
structure Op7.Ok (o : Op7) : Prop where
  i : isI64 o.i
  j : isI64 o.j
  act : isI64 o.act
  who : isI64 o.who
  big : isI64 o.big
  s : o.s.length ≤ 140737488351232
/-- The script, where it lies. -/
structure OpsAt (w : World) (a : Option Addr) (n : Nat) (l : List Op7) : Prop where
  len : l.length = n
  few : n ≤ 8796093021952
  ok : ∀ o ∈ l, o.Ok
  cell : ∀ (k : Nat) (o : Op7), l[k]? = some o → ∃ y, a = some y ∧ ∀ (j : Nat) (u : Value), o.cells[j]? = some u → w.cell? (y.add (k * 7 + j)) = some u
theorem wf_i64 {x : Int} (h : (Lit.int .i64 x).wf = true) : isI64 x := by
  simp only [Lit.wf, Bool.and_eq_true, decide_eq_true_eq] at h
  simpa [isI64, IntKind.min, IntKind.max, IntKind.signed, IntKind.bits] using h
theorem OpsAt.keep {w w' : World} {a : Option Addr} {n : Nat} {l : List Op7} (h : OpsAt w a n l) (hb : Below w.heap.size w w') : OpsAt w' a n l :=
  ⟨h.len, h.few, h.ok, fun k o hk => by
    obtain ⟨y, hy, hc⟩ := h.cell k o hk
    exact ⟨y, hy, fun j u hj => (hb.cell (World.block_lt_of_cell? w _ (hc j u hj))).trans (hc j u hj)⟩⟩
section
variable {P : Program}
/-- A whole struct is loaded, wherever its cells lie. -/
theorem run_loadVar_at (w : World) (p : Addr) (ty : TypeId) (cs : List Value) (d : TypeDesc) (hc : ∀ j u, cs[j]? = some u → w.cell? (p.add j) = some u)
    (hu : P.underlying ty = some d) (hd : (match d with | .struct _ | .array _ _ => true | _ => false) = true) (hi : (P.info? ty).map (·.size) = some cs.length) :
    (loadVar ty p).run P w = .ok (.agg cs.toArray) w := by
  have hl := run_loadCells_list (P := P) w p cs hc
  cases hq : P.info? ty with
  | none => simp [hq] at hi
  | some i =>
    have hs : i.size = cs.length := by simpa [hq] using hi
    have hagg : (isAgg ty).run P w = .ok true w := by
      unfold isAgg
      rw [Sem.run_bind, run_underlying hu w]
      cases d <;> simp_all
    simp [loadVar, Sem.run_bind, hagg, Go.sizeOf, Go.typeInfo, hq, hs, hl]
theorem wpl_load_at {ops : Array Oper} {rest : List Oper} {o : Oper} {a : Act} {w : World} {Q : Exit → Act → World → Prop} (hgd : o.guard = none) (ty : TypeId) (x : Operand) (ho : o.op = .load ty x)
    (p : Addr) (hx : a.eval x = .pointer (some p)) (cs : List Value) (d : TypeDesc) (hc : ∀ j u, cs[j]? = some u → w.cell? (p.add j) = some u)
    (hu : P.underlying ty = some d) (hd : (match d with | .struct _ | .array _ _ => true | _ => false) = true) (hi : (P.info? ty).map (·.size) = some cs.length)
    (h : wpList P ops Q rest (a.put o.dst (.agg cs.toArray)) w) : wpList P ops Q (o :: rest) a w := by
  refine wpList_plain hgd fun K hK => ?_
  unfold Oper.wp execOp
  simp only [ho, hx, Instr.loadAt, Instr.sureAddr, Sem.run_bind, Sem.run_pure, Result.andThen_ok, run_loadVar_at w p ty cs d hc hu hd hi]
  exact hK _ _ h
end
end Pantry
namespace Go.Proofs.Ytefoieloakfhfaa
open Go.RowKit Pantry Go.ChangeShapes Go.WideShapes Go.ChangeAt Go.Deep
section
variable {H : Type} {enc : TypeId × Value → H} {w : World}
theorem open_op {n base : Nat} {spare : Nat → Bool} {held : Bool} {cs : List Value} {x : DataW H × List MemPlace} (h : DataW.trod enc Try.prog w base spare held n 39 cs = some x) (hw : ∀ m ∈ x.1.weights Try.prog 39, m ≤ reachBytes) :
    ∃ o : Op7, cs = o.cells ∧ o.Ok := by
  obtain ⟨xs, m, _, rfl, hl, hlen, hf⟩ := DataW.trod_struct Try.underlying39 h
  rw [show Try.prog.cellsOf 39 = 7 by kernel_rfl] at hl
  match cs, hl with
  | [c0, c1, c2, c3, c4, c5, c6], _ =>
    match xs, hlen with
    | [y0, y1, y2, y3, y4, y5, y6], _ =>
      have e3 : Try.prog.cellsOf 3 = 1 := by kernel_rfl
      have e4 : Try.prog.cellsOf 4 = 1 := by kernel_rfl
      have e9 : Try.prog.cellsOf 9 = 1 := by kernel_rfl
      have h0 := hf 0 _ rfl
      have h1 := hf 1 _ rfl
      have h2 := hf 2 _ rfl
      have h3 := hf 3 _ rfl
      have h4 := hf 4 _ rfl
      have h5 := hf 5 _ rfl
      have h6 := hf 6 _ rfl
      simp [e3, e4, e9] at h0 h1 h2 h3 h4 h5 h6
      obtain ⟨n0, q0, r0, w0⟩ := DataW.trod_int Try.underlying3 h0
      obtain ⟨n1, q1, r1, w1⟩ := DataW.trod_int Try.underlying3 h1
      obtain ⟨n2, q2, r2, w2⟩ := DataW.trod_int Try.underlying3 h2
      obtain ⟨n3, q3, r3, w3⟩ := DataW.trod_int Try.underlying3 h3
      obtain ⟨n4, q4, r4⟩ := DataW.trod_bool Try.underlying4 h4
      obtain ⟨n5, q5, r5, w5⟩ := DataW.trod_string Try.underlying9 h5
      obtain ⟨n6, q6, r6, w6⟩ := DataW.trod_int Try.underlying3 h6
      refine ⟨⟨n0, n1, n2, n3, n4, n5.data.toList, n6⟩, ?_, wf_i64 w2, wf_i64 w3, wf_i64 w1, wf_i64 w0, wf_i64 w6, ?_⟩
      · simp_all [Op7.cells]
      · have := hw n5.data.toList.length (by simp_all [DataW.weights, DataW.weightsEach, Try.underlying39])
        unfold reachBytes at this
        exact this
theorem open_ops {fuel base : Nat} {spare : Nat → Bool} {held : Bool} {a : Option Addr} {len cap : Nat} {d : DataW H} {p : List MemPlace}
    (h : DataW.trod enc Try.prog w base spare held fuel 37 [.slice a len cap] = some (d, p)) (hw : ∀ n ∈ d.weights Try.prog 37, n ≤ reachBytes) : ∃ l : List Op7, OpsAt w a len l := by
  have hc7 : Try.prog.cellsOf 39 = 7 := by kernel_rfl
  rcases open_slice Try.underlying37 h with ⟨hcs, hx⟩ | ⟨a', len', cap', m, n, D, Pl, hcs, hb, hl, hm, hmm, hx, hall⟩
  · simp at hcs
    obtain ⟨rfl, rfl, rfl⟩ := hcs
    exact ⟨[], rfl, by omega, by simp, by simp⟩
  · simp at hcs
    obtain ⟨rfl, rfl, rfl⟩ := hcs
    simp only [Prod.mk.injEq] at hx
    obtain ⟨rfl, -⟩ := hx
    have hlm : len ≤ m := by rw [hmm]; split <;> omega
    have h64 := hw (((List.range len).map D).length * 64 + ((List.range (m - len)).map fun j => D (len + j)).length * 64) (by
      have e64 : Try.prog.bytesOf 39 = 64 := by kernel_rfl
      simp only [DataW.weights, Try.underlying37, e64, Nat.add_mul]
      exact List.mem_cons_self)
    unfold reachBytes at h64
    simp only [List.length_map, List.length_range] at h64
    obtain ⟨O, hO⟩ := choose_lt (α := Op7) (p := fun i o => (∀ (j : Nat) (u : Value), o.cells[j]? = some u → w.cell? (a'.add (i * 7 + j)) = some u) ∧ o.Ok) (n := len) (fun i hi => by
      obtain ⟨cs', h1, h2⟩ := hall i (by omega)
      rw [hc7] at h1
      obtain ⟨_, h7, hcells⟩ := World.cells?_some h1
      obtain ⟨o, rfl, ok⟩ := open_op h2 (fun q hq => hw q (by
        simp only [DataW.weights, Try.underlying37]
        refine List.mem_cons_of_mem _ (List.mem_append.2 (Or.inl ?_))
        exact weightsAll_mem _ (D i) (List.mem_map.2 ⟨i, List.mem_range.2 hi, rfl⟩) hq))
      refine ⟨o, fun j u hj => ?_, ok⟩
      have hj7 : j < 7 := by have := (List.getElem?_eq_some_iff.1 hj).1; simpa [Op7.cells] using this
      rw [← Addr.add_add, hcells j hj7, hj])
    refine ⟨(List.range len).map O, by simp, by omega, ?_, ?_⟩
    · intro o ho
      obtain ⟨i, hi, rfl⟩ := List.mem_map.1 ho
      exact (hO i (List.mem_range.1 hi)).2
    · intro k o hk
      simp only [List.getElem?_map, Option.map_eq_some_iff] at hk
      obtain ⟨i, hi, rfl⟩ := hk
      obtain ⟨hlt, rfl⟩ := List.getElem?_eq_some_iff.1 hi
      simp only [List.getElem_range] at *
      exact ⟨a', rfl, (hO k (by simpa using hlt)).1⟩
end
end Go.Proofs.Ytefoieloakfhfaa
