/- How an argument of type []Step is opened. -/
import Derived.Test.YtbjfigegiffefaaOpenWords
import Derived.Test.YtbjfigegiffefaaRkSt
import Derived.Deep.Slices
namespace Pantry
open Go Go.RowKit Go.ChangeShapes Go.WideShapes Go.ChangeAt Go.Deep
/-- A step, as the law's script has it. -/
structure Stp where
  who : Int
  act : Int
  i : Int
  j : Int
  s : List UInt8
  x : Nat
  y : Nat
  ox : Bool
  oy : Bool
instance : Inhabited Stp := ⟨⟨0, 0, 0, 0, [], 0, 0, false, false⟩⟩
def Stp.cells (o : Stp) : List Value := [.int .i64 o.who, .int .i64 o.act, .int .i64 o.i, .int .i64 o.j, .string ⟨o.s.toArray⟩, .int .u64 o.x, .int .u64 o.y, .bool o.ox, .bool o.oy]
theorem cells_one (o : Stp) : o.cells.toArray.all (·.oneCell') = true := by simp [Stp.cells, Value.oneCell']
def isI64 (x : Int) : Prop := -9223372036854775808 ≤ x ∧ x ≤ 9223372036854775807
structure Stp.Ok (o : Stp) : Prop where
  i : isI64 o.i
  j : isI64 o.j
  act : isI64 o.act
  who : isI64 o.who
  s : o.s.length ≤ 140737488351232
  x : o.x < 18446744073709551616
  y : o.y < 18446744073709551616
/-- The script, where it lies. -/
structure OpsAt (w : World) (a : Option Addr) (n : Nat) (l : List Stp) : Prop where
  len : l.length = n
  few : n ≤ 1954687338213
  ok : ∀ o ∈ l, o.Ok
  cell : ∀ (k : Nat) (o : Stp), l[k]? = some o → ∃ y, a = some y ∧ ∀ (j : Nat) (u : Value), o.cells[j]? = some u → w.cell? (y.add (k * 9 + j)) = some u
theorem wf_i64 {x : Int} (h : (Lit.int .i64 x).wf = true) : isI64 x := by
  simp only [Lit.wf, Bool.and_eq_true, decide_eq_true_eq] at h
  simpa [isI64, IntKind.min, IntKind.max, IntKind.signed, IntKind.bits] using h
theorem wf_u64 {x : Int} (h : (Lit.int .u64 x).wf = true) : 0 ≤ x ∧ x ≤ 18446744073709551615 := by
  simp only [Lit.wf, Bool.and_eq_true, decide_eq_true_eq] at h
  simpa [IntKind.min, IntKind.max, IntKind.signed, IntKind.bits] using h
theorem OpsAt.keep {w w' : World} {a : Option Addr} {n : Nat} {l : List Stp} (h : OpsAt w a n l) (hb : Below w.heap.size w w') : OpsAt w' a n l :=
  ⟨h.len, h.few, h.ok, fun k o hk => by
    obtain ⟨y, hy, hc⟩ := h.cell k o hk
    exact ⟨y, hy, fun j u hj => (hb.cell (World.block_lt_of_cell? w _ (hc j u hj))).trans (hc j u hj)⟩⟩
end Pantry
namespace Go.Proofs.Ytbjfigegiffefaa
open Go.RowKit Pantry Go.ChangeShapes Go.WideShapes Go.ChangeAt Go.Deep
section
variable {H : Type} {enc : TypeId × Value → H} {w : World}
set_option maxRecDepth 100000 in
theorem open_op {n base : Nat} {spare : Nat → Bool} {held : Bool} {cs : List Value} {x : DataW H × List MemPlace} (h : DataW.trod enc Try.prog w base spare held n 52 cs = some x) (hw : ∀ m ∈ x.1.weights Try.prog 52, m ≤ reachBytes) :
    ∃ o : Stp, cs = o.cells ∧ o.Ok := by
  obtain ⟨xs, m, _, rfl, hl, hlen, hf⟩ := DataW.trod_struct Try.underlying52 h
  rw [show Try.prog.cellsOf 52 = 9 by kernel_rfl] at hl
  match cs, hl with
  | [c0, c1, c2, c3, c4, c5, c6, c7, c8], _ =>
    match xs, hlen with
    | [y0, y1, y2, y3, y4, y5, y6, y7, y8], _ =>
      have e3 : Try.prog.cellsOf 3 = 1 := by kernel_rfl
      have e4 : Try.prog.cellsOf 4 = 1 := by kernel_rfl
      have e9 : Try.prog.cellsOf 9 = 1 := by kernel_rfl
      have e22 : Try.prog.cellsOf 22 = 1 := by kernel_rfl
      have h0 := hf 0 _ rfl
      have h1 := hf 1 _ rfl
      have h2 := hf 2 _ rfl
      have h3 := hf 3 _ rfl
      have h4 := hf 4 _ rfl
      have h5 := hf 5 _ rfl
      have h6 := hf 6 _ rfl
      have h7 := hf 7 _ rfl
      have h8 := hf 8 _ rfl
      simp [e3, e4, e9, e22] at h0 h1 h2 h3 h4 h5 h6 h7 h8
      obtain ⟨n0, q0, r0, w0⟩ := DataW.trod_int Try.underlying3 h0
      obtain ⟨n1, q1, r1, w1⟩ := DataW.trod_int Try.underlying3 h1
      obtain ⟨n2, q2, r2, w2⟩ := DataW.trod_int Try.underlying3 h2
      obtain ⟨n3, q3, r3, w3⟩ := DataW.trod_int Try.underlying3 h3
      obtain ⟨n4, q4, r4, w4⟩ := DataW.trod_string Try.underlying9 h4
      obtain ⟨n5, q5, r5, w5⟩ := DataW.trod_int Try.underlying22 h5
      obtain ⟨n6, q6, r6, w6⟩ := DataW.trod_int Try.underlying22 h6
      obtain ⟨n7, q7, r7⟩ := DataW.trod_bool Try.underlying4 h7
      obtain ⟨n8, q8, r8⟩ := DataW.trod_bool Try.underlying4 h8
      obtain ⟨w50, w51⟩ := wf_u64 w5
      obtain ⟨w60, w61⟩ := wf_u64 w6
      obtain ⟨m5, rfl⟩ := Int.eq_ofNat_of_zero_le w50
      obtain ⟨m6, rfl⟩ := Int.eq_ofNat_of_zero_le w60
      refine ⟨⟨n0, n1, n2, n3, n4.data.toList, m5, m6, n7, n8⟩, ?_, wf_i64 w2, wf_i64 w3, wf_i64 w1, wf_i64 w0, ?_, by show m5 < _; omega, by show m6 < _; omega⟩
      · simp_all [Stp.cells]
      · have := hw n4.data.toList.length (by simp_all [DataW.weights, DataW.weightsEach, Try.underlying52])
        unfold reachBytes at this
        exact this
theorem open_ops {fuel base : Nat} {spare : Nat → Bool} {held : Bool} {a : Option Addr} {len cap : Nat} {d : DataW H} {p : List MemPlace}
    (h : DataW.trod enc Try.prog w base spare held fuel 23 [.slice a len cap] = some (d, p)) (hw : ∀ n ∈ d.weights Try.prog 23, n ≤ reachBytes) : ∃ l : List Stp, OpsAt w a len l := by
  have hc7 : Try.prog.cellsOf 52 = 9 := by kernel_rfl
  rcases open_slice Try.underlying23 h with ⟨hcs, hx⟩ | ⟨a', len', cap', m, n, D, Pl, hcs, hb, hl, hm, hmm, hx, hall⟩
  · simp at hcs
    obtain ⟨rfl, rfl, rfl⟩ := hcs
    exact ⟨[], rfl, by omega, by simp, by simp⟩
  · simp at hcs
    obtain ⟨rfl, rfl, rfl⟩ := hcs
    simp only [Prod.mk.injEq] at hx
    obtain ⟨rfl, -⟩ := hx
    have hlm : len ≤ m := by rw [hmm]; split <;> omega
    have h64 := hw (((List.range len).map D).length * 72 + ((List.range (m - len)).map fun j => D (len + j)).length * 72) (by
      have e64 : Try.prog.bytesOf 52 = 72 := by kernel_rfl
      simp only [DataW.weights, Try.underlying23, e64, Nat.add_mul]
      exact List.mem_cons_self)
    unfold reachBytes at h64
    simp only [List.length_map, List.length_range] at h64
    obtain ⟨O, hO⟩ := choose_lt (α := Stp) (p := fun i o => (∀ (j : Nat) (u : Value), o.cells[j]? = some u → w.cell? (a'.add (i * 9 + j)) = some u) ∧ o.Ok) (n := len) (fun i hi => by
      obtain ⟨cs', h1, h2⟩ := hall i (by omega)
      rw [hc7] at h1
      obtain ⟨_, h7, hcells⟩ := World.cells?_some h1
      obtain ⟨o, rfl, ok⟩ := open_op h2 (fun q hq => hw q (by
        simp only [DataW.weights, Try.underlying23]
        refine List.mem_cons_of_mem _ (List.mem_append.2 (Or.inl ?_))
        exact weightsAll_mem _ (D i) (List.mem_map.2 ⟨i, List.mem_range.2 hi, rfl⟩) hq))
      refine ⟨o, fun j u hj => ?_, ok⟩
      have hj7 : j < 9 := by have := (List.getElem?_eq_some_iff.1 hj).1; simpa [Stp.cells] using this
      rw [← Addr.add_add, hcells j hj7, hj])
    refine ⟨(List.range len).map O, by simp, by omega, ?_, ?_⟩
    · intro o ho
      obtain ⟨i, hi, rfl⟩ := List.mem_map.1 ho
      exact (hO i (List.mem_range.1 hi)).2
    · intro k o hk
      simp only [List.getElem?_map, Option.map_eq_some_iff] at hk
      obtain ⟨i, hi, rfl⟩ := hk
      obtain ⟨hlt, rfl⟩ := List.getElem?_eq_some_iff.1 hi
      simp only [List.getElem_range] at *
      exact ⟨a', rfl, (hO k (by simpa using hlt)).1⟩
end
end Go.Proofs.Ytbjfigegiffefaa
