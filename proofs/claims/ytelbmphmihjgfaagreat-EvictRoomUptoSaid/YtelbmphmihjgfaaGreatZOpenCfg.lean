/- How a config and a row of numbers are opened. -/
import Derived.Test.YtelbmphmihjgfaaGreatZEwCfg
import Derived.Test.YtelbmphmihjgfaaGreatZOpenWords
import Derived.Deep.Slices
set_option linter.unusedVariables false
set_option linter.unusedSimpArgs false
namespace Go.Proofs.YtelbmphmihjgfaaGreat.DEnt
open Go.RowKit Pantry Go.ChangeShapes Go.WideShapes Go.ChangeAt Go.Deep
theorem wf_u64 {x : Int} (h : (Lit.int .u64 x).wf = true) : 0 ≤ x ∧ x ≤ 18446744073709551615 := by
  simp only [Lit.wf, Bool.and_eq_true, decide_eq_true_eq] at h
  simpa [IntKind.min, IntKind.max, IntKind.signed, IntKind.bits] using h
theorem wf_i64 {x : Int} (h : (Lit.int .i64 x).wf = true) : isI64 x := by
  simp only [Lit.wf, Bool.and_eq_true, decide_eq_true_eq] at h
  simpa [isI64, IntKind.min, IntKind.max, IntKind.signed, IntKind.bits] using h
def cfgL (c : Cfg) : List Value := [.int .u64 c.seed, .int .i64 c.most, .int .i64 c.policy, .int .i64 c.samples]
structure CfgOk (c : Cfg) : Prop where
  seed : c.seed < 18446744073709551616
  most : isI64 c.most
  policy : isI64 c.policy
  samples : isI64 c.samples
section
variable {H : Type} {enc : TypeId × Value → H} {w : World}
set_option maxRecDepth 100000 in
theorem open_cfg {n base : Nat} {spare : Nat → Bool} {held : Bool} {cs : List Value} {x : DataW H × List MemPlace} (h : DataW.trod enc Tryz.prog w base spare held n 24 cs = some x) : ∃ c : Cfg, cs = cfgL c ∧ CfgOk c := by
  obtain ⟨xs, m, _, rfl, hl, hlen, hf⟩ := DataW.trod_struct Tryz.underlying24 h
  rw [show Tryz.prog.cellsOf 24 = 4 by kernel_rfl] at hl
  match cs, hl with
  | [v0, v1, v2, v3], _ =>
    match xs, hlen with
    | [y0, y1, y2, y3], _ =>
      have e0 : Tryz.prog.cellsOf 22 = 1 := by kernel_rfl
      have e1 : Tryz.prog.cellsOf 2 = 1 := by kernel_rfl
      have e2 : Tryz.prog.cellsOf 3 = 1 := by kernel_rfl
      have h0 := hf 0 _ rfl
      have h1 := hf 1 _ rfl
      have h2 := hf 2 _ rfl
      have h3 := hf 3 _ rfl
      simp [e0, e1, e2] at h0 h1 h2 h3
      obtain ⟨k0, q0, r0, w0⟩ := DataW.trod_int Tryz.underlying22 h0
      obtain ⟨k1, q1, r1, w1⟩ := DataW.trod_int Tryz.underlying2 h1
      obtain ⟨k2, q2, r2, w2⟩ := DataW.trod_int Tryz.underlying3 h2
      obtain ⟨k3, q3, r3, w3⟩ := DataW.trod_int Tryz.underlying3 h3
      obtain ⟨m0, rfl⟩ := Int.eq_ofNat_of_zero_le (wf_u64 w0).1
      have hm := (wf_u64 w0).2
      exact ⟨⟨m0, k1, k2, k3⟩, by simp_all [cfgL], ⟨by show m0 < _; omega, wf_i64 w1, wf_i64 w2, wf_i64 w3⟩⟩
theorem open_u64s {fuel base : Nat} {spare : Nat → Bool} {held : Bool} {a : Option Addr} {len cap : Nat} {d : DataW H} {p : List MemPlace}
    (h : DataW.trod enc Tryz.prog w base spare held fuel 25 [.slice a len cap] = some (d, p)) (hw : ∀ n ∈ d.weights Tryz.prog 25, n ≤ reachBytes) :
    ∃ l : List Nat, l.length = len ∧ Rd w a (u64R l) ∧ len ≤ 17592186044416 ∧ ∀ x ∈ l, x < 18446744073709551616 := by
  have hc7 : Tryz.prog.cellsOf 22 = 1 := by kernel_rfl
  rcases open_slice Tryz.underlying25 h with ⟨hcs, hx⟩ | ⟨a', len', cap', m, n, D, Pl, hcs, hb, hl, hm, hmm, hx, hall⟩
  · simp at hcs
    obtain ⟨rfl, rfl, rfl⟩ := hcs
    exact ⟨[], rfl, Rd.nil _ _, by omega, by simp⟩
  · simp at hcs
    obtain ⟨rfl, rfl, rfl⟩ := hcs
    simp only [Prod.mk.injEq] at hx
    obtain ⟨rfl, -⟩ := hx
    have hlm : len ≤ m := by rw [hmm]; split <;> omega
    have h64 := hw (((List.range len).map D).length * 8 + ((List.range (m - len)).map fun j => D (len + j)).length * 8) (by
      have e64 : Tryz.prog.bytesOf 22 = 8 := by kernel_rfl
      simp only [DataW.weights, Tryz.underlying25, e64, Nat.add_mul]
      exact List.mem_cons_self)
    unfold reachBytes at h64
    simp only [List.length_map, List.length_range] at h64
    obtain ⟨O, hO⟩ := choose_lt (α := Nat) (p := fun i o => w.cell? (a'.add i) = some (.int .u64 (o : Int)) ∧ o < 18446744073709551616) (n := len) (fun i hi => by
      obtain ⟨cs', h1, h2⟩ := hall i (by omega)
      rw [hc7] at h1
      obtain ⟨_, h7, hcells⟩ := World.cells?_some h1
      obtain ⟨n0, q0, r0, w0⟩ := DataW.trod_int Tryz.underlying22 h2
      obtain ⟨k0, hk0⟩ := Int.eq_ofNat_of_zero_le (wf_u64 w0).1
      have hk2 := (wf_u64 w0).2
      have := hcells 0 (by omega)
      refine ⟨k0, ?_, by omega⟩
      rw [Nat.mul_one] at this
      rw [← hk0]
      simpa [q0, Addr.add_add] using this)
    refine ⟨(List.range len).map O, by simp, fun j u hu => ?_, by omega, fun x hx => ?_⟩
    · simp only [u64R, List.map_map, List.getElem?_map, Option.map_eq_some_iff] at hu
      obtain ⟨i, hi, rfl⟩ := hu
      obtain ⟨hlt, rfl⟩ := List.getElem?_eq_some_iff.1 hi
      simp only [List.getElem_range, List.length_range] at *
      exact ⟨rfl, a', rfl, (hO j (by simpa using hlt)).1⟩
    · obtain ⟨i, hi, rfl⟩ := List.mem_map.1 hx
      exact (hO i (List.mem_range.1 hi)).2
end
end Go.Proofs.YtelbmphmihjgfaaGreat.DEnt
