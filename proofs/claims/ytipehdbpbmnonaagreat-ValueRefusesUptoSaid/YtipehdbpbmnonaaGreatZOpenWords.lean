/- How an argument of type []string is opened, within the form's reach. -/
import Derived.Test.YtipehdbpbmnonaaGreatZBytes
import Derived.ProofKit
import Derived.OpenShut
import Derived.ShutString
import Derived.ChangeOld
import Derived.SizedLaws
import Derived.Test.YtipehdbpbmnonaaGreatZVBuild
import Derived.Deep.Slices
import Derived.Test.YtipehdbpbmnonaaGreatZVRefO
import Derived.Test.YtipehdbpbmnonaaGreatChecked
import Derived.Test.YtipehdbpbmnonaaGreatRows
import Derived.Deep.CondSized
import Derived.JoinedCond
namespace Pantry
open Go Go.RowKit Go.ChangeShapes Go.WideShapes Go.ChangeAt
section
variable {H : Type} {enc : TypeId × Value → H} {P : Program} {w : World}
theorem weightsAll_mem {e : TypeId} {n : Nat} : ∀ (l : List (DataW H)) (d : DataW H), d ∈ l → n ∈ d.weights P e → n ∈ DataW.weightsAll P e l
  | d0 :: l, d, hd, hn => by
    simp only [DataW.weightsAll, List.mem_append]
    rcases List.mem_cons.1 hd with rfl | hd
    · exact Or.inl hn
    · exact Or.inr (weightsAll_mem l d hd hn)
/-- Reach, as it is asked of one argument. -/
theorem reach_arg {ts : List TypeId} {ds : List (DataW H)} (h : (DataW.weightsEach P ts ds).all (· ≤ reachBytes) = true) {j : Nat} {t : TypeId} {d : DataW H} (ht : ts[j]? = some t) (hd : ds[j]? = some d) : ∀ n ∈ d.weights P t, n ≤ reachBytes := fun n hn => by
  have := List.all_eq_true.1 h _ (DataW.weights_mem_each ht hd n hn)
  simpa using this
theorem open_words {t e : TypeId} {fuel base : Nat} {spare : Nat → Bool} {held : Bool} {a : Option Addr} {len cap : Nat} {d : DataW H} {p : List MemPlace} (ht : P.underlying t = some (.slice e)) (he : P.underlying e = some .string) (hc : P.cellsOf e = 1) (hb : P.bytesOf e = 16)
    (h : DataW.trod enc P w base spare held fuel t [.slice a len cap] = some (d, p)) (hw : ∀ n ∈ d.weights P t, n ≤ reachBytes) :
    ∃ l : List (List UInt8), l.length = len ∧ Rd w a (txts l) ∧ (∀ x ∈ l, x.length ≤ 140737488351232) ∧ len ≤ 8796093021952 ∧ (a = none → cap = 0) := by
  rcases open_strings ht he hc h with ⟨hcs, hx⟩ | ⟨x, l, c, ss, hcs, _, hl, hm, hz, hx, hcell, hws⟩
  · simp at hcs
    obtain ⟨rfl, rfl, rfl⟩ := hcs
    exact ⟨[], rfl, Rd.nil _ _, by simp, by omega, fun _ => rfl⟩
  · simp at hcs
    obtain ⟨rfl, rfl, rfl⟩ := hcs
    simp only [Prod.mk.injEq] at hx
    obtain ⟨hd, -⟩ := hx
    have hlen : len ≤ ss.length := by rw [hz]; split <;> omega
    rw [hd] at hw
    have h16 := hw ((((strs (H := H) (ss.take len)).length + (strs (H := H) (ss.drop len)).length) * P.bytesOf e)) (by simp only [DataW.weights, ht]; exact List.mem_cons_self)
    rw [hb] at h16
    have e1 : (strs (H := H) (ss.take len)).length = len := by simp [strs]; omega
    rw [e1] at h16
    unfold reachBytes at h16
    refine ⟨(ss.take len).map fun s => s.data.toList, by simp; omega, ?_, ?_, by omega, by simp⟩
    · intro j u hu
      rw [txts_get, List.getElem?_map] at hu
      cases hj : (ss.take len)[j]? with
      | none => rw [hj] at hu; cases hu
      | some s =>
        rw [hj] at hu
        cases hu
        have hjl : j < len := by
          have := (List.getElem?_eq_some_iff.1 hj).1
          simp at this; omega
        rw [List.getElem?_take, if_pos hjl] at hj
        refine ⟨rfl, _, rfl, ?_⟩
        rw [hcell j (by omega), List.getD_eq_getElem?_getD, hj]
        rfl
    · intro y hy
      obtain ⟨s, hs, rfl⟩ := List.mem_map.1 hy
      have h2 := hw s.data.toList.length (by
        simp only [DataW.weights, ht]
        refine List.mem_cons_of_mem _ (List.mem_append.2 (Or.inl ?_))
        exact weightsAll_mem _ (.lit (.string s.data.toList)) (List.mem_map.2 ⟨s, hs, rfl⟩) (by simp [DataW.weights]))
      unfold reachBytes at h2
      omega
end
end Pantry

/- How the datum of the law is opened. -/
set_option linter.unusedVariables false
set_option linter.unusedSimpArgs false
namespace Pantry
def isI64' (x : Int) : Prop := -9223372036854775808 ≤ x ∧ x ≤ 9223372036854775807
end Pantry
namespace Go.Proofs.YtipehdbpbmnonaaGreat
open Go.RowKit Pantry Go.ChangeShapes Go.WideShapes Go.ChangeAt Go.Deep
section
variable {H : Type} {enc : TypeId × Value → H} {w : World}
set_option maxRecDepth 100000 in
theorem open_pair {n base : Nat} {spare : Nat → Bool} {held : Bool} {cs : List Value} {x : DataW H × List MemPlace} (h : DataW.trod enc Tryz.prog w base spare held n 43 cs = some x) (hw : ∀ m ∈ x.1.weights Tryz.prog 43, m ≤ reachBytes) :
    ∃ o : Fld, cs = fdC o ∧ o.1.length ≤ 140737488351232 ∧ o.2.length ≤ 140737488351232 := by
  obtain ⟨xs, m, _, rfl, hl, hlen, hf⟩ := DataW.trod_struct Tryz.underlying43 h
  rw [show Tryz.prog.cellsOf 43 = 2 by kernel_rfl] at hl
  match cs, hl with
  | [c0, c1], _ =>
    match xs, hlen with
    | [y0, y1], _ =>
      have e9 : Tryz.prog.cellsOf 9 = 1 := by kernel_rfl
      have h0 := hf 0 _ rfl
      have h1 := hf 1 _ rfl
      simp [e9] at h0 h1
      obtain ⟨n0, q0, r0, w0⟩ := DataW.trod_string Tryz.underlying9 h0
      obtain ⟨n1, q1, r1, w1⟩ := DataW.trod_string Tryz.underlying9 h1
      refine ⟨(n0.data.toList, n1.data.toList), ?_, ?_, ?_⟩
      · simp_all [fdC]
      · have := hw n0.data.toList.length (by simp_all [DataW.weights, DataW.weightsEach, Tryz.underlying43])
        unfold reachBytes at this
        exact this
      · have := hw n1.data.toList.length (by simp_all [DataW.weights, DataW.weightsEach, Tryz.underlying43])
        unfold reachBytes at this
        exact this
theorem fdCells_getD {l : List Fld} {j : Nat} {u : Value} (h : (fdCells l)[j]? = some u) : ∃ x, l[j / 2]? = some x ∧ (fdC x)[j % 2]? = some u := by
  have hj : j < (fdCells l).length := (List.getElem?_eq_some_iff.1 h).1
  rw [fdCells_length] at hj
  obtain ⟨x, hx⟩ : ∃ x, l[j / 2]? = some x := ⟨_, List.getElem?_eq_getElem (by omega)⟩
  have := fdCells_get hx (j % 2) (by omega)
  rw [show j / 2 * 2 + j % 2 = j by omega] at this
  exact ⟨x, hx, this ▸ h⟩
theorem open_pairs {fuel base : Nat} {spare : Nat → Bool} {held : Bool} {a : Option Addr} {len cap : Nat} {d : DataW H} {p : List MemPlace}
    (h : DataW.trod enc Tryz.prog w base spare held fuel 23 [.slice a len cap] = some (d, p)) (hw : ∀ n ∈ d.weights Tryz.prog 23, n ≤ reachBytes) :
    ∃ l : List Fld, l.length = len ∧ Rd w a (fdCells l) ∧ (∀ x ∈ l, x.1.length ≤ 140737488351232 ∧ x.2.length ≤ 140737488351232) ∧ len ≤ 4398046510976 ∧ (a = none → cap = 0) := by
  have hc7 : Tryz.prog.cellsOf 43 = 2 := by kernel_rfl
  rcases open_slice Tryz.underlying23 h with ⟨hcs, hx⟩ | ⟨a', len', cap', m, n, D, Pl, hcs, hb, hl, hm, hmm, hx, hall⟩
  · simp at hcs
    obtain ⟨rfl, rfl, rfl⟩ := hcs
    exact ⟨[], rfl, Rd.nil _ _, by simp, by omega, fun _ => rfl⟩
  · simp at hcs
    obtain ⟨rfl, rfl, rfl⟩ := hcs
    simp only [Prod.mk.injEq] at hx
    obtain ⟨rfl, -⟩ := hx
    have hlm : len ≤ m := by rw [hmm]; split <;> omega
    have h64 := hw (((List.range len).map D).length * 32 + ((List.range (m - len)).map fun j => D (len + j)).length * 32) (by
      have e64 : Tryz.prog.bytesOf 43 = 32 := by kernel_rfl
      simp only [DataW.weights, Tryz.underlying23, e64, Nat.add_mul]
      exact List.mem_cons_self)
    unfold reachBytes at h64
    simp only [List.length_map, List.length_range] at h64
    obtain ⟨O, hO⟩ := choose_lt (α := Fld) (p := fun i o => (∀ (j : Nat) (u : Value), (fdC o)[j]? = some u → w.cell? (a'.add (i * 2 + j)) = some u) ∧ o.1.length ≤ 140737488351232 ∧ o.2.length ≤ 140737488351232) (n := len) (fun i hi => by
      obtain ⟨cs', h1, h2⟩ := hall i (by omega)
      rw [hc7] at h1
      obtain ⟨_, h7, hcells⟩ := World.cells?_some h1
      obtain ⟨o, rfl, ok⟩ := open_pair h2 (fun q hq => hw q (by
        simp only [DataW.weights, Tryz.underlying23]
        refine List.mem_cons_of_mem _ (List.mem_append.2 (Or.inl ?_))
        exact weightsAll_mem _ (D i) (List.mem_map.2 ⟨i, List.mem_range.2 hi, rfl⟩) hq))
      refine ⟨o, fun j u hj => ?_, ok⟩
      have hj7 : j < 2 := by have := (List.getElem?_eq_some_iff.1 hj).1; simpa [fdC] using this
      rw [← Addr.add_add, hcells j hj7, hj])
    refine ⟨(List.range len).map O, by simp, fun j u hu => ?_, ?_, by omega, by simp⟩
    · obtain ⟨x, hx, hxu⟩ := fdCells_getD hu
      have h1 : u.oneCell' = true := by
        have := List.mem_of_getElem? hxu
        simp [fdC] at this
        rcases this with rfl | rfl <;> rfl
      refine ⟨h1, a', rfl, ?_⟩
      simp only [List.getElem?_map, Option.map_eq_some_iff] at hx
      obtain ⟨i, hi, rfl⟩ := hx
      obtain ⟨hlt, rfl⟩ := List.getElem?_eq_some_iff.1 hi
      simp only [List.getElem_range, List.length_range] at *
      have := (hO (j / 2) (by simpa using hlt)).1 (j % 2) u hxu
      rwa [show j / 2 * 2 + j % 2 = j by omega] at this
    · intro o ho
      obtain ⟨i, hi, rfl⟩ := List.mem_map.1 ho
      exact (hO i (List.mem_range.1 hi)).2
theorem wf_u64_12 {x : Int} (h : (Lit.int .u64 x).wf = true) : 0 ≤ x ∧ x ≤ 18446744073709551615 := by
  simp only [Lit.wf, Bool.and_eq_true, decide_eq_true_eq] at h
  simpa [IntKind.min, IntKind.max, IntKind.signed, IntKind.bits] using h
theorem open_u64s {fuel base : Nat} {spare : Nat → Bool} {held : Bool} {a : Option Addr} {len cap : Nat} {d : DataW H} {p : List MemPlace}
    (h : DataW.trod enc Tryz.prog w base spare held fuel 24 [.slice a len cap] = some (d, p)) (hw : ∀ n ∈ d.weights Tryz.prog 24, n ≤ reachBytes) :
    ∃ l : List Nat, l.length = len ∧ Rd w a (u64L l) ∧ len ≤ 17592186044416 := by
  have hc7 : Tryz.prog.cellsOf 27 = 1 := by kernel_rfl
  rcases open_slice Tryz.underlying24 h with ⟨hcs, hx⟩ | ⟨a', len', cap', m, n, D, Pl, hcs, hb, hl, hm, hmm, hx, hall⟩
  · simp at hcs
    obtain ⟨rfl, rfl, rfl⟩ := hcs
    exact ⟨[], rfl, Rd.nil _ _, by omega⟩
  · simp at hcs
    obtain ⟨rfl, rfl, rfl⟩ := hcs
    simp only [Prod.mk.injEq] at hx
    obtain ⟨rfl, -⟩ := hx
    have hlm : len ≤ m := by rw [hmm]; split <;> omega
    have h64 := hw (((List.range len).map D).length * 8 + ((List.range (m - len)).map fun j => D (len + j)).length * 8) (by
      have e64 : Tryz.prog.bytesOf 27 = 8 := by kernel_rfl
      simp only [DataW.weights, Tryz.underlying24, e64, Nat.add_mul]
      exact List.mem_cons_self)
    unfold reachBytes at h64
    simp only [List.length_map, List.length_range] at h64
    obtain ⟨O, hO⟩ := choose_lt (α := Nat) (p := fun i o => w.cell? (a'.add i) = some (.int .u64 (o : Int))) (n := len) (fun i hi => by
      obtain ⟨cs', h1, h2⟩ := hall i (by omega)
      rw [hc7] at h1
      obtain ⟨_, h7, hcells⟩ := World.cells?_some h1
      obtain ⟨n0, q0, r0, w0⟩ := DataW.trod_int Tryz.underlying27 h2
      obtain ⟨k0, hk0⟩ := Int.eq_ofNat_of_zero_le (wf_u64_12 w0).1
      have := hcells 0 (by omega)
      refine ⟨k0, ?_⟩
      rw [Nat.mul_one] at this
      rw [← hk0]
      simpa [q0, Addr.add_add] using this)
    refine ⟨(List.range len).map O, by simp, fun j u hu => ?_, by omega⟩
    simp only [u64L, List.map_map, List.getElem?_map, Option.map_eq_some_iff] at hu
    obtain ⟨i, hi, rfl⟩ := hu
    obtain ⟨hlt, rfl⟩ := List.getElem?_eq_some_iff.1 hi
    simp only [List.getElem_range, List.length_range] at *
    exact ⟨rfl, a', rfl, hO j (by simpa using hlt)⟩
theorem slice_len {fuel base : Nat} {spare : Nat → Bool} {held : Bool} {t e : TypeId} {a : Option Addr} {n c : Nat} {x : DataW H × List MemPlace} (ht : Tryz.prog.underlying t = some (.slice e)) (h : DataW.trod enc Tryz.prog w base spare held fuel t [.slice a n c] = some x) : n = 0 ∨ ∃ es rs, x.1 = .slice es rs ∧ es.length = n := by
  rcases open_slice ht h with ⟨hcs, -⟩ | ⟨a', len', cap', m, k, D, Pl, hcs, -, -, -, -, hx, -⟩
  · simp at hcs; exact .inl hcs.2.1
  · simp at hcs
    obtain ⟨rfl, rfl, rfl⟩ := hcs
    subst hx
    exact .inr ⟨_, _, rfl, by simp⟩
theorem slice_shape {fuel base : Nat} {spare : Nat → Bool} {held : Bool} {t e : TypeId} {v : Value} {x : DataW H × List MemPlace} (ht : Tryz.prog.underlying t = some (.slice e)) (h : DataW.trod enc Tryz.prog w base spare held fuel t [v] = some x) : ∃ a len cap, v = .slice a len cap := by
  rcases open_slice ht h with ⟨hcs, -⟩ | ⟨a', len', cap', m, n, D, Pl, hcs, -⟩
  · simp at hcs; exact ⟨_, _, _, hcs⟩
  · simp at hcs; exact ⟨_, _, _, hcs⟩
set_option maxRecDepth 100000 in
theorem open_datum {n base : Nat} {spare : Nat → Bool} {held : Bool} {cs : List Value} {x : DataW H × List MemPlace} (h : DataW.trod enc Tryz.prog w base spare held n 26 cs = some x) (hw : ∀ m ∈ x.1.weights Tryz.prog 26, m ≤ reachBytes) :
    ∃ (d : DD) (a1 a2 a3 a4 : Option Addr) (c1 c2 c3 c4 : Nat), cs = (Tryz.datumCells d a1 a2 a3 a4 c1 c2 c3 c4).toList ∧ isI64' d.kind ∧
      Rd w a1 (d.items.map txC) ∧ Rd w a2 (fdCells d.pairs) ∧ Rd w a3 (d.ranks.map txC) ∧ Rd w a4 (u64L d.scores) ∧ (a1 = none → c1 = 0) ∧ (a2 = none → c2 = 0) ∧
      d.text.length ≤ 140737488351232 ∧ (∀ s ∈ d.items, s.length ≤ 140737488351232) ∧ (∀ x ∈ d.pairs, x.1.length ≤ 140737488351232 ∧ x.2.length ≤ 140737488351232) ∧ (∀ s ∈ d.ranks, s.length ≤ 140737488351232) ∧
      ∃ parts, x.1 = .agg parts ∧ ∀ m, m = d.items.length ∨ m = d.pairs.length ∨ m = d.ranks.length ∨ m = d.scores.length → m = 0 ∨ ∃ es rs, (DataW.slice es rs : DataW H) ∈ parts ∧ es.length = m := by
  obtain ⟨xs, m, _, rfl, hl, hlen, hf⟩ := DataW.trod_struct Tryz.underlying26 h
  rw [show Tryz.prog.cellsOf 26 = 6 by kernel_rfl] at hl
  match cs, hl with
  | [v0, v1, v2, v3, v4, v5], _ =>
    match xs, hlen with
    | [y0, y1, y2, y3, y4, y5], _ =>
      have e1 : Tryz.prog.cellsOf 3 = 1 := by kernel_rfl
      have e9 : Tryz.prog.cellsOf 9 = 1 := by kernel_rfl
      have e22 : Tryz.prog.cellsOf 22 = 1 := by kernel_rfl
      have e23 : Tryz.prog.cellsOf 23 = 1 := by kernel_rfl
      have e24 : Tryz.prog.cellsOf 24 = 1 := by kernel_rfl
      have h0 := hf 0 _ rfl
      have h1 := hf 1 _ rfl
      have h2 := hf 2 _ rfl
      have h3 := hf 3 _ rfl
      have h4 := hf 4 _ rfl
      have h5 := hf 5 _ rfl
      simp [e1, e9, e22, e23, e24] at h0 h1 h2 h3 h4 h5
      obtain ⟨a1, n1, c1, rfl⟩ := slice_shape Tryz.underlying22 h2
      obtain ⟨a2, n2, c2, rfl⟩ := slice_shape Tryz.underlying23 h3
      obtain ⟨a3, n3, c3, rfl⟩ := slice_shape Tryz.underlying22 h4
      obtain ⟨a4, n4, c4, rfl⟩ := slice_shape Tryz.underlying24 h5
      obtain ⟨k0, q0, r0, w0⟩ := DataW.trod_int Tryz.underlying3 h0
      obtain ⟨k1, q1, r1, w1⟩ := DataW.trod_string Tryz.underlying9 h1
      obtain ⟨l2, g2, p2, s2, -, z2⟩ := open_words (d := y2.1) (p := y2.2) Tryz.underlying22 Tryz.underlying9 e9 (by kernel_rfl) h2 (fun q hq => hw q (by simp only [DataW.weights, DataW.weightsEach, Tryz.underlying26]; simp [DataW.weightsEach]; simp [hq]))
      obtain ⟨l3, g3, p3, s3, -, z3⟩ := open_pairs (d := y3.1) (p := y3.2) h3 (fun q hq => hw q (by simp only [DataW.weights, DataW.weightsEach, Tryz.underlying26]; simp [DataW.weightsEach]; simp [hq]))
      obtain ⟨l4, g4, p4, s4, -, -⟩ := open_words (d := y4.1) (p := y4.2) Tryz.underlying22 Tryz.underlying9 e9 (by kernel_rfl) h4 (fun q hq => hw q (by simp only [DataW.weights, DataW.weightsEach, Tryz.underlying26]; simp [DataW.weightsEach]; simp [hq]))
      obtain ⟨l5, g5, p5, -⟩ := open_u64s (d := y5.1) (p := y5.2) h5 (fun q hq => hw q (by simp only [DataW.weights, DataW.weightsEach, Tryz.underlying26]; simp [DataW.weightsEach]; simp [hq]))
      have b2 := slice_len Tryz.underlying22 h2
      have b3 := slice_len Tryz.underlying23 h3
      have b4 := slice_len Tryz.underlying22 h4
      have b5 := slice_len Tryz.underlying24 h5
      subst g2 g3 g4 g5
      refine ⟨⟨k0, k1.data.toList, l2, l3, l4, l5⟩, a1, a2, a3, a4, c1, c2, c3, c4, ?_, ?_, p2, p3, p4, p5, z2, z3, ?_, s2, s3, s4, _, rfl, ?_⟩
      · simp_all [Tryz.datumCells]
      · simp only [Lit.wf, Bool.and_eq_true, decide_eq_true_eq] at w0
        simpa [isI64', IntKind.min, IntKind.max, IntKind.signed, IntKind.bits] using w0
      · have := hw k1.data.toList.length (by simp only [DataW.weights, DataW.weightsEach, Tryz.underlying26]; simp [DataW.weightsEach, r1, DataW.weights])
        unfold reachBytes at this
        exact this
      · rintro m (rfl | rfl | rfl | rfl)
        · exact b2.imp id fun ⟨es, rs, e1, e2⟩ => ⟨es, rs, by simp [← e1], e2⟩
        · exact b3.imp id fun ⟨es, rs, e1, e2⟩ => ⟨es, rs, by simp [← e1], e2⟩
        · exact b4.imp id fun ⟨es, rs, e1, e2⟩ => ⟨es, rs, by simp [← e1], e2⟩
        · exact b5.imp id fun ⟨es, rs, e1, e2⟩ => ⟨es, rs, by simp [← e1], e2⟩
end
end Go.Proofs.YtipehdbpbmnonaaGreat

/- Any datum, turned in any of the ways into something that is refused: it is refused, for that reason, and costs nothing. -/
namespace Go.Proofs.YtipehdbpbmnonaaGreat.valueRefuses
open Go Go.Proofs Go.Proofs.YtipehdbpbmnonaaGreat Go.RowKit Go.ChangeShapes Go.WideShapes Go.ChangeAt Pantry
set_option linter.unusedVariables false

theorem own : ownKnob Tryz.prog.godebug = none := by kernel_rfl
theorem laidOut : laidOutB Tryz.prog = true := by kernel_rfl

theorem bulk_pos {H : Type} (d : DataW H) : 1 ≤ Rows.uptoBulk d := by
  cases d with
  | lit l => cases l <;> simp [Rows.uptoBulk]
  | _ => first | (simp [Rows.uptoBulk]; done) | (rw [Rows.uptoBulk]; omega)
theorem bulk_len {H : Type} : ∀ (l : List (DataW H)), l.length ≤ Rows.uptoBulkAll l
  | [] => Nat.zero_le _
  | d :: l => by
    have h1 := bulk_len l
    have h2 := bulk_pos d
    simp only [Rows.uptoBulkAll, List.length_cons]
    omega
theorem bulk_mem {H : Type} {d : DataW H} : ∀ {l : List (DataW H)}, d ∈ l → Rows.uptoBulk d ≤ Rows.uptoBulkAll l
  | x :: l, h => by
    simp only [Rows.uptoBulkAll]
    rcases List.mem_cons.1 h with rfl | h
    · omega
    · have := bulk_mem h
      omega
theorem bulk_first {H : Type} {d : DataW H} {l : List (DataW H)} (h : Rows.uptoSmall H (d :: l) = true) : Rows.uptoBulk d ≤ 1048576 := by
  have h' : Rows.uptoBulkAll (d :: l) ≤ 1048576 := of_decide_eq_true h
  have e : Rows.uptoBulkAll (d :: l) = Rows.uptoBulk d + Rows.uptoBulkAll l := by rw [Rows.uptoBulkAll]
  omega
set_option maxRecDepth 100000 in
theorem lifted (os : Os) (started : os.Started) (H : Type) (enc : TypeId × Value → H) (F : Stop.Interp) :
    ReturnsInHanded {} Tryz.checked os 4 .any ((Rows.OpenSpec.upto Rows.valueRefusesSpec).pre6 enc Tryz.prog Tryz.f4 Rows.valueRefusesUptoRow.domain false) (((Rows.OpenSpec.upto Rows.valueRefusesSpec).at F).post enc Tryz.prog Tryz.f4 false true false false) := by
  refine returnsInHanded_of_cond_sized (C := Tryz.checked) (s := Rows.OpenSpec.upto Rows.valueRefusesSpec) (k := Rows.uptoSmall) rfl own started (by kernel_rfl) Tryz.func4
    (OpenSpec.witness (enc := enc) (C := Tryz.checked) (s := Rows.OpenSpec.upto Rows.valueRefusesSpec) (k := Rows.uptoSmall) rfl false ⟨#[], #[.agg #[.int .i64 0, .string ⟨#[]⟩, .slice none 0 0, .slice none 0 0, .slice none 0 0, .slice none 0 0], .int .i64 0, .string ByteArray.empty], []⟩ 8 (by kernel_rfl) (by kernel_rfl) (by kernel_rfl)
      (x := ([.agg [.lit (.int .i64 0), .lit (.string []), .nil, .nil, .nil, .nil], .lit (.int .i64 0), .lit (.string [])], [], [])) (by kernel_rfl) rfl (by kernel_rfl)) ?_
  intro W base args ds gs before hval0 hW hcnd hk hsz _
  have hval : ∀ (j : Nat) t v, Tryz.f4.params[j]? = some t → args[j]? = some v → Value.okWide Tryz.prog W .any base t v := hval0
  have hW' := hW
  obtain ⟨p, q, hA0, hV, rfl, hfz, hnd⟩ := hW
  have hA : DataW.TrodAll enc Tryz.prog W 0 (fun _ => true) true Tryz.f4.params.toList args.toList ds p := hA0
  rw [Tryz.params4] at hA hval hsz
  obtain ⟨v0, vs0, d0, ds0, p0, q0, hargs, rfl, rfl, h0, r0⟩ := trodAll_cons hA
  obtain ⟨v1, vs1, d1, ds1, p1, q1, rfl, rfl, rfl, h1, r1⟩ := trodAll_cons r0
  obtain ⟨v2, vs2, d2, ds2, p2, q2, rfl, rfl, rfl, h2, r2⟩ := trodAll_cons r1
  obtain ⟨rfl, rfl, rfl⟩ := trodAll_nil r2
  obtain rfl : args = #[v0, v1, v2] := by cases args; simp_all
  obtain ⟨rfl, rfl⟩ := trodVars_none hV
  obtain ⟨cs0, rfl, -⟩ := okWide_struct Tryz.underlying26 (hval 0 26 v0 rfl rfl)
  obtain ⟨n1, rfl, -, -, hw1⟩ := open_int Tryz.underlying3 (hval 1 3 v1 rfl rfl) h1
  have k2 := h2
  have lt2 : ∀ x ∈ p2, x.block < W.heap.size := by obtain ⟨m, hm⟩ := k2; exact DataW.trod_lt m _ _ _ hm
  obtain ⟨s2, rfl, hd2, -, -⟩ := Go.ChangeMaps.open_string Tryz.underlying9 (hval 2 9 v2 rfl rfl) h2
  have hsl : s2.data.toList.length ≤ 1048576 := by
    have h' : Rows.uptoBulkAll [d0, d1, d2] ≤ 1048576 := of_decide_eq_true hk
    simp only [Rows.uptoBulkAll] at h'
    rw [hd2] at h'
    simp only [Rows.uptoBulk] at h'
    omega
  have k0 := h0
  have lt0 : ∀ x ∈ p0, x.block < W.heap.size := by obtain ⟨m, hm⟩ := k0; exact DataW.trod_lt m _ _ _ hm
  have k1 := h1
  have lt1 : ∀ x ∈ p1, x.block < W.heap.size := by obtain ⟨m, hm⟩ := k1; exact DataW.trod_lt m _ _ _ hm
  obtain ⟨dd, a1, a2, a3, a4, c1, c2, c3, c4, hcs, -, i1, i2, i3, i4, z1, z2, t1, t2, t3, t4, parts, hpd, hparts⟩ : ∃ (d : DD) (a1 a2 a3 a4 : Option Addr) (c1 c2 c3 c4 : Nat), cs0.toList = (Tryz.datumCells d a1 a2 a3 a4 c1 c2 c3 c4).toList ∧ isI64' d.kind ∧
      Rd W a1 (d.items.map txC) ∧ Rd W a2 (fdCells d.pairs) ∧ Rd W a3 (d.ranks.map txC) ∧ Rd W a4 (u64L d.scores) ∧ (a1 = none → c1 = 0) ∧ (a2 = none → c2 = 0) ∧
      d.text.length ≤ 140737488351232 ∧ (∀ s ∈ d.items, s.length ≤ 140737488351232) ∧ (∀ x ∈ d.pairs, x.1.length ≤ 140737488351232 ∧ x.2.length ≤ 140737488351232) ∧ (∀ s ∈ d.ranks, s.length ≤ 140737488351232) ∧
      ∃ parts, d0 = .agg parts ∧ ∀ m, m = d.items.length ∨ m = d.pairs.length ∨ m = d.ranks.length ∨ m = d.scores.length → m = 0 ∨ ∃ es rs, (DataW.slice es rs : DataW H) ∈ parts ∧ es.length = m := by
    obtain ⟨fuel, hf⟩ := h0
    exact open_datum hf (reach_arg (j := 0) hsz rfl rfl)
  have hc0 : cs0 = Tryz.datumCells dd a1 a2 a3 a4 c1 c2 c3 c4 := by
    have := congrArg List.toArray hcs
    simpa using this
  have hfew : ∀ m, m = dd.items.length ∨ m = dd.pairs.length ∨ m = dd.ranks.length ∨ m = dd.scores.length → m ≤ 1048576 := fun m hm => by
    have hbulk := bulk_first hk
    rcases hparts m hm with rfl | ⟨es, rs, h1, h2⟩
    · omega
    · have q1 := bulk_len es
      have q2 := bulk_mem h1
      rw [hpd] at hbulk
      simp only [Rows.uptoBulk] at hbulk q2
      omega
  have hDat : DatumAt W dd a1 a2 a3 a4 c1 c2 c3 c4 := ⟨i1, i2, i3, i4, ⟨z1, z2⟩, by have := hfew _ (.inl rfl); omega, by have := hfew _ (.inr (.inl rfl)); omega, by have := hfew _ (.inr (.inr (.inl rfl))); omega, by have := hfew _ (.inr (.inr (.inr rfl))); omega⟩
  have hBig : PlainBig (plainD dd) := ⟨by show dd.text.length < _; omega, by have := hfew _ (.inl rfl); show dd.items.length < _; omega, by have := hfew _ (.inr (.inl rfl)); show dd.pairs.length < _; omega, by have := hfew _ (.inr (.inr (.inl rfl))); show (rankD dd.ranks dd.scores).length < _; rw [rankD_length]; omega, fun s hs => by have := t2 s hs; omega, fun x hx => by have := t3 x hx; omega, fun x hx => by have := t3 x hx; omega, fun x hx => by
    have hx2 : x ∈ rankD dd.ranks dd.scores := hx
    unfold rankD at hx2
    obtain ⟨y, hy, rfl⟩ := List.mem_map.1 hx2
    have := t4 y.1 (List.fst_mem_of_mem_zipIdx hy)
    show y.1.length < _
    omega⟩
  subst hc0
  clear hA0 hval0 hsz
  refine (refuses_any W dd a1 a2 a3 a4 c1 c2 c3 c4 n1 s2.data.toList hsl hDat hBig).mono fun e W' ⟨he, bel⟩ => ?_
  subst he
  exact ⟨_, rfl, _, _, _, [], _, [], hW', trodAll_mk1 (shut_bool Tryz.underlying4 _), (trodAll_cons_mk (Below.trod laidOut (by kernel_rfl) (of_decide_eq_true (by kernel_rfl)) k0 bel lt0) (trodAll_cons_mk (Below.trod laidOut (by kernel_rfl) (of_decide_eq_true (by kernel_rfl)) k1 bel lt1) (trodAll_cons_mk (Below.trod laidOut (by kernel_rfl) (of_decide_eq_true (by kernel_rfl)) k2 bel lt2) trodAll_mk0))), rfl, bel.frame _, fun h => by cases h⟩

theorem over : Rows.valueRefusesUptoRow.holds Tryz.pinned (Rows.OpenSpec.upto Rows.valueRefusesSpec) :=
  OpenClaim.holds_of_cond 4 Tryz.f4 rfl rfl rfl rfl rfl rfl rfl ⟨rfl, rfl, rfl, rfl, rfl⟩ rfl rfl rfl rfl rfl (by kernel_rfl) Tryz.func4 (by kernel_rfl)
    (of_decide_eq_true (by kernel_rfl)) (by unfold Func.isWrapper; first | (rw [if_pos (by decide +kernel)]; kernel_rfl) | (rw [if_neg (by decide +kernel)]; exact ⟨rfl, rfl⟩))
    (fun os started H enc _ F => lifted os started H enc F)

theorem proved : Rows.ValueRefusesUptoSaid := over
#print axioms proved
end Go.Proofs.YtipehdbpbmnonaaGreat.valueRefuses
