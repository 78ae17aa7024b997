
/- How an argument of type []string is opened, within the form's reach. -/
import Derived.Test.YteiklgbjjmlmaaaGreatZBytes
import Derived.ProofKit
import Derived.OpenShut
import Derived.ShutString
import Derived.ChangeOld
import Derived.SizedLaws
import Derived.Test.YteiklgbjjmlmaaaGreatZSnForm
import Derived.Deep.Slices
import Derived.Test.YteiklgbjjmlmaaaGreatZSnRg2
namespace Pantry
open Go Go.RowKit Go.ChangeShapes Go.WideShapes Go.ChangeAt
section
variable {H : Type} {enc : TypeId × Value → H} {P : Program} {w : World}
theorem weightsAll_mem {e : TypeId} {n : Nat} : ∀ (l : List (DataW H)) (d : DataW H), d ∈ l → n ∈ d.weights P e → n ∈ DataW.weightsAll P e l
  | d0 :: l, d, hd, hn => by
    simp only [DataW.weightsAll, List.mem_append]
    rcases List.mem_cons.1 hd with rfl | hd
    · exact Or.inl hn
    · exact Or.inr (weightsAll_mem l d hd hn)
/-- Reach, as it is asked of one argument. -/
theorem reach_arg {ts : List TypeId} {ds : List (DataW H)} (h : (DataW.weightsEach P ts ds).all (· ≤ reachBytes) = true) {j : Nat} {t : TypeId} {d : DataW H} (ht : ts[j]? = some t) (hd : ds[j]? = some d) : ∀ n ∈ d.weights P t, n ≤ reachBytes := fun n hn => by
  have := List.all_eq_true.1 h _ (DataW.weights_mem_each ht hd n hn)
  simpa using this
theorem open_words {t e : TypeId} {fuel base : Nat} {spare : Nat → Bool} {held : Bool} {a : Option Addr} {len cap : Nat} {d : DataW H} {p : List MemPlace} (ht : P.underlying t = some (.slice e)) (he : P.underlying e = some .string) (hc : P.cellsOf e = 1) (hb : P.bytesOf e = 16)
    (h : DataW.trod enc P w base spare held fuel t [.slice a len cap] = some (d, p)) (hw : ∀ n ∈ d.weights P t, n ≤ reachBytes) :
    ∃ l : List (List UInt8), l.length = len ∧ Rd w a (txts l) ∧ (∀ x ∈ l, x.length ≤ 140737488351232) ∧ len ≤ 8796093021952 ∧ (a = none → cap = 0) := by
  rcases open_strings ht he hc h with ⟨hcs, hx⟩ | ⟨x, l, c, ss, hcs, _, hl, hm, hz, hx, hcell, hws⟩
  · simp at hcs
    obtain ⟨rfl, rfl, rfl⟩ := hcs
    exact ⟨[], rfl, Rd.nil _ _, by simp, by omega, fun _ => rfl⟩
  · simp at hcs
    obtain ⟨rfl, rfl, rfl⟩ := hcs
    simp only [Prod.mk.injEq] at hx
    obtain ⟨hd, -⟩ := hx
    have hlen : len ≤ ss.length := by rw [hz]; split <;> omega
    rw [hd] at hw
    have h16 := hw ((((strs (H := H) (ss.take len)).length + (strs (H := H) (ss.drop len)).length) * P.bytesOf e)) (by simp only [DataW.weights, ht]; exact List.mem_cons_self)
    rw [hb] at h16
    have e1 : (strs (H := H) (ss.take len)).length = len := by simp [strs]; omega
    rw [e1] at h16
    unfold reachBytes at h16
    refine ⟨(ss.take len).map fun s => s.data.toList, by simp; omega, ?_, ?_, by omega, by simp⟩
    · intro j u hu
      rw [txts_get, List.getElem?_map] at hu
      cases hj : (ss.take len)[j]? with
      | none => rw [hj] at hu; cases hu
      | some s =>
        rw [hj] at hu
        cases hu
        have hjl : j < len := by
          have := (List.getElem?_eq_some_iff.1 hj).1
          simp at this; omega
        rw [List.getElem?_take, if_pos hjl] at hj
        refine ⟨rfl, _, rfl, ?_⟩
        rw [hcell j (by omega), List.getD_eq_getElem?_getD, hj]
        rfl
    · intro y hy
      obtain ⟨s, hs, rfl⟩ := List.mem_map.1 hy
      have h2 := hw s.data.toList.length (by
        simp only [DataW.weights, ht]
        refine List.mem_cons_of_mem _ (List.mem_append.2 (Or.inl ?_))
        exact weightsAll_mem _ (.lit (.string s.data.toList)) (List.mem_map.2 ⟨s, hs, rfl⟩) (by simp [DataW.weights]))
      unfold reachBytes at h2
      omega
end
end Pantry


/- How an argument of bytes is opened. -/
set_option linter.unusedVariables false
set_option linter.unusedSimpArgs false
namespace Go.Proofs.YteiklgbjjmlmaaaGreat
open Go.RowKit Pantry Go.ChangeShapes Go.WideShapes Go.ChangeAt Go.Deep
theorem wf_i64_29 {x : Int} (h : (Lit.int .i64 x).wf = true) : -9223372036854775808 ≤ x ∧ x ≤ 9223372036854775807 := by
  simp only [Lit.wf, Bool.and_eq_true, decide_eq_true_eq] at h
  simpa [IntKind.min, IntKind.max, IntKind.signed, IntKind.bits] using h
theorem wf_u64_29 {x : Int} (h : (Lit.int .u64 x).wf = true) : 0 ≤ x ∧ x ≤ 18446744073709551615 := by
  simp only [Lit.wf, Bool.and_eq_true, decide_eq_true_eq] at h
  simpa [IntKind.min, IntKind.max, IntKind.signed, IntKind.bits] using h
section
variable {H : Type} {enc : TypeId × Value → H} {w : World}
end
end Go.Proofs.YteiklgbjjmlmaaaGreat


/- How stored keys are opened. -/
set_option linter.unusedVariables false
set_option linter.unusedSimpArgs false
namespace Go.Proofs.YteiklgbjjmlmaaaGreat
open Go.RowKit Pantry Go.ChangeShapes Go.WideShapes Go.ChangeAt Go.Deep
section
variable {H : Type} {enc : TypeId × Value → H} {w : World}
theorem trod_float29 {fuel base : Nat} {spare : Nat → Bool} {held : Bool} {t : TypeId} {cs : List Value} {x : DataW H × List MemPlace} (ht : Tryz.prog.underlying t = some (.float .f64)) (h : DataW.trod enc Tryz.prog w base spare held fuel t cs = some x) : ∃ n, cs = [.float .f64 n] ∧ x = (.lit (.float .f64 n), []) ∧ (Lit.float .f64 n).wf = true := by
  cases fuel with
  | zero => simp [DataW.trod] at h
  | succ n =>
    unfold DataW.trod at h
    rw [ht] at h
    split at h <;> simp_all
theorem rkCells_get29 {l : List Mb} {k : Nat} {p : Mb} (h : l[k]? = some p) (j : Nat) (hj : j < 2) : (rkCells l)[k * 2 + j]? = (mbC p)[j]? := flatRow_at (f := mbC) (s := 2) (fun q => rfl) h hj
theorem rkCells_length29 (l : List Mb) : (rkCells l).length = l.length * 2 := by
  unfold rkCells
  induction l with
  | nil => rfl
  | cons x l ih => rw [List.flatMap_cons, List.length_append, ih, List.length_cons]; simp [mbC]; omega
set_option maxRecDepth 100000 in
theorem open_pair29 {n base : Nat} {spare : Nat → Bool} {held : Bool} {cs : List Value} {x : DataW H × List MemPlace} (h : DataW.trod enc Tryz.prog w base spare held n 71 cs = some x) (hw : ∀ m ∈ x.1.weights Tryz.prog 71, m ≤ reachBytes) :
    ∃ o : Fld, cs = fdC o ∧ o.1.length ≤ 140737488351232 ∧ o.2.length ≤ 140737488351232 := by
  obtain ⟨xs, m, _, rfl, hl, hlen, hf⟩ := DataW.trod_struct Tryz.underlying71 h
  rw [show Tryz.prog.cellsOf 71 = 2 by kernel_rfl] at hl
  match cs, hl with
  | [c0, c1], _ =>
    match xs, hlen with
    | [y0, y1], _ =>
      have e9 : Tryz.prog.cellsOf 9 = 1 := by kernel_rfl
      have h0 := hf 0 _ rfl
      have h1 := hf 1 _ rfl
      simp [e9] at h0 h1
      obtain ⟨n0, q0, r0, w0⟩ := DataW.trod_string Tryz.underlying9 h0
      obtain ⟨n1, q1, r1, w1⟩ := DataW.trod_string Tryz.underlying9 h1
      refine ⟨(n0.data.toList, n1.data.toList), ?_, ?_, ?_⟩
      · simp_all [fdC]
      · have := hw n0.data.toList.length (by simp_all [DataW.weights, DataW.weightsEach, Tryz.underlying71])
        unfold reachBytes at this
        exact this
      · have := hw n1.data.toList.length (by simp_all [DataW.weights, DataW.weightsEach, Tryz.underlying71])
        unfold reachBytes at this
        exact this
theorem fdCells_getD29 {l : List Fld} {j : Nat} {u : Value} (h : (fdCells l)[j]? = some u) : ∃ x, l[j / 2]? = some x ∧ (fdC x)[j % 2]? = some u := by
  have hj : j < (fdCells l).length := (List.getElem?_eq_some_iff.1 h).1
  rw [fdCells_length] at hj
  obtain ⟨x, hx⟩ : ∃ x, l[j / 2]? = some x := ⟨_, List.getElem?_eq_getElem (by omega)⟩
  have := fdCells_get hx (j % 2) (by omega)
  rw [show j / 2 * 2 + j % 2 = j by omega] at this
  exact ⟨x, hx, this ▸ h⟩
theorem open_pairs29 {fuel base : Nat} {spare : Nat → Bool} {held : Bool} {a : Option Addr} {len cap : Nat} {d : DataW H} {p : List MemPlace}
    (h : DataW.trod enc Tryz.prog w base spare held fuel 46 [.slice a len cap] = some (d, p)) (hw : ∀ n ∈ d.weights Tryz.prog 46, n ≤ reachBytes) :
    ∃ l : List Fld, l.length = len ∧ Rd w a (fdCells l) ∧ (∀ x ∈ l, x.1.length ≤ 140737488351232 ∧ x.2.length ≤ 140737488351232) ∧ len ≤ 4398046510976 ∧ (a = none → cap = 0) := by
  have hc7 : Tryz.prog.cellsOf 71 = 2 := by kernel_rfl
  rcases open_slice Tryz.underlying46 h with ⟨hcs, hx⟩ | ⟨a', len', cap', m, n, D, Pl, hcs, hb, hl, hm, hmm, hx, hall⟩
  · simp at hcs
    obtain ⟨rfl, rfl, rfl⟩ := hcs
    exact ⟨[], rfl, Rd.nil _ _, by simp, by omega, fun _ => rfl⟩
  · simp at hcs
    obtain ⟨rfl, rfl, rfl⟩ := hcs
    simp only [Prod.mk.injEq] at hx
    obtain ⟨rfl, -⟩ := hx
    have hlm : len ≤ m := by rw [hmm]; split <;> omega
    have h64 := hw (((List.range len).map D).length * 32 + ((List.range (m - len)).map fun j => D (len + j)).length * 32) (by
      have e64 : Tryz.prog.bytesOf 71 = 32 := by kernel_rfl
      simp only [DataW.weights, Tryz.underlying46, e64, Nat.add_mul]
      exact List.mem_cons_self)
    unfold reachBytes at h64
    simp only [List.length_map, List.length_range] at h64
    obtain ⟨O, hO⟩ := choose_lt (α := Fld) (p := fun i o => (∀ (j : Nat) (u : Value), (fdC o)[j]? = some u → w.cell? (a'.add (i * 2 + j)) = some u) ∧ o.1.length ≤ 140737488351232 ∧ o.2.length ≤ 140737488351232) (n := len) (fun i hi => by
      obtain ⟨cs', h1, h2⟩ := hall i (by omega)
      rw [hc7] at h1
      obtain ⟨_, h7, hcells⟩ := World.cells?_some h1
      obtain ⟨o, rfl, ok⟩ := open_pair29 h2 (fun q hq => hw q (by
        simp only [DataW.weights, Tryz.underlying46]
        refine List.mem_cons_of_mem _ (List.mem_append.2 (Or.inl ?_))
        exact weightsAll_mem _ (D i) (List.mem_map.2 ⟨i, List.mem_range.2 hi, rfl⟩) hq))
      refine ⟨o, fun j u hj => ?_, ok⟩
      have hj7 : j < 2 := by have := (List.getElem?_eq_some_iff.1 hj).1; simpa [fdC] using this
      rw [← Addr.add_add, hcells j hj7, hj])
    refine ⟨(List.range len).map O, by simp, fun j u hu => ?_, ?_, by omega, by simp⟩
    · obtain ⟨x, hx, hxu⟩ := fdCells_getD29 hu
      have h1 : u.oneCell' = true := by
        have := List.mem_of_getElem? hxu
        simp [fdC] at this
        rcases this with rfl | rfl <;> rfl
      refine ⟨h1, a', rfl, ?_⟩
      simp only [List.getElem?_map, Option.map_eq_some_iff] at hx
      obtain ⟨i, hi, rfl⟩ := hx
      obtain ⟨hlt, rfl⟩ := List.getElem?_eq_some_iff.1 hi
      simp only [List.getElem_range, List.length_range] at *
      have := (hO (j / 2) (by simpa using hlt)).1 (j % 2) u hxu
      rwa [show j / 2 * 2 + j % 2 = j by omega] at this
    · intro o ho
      obtain ⟨i, hi, rfl⟩ := List.mem_map.1 ho
      exact (hO i (List.mem_range.1 hi)).2
set_option maxRecDepth 100000 in
theorem open_rkd {n base : Nat} {spare : Nat → Bool} {held : Bool} {cs : List Value} {x : DataW H × List MemPlace} (h : DataW.trod enc Tryz.prog w base spare held n 54 cs = some x) (hw : ∀ m ∈ x.1.weights Tryz.prog 54, m ≤ reachBytes) :
    ∃ o : Mb, cs = mbC o ∧ o.1.length ≤ 140737488351232 ∧ o.2 < 18446744073709551616 := by
  obtain ⟨xs, m, _, rfl, hl, hlen, hf⟩ := DataW.trod_struct Tryz.underlying54 h
  rw [show Tryz.prog.cellsOf 54 = 2 by kernel_rfl] at hl
  match cs, hl with
  | [c0, c1], _ =>
    match xs, hlen with
    | [y0, y1], _ =>
      have e9 : Tryz.prog.cellsOf 9 = 1 := by kernel_rfl
      have e8 : Tryz.prog.cellsOf 52 = 1 := by kernel_rfl
      have h0 := hf 0 _ rfl
      have h1 := hf 1 _ rfl
      simp [e9, e8] at h0 h1
      obtain ⟨n0, q0, r0, w0⟩ := DataW.trod_string Tryz.underlying9 h0
      obtain ⟨n1, q1, r1, w1⟩ := trod_float29 Tryz.underlying52 h1
      refine ⟨(n0.data.toList, n1), ?_, ?_, ?_⟩
      · simp_all [mbC]
      · have := hw n0.data.toList.length (by simp_all [DataW.weights, DataW.weightsEach, Tryz.underlying54])
        unfold reachBytes at this
        exact this
      · simpa [Lit.wf] using w1
theorem rkCells_getD {l : List Mb} {j : Nat} {u : Value} (h : (rkCells l)[j]? = some u) : ∃ x, l[j / 2]? = some x ∧ (mbC x)[j % 2]? = some u := by
  have hj : j < (rkCells l).length := (List.getElem?_eq_some_iff.1 h).1
  rw [rkCells_length29] at hj
  obtain ⟨x, hx⟩ : ∃ x, l[j / 2]? = some x := ⟨_, List.getElem?_eq_getElem (by omega)⟩
  have := rkCells_get29 hx (j % 2) (by omega)
  rw [show j / 2 * 2 + j % 2 = j by omega] at this
  exact ⟨x, hx, this ▸ h⟩
theorem open_rankeds {fuel base : Nat} {spare : Nat → Bool} {held : Bool} {a : Option Addr} {len cap : Nat} {d : DataW H} {p : List MemPlace}
    (h : DataW.trod enc Tryz.prog w base spare held fuel 47 [.slice a len cap] = some (d, p)) (hw : ∀ n ∈ d.weights Tryz.prog 47, n ≤ reachBytes) :
    ∃ l : List Mb, l.length = len ∧ Rd w a (rkCells l) ∧ (∀ x ∈ l, x.1.length ≤ 140737488351232 ∧ x.2 < 18446744073709551616) ∧ len ≤ 5864062014634 ∧ (a = none → cap = 0) := by
  have hc7 : Tryz.prog.cellsOf 54 = 2 := by kernel_rfl
  rcases open_slice Tryz.underlying47 h with ⟨hcs, hx⟩ | ⟨a', len', cap', m, n, D, Pl, hcs, hb, hl, hm, hmm, hx, hall⟩
  · simp at hcs
    obtain ⟨rfl, rfl, rfl⟩ := hcs
    exact ⟨[], rfl, Rd.nil _ _, by simp, by omega, fun _ => rfl⟩
  · simp at hcs
    obtain ⟨rfl, rfl, rfl⟩ := hcs
    simp only [Prod.mk.injEq] at hx
    obtain ⟨rfl, -⟩ := hx
    have hlm : len ≤ m := by rw [hmm]; split <;> omega
    have h64 := hw (((List.range len).map D).length * 24 + ((List.range (m - len)).map fun j => D (len + j)).length * 24) (by
      have e64 : Tryz.prog.bytesOf 54 = 24 := by kernel_rfl
      simp only [DataW.weights, Tryz.underlying47, e64, Nat.add_mul]
      exact List.mem_cons_self)
    unfold reachBytes at h64
    simp only [List.length_map, List.length_range] at h64
    obtain ⟨O, hO⟩ := choose_lt (α := Mb) (p := fun i o => (∀ (j : Nat) (u : Value), (mbC o)[j]? = some u → w.cell? (a'.add (i * 2 + j)) = some u) ∧ o.1.length ≤ 140737488351232 ∧ o.2 < 18446744073709551616) (n := len) (fun i hi => by
      obtain ⟨cs', h1, h2⟩ := hall i (by omega)
      rw [hc7] at h1
      obtain ⟨_, h7, hcells⟩ := World.cells?_some h1
      obtain ⟨o, rfl, ok⟩ := open_rkd h2 (fun q hq => hw q (by
        simp only [DataW.weights, Tryz.underlying47]
        refine List.mem_cons_of_mem _ (List.mem_append.2 (Or.inl ?_))
        exact weightsAll_mem _ (D i) (List.mem_map.2 ⟨i, List.mem_range.2 hi, rfl⟩) hq))
      refine ⟨o, fun j u hj => ?_, ok⟩
      have hj7 : j < 2 := by have := (List.getElem?_eq_some_iff.1 hj).1; simpa [mbC] using this
      rw [← Addr.add_add, hcells j hj7, hj])
    refine ⟨(List.range len).map O, by simp, fun j u hu => ?_, ?_, by omega, by simp⟩
    · obtain ⟨x, hx, hxu⟩ := rkCells_getD hu
      have h1 : u.oneCell' = true := by
        have := List.mem_of_getElem? hxu
        simp [mbC] at this
        rcases this with rfl | rfl <;> rfl
      refine ⟨h1, a', rfl, ?_⟩
      simp only [List.getElem?_map, Option.map_eq_some_iff] at hx
      obtain ⟨i, hi, rfl⟩ := hx
      obtain ⟨hlt, rfl⟩ := List.getElem?_eq_some_iff.1 hi
      simp only [List.getElem_range, List.length_range] at *
      have := (hO (j / 2) (by simpa using hlt)).1 (j % 2) u hxu
      rwa [show j / 2 * 2 + j % 2 = j by omega] at this
    · intro o ho
      obtain ⟨i, hi, rfl⟩ := List.mem_map.1 ho
      exact (hO i (List.mem_range.1 hi)).2
theorem slice_shape {fuel base : Nat} {spare : Nat → Bool} {held : Bool} {t e : TypeId} {v : Value} {x : DataW H × List MemPlace} (ht : Tryz.prog.underlying t = some (.slice e)) (h : DataW.trod enc Tryz.prog w base spare held fuel t [v] = some x) : ∃ a len cap, v = .slice a len cap := by
  rcases open_slice ht h with ⟨hcs, -⟩ | ⟨a', len', cap', m, n, D, Pl, hcs, -⟩
  · simp at hcs; exact ⟨_, _, _, hcs⟩
  · simp at hcs; exact ⟨_, _, _, hcs⟩

instance : Inhabited SE := ⟨⟨[], ⟨0, [], [], [], []⟩, 0⟩⟩
structure SArg (x : SE) : Prop where
  big : PlainBig x.val
  key : x.key.length < 281474976710656
  dl : -9223372036854775808 ≤ x.dl ∧ x.dl ≤ 9223372036854775807
  bits : ∀ y ∈ x.val.ranks, y.2 < 18446744073709551616
set_option maxRecDepth 100000 in
theorem open_plain29 {n base : Nat} {spare : Nat → Bool} {held : Bool} {cs : List Value} {x : DataW H × List MemPlace} (h : DataW.trod enc Tryz.prog w base spare held n 49 cs = some x) (hw : ∀ m ∈ x.1.weights Tryz.prog 49, m ≤ reachBytes) :
    ∃ (p : PD) (a1 a2 a3 : Option Addr) (c1 c2 c3 : Nat), cs = (Tryz.plainCells p a1 a2 a3 c1 c2 c3).toList ∧ PlainAt w p a1 a2 a3 ∧ PlainBig p ∧ ∀ y ∈ p.ranks, y.2 < 18446744073709551616 := by
  obtain ⟨xs, m, _, rfl, hl, hlen, hf⟩ := DataW.trod_struct Tryz.underlying49 h
  rw [show Tryz.prog.cellsOf 49 = 5 by kernel_rfl] at hl
  match cs, hl with
  | [v0, v1, v2, v3, v4], _ =>
    match xs, hlen with
    | [y0, y1, y2, y3, y4], _ =>
      have e1 : Tryz.prog.cellsOf 3 = 1 := by kernel_rfl
      have e9 : Tryz.prog.cellsOf 9 = 1 := by kernel_rfl
      have e22 : Tryz.prog.cellsOf 45 = 1 := by kernel_rfl
      have e23 : Tryz.prog.cellsOf 46 = 1 := by kernel_rfl
      have e24 : Tryz.prog.cellsOf 47 = 1 := by kernel_rfl
      have h0 := hf 0 _ rfl
      have h1 := hf 1 _ rfl
      have h2 := hf 2 _ rfl
      have h3 := hf 3 _ rfl
      have h4 := hf 4 _ rfl
      simp [e1, e9, e22, e23, e24] at h0 h1 h2 h3 h4
      obtain ⟨a1, n1, c1, rfl⟩ := slice_shape Tryz.underlying45 h2
      obtain ⟨a2, n2, c2, rfl⟩ := slice_shape Tryz.underlying46 h3
      obtain ⟨a3, n3, c3, rfl⟩ := slice_shape Tryz.underlying47 h4
      obtain ⟨k0, q0, r0, w0⟩ := DataW.trod_int Tryz.underlying3 h0
      obtain ⟨k1, q1, r1, w1⟩ := DataW.trod_string Tryz.underlying9 h1
      obtain ⟨l2, g2, p2, s2, b2, -⟩ := open_words (d := y2.1) (p := y2.2) Tryz.underlying45 Tryz.underlying9 e9 (by kernel_rfl) h2 (fun q hq => hw q (by simp only [DataW.weights, DataW.weightsEach, Tryz.underlying49]; simp [DataW.weightsEach]; simp [hq]))
      obtain ⟨l3, g3, p3, s3, b3, -⟩ := open_pairs29 (d := y3.1) (p := y3.2) h3 (fun q hq => hw q (by simp only [DataW.weights, DataW.weightsEach, Tryz.underlying49]; simp [DataW.weightsEach]; simp [hq]))
      obtain ⟨l4, g4, p4, s4, b4, -⟩ := open_rankeds (d := y4.1) (p := y4.2) h4 (fun q hq => hw q (by simp only [DataW.weights, DataW.weightsEach, Tryz.underlying49]; simp [DataW.weightsEach]; simp [hq]))
      have ht : k1.data.toList.length ≤ 140737488351232 := by
        have := hw k1.data.toList.length (by simp only [DataW.weights, DataW.weightsEach, Tryz.underlying49]; simp [DataW.weightsEach, r1, DataW.weights])
        unfold reachBytes at this
        exact this
      subst g2 g3 g4
      refine ⟨⟨k0, k1.data.toList, l2, l3, l4⟩, a1, a2, a3, c1, c2, c3, ?_, ⟨p2, p3, p4⟩, ⟨Nat.lt_of_le_of_lt ht (by decide), Nat.lt_of_le_of_lt b2 (by decide), Nat.lt_of_le_of_lt b3 (by decide), Nat.lt_of_le_of_lt b4 (by decide), fun s hs => Nat.lt_of_le_of_lt (s2 s hs) (by decide), fun y hy => Nat.lt_of_le_of_lt (s3 y hy).1 (by decide), fun y hy => Nat.lt_of_le_of_lt (s3 y hy).2 (by decide), fun y hy => Nat.lt_of_le_of_lt (s4 y hy).1 (by decide)⟩, fun y hy => (s4 y hy).2⟩
      simp_all [Tryz.plainCells]
set_option maxRecDepth 100000 in
theorem open_se {n base : Nat} {spare : Nat → Bool} {held : Bool} {cs : List Value} {x : DataW H × List MemPlace} (h : DataW.trod enc Tryz.prog w base spare held n 51 cs = some x) (hw : ∀ m ∈ x.1.weights Tryz.prog 51, m ≤ reachBytes) :
    ∃ (y : SE) (a1 a2 a3 : Option Addr) (c1 c2 c3 : Nat), cs = seC y a1 a2 a3 c1 c2 c3 ∧ PlainAt w y.val a1 a2 a3 ∧ SArg y := by
  obtain ⟨xs, m, _, rfl, hl, hlen, hf⟩ := DataW.trod_struct Tryz.underlying51 h
  rw [show Tryz.prog.cellsOf 51 = 7 by kernel_rfl] at hl
  match cs, hl with
  | [v0, v1, v2, v3, v4, v5, v6], _ =>
    match xs, hlen with
    | [y0, y1, y2], _ =>
      have e1 : Tryz.prog.cellsOf 2 = 1 := by kernel_rfl
      have e9 : Tryz.prog.cellsOf 9 = 1 := by kernel_rfl
      have e22 : Tryz.prog.cellsOf 49 = 5 := by kernel_rfl
      have h0 := hf 0 _ rfl
      have h1 := hf 1 _ rfl
      have h2 := hf 2 _ rfl
      simp [e1, e9, e22] at h0 h1 h2
      obtain ⟨k0, q0, r0, w0⟩ := DataW.trod_string Tryz.underlying9 h0
      obtain ⟨k2, q2, r2, w2⟩ := DataW.trod_int Tryz.underlying2 h2
      obtain ⟨p, a1, a2, a3, c1, c2, c3, hcs, hp, hb, hbits⟩ := open_plain29 h1 (fun q hq => hw q (by simp only [DataW.weights, DataW.weightsEach, Tryz.underlying51]; simp [DataW.weightsEach]; simp [hq]))
      have ht : k0.data.toList.length ≤ 140737488351232 := by
        have := hw k0.data.toList.length (by simp only [DataW.weights, DataW.weightsEach, Tryz.underlying51]; simp [DataW.weightsEach, r0, DataW.weights])
        unfold reachBytes at this
        exact this
      refine ⟨⟨k0.data.toList, p, k2⟩, a1, a2, a3, c1, c2, c3, ?_, hp, ⟨hb, Nat.lt_of_le_of_lt ht (by decide), wf_i64_29 w2, hbits⟩⟩
      simp_all [Tryz.plainCells, seC]
theorem open_stored {fuel base : Nat} {spare : Nat → Bool} {held : Bool} {a : Option Addr} {len cap : Nat} {d : DataW H} {p : List MemPlace}
    (h : DataW.trod enc Tryz.prog w base spare held fuel 22 [.slice a len cap] = some (d, p)) (hw : ∀ n ∈ d.weights Tryz.prog 22, n ≤ reachBytes) :
    ∃ l : List SE, l.length = len ∧ SRow w a l ∧ (∀ x ∈ l, SArg x) ∧ len ≤ 1172812402926 ∧ len ≤ cap := by
  have hc7 : Tryz.prog.cellsOf 51 = 7 := by kernel_rfl
  rcases open_slice Tryz.underlying22 h with ⟨hcs, hx⟩ | ⟨a', len', cap', m, n, D, Pl, hcs, hb, hl, hm, hmm, hx, hall⟩
  · simp at hcs
    obtain ⟨rfl, rfl, rfl⟩ := hcs
    exact ⟨[], rfl, fun i x hx => by simp at hx, by simp, by omega, Nat.le_refl _⟩
  · simp at hcs
    obtain ⟨rfl, rfl, rfl⟩ := hcs
    simp only [Prod.mk.injEq] at hx
    obtain ⟨rfl, -⟩ := hx
    have hlm : len ≤ m := by rw [hmm]; split <;> omega
    have h64 := hw (((List.range len).map D).length * 120 + ((List.range (m - len)).map fun j => D (len + j)).length * 120) (by
      have e64 : Tryz.prog.bytesOf 51 = 120 := by kernel_rfl
      simp only [DataW.weights, Tryz.underlying22, e64, Nat.add_mul]
      exact List.mem_cons_self)
    unfold reachBytes at h64
    simp only [List.length_map, List.length_range] at h64
    obtain ⟨O, hO⟩ := choose_lt (α := SE) (p := fun i o => SEAt w (a'.add (i * 7)) o ∧ SArg o) (n := len) (fun i hi => by
      obtain ⟨cs', h1, h2⟩ := hall i (by omega)
      rw [hc7] at h1
      obtain ⟨_, h7, hcells⟩ := World.cells?_some h1
      obtain ⟨o, a1, a2, a3, c1, c2, c3, rfl, hp, ok⟩ := open_se h2 (fun q hq => hw q (by
        simp only [DataW.weights, Tryz.underlying22]
        refine List.mem_cons_of_mem _ (List.mem_append.2 (Or.inl ?_))
        exact weightsAll_mem _ (D i) (List.mem_map.2 ⟨i, List.mem_range.2 hi, rfl⟩) hq))
      refine ⟨o, ⟨a1, a2, a3, c1, c2, c3, fun j u hj => ?_, hp⟩, ok⟩
      have hj7 : j < 7 := by have := (List.getElem?_eq_some_iff.1 hj).1; simpa [seC] using this
      rw [hcells j hj7, hj])
    refine ⟨(List.range len).map O, by simp, fun i x hx => ?_, ?_, by omega, hl⟩
    · simp only [List.getElem?_map, Option.map_eq_some_iff] at hx
      obtain ⟨k, hk, rfl⟩ := hx
      obtain ⟨hlt, rfl⟩ := List.getElem?_eq_some_iff.1 hk
      simp only [List.getElem_range, List.length_range] at *
      exact ⟨a', rfl, (hO i (by simpa using hlt)).1⟩
    · intro o ho
      obtain ⟨i, hi, rfl⟩ := List.mem_map.1 ho
      exact (hO i (List.mem_range.1 hi)).2
end
end Go.Proofs.YteiklgbjjmlmaaaGreat
