
/- The writer of a snapshot: numbers, eights, texts. -/
import Derived.Test.YteiklgbjjmlmaaaGreatZMem
import Derived.Test.YteiklgbjjmlmaaaGreatZSnBuf
import Derived.Test.YteiklgbjjmlmaaaGreatRows
import Derived.Test.YteiklgbjjmlmaaaGreatZSnVal
import Derived.Test.YteiklgbjjmlmaaaGreatZVTold
import Derived.Deep.Cut
set_option linter.unusedVariables false
set_option linter.unusedSimpArgs false
namespace Go.Proofs.YteiklgbjjmlmaaaGreat
open Go.RowKit Pantry

theorem snE : ElemT Tryz.prog 24 5 1 1 (.int .u8 0) := ⟨Tryz.underlying24, by kernel_rfl, rfl, by omega, by omega⟩
theorem snT : BytesT Tryz.prog 24 5 := by
  obtain ⟨i0, hi, hz0, hz1, hz2⟩ := info_parts snE.info
  exact ⟨Tryz.underlying24, i0, hi, hz1, hz2, hz0⟩
/-- Block W is a writer that holds these bytes; it and its row lie from N on. -/
structure WrAt (N : Nat) (w : World) (W : Nat) (out : List UInt8) : Prop where
  ge : N ≤ W
  ex : ∃ v, w.heap[W]? = some (.cells #[v] 64) ∧ OwnB w N 5 v out
/-- What is neither bytes nor a writer is kept. -/
def KeepT (w w' : World) : Prop := ∀ (k : Nat) (c : Array Value) (t : TypeId) (fz : Nat × Nat), w.heap[k]? = some (.cells c t fz) → t ≠ 5 → t ≠ 64 → w'.heap[k]? = some (.cells c t fz)
theorem KeepT.refl (w : World) : KeepT w w := fun _ _ _ _ h _ _ => h
theorem KeepT.trans {a b c : World} (h : KeepT a b) (k : KeepT b c) : KeepT a c := fun i cs t fz h0 h1 h2 => k i cs t fz (h i cs t fz h0 h1 h2) h1 h2
theorem KeepT.of_below {w w' : World} (h : Below w.heap.size w w') : KeepT w w' := fun k c t fz h0 _ _ => (h.block k (Array.getElem?_eq_some_iff.1 h0).1).trans h0
def WrPost (N W : Nat) (out : List UInt8) (w : World) (e : Ending) (w' : World) : Prop := e = .returned (.tuple #[]) ∧ WrAt N w' W out ∧ Below N w w' ∧ KeepT w w'
theorem WrAt.lt {N W : Nat} {w : World} {out : List UInt8} (h : WrAt N w W out) : W < w.heap.size := by
  obtain ⟨v, h1, -⟩ := h.ex
  exact (Array.getElem?_eq_some_iff.1 h1).1
theorem WrAt.below {N W : Nat} {w w' : World} {out : List UInt8} (h : WrAt N w W out) (hb : Below w.heap.size w w') : WrAt N w' W out := by
  obtain ⟨v, h1, h2⟩ := h.ex
  exact ⟨h.ge, v, (hb.block W h.lt).trans h1, h2.below hb⟩
/-- Behind an append the writer holds more. -/
theorem WrAt.store {N W : Nat} {w A : World} {out out' : List UInt8} {v v' : Value} (hg : N ≤ W) (h1 : w.heap[W]? = some (.cells #[v] 64)) (hv : OwnB w N 5 v out) (hr : OwnB A N 5 v' out') (hc : w.grownBy A v.ownBlock) (hN : N ≤ w.heap.size) :
    A.cell? ⟨W, 0, none⟩ = some v ∧ A.frozen? ⟨W, 0, none⟩ = false ∧ WrAt N (A.setCell ⟨W, 0, none⟩ v') W out' ∧ Below N w (A.setCell ⟨W, 0, none⟩ v') ∧ KeepT w (A.setCell ⟨W, 0, none⟩ v') := by
  have hW : A.heap[W]? = some (.cells #[v] 64) := by
    refine (hc.block W (Array.getElem?_eq_some_iff.1 h1).1 fun e => ?_).trans h1
    obtain ⟨c, fz, hcc⟩ := hv.type e.symm
    rw [h1] at hcc
    have : (64 : TypeId) = 5 := by injection hcc with hcc; injection hcc
    exact absurd this (by decide)
  have hb1 : Below N w A := (Below.refl N w).grown hc hN fun k hk => (hv.lt k hk).1
  refine ⟨cell_of_row A W 0 _ _ _ hW, frozen_of_row A W 0 _ _ hW, ⟨hg, v', ?_, hr.keep fun k hk _ => ?_⟩, hb1.setCell (p := ⟨W, 0, none⟩) hg _, fun k c t fz h0 n1 n2 => ?_⟩
  · rw [setCell_eq_setRow A W 0 _ _ (0, 0) _ hW]
    exact setRow_heap A W _ _ _ _ hW
  · obtain ⟨c, fz, hcc⟩ := hr.type hk
    have hne : k ≠ W := by
      rintro rfl
      rw [hW] at hcc
      have : (64 : TypeId) = 5 := by injection hcc with hcc; injection hcc
      exact absurd this (by decide)
    rw [setCell_eq_setRow A W 0 _ _ (0, 0) _ hW]
    exact setRow_other A W k _ hne
  · have hne : k ≠ W := by
      rintro rfl
      rw [h1] at h0
      have : (64 : TypeId) = t := by injection h0 with h0; injection h0
      exact n2 this.symm
    have hA : A.heap[k]? = some (.cells c t fz) := (hc.block k (Array.getElem?_eq_some_iff.1 h0).1 fun e => by
      obtain ⟨c', fz', hcc⟩ := hv.type e.symm
      rw [h0] at hcc
      have : t = 5 := by injection hcc with hcc; injection hcc
      exact n1 this).trans h0
    rw [setCell_eq_setRow A W 0 _ _ (0, 0) _ hW, setRow_other A W k _ hne]
    exact hA
/-- One byte more: the append in a region that does not draw its order. -/
theorem wpl_byte {w : World} {ops : Array Oper} {rest : List Oper} {o : Oper} {a : Act} {Q : Exit → Act → World → Prop} (hgd : o.guard = none) (s x : Operand)
    (ho : o.op = .call { callee := .builtin .append, args := #[s, x], argTypes := #[24, 24] }) {base : Nat} {v : Value} {l : List UInt8} (hs : a.eval s = v) (hown : OwnB w base 5 v l)
    (c : UInt8) {z : Int} (hz : z = (c.toNat : Int)) (hx : a.eval x = .slice (some ⟨w.heap.size, 0, none⟩) 1 1) (hb : l.length + 1 ≤ 140737488355328) (hbase : base ≤ w.heap.size)
    (h : ∀ v' w', OwnB w' base 5 v' (l ++ [c]) → w.grownBy w' v.ownBlock → wpList Tryz.prog ops Q rest (a.put o.dst v') w') : wpList Tryz.prog ops Q (o :: rest) a (w.alloc (.cells #[.int .u8 z] 5)) := by
  subst hz
  obtain ⟨v', w', hr, h1, h2⟩ := run_appendB snT o.type (hown.below ((Below.refl _ w).alloc (Nat.le_refl _) (.cells #[.int .u8 (c.toNat : Int)] 5))) (k := [c]) (m := 1) (c := 1) rfl (Rd.new w #[.int .u8 (c.toNat : Int)] 5 (0, 0) (by simp [Value.oneCell'])) hb (by simp; omega)
  refine wpList_plain hgd fun K hK => ?_
  unfold Oper.wp execOp
  simp only [ho, resolve, invoke, builtin, Sem.run_bind, Sem.run_pure, Result.andThen_ok, List.map_toArray, List.map_cons, List.map_nil, hs, hx, hr]
  exact hK _ _ (h v' w' h1 (grownBy_alloc_first h2))
theorem wpl_str {w : World} {ops : Array Oper} {rest : List Oper} {o : Oper} {a : Act} {Q : Exit → Act → World → Prop} (hgd : o.guard = none) (s x : Operand)
    (ho : o.op = .call { callee := .builtin .append, args := #[s, x], argTypes := #[24, 9] }) {base : Nat} {v : Value} {l k : List UInt8} (hs : a.eval s = v) (hown : OwnB w base 5 v l)
    (hx : a.eval x = .string ⟨k.toArray⟩) (hb : l.length + k.length ≤ 140737488355328) (hbase : base ≤ w.heap.size)
    (h : ∀ v' w', OwnB w' base 5 v' (l ++ k) → w.grownBy w' v.ownBlock → wpList Tryz.prog ops Q rest (a.put o.dst v') w') : wpList Tryz.prog ops Q (o :: rest) a w := by
  obtain ⟨v', w', hr, h1, h2⟩ := run_appendS snT Tryz.underlying9 o.type hown (k := k) hb hbase
  refine wpList_plain hgd fun K hK => ?_
  unfold Oper.wp execOp
  simp only [ho, resolve, invoke, builtin, Sem.run_bind, Sem.run_pure, Result.andThen_ok, List.map_toArray, List.map_cons, List.map_nil, hs, hx, hr]
  exact hK _ _ (h v' w' h1 h2)

theorem wraps_i64 (n : Int) (h₀ : 0 ≤ n) (h₁ : n < 2 ^ 63) : IntKind.i64.wrap n = n := by rw [IntKind.wrap_i64]; omega
theorem i64_digit (m : Nat) (h : m < 9223372036854775808) : bits BinOp.or IntKind.i64 (bits BinOp.and IntKind.i64 (m : Int) 127) 128 = ((m % 128 + 128 : Nat) : Int) := by
  have e1 : bits BinOp.and IntKind.i64 (m : Int) 127 = ((m % 128 : Nat) : Int) := by
    have := bits_mask .i64 63 (by decide) wraps_i64 7 (by decide) (m : Int) (by omega) (by omega)
    rw [show ((2 : Int) ^ 7 - 1) = 127 from rfl, show ((2 : Int) ^ 7) = 128 from rfl] at this
    rw [this]; omega
  have e2 := (bits_nat .i64 63 (by decide) wraps_i64 (m % 128) 128 (by omega) (by decide)).2
  have e3 := Nat.two_pow_add_eq_or_of_lt (i := 7) (b := m % 128) (by omega) 1
  rw [e1, show ((128 : Int)) = ((128 : Nat) : Int) from rfl, e2, Nat.or_comm, ← e3]
  omega
set_option maxRecDepth 100000 in
set_option maxHeartbeats 2000000 in
theorem wnum_any {N W : Nat} {w : World} {out : List UInt8} (h : WrAt N w W out) (n : Nat) (hn : n < 9223372036854775808) (hl : out.length ≤ 140737488355000) (hN : N ≤ w.heap.size) :
    Calls Tryz.prog 32 #[.pointer (some ⟨W, 0, none⟩), .int .i64 n] w (WrPost N W (out ++ numB n) w) := by
  have H := Lib.hid h
  have HL := Lib.hid hl
  have HNN := Lib.hid hN
  have HN := Lib.hid hn
  clear h hl hN
  go_enter Tryz.func32, Tryz.ntmps32
  go_wp2
  go_loopw [1] (fun i wr => ∃ (f m : Nat) (pre : List UInt8), i = .int .i64 m ∧ m < 128 ^ f ∧ f ≤ 9 ∧ pre.length + f = 9 ∧ numB n = pre ++ numF f m ∧ WrAt N wr W (out ++ pre) ∧ Below N w wr ∧ Hid (KeepT w wr)) (fun i _ => (intOf i).toNat)
  case atStart => exact ⟨9, n, [], rfl, HN.out, Nat.le_refl _, rfl, rfl, by rw [List.append_nil]; exact H.out, Below.refl _ _, Lib.hid (KeepT.refl _)⟩
  case round =>
    obtain ⟨f, m, pre, rfl, hm, hf, hpf, hnb, hW, hbl, HKT⟩ := hrel
    obtain ⟨v, hWv, hOw⟩ := hW.ex
    have cW := cell_of_row wr W 0 _ _ _ hWv
    have hol : (out ++ pre).length ≤ 140737488355100 := by have := HL.out; rw [List.length_append]; omega
    have hsz : N ≤ wr.heap.size := Nat.le_trans HNN.out hbl.size
    have HO := Lib.hid hOw
    have HW := Lib.hid hW
    have HWV := Lib.hid hWv
    have HBL := Lib.hid hbl
    have HNB := Lib.hid hnb
    clear hOw hW hWv hbl hnb
    by_cases h128 : (128 : Int) ≤ (m : Int)
    · have hbit : (bits BinOp.or IntKind.i64 (bits BinOp.and IntKind.i64 (m : Int) 127) 128) = ((m % 128 + 128 : Nat) : Int) := i64_digit m (Nat.lt_of_lt_of_le hm (Nat.le_trans (Nat.pow_le_pow_right (by decide) hf) (by decide)))
      have hd128 : ((o8 (m % 128 + 128)).toNat : Int) = (m : Int) % 128 + 128 := by rw [o8_nat]; omega
      obtain ⟨g, rfl⟩ : ∃ g, f = g + 1 := by
        cases f with
        | zero => exact absurd hm (by simp; omega)
        | succ g => exact ⟨g, rfl⟩
      have hlt : m / 128 < 128 ^ g := by
        rw [Nat.div_lt_iff_lt_mul (by decide)]
        rwa [Nat.pow_succ] at hm
      have HNX : Hid (numB n = (pre ++ [o8 (m % 128 + 128)]) ++ numF g (m / 128)) := Lib.hid (by
        rw [HNB.out, numF, if_neg (by omega)]; simp)
      go_wp2_with (at_builtin; refine wpl_byte rfl _ _ rfl rfl HO.out (o8 (m % 128 + 128)) hd128.symm rfl (by omega) hsz ?_; intro v2 w2 hO2 hg2
                   obtain ⟨g2, cap2, n2, rfl, -⟩ := hO2.row (by simp)
                   obtain ⟨c2, f2, hW2, hb2, hk2⟩ := WrAt.store HW.out.ge HWV.out HO.out hO2 hg2 hsz
                   rw [List.append_assoc] at hW2
                   have HW2 := Lib.hid hW2
                   have HB2 := Lib.hid (HBL.out.trans hb2)
                   have HK2 := Lib.hid (HKT.out.trans hk2)
                   clear hO2 hg2 hW2 hb2 hk2 cW)
      refine ⟨⟨g, m / 128, pre ++ [o8 (m % 128 + 128)], by go_num, hlt, by omega, by rw [List.length_append, List.length_singleton]; omega, HNX.out, HW2.out, HB2.out, HK2⟩, ?_⟩
      simp [intOf]; omega
    · have hd : ((o8 m).toNat : Int) = (m : Int) := by rw [o8_nat]; omega
      have HNX : Hid (numB n = pre ++ [o8 m]) := Lib.hid (by
        rw [HNB.out]
        cases f with
        | zero => rfl
        | succ f => rw [numF, if_pos (by omega)])
      go_wp2_with (at_builtin; refine wpl_byte rfl _ _ rfl rfl HO.out (o8 m) hd.symm rfl (by omega) hsz ?_; intro v2 w2 hO2 hg2
                   obtain ⟨g2, cap2, n2, rfl, -⟩ := hO2.row (by simp)
                   obtain ⟨c2, f2, hW2, hb2, hk2⟩ := WrAt.store HW.out.ge HWV.out HO.out hO2 hg2 hsz
                   rw [List.append_assoc, ← HNX.out] at hW2
                   have HW2 := Lib.hid hW2
                   have HB2 := Lib.hid (HBL.out.trans hb2)
                   have HK2 := Lib.hid (HKT.out.trans hk2)
                   clear hO2 hg2 hW2 hb2 hk2 cW)
      refine bodyPost_end (results_none rfl _ _ _) rfl ?_
      exact ⟨rfl, HW2.out, HB2.out, HK2.out⟩
theorem eightB_snoc (u j : Nat) : (eightB u).take j ++ [o8 (u / 256 ^ j)] = (eightB u).take (j + 1) ∨ 8 ≤ j := by
  by_cases h : j < 8
  · left
    have hl : j < (eightB u).length := by rw [eightB_len]; exact h
    rw [List.take_succ_eq_append_getElem hl]
    congr 2
    simp [eightB]
  · right; omega
attribute [-go_sem] Builtin.append_ in
set_option maxRecDepth 100000 in
set_option maxHeartbeats 2000000 in
theorem w8_any {N W : Nat} {w : World} {out : List UInt8} (h : WrAt N w W out) (u : Nat) (hu : u < 18446744073709551616) (hl : out.length ≤ 140737488355000) (hN : N ≤ w.heap.size) :
    Calls Tryz.prog 35 #[.pointer (some ⟨W, 0, none⟩), .int .u64 u] w (WrPost N W (out ++ eightB u) w) := by
  have H := Lib.hid h
  have HL := Lib.hid hl
  have HNN := Lib.hid hN
  have HU := Lib.hid hu
  clear h hl hN
  go_enter Tryz.func35, Tryz.ntmps35
  go_wp2
  go_loopw [5] (fun i wr => ∃ j : Nat, i = .int .i64 j ∧ j ≤ 8 ∧ WrAt N wr W (out ++ (eightB u).take j) ∧ Below N w wr ∧ Hid (KeepT w wr)) (fun i _ => 8 - (intOf i).toNat)
  case atStart => exact ⟨0, rfl, by omega, by rw [List.take_zero, List.append_nil]; exact H.out, Below.refl _ _, Lib.hid (KeepT.refl _)⟩
  case round =>
    obtain ⟨j, rfl, hj, hW, hbl, HKT⟩ := hrel
    obtain ⟨v, hWv, hOw⟩ := hW.ex
    have cW := cell_of_row wr W 0 _ _ _ hWv
    have hol : (out ++ (eightB u).take j).length ≤ 140737488355100 := by have := HL.out; rw [List.length_append, List.length_take, eightB_len]; omega
    have hsz : N ≤ wr.heap.size := Nat.le_trans HNN.out hbl.size
    have HO := Lib.hid hOw
    have HW := Lib.hid hW
    have HWV := Lib.hid hWv
    have HBL := Lib.hid hbl
    clear hOw hW hWv hbl
    by_cases hj8 : j < 8
    · have hji : (j : Int) < 8 := by omega
      have hsh : (u : Int) / 2 ^ (8 * (j : Int)).toNat = ((u / 256 ^ j : Nat) : Int) := by
        have e : (8 * (j : Int)).toNat = 8 * j := by omega
        have e2 : ((2 : Int) ^ (8 * j)) = ((256 ^ j : Nat) : Int) := by rw [show (256 : Nat) = 2 ^ 8 from rfl, ← Nat.pow_mul]; simp
        rw [e, e2, Int.natCast_ediv]
      obtain ⟨q, hq⟩ : ∃ q, u / 256 ^ j = q := ⟨_, rfl⟩
      have hz : ((o8 q).toNat : Int) = (q : Int) % 256 := by rw [o8_nat]; omega
      have HS := Lib.hid (show (eightB u).take j ++ [o8 q] = (eightB u).take (j + 1) by
        rw [← hq]
        rcases eightB_snoc u j with h | h
        · exact h
        · omega)
      rw [hq] at hsh
      have hbA : Below wr.heap.size wr ((wr.alloc (.cells #[.int .u8 ((o8 q).toNat : Int)] 5)).drew) := ((Below.refl _ wr).alloc (Nat.le_refl _) _).drew
      obtain ⟨v2, w2, hrun, hO2, hg2⟩ := run_appendB snT (24 : TypeId) (HO.out.below hbA) (k := [o8 q]) (m := 1) (c := 1) rfl ((Rd.new wr #[.int .u8 ((o8 q).toNat : Int)] 5 (0, 0) (by simp [Value.oneCell'])).drew) (by omega) (Nat.le_trans hsz hbA.size)
      obtain ⟨g2, cap2, n2, rfl, -⟩ := hO2.row (by simp)
      obtain ⟨c2, f2, hW2, hb2, hk2⟩ := WrAt.store HW.out.ge HWV.out HO.out hO2 (grownBy_alloc_first (grownBy_drew_first hg2)) hsz
      rw [List.append_assoc, HS.out] at hW2
      have HW2 := Lib.hid hW2
      have HB2 := Lib.hid (HBL.out.trans hb2)
      have HK2 := Lib.hid (HKT.out.trans hk2)
      rw [hz] at hrun
      have cWA : ((wr.alloc (.cells #[.int .u8 ((q : Int) % 256)] 5)).drew).cell? ⟨W, 0, none⟩ = some v := by rw [← hz]; exact (hbA.cell (p := ⟨W, 0, none⟩) HW.out.lt).trans cW
      clear hO2 hg2 hW2 hb2 hk2 hbA HS hq
      go_wp2_with fail
      go_region
      go_wp2_with fail
      go_roundw
      case rel => exact ⟨j + 1, by go_num, by omega, HW2.out, HB2.out, HK2⟩
      case measure => simp [intOf]; omega
    · obtain rfl : j = 8 := by omega
      have HE : Hid ((eightB u).take 8 = eightB u) := Lib.hid (List.take_of_length_le (by rw [eightB_len]; omega))
      go_wp2_with fail
      refine bodyPost_end (results_none rfl _ _ _) rfl ?_
      exact ⟨rfl, by rw [← HE.out]; exact HW.out, HBL.out, HKT.out⟩
set_option maxRecDepth 100000 in
set_option maxHeartbeats 2000000 in
theorem wtext_any {N W : Nat} {w : World} {out : List UInt8} (h : WrAt N w W out) (s : List UInt8) (hs : out.length + s.length ≤ 140737488354000) (hN : N ≤ w.heap.size) :
    Calls Tryz.prog 33 #[.pointer (some ⟨W, 0, none⟩), .string ⟨s.toArray⟩] w (WrPost N W (out ++ textB s) w) := by
  have hnl : (numB s.length).length ≤ 10 := numB_len _
  have HNU := Lib.hid (wnum_any h s.length (by omega) (by omega) hN)
  have HS := Lib.hid hs
  have HNL := Lib.hid hnl
  have HNN := Lib.hid hN
  clear h hN
  go_enter Tryz.func33, Tryz.ntmps33
  go_wp2_with (first
    | (go_at_call 32; refine HNU.out.mono ?_; rintro e w1 ⟨rfl, hW, hbl, hkt⟩; have HKT := Lib.hid hkt; clear hkt
       obtain ⟨v, hWv, hOw⟩ := hW.ex
       have cW := cell_of_row w1 W 0 _ _ _ hWv
       have hsz : N ≤ w1.heap.size := Nat.le_trans HNN.out hbl.size
       have HO := Lib.hid hOw
       have HW := Lib.hid hW
       have HWV := Lib.hid hWv
       have HBL := Lib.hid hbl
       have hol : (out ++ numB s.length).length + s.length ≤ 140737488355328 := by have := HNL.out; rw [List.length_append]; omega
       clear hOw hW hWv hbl)
    | (at_builtin; refine wpl_str rfl _ _ rfl rfl HO.out (k := s) rfl hol hsz ?_; intro v2 w2 hO2 hg2
       obtain ⟨c2, f2, hW2, hb2, hk2⟩ := WrAt.store HW.out.ge HWV.out HO.out hO2 hg2 hsz
       rw [List.append_assoc] at hW2
       have HW2 := Lib.hid hW2
       have HB2 := Lib.hid (HBL.out.trans hb2)
       have HK2 := Lib.hid (HKT.out.trans hk2)
       obtain ⟨a2, n2, cap2, rfl⟩ := hO2.sl
       clear hO2 hg2 hW2 hb2 hk2 cW))
  refine bodyPost_end (results_none rfl _ _ _) rfl ?_
  exact ⟨rfl, HW2.out, HB2.out, HK2.out⟩
end Go.Proofs.YteiklgbjjmlmaaaGreat


/- The writer of a snapshot: values. -/
set_option linter.unusedVariables false
set_option linter.unusedSimpArgs false
namespace Pantry
theorem flat_le {α : Type} {f : α → List UInt8} {B : Nat} : ∀ {l : List α}, (∀ x ∈ l, (f x).length ≤ B) → (l.flatMap f).length ≤ l.length * B
  | [], _ => by simp
  | x :: l, h => by
    have h1 := h x List.mem_cons_self
    have h2 := flat_le fun y hy => h y (List.mem_cons_of_mem _ hy)
    rw [List.flatMap_cons, List.length_append, List.length_cons, Nat.add_mul, Nat.one_mul]
    omega
theorem textB_len (s : List UInt8) : (textB s).length ≤ s.length + 10 := by
  unfold textB
  have := numB_len s.length
  rw [List.length_append]; omega
theorem flat_take {α : Type} {f : α → List UInt8} {l : List α} {k : Nat} {x : α} (h : l[k]? = some x) : (l.take (k + 1)).flatMap f = (l.take k).flatMap f ++ f x := by
  obtain ⟨h1, h2⟩ := List.getElem?_eq_some_iff.1 h
  rw [List.take_succ_eq_append_getElem h1, h2, List.flatMap_append, List.flatMap_singleton]
end Pantry
namespace Go.Proofs.YteiklgbjjmlmaaaGreat
open Go.RowKit Pantry

/-- Plain data that stays while what lies ahead of N stays. -/
def PlainIn (N : Nat) (w : World) (p : PD) (a1 a2 a3 : Option Addr) : Prop := ∀ wr, Below N w wr → PlainAt wr p a1 a2 a3
/-- One byte more, in a region that draws. -/
theorem WrAt.byte {N W : Nat} {A : World} {out : List UInt8} (h : WrAt N A W out) (c : UInt8) (hl : out.length ≤ 140737488355000) (hN : N ≤ A.heap.size) : ∃ v g2 cap2 n2 w2, A.cell? ⟨W, 0, none⟩ = some v ∧ ((A.alloc (.cells #[.int .u8 (c.toNat : Int)] 5)).drew).cell? ⟨W, 0, none⟩ = some v ∧
    (Builtin.append_ #[24, 24] 24 #[v, .slice (some ⟨A.heap.size, 0, none⟩) 1 1]).run Tryz.prog ((A.alloc (.cells #[.int .u8 (c.toNat : Int)] 5)).drew) = .ok (.slice (some ⟨g2, 0, none⟩) n2 cap2) w2 ∧
    w2.cell? ⟨W, 0, none⟩ = some v ∧ w2.frozen? ⟨W, 0, none⟩ = false ∧ WrAt N (w2.setCell ⟨W, 0, none⟩ (.slice (some ⟨g2, 0, none⟩) n2 cap2)) W (out ++ [c]) ∧ Below N A (w2.setCell ⟨W, 0, none⟩ (.slice (some ⟨g2, 0, none⟩) n2 cap2)) ∧ KeepT A (w2.setCell ⟨W, 0, none⟩ (.slice (some ⟨g2, 0, none⟩) n2 cap2)) := by
  obtain ⟨v, hWv, hO⟩ := h.ex
  have cW : A.cell? ⟨W, 0, none⟩ = some v := cell_of_row A W 0 _ _ _ hWv
  have hbA : Below A.heap.size A ((A.alloc (.cells #[.int .u8 (c.toNat : Int)] 5)).drew) := ((Below.refl _ A).alloc (Nat.le_refl _) _).drew
  obtain ⟨v2, w2, hrun, hO2, hg2⟩ := run_appendB snT (24 : TypeId) (hO.below hbA) (k := [c]) (m := 1) (c := 1) rfl ((Rd.new A #[.int .u8 (c.toNat : Int)] 5 (0, 0) (by simp [Value.oneCell'])).drew) (by omega) (Nat.le_trans hN hbA.size)
  obtain ⟨g2, cap2, n2, rfl, -⟩ := hO2.row (by simp)
  obtain ⟨c2, f2, hW2, hb2, hk2⟩ := WrAt.store h.ge hWv hO hO2 (grownBy_alloc_first (grownBy_drew_first hg2)) hN
  exact ⟨v, g2, cap2, n2, w2, cW, (hbA.cell (p := ⟨W, 0, none⟩) h.lt).trans cW, hrun, c2, f2, hW2, hb2, hk2⟩
theorem tobits29 (b : Nat) (w : World) : (callFunc 37 #[.float .f64 b]).run Tryz.prog w = .ok (.value (.int .u64 b)) w := run_callFunc_extern (e := Extern.MathFloatBits.float64bits) Tryz.func37 (by kernel_rfl) (by kernel_rfl) (by kernel_rfl) (by kernel_rfl) _ w
attribute [-go_sem] Builtin.append_
set_option maxRecDepth 100000 in
set_option maxHeartbeats 4000000 in
theorem wval_text {N W : Nat} {w : World} {out : List UInt8} (h : WrAt N w W out) (tx : List UInt8) (its : List (List UInt8)) (prs : List Fld) (rks : List Mb) (a1 a2 a3 : Option Addr) (c1 c2 c3 : Nat) (ht : tx.length ≤ 1048576) (hl : out.length ≤ 1099511627776) (hN : N ≤ w.heap.size) :
    Calls Tryz.prog 34 #[.pointer (some ⟨W, 0, none⟩), .agg (Tryz.plainCells ⟨1, tx, its, prs, rks⟩ a1 a2 a3 c1 c2 c3)] w (WrPost N W (out ++ ([o8 1] ++ textB tx)) w) := by
  simp only [Tryz.plainCells]
  obtain ⟨A, hA⟩ : ∃ A, w.alloc (.cells #[.int .i64 1, .string ⟨tx.toArray⟩, .slice a1 its.length c1, .slice a2 prs.length c2, .slice a3 rks.length c3] 49) = A := ⟨_, rfl⟩
  have hbA : Below w.heap.size w A := by rw [← hA]; exact (Below.refl _ _).alloc (Nat.le_refl _) _
  have hX : A.heap[w.heap.size]? = some (.cells #[.int .i64 1, .string ⟨tx.toArray⟩, .slice a1 its.length c1, .slice a2 prs.length c2, .slice a3 rks.length c3] 49) := by rw [← hA]; exact heap_alloc_new w _
  have hNA : N ≤ A.heap.size := Nat.le_trans hN hbA.size
  have x0 := cell_of_row A w.heap.size 0 _ _ _ hX
  obtain ⟨v, g2, cap2, n2, w2, k1, k2, k3, k4, k5, hW2, hb2, hk2⟩ := (h.below hbA).byte (o8 1) (by omega) hNA
  have hX2 := hk2 _ _ _ _ hX (by decide) (by decide)
  have y0 := cell_of_row _ w.heap.size 0 _ _ _ hX2
  have y1 := cell_of_row _ w.heap.size 1 _ _ _ hX2
  obtain ⟨O, hO⟩ : ∃ O, out ++ ([o8 1] ++ textB tx) = O := ⟨_, rfl⟩
  have HO := Lib.hid (show out ++ [o8 1] ++ textB tx = O by rw [← hO, List.append_assoc])
  rw [hO]
  clear hO
  have HT := Lib.hid (wtext_any hW2 tx (by rw [List.length_append, List.length_singleton]; omega) (Nat.le_trans hNA hb2.size))
  have HX2 := Lib.hid hX2
  have HB := Lib.hid ((hbA.mono hN).trans hb2)
  have HK := Lib.hid ((KeepT.of_below hbA).trans hk2)
  have HNN := Lib.hid hN
  have x0' : A.drew.cell? ⟨w.heap.size, 0, none⟩ = _ := x0
  rw [show ((o8 1).toNat : Int) = 1 from rfl] at k2 k3
  clear h hX hX2 hbA hb2 hk2 hW2 hl
  go_enter Tryz.func34, Tryz.ntmps34
  go_upto_region 1 with fail
  clear hA
  go_region
  go_wp2_with (go_at_call 33; refine HT.out.mono ?_; rintro e w3 ⟨rfl, hW3, hb3, hk3⟩; rw [HO.out] at hW3; have HF := Lib.hid (And.intro hW3 (And.intro (HB.out.trans hb3) (HK.out.trans hk3))); clear hW3 hb3 hk3)
  refine bodyPost_end (results_none rfl _ _ _) rfl ?_
  exact ⟨rfl, HF.out⟩
set_option maxRecDepth 100000 in
set_option maxHeartbeats 4000000 in
theorem wval_list {N W : Nat} {w : World} {out : List UInt8} (h : WrAt N w W out) (tx : List UInt8) (its : List (List UInt8)) (prs : List Fld) (rks : List Mb) (a1 a2 a3 : Option Addr) (c1 c2 c3 : Nat) (hP : ∀ wr, Below N w wr → Rd wr a1 (its.map txC)) (hf : its.length ≤ 1048576) (ht : ∀ s ∈ its, s.length ≤ 1048576) (hl : out.length ≤ 1099511627776) (hN : N ≤ w.heap.size) :
    Calls Tryz.prog 34 #[.pointer (some ⟨W, 0, none⟩), .agg (Tryz.plainCells ⟨2, tx, its, prs, rks⟩ a1 a2 a3 c1 c2 c3)] w (WrPost N W (out ++ ([o8 2] ++ (numB its.length ++ its.flatMap textB))) w) := by
  simp only [Tryz.plainCells]
  obtain ⟨A, hA⟩ : ∃ A, w.alloc (.cells #[.int .i64 2, .string ⟨tx.toArray⟩, .slice a1 its.length c1, .slice a2 prs.length c2, .slice a3 rks.length c3] 49) = A := ⟨_, rfl⟩
  have hbA : Below w.heap.size w A := by rw [← hA]; exact (Below.refl _ _).alloc (Nat.le_refl _) _
  have hX : A.heap[w.heap.size]? = some (.cells #[.int .i64 2, .string ⟨tx.toArray⟩, .slice a1 its.length c1, .slice a2 prs.length c2, .slice a3 rks.length c3] 49) := by rw [← hA]; exact heap_alloc_new w _
  have hNA : N ≤ A.heap.size := Nat.le_trans hN hbA.size
  have x0 := cell_of_row A w.heap.size 0 _ _ _ hX
  obtain ⟨v, g2, cap2, n2, w2, k1, k2, k3, k4, k5, hW2, hb2, hk2⟩ := (h.below hbA).byte (o8 2) (by omega) hNA
  have hX2 := hk2 _ _ _ _ hX (by decide) (by decide)
  have y0 := cell_of_row _ w.heap.size 0 _ _ _ hX2
  have y2 := cell_of_row _ w.heap.size 2 _ _ _ hX2
  obtain ⟨O, hO⟩ : ∃ O, out ++ ([o8 2] ++ (numB its.length ++ its.flatMap textB)) = O := ⟨_, rfl⟩
  have HO := Lib.hid (show (out ++ [o8 2] ++ numB its.length) ++ its.flatMap textB = O by rw [← hO]; simp)
  rw [hO]
  clear hO
  have HT := Lib.hid (wnum_any hW2 its.length (by omega) (by rw [List.length_append, List.length_singleton]; omega) (Nat.le_trans hNA hb2.size))
  have HP := Lib.hid hP
  have HTT := Lib.hid ht
  have HOL : Hid ((out ++ [o8 2] ++ numB its.length).length ≤ 1099511627800) := Lib.hid (by have := numB_len its.length; simp only [List.length_append, List.length_singleton]; omega)
  obtain ⟨n, hn⟩ : ∃ n, its.length = n := ⟨_, rfl⟩
  rw [hn] at HT y2 HO HOL hf hA hX hX2
  have HNL := Lib.hid hn
  clear hP ht
  have HX2 := Lib.hid hX2
  have HB := Lib.hid ((hbA.mono hN).trans hb2)
  have HK := Lib.hid ((KeepT.of_below hbA).trans hk2)
  have HNN := Lib.hid hN
  have x0' : A.drew.cell? ⟨w.heap.size, 0, none⟩ = _ := x0
  rw [show ((o8 2).toNat : Int) = 2 from rfl] at k2 k3
  rw [hn]
  clear h hX hX2 hbA hb2 hk2 hW2 hl hn
  go_enter Tryz.func34, Tryz.ntmps34
  go_upto_region 1 with fail
  clear hA
  go_region
  go_upto_region 8 with (go_at_call 32; refine HT.out.mono ?_; rintro e w3 ⟨rfl, hW3, hb3, hk3⟩
                         have hX3 := hk3 _ _ _ _ HX2.out (by decide) (by decide)
                         have HW3 := Lib.hid hW3
                         have HB3 := Lib.hid (HB.out.trans hb3)
                         have HK3 := Lib.hid (HK.out.trans hk3)
                         clear hW3 hb3 hk3 y0 y2)
  have y0 := cell_of_row _ w.heap.size 0 _ _ _ hX3
  have y2 := cell_of_row _ w.heap.size 2 _ _ _ hX3
  clear hX3
  go_wp2_with fail
  go_loopw [41] (fun i wr => ∃ k : Nat, k ≤ n ∧ i = .int .i64 k ∧ WrAt N wr W ((out ++ [o8 2] ++ numB n) ++ (its.take k).flatMap textB) ∧ Below N w wr ∧ Hid (KeepT w wr)) (fun i _ => n - (intOf i).toNat)
  case atStart => exact ⟨0, Nat.zero_le _, rfl, by rw [List.take_zero, List.flatMap_nil, List.append_nil]; exact HW3.out, HB3.out, HK3⟩
  case round =>
    obtain ⟨k, hk, rfl, hW, hb, HKT⟩ := hrel
    have HW := Lib.hid hW
    have HBR := Lib.hid hb
    clear hW hb
    by_cases hlt : k < n
    · have hlti : (k : Int) < (n : Int) := by omega
      obtain ⟨s, hs⟩ : ∃ s, its[k]? = some s := ⟨_, List.getElem?_eq_getElem (by rw [HNL.out]; exact hlt)⟩
      have hrd := HP.out wr HBR.out
      obtain ⟨-, x, rfl, hc⟩ := hrd k (.string ⟨s.toArray⟩) (by rw [List.getElem?_map, hs]; rfl)
      have hfl := flat_le (f := textB) (B := 1048586) (l := its.take k) (fun y hy => by
        have := HTT.out y (List.mem_of_mem_take hy)
        have := textB_len y
        omega)
      have hsl := HTT.out s (List.mem_of_getElem? hs)
      have hlk : (its.take k).length ≤ k := by rw [List.length_take]; omega
      have hmul : (its.take k).length * 1048586 ≤ 1048576 * 1048586 := Nat.mul_le_mul_right _ (by omega)
      have HNX := Lib.hid (flat_take (f := textB) hs)
      have HTX := Lib.hid (wtext_any HW.out s (by have := HOL.out; rw [List.length_append]; omega) (Nat.le_trans HNN.out HBR.out.size))
      clear hs hrd hfl hsl hlk hmul
      go_wp2_with (go_at_call 33; refine HTX.out.mono ?_; rintro e w4 ⟨rfl, hW4, hb4, hk4⟩; rw [List.append_assoc, ← HNX.out] at hW4; have HF := Lib.hid (And.intro hW4 (And.intro (HBR.out.trans hb4) (HKT.out.trans hk4))); clear hW4 hb4 hk4)
      go_roundw
      case rel => exact ⟨k + 1, by omega, by go_num, HF.out.1, HF.out.2.1, Lib.hid HF.out.2.2⟩
      case measure => simp [intOf]; omega
    · obtain rfl : k = n := by omega
      have HE : Hid (its.take k = its) := Lib.hid (by rw [← HNL.out]; exact List.take_length)
      rw [HE.out, HO.out] at HW
      go_wp2_with fail
      refine bodyPost_end (results_none rfl _ _ _) rfl ?_
      exact ⟨rfl, HW.out, HBR.out, HKT.out⟩
set_option maxRecDepth 100000 in
set_option maxHeartbeats 4000000 in
theorem wval_flock {N W : Nat} {w : World} {out : List UInt8} (h : WrAt N w W out) (tx : List UInt8) (its : List (List UInt8)) (prs : List Fld) (rks : List Mb) (a1 a2 a3 : Option Addr) (c1 c2 c3 : Nat) (hP : ∀ wr, Below N w wr → Rd wr a1 (its.map txC)) (hf : its.length ≤ 1048576) (ht : ∀ s ∈ its, s.length ≤ 1048576) (hl : out.length ≤ 1099511627776) (hN : N ≤ w.heap.size) :
    Calls Tryz.prog 34 #[.pointer (some ⟨W, 0, none⟩), .agg (Tryz.plainCells ⟨4, tx, its, prs, rks⟩ a1 a2 a3 c1 c2 c3)] w (WrPost N W (out ++ ([o8 4] ++ (numB its.length ++ its.flatMap textB))) w) := by
  simp only [Tryz.plainCells]
  obtain ⟨A, hA⟩ : ∃ A, w.alloc (.cells #[.int .i64 4, .string ⟨tx.toArray⟩, .slice a1 its.length c1, .slice a2 prs.length c2, .slice a3 rks.length c3] 49) = A := ⟨_, rfl⟩
  have hbA : Below w.heap.size w A := by rw [← hA]; exact (Below.refl _ _).alloc (Nat.le_refl _) _
  have hX : A.heap[w.heap.size]? = some (.cells #[.int .i64 4, .string ⟨tx.toArray⟩, .slice a1 its.length c1, .slice a2 prs.length c2, .slice a3 rks.length c3] 49) := by rw [← hA]; exact heap_alloc_new w _
  have hNA : N ≤ A.heap.size := Nat.le_trans hN hbA.size
  have x0 := cell_of_row A w.heap.size 0 _ _ _ hX
  obtain ⟨v, g2, cap2, n2, w2, k1, k2, k3, k4, k5, hW2, hb2, hk2⟩ := (h.below hbA).byte (o8 4) (by omega) hNA
  have hX2 := hk2 _ _ _ _ hX (by decide) (by decide)
  have y0 := cell_of_row _ w.heap.size 0 _ _ _ hX2
  have y2 := cell_of_row _ w.heap.size 2 _ _ _ hX2
  obtain ⟨O, hO⟩ : ∃ O, out ++ ([o8 4] ++ (numB its.length ++ its.flatMap textB)) = O := ⟨_, rfl⟩
  have HO := Lib.hid (show (out ++ [o8 4] ++ numB its.length) ++ its.flatMap textB = O by rw [← hO]; simp)
  rw [hO]
  clear hO
  have HT := Lib.hid (wnum_any hW2 its.length (by omega) (by rw [List.length_append, List.length_singleton]; omega) (Nat.le_trans hNA hb2.size))
  have HP := Lib.hid hP
  have HTT := Lib.hid ht
  have HOL : Hid ((out ++ [o8 4] ++ numB its.length).length ≤ 1099511627800) := Lib.hid (by have := numB_len its.length; simp only [List.length_append, List.length_singleton]; omega)
  obtain ⟨n, hn⟩ : ∃ n, its.length = n := ⟨_, rfl⟩
  rw [hn] at HT y2 HO HOL hf hA hX hX2
  have HNL := Lib.hid hn
  clear hP ht
  have HX2 := Lib.hid hX2
  have HB := Lib.hid ((hbA.mono hN).trans hb2)
  have HK := Lib.hid ((KeepT.of_below hbA).trans hk2)
  have HNN := Lib.hid hN
  have x0' : A.drew.cell? ⟨w.heap.size, 0, none⟩ = _ := x0
  rw [show ((o8 4).toNat : Int) = 4 from rfl] at k2 k3
  rw [hn]
  clear h hX hX2 hbA hb2 hk2 hW2 hl hn
  go_enter Tryz.func34, Tryz.ntmps34
  go_upto_region 1 with fail
  clear hA
  go_region
  go_upto_region 8 with (go_at_call 32; refine HT.out.mono ?_; rintro e w3 ⟨rfl, hW3, hb3, hk3⟩
                         have hX3 := hk3 _ _ _ _ HX2.out (by decide) (by decide)
                         have HW3 := Lib.hid hW3
                         have HB3 := Lib.hid (HB.out.trans hb3)
                         have HK3 := Lib.hid (HK.out.trans hk3)
                         clear hW3 hb3 hk3 y0 y2)
  have y0 := cell_of_row _ w.heap.size 0 _ _ _ hX3
  have y2 := cell_of_row _ w.heap.size 2 _ _ _ hX3
  clear hX3
  go_wp2_with fail
  go_loopw [41] (fun i wr => ∃ k : Nat, k ≤ n ∧ i = .int .i64 k ∧ WrAt N wr W ((out ++ [o8 4] ++ numB n) ++ (its.take k).flatMap textB) ∧ Below N w wr ∧ Hid (KeepT w wr)) (fun i _ => n - (intOf i).toNat)
  case atStart => exact ⟨0, Nat.zero_le _, rfl, by rw [List.take_zero, List.flatMap_nil, List.append_nil]; exact HW3.out, HB3.out, HK3⟩
  case round =>
    obtain ⟨k, hk, rfl, hW, hb, HKT⟩ := hrel
    have HW := Lib.hid hW
    have HBR := Lib.hid hb
    clear hW hb
    by_cases hlt : k < n
    · have hlti : (k : Int) < (n : Int) := by omega
      obtain ⟨s, hs⟩ : ∃ s, its[k]? = some s := ⟨_, List.getElem?_eq_getElem (by rw [HNL.out]; exact hlt)⟩
      have hrd := HP.out wr HBR.out
      obtain ⟨-, x, rfl, hc⟩ := hrd k (.string ⟨s.toArray⟩) (by rw [List.getElem?_map, hs]; rfl)
      have hfl := flat_le (f := textB) (B := 1048586) (l := its.take k) (fun y hy => by
        have := HTT.out y (List.mem_of_mem_take hy)
        have := textB_len y
        omega)
      have hsl := HTT.out s (List.mem_of_getElem? hs)
      have hlk : (its.take k).length ≤ k := by rw [List.length_take]; omega
      have hmul : (its.take k).length * 1048586 ≤ 1048576 * 1048586 := Nat.mul_le_mul_right _ (by omega)
      have HNX := Lib.hid (flat_take (f := textB) hs)
      have HTX := Lib.hid (wtext_any HW.out s (by have := HOL.out; rw [List.length_append]; omega) (Nat.le_trans HNN.out HBR.out.size))
      clear hs hrd hfl hsl hlk hmul
      go_wp2_with (go_at_call 33; refine HTX.out.mono ?_; rintro e w4 ⟨rfl, hW4, hb4, hk4⟩; rw [List.append_assoc, ← HNX.out] at hW4; have HF := Lib.hid (And.intro hW4 (And.intro (HBR.out.trans hb4) (HKT.out.trans hk4))); clear hW4 hb4 hk4)
      go_roundw
      case rel => exact ⟨k + 1, by omega, by go_num, HF.out.1, HF.out.2.1, Lib.hid HF.out.2.2⟩
      case measure => simp [intOf]; omega
    · obtain rfl : k = n := by omega
      have HE : Hid (its.take k = its) := Lib.hid (by rw [← HNL.out]; exact List.take_length)
      rw [HE.out, HO.out] at HW
      go_wp2_with fail
      refine bodyPost_end (results_none rfl _ _ _) rfl ?_
      exact ⟨rfl, HW.out, HBR.out, HKT.out⟩
set_option maxRecDepth 100000 in
set_option maxHeartbeats 4000000 in
theorem wval_record {N W : Nat} {w : World} {out : List UInt8} (h : WrAt N w W out) (tx : List UInt8) (its : List (List UInt8)) (prs : List Fld) (rks : List Mb) (a1 a2 a3 : Option Addr) (c1 c2 c3 : Nat) (hP : ∀ wr, Below N w wr → Rd wr a2 (fdCells prs)) (hf : prs.length ≤ 1048576) (ht : ∀ x ∈ prs, x.1.length ≤ 1048576 ∧ x.2.length ≤ 1048576) (hl : out.length ≤ 1099511627776) (hN : N ≤ w.heap.size) :
    Calls Tryz.prog 34 #[.pointer (some ⟨W, 0, none⟩), .agg (Tryz.plainCells ⟨3, tx, its, prs, rks⟩ a1 a2 a3 c1 c2 c3)] w (WrPost N W (out ++ ([o8 3] ++ (numB prs.length ++ prs.flatMap fldB))) w) := by
  simp only [Tryz.plainCells]
  obtain ⟨A, hA⟩ : ∃ A, w.alloc (.cells #[.int .i64 3, .string ⟨tx.toArray⟩, .slice a1 its.length c1, .slice a2 prs.length c2, .slice a3 rks.length c3] 49) = A := ⟨_, rfl⟩
  have hbA : Below w.heap.size w A := by rw [← hA]; exact (Below.refl _ _).alloc (Nat.le_refl _) _
  have hX : A.heap[w.heap.size]? = some (.cells #[.int .i64 3, .string ⟨tx.toArray⟩, .slice a1 its.length c1, .slice a2 prs.length c2, .slice a3 rks.length c3] 49) := by rw [← hA]; exact heap_alloc_new w _
  have hNA : N ≤ A.heap.size := Nat.le_trans hN hbA.size
  have x0 := cell_of_row A w.heap.size 0 _ _ _ hX
  obtain ⟨v, g2, cap2, n2, w2, k1, k2, k3, k4, k5, hW2, hb2, hk2⟩ := (h.below hbA).byte (o8 3) (by omega) hNA
  have hX2 := hk2 _ _ _ _ hX (by decide) (by decide)
  have y0 := cell_of_row _ w.heap.size 0 _ _ _ hX2
  have y2 := cell_of_row _ w.heap.size 3 _ _ _ hX2
  obtain ⟨O, hO⟩ : ∃ O, out ++ ([o8 3] ++ (numB prs.length ++ prs.flatMap fldB)) = O := ⟨_, rfl⟩
  have HO := Lib.hid (show (out ++ [o8 3] ++ numB prs.length) ++ prs.flatMap fldB = O by rw [← hO]; simp)
  rw [hO]
  clear hO
  have HT := Lib.hid (wnum_any hW2 prs.length (by omega) (by rw [List.length_append, List.length_singleton]; omega) (Nat.le_trans hNA hb2.size))
  have HP := Lib.hid hP
  have HTT := Lib.hid ht
  have HOL : Hid ((out ++ [o8 3] ++ numB prs.length).length ≤ 1099511627800) := Lib.hid (by have := numB_len prs.length; simp only [List.length_append, List.length_singleton]; omega)
  obtain ⟨n, hn⟩ : ∃ n, prs.length = n := ⟨_, rfl⟩
  rw [hn] at HT y2 HO HOL hf hA hX hX2
  have HNL := Lib.hid hn
  clear hP ht
  have HX2 := Lib.hid hX2
  have HB := Lib.hid ((hbA.mono hN).trans hb2)
  have HK := Lib.hid ((KeepT.of_below hbA).trans hk2)
  have HNN := Lib.hid hN
  have x0' : A.drew.cell? ⟨w.heap.size, 0, none⟩ = _ := x0
  rw [show ((o8 3).toNat : Int) = 3 from rfl] at k2 k3
  rw [hn]
  clear h hX hX2 hbA hb2 hk2 hW2 hl hn
  go_enter Tryz.func34, Tryz.ntmps34
  go_upto_region 1 with fail
  clear hA
  go_region
  go_upto_region 15 with (go_at_call 32; refine HT.out.mono ?_; rintro e w3 ⟨rfl, hW3, hb3, hk3⟩
                          have hX3 := hk3 _ _ _ _ HX2.out (by decide) (by decide)
                          have HW3 := Lib.hid hW3
                          have HB3 := Lib.hid (HB.out.trans hb3)
                          have HK3 := Lib.hid (HK.out.trans hk3)
                          clear hW3 hb3 hk3 y0 y2)
  have y0 := cell_of_row _ w.heap.size 0 _ _ _ hX3
  have y2 := cell_of_row _ w.heap.size 3 _ _ _ hX3
  clear hX3
  go_wp2_with fail
  go_loopw [59] (fun i wr => ∃ k : Nat, k ≤ n ∧ i = .int .i64 k ∧ WrAt N wr W ((out ++ [o8 3] ++ numB n) ++ (prs.take k).flatMap fldB) ∧ Below N w wr ∧ Hid (KeepT w wr)) (fun i _ => n - (intOf i).toNat)
  case atStart => exact ⟨0, Nat.zero_le _, rfl, by rw [List.take_zero, List.flatMap_nil, List.append_nil]; exact HW3.out, HB3.out, HK3⟩
  case round =>
    obtain ⟨k, hk, rfl, hW, hb, HKT⟩ := hrel
    have HW := Lib.hid hW
    have HBR := Lib.hid hb
    clear hW hb
    by_cases hlt : k < n
    · have hlti : (k : Int) < (n : Int) := by omega
      obtain ⟨s, hs⟩ : ∃ s, prs[k]? = some s := ⟨_, List.getElem?_eq_getElem (by rw [HNL.out]; exact hlt)⟩
      have hrd := HP.out wr HBR.out
      obtain ⟨y, rfl, hcl⟩ := fd_cells hrd hs
      have HCL := Lib.hid (show ∀ j u, ([.string ⟨s.1.toArray⟩, .string ⟨s.2.toArray⟩] : List Value)[j]? = some u → wr.cell? ((y.add (k * 2)).add j) = some u from hcl)
      have HSZ := Lib.hid (show (Tryz.prog.info? 71).map (·.size) = some 2 by kernel_rfl)
      have hfl := flat_le (f := fldB) (B := 2097172) (l := prs.take k) (fun y hy => by
        have := HTT.out y (List.mem_of_mem_take hy)
        have := textB_len y.1
        have := textB_len y.2
        unfold fldB
        rw [List.length_append]; omega)
      have hsl := HTT.out s (List.mem_of_getElem? hs)
      have hlk : (prs.take k).length ≤ k := by rw [List.length_take]; omega
      have hmul : (prs.take k).length * 2097172 ≤ 1048576 * 2097172 := Nat.mul_le_mul_right _ (by omega)
      have HNX := Lib.hid (show (prs.take (k + 1)).flatMap fldB = (prs.take k).flatMap fldB ++ (textB s.1 ++ textB s.2) from flat_take (f := fldB) hs)
      have hbB : Below wr.heap.size wr (wr.alloc (.cells #[.string ⟨s.1.toArray⟩, .string ⟨s.2.toArray⟩] 71)) := (Below.refl _ _).alloc (Nat.le_refl _) _
      have hNB : N ≤ wr.heap.size := Nat.le_trans HNN.out HBR.out.size
      have HBX := Lib.hid (heap_alloc_new wr (.cells #[.string ⟨s.1.toArray⟩, .string ⟨s.2.toArray⟩] 71))
      have hlen1 : ((out ++ [o8 3] ++ numB n) ++ (prs.take k).flatMap fldB).length ≤ 3298555900000 := by have := HOL.out; rw [List.length_append]; omega
      have HTX := Lib.hid (wtext_any (HW.out.below hbB) s.1 (by omega) (Nat.le_trans hNB hbB.size))
      have HBA := Lib.hid (And.intro ((HBR.out.trans (hbB.mono hNB))) (HKT.out.trans (KeepT.of_below hbB)))
      have HL2 := Lib.hid (And.intro hlen1 hsl)
      have b0 := cell_of_row _ wr.heap.size 0 _ _ _ HBX.out
      clear hs hrd hfl hsl hlk hmul hcl hbB hNB hlen1
      go_upto_region 19 with (first
        | (refine wpl_load_at rfl 71 _ rfl (y.add (k * 2)) rfl _ _ HCL.out Tryz.underlying71 rfl HSZ.out ?_)
        | (go_at_call 33; refine HTX.out.mono ?_; rintro e w4 ⟨rfl, hW4, hb4, hk4⟩
           have hbx4 := hk4 _ _ _ _ HBX.out (by decide) (by decide)
           have b1 := cell_of_row _ wr.heap.size 1 _ _ _ hbx4
           have HTY := Lib.hid (wtext_any hW4 s.2 (by have h1 := HL2.out; have h2 := textB_len s.1; rw [List.length_append]; omega) (Nat.le_trans HNN.out (HBA.out.1.trans hb4).size))
           have HBA4 := Lib.hid (And.intro (HBA.out.1.trans hb4) (HBA.out.2.trans hk4))
           clear hW4 hb4 hk4 hbx4 b0))
      go_wp2_with (go_at_call 33; refine HTY.out.mono ?_; rintro e w5 ⟨rfl, hW5, hb5, hk5⟩; rw [List.append_assoc, List.append_assoc, ← HNX.out] at hW5; have HF := Lib.hid (And.intro hW5 (And.intro (HBA4.out.1.trans hb5) (HBA4.out.2.trans hk5))); clear hW5 hb5 hk5)
      go_roundw
      case rel => exact ⟨k + 1, by omega, by go_num, HF.out.1, HF.out.2.1, Lib.hid HF.out.2.2⟩
      case measure => simp [intOf]; omega
    · obtain rfl : k = n := by omega
      have HE : Hid (prs.take k = prs) := Lib.hid (by rw [← HNL.out]; exact List.take_length)
      rw [HE.out, HO.out] at HW
      go_wp2_with fail
      refine bodyPost_end (results_none rfl _ _ _) rfl ?_
      exact ⟨rfl, HW.out, HBR.out, HKT.out⟩
set_option maxRecDepth 100000 in
set_option maxHeartbeats 4000000 in
theorem wval_ranks {N W : Nat} {w : World} {out : List UInt8} (h : WrAt N w W out) (tx : List UInt8) (its : List (List UInt8)) (prs : List Fld) (rks : List Mb) (a1 a2 a3 : Option Addr) (c1 c2 c3 : Nat) (hP : ∀ wr, Below N w wr → Rd wr a3 (rkCells rks)) (hf : rks.length ≤ 1048576) (ht : ∀ x ∈ rks, x.1.length ≤ 1048576 ∧ x.2 < 18446744073709551616) (hl : out.length ≤ 1099511627776) (hN : N ≤ w.heap.size) :
    Calls Tryz.prog 34 #[.pointer (some ⟨W, 0, none⟩), .agg (Tryz.plainCells ⟨5, tx, its, prs, rks⟩ a1 a2 a3 c1 c2 c3)] w (WrPost N W (out ++ ([o8 5] ++ (numB rks.length ++ rks.flatMap mbB))) w) := by
  simp only [Tryz.plainCells]
  obtain ⟨A, hA⟩ : ∃ A, w.alloc (.cells #[.int .i64 5, .string ⟨tx.toArray⟩, .slice a1 its.length c1, .slice a2 prs.length c2, .slice a3 rks.length c3] 49) = A := ⟨_, rfl⟩
  have hbA : Below w.heap.size w A := by rw [← hA]; exact (Below.refl _ _).alloc (Nat.le_refl _) _
  have hX : A.heap[w.heap.size]? = some (.cells #[.int .i64 5, .string ⟨tx.toArray⟩, .slice a1 its.length c1, .slice a2 prs.length c2, .slice a3 rks.length c3] 49) := by rw [← hA]; exact heap_alloc_new w _
  have hNA : N ≤ A.heap.size := Nat.le_trans hN hbA.size
  have x0 := cell_of_row A w.heap.size 0 _ _ _ hX
  obtain ⟨v, g2, cap2, n2, w2, k1, k2, k3, k4, k5, hW2, hb2, hk2⟩ := (h.below hbA).byte (o8 5) (by omega) hNA
  have hX2 := hk2 _ _ _ _ hX (by decide) (by decide)
  have y0 := cell_of_row _ w.heap.size 0 _ _ _ hX2
  have y2 := cell_of_row _ w.heap.size 4 _ _ _ hX2
  obtain ⟨O, hO⟩ : ∃ O, out ++ ([o8 5] ++ (numB rks.length ++ rks.flatMap mbB)) = O := ⟨_, rfl⟩
  have HO := Lib.hid (show (out ++ [o8 5] ++ numB rks.length) ++ rks.flatMap mbB = O by rw [← hO]; simp)
  rw [hO]
  clear hO
  have HT := Lib.hid (wnum_any hW2 rks.length (by omega) (by rw [List.length_append, List.length_singleton]; omega) (Nat.le_trans hNA hb2.size))
  have HP := Lib.hid hP
  have HTT := Lib.hid ht
  have HOL : Hid ((out ++ [o8 5] ++ numB rks.length).length ≤ 1099511627800) := Lib.hid (by have := numB_len rks.length; simp only [List.length_append, List.length_singleton]; omega)
  obtain ⟨n, hn⟩ : ∃ n, rks.length = n := ⟨_, rfl⟩
  rw [hn] at HT y2 HO HOL hf hA hX hX2
  have HNL := Lib.hid hn
  clear hP ht
  have HX2 := Lib.hid hX2
  have HB := Lib.hid ((hbA.mono hN).trans hb2)
  have HK := Lib.hid ((KeepT.of_below hbA).trans hk2)
  have HNN := Lib.hid hN
  have x0' : A.drew.cell? ⟨w.heap.size, 0, none⟩ = _ := x0
  rw [show ((o8 5).toNat : Int) = 5 from rfl] at k2 k3
  rw [hn]
  clear h hX hX2 hbA hb2 hk2 hW2 hl hn
  go_enter Tryz.func34, Tryz.ntmps34
  go_upto_region 1 with fail
  clear hA
  go_region
  go_upto_region 23 with (go_at_call 32; refine HT.out.mono ?_; rintro e w3 ⟨rfl, hW3, hb3, hk3⟩
                          have hX3 := hk3 _ _ _ _ HX2.out (by decide) (by decide)
                          have HW3 := Lib.hid hW3
                          have HB3 := Lib.hid (HB.out.trans hb3)
                          have HK3 := Lib.hid (HK.out.trans hk3)
                          clear hW3 hb3 hk3 y0 y2)
  have y0 := cell_of_row _ w.heap.size 0 _ _ _ hX3
  have y2 := cell_of_row _ w.heap.size 4 _ _ _ hX3
  clear hX3
  go_wp2_with fail
  go_loopw [82] (fun i wr => ∃ k : Nat, k ≤ n ∧ i = .int .i64 k ∧ WrAt N wr W ((out ++ [o8 5] ++ numB n) ++ (rks.take k).flatMap mbB) ∧ Below N w wr ∧ Hid (KeepT w wr)) (fun i _ => n - (intOf i).toNat)
  case atStart => exact ⟨0, Nat.zero_le _, rfl, by rw [List.take_zero, List.flatMap_nil, List.append_nil]; exact HW3.out, HB3.out, HK3⟩
  case round =>
    obtain ⟨k, hk, rfl, hW, hb, HKT⟩ := hrel
    have HW := Lib.hid hW
    have HBR := Lib.hid hb
    clear hW hb
    by_cases hlt : k < n
    · have hlti : (k : Int) < (n : Int) := by omega
      obtain ⟨s, hs⟩ : ∃ s, rks[k]? = some s := ⟨_, List.getElem?_eq_getElem (by rw [HNL.out]; exact hlt)⟩
      have hrd := HP.out wr HBR.out
      obtain ⟨y, rfl, hcl⟩ := rk_cells hrd hs
      have HCL := Lib.hid (show ∀ j u, ([.string ⟨s.1.toArray⟩, .float .f64 s.2] : List Value)[j]? = some u → wr.cell? ((y.add (k * 2)).add j) = some u from fun j u hj => by rw [Addr.add_add]; exact hcl j u hj)
      have HSZ := Lib.hid (show (Tryz.prog.info? 54).map (·.size) = some 2 by kernel_rfl)
      have hfl := flat_le (f := mbB) (B := 2097172) (l := rks.take k) (fun y hy => by
        have := HTT.out y (List.mem_of_mem_take hy)
        have := textB_len y.1
        unfold mbB
        rw [List.length_append, eightB_len]; omega)
      have hsl := HTT.out s (List.mem_of_getElem? hs)
      have hlk : (rks.take k).length ≤ k := by rw [List.length_take]; omega
      have hmul : (rks.take k).length * 2097172 ≤ 1048576 * 2097172 := Nat.mul_le_mul_right _ (by omega)
      have HNX := Lib.hid (show (rks.take (k + 1)).flatMap mbB = (rks.take k).flatMap mbB ++ (textB s.1 ++ eightB s.2) from flat_take (f := mbB) hs)
      have hbB : Below wr.heap.size wr (wr.alloc (.cells #[.string ⟨s.1.toArray⟩, .float .f64 s.2] 54)) := (Below.refl _ _).alloc (Nat.le_refl _) _
      have hNB : N ≤ wr.heap.size := Nat.le_trans HNN.out HBR.out.size
      have HBX := Lib.hid (heap_alloc_new wr (.cells #[.string ⟨s.1.toArray⟩, .float .f64 s.2] 54))
      have hlen1 : ((out ++ [o8 5] ++ numB n) ++ (rks.take k).flatMap mbB).length ≤ 3298555900000 := by have := HOL.out; rw [List.length_append]; omega
      have HTX := Lib.hid (wtext_any (HW.out.below hbB) s.1 (by omega) (Nat.le_trans hNB hbB.size))
      have HBA := Lib.hid (And.intro ((HBR.out.trans (hbB.mono hNB))) (HKT.out.trans (KeepT.of_below hbB)))
      have HL2 := Lib.hid (And.intro hlen1 hsl)
      have b0 := cell_of_row _ wr.heap.size 0 _ _ _ HBX.out
      clear hs hrd hfl hsl hlk hmul hcl hbB hNB hlen1
      go_upto_region 27 with (first
        | (refine wpl_load_at rfl 54 _ rfl (y.add (k * 2)) rfl _ _ HCL.out Tryz.underlying54 rfl HSZ.out ?_)
        | (go_at_call 33; refine HTX.out.mono ?_; rintro e w4 ⟨rfl, hW4, hb4, hk4⟩
           have hbx4 := hk4 _ _ _ _ HBX.out (by decide) (by decide)
           have b1 := cell_of_row _ wr.heap.size 1 _ _ _ hbx4
           have HTY := Lib.hid (w8_any hW4 s.2 HL2.out.2.2 (by have h1 := HL2.out; have h2 := textB_len s.1; rw [List.length_append]; omega) (Nat.le_trans HNN.out (HBA.out.1.trans hb4).size))
           have HBA4 := Lib.hid (And.intro (HBA.out.1.trans hb4) (HBA.out.2.trans hk4))
           clear hW4 hb4 hk4 hbx4 b0))
      have hbits := fun W => tobits29 s.2 W
      go_wp2_with (go_at_call 35; refine HTY.out.mono ?_; rintro e w5 ⟨rfl, hW5, hb5, hk5⟩; rw [List.append_assoc, List.append_assoc, ← HNX.out] at hW5; have HF := Lib.hid (And.intro hW5 (And.intro (HBA4.out.1.trans hb5) (HBA4.out.2.trans hk5))); clear hW5 hb5 hk5)
      go_roundw
      case rel => exact ⟨k + 1, by omega, by go_num, HF.out.1, HF.out.2.1, Lib.hid HF.out.2.2⟩
      case measure => simp [intOf]; omega
    · obtain rfl : k = n := by omega
      have HE : Hid (rks.take k = rks) := Lib.hid (by rw [← HNL.out]; exact List.take_length)
      rw [HE.out, HO.out] at HW
      go_wp2_with fail
      refine bodyPost_end (results_none rfl _ _ _) rfl ?_
      exact ⟨rfl, HW.out, HBR.out, HKT.out⟩
theorem wval_any {N W : Nat} {w : World} {out : List UInt8} (h : WrAt N w W out) (p : PD) (a1 a2 a3 : Option Addr) (c1 c2 c3 : Nat) (hP : PlainIn N w p a1 a2 a3) (hs : Shaped p) (hl : out.length ≤ 1099511627776) (hN : N ≤ w.heap.size) :
    Calls Tryz.prog 34 #[.pointer (some ⟨W, 0, none⟩), .agg (Tryz.plainCells p a1 a2 a3 c1 c2 c3)] w (WrPost N W (out ++ valB p) w) := by
  obtain ⟨kd, tx, its, prs, rks⟩ := p
  have hk := hs.kind
  simp only at hk
  have hk5 : kd = 1 ∨ kd = 2 ∨ kd = 3 ∨ kd = 4 ∨ kd = 5 := by omega
  rcases hk5 with rfl | rfl | rfl | rfl | rfl
  · exact wval_text h tx its prs rks a1 a2 a3 c1 c2 c3 (hs.text rfl) hl hN
  · exact wval_list h tx its prs rks a1 a2 a3 c1 c2 c3 (fun wr h => (hP wr h).items) (hs.items (.inl rfl)).2.1 (hs.items (.inl rfl)).2.2 hl hN
  · exact wval_record h tx its prs rks a1 a2 a3 c1 c2 c3 (fun wr h => (hP wr h).pairs) (hs.pairs rfl).2.1 (hs.pairs rfl).2.2 hl hN
  · exact wval_flock h tx its prs rks a1 a2 a3 c1 c2 c3 (fun wr h => (hP wr h).items) (hs.items (.inr rfl)).2.1 (hs.items (.inr rfl)).2.2 hl hN
  · exact wval_ranks h tx its prs rks a1 a2 a3 c1 c2 c3 (fun wr h => (hP wr h).ranks) (hs.ranks rfl).2.1 (hs.ranks rfl).2.2 hl hN
end Go.Proofs.YteiklgbjjmlmaaaGreat
