
/- The writer of a snapshot: numbers, eights, texts. -/
import Derived.Test.YteiklgbjjmlmaaaGreatZMem
import Derived.Test.YteiklgbjjmlmaaaGreatZSnBuf
import Derived.Test.YteiklgbjjmlmaaaGreatRows
set_option linter.unusedVariables false
set_option linter.unusedSimpArgs false
namespace Go.Proofs.YteiklgbjjmlmaaaGreat
open Go.RowKit Pantry

theorem snE : ElemT Tryz.prog 24 5 1 1 (.int .u8 0) := ⟨Tryz.underlying24, by kernel_rfl, rfl, by omega, by omega⟩
theorem snT : BytesT Tryz.prog 24 5 := by
  obtain ⟨i0, hi, hz0, hz1, hz2⟩ := info_parts snE.info
  exact ⟨Tryz.underlying24, i0, hi, hz1, hz2, hz0⟩
/-- Block W is a writer that holds these bytes; it and its row lie from N on. -/
structure WrAt (N : Nat) (w : World) (W : Nat) (out : List UInt8) : Prop where
  ge : N ≤ W
  ex : ∃ v, w.heap[W]? = some (.cells #[v] 64) ∧ OwnB w N 5 v out
/-- What is neither bytes nor a writer is kept. -/
def KeepT (w w' : World) : Prop := ∀ (k : Nat) (c : Array Value) (t : TypeId) (fz : Nat × Nat), w.heap[k]? = some (.cells c t fz) → t ≠ 5 → t ≠ 64 → w'.heap[k]? = some (.cells c t fz)
theorem KeepT.refl (w : World) : KeepT w w := fun _ _ _ _ h _ _ => h
theorem KeepT.trans {a b c : World} (h : KeepT a b) (k : KeepT b c) : KeepT a c := fun i cs t fz h0 h1 h2 => k i cs t fz (h i cs t fz h0 h1 h2) h1 h2
theorem KeepT.of_below {w w' : World} (h : Below w.heap.size w w') : KeepT w w' := fun k c t fz h0 _ _ => (h.block k (Array.getElem?_eq_some_iff.1 h0).1).trans h0
def WrPost (N W : Nat) (out : List UInt8) (w : World) (e : Ending) (w' : World) : Prop := e = .returned (.tuple #[]) ∧ WrAt N w' W out ∧ Below N w w' ∧ KeepT w w'
theorem WrAt.lt {N W : Nat} {w : World} {out : List UInt8} (h : WrAt N w W out) : W < w.heap.size := by
  obtain ⟨v, h1, -⟩ := h.ex
  exact (Array.getElem?_eq_some_iff.1 h1).1
theorem WrAt.below {N W : Nat} {w w' : World} {out : List UInt8} (h : WrAt N w W out) (hb : Below w.heap.size w w') : WrAt N w' W out := by
  obtain ⟨v, h1, h2⟩ := h.ex
  exact ⟨h.ge, v, (hb.block W h.lt).trans h1, h2.below hb⟩
/-- Behind an append the writer holds more. -/
theorem WrAt.store {N W : Nat} {w A : World} {out out' : List UInt8} {v v' : Value} (hg : N ≤ W) (h1 : w.heap[W]? = some (.cells #[v] 64)) (hv : OwnB w N 5 v out) (hr : OwnB A N 5 v' out') (hc : w.grownBy A v.ownBlock) (hN : N ≤ w.heap.size) :
    A.cell? ⟨W, 0, none⟩ = some v ∧ A.frozen? ⟨W, 0, none⟩ = false ∧ WrAt N (A.setCell ⟨W, 0, none⟩ v') W out' ∧ Below N w (A.setCell ⟨W, 0, none⟩ v') ∧ KeepT w (A.setCell ⟨W, 0, none⟩ v') := by
  have hW : A.heap[W]? = some (.cells #[v] 64) := by
    refine (hc.block W (Array.getElem?_eq_some_iff.1 h1).1 fun e => ?_).trans h1
    obtain ⟨c, fz, hcc⟩ := hv.type e.symm
    rw [h1] at hcc
    have : (64 : TypeId) = 5 := by injection hcc with hcc; injection hcc
    exact absurd this (by decide)
  have hb1 : Below N w A := (Below.refl N w).grown hc hN fun k hk => (hv.lt k hk).1
  refine ⟨cell_of_row A W 0 _ _ _ hW, frozen_of_row A W 0 _ _ hW, ⟨hg, v', ?_, hr.keep fun k hk _ => ?_⟩, hb1.setCell (p := ⟨W, 0, none⟩) hg _, fun k c t fz h0 n1 n2 => ?_⟩
  · rw [setCell_eq_setRow A W 0 _ _ (0, 0) _ hW]
    exact setRow_heap A W _ _ _ _ hW
  · obtain ⟨c, fz, hcc⟩ := hr.type hk
    have hne : k ≠ W := by
      rintro rfl
      rw [hW] at hcc
      have : (64 : TypeId) = 5 := by injection hcc with hcc; injection hcc
      exact absurd this (by decide)
    rw [setCell_eq_setRow A W 0 _ _ (0, 0) _ hW]
    exact setRow_other A W k _ hne
  · have hne : k ≠ W := by
      rintro rfl
      rw [h1] at h0
      have : (64 : TypeId) = t := by injection h0 with h0; injection h0
      exact n2 this.symm
    have hA : A.heap[k]? = some (.cells c t fz) := (hc.block k (Array.getElem?_eq_some_iff.1 h0).1 fun e => by
      obtain ⟨c', fz', hcc⟩ := hv.type e.symm
      rw [h0] at hcc
      have : t = 5 := by injection hcc with hcc; injection hcc
      exact n1 this).trans h0
    rw [setCell_eq_setRow A W 0 _ _ (0, 0) _ hW, setRow_other A W k _ hne]
    exact hA
/-- One byte more: the append in a region that does not draw its order. -/
theorem wpl_byte {w : World} {ops : Array Oper} {rest : List Oper} {o : Oper} {a : Act} {Q : Exit → Act → World → Prop} (hgd : o.guard = none) (s x : Operand)
    (ho : o.op = .call { callee := .builtin .append, args := #[s, x], argTypes := #[24, 24] }) {base : Nat} {v : Value} {l : List UInt8} (hs : a.eval s = v) (hown : OwnB w base 5 v l)
    (c : UInt8) {z : Int} (hz : z = (c.toNat : Int)) (hx : a.eval x = .slice (some ⟨w.heap.size, 0, none⟩) 1 1) (hb : l.length + 1 ≤ 140737488355328) (hbase : base ≤ w.heap.size)
    (h : ∀ v' w', OwnB w' base 5 v' (l ++ [c]) → w.grownBy w' v.ownBlock → wpList Tryz.prog ops Q rest (a.put o.dst v') w') : wpList Tryz.prog ops Q (o :: rest) a (w.alloc (.cells #[.int .u8 z] 5)) := by
  subst hz
  obtain ⟨v', w', hr, h1, h2⟩ := run_appendB snT o.type (hown.below ((Below.refl _ w).alloc (Nat.le_refl _) (.cells #[.int .u8 (c.toNat : Int)] 5))) (k := [c]) (m := 1) (c := 1) rfl (Rd.new w #[.int .u8 (c.toNat : Int)] 5 (0, 0) (by simp [Value.oneCell'])) hb (by simp; omega)
  refine wpList_plain hgd fun K hK => ?_
  unfold Oper.wp execOp
  simp only [ho, resolve, invoke, builtin, Sem.run_bind, Sem.run_pure, Result.andThen_ok, List.map_toArray, List.map_cons, List.map_nil, hs, hx, hr]
  exact hK _ _ (h v' w' h1 (grownBy_alloc_first h2))
theorem wpl_str {w : World} {ops : Array Oper} {rest : List Oper} {o : Oper} {a : Act} {Q : Exit → Act → World → Prop} (hgd : o.guard = none) (s x : Operand)
    (ho : o.op = .call { callee := .builtin .append, args := #[s, x], argTypes := #[24, 9] }) {base : Nat} {v : Value} {l k : List UInt8} (hs : a.eval s = v) (hown : OwnB w base 5 v l)
    (hx : a.eval x = .string ⟨k.toArray⟩) (hb : l.length + k.length ≤ 140737488355328) (hbase : base ≤ w.heap.size)
    (h : ∀ v' w', OwnB w' base 5 v' (l ++ k) → w.grownBy w' v.ownBlock → wpList Tryz.prog ops Q rest (a.put o.dst v') w') : wpList Tryz.prog ops Q (o :: rest) a w := by
  obtain ⟨v', w', hr, h1, h2⟩ := run_appendS snT Tryz.underlying9 o.type hown (k := k) hb hbase
  refine wpList_plain hgd fun K hK => ?_
  unfold Oper.wp execOp
  simp only [ho, resolve, invoke, builtin, Sem.run_bind, Sem.run_pure, Result.andThen_ok, List.map_toArray, List.map_cons, List.map_nil, hs, hx, hr]
  exact hK _ _ (h v' w' h1 h2)

theorem wraps_i64 (n : Int) (h₀ : 0 ≤ n) (h₁ : n < 2 ^ 63) : IntKind.i64.wrap n = n := by rw [IntKind.wrap_i64]; omega
theorem i64_digit (m : Nat) (h : m < 9223372036854775808) : bits BinOp.or IntKind.i64 (bits BinOp.and IntKind.i64 (m : Int) 127) 128 = ((m % 128 + 128 : Nat) : Int) := by
  have e1 : bits BinOp.and IntKind.i64 (m : Int) 127 = ((m % 128 : Nat) : Int) := by
    have := bits_mask .i64 63 (by decide) wraps_i64 7 (by decide) (m : Int) (by omega) (by omega)
    rw [show ((2 : Int) ^ 7 - 1) = 127 from rfl, show ((2 : Int) ^ 7) = 128 from rfl] at this
    rw [this]; omega
  have e2 := (bits_nat .i64 63 (by decide) wraps_i64 (m % 128) 128 (by omega) (by decide)).2
  have e3 := Nat.two_pow_add_eq_or_of_lt (i := 7) (b := m % 128) (by omega) 1
  rw [e1, show ((128 : Int)) = ((128 : Nat) : Int) from rfl, e2, Nat.or_comm, ← e3]
  omega
set_option maxRecDepth 100000 in
set_option maxHeartbeats 2000000 in
theorem wnum_any {N W : Nat} {w : World} {out : List UInt8} (h : WrAt N w W out) (n : Nat) (hn : n < 9223372036854775808) (hl : out.length ≤ 140737488355000) (hN : N ≤ w.heap.size) :
    Calls Tryz.prog 32 #[.pointer (some ⟨W, 0, none⟩), .int .i64 n] w (WrPost N W (out ++ numB n) w) := by
  have H := Lib.hid h
  have HL := Lib.hid hl
  have HNN := Lib.hid hN
  have HN := Lib.hid hn
  clear h hl hN
  go_enter Tryz.func32, Tryz.ntmps32
  go_wp2
  go_loopw [1] (fun i wr => ∃ (f m : Nat) (pre : List UInt8), i = .int .i64 m ∧ m < 128 ^ f ∧ f ≤ 9 ∧ pre.length + f = 9 ∧ numB n = pre ++ numF f m ∧ WrAt N wr W (out ++ pre) ∧ Below N w wr ∧ Hid (KeepT w wr)) (fun i _ => (intOf i).toNat)
  case atStart => exact ⟨9, n, [], rfl, HN.out, Nat.le_refl _, rfl, rfl, by rw [List.append_nil]; exact H.out, Below.refl _ _, Lib.hid (KeepT.refl _)⟩
  case round =>
    obtain ⟨f, m, pre, rfl, hm, hf, hpf, hnb, hW, hbl, HKT⟩ := hrel
    obtain ⟨v, hWv, hOw⟩ := hW.ex
    have cW := cell_of_row wr W 0 _ _ _ hWv
    have hol : (out ++ pre).length ≤ 140737488355100 := by have := HL.out; rw [List.length_append]; omega
    have hsz : N ≤ wr.heap.size := Nat.le_trans HNN.out hbl.size
    have HO := Lib.hid hOw
    have HW := Lib.hid hW
    have HWV := Lib.hid hWv
    have HBL := Lib.hid hbl
    have HNB := Lib.hid hnb
    clear hOw hW hWv hbl hnb
    by_cases h128 : (128 : Int) ≤ (m : Int)
    · have hbit : (bits BinOp.or IntKind.i64 (bits BinOp.and IntKind.i64 (m : Int) 127) 128) = ((m % 128 + 128 : Nat) : Int) := i64_digit m (Nat.lt_of_lt_of_le hm (Nat.le_trans (Nat.pow_le_pow_right (by decide) hf) (by decide)))
      have hd128 : ((o8 (m % 128 + 128)).toNat : Int) = (m : Int) % 128 + 128 := by rw [o8_nat]; omega
      obtain ⟨g, rfl⟩ : ∃ g, f = g + 1 := by
        cases f with
        | zero => exact absurd hm (by simp; omega)
        | succ g => exact ⟨g, rfl⟩
      have hlt : m / 128 < 128 ^ g := by
        rw [Nat.div_lt_iff_lt_mul (by decide)]
        rwa [Nat.pow_succ] at hm
      have HNX : Hid (numB n = (pre ++ [o8 (m % 128 + 128)]) ++ numF g (m / 128)) := Lib.hid (by
        rw [HNB.out, numF, if_neg (by omega)]; simp)
      go_wp2_with (at_builtin; refine wpl_byte rfl _ _ rfl rfl HO.out (o8 (m % 128 + 128)) hd128.symm rfl (by omega) hsz ?_; intro v2 w2 hO2 hg2
                   obtain ⟨g2, cap2, n2, rfl, -⟩ := hO2.row (by simp)
                   obtain ⟨c2, f2, hW2, hb2, hk2⟩ := WrAt.store HW.out.ge HWV.out HO.out hO2 hg2 hsz
                   rw [List.append_assoc] at hW2
                   have HW2 := Lib.hid hW2
                   have HB2 := Lib.hid (HBL.out.trans hb2)
                   have HK2 := Lib.hid (HKT.out.trans hk2)
                   clear hO2 hg2 hW2 hb2 hk2 cW)
      refine ⟨⟨g, m / 128, pre ++ [o8 (m % 128 + 128)], by go_num, hlt, by omega, by rw [List.length_append, List.length_singleton]; omega, HNX.out, HW2.out, HB2.out, HK2⟩, ?_⟩
      simp [intOf]; omega
    · have hd : ((o8 m).toNat : Int) = (m : Int) := by rw [o8_nat]; omega
      have HNX : Hid (numB n = pre ++ [o8 m]) := Lib.hid (by
        rw [HNB.out]
        cases f with
        | zero => rfl
        | succ f => rw [numF, if_pos (by omega)])
      go_wp2_with (at_builtin; refine wpl_byte rfl _ _ rfl rfl HO.out (o8 m) hd.symm rfl (by omega) hsz ?_; intro v2 w2 hO2 hg2
                   obtain ⟨g2, cap2, n2, rfl, -⟩ := hO2.row (by simp)
                   obtain ⟨c2, f2, hW2, hb2, hk2⟩ := WrAt.store HW.out.ge HWV.out HO.out hO2 hg2 hsz
                   rw [List.append_assoc, ← HNX.out] at hW2
                   have HW2 := Lib.hid hW2
                   have HB2 := Lib.hid (HBL.out.trans hb2)
                   have HK2 := Lib.hid (HKT.out.trans hk2)
                   clear hO2 hg2 hW2 hb2 hk2 cW)
      refine bodyPost_end (results_none rfl _ _ _) rfl ?_
      exact ⟨rfl, HW2.out, HB2.out, HK2.out⟩
theorem eightB_snoc (u j : Nat) : (eightB u).take j ++ [o8 (u / 256 ^ j)] = (eightB u).take (j + 1) ∨ 8 ≤ j := by
  by_cases h : j < 8
  · left
    have hl : j < (eightB u).length := by rw [eightB_len]; exact h
    rw [List.take_succ_eq_append_getElem hl]
    congr 2
    simp [eightB]
  · right; omega
attribute [-go_sem] Builtin.append_ in
set_option maxRecDepth 100000 in
set_option maxHeartbeats 2000000 in
theorem w8_any {N W : Nat} {w : World} {out : List UInt8} (h : WrAt N w W out) (u : Nat) (hu : u < 18446744073709551616) (hl : out.length ≤ 140737488355000) (hN : N ≤ w.heap.size) :
    Calls Tryz.prog 35 #[.pointer (some ⟨W, 0, none⟩), .int .u64 u] w (WrPost N W (out ++ eightB u) w) := by
  have H := Lib.hid h
  have HL := Lib.hid hl
  have HNN := Lib.hid hN
  have HU := Lib.hid hu
  clear h hl hN
  go_enter Tryz.func35, Tryz.ntmps35
  go_wp2
  go_loopw [5] (fun i wr => ∃ j : Nat, i = .int .i64 j ∧ j ≤ 8 ∧ WrAt N wr W (out ++ (eightB u).take j) ∧ Below N w wr ∧ Hid (KeepT w wr)) (fun i _ => 8 - (intOf i).toNat)
  case atStart => exact ⟨0, rfl, by omega, by rw [List.take_zero, List.append_nil]; exact H.out, Below.refl _ _, Lib.hid (KeepT.refl _)⟩
  case round =>
    obtain ⟨j, rfl, hj, hW, hbl, HKT⟩ := hrel
    obtain ⟨v, hWv, hOw⟩ := hW.ex
    have cW := cell_of_row wr W 0 _ _ _ hWv
    have hol : (out ++ (eightB u).take j).length ≤ 140737488355100 := by have := HL.out; rw [List.length_append, List.length_take, eightB_len]; omega
    have hsz : N ≤ wr.heap.size := Nat.le_trans HNN.out hbl.size
    have HO := Lib.hid hOw
    have HW := Lib.hid hW
    have HWV := Lib.hid hWv
    have HBL := Lib.hid hbl
    clear hOw hW hWv hbl
    by_cases hj8 : j < 8
    · have hji : (j : Int) < 8 := by omega
      have hsh : (u : Int) / 2 ^ (8 * (j : Int)).toNat = ((u / 256 ^ j : Nat) : Int) := by
        have e : (8 * (j : Int)).toNat = 8 * j := by omega
        have e2 : ((2 : Int) ^ (8 * j)) = ((256 ^ j : Nat) : Int) := by rw [show (256 : Nat) = 2 ^ 8 from rfl, ← Nat.pow_mul]; simp
        rw [e, e2, Int.natCast_ediv]
      obtain ⟨q, hq⟩ : ∃ q, u / 256 ^ j = q := ⟨_, rfl⟩
      have hz : ((o8 q).toNat : Int) = (q : Int) % 256 := by rw [o8_nat]; omega
      have HS := Lib.hid (show (eightB u).take j ++ [o8 q] = (eightB u).take (j + 1) by
        rw [← hq]
        rcases eightB_snoc u j with h | h
        · exact h
        · omega)
      rw [hq] at hsh
      have hbA : Below wr.heap.size wr ((wr.alloc (.cells #[.int .u8 ((o8 q).toNat : Int)] 5)).drew) := ((Below.refl _ wr).alloc (Nat.le_refl _) _).drew
      obtain ⟨v2, w2, hrun, hO2, hg2⟩ := run_appendB snT (24 : TypeId) (HO.out.below hbA) (k := [o8 q]) (m := 1) (c := 1) rfl ((Rd.new wr #[.int .u8 ((o8 q).toNat : Int)] 5 (0, 0) (by simp [Value.oneCell'])).drew) (by omega) (Nat.le_trans hsz hbA.size)
      obtain ⟨g2, cap2, n2, rfl, -⟩ := hO2.row (by simp)
      obtain ⟨c2, f2, hW2, hb2, hk2⟩ := WrAt.store HW.out.ge HWV.out HO.out hO2 (grownBy_alloc_first (grownBy_drew_first hg2)) hsz
      rw [List.append_assoc, HS.out] at hW2
      have HW2 := Lib.hid hW2
      have HB2 := Lib.hid (HBL.out.trans hb2)
      have HK2 := Lib.hid (HKT.out.trans hk2)
      rw [hz] at hrun
      have cWA : ((wr.alloc (.cells #[.int .u8 ((q : Int) % 256)] 5)).drew).cell? ⟨W, 0, none⟩ = some v := by rw [← hz]; exact (hbA.cell (p := ⟨W, 0, none⟩) HW.out.lt).trans cW
      clear hO2 hg2 hW2 hb2 hk2 hbA HS hq
      go_wp2_with fail
      go_region
      go_wp2_with fail
      go_roundw
      case rel => exact ⟨j + 1, by go_num, by omega, HW2.out, HB2.out, HK2⟩
      case measure => simp [intOf]; omega
    · obtain rfl : j = 8 := by omega
      have HE : Hid ((eightB u).take 8 = eightB u) := Lib.hid (List.take_of_length_le (by rw [eightB_len]; omega))
      go_wp2_with fail
      refine bodyPost_end (results_none rfl _ _ _) rfl ?_
      exact ⟨rfl, by rw [← HE.out]; exact HW.out, HBL.out, HKT.out⟩
set_option maxRecDepth 100000 in
set_option maxHeartbeats 2000000 in
theorem wtext_any {N W : Nat} {w : World} {out : List UInt8} (h : WrAt N w W out) (s : List UInt8) (hs : out.length + s.length ≤ 140737488354000) (hN : N ≤ w.heap.size) :
    Calls Tryz.prog 33 #[.pointer (some ⟨W, 0, none⟩), .string ⟨s.toArray⟩] w (WrPost N W (out ++ textB s) w) := by
  have hnl : (numB s.length).length ≤ 10 := numB_len _
  have HNU := Lib.hid (wnum_any h s.length (by omega) (by omega) hN)
  have HS := Lib.hid hs
  have HNL := Lib.hid hnl
  have HNN := Lib.hid hN
  clear h hN
  go_enter Tryz.func33, Tryz.ntmps33
  go_wp2_with (first
    | (go_at_call 32; refine HNU.out.mono ?_; rintro e w1 ⟨rfl, hW, hbl, hkt⟩; have HKT := Lib.hid hkt; clear hkt
       obtain ⟨v, hWv, hOw⟩ := hW.ex
       have cW := cell_of_row w1 W 0 _ _ _ hWv
       have hsz : N ≤ w1.heap.size := Nat.le_trans HNN.out hbl.size
       have HO := Lib.hid hOw
       have HW := Lib.hid hW
       have HWV := Lib.hid hWv
       have HBL := Lib.hid hbl
       have hol : (out ++ numB s.length).length + s.length ≤ 140737488355328 := by have := HNL.out; rw [List.length_append]; omega
       clear hOw hW hWv hbl)
    | (at_builtin; refine wpl_str rfl _ _ rfl rfl HO.out (k := s) rfl hol hsz ?_; intro v2 w2 hO2 hg2
       obtain ⟨c2, f2, hW2, hb2, hk2⟩ := WrAt.store HW.out.ge HWV.out HO.out hO2 hg2 hsz
       rw [List.append_assoc] at hW2
       have HW2 := Lib.hid hW2
       have HB2 := Lib.hid (HBL.out.trans hb2)
       have HK2 := Lib.hid (HKT.out.trans hk2)
       obtain ⟨a2, n2, cap2, rfl⟩ := hO2.sl
       clear hO2 hg2 hW2 hb2 hk2 cW))
  refine bodyPost_end (results_none rfl _ _ _) rfl ?_
  exact ⟨rfl, HW2.out, HB2.out, HK2.out⟩
end Go.Proofs.YteiklgbjjmlmaaaGreat
