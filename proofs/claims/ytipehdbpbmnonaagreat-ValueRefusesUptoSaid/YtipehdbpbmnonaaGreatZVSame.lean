/- The law's samePlain, of plain data that is the same. -/
import Derived.Test.YtipehdbpbmnonaaGreatZVMake
import Derived.BigQuiet
import Derived.Laws.Externs
import Derived.Test.YtipehdbpbmnonaaGreatZRkSet3
set_option linter.unusedVariables false
set_option linter.unusedSimpArgs false
namespace Pantry
open Go Go.RowKit
theorem wpQuiet_load_at {P : Program} {ops : Array Oper} {C : World → Prop} {rest : List Oper} {o : Oper} {a : Act} {Q : Act → Prop} (hw : Region.wanted o (yielded ops a.tmps) = true) (ty : TypeId) (x : Operand) (ho : o.op = .load ty x)
    (p : Addr) (hx : a.eval x = .pointer (some p)) (cs : List Value) (d : TypeDesc) (hc : ∀ w, C w → ∀ j u, cs[j]? = some u → w.cell? (p.add j) = some u)
    (hu : P.underlying ty = some d) (hd : (match d with | .struct _ | .array _ _ => true | _ => false) = true) (hi : (P.info? ty).map (·.size) = some cs.length)
    (h : wpQuiet P ops C Q rest (a.put o.dst (.agg cs.toArray))) : wpQuiet P ops C Q (o :: rest) a := by
  show if _ then _ else _
  rw [if_pos hw]
  refine ⟨_, fun w hC => ?_, h⟩
  unfold Oper.quietAt execOp
  simp only [ho, hx, Instr.loadAt, Instr.sureAddr, Sem.run_bind, Sem.run_pure, Result.andThen_ok, run_loadVar_at w p ty cs d (hc w hC) hu hd hi]
  exact ⟨rfl, rfl⟩
end Pantry
namespace Go.Proofs.YtipehdbpbmnonaaGreat
open Go.RowKit Pantry

theorem tobits12 (b : Nat) (w : World) : (callFunc 109 #[.float .f64 b]).run Tryz.prog w = .ok (.value (.int .u64 b)) w :=
  run_callFunc_extern (e := Extern.MathFloatBits.float64bits) Tryz.func109 (by kernel_rfl) (by kernel_rfl) (by kernel_rfl) (by kernel_rfl) _ w
theorem mb_cells12 {w : World} {a : Option Addr} {l : List Mb} (h : Rd w a (rkCells l)) {j : Nat} {p : Mb} (hj : l[j]? = some p) : ∃ y, a = some y ∧ w.cell? (y.add (j * 2)) = some (.string ⟨p.1.toArray⟩) ∧ w.cell? { block := (y.add (j * 2)).block, off := (y.add (j * 2)).off + 1 } = some (.float .f64 p.2) := by
  obtain ⟨y, hy, hcl⟩ := rk_cells h hj
  have e0 := hcl 0 _ rfl
  have e1 := hcl 1 _ rfl
  rw [← Addr.add_add] at e0 e1
  exact ⟨y, hy, e0, e1⟩
theorem sameF_self (w : World) (x : Nat) : Calls Tryz.prog 49 #[.float .f64 x, .float .f64 x] w fun e w' => e = .returned (.bool true) ∧ w = w' := by
  have hx := f_self (x := x)
  have ht := tobits12
  obtain ⟨a, ha⟩ : ∃ a, decide (fnan x) = a := ⟨_, rfl⟩
  rw [ha] at hx
  clear ha
  cases a
  all_goals
    go_enter Tryz.func49, Tryz.ntmps49
    go_wp2_with fail
    go_ret
    exact ⟨by simp, rfl⟩
set_option maxHeartbeats 1000000 in
theorem sameT_self (a b : Option Addr) (n c d : Nat) (l : List (List UInt8)) (w : World) (hl : l.length = n) (hn : n ≤ 9223372036854775807) (ha : Rd w a (l.map txC)) (hb : Rd w b (l.map txC)) :
    Calls Tryz.prog 14 #[.slice a n c, .slice b n d] w (QRet w (.bool true)) := by
  have HL := Lib.hid hl
  clear hl
  go_enter Tryz.func14, Tryz.ntmps14
  go_wp2
  go_loopw [5] (fun i wr => ∃ k' : Nat, k' ≤ n ∧ i = .int .i64 k' ∧ ∃ q, wr = w.drewN q) (fun i _ => n - (intOf i).toNat)
  case atStart => exact ⟨0, by omega, rfl, 0, rfl⟩
  case round =>
    obtain ⟨j, hj, rfl, q, rfl⟩ := hrel
    by_cases hlt : j < n
    · have hjl : j < l.length := by rw [HL.out]; exact hlt
      obtain ⟨x, rfl, hx⟩ := ha.cell j (by simpa using hjl)
      obtain ⟨y, rfl, hy⟩ := hb.cell j (by simpa using hjl)
      rw [List.getElem_map] at hx hy
      obtain ⟨s, hs⟩ : ∃ s, l[j] = s := ⟨_, rfl⟩
      rw [hs] at hx hy
      unfold txC at hx hy
      clear hs hjl
      go_wp2
      go_quiet (fail)
      go_wp2
      go_roundw
      case rel => exact ⟨j + 1, by omega, by go_num, _, rfl⟩
      case measure => simp [intOf]; omega
    · go_wp2
      go_ret
      exact QRet.draws _ rfl
set_option maxHeartbeats 8000000 in
theorem sameP_self (w : World) (p : PD) (a1 a2 a3 b1 b2 b3 : Option Addr) (c1 c2 c3 d1 d2 d3 : Nat) (hA : PlainAt w p a1 a2 a3) (hB : PlainAt w p b1 b2 b3) (hb : PlainBig p) :
    Calls Tryz.prog 12 #[.agg (Tryz.plainCells p a1 a2 a3 c1 c2 c3), .agg (Tryz.plainCells p b1 b2 b3 d1 d2 d3)] w (QPost w (.bool true)) := by
  obtain ⟨W0, hW0⟩ : ∃ W, (w.alloc (.cells (Tryz.plainCells p a1 a2 a3 c1 c2 c3) 31)).alloc (.cells (Tryz.plainCells p b1 b2 b3 d1 d2 d3) 31) = W := ⟨_, rfl⟩
  have hB0 : Below w.heap.size w W0 := by rw [← hW0]; exact ((Below.refl _ _).alloc (Nat.le_refl _) _).alloc (by simp) _
  have h0 : W0.heap[w.heap.size]? = some (.cells (Tryz.plainCells p a1 a2 a3 c1 c2 c3) 31) := by rw [← hW0, heap_alloc_old (by simp)]; exact heap_alloc_new w _
  have h1 : W0.heap[w.heap.size + 1]? = some (.cells (Tryz.plainCells p b1 b2 b3 d1 d2 d3) 31) := by
    have := heap_alloc_new (w.alloc (.cells (Tryz.plainCells p a1 a2 a3 c1 c2 c3) 31)) (.cells (Tryz.plainCells p b1 b2 b3 d1 d2 d3) 31)
    rw [World.size_alloc] at this
    rw [← hW0]; exact this
  have hs0 : W0.heap.size = w.heap.size + 2 := by rw [← hW0]; simp
  have e0 : W0.cell? ⟨w.heap.size, 0, none⟩ = some (.int .i64 p.kind) := cell_of_row _ _ 0 _ _ _ h0
  have e1 : W0.cell? ⟨w.heap.size, 1, none⟩ = some (.string ⟨p.text.toArray⟩) := cell_of_row _ _ 1 _ _ _ h0
  have e2 : W0.cell? ⟨w.heap.size, 2, none⟩ = some (.slice a1 p.items.length c1) := cell_of_row _ _ 2 _ _ _ h0
  have e3 : W0.cell? ⟨w.heap.size, 3, none⟩ = some (.slice a2 p.pairs.length c2) := cell_of_row _ _ 3 _ _ _ h0
  have e4 : W0.cell? ⟨w.heap.size, 4, none⟩ = some (.slice a3 p.ranks.length c3) := cell_of_row _ _ 4 _ _ _ h0
  have f0 : W0.cell? ⟨w.heap.size + 1, 0, none⟩ = some (.int .i64 p.kind) := cell_of_row _ _ 0 _ _ _ h1
  have f1 : W0.cell? ⟨w.heap.size + 1, 1, none⟩ = some (.string ⟨p.text.toArray⟩) := cell_of_row _ _ 1 _ _ _ h1
  have f2 : W0.cell? ⟨w.heap.size + 1, 2, none⟩ = some (.slice b1 p.items.length d1) := cell_of_row _ _ 2 _ _ _ h1
  have f3 : W0.cell? ⟨w.heap.size + 1, 3, none⟩ = some (.slice b2 p.pairs.length d2) := cell_of_row _ _ 3 _ _ _ h1
  have f4 : W0.cell? ⟨w.heap.size + 1, 4, none⟩ = some (.slice b3 p.ranks.length d3) := cell_of_row _ _ 4 _ _ _ h1
  obtain ⟨n1, hn1⟩ : ∃ n, p.items.length = n := ⟨_, rfl⟩
  obtain ⟨n2, hn2⟩ : ∃ n, p.pairs.length = n := ⟨_, rfl⟩
  obtain ⟨n3, hn3⟩ : ∃ n, p.ranks.length = n := ⟨_, rfl⟩
  have hbi := hb.items
  have hbp := hb.pairs
  have hbr := hb.ranks
  unfold Tryz.plainCells at hW0 ⊢
  rw [hn1] at e2 f2 hbi
  rw [hn2] at e3 f3 hbp
  rw [hn3] at e4 f4 hbr
  rw [hn1, hn2, hn3] at hW0 ⊢
  have HT := Lib.hid (sameT_self a1 b1 n1 c1 d1 p.items W0 hn1 (by omega) (hA.items.below hB0) (hB.items.below hB0))
  have HA := Lib.hid (hA.below hB0)
  have HB := Lib.hid (hB.below hB0)
  have HB0 := Lib.hid hB0
  have HN2 := Lib.hid hn2
  have HN3 := Lib.hid hn3
  clear hA hB hb hB0 h0 h1 hn1 hn2 hn3
  go_enter Tryz.func12, Tryz.ntmps12
  go_wp2_with (go_at_call 14; refine HT.out.mono ?_; rintro e w2 ⟨rfl, q, rfl⟩; clear HT)
  go_loopw [5] (fun i wr => ∃ k' : Nat, k' ≤ n2 ∧ i = .int .i64 k' ∧ ∃ q, wr = W0.drewN q) (fun i _ => n2 - (intOf i).toNat)
  case atStart => exact ⟨0, by omega, rfl, _, rfl⟩
  case round =>
    obtain ⟨j, hj, rfl, q, rfl⟩ := hrel
    by_cases hlt : j < n2
    · obtain ⟨x, hx⟩ : ∃ x, p.pairs[j]? = some x := ⟨_, List.getElem?_eq_getElem (by rw [HN2.out]; exact hlt)⟩
      obtain ⟨y, rfl, hy⟩ := fd_cells HA.out.pairs hx
      obtain ⟨z, rfl, hz⟩ := fd_cells HB.out.pairs hx
      have HY : Hid (∀ w, (∃ n, w = (W0.drewN q).drewN n) → ∀ i u, ([.string ⟨x.1.toArray⟩, .string ⟨x.2.toArray⟩] : List Value)[i]? = some u → w.cell? ((y.add (j * 2)).add i) = some u) := Lib.hid (by rintro w ⟨n, rfl⟩ i u hu; exact hy i u hu)
      have HZ : Hid (∀ w, (∃ n, w = (W0.drewN q).drewN n) → ∀ i u, ([.string ⟨x.1.toArray⟩, .string ⟨x.2.toArray⟩] : List Value)[i]? = some u → w.cell? ((z.add (j * 2)).add i) = some u) := Lib.hid (by rintro w ⟨n, rfl⟩ i u hu; exact hz i u hu)
      have HSZ := Lib.hid (show (Tryz.prog.info? 43).map (·.size) = some 2 by kernel_rfl)
      clear hx hy hz
      go_wp2_with fail
      refine wp_region_quiet_lit (by kernel_rfl) (by kernel_rfl) ?_
      repeat (first
        | (refine wpQuiet_load_at (by rfl) 43 _ rfl (y.add (j * 2)) rfl _ _ HY.out Tryz.underlying43 rfl HSZ.out ?_; clear HY)
        | (refine wpQuiet_load_at (by rfl) 43 _ rfl (z.add (j * 2)) rfl _ _ HZ.out Tryz.underlying43 rfl HSZ.out ?_; clear HZ)
        | quiet_step (fail))
      refine wpQuiet_nil ?_
      intro _ hw'
      obtain ⟨nq, hw2⟩ := hw'
      subst hw2
      go_wp2_with fail
      go_roundw
      case rel => exact ⟨j + 1, by omega, by go_num, _, rfl⟩
      case measure => simp [intOf]; omega
    · obtain rfl : j = n2 := by omega
      clear hlt hj
      go_wp2_with fail
      go_loopw [6] (fun i wr => ∃ k' : Nat, k' ≤ n3 ∧ i = .int .i64 k' ∧ ∃ q, wr = W0.drewN q) (fun i _ => n3 - (intOf i).toNat)
      case atStart => exact ⟨0, by omega, rfl, _, rfl⟩
      case round =>
        obtain ⟨j, hj, rfl, q, rfl⟩ := hrel
        by_cases hlt : j < n3
        · obtain ⟨x, hx⟩ : ∃ x, p.ranks[j]? = some x := ⟨_, List.getElem?_eq_getElem (by rw [HN3.out]; exact hlt)⟩
          obtain ⟨y, rfl, y0, y1⟩ := mb_cells12 HA.out.ranks hx
          obtain ⟨z, rfl, z0, z1⟩ := mb_cells12 HB.out.ranks hx
          have HFL := fun W => Lib.hid (sameF_self W x.2)
          clear hx
          go_wp2_with fail
          go_quiet (first | (go_at_call 49; exact (HFL _).out.mono fun e w' h => ⟨h.1, _, h.2.symm⟩))
          go_wp2_with fail
          go_roundw
          case rel => exact ⟨j + 1, by omega, by go_num, _, rfl⟩
          case measure => simp [intOf]; omega
        · go_wp2_with fail
          go_ret
          exact ⟨rfl, belowN HB0.out⟩
end Go.Proofs.YtipehdbpbmnonaaGreat
