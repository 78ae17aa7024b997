
/- The order of two members; the search for a place. -/
import Derived.Test.YteiklgbjjmlmaaaGreatZFOrd
import Derived.Test.YteiklgbjjmlmaaaGreatShelfR
import Derived.Test.YteiklgbjjmlmaaaGreatZInsR
import Derived.StillTailTactics
import Derived.Deep.RegionHeld
set_option linter.unusedVariables false
set_option linter.unusedSimpArgs false
namespace Pantry
open Go
/-- A whole struct is loaded, wherever its cells lie. -/
theorem run_loadVar_at {P : Program} (w : World) (p : Addr) (ty : TypeId) (cs : List Value) (d : TypeDesc) (hc : ∀ j u, cs[j]? = some u → w.cell? (p.add j) = some u)
    (hu : P.underlying ty = some d) (hd : (match d with | .struct _ | .array _ _ => true | _ => false) = true) (hi : (P.info? ty).map (·.size) = some cs.length) :
    (loadVar ty p).run P w = .ok (.agg cs.toArray) w := by
  have hl := run_loadCells_list (P := P) w p cs hc
  cases hq : P.info? ty with
  | none => simp [hq] at hi
  | some i =>
    have hs : i.size = cs.length := by simpa [hq] using hi
    have hagg : (isAgg ty).run P w = .ok true w := by
      unfold isAgg
      rw [Sem.run_bind, run_underlying hu w]
      cases d <;> simp_all
    simp [loadVar, Sem.run_bind, hagg, Go.sizeOf, Go.typeInfo, hq, hs, hl]
theorem wpl_load_at {P : Program} {ops : Array Oper} {rest : List Oper} {o : Oper} {a : Act} {w : World} {Q : Exit → Act → World → Prop} (hgd : o.guard = none) (ty : TypeId) (x : Operand) (ho : o.op = .load ty x)
    (p : Addr) (hx : a.eval x = .pointer (some p)) (cs : List Value) (d : TypeDesc) (hc : ∀ j u, cs[j]? = some u → w.cell? (p.add j) = some u)
    (hu : P.underlying ty = some d) (hd : (match d with | .struct _ | .array _ _ => true | _ => false) = true) (hi : (P.info? ty).map (·.size) = some cs.length)
    (h : wpList P ops Q rest (a.put o.dst (.agg cs.toArray)) w) : wpList P ops Q (o :: rest) a w := by
  refine wpList_plain hgd fun K hK => ?_
  unfold Oper.wp execOp
  simp only [ho, hx, Instr.loadAt, Instr.sureAddr, Sem.run_bind, Sem.run_pure, Result.andThen_ok, run_loadVar_at w p ty cs d hc hu hd hi]
  exact hK _ _ h
theorem wpStill_load_at {P : Program} {ops : Array Oper} {rest : List Oper} {o : Oper} {a : Act} {w : World} {Q : Act → Prop} (hw : Region.wanted o (yielded ops a.tmps) = true) (ty : TypeId) (x : Operand) (ho : o.op = .load ty x)
    (p : Addr) (hx : a.eval x = .pointer (some p)) (cs : List Value) (d : TypeDesc) (hc : ∀ j u, cs[j]? = some u → w.cell? (p.add j) = some u)
    (hu : P.underlying ty = some d) (hd : (match d with | .struct _ | .array _ _ => true | _ => false) = true) (hi : (P.info? ty).map (·.size) = some cs.length)
    (h : wpStill P ops w Q rest (a.put o.dst (.agg cs.toArray))) : wpStill P ops w Q (o :: rest) a := by
  show if _ then _ else _
  rw [if_pos hw]
  unfold Oper.still execOp
  simp only [ho, hx, Instr.loadAt, Instr.sureAddr, Sem.run_bind, Sem.run_pure, Result.andThen_ok, run_loadVar_at w p ty cs d hc hu hd hi]
  exact ⟨rfl, h⟩
def mbC (p : Mb) : List Value := [.string ⟨p.1.toArray⟩, .float .f64 p.2]
def rkCells (l : List Mb) : List Value := l.flatMap mbC
theorem rkCells_length (l : List Mb) : (rkCells l).length = l.length * 2 := by
  induction l with
  | nil => rfl
  | cons p l ih => simp only [rkCells, List.flatMap_cons, List.length_append, List.length_cons] at *; rw [ih]; simp [mbC]; omega
theorem rkCells_one (l : List Mb) : ∀ u ∈ rkCells l, u.oneCell' = true := by
  intro u hu
  obtain ⟨p, -, hp⟩ := List.mem_flatMap.1 hu
  simp [mbC] at hp
  rcases hp with rfl | rfl <;> rfl
theorem rkCells_append (a b : List Mb) : rkCells (a ++ b) = rkCells a ++ rkCells b := List.flatMap_append
theorem rkCells_take (l : List Mb) (i : Nat) : (rkCells l).take (i * 2) = rkCells (l.take i) := by
  induction l generalizing i with
  | nil => simp [rkCells]
  | cons p l ih =>
    cases i with
    | zero => simp [rkCells]
    | succ i =>
      have := ih i
      simp only [rkCells, List.flatMap_cons, List.take_succ_cons, mbC] at *
      rw [show (i + 1) * 2 = i * 2 + 1 + 1 by omega]
      simp [this]
theorem rkCells_drop (l : List Mb) (i : Nat) : (rkCells l).drop (i * 2) = rkCells (l.drop i) := by
  induction l generalizing i with
  | nil => simp [rkCells]
  | cons p l ih =>
    cases i with
    | zero => simp [rkCells]
    | succ i =>
      have := ih i
      simp only [rkCells, List.flatMap_cons, List.drop_succ_cons, mbC] at *
      rw [show (i + 1) * 2 = i * 2 + 1 + 1 by omega]
      simp [this]
theorem rkCells_get {l : List Mb} {k : Nat} {p : Mb} (h : l[k]? = some p) (j : Nat) (hj : j < 2) : (rkCells l)[k * 2 + j]? = (mbC p)[j]? := by
  have h1 : (rkCells l).drop (k * 2) = rkCells (l.drop k) := rkCells_drop l k
  rw [← List.getElem?_drop, h1]
  obtain ⟨hk, rfl⟩ := List.getElem?_eq_some_iff.1 h
  rw [List.drop_eq_getElem_cons hk]
  simp only [rkCells, List.flatMap_cons]
  rw [List.getElem?_append_left (by simp [mbC]; omega)]
/-- The cells of a member of a row. -/
theorem rk_cells {w : World} {a : Option Addr} {l : List Mb} (h : Rd w a (rkCells l)) {k : Nat} {p : Mb} (hk : l[k]? = some p) : ∃ y, a = some y ∧ ∀ j u, (mbC p)[j]? = some u → w.cell? (y.add (k * 2 + j)) = some u := by
  have h0 := rkCells_get hk 0 (by omega)
  obtain ⟨-, y, hy, -⟩ := h (k * 2 + 0) (.string ⟨p.1.toArray⟩) (by rw [h0]; rfl)
  refine ⟨y, hy, fun j u hj => ?_⟩
  have hj2 : j < 2 := (List.getElem?_eq_some_iff.1 hj).1
  obtain ⟨-, y', hy', hc⟩ := h (k * 2 + j) u (by rw [rkCells_get hk j hj2]; exact hj)
  rw [hy] at hy'; cases hy'
  exact hc
theorem row_cells {w : World} {g : Nat} {cs : List Value} {t : TypeId} (h : w.heap[g]? = some (.cells cs.toArray t (0, 0))) : ∀ j u, cs[j]? = some u → w.cell? ((⟨g, 0, none⟩ : Addr).add j) = some u := fun j u hj => by
  have e : (⟨g, 0, none⟩ : Addr).add j = ⟨g, j, none⟩ := by cases j <;> simp [Addr.add]
  rw [e, cell_of_row w g j _ _ _ h]
  simpa using hj
end Pantry
namespace Go.Proofs.YteiklgbjjmlmaaaGreat
open Go.RowKit Pantry

theorem belowN {B : Nat} {w w' : World} {q : Nat} (h : Below B w w') : Below B w (w'.drewN q) := ⟨h.os, h.tape, h.output, h.size, h.block⟩
def QPost (w : World) (v : Value) (e : Ending) (w' : World) : Prop := e = .returned v ∧ Below w.heap.size w w'
set_option maxHeartbeats 1000000 in
theorem order_any (w : World) (p q : Mb) (hp : ¬ fnan p.2) (hq : ¬ fnan q.2) : Calls Tryz.prog 126 #[.agg #[.string ⟨p.1.toArray⟩, .float .f64 p.2], .agg #[.string ⟨q.1.toArray⟩, .float .f64 q.2]] w (QPost w (.int .i64 (cmpR p q))) := by
  obtain ⟨s, x⟩ := p
  obtain ⟨t, y⟩ := q
  simp only at hp hq ⊢
  have h1 := f_lt hp hq
  have h2 := f_gt hp hq
  have HB := Lib.hid (((Below.refl _ w).alloc (Nat.le_refl _) (.cells #[.string ⟨s.toArray⟩, .float .f64 x] 54)).alloc (by simp) (.cells #[.string ⟨t.toArray⟩, .float .f64 y] 54))
  by_cases hlt : fkey x < fkey y
  · have HC := Lib.hid (show cmpR (s, x) (t, y) = -1 by unfold cmpR; rw [if_pos hlt])
    rw [decide_eq_true hlt] at h1
    clear h2 hlt
    go_enter Tryz.func126, Tryz.ntmps126
    go_wp2_with fail
    go_ret
    exact ⟨by rw [HC.out]; rfl, HB.out⟩
  · rw [decide_eq_false hlt] at h1
    by_cases hgt : fkey y < fkey x
    · have HC := Lib.hid (show cmpR (s, x) (t, y) = 1 by unfold cmpR; rw [if_neg hlt, if_pos hgt])
      rw [decide_eq_true hgt] at h2
      clear hlt hgt
      go_enter Tryz.func126, Tryz.ntmps126
      go_wp2_with fail
      go_ret
      exact ⟨by rw [HC.out]; rfl, HB.out⟩
    · have HC := Lib.hid (show cmpR (s, x) (t, y) = cmpB s t by unfold cmpR; rw [if_neg hlt, if_neg hgt])
      rw [decide_eq_false hgt] at h2
      clear hlt hgt
      go_enter Tryz.func126, Tryz.ntmps126
      go_wp2_with (go_at_call 137; refine (Tryz.strings_Compare _ _ _).mono ?_; rintro e w' ⟨rfl, rfl⟩)
      go_ret
      exact ⟨by rw [HC.out]; rfl, HB.out⟩
/-- What the search tells. -/
def SearchPost (l : List Mb) (x : Mb) (w : World) (e : Ending) (w' : World) : Prop := ∃ (i : Nat) (ok : Bool), e = .returned (.tuple #[.int .i64 i, .bool ok]) ∧ AtPlace l x i ∧ Below w.heap.size w w'
set_option maxHeartbeats 4000000 in
set_option maxRecDepth 100000 in
theorem bsearch_any (w : World) (a : Option Addr) (n c : Nat) (l : List Mb) (x : Mb) (hr : Rd w a (rkCells l)) (hn : l.length = n) (hf : n ≤ 268435456) (hl : ∀ p ∈ l, ¬ fnan p.2) (hx : ¬ fnan x.2) (hs : Rises l) :
    Calls Tryz.prog 125 #[.slice a n c, .agg #[.string ⟨x.1.toArray⟩, .float .f64 x.2], .func (.func 126) #[] #[]] w (SearchPost l x w) := by
  have HN := Lib.hid hn
  have HL := Lib.hid hl
  have HS := Lib.hid hs
  have HR := Lib.hid hr
  have HX := Lib.hid hx
  have HSZ := Lib.hid (show (Tryz.prog.info? 54).map (·.size) = some 2 by kernel_rfl)
  have hmix : Tryz.prog.follows .mixedOrders = true := by kernel_rfl
  clear hn hl hs hr hx
  go_enter Tryz.func125, Tryz.ntmps125
  go_wp2_with fail
  obtain ⟨w1, hw1⟩ : ∃ w1, w.alloc (.cells #[.string ⟨x.1.toArray⟩, .float .f64 x.2] 54) = w1 := ⟨_, rfl⟩
  rw [hw1]
  have HB1 := Lib.hid (show Below w.heap.size w w1 by rw [← hw1]; exact (Below.refl _ w).alloc (Nat.le_refl _) _)
  have HBX := Lib.hid (show w1.heap[w.heap.size]? = some (.cells #[.string ⟨x.1.toArray⟩, .float .f64 x.2] 54) by rw [← hw1]; exact heap_alloc_new w _)
  clear hw1
  go_loopw [9, 10] (fun i j wr => ∃ p q : Nat, p ≤ q ∧ q ≤ n ∧ i = .int .i64 p ∧ j = .int .i64 q ∧ Hid (Below w1.heap.size w1 wr) ∧ Hid (∀ k m, k < p → l[k]? = some m → cmpR m x < 0) ∧ Hid (∀ k m, q ≤ k → l[k]? = some m → 0 ≤ cmpR m x)) (fun i j _ => (intOf j).toNat - (intOf i).toNat)
  case atStart => exact ⟨0, n, by omega, by omega, rfl, rfl, Lib.hid (Below.refl _ _), Lib.hid (fun k m hk => absurd hk (Nat.not_lt_zero k)), Lib.hid (fun k m hk hm => by have := (List.getElem?_eq_some_iff.1 hm).1; have := HN.out; omega)⟩
  case round =>
    obtain ⟨p, q, hpq, hqn, rfl, rfl, HB, HLO, HHI⟩ := hrel
    have HRW := Lib.hid ((HR.out.below HB1.out).below (HB.out.mono (Nat.le_refl _)))
    have HBXW := Lib.hid (show wr.heap[w.heap.size]? = _ from (HB.out.block _ (block_lt HBX.out)).trans HBX.out)
    by_cases hlt : p < q
    · obtain ⟨h, hh⟩ : ∃ h, (p + q) / 2 = h := ⟨_, rfl⟩
      have hmid : ((p : Int) + (q : Int)) / 2 = (h : Int) := by omega
      have hph : p ≤ h := by omega
      have hhq : h < q := by omega
      have hhn : h < n := by omega
      clear hh
      obtain ⟨m, hm⟩ : ∃ m, l[h]? = some m := ⟨_, List.getElem?_eq_getElem (by have := HN.out; omega)⟩
      obtain ⟨y, hy, hcl⟩ := rk_cells HRW.out hm
      have HM := Lib.hid hm
      have HCL := Lib.hid hcl
      have HO := Lib.hid (order_any wr.drew m x (HL.out m (List.mem_of_getElem? hm)) HX.out)
      subst hy
      clear hm hcl
      go_wp2_with fail
      refine wp_region_still_tail 6 hmix (by kernel_rfl) ?_
      simp only [List.take_succ_cons, List.take_zero, List.drop_succ_cons, List.drop_zero]
      iterate 4 (refine wpStill_step (fun K hK => ?_); have HK := Lib.hid hK; clear hK; go_simp; refine HK.out _ ?_; clear HK K)
      refine wpStill_load_at (by rfl) _ _ rfl _ rfl (mbC m) _ (fun j u hj => by rw [Addr.add_add]; exact HCL.out j u hj) Tryz.underlying54 rfl HSZ.out ?_
      refine wpStill_load_at (by rfl) _ _ rfl _ rfl (mbC x) _ (row_cells HBXW.out) Tryz.underlying54 rfl HSZ.out ?_
      refine wpStill_nil ?_
      by_cases hc : cmpR m x < 0
      · have HC := Lib.hid hc
        go_wp2_with (go_at_call 126; refine HO.out.mono ?_; rintro e w2 ⟨rfl, hb2⟩
                     have HB2 := Lib.hid ((HB.out.drew).trans (hb2.mono HB.out.size))
                     clear hb2 HO)
        go_roundw
        case rel => exact ⟨h + 1, q, by omega, hqn, by go_num, rfl, HB2, Lib.hid (fun k m' hk hm' => by
          rcases Nat.lt_or_eq_of_le (Nat.le_of_lt_succ hk) with hlt2 | rfl
          · exact cmpR_trans (HS.out.get hlt2 hm' HM.out) HC.out
          · rw [HM.out] at hm'; cases hm'; exact HC.out), HHI⟩
        case measure => simp [intOf]; omega
      · have HC := Lib.hid hc
        go_wp2_with (go_at_call 126; refine HO.out.mono ?_; rintro e w2 ⟨rfl, hb2⟩
                     have HB2 := Lib.hid ((HB.out.drew).trans (hb2.mono HB.out.size))
                     clear hb2 HO)
        go_roundw
        case rel => exact ⟨p, h, hph, by omega, rfl, by go_num, HB2, HLO, Lib.hid (fun k m' hk hm' => by
          have hC := HC.out
          rcases Nat.lt_or_eq_of_le hk with hlt2 | rfl
          · refine Int.not_lt.1 fun h2 => ?_
            have := cmpR_trans (HS.out.get hlt2 HM.out hm') h2
            omega
          · rw [HM.out] at hm'; cases hm'; omega)⟩
        case measure => simp [intOf]; omega
    · obtain rfl : p = q := by omega
      have HAT := Lib.hid (show AtPlace l x p from ⟨by rw [HN.out]; exact hqn, HLO.out, fun k m hk hm => Int.not_lt.2 (HHI.out k m hk hm)⟩)
      have HBW := Lib.hid (HB1.out.trans (HB.out.mono HB1.out.size))
      clear HLO HHI hlt hpq
      by_cases hpn : p < n
      · have hpi : decide (p < n) = true := by simpa using hpn
        have hpi' : decide ((p : Int) < (n : Int)) = true := by simpa using hpn
        obtain ⟨m, hm⟩ : ∃ m, l[p]? = some m := ⟨_, List.getElem?_eq_getElem (by have := HN.out; omega)⟩
        obtain ⟨y, hy, hcl⟩ := rk_cells HRW.out hm
        subst hy
        have hS : ∀ W : World, (∀ k, k < wr.heap.size → W.heap[k]? = wr.heap[k]?) → W.cell? (y.add (p * 2)) = some (.string ⟨m.1.toArray⟩) ∧ W.cell? { block := (y.add (p * 2)).block, off := (y.add (p * 2)).off + 1 } = some (.float .f64 m.2) ∧ W.cell? ⟨w.heap.size, 0, none⟩ = some (.string ⟨x.1.toArray⟩) ∧ W.cell? ⟨w.heap.size, 1, none⟩ = some (.float .f64 x.2) := by
          intro W hW
          have keep : ∀ a v, wr.cell? a = some v → W.cell? a = some v := fun a v ha => (World.cell?_of_block (w := wr) (hW a.block (World.block_lt_of_cell? wr _ ha))).trans ha
          have h0 := hcl 0 _ rfl
          have h1 := hcl 1 _ rfl
          rw [← Addr.add_add] at h0 h1
          exact ⟨keep _ _ h0, keep _ _ h1, keep _ _ (row_cells HBXW.out 0 _ rfl), keep _ _ (row_cells HBXW.out 1 _ rfl)⟩
        have HSS := Lib.hid hS
        have HS0 := Lib.hid (hS wr.drew fun _ _ => rfl)
        have HO := Lib.hid (order_any wr.drew m x (HL.out m (List.mem_of_getElem? hm)) HX.out)
        clear hm hcl hS
        go_wp2_with fail
        go_region_held (fun w' => w'.cell? (y.add (p * 2)) = some (.string ⟨m.1.toArray⟩) ∧ w'.cell? { block := (y.add (p * 2)).block, off := (y.add (p * 2)).off + 1 } = some (.float .f64 m.2) ∧ w'.cell? ⟨w.heap.size, 0, none⟩ = some (.string ⟨x.1.toArray⟩) ∧ w'.cell? ⟨w.heap.size, 1, none⟩ = some (.float .f64 x.2))
          (first | exact HS0.out | exact HS2.out)
          (first | (go_at_call 126; refine HO.out.mono ?_; rintro e w2 ⟨rfl, hb2⟩
                    have HB2 := Lib.hid ((HBW.out.drew).trans (hb2.mono HBW.out.size))
                    have HS2 := Lib.hid (HSS.out w2 fun k hk => hb2.block k hk)
                    clear hb2 HO))
        all_goals
          go_wp2_with fail
          go_ret2
          exact ⟨p, _, rfl, HAT.out, HB2.out⟩
      · have hpi : decide (p < n) = false := by simpa using hpn
        have hpi' : decide ((p : Int) < (n : Int)) = false := by simpa using hpn
        go_wp2_with fail
        go_quiet (fail)
        go_wp2_with fail
        go_ret2
        exact ⟨p, false, rfl, HAT.out, belowN HBW.out⟩
end Go.Proofs.YteiklgbjjmlmaaaGreat
