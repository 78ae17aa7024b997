/- The answer's Within. -/
import Derived.Test.YtbjfigegiffefaaZRfA
import Derived.Laws.MakeOwn
set_option linter.unusedVariables false
set_option linter.unusedSimpArgs false
namespace Pantry
open Go Go.RowKit
theorem cmp_cases {x a : Nat} (o : Bool) (hx : ¬ fnan x) (ha : ¬ fnan a) :
    ((FloatKind.f64.format.order x a == some .lt) = true ∧ withinF x ninfB false a o = true) ∨ ((FloatKind.f64.format.order x a == some .lt) = false ∧ (FloatKind.f64.format.order x a == some .eq) = true ∧ withinF x ninfB false a o = !o) ∨
    ((FloatKind.f64.format.order x a == some .lt) = false ∧ (FloatKind.f64.format.order x a == some .eq) = false ∧ withinF x ninfB false a o = false) := by
  rw [f_lt hx ha, f_eq hx ha]
  have hu := within_upto (oa := o) hx ha
  rcases Int.lt_trichotomy (fkey x) (fkey a) with h | h | h
  · exact .inl ⟨decide_eq_true h, hu.2 (.inl h)⟩
  · refine .inr (.inl ⟨decide_eq_false (by omega), decide_eq_true h, ?_⟩)
    cases o
    · exact hu.2 (.inr ⟨h, rfl⟩)
    · cases hq : withinF x ninfB false a true with
      | false => rfl
      | true => rcases hu.1 hq with h1 | ⟨-, h1⟩
                · omega
                · cases h1
  · refine .inr (.inr ⟨decide_eq_false (by omega), decide_eq_false (by omega), ?_⟩)
    cases hq : withinF x ninfB false a o with
    | false => rfl
    | true => rcases hu.1 hq with h1 | ⟨h1, -⟩ <;> omega
theorem countP_take {l : List Mb} {P : Mb → Bool} {k : Nat} {p : Mb} (h : l[k]? = some p) : (l.take (k + 1)).countP P = (l.take k).countP P + (if P p then 1 else 0) := by
  obtain ⟨hk, rfl⟩ := List.getElem?_eq_some_iff.1 h
  rw [List.take_succ_eq_append_getElem hk, List.countP_append, List.countP_singleton]
end Pantry
namespace Go.Proofs.Ytbjfigegiffefaa
open Go.RowKit Pantry

set_option maxHeartbeats 16000000 in
set_option maxRecDepth 100000 in
theorem rWithin_any (w : World) (m : Nat) (v : Value) (M : List Mb) (a : Nat) (oa : Bool) (b : Nat) (ob : Bool) (h : Rf w m v M) (hnum : ∀ p ∈ M, ¬ fnan p.2) :
    Calls Try.prog 49 #[.pointer (some ⟨m, 0, none⟩), .agg #[.float .f64 a, .bool oa], .agg #[.float .f64 b, .bool ob]] w fun e w' => e = .returned (.tuple #[.int .i64 (withinL M a oa b ob).1, .int .i64 (withinL M a oa b ob).2]) ∧ Below w.heap.size w w' := by
  obtain ⟨w1, hw1⟩ : ∃ w1, (w.alloc (.cells #[.float .f64 a, .bool oa] 58)).alloc (.cells #[.float .f64 b, .bool ob] 58) = w1 := ⟨_, rfl⟩
  have hB1 : Below w.heap.size w w1 := by rw [← hw1]; exact ((Below.refl _ w).alloc (Nat.le_refl _) _).alloc (by simp) _
  have ha1 : w1.heap[w.heap.size]? = some (.cells #[.float .f64 a, .bool oa] 58) := by rw [← hw1, heap_alloc_old (by simp)]; exact heap_alloc_new w _
  have hb1 : w1.heap[w.heap.size + 1]? = some (.cells #[.float .f64 b, .bool ob] 58) := by
    rw [← hw1]
    have := heap_alloc_new (w.alloc (.cells #[.float .f64 a, .bool oa] 58)) (.cells #[.float .f64 b, .bool ob] 58)
    simpa using this
  obtain ⟨⟨a0, a1⟩, -⟩ := two ha1
  obtain ⟨⟨b0, b1⟩, -⟩ := two hb1
  have hfa := f_self (x := a)
  have hfb := f_self (x := b)
  have HB1 := Lib.hid hB1
  have H1 := h.below hB1
  obtain ⟨va, vc, rfl, hrd, h0, -⟩ := H1.open
  have hf := h.few
  obtain ⟨n, hn⟩ : ∃ n, M.length = n := ⟨_, rfl⟩
  rw [hn] at h0 hf
  by_cases ha : fnan a
  · have HV : Hid (withinL M a oa b ob = (0, 0)) := Lib.hid (if_pos (.inl ha))
    rw [decide_eq_true ha] at hfa
    clear h hB1 ha1 hb1 H1 hrd hn ha hnum
    go_enter Try.func49, Try.ntmps49
    go_wp2_with fail
    go_ret2
    exact ⟨by rw [HV.out]; rfl, HB1.out⟩
  · rw [decide_eq_false ha] at hfa
    by_cases hb : fnan b
    · have HV : Hid (withinL M a oa b ob = (0, 0)) := Lib.hid (if_pos (.inr hb))
      rw [decide_eq_true hb] at hfb
      clear h hB1 ha1 hb1 H1 hrd hn ha hb hnum
      go_enter Try.func49, Try.ntmps49
      go_wp2_with fail
      go_ret2
      exact ⟨by rw [HV.out]; rfl, HB1.out⟩
    · rw [decide_eq_false hb] at hfb
      have HV : Hid (withinL M a oa b ob = (M.countP (fun p => withinF p.2 ninfB false a (!oa)), max (M.countP fun p => withinF p.2 ninfB false a (!oa)) (M.countP fun p => withinF p.2 ninfB false b ob))) := Lib.hid (if_neg (fun hh => hh.elim ha hb))
      have HNA := Lib.hid (show _ ∧ _ from ⟨ha, hb⟩)
      have HNUM := Lib.hid hnum
      have HN := Lib.hid hn
      have HRD := Lib.hid hrd
      have HA1 := Lib.hid ha1
      have HB1' := Lib.hid hb1
      obtain ⟨P1, hP1⟩ : ∃ P : Mb → Bool, P = fun p => withinF p.2 ninfB false a (!oa) := ⟨_, rfl⟩
      obtain ⟨P2, hP2⟩ : ∃ P : Mb → Bool, P = fun p => withinF p.2 ninfB false b ob := ⟨_, rfl⟩
      rw [← hP1, ← hP2] at HV
      have HC1 : Hid (∀ p ∈ M, ((FloatKind.f64.format.order p.2 a == some .lt) = true ∧ P1 p = true) ∨ ((FloatKind.f64.format.order p.2 a == some .lt) = false ∧ (FloatKind.f64.format.order p.2 a == some .eq) = true ∧ P1 p = oa) ∨ ((FloatKind.f64.format.order p.2 a == some .lt) = false ∧ (FloatKind.f64.format.order p.2 a == some .eq) = false ∧ P1 p = false)) := Lib.hid fun p hp => by
        have := cmp_cases (!oa) (HNUM.out p hp) HNA.out.1
        rw [Bool.not_not] at this
        rw [hP1]; exact this
      have HC2 : Hid (∀ p ∈ M, ((FloatKind.f64.format.order p.2 b == some .lt) = true ∧ P2 p = true) ∨ ((FloatKind.f64.format.order p.2 b == some .lt) = false ∧ (FloatKind.f64.format.order p.2 b == some .eq) = true ∧ P2 p = !ob) ∨ ((FloatKind.f64.format.order p.2 b == some .lt) = false ∧ (FloatKind.f64.format.order p.2 b == some .eq) = false ∧ P2 p = false)) := Lib.hid fun p hp => by
        rw [hP2]; exact cmp_cases ob (HNUM.out p hp) HNA.out.2
      clear h hB1 ha1 hb1 H1 hrd hn ha hb hnum hP1 hP2
      cases oa <;> cases ob
      all_goals
        go_enter Try.func49, Try.ntmps49
        go_wp2_with fail
        go_loopw [8, 9, 33] (fun y z i wr => ∃ k : Nat, k ≤ n ∧ i = .int .i64 k ∧ y = .int .i64 ((M.take k).countP P1 : Nat) ∧ z = .int .i64 ((M.take k).countP P2 : Nat) ∧ Hid (Below w1.heap.size w1 wr)) (fun _ _ i _ => n - (intOf i).toNat)
        case atStart => exact ⟨0, by omega, rfl, rfl, rfl, Lib.hid (Below.refl _ _)⟩
        case round =>
          obtain ⟨k, hk, rfl, rfl, rfl, HBW⟩ := hrel
          by_cases hlt : k < n
          · obtain ⟨p, hp⟩ : ∃ p, M[k]? = some p := ⟨_, List.getElem?_eq_getElem (by rw [HN.out]; exact hlt)⟩
            obtain ⟨y, rfl, e2, e3⟩ := mb_cells (HRD.out.below HBW.out) hp
            obtain ⟨w5, hw5⟩ : ∃ w5, wr.alloc (.cells #[.string ⟨p.1.toArray⟩, .float .f64 p.2] 34) = w5 := ⟨_, rfl⟩
            have hb5 : Below wr.heap.size wr w5 := by rw [← hw5]; exact (Below.refl _ wr).alloc (Nat.le_refl _) _
            have hbw5 := HBW.out.trans (hb5.mono HBW.out.size)
            obtain ⟨⟨f0, f1⟩, -⟩ := two (w := w5) (g := wr.heap.size) (by rw [← hw5]; exact heap_alloc_new wr _)
            obtain ⟨⟨i0, i1⟩, -⟩ := two ((hbw5.block _ (block_lt HA1.out)).trans HA1.out)
            obtain ⟨⟨j0, j1⟩, -⟩ := two ((hbw5.block _ (block_lt HB1'.out)).trans HB1'.out)
            have HB5 := Lib.hid hbw5
            have HW5 := Lib.hid hw5
            have hpm := List.mem_of_getElem? hp
            have hct1 := countP_take (P := P1) hp
            have hct2 := countP_take (P := P2) hp
            have hcb1 : (M.take k).countP P1 ≤ 1048576 := Nat.le_trans List.countP_le_length (by rw [List.length_take]; omega)
            have hcb2 : (M.take k).countP P2 ≤ 1048576 := Nat.le_trans List.countP_le_length (by rw [List.length_take]; omega)
            obtain ⟨c1, hc1⟩ : ∃ c, (M.take k).countP P1 = c := ⟨_, rfl⟩
            obtain ⟨c2, hc2⟩ : ∃ c, (M.take k).countP P2 = c := ⟨_, rfl⟩
            rw [hc1] at hct1 hcb1 ⊢
            rw [hc2] at hct2 hcb2 ⊢
            have hd1 := HC1.out p hpm
            have hd2 := HC2.out p hpm
            clear hp hb5 hw5 hbw5 hpm hc1 hc2
            rcases hd1 with ⟨l1, t1⟩ | ⟨l1, l2, t1⟩ | ⟨l1, l2, t1⟩ <;> rcases hd2 with ⟨k1, t2⟩ | ⟨k1, k2, t2⟩ | ⟨k1, k2, t2⟩ <;> rw [t1] at hct1 <;> rw [t2] at hct2
            all_goals
              have HC1' := Lib.hid hct1
              have HC2' := Lib.hid hct2
              clear hct1 hct2 t1 t2
              go_upto_region 8 with fail
              rw [HW5.out]
              go_wp2_with fail
              go_roundw
              case rel => exact ⟨k + 1, by omega, by go_num, by rw [HC1'.out]; first | rfl | go_num, by rw [HC2'.out]; first | rfl | go_num, HB5⟩
              case measure => simp [intOf]; omega
          · obtain rfl : k = n := by omega
            have htk : M.take k = M := List.take_of_length_le (by rw [HN.out]; exact Nat.le_refl _)
            rw [htk]
            have HBE := Lib.hid (HB1.out.trans (HBW.out.mono HB1.out.size))
            have HV2 := Lib.hid HV.out
            obtain ⟨x1, hx1⟩ : ∃ x, M.countP P1 = x := ⟨_, rfl⟩
            obtain ⟨x2, hx2⟩ : ∃ x, M.countP P2 = x := ⟨_, rfl⟩
            rw [hx1, hx2] at HV2 ⊢
            clear htk hx1 hx2
            by_cases hlt2 : x2 < x1
            · have HM : Hid (max x1 x2 = x1) := Lib.hid (by omega)
              go_wp2_with fail
              go_ret2
              exact ⟨by rw [HV2.out, HM.out]; rfl, HBE.out⟩
            · have HM : Hid (max x1 x2 = x2) := Lib.hid (by omega)
              go_wp2_with fail
              go_ret2
              exact ⟨by rw [HV2.out, HM.out]; rfl, HBE.out⟩
end Go.Proofs.Ytbjfigegiffefaa

/- The answer's Range. -/
set_option linter.unusedVariables false
set_option linter.unusedSimpArgs false
namespace Pantry
open Go Go.RowKit
theorem made_rk (n : Nat) : madeCells #[Value.string ⟨#[]⟩, Value.float .f64 0] (n * 2) = (rkCells (List.replicate n ([], 0))).toArray := by
  apply Array.ext
  · simp [size_madeCells, rkCells_length]
  · intro i h1 h2
    have hi : i < n * 2 := by simpa [rkCells_length] using h2
    have h3 := rkCells_get (l := List.replicate n (([] : List UInt8), 0)) (k := i / 2) (p := ([], 0)) (by rw [List.getElem?_replicate, if_pos (by omega)]) (i % 2) (by omega)
    rw [show i / 2 * 2 + i % 2 = i by omega] at h3
    have h4 : (rkCells (List.replicate n ([], 0))).toArray[i]? = (mbC ([], 0))[i % 2]? := by simpa using h3
    rw [Array.getElem?_eq_getElem h2] at h4
    have h5 : (madeCells #[Value.string ⟨#[]⟩, Value.float .f64 0] (n * 2))[i]? = (mbC ([], 0))[i % 2]? := by
      rcases Nat.mod_two_eq_zero_or_one i with h | h <;> simp [madeCells, hi, h, mbC]
    rw [Array.getElem?_eq_getElem h1] at h5
    rw [← h4] at h5
    exact Option.some.inj h5
theorem segR_take {l : List Mb} {x y : Int} (k : Nat) (hk : k ≤ l.length) : segR (l.take k) x y = (l.take (min y k).toNat).drop (max x 0).toNat := by
  unfold segR
  rw [List.length_take, Nat.min_eq_left hk, List.take_take, Nat.min_eq_left (by omega)]
theorem segR_step {l : List Mb} {x y : Int} {k : Nat} {p : Mb} (h : l[k]? = some p) : segR (l.take (k + 1)) x y = segR (l.take k) x y ++ (if x ≤ k ∧ (k : Int) < y then [p] else []) := by
  obtain ⟨hk, rfl⟩ := List.getElem?_eq_some_iff.1 h
  rw [segR_take _ (by omega), segR_take _ (by omega)]
  by_cases hc : x ≤ k ∧ (k : Int) < y
  · rw [if_pos hc, show (min y ((k + 1 : Nat) : Int)).toNat = k + 1 by omega, show (min y (k : Int)).toNat = k by omega, List.take_succ_eq_append_getElem hk, List.drop_append_of_le_length (by rw [List.length_take]; omega)]
  · rw [if_neg hc, List.append_nil]
    by_cases hx : x ≤ k
    · have hy : y ≤ k := by
        exact Int.not_lt.1 fun h => hc ⟨hx, h⟩
      rw [show (min y ((k + 1 : Nat) : Int)) = min y (k : Int) by omega]
    · rw [List.drop_eq_nil_of_le (by rw [List.length_take]; omega), List.drop_eq_nil_of_le (by rw [List.length_take]; omega)]
theorem place_of {l M : List Mb} (hp : M.Perm l) (hr : Rises l) {i : Nat} {p : Mb} (hi : l[i]? = some p) : placeN M p = i := by
  have h1 := (hr.place hi).count
  rw [h1]
  exact hp.countP_eq _
/-- The row is filled: it is the members in order. -/
theorem filled_row {l M R : List Mb} (hp : M.Perm l) (hr : Rises l) (hR : R.length = M.length) (h : ∀ (j : Nat) (p : Mb), M[j]? = some p → R[placeN M p]? = some p) : R = l := by
  apply List.ext_getElem?
  intro i
  cases hi : l[i]? with
  | none =>
    rw [List.getElem?_eq_none_iff] at hi ⊢
    rw [hR, hp.length_eq]; exact hi
  | some q =>
    obtain ⟨j, hj, he⟩ := List.mem_iff_getElem.1 (hp.mem_iff.2 (List.mem_of_getElem? hi))
    have := h j q (by rw [List.getElem?_eq_getElem hj, he])
    rwa [place_of hp hr hi] at this
end Pantry
namespace Go.Proofs.Ytbjfigegiffefaa
open Go.RowKit Pantry

theorem run_make_rk (w : World) (n : Nat) (hn : n ≤ 1048576) : (Instr.makeSlice 29 (.int .i64 n) (.int .i64 n)).run Try.prog w = .ok (.slice (some ⟨w.heap.size, 0, none⟩) n n) (w.alloc (.cells (rkCells (List.replicate n ([], 0))).toArray 34)) := by
  have hi := Try.rowT.info
  cases hq : Try.prog.info? 34 with
  | none => rw [hq] at hi; cases hi
  | some i =>
    rw [hq] at hi
    simp only [Option.map_some, Option.some.injEq, Prod.mk.injEq] at hi
    obtain ⟨h1, h2, h3⟩ := hi
    have hr := run_make (P := Try.prog) w 29 34 i zRk Try.underlying29 hq h1 .i64 .i64 n n (by omega) (Int.le_refl _) (by rw [h3]; omega) (by omega)
    rw [Int.toNat_natCast] at hr
    rw [hr, show zRk.cells = #[Value.string ⟨#[]⟩, Value.float .f64 0] from rfl]
    rw [h2, made_rk]
theorem wpl_make_rk {w : World} {ops : Array Oper} {rest : List Oper} {o : Oper} {a : Act} {Q : Exit → Act → World → Prop} (hgd : o.guard = none) (l c : Operand) (hop : o.op = .makeSlice 29 l c)
    (n : Nat) (hn : n ≤ 1048576) (hl : a.eval l = .int .i64 n) (hc : a.eval c = .int .i64 n) (h : wpList Try.prog ops Q rest (a.put o.dst (.slice (some ⟨w.heap.size, 0, none⟩) n n)) (w.alloc (.cells (rkCells (List.replicate n ([], 0))).toArray 34))) :
    wpList Try.prog ops Q (o :: rest) a w :=
  wpList_plain hgd fun _ hK => by
    unfold Oper.wp execOp
    simp only [hop, hl, hc, Sem.run_bind, run_make_rk w n hn, Result.andThen_ok, Sem.run_pure]
    exact hK _ _ h
end Go.Proofs.Ytbjfigegiffefaa

/- The answer's Range, walked. -/
set_option linter.unusedVariables false
set_option linter.unusedSimpArgs false
namespace Go.Proofs.Ytbjfigegiffefaa
open Go.RowKit Pantry

theorem own_set2 {w : World} {B g n c : Nat} {e : TypeId} {R : List Mb} (h : w.ownsRow B e 2 (.slice (some ⟨g, 0, none⟩) n c) n (rkCells R)) (hR : R.length = n) {i : Nat} (hi : i < n) (q : Mb) :
    ((w.setCell ⟨g, i * 2, none⟩ (.string ⟨q.1.toArray⟩)).setCell ⟨g, i * 2 + 1, none⟩ (.float .f64 q.2)).ownsRow B e 2 (.slice (some ⟨g, 0, none⟩) n c) n (rkCells (R.set i q)) := by
  have hs1 := h.stored (i * 2) (.string ⟨q.1.toArray⟩)
  have hs2 := hs1.1.stored (i * 2 + 1) (.float .f64 q.2)
  rw [rkCells_set2 R (by omega)] at hs2
  exact hs2.1
theorem own_cells2 {w : World} {B g n c : Nat} {e : TypeId} {R : List Mb} (h : w.ownsRow B e 2 (.slice (some ⟨g, 0, none⟩) n c) n (rkCells R)) (hR : R.length = n) {i : Nat} (hi : i < n) :
    (∃ u, w.cell? ⟨g, i * 2, none⟩ = some u) ∧ (∃ u, w.cell? ⟨g, i * 2 + 1, none⟩ = some u) ∧ ∀ j, w.frozen? ⟨g, j, none⟩ = false := by
  have hl : (rkCells R).length = n * 2 := by rw [rkCells_length, hR]
  refine ⟨⟨(rkCells R)[i * 2]'(by omega), ?_⟩, ⟨(rkCells R)[i * 2 + 1]'(by omega), ?_⟩, fun j => h.frozenAt j⟩
  · rw [h.cellAt _ (by omega)]; exact List.getElem?_eq_getElem _
  · rw [h.cellAt _ (by omega)]; exact List.getElem?_eq_getElem _
set_option maxHeartbeats 16000000 in
set_option maxRecDepth 100000 in
theorem rRange_any (w : World) (m : Nat) (v : Value) (M l : List Mb) (x y : Int) (h : Rf w m v M) (hp : M.Perm l) (hg : RkGood l) (hk : (l.map (·.1)).Nodup) :
    Calls Try.prog 52 #[.pointer (some ⟨m, 0, none⟩), .int .i64 x, .int .i64 y] w (RowPost (segR l x y).length (segR l x y) w) := by
  obtain ⟨va, vc, rfl, hrd, h0, -⟩ := h.open
  have hf := h.few
  obtain ⟨n, hn⟩ : ∃ n, M.length = n := ⟨_, rfl⟩
  rw [hn] at h0 hf
  have hml := block_lt h.head
  have H := Lib.hid h
  have HN := Lib.hid hn
  have HRD := Lib.hid hrd
  have HP := Lib.hid hp
  have HG := Lib.hid hg
  have HK := Lib.hid (show (M.map (·.1)).Nodup from (hp.map _).nodup_iff.2 hk)
  obtain ⟨w1, hw1⟩ : ∃ w1, w.alloc (.cells (rkCells (List.replicate n ([], 0))).toArray 34) = w1 := ⟨_, rfl⟩
  have hb1 : Below w.heap.size w w1 := by rw [← hw1]; exact (Below.refl _ w).alloc (Nat.le_refl _) _
  have hx1 : w1.heap[w.heap.size]? = some (.cells (rkCells (List.replicate n ([], 0))).toArray 34) := by rw [← hw1]; exact heap_alloc_new w _
  have HB1 := Lib.hid hb1
  have HO1 : Hid (∃ R : List Mb, R.length = n ∧ (∀ (j : Nat) (p : Mb), j < 0 → M[j]? = some p → R[placeN M p]? = some p) ∧ w1.ownsRow w.heap.size 34 2 (.slice (some ⟨w.heap.size, 0, none⟩) n n) n (rkCells R)) := Lib.hid
    ⟨List.replicate n ([], 0), List.length_replicate .., fun j p hj => absurd hj (Nat.not_lt_zero j), by
      have hl : (rkCells (List.replicate n (([] : List UInt8), 0))).length = n * 2 := by rw [rkCells_length, List.length_replicate]
      refine ⟨hl, .inr ⟨w.heap.size, n, _, rfl, Nat.le_refl _, hx1, Nat.le_refl _, by unfold maxLen; omega, by simpa using hl, ?_⟩⟩
      rw [List.take_of_length_le (by simpa using Nat.le_of_eq hl)]⟩
  have m1 : w1.cell? ⟨m, 0, none⟩ = some (.slice va n vc) := (World.cell?_of_block (w := w) (w' := w1) (a := ⟨m, 0, none⟩) (hb1.block m hml)).trans h0
  have hsz : w.heap.size < w1.heap.size := block_lt hx1
  clear h hrd hn hp hg hk hb1 hx1
  go_enter Try.func52, Try.ntmps52
  go_wp2_with (at_make; refine wpl_make_rk rfl _ _ rfl n hf rfl rfl ?_; rw [hw1])
  clear hw1
  go_loopw [28] (fun i wr => ∃ k : Nat, k ≤ n ∧ i = .int .i64 k ∧ Hid (Below w.heap.size w wr) ∧ Hid (∃ R : List Mb, R.length = n ∧ (∀ (j : Nat) (p : Mb), j < k → M[j]? = some p → R[placeN M p]? = some p) ∧ wr.ownsRow w.heap.size 34 2 (.slice (some ⟨w.heap.size, 0, none⟩) n n) n (rkCells R))) (fun i _ => n - (intOf i).toNat)
  case atStart => exact ⟨0, by omega, rfl, HB1, HO1⟩
  case round =>
    clear HO1
    obtain ⟨k, hk, rfl, HB, HO⟩ := hrel
    by_cases hlt : k < n
    · obtain ⟨R, hRl, hRp, hRo⟩ := HO.out
      obtain ⟨p, hp⟩ : ∃ p, M[k]? = some p := ⟨_, List.getElem?_eq_getElem (by rw [HN.out]; exact hlt)⟩
      obtain ⟨z, rfl, e2, e3⟩ := mb_cells (HRD.out.below HB.out) hp
      have HR := Lib.hid (show _ ∧ _ ∧ _ from ⟨hRl, hRp, hRo⟩)
      have HMP := Lib.hid hp
      obtain ⟨i', hi', hpl⟩ : ∃ i' : Nat, i' < n ∧ placeN M p = i' := by
        obtain ⟨i, hi, he⟩ := List.mem_iff_getElem.1 (HP.out.mem_iff.1 (List.mem_of_getElem? hp))
        refine ⟨i, by rw [← HN.out, HP.out.length_eq]; exact hi, place_of HP.out HG.out.rises (by rw [List.getElem?_eq_getElem hi, he])⟩
      have HPL := Lib.hid hpl
      obtain ⟨w5, hw5⟩ : ∃ w5, wr.alloc (.cells #[.string ⟨p.1.toArray⟩, .float .f64 p.2] 34) = w5 := ⟨_, rfl⟩
      have hb5 : Below wr.heap.size wr w5 := by rw [← hw5]; exact (Below.refl _ wr).alloc (Nat.le_refl _) _
      have hx5 : w5.heap[wr.heap.size]? = some (.cells #[.string ⟨p.1.toArray⟩, .float .f64 p.2] 34) := by rw [← hw5]; exact heap_alloc_new wr _
      obtain ⟨⟨f0, f1⟩, -⟩ := two hx5
      have hbw5 := HB.out.trans (hb5.mono HB.out.size)
      have HRK := Lib.hid ((rRank_any w5 m _ M p.1 (H.out.below hbw5) (fun q hq => HG.out.num q (HP.out.mem_iff.1 hq))).mono (R' := fun e w' => e = .returned (.tuple #[.int .i64 i', .bool true]) ∧ Below w5.heap.size w5 w') fun e w' ⟨q1, q2⟩ => by
        refine ⟨?_, q2⟩
        rcases q1 with ⟨i, x', hi, rfl⟩ | ⟨hno, -⟩
        · have := key_uniq HK.out (List.mem_of_getElem? hi) (List.mem_of_getElem? HMP.out)
          rw [this, show ((p.1, p.2) : Mb) = p from rfl, HPL.out]
        · exact absurd rfl (hno _ (List.mem_of_getElem? HMP.out)))
      have HX5 := Lib.hid hx5
      have HB5 := Lib.hid hbw5
      have HB55 := Lib.hid hb5
      have HW5 := Lib.hid hw5
      clear hp hb5 hx5 hw5 hbw5 hRl hRp hRo hpl
      go_upto_region 7 with fail
      rw [HW5.out]
      go_upto_region 8 with (go_at_call 48; refine HRK.out.mono ?_; clear HRK; rintro e w6 ⟨rfl, hb6⟩
                             obtain ⟨⟨g0, g1⟩, -⟩ := two ((hb6.block _ (block_lt HX5.out)).trans HX5.out)
                             have HO6 := Lib.hid (ownsRow_belowAll HR.out.2.2 (HB55.out.trans (hb6.mono HB55.out.size)))
                             obtain ⟨⟨u1, c1⟩, ⟨u2, c2⟩, cf⟩ := own_cells2 HO6.out HR.out.1 hi'
                             have cf1 := cf (i' * 2)
                             have cf2 := cf (i' * 2 + 1)
                             have HB6 := Lib.hid (HB5.out.trans (hb6.mono HB5.out.size))
                             clear hb6 cf)
      have HEND : Hid (Below w.heap.size w ((w6.setCell ⟨w.heap.size, i' * 2, none⟩ (.string ⟨p.1.toArray⟩)).setCell ⟨w.heap.size, i' * 2 + 1, none⟩ (.float .f64 p.2)) ∧
          ∃ R : List Mb, R.length = n ∧ (∀ (j : Nat) (p : Mb), j < k + 1 → M[j]? = some p → R[placeN M p]? = some p) ∧ ((w6.setCell ⟨w.heap.size, i' * 2, none⟩ (.string ⟨p.1.toArray⟩)).setCell ⟨w.heap.size, i' * 2 + 1, none⟩ (.float .f64 p.2)).ownsRow w.heap.size 34 2 (.slice (some ⟨w.heap.size, 0, none⟩) n n) n (rkCells R)) := Lib.hid (by
        refine ⟨(HB6.out.setCell (p := ⟨w.heap.size, _, none⟩) (Nat.le_refl _) _).setCell (p := ⟨w.heap.size, _, none⟩) (Nat.le_refl _) _, R.set i' p, by rw [List.length_set]; exact HR.out.1, fun j q hj hq => ?_, own_set2 HO6.out HR.out.1 hi' p⟩
        by_cases hjk : j = k
        · subst hjk
          rw [HMP.out] at hq; cases hq
          rw [HPL.out, List.getElem?_set_self (by rw [HR.out.1]; exact hi')]
        · have hne : placeN M q ≠ i' := by
            intro he
            obtain ⟨a1, b1, d1⟩ := List.mem_iff_getElem.1 (HP.out.mem_iff.1 (List.mem_of_getElem? hq))
            obtain ⟨a2, b2, d2⟩ := List.mem_iff_getElem.1 (HP.out.mem_iff.1 (List.mem_of_getElem? HMP.out))
            have e1 := place_of HP.out HG.out.rises (i := a1) (p := q) (by rw [List.getElem?_eq_getElem b1, d1])
            have e2 := place_of HP.out HG.out.rises (i := a2) (p := p) (by rw [List.getElem?_eq_getElem b2, d2])
            have e3 := HPL.out
            have e4 : a1 = a2 := by omega
            subst e4
            have e5 : q = p := by rw [← d1, ← d2]
            subst e5
            obtain ⟨c1, c2⟩ := List.getElem?_eq_some_iff.1 hq
            obtain ⟨c3, c4⟩ := List.getElem?_eq_some_iff.1 HMP.out
            have := List.pairwise_iff_getElem.1 HK.out
            rcases Nat.lt_trichotomy j k with h1 | h1 | h1
            · have := this j k (by simpa using c1) (by simpa using c3) h1
              rw [List.getElem_map, List.getElem_map, c2, c4] at this
              exact this rfl
            · exact hjk h1
            · have := this k j (by simpa using c3) (by simpa using c1) h1
              rw [List.getElem_map, List.getElem_map, c2, c4] at this
              exact this rfl
          rw [List.getElem?_set_ne (fun e => hne e.symm)]
          exact HR.out.2.1 j q (by omega) hq)
      go_wp2_with fail
      go_roundw
      case rel => exact ⟨k + 1, by omega, by go_num, Lib.hid HEND.out.1, Lib.hid HEND.out.2⟩
      case measure => simp [intOf]; omega
    · obtain rfl : k = n := by omega
      have HL : Hid (l.length = k ∧ wr.ownsRow w.heap.size 34 2 (.slice (some ⟨w.heap.size, 0, none⟩) k k) k (rkCells l)) := Lib.hid (by
        obtain ⟨R, hRl, hRp, hRo⟩ := HO.out
        have hlen : l.length = k := by rw [← HP.out.length_eq]; exact HN.out
        have := filled_row HP.out HG.out.rises (hRl.trans HN.out.symm) fun j p hj => hRp j p (by have := (List.getElem?_eq_some_iff.1 hj).1; rw [HN.out] at this; exact this) hj
        subst this
        exact ⟨hlen, hRo⟩)
      have HRW : Hid (Rd wr (some ⟨w.heap.size, 0, none⟩) (rkCells l)) := Lib.hid (by
        obtain ⟨a', c', hv, hrd⟩ := ownsRow_rd HL.out.2 (rkCells_one l)
        cases hv
        exact hrd)
      have HT := Lib.hid Try.rowT
      clear HO
      obtain ⟨wo, rfl⟩ : ∃ wo : World, wo = wr := ⟨_, rfl⟩
      go_wp2_with fail
      go_loopw [12, 46] (fun u i wr => ∃ (j : Nat), j ≤ k ∧ i = .int .i64 j ∧ Hid (Below wo.heap.size wo wr) ∧ Hid (wr.ownsRow wo.heap.size 34 2 u (segR (l.take j) x y).length (rkCells (segR (l.take j) x y)))) (fun _ i _ => k - (intOf i).toNat)
      case atStart => exact ⟨0, by omega, rfl, Lib.hid (Below.refl _ _), Lib.hid (by
        have : segR (l.take 0) x y = [] := by unfold segR; simp
        rw [this]; exact World.ownsRow_nil _ _ _ _)⟩
      case round =>
        obtain ⟨j, hj, rfl, HB2, HOU⟩ := hrel
        obtain ⟨oa, oc, rfl, -⟩ := ownsRow_rd HOU.out (rkCells_one _)
        by_cases hjl : j < k
        · obtain ⟨p, hp⟩ : ∃ p, l[j]? = some p := ⟨_, List.getElem?_eq_getElem (by rw [HL.out.1]; exact hjl)⟩
          obtain ⟨z, hz, e2, e3⟩ := mb_cells (HRW.out.below HB2.out) hp
          cases hz
          rw [Addr.add_base] at e2
          have e2' : wr.cell? ⟨w.heap.size, j * 2, none⟩ = some (.string ⟨p.1.toArray⟩) := e2
          have e3' : wr.cell? ⟨w.heap.size, j * 2 + 1, none⟩ = some (.float .f64 p.2) := by rw [Addr.add_base] at e3; exact e3
          have hst := segR_step (x := x) (y := y) hp
          have hsl : (segR (l.take j) x y).length ≤ 1048576 := by
            unfold segR
            rw [List.length_drop, List.length_take, List.length_take]
            omega
          obtain ⟨sg, hsg⟩ : ∃ sg, segR (l.take j) x y = sg := ⟨_, rfl⟩
          rw [hsg] at hst hsl HOU ⊢
          obtain ⟨sl, hsl2⟩ : ∃ sl, sg.length = sl := ⟨_, rfl⟩
          rw [hsl2] at hsl HOU ⊢
          have HSL := Lib.hid hsl2
          obtain ⟨w5, hw5⟩ : ∃ w5, wr.alloc (.cells #[.string ⟨p.1.toArray⟩, .float .f64 p.2] 34) = w5 := ⟨_, rfl⟩
          have hb5 : Below wr.heap.size wr w5 := by rw [← hw5]; exact (Below.refl _ wr).alloc (Nat.le_refl _) _
          have hx5 : w5.heap[wr.heap.size]? = some (.cells #[.string ⟨p.1.toArray⟩, .float .f64 p.2] 34) := by rw [← hw5]; exact heap_alloc_new wr _
          obtain ⟨⟨f0, f1⟩, -⟩ := two hx5
          have HO5 := Lib.hid (ownsRow_belowAll HOU.out hb5)
          have HB5 := Lib.hid (HB2.out.trans (hb5.mono HB2.out.size))
          have HW5 := Lib.hid hw5
          clear hp e2 e3 hb5 hx5 hw5 hsg hsl2 HOU
          by_cases hc : x ≤ (j : Int) ∧ (j : Int) < y
          · obtain ⟨hc1, hc2⟩ := hc
            rw [if_pos ⟨hc1, hc2⟩] at hst
            have HST := Lib.hid hst
            clear hst
            go_upto_region 14 with fail
            rw [HW5.out]
            go_wp2_with (at_builtin; refine wpl_append1 HT.out rfl _ _ rfl wo.heap.size rfl HO5.out #[.string ⟨p.1.toArray⟩, .float .f64 p.2] rfl rfl (by simp [Value.oneCell']) (by omega) HB5.out.size ?_
                         intro v' w6 hown hgr hbl _hk
                         have HO6 : Hid (w6.ownsRow wo.heap.size 34 2 v' (segR (l.take (j + 1)) x y).length (rkCells (segR (l.take (j + 1)) x y))) := Lib.hid (by rw [HST.out, List.length_append, HSL.out, rkCells_append]; exact hown)
                         have HB6 := Lib.hid (HB5.out.trans hbl)
                         clear hown hgr hbl _hk)
            go_roundw
            case rel => exact ⟨j + 1, by omega, by go_num, HB6, HO6⟩
            case measure => simp [intOf]; omega
          · have HST : Hid (segR (l.take (j + 1)) x y = sg) := Lib.hid (by rw [hst, if_neg hc, List.append_nil])
            have HO6 : Hid (w5.ownsRow wo.heap.size 34 2 (.slice oa sl oc) (segR (l.take (j + 1)) x y).length (rkCells (segR (l.take (j + 1)) x y))) := Lib.hid (by rw [HST.out, HSL.out]; exact HO5.out)
            by_cases hc1 : x ≤ (j : Int)
            · have hc2 : ¬ (j : Int) < y := fun h => hc ⟨hc1, h⟩
              clear hst hc
              go_upto_region 14 with fail
              rw [HW5.out]
              go_wp2_with fail
              go_roundw
              case rel => exact ⟨j + 1, by omega, by go_num, HB5, HO6⟩
              case measure => simp [intOf]; omega
            · clear hst hc
              go_upto_region 14 with fail
              rw [HW5.out]
              go_wp2_with fail
              go_roundw
              case rel => exact ⟨j + 1, by omega, by go_num, HB5, HO6⟩
              case measure => simp [intOf]; omega
        · obtain rfl : j = k := by omega
          have htk : l.take j = l := List.take_of_length_le (by rw [HL.out.1]; exact Nat.le_refl _)
          have HE : Hid (RowPost (segR l x y).length (segR l x y) w (.returned (.slice oa (segR (l.take j) x y).length oc)) wr) := Lib.hid (by
            have ho := HOU.out
            rw [htk] at ho ⊢
            obtain ⟨a', c', hv, hrd⟩ := ownsRow_rd ho (rkCells_one _)
            cases hv
            exact ⟨_, _, rfl, hrd, fun q hq => ⟨Nat.le_trans HB.out.size (own_block ho q hq).1, (own_block ho q hq).2⟩, HB.out.trans (HB2.out.mono HB.out.size)⟩)
          go_wp2_with fail
          go_ret
          exact HE.out
end Go.Proofs.Ytbjfigegiffefaa

/- The law's spoil and row. -/
set_option linter.unusedVariables false
set_option linter.unusedSimpArgs false
namespace Go.Proofs.Ytbjfigegiffefaa
open Go.RowKit Pantry

set_option maxHeartbeats 8000000 in
set_option maxRecDepth 100000 in
theorem spoil_any (w : World) (a : Option Addr) (n c : Nat) (l : List Mb) (h : w.ownsRow 0 34 2 (.slice a n c) n (rkCells l)) (hl : l.length = n) (hf : n ≤ 1048576) :
    Calls Try.prog 53 #[.slice a n c] w fun e w' => e = .returned (.tuple #[]) ∧ Chg (fun k => (Value.slice a n c).ownBlock = some k) w w' := by
  have HO : Hid (∃ R : List Mb, R.length = n ∧ w.ownsRow 0 34 2 (.slice a n c) n (rkCells R)) := Lib.hid ⟨l, hl, h⟩
  have HT := Lib.hid Try.rowT
  clear h hl
  go_enter Try.func53, Try.ntmps53
  go_wp2_with fail
  go_loopw [5] (fun i wr => ∃ k : Nat, k ≤ n ∧ i = .int .i64 k ∧ Hid (Chg (fun k => (Value.slice a n c).ownBlock = some k) w wr) ∧ Hid (∃ R : List Mb, R.length = n ∧ wr.ownsRow 0 34 2 (.slice a n c) n (rkCells R))) (fun i _ => n - (intOf i).toNat)
  case atStart => exact ⟨0, by omega, rfl, Lib.hid (Chg.refl _ _), HO⟩
  case round =>
    clear HO
    obtain ⟨k, hk, rfl, HC, HO⟩ := hrel
    by_cases hlt : k < n
    · obtain ⟨R, hR, ho⟩ := HO.out
      obtain ⟨g, rfl⟩ : ∃ g, a = some ⟨g, 0, none⟩ := by
        rcases ho.2 with ⟨hv, hn⟩ | ⟨g, cap, cur, hv, -⟩
        · omega
        · cases hv; exact ⟨g, rfl⟩
      obtain ⟨⟨u1, c1⟩, ⟨u2, c2⟩, cf⟩ := own_cells2 ho hR hlt
      have cf1 := cf (k * 2)
      have cf2 := cf (k * 2 + 1)
      have HE : Hid (Chg (fun k => (Value.slice (some ⟨g, 0, none⟩) n c).ownBlock = some k) w ((wr.setCell ⟨g, k * 2, none⟩ (.string ⟨#[126]⟩)).setCell ⟨g, k * 2 + 1, none⟩ (.float .f64 13858490847093325824)) ∧
          ∃ R : List Mb, R.length = n ∧ ((wr.setCell ⟨g, k * 2, none⟩ (.string ⟨#[126]⟩)).setCell ⟨g, k * 2 + 1, none⟩ (.float .f64 13858490847093325824)).ownsRow 0 34 2 (.slice (some ⟨g, 0, none⟩) n c) n (rkCells R)) := Lib.hid
        ⟨(HC.out.setCell (p := ⟨g, k * 2, none⟩) (fun _ => rfl) _).setCell (p := ⟨g, k * 2 + 1, none⟩) (fun _ => rfl) _, R.set k ([126], 13858490847093325824), by rw [List.length_set]; exact hR, own_set2 ho hR hlt ([126], 13858490847093325824)⟩
      clear hR ho cf
      go_wp2_with fail
      go_roundw
      case rel => exact ⟨k + 1, by omega, by go_num, Lib.hid HE.out.1, Lib.hid HE.out.2⟩
      case measure => simp [intOf]; omega
    · obtain ⟨wo, rfl⟩ : ∃ wo : World, wo = wr := ⟨_, rfl⟩
      have HU : Hid (∃ xs, wo.ownsRow 0 34 2 (.slice a n c) n xs ∧ ∀ u ∈ xs, u.oneCell' = true) := Lib.hid (by
        obtain ⟨R, hR, ho⟩ := HO.out
        exact ⟨_, ho, rkCells_one _⟩)
      clear HO
      go_wp2_with fail
      go_loopw [0, 13] (fun u i wr => ∃ (j : Nat), j ≤ 20 ∧ i = .int .i64 j ∧ Hid (Chg (fun k => (Value.slice a n c).ownBlock = some k) w wr) ∧ Hid (∃ xs, wr.ownsRow 0 34 2 u (n + j) xs ∧ ∀ u ∈ xs, u.oneCell' = true) ∧ Hid (∀ k, u.ownBlock = some k → (Value.slice a n c).ownBlock = some k ∨ w.heap.size ≤ k)) (fun _ i _ => 20 - (intOf i).toNat)
      case atStart => exact ⟨0, by omega, rfl, HC, HU, Lib.hid fun k hk => .inl hk⟩
      case round =>
        clear HC HU
        obtain ⟨j, hj, rfl, HC, HU, HV⟩ := hrel
        obtain ⟨xs, ho, h1⟩ := HU.out
        obtain ⟨ua, uc, rfl, -⟩ := ownsRow_rd ho h1
        have HO := Lib.hid ho
        have HX := Lib.hid h1
        clear ho h1
        by_cases hjl : j < 20
        · go_wp2_with (at_builtin; refine wpl_append1 HT.out rfl _ _ rfl 0 rfl HO.out #[.string ⟨#[126]⟩, .float .f64 13858490847093325824] rfl rfl (by simp [Value.oneCell']) (by omega) (Nat.zero_le _) ?_
                       intro v' w6 hown hgr _hbl hvk
                       have HC6 : Hid (Chg (fun k => (Value.slice a n c).ownBlock = some k) w w6) := Lib.hid (HC.out.trans (Chg.of_grown hgr (S := fun k => (Value.slice ua (n + j) uc).ownBlock = some k) fun k hk => hk) fun k hkl hk => (HV.out k hk).elim id fun hh => by omega)
                       have HU6 : Hid (∃ xs, w6.ownsRow 0 34 2 v' (n + (j + 1)) xs ∧ ∀ u ∈ xs, u.oneCell' = true) := Lib.hid ⟨_, hown, fun u hu => by
                         rcases List.mem_append.1 hu with hu | hu
                         · exact HX.out u hu
                         · simp at hu; rcases hu with rfl | rfl <;> rfl⟩
                       have HV6 : Hid (∀ k, v'.ownBlock = some k → (Value.slice a n c).ownBlock = some k ∨ w.heap.size ≤ k) := Lib.hid fun k hk => (hvk k hk).elim (HV.out k) fun hh => .inr (Nat.le_trans HC.out.size hh)
                       clear hown hgr _hbl hvk)
          go_roundw
          case rel => exact ⟨j + 1, by omega, by go_num, HC6, HU6, HV6⟩
          case measure => simp [intOf]; omega
        · go_wp2_with fail
          go_end0
          exact ⟨rfl, HC.out⟩
end Go.Proofs.Ytbjfigegiffefaa

/- Ranks beside the answer's ranks: the law's row. -/
set_option linter.unusedVariables false
set_option linter.unusedSimpArgs false
namespace Go.Proofs.Ytbjfigegiffefaa
open Go.RowKit Pantry

/-- Ranks and the answer's ranks hold the same members; Z: all their blocks. -/
structure Hf (w : World) (r m : Nat) (Z : Nat → Prop) (l : List Mb) : Prop where
  ex : ∃ S v M, Rk w r S l ∧ Rf w m v M ∧ M.Perm l ∧ (∀ k, S k → ¬ (k = m ∨ v.ownBlock = some k)) ∧ ∀ k, (S k ∨ k = m ∨ v.ownBlock = some k) → Z k
  lt : ∀ k, Z k → k < w.heap.size
structure HfTo (r m : Nat) (Z : Nat → Prop) (l' : List Mb) (w w' : World) : Prop where
  ex : ∃ Z', Hf w' r m Z' l' ∧ ∀ k, Z' k → Z k ∨ w.heap.size ≤ k
  chg : Chg Z w w'
theorem Rf.lt {w : World} {m : Nat} {v : Value} {M : List Mb} (h : Rf w m v M) : ∀ k, (k = m ∨ v.ownBlock = some k) → k < w.heap.size := by
  rintro k (rfl | hk)
  · exact block_lt h.head
  · exact (h.row.lt k hk).2
theorem Hf.chg {w w' : World} {r m : Nat} {Z T : Nat → Prop} {l : List Mb} (h : Hf w r m Z l) (hc : Chg T w w') (hT : ∀ k, Z k → ¬ T k) : Hf w' r m Z l := by
  obtain ⟨⟨S, v, M, h1, h2, h3, h4, h5⟩, h6⟩ := h
  exact ⟨⟨S, v, M, h1.chg hc fun k hk => hT k (h5 k (.inl hk)), h2.chg hc (hT m (h5 m (.inr (.inl rfl)))) fun k hk => hT k (h5 k (.inr (.inr hk))), h3, h4, h5⟩, fun k hk => Nat.lt_of_lt_of_le (h6 k hk) hc.size⟩
theorem Hf.below {w w' : World} {r m : Nat} {Z : Nat → Prop} {l : List Mb} (h : Hf w r m Z l) (hb : Below w.heap.size w w') : Hf w' r m Z l := h.chg (T := fun _ => False) (Chg.of_below hb) fun _ _ e => e
theorem HfTo.same {w w' : World} {r m : Nat} {Z : Nat → Prop} {l : List Mb} (h : Hf w r m Z l) (hb : Below w.heap.size w w') : HfTo r m Z l w w' := ⟨⟨Z, h.below hb, fun k hk => .inl hk⟩, Chg.of_below hb⟩
theorem Hf.good {w : World} {r m : Nat} {Z : Nat → Prop} {l : List Mb} (h : Hf w r m Z l) : RkGood l ∧ (l.map (·.1)).Nodup := by
  obtain ⟨⟨S, v, M, h1, h2, h3, h4, h5⟩, h6⟩ := h
  exact ⟨h1.good, h1.keys⟩
/-- First the answer's ranks are changed, then the ranks. -/
theorem Hf.both {w w1 w2 : World} {r m : Nat} {Z S : Nat → Prop} {v : Value} {l M l' M' : List Mb} (h1 : Rk w r S l) (h2 : Rf w m v M) (h4 : ∀ k, S k → ¬ (k = m ∨ v.ownBlock = some k)) (h5 : ∀ k, (S k ∨ k = m ∨ v.ownBlock = some k) → Z k)
    (hm : RfTo m v M' w w1) (hr : RkTo r S l' w1 w2) (hp : M'.Perm l') : HfTo r m Z l' w w2 := by
  obtain ⟨⟨v', g1, g2⟩, g3⟩ := hm
  obtain ⟨⟨S', k1, k2⟩, k3⟩ := hr
  have hS : ∀ k, S k → k < w.heap.size := h1.lt
  have hM : ∀ k, (k = m ∨ v'.ownBlock = some k) → ¬ S k := by
    rintro k hk hs
    rcases hk with rfl | hk
    · exact h4 _ hs (.inl rfl)
    · rcases g2 k hk with hh | hh
      · exact h4 k hs (.inr hh)
      · have := hS k hs; omega
  have g1' : Rf w2 m v' M' := g1.chg k3 (hM m (.inl rfl)) fun k hk => hM k (.inr hk)
  refine ⟨⟨fun k => S' k ∨ k = m ∨ v'.ownBlock = some k, ⟨⟨S', v', M', k1, g1', hp, fun k hs hk => ?_, fun k hk => hk⟩, fun k hk => hk.elim (k1.lt k) (g1'.lt k)⟩, fun k hk => ?_⟩, ?_⟩
  · rcases k2 k hs with hh | hh
    · exact hM k hk hh
    · have := g1.lt k hk; omega
  · rcases hk with hk | rfl | hk
    · rcases k2 k hk with hh | hh
      · exact .inl (h5 k (.inl hh))
      · exact .inr (Nat.le_trans g3.size hh)
    · exact .inl (h5 _ (.inr (.inl rfl)))
    · rcases g2 k hk with hh | hh
      · exact .inl (h5 k (.inr (.inr hh)))
      · exact .inr hh
  · exact (g3.mono fun k _ hk => h5 k (.inr hk)).trans k3 fun k _ hk => h5 k (.inl hk)
theorem rd_own {W : World} {B n c : Nat} {a : Option Addr} {sg : List Mb} (h : W.ownsRow B 34 2 (.slice a n c) n (rkCells sg)) : Rd W a (rkCells sg) := by
  obtain ⟨a', c', hv, hrd⟩ := ownsRow_rd h (rkCells_one _)
  cases hv; exact hrd
set_option maxHeartbeats 16000000 in
set_option maxRecDepth 100000 in
theorem lrow_any (w : World) (r m : Nat) (Z : Nat → Prop) (l : List Mb) (x y : Int) (h : Hf w r m Z l) :
    Calls Try.prog 32 #[.pointer (some ⟨r, 0, none⟩), .pointer (some ⟨m, 0, none⟩), .int .i64 x, .int .i64 y] w (OkPost w) := by
  obtain ⟨⟨S, v, M, h1, h2, h3, h4, h5⟩, h6⟩ := h
  have HR := Lib.hid h1
  have HM := Lib.hid h2
  have HP := Lib.hid h3
  have hgood := h1.good
  have hkeys := h1.keys
  obtain ⟨sg, hsg⟩ : ∃ sg, segR l x y = sg := ⟨_, rfl⟩
  have hsl : sg.length ≤ 1048576 := by
    rw [← hsg]; unfold segR
    rw [List.length_drop, List.length_take]
    have := hgood.few
    omega
  obtain ⟨n, hn⟩ : ∃ n, sg.length = n := ⟨_, rfl⟩
  rw [hn] at hsl
  have HN := Lib.hid hn
  have HW := Lib.hid (rRange_any w m v M l x y h2 h3 hgood hkeys)
  rw [hsg, hn] at HW
  have HRG : Hid (∀ W, Below w.heap.size w W → Calls Try.prog 12 #[.pointer (some ⟨r, 0, none⟩), .int .i64 x, .int .i64 y] W (fun e w' => ∃ a c, e = .returned (.slice a n c) ∧ w'.ownsRow W.heap.size 34 2 (.slice a n c) n (rkCells sg) ∧ Below W.heap.size W w')) := Lib.hid fun W hW => by
    refine ((HR.out.below hW).range x y).mono ?_
    rintro e w' ⟨v, rfl, ⟨hrow⟩, hb⟩
    rw [hsg, hn] at hrow
    obtain ⟨a, c, rfl, hrd⟩ := ownsRow_rd hrow (rkCells_one _)
    exact ⟨a, c, rfl, hrow, hb⟩
  have HSM := Lib.hid (sameB_refl (l := sg))
  clear h1 h2 h3 h4 h5 h6 hgood hkeys hsg hn
  go_enter Try.func32, Try.ntmps32
  go_wp2_with fail
  refine HW.out.mono ?_
  rintro e w1 ⟨wa, wc, rfl, hrd, hblk, hb⟩
  have HRD1 := Lib.hid hrd
  have HBL1 := Lib.hid hblk
  have HB1 := Lib.hid hb
  have HR1 := Lib.hid (HRG.out w1 hb)
  clear hrd hblk hb HW
  go_wp2_with fail
  refine HR1.out.mono ?_
  rintro e w2 ⟨a2, c2, rfl, ho2, hb2⟩
  have HO2 := Lib.hid ho2
  have HB2 := Lib.hid hb2
  have HU2 := Lib.hid (HB1.out.trans (hb2.mono HB1.out.size))
  have HR2 := Lib.hid (HRG.out w2 HU2.out)
  clear ho2 hb2 HR1
  go_wp2_with fail
  refine HR2.out.mono ?_
  rintro e w3 ⟨a3, c3, rfl, ho3, hb3⟩
  have HO3 := Lib.hid ho3
  have HU3 := Lib.hid (HU2.out.trans (hb3.mono HU2.out.size))
  have HO23 := Lib.hid (ownsRow_belowAll HO2.out hb3)
  have HRD3 := Lib.hid (HRD1.out.below (HB2.out.trans (hb3.mono HB2.out.size)))
  clear hb3 ho3 HR2
  go_wp2_with fail
  refine (same_any _ _ n n _ _ sg sg _ HN.out HN.out (by omega) (rd_own HO23.out) HRD3.out).mono ?_
  rintro e w4 ⟨rfl, q4, rfl⟩
  rw [HSM.out]
  go_wp2_with fail
  refine (same_any _ _ n n _ _ sg sg _ HN.out HN.out (by omega) ((rd_own HO3.out).drewN) (HRD3.out.drewN)).mono ?_
  rintro e w5 ⟨rfl, q5, rfl⟩
  rw [HSM.out]
  have HO2' : Hid ((w3.drewN (q4 + q5)).ownsRow 0 34 2 (.slice a2 n c2) n (rkCells sg)) := Lib.hid (ownsRow_base HO23.out (Nat.zero_le _))
  have HSP := Lib.hid (spoil_any (w3.drewN (q4 + q5)) a2 n c2 sg HO2'.out HN.out hsl)
  go_wp2_with fail
  refine HSP.out.mono ?_
  rintro e w6 ⟨rfl, hc6⟩
  have hq : Below w3.heap.size w3 (w3.drewN (q4 + q5)) := belowN (Below.refl _ _)
  have hU6 : Below w.heap.size w w6 := by
    refine (HU3.out.trans (hq.mono HU3.out.size)).trans (hc6.below HU3.out.size fun k hk => ?_)
    exact Nat.le_trans HB1.out.size (HO2.out.lt k hk).1
  have hO6 : w6.ownsRow w2.heap.size 34 2 (.slice a3 n c3) n (rkCells sg) := Chg.ownsRow (S := fun k => (Value.slice a2 n c2).ownBlock = some k) (w := w3.drewN (q4 + q5)) HO3.out hc6 fun k hk hk2 => by
    have := (HO3.out.lt k hk).1
    have := (HO2.out.lt k hk2).2
    omega
  have hRD6 : Rd w6 wa (rkCells sg) := hc6.rd (w := w3.drewN (q4 + q5)) HRD3.out fun x hx hk => by
    have := (HBL1.out x hx).2
    have := (HO2.out.lt _ hk).1
    omega
  have HU6 := Lib.hid hU6
  have HO6 := Lib.hid hO6
  have HRD6 := Lib.hid hRD6
  clear hc6 hq hU6 hO6 hRD6 HSP HO23 HRD3 HO2'
  go_wp2_with fail
  refine (same_any _ _ n n _ _ sg sg _ HN.out HN.out (by omega) (rd_own HO6.out) HRD6.out).mono ?_
  rintro e w7 ⟨rfl, q7, rfl⟩
  rw [HSM.out]
  have HSP := Lib.hid (spoil_any (w6.drewN q7) a3 n c3 sg (ownsRow_base HO6.out (Nat.zero_le _)) HN.out hsl)
  go_wp2_with fail
  refine HSP.out.mono ?_
  rintro e w8 ⟨rfl, hc8⟩
  have hU8 : Below w.heap.size w w8 := (belowN HU6.out).trans (hc8.below HU6.out.size fun k hk => Nat.le_trans HU2.out.size (HO3.out.lt k hk).1)
  have hRD8 : Rd w8 wa (rkCells sg) := hc8.rd (w := w6.drewN q7) HRD6.out fun x hx hk => by
    have := (HBL1.out x hx).2
    have := (HO3.out.lt _ hk).1
    have := HB2.out.size
    omega
  have HU8 := Lib.hid hU8
  have HRD8 := Lib.hid hRD8
  have HR8 := Lib.hid (HRG.out w8 hU8)
  clear hc8 hU8 hRD8 HSP
  go_wp2_with fail
  refine HR8.out.mono ?_
  rintro e w9 ⟨a9, c9, rfl, ho9, hb9⟩
  have HO9 := Lib.hid ho9
  have HRD9 := Lib.hid (HRD8.out.below hb9)
  have HU9 := Lib.hid (HU8.out.trans (hb9.mono HU8.out.size))
  clear ho9 hb9 HR8
  go_wp2_with fail
  refine (same_any _ _ n n _ _ sg sg _ HN.out HN.out (by omega) (rd_own HO9.out) HRD9.out).mono ?_
  rintro e w10 ⟨rfl, q10, rfl⟩
  rw [HSM.out]
  go_wp2_with fail
  go_ret
  exact ⟨rfl, belowN HU9.out⟩
end Go.Proofs.Ytbjfigegiffefaa

/- A step of the law's script, answered by both. -/
set_option linter.unusedVariables false
set_option linter.unusedSimpArgs false
namespace Pantry
open Go Go.RowKit
end Pantry
namespace Go.Proofs.Ytbjfigegiffefaa
open Go.RowKit Pantry

theorem set_agree {M l M' l' : List Mb} {key : List UInt8} {x : Nat} {n1 n2 : Bool} {c1 c2 : Int} (h1 : SetM M key x M' n1 c1) (h2 : SetC l key x l' n2 c2) (hp : M.Perm l) (hn : (l.map (·.1)).Nodup) : n1 = n2 ∧ c1 = c2 ∧ M'.Perm l' := by
  have hno : ∀ {i y : Nat}, M[i]? = some (key, y) → ¬ ∀ p ∈ l, p.1 ≠ key := fun hi hk => hk _ (hp.mem_iff.1 (List.mem_of_getElem? hi)) rfl
  have hno2 : ∀ {y : Nat}, (key, y) ∈ l → ¬ ∀ p ∈ M, p.1 ≠ key := fun hi hk => hk _ (hp.mem_iff.2 hi) rfl
  have hlen := hp.length_eq
  cases h1 with
  | long h => cases h2 with
    | long h' => exact ⟨rfl, rfl, hp⟩
    | nan h' hx => omega
    | full h' => omega
    | same h' => omega
    | moved h' => omega
    | fresh h' => omega
  | nan h hx => cases h2 with
    | long h' => omega
    | nan h' hx' => exact ⟨rfl, rfl, hp⟩
    | full h' hx' => exact absurd hx hx'
    | same h' hx' => exact absurd hx hx'
    | moved h' hx' => exact absurd hx hx'
    | fresh h' hx' => exact absurd hx hx'
  | full h hx hk hf => cases h2 with
    | long h' => omega
    | nan h' hx' => exact absurd hx' hx
    | full h' hx' => exact ⟨rfl, rfl, hp⟩
    | same h' hx' y hy he => exact absurd hk (hno2 hy)
    | moved h' hx' i y j hy he hj => exact absurd hk (hno2 (List.mem_of_getElem? hy))
    | fresh h' hx' hk' hf' => omega
  | same h hx i y hy he => cases h2 with
    | long h' => omega
    | nan h' hx' => exact absurd hx' hx
    | full h' hx' hk' => exact absurd hk' (hno hy)
    | same h' hx' => exact ⟨rfl, rfl, hp⟩
    | moved h' hx' i' y' j hy' he' hj =>
      have := key_uniq hn (hp.mem_iff.1 (List.mem_of_getElem? hy)) (List.mem_of_getElem? hy')
      subst this
      exact absurd he he'
    | fresh h' hx' hk' => exact absurd hk' (hno hy)
  | moved h hx i y hy he => cases h2 with
    | long h' => omega
    | nan h' hx' => exact absurd hx' hx
    | full h' hx' hk' => exact absurd hk' (hno hy)
    | same h' hx' y' hy' he' =>
      have := key_uniq hn (hp.mem_iff.1 (List.mem_of_getElem? hy)) hy'
      subst this
      exact absurd he' he
    | moved h' hx' i' y' j hy' he' hj =>
      have := key_uniq hn (hp.mem_iff.1 (List.mem_of_getElem? hy)) (List.mem_of_getElem? hy')
      subst this
      exact ⟨rfl, rfl, set_perm hp hy hy'⟩
    | fresh h' hx' hk' => exact absurd hk' (hno hy)
  | fresh h hx hk hf => cases h2 with
    | long h' => omega
    | nan h' hx' => exact absurd hx' hx
    | full h' hx' hk' hf' => omega
    | same h' hx' y hy he => exact absurd hk (hno2 hy)
    | moved h' hx' i y j hy he hj => exact absurd hk (hno2 (List.mem_of_getElem? hy))
    | fresh h' hx' hk' hf' j hj => exact ⟨rfl, rfl, (List.perm_append_comm.trans ((hp.cons _).trans (ins_perm l j _).symm))⟩
theorem RkTo.undrew {r : Nat} {S : Nat → Prop} {l' : List Mb} {w w' : World} (h : RkTo r S l' w.drew w') : RkTo r S l' w w' := ⟨h.ex, ⟨h.chg.os, h.chg.tape, h.chg.output, h.chg.size, h.chg.block⟩⟩
theorem RfTo.undrew {m : Nat} {v : Value} {M' : List Mb} {w w' : World} (h : RfTo m v M' w.drew w') : RfTo m v M' w w' := ⟨h.ex, ⟨h.chg.os, h.chg.tape, h.chg.output, h.chg.size, h.chg.block⟩⟩
theorem HfTo.before {r m : Nat} {Z : Nat → Prop} {l' : List Mb} {w0 w w' : World} (hb : Below w0.heap.size w0 w) (h : HfTo r m Z l' w w') : HfTo r m Z l' w0 w' := by
  obtain ⟨⟨Z', h1, h2⟩, h3⟩ := h
  exact ⟨⟨Z', h1, fun k hk => (h2 k hk).imp id fun hh => Nat.le_trans hb.size hh⟩, (Chg.of_below hb).trans h3 fun _ _ hh => hh⟩
theorem HfTo.later {r m : Nat} {Z : Nat → Prop} {l' : List Mb} {w w1 w' : World} (h : HfTo r m Z l' w w1) (hb : Below w1.heap.size w1 w') : HfTo r m Z l' w w' := by
  obtain ⟨⟨Z', h1, h2⟩, h3⟩ := h
  exact ⟨⟨Z', h1.below hb, h2⟩, h3.trans (Chg.of_below (S := fun _ => False) hb) fun _ _ e => e.elim⟩
def PlayPost (r m : Nat) (Z : Nat → Prop) (w : World) (e : Ending) (w' : World) : Prop := e = .returned (.bool true) ∧ ∃ l', HfTo r m Z l' w w'
/-- What stands before a step: the two, and the step in a box. -/
structure PIn (w : World) (r m b : Nat) (Z S : Nat → Prop) (v : Value) (l M : List Mb) (o : Stp) : Prop where
  rk : Rk w r S l
  rf : Rf w m v M
  perm : M.Perm l
  apart : ∀ k, S k → ¬ (k = m ∨ v.ownBlock = some k)
  foot : ∀ k, (S k ∨ k = m ∨ v.ownBlock = some k) → Z k
  box : w.heap[b]? = some (.cells o.cells.toArray 52)
  boxZ : ¬ Z b
  ok : o.Ok
  lt : ∀ k, Z k → k < w.heap.size
theorem PIn.hf {w : World} {r m b : Nat} {Z S : Nat → Prop} {v : Value} {l M : List Mb} {o : Stp} (h : PIn w r m b Z S v l M o) : Hf w r m Z l := ⟨⟨S, v, M, h.rk, h.rf, h.perm, h.apart, h.foot⟩, h.lt⟩
theorem PIn.num {w : World} {r m b : Nat} {Z S : Nat → Prop} {v : Value} {l M : List Mb} {o : Stp} (h : PIn w r m b Z S v l M o) : ∀ p ∈ M, ¬ fnan p.2 := fun p hp => h.rk.good.num p (h.perm.mem_iff.1 hp)
theorem PIn.keysM {w : World} {r m b : Nat} {Z S : Nat → Prop} {v : Value} {l M : List Mb} {o : Stp} (h : PIn w r m b Z S v l M o) : (M.map (·.1)).Nodup := (h.perm.map _).nodup_iff.2 h.rk.keys
theorem PIn.apartM {w : World} {r m b : Nat} {Z S : Nat → Prop} {v : Value} {l M : List Mb} {o : Stp} (h : PIn w r m b Z S v l M o) {w1 : World} {M' : List Mb} (ht : RfTo m v M' w w1) : Rk w1 r S l ∧ w1.heap[b]? = some (.cells o.cells.toArray 52) :=
  ⟨h.rk.chg ht.chg fun k hk => h.apart k hk, ht.chg.heap h.box fun hk => h.boxZ (h.foot b (.inr hk))⟩
theorem PIn.quiet {w w1 : World} {r m b : Nat} {Z S : Nat → Prop} {v : Value} {l M : List Mb} {o : Stp} (h : PIn w r m b Z S v l M o) (hb : Below w.heap.size w w1) : PIn w1 r m b Z S v l M o :=
  ⟨h.rk.below hb, h.rf.below hb, h.perm, h.apart, h.foot, (hb.block _ (block_lt h.box)).trans h.box, h.boxZ, h.ok, fun k hk => Nat.lt_of_lt_of_le (h.lt k hk) hb.size⟩
theorem box9 {w : World} {b : Nat} {o : Stp} (h : w.heap[b]? = some (.cells o.cells.toArray 52)) :
    (w.cell? ⟨b, 1, none⟩ = some (.int .i64 o.act) ∧ w.cell? ⟨b, 2, none⟩ = some (.int .i64 o.i) ∧ w.cell? ⟨b, 3, none⟩ = some (.int .i64 o.j) ∧ w.cell? ⟨b, 4, none⟩ = some (.string ⟨o.s.toArray⟩) ∧ w.cell? ⟨b, 5, none⟩ = some (.int .u64 o.x)) ∧
    w.cell? ⟨b, 6, none⟩ = some (.int .u64 o.y) ∧ w.cell? ⟨b, 7, none⟩ = some (.bool o.ox) ∧ w.cell? ⟨b, 8, none⟩ = some (.bool o.oy) :=
  ⟨⟨cell_of_row w b 1 _ _ _ h, cell_of_row w b 2 _ _ _ h, cell_of_row w b 3 _ _ _ h, cell_of_row w b 4 _ _ _ h, cell_of_row w b 5 _ _ _ h⟩, cell_of_row w b 6 _ _ _ h, cell_of_row w b 7 _ _ _ h, cell_of_row w b 8 _ _ _ h⟩
end Go.Proofs.Ytbjfigegiffefaa
