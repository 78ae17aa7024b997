
/- The reader of a snapshot: values: ranks (printed by tools/gen-rv.py). -/
import Derived.Test.YteiklgbjjmlmaaaGreatZSnRv3
set_option linter.unusedVariables false
set_option linter.unusedSimpArgs false
namespace Go.Proofs.YteiklgbjjmlmaaaGreat
open Go.RowKit Pantry

attribute [-go_sem] Builtin.append_
theorem rvRkd : ElemT Tryz.prog 47 54 2 24 (.agg #[.string ⟨#[]⟩, .float .f64 0]) := ⟨Tryz.underlying47, by kernel_rfl, rfl, by omega, by omega⟩
theorem frombits29 (b : Nat) (w : World) : (callFunc 58 #[.int .u64 b]).run Tryz.prog w = .ok (.value (.float .f64 b)) w := run_callFunc_extern (e := Extern.MathFloatBits.float64frombits) Tryz.func58 (by kernel_rfl) (by kernel_rfl) (by kernel_rfl) (by kernel_rfl) _ w
set_option maxRecDepth 100000 in
set_option maxHeartbeats 8000000 in
theorem rval_ranks {N R : Nat} {w : World} {c : UInt8} {src : List UInt8} (h : RdAt N w R (c :: src)) (hc : c.toNat = 5) :
    Calls Tryz.prog 47 #[.pointer (some ⟨R, 0, none⟩)] w (Tryz.RdPost N w R (seqR (numR 1 1048576) (fun n => manyR (seqR textR fun _ => eightR) n) src) fun q e w' =>
      ∃ v, e = .returned (.agg #[.int .i64 (c.toNat : Int), .string ⟨#[]⟩, .slice none 0 0, .slice none 0 0, v]) ∧ w'.ownsRow w.heap.size 54 2 v q.2.length (q.2.flatMap fun x => [.string ⟨x.1.toArray⟩, .float .f64 x.2])) := by
  obtain ⟨A, hA⟩ : ∃ A, w.alloc (.cells #[.int .i64 0, .string ⟨#[]⟩, .slice none 0 0, .slice none 0 0, .slice none 0 0] 49) = A := ⟨_, rfl⟩
  have hbA : Below w.heap.size w A := by rw [← hA]; exact (Below.refl _ _).alloc (Nat.le_refl _) _
  have hX : A.heap[w.heap.size]? = some (.cells #[.int .i64 0, .string ⟨#[]⟩, .slice none 0 0, .slice none 0 0, .slice none 0 0] 49) := by rw [← hA]; exact heap_alloc_new w _
  have HT := Lib.hid (take_one (h.below hbA))
  have HB := Lib.hid (RdK.of_below (R := R) hbA)
  have HRR := Lib.hid h.lt
  have HX := Lib.hid hX
  have HN := Lib.hid h.ge
  have hmx : Tryz.prog.follows .mixedOrders = true := by kernel_rfl
  obtain ⟨cn, hcn⟩ : ∃ cn, c.toNat = cn := ⟨_, rfl⟩
  rw [hcn] at hc ⊢
  have HCN := Lib.hid hcn
  have k1 : ((cn : Int) == 1) = false := by simp; omega
  have k3 : ((cn : Int) == 3) = false := by simp; omega
  have k5 : ((cn : Int) == 5) = true := by simp; omega
  have kb1 : (1 : Int) ≤ (cn : Int) := by omega
  have kb5 : (cn : Int) ≤ 5 := by omega
  have k64 : cn < 256 := by omega
  clear h hbA hX hcn hc
  have hfb := frombits29
  go_enter Tryz.func47, Tryz.ntmps47
  go_upto_region 2 with (go_at_call 44; refine HT.out.mono ?_; rintro e w1 ⟨hb1, x, cx, rfl, hx, hR1⟩; have HB1 := Lib.hid (HB.out.trans hb1); have HR1 := Lib.hid hR1; have HX1 := Lib.hid ((hb1.block (Array.getElem?_eq_some_iff.1 HX.out).1 (Nat.ne_of_gt HRR.out)).trans HX.out)
                         rw [HCN.out] at hx
                         have HZ1 := Lib.hid hb1.size
                         clear hb1 hR1)
  obtain ⟨W, hW⟩ : ∃ W, w1.alloc (.cells #[.int .i64 (cn : Int), .string ⟨#[]⟩, .slice none 0 0, .slice none 0 0, .slice none 0 0] 49) = W := ⟨_, rfl⟩
  have hY : W.heap[w1.heap.size]? = some (.cells #[.int .i64 (cn : Int), .string ⟨#[]⟩, .slice none 0 0, .slice none 0 0, .slice none 0 0] 49) := by rw [← hW]; exact heap_alloc_new w1 _
  have hbW : Below w1.heap.size w1 W := by rw [← hW]; exact (Below.refl _ _).alloc (Nat.le_refl _) _
  have hWs : W.heap.size = w1.heap.size + 1 := by rw [← hW]; simp
  have HR2 := Lib.hid (HR1.out.below hbW)
  rw [hW]
  obtain ⟨T3, hT3⟩ : ∃ T3, w1.heap.size = T3 := ⟨_, rfl⟩
  rw [hT3] at hY hWs ⊢
  have y0 : W.cell? ⟨T3, 0, none⟩ = some (.int .i64 (cn : Int)) := cell_of_row W T3 0 _ _ _ hY
  have HBW := Lib.hid (HB1.out.trans (RdK.of_below hbW))
  have hw3 : w.heap.size < T3 := by rw [← hT3]; have h1 := HZ1.out; have h2 := (Array.getElem?_eq_some_iff.1 HX.out).1; omega
  have hWX := (hbW.block _ (Array.getElem?_eq_some_iff.1 HX1.out).1).trans HX1.out
  have hRB : R < w.heap.size := HRR.out
  have hNB : N ≤ w.heap.size := Nat.le_trans HN.out (Nat.le_of_lt hRB)
  have HF := Lib.hid (And.intro hY hWX)
  have HNU := Lib.hid (rnum_any HR2.out 1 1048576 (by decide) (by decide) (by omega))
  cases hq : numR 1 1048576 src with
  | error d =>
    rw [hq] at HNU
    have HE : Hid (seqR (numR 1 1048576) (fun n => manyR (seqR textR fun _ => eightR) n) src = .error d) := Lib.hid (by unfold seqR; rw [hq])
    clear hY hWX hbW hW hq
    go_wp2_with (first
      | (go_at_call 43; refine (must_any _ _ _).mono ?_; rintro e wm ⟨rfl, rfl⟩)
      | (go_at_call 45; refine HNU.out.mono ?_; rintro e w2 ⟨hb2, rfl⟩; have HB2 := Lib.hid (HBW.out.trans hb2); clear hb2))
    exact ⟨rfl, .err HE.out HB2.out⟩
  | ok q =>
    obtain ⟨n, r⟩ := q
    rw [hq] at HNU
    have hn := numR_lt hq
    have HRES : Hid (∀ l r2, manyR (seqR textR fun _ => eightR) n r = .ok (l, r2) → seqR (numR 1 1048576) (fun n => manyR (seqR textR fun _ => eightR) n) src = .ok ((n, l), r2)) := Lib.hid fun l r2 hl => by rw [seqR_ok hq, hl]
    have HRER : Hid (∀ d, manyR (seqR textR fun _ => eightR) n r = .error d → seqR (numR 1 1048576) (fun n => manyR (seqR textR fun _ => eightR) n) src = .error d) := Lib.hid fun d hl => by rw [seqR_ok hq, hl]
    clear hY hWX hbW hW hq
    go_wp2_with (first
      | (go_at_call 43; refine (must_any _ _ _).mono ?_; rintro e wm ⟨rfl, rfl⟩)
      | (go_at_call 45; refine HNU.out.mono ?_; rintro e w2 ⟨hb2, hv, hR3⟩; obtain rfl : e = .returned (.int .i64 n) := hv
         have h3 := (hb2.block (Array.getElem?_eq_some_iff.1 HF.out.1).1 (Nat.ne_of_gt (Nat.lt_trans hRB hw3))).trans HF.out.1
         have h2 := (hb2.block (Array.getElem?_eq_some_iff.1 HF.out.2).1 (Nat.ne_of_gt hRB)).trans HF.out.2
         have HB2 := Lib.hid (HBW.out.trans hb2)
         have HS2 := Lib.hid hb2.size
         have HR3 := Lib.hid hR3
         have H2 := Lib.hid h2
         have H3 := Lib.hid h3
         clear hb2 hR3 h2 h3))
    go_loopw [30] (fun i wr => ∃ (j : Nat) (l : List (List UInt8 × Nat)) (r2 : List UInt8) (v : Value), j ≤ n ∧ i = .int .i64 j ∧
      Hid (wr.heap[T3]? = some (.cells #[.int .i64 (cn : Int), .string ⟨#[]⟩, .slice none 0 0, .slice none 0 0, v] 49)) ∧
      Hid (wr.heap[w.heap.size]? = some (.cells #[.int .i64 0, .string ⟨#[]⟩, .slice none 0 0, .slice none 0 0, .slice none 0 0] 49)) ∧
      Hid (wr.ownsRow (T3 + 1) 54 2 v j (l.flatMap fun x => [.string ⟨x.1.toArray⟩, .float .f64 x.2])) ∧ Hid (RdAt N wr R r2) ∧ Hid (RdK R w wr) ∧ Hid (T3 + 1 ≤ wr.heap.size) ∧ Hid (manyR (seqR textR fun _ => eightR) j r = .ok (l, r2))) (fun i _ => n - (intOf i).toNat)
    case atStart => exact ⟨0, [], r, .slice none 0 0, Nat.zero_le _, rfl, H3, H2, Lib.hid ⟨rfl, .inl ⟨rfl, rfl⟩⟩, HR3, HB2, Lib.hid (by have := HS2.out; omega), Lib.hid rfl⟩
    case round =>
      obtain ⟨j, l, r2, v, hj, rfl, H3, H2, HO, HR, HK, HZ, HM⟩ := hrel
      obtain ⟨⟨a0, a1, a2, a3, a4⟩, b0, b1, b2, b3, b4⟩ := five_cells H3.out
      obtain ⟨⟨d0, d1, d2, d3, d4⟩, e0, e1, e2, e3, e4⟩ := five_cells H2.out
      by_cases hlt : j < n
      · have hlti : (j : Int) < (n : Int) := by omega
        have HTX := Lib.hid (rtext_any HR.out (by have := HZ.out; show N ≤ wr.heap.size; omega))
        cases ht : textR r2 with
        | error d =>
          rw [ht] at HTX
          have HE := Lib.hid (HRER.out d (by
            obtain ⟨k, hk⟩ : ∃ k, n = (j + 1) + k := ⟨n - (j + 1), by omega⟩
            rw [hk]
            exact manyR_err _ r d (j + 1) k (by rw [manyR_snoc, HM.out]; simp only [seqR, ht])))
          clear ht
          go_wp2_with (go_at_call 46; refine HTX.out.mono ?_; rintro e w3 ⟨hb3, rfl⟩; have HB3 := Lib.hid (HK.out.trans hb3); clear hb3)
          exact ⟨rfl, .err HE.out HB3.out⟩
        | ok q =>
          obtain ⟨s, r3⟩ := q
          rw [ht] at HTX
          have HT1 := Lib.hid ht
          clear ht a0 a1 a2 a3 a4 b0 b1 b2 b3 b4 d0 d1 d2 d3 d4 e0 e1 e2 e3 e4
          have a0 : wr.cell? ⟨T3, 0, none⟩ = some (.int .i64 (cn : Int)) := cell_of_row wr T3 0 _ _ _ H3.out
          go_upto_region 15 with (go_at_call 46; refine HTX.out.mono ?_; rintro e wt ⟨hb3, rfl, hR3⟩
                                  have h3 := (hb3.block (Array.getElem?_eq_some_iff.1 H3.out).1 (Nat.ne_of_gt (Nat.lt_trans hRB hw3))).trans H3.out
                                  have h2 := (hb3.block (Array.getElem?_eq_some_iff.1 H2.out).1 (Nat.ne_of_gt hRB)).trans H2.out
                                  have HOt := Lib.hid (Chg.ownsRow HO.out hb3 (fun k hk e => by have := (HO.out.lt k hk).1; omega))
                                  have HZt : Hid (T3 + 1 ≤ wt.heap.size) := Lib.hid (Nat.le_trans HZ.out hb3.size)
                                  have HKt := Lib.hid (HK.out.trans hb3)
                                  have HRt := Lib.hid hR3
                                  have H3t := Lib.hid h3
                                  have H2t := Lib.hid h2
                                  clear hb3 hR3 h3 h2 a0)
          obtain ⟨⟨a0, a1, a2, a3, a4⟩, b0, b1, b2, b3, b4⟩ := five_cells H3t.out
          have HTY := Lib.hid (reight_any (HRt.out.below ((Below.refl _ wt).drew)) (by have := HZt.out; show N ≤ wt.heap.size; omega))
          cases ht2 : eightR r3 with
          | error d =>
            rw [ht2] at HTY
            have HE := Lib.hid (HRER.out d (by
            obtain ⟨k, hk⟩ : ∃ k, n = (j + 1) + k := ⟨n - (j + 1), by omega⟩
            rw [hk]
            exact manyR_err _ r d (j + 1) k (by rw [manyR_snoc, HM.out]; simp only [seqR, HT1.out, ht2])))
            clear ht2
            refine wp_region_held_drew (S := fun w' => w'.cell? ⟨T3, 4, none⟩ = some v) hmx a4 (fun hHeld => ?_)
            simp only [List.size_toArray, List.length_cons, List.length_nil, Nat.zero_add, Nat.reduceAdd]
            refine wpAnyH_take (i := 0) (v := ?vv5) rfl (by kernel_rfl) (by kernel_rfl) (by kernel_rfl) (fun _ _ _ h => h) (Or.inl ⟨by rfl, ?hy5⟩) hHeld ?rest5
            case hy5 =>
              intro W hSw
              go_simp
              all_goals with_reducible rfl
            try simp only [Act.put, List.setIfInBounds_toArray, List.set_cons_zero, List.set_cons_succ, List.getElem_toArray, List.getElem_cons_zero, List.getElem_cons_succ]
            refine wpAnyH_take (i := 1) (v := ?vv6) rfl (by kernel_rfl) (by kernel_rfl) (by kernel_rfl) (fun _ _ _ h => h) (Or.inl ⟨by rfl, ?hy6⟩) hHeld ?rest6
            case hy6 =>
              intro W hSw
              go_simp
              all_goals with_reducible rfl
            try simp only [Act.put, List.setIfInBounds_toArray, List.set_cons_zero, List.set_cons_succ, List.getElem_toArray, List.getElem_cons_zero, List.getElem_cons_succ]
            refine wpAnyH_take (i := 2) (v := ?vv7) rfl (by kernel_rfl) (by kernel_rfl) (by kernel_rfl) (fun _ _ _ h => h) (Or.inl ⟨by rfl, ?hy7⟩) hHeld ?rest7
            case hy7 =>
              intro W hSw
              go_simp
              all_goals with_reducible rfl
            try simp only [Act.put, List.setIfInBounds_toArray, List.set_cons_zero, List.set_cons_succ, List.getElem_toArray, List.getElem_cons_zero, List.getElem_cons_succ]
            refine wpAnyH_take (i := 3) (v := ?vv8) rfl (by kernel_rfl) (by kernel_rfl) (by kernel_rfl) (fun _ _ _ h => h) (Or.inl ⟨by rfl, ?hy8⟩) hHeld ?rest8
            case hy8 =>
              intro W hSw
              go_simp
              all_goals with_reducible rfl
            try simp only [Act.put, List.setIfInBounds_toArray, List.set_cons_zero, List.set_cons_succ, List.getElem_toArray, List.getElem_cons_zero, List.getElem_cons_succ]
            refine wpAnyH_ready (rs := [4]) (by kernel_rfl) (by simp) ?_
            refine AllReadyH.cons rfl (fun K hK => ?_) AllReadyH.nil
            go_simp
            refine HTY.out.mono ?_
            rintro e w3 ⟨hb3, rfl⟩
            exact ⟨rfl, .err HE.out (HKt.out.drew.trans hb3)⟩
          | ok q =>
            obtain ⟨s2, r4⟩ := q
            rw [ht2] at HTY
            have HM2 : Hid (manyR (seqR textR fun _ => eightR) (j + 1) r = .ok (l ++ [(s, s2)], r4)) := Lib.hid (by rw [manyR_snoc, HM.out]; simp only [seqR, HT1.out, ht2])
            clear ht2
            go_region_with (go_at_call 48; refine HTY.out.mono ?_; rintro e w3 ⟨hb3, rfl, hR3⟩
                            have h3 := (hb3.block (Array.getElem?_eq_some_iff.1 H3t.out).1 (Nat.ne_of_gt (Nat.lt_trans hRB hw3))).trans H3t.out
                            have h2 := (hb3.block (Array.getElem?_eq_some_iff.1 H2t.out).1 (Nat.ne_of_gt hRB)).trans H2t.out
                            have hO3 := Chg.ownsRow HOt.out (RdK.trans (RdK.of_below ((Below.refl _ wt).drew)) hb3) (fun k hk e => by have := (HOt.out.lt k hk).1; omega)
                            have hZ3 : T3 + 1 ≤ w3.heap.size := Nat.le_trans HZt.out hb3.size
                            obtain ⟨ga, gn, gc, w4, hrun, hO4, hg4, hown⟩ := rv_grow rvRkd hO3 #[.string ⟨s.toArray⟩, .float .f64 s2] rfl (by simp [Value.oneCell']) (by have := hn.2; omega) hZ3
                            have g2 : w3.cell? ⟨T3, 4, none⟩ = some v := cell_of_row w3 T3 4 _ _ _ h3
                            have hne : ∀ k, v.ownBlock = some k → T3 + 1 ≤ k := hown
                            have h4 := (hg4.block T3 (Array.getElem?_eq_some_iff.1 h3).1 (fun e => by have := hne T3 e.symm; omega)).trans h3
                            have h5 := (hg4.block w.heap.size (Array.getElem?_eq_some_iff.1 h2).1 (fun e => by have := hne _ e.symm; omega)).trans h2
                            have g4 : w4.cell? ⟨T3, 4, none⟩ = some v := cell_of_row w4 T3 4 _ _ _ h4
                            have f4 : w4.frozen? ⟨T3, 4, none⟩ = false := frozen_of_row w4 T3 4 _ _ h4
                            have g3 : ∀ o, (w3.alloc o).cell? ⟨T3, 4, none⟩ = some v := fun o => (((Below.refl _ w3).alloc (Nat.le_refl _) o).cell (p := ⟨T3, 4, none⟩) (Array.getElem?_eq_some_iff.1 h3).1).trans g2
                            have HB3 := Lib.hid (HKt.out.drew.trans hb3)
                            have HG4 := Lib.hid hg4
                            have H4 := Lib.hid h4
                            have H5 := Lib.hid h5
                            have HO4 := Lib.hid hO4
                            have HR4 := Lib.hid hR3
                            have HZ3 := Lib.hid hZ3
                            clear hb3 hR3 hO3 hg4 hO4 h3 h2 h4 h5 hown hne hZ3)
            all_goals
              have hoff : ∀ k, v.ownBlock = some k → T3 + 1 ≤ k := fun k hk => (HO.out.lt k hk).1
              go_wp2_with fail
              go_roundw
              case rel =>
                exact ⟨j + 1, l ++ [(s, s2)], r4, .slice ga gn gc, by omega, by go_num, Lib.hid (heap_set_here H4.out _), Lib.hid (heap_set_off H5.out (Nat.ne_of_lt hw3) _),
                  Lib.hid (by
                    have h := Chg.ownsRow HO4.out (Chg.setCell (S := fun k => k = T3) (p := ⟨T3, 4, none⟩) (Chg.refl _ w4) (fun _ => rfl) (.slice ga gn gc)) (fun k hk e => by have := (HO4.out.lt k hk).1; omega)
                    rw [List.flatMap_append]
                    exact h),
                  Lib.hid ((HR4.out.grown HG4.out (fun k hk => by have := hoff k hk; omega)).set_off (by omega) (by omega) _),
                  Lib.hid ((HB3.out.grown HG4.out (fun k hk => by have := hoff k hk; omega) HB3.out.size).set_new (Nat.le_of_lt hw3) _),
                  Lib.hid (by have h1 := HZ3.out; have h2 := HG4.out.size; simp; omega), HM2⟩
              case measure => simp [intOf]; omega
      · obtain rfl : j = n := by omega
        obtain ⟨av, cv, rfl, -⟩ : ∃ a c, v = .slice a j c ∧ True := by
          rcases HO.out.2 with ⟨h0, h4⟩ | ⟨g, cap, cur, h0, -⟩
          · exact ⟨none, 0, by rw [h0, h4], trivial⟩
          · exact ⟨_, _, h0, trivial⟩
        have hlen : j = l.length := by have h := HO.out.1; rw [rv_len2] at h; omega
        go_wp2_with fail
        refine bodyPost_five w.heap.size _ _ _ _ _ Tryz.results47 rfl rfl (heap_fill5 H2.out _ _ _ _ _) ?_
        refine .made (HRES.out l r2 HM.out) (HK.out.fill5 (Nat.le_refl _) _ _ _ _ _) ⟨_, rfl, ?_⟩ (HR.out.fill5 hNB (Nat.ne_of_lt hRB) _ _ _ _ _)
        have hch : Chg (fun k => k = w.heap.size) wr _ := ((((Chg.setCell (S := fun k => k = w.heap.size) (p := ⟨w.heap.size, 0, none⟩) (Chg.refl _ wr) (fun _ => rfl) (.int .i64 (cn : Int))).setCell (p := ⟨w.heap.size, 1, none⟩) (fun _ => rfl) (.string ⟨#[]⟩)).setCell (p := ⟨w.heap.size, 2, none⟩) (fun _ => rfl) (.slice none 0 0)).setCell (p := ⟨w.heap.size, 3, none⟩) (fun _ => rfl) (.slice none 0 0)).setCell (p := ⟨w.heap.size, 4, none⟩) (fun _ => rfl) (.slice av j cv)
        have h := Chg.ownsRow HO.out hch (fun k hk e => by have := (HO.out.lt k hk).1; omega)
        rw [← hlen]
        exact ownsRow_base h (by omega)
end Go.Proofs.YteiklgbjjmlmaaaGreat
