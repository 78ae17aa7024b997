/- Every script with two ranks and copies. The walk. -/
import Derived.Test.YtbjfigegiffefaaZRfK
set_option linter.unusedVariables false
set_option linter.unusedSimpArgs false
namespace Go.Proofs.Ytbjfigegiffefaa
open Go.RowKit Pantry

theorem PS.open0 {w wr : World} {A B r0 m0 r1 m1 : Nat} {tA tB : TypeId} {Z0 Z1 : Nat → Prop} {l0 l1 : List Mb} (h : PS w A B tA tB wr r0 m0 r1 m1 Z0 Z1 l0 l1) :
    ∃ S v M, Rk wr r0 S l0 ∧ Rf wr m0 v M ∧ M.Perm l0 ∧ (∀ k, (k = m0 ∨ v.ownBlock = some k) → k ≠ A) := by
  obtain ⟨⟨S, v, M, g1, g2, g3, g4, g5⟩, g6⟩ := h.h0
  exact ⟨S, v, M, g1, g2, g3, fun k hk => (h.fr k (.inl (g5 k (.inr hk)))).1⟩
theorem PS.open1 {w wr : World} {A B r0 m0 r1 m1 : Nat} {tA tB : TypeId} {Z0 Z1 : Nat → Prop} {l0 l1 : List Mb} (h : PS w A B tA tB wr r0 m0 r1 m1 Z0 Z1 l0 l1) :
    ∃ S v M, Rk wr r1 S l1 ∧ Rf wr m1 v M ∧ M.Perm l1 ∧ (∀ k, (k = m1 ∨ v.ownBlock = some k) → k ≠ A) := by
  obtain ⟨⟨S, v, M, g1, g2, g3, g4, g5⟩, g6⟩ := h.h1
  exact ⟨S, v, M, g1, g2, g3, fun k hk => (h.fr k (.inr (g5 k (.inr hk)))).1⟩
set_option maxHeartbeats 32000000 in
set_option maxRecDepth 100000 in
theorem plays_walk (w : World) (seed : Nat) (hs : seed < 18446744073709551616) (a : Option Addr) (n c : Nat) (ops : List Stp) (hl : OpsAt w a n ops) :
    Calls Try.prog 8 #[.int .u64 seed, .slice a n c] w (OkPost w) := by
  have HL := Lib.hid hl
  have hn := hl.few
  have HN1 := Lib.hid (Rk.new w seed hs)
  have HN2 := fun W => Lib.hid (Rk.new W 0 (by decide))
  have HM := fun W s => Lib.hid (rNew_any W s)
  have HS9 := Lib.hid (show (Try.prog.info? 52).map (·.size) = some 9 by kernel_rfl)
  have tok : True := trivial
  clear hl hs
  go_enter Try.func8, Try.ntmps8
  go_wp2_with (first
    | (go_at_call 18; have _t := tok; refine HN1.out.mono ?_; rintro e w1 ⟨r0, S0, rfl, hr0, hb1, hS0⟩; clear tok _t HN1)
    | (go_at_call 18; refine (HN2 _).out.mono ?_; rintro e w2 ⟨r1, S1, rfl, hr1, hb2, hS1⟩; have tok2 : True := trivial)
    | (go_at_call 29; have _t := tok2; refine (HM _ _).out.mono ?_; rintro e w3 ⟨rfl, hm0, hb3⟩; clear tok2 _t; have tok3 : True := trivial)
    | (go_at_call 29; have _t := tok3; refine (HM _ _).out.mono ?_; rintro e w4 ⟨rfl, hm1, hb4⟩; clear tok3 _t))
  have HI0 : Hid (∃ r0 m0 r1 m1 Z0 Z1 l0 l1, PS w w2.heap.size w4.heap.size 68 71 (w4.alloc (.cells #[.pointer (some ⟨w2.heap.size + 1, 0, none⟩), .pointer (some ⟨w3.heap.size, 0, none⟩)] 71)) r0 m0 r1 m1 Z0 Z1 l0 l1) := Lib.hid (by
    obtain ⟨Z0, Z1, h⟩ := PS.init (tA := 68) (tB := 71) hr0 hb1 hS0 hr1 hb2 hS1 hm0 hb3 hm1 hb4
    exact ⟨_, _, _, _, _, _, _, _, h⟩)
  obtain ⟨w5, hw5⟩ : ∃ w5, w4.alloc (.cells #[.pointer (some ⟨w2.heap.size + 1, 0, none⟩), .pointer (some ⟨w3.heap.size, 0, none⟩)] 71) = w5 := ⟨_, rfl⟩
  rw [hw5] at HI0 ⊢
  clear hw5 hr0 hb1 hS0 hr1 hb2 hS1 hm0 hb3 hm1 hb4 HN2 HM
  generalize hA : w2.heap.size = A at HI0 ⊢
  generalize hB : w4.heap.size = B at HI0 ⊢
  clear hA hB
  go_loopw [19] (fun i wr => ∃ k : Nat, k ≤ n ∧ i = .int .i64 k ∧ Hid (∃ r0 m0 r1 m1 Z0 Z1 l0 l1, PS w A B 68 71 wr r0 m0 r1 m1 Z0 Z1 l0 l1)) (fun i _ => n - (intOf i).toNat)
  case atStart => exact ⟨0, Nat.zero_le _, rfl, HI0⟩
  case round =>
    clear HI0
    obtain ⟨k, hk, rfl, HI⟩ := hrel
    obtain ⟨r0, m0, r1, m1, Z0, Z1, l0, l1, hps⟩ := HI.out
    have HP := Lib.hid hps
    clear hps HI
    by_cases hlt : k < n
    · obtain ⟨o, hok⟩ : ∃ o, ops[k]? = some o := ⟨_, List.getElem?_eq_getElem (by rw [HL.out.len]; exact hlt)⟩
      obtain ⟨y, hy, hcells⟩ := (HL.out.keep HP.out.under).cell k _ hok
      subst hy
      have HCL := Lib.hid (show ∀ j u, o.cells[j]? = some u → wr.cell? ((y.add (k * 9)).add j) = some u from fun j u hj => by rw [Addr.add_add]; exact hcells j u hj)
      have HOK := Lib.hid (HL.out.ok _ (List.mem_of_getElem? hok))
      clear hok hcells
      obtain ⟨who, act, oi, oj, s, x, y, ox, oy⟩ := o
      go_upto_region 6 with (first
        | (refine wpl_load_at rfl _ _ rfl _ rfl _ _ HCL.out Try.underlying52 rfl HS9.out ?_)
        | (refine wpList_store_row rfl _ _ _ rfl wr.heap.size (Stp.cells ⟨who, act, oi, oj, s, x, y, ox, oy⟩).toArray rfl rfl _ _ (heap_alloc_new wr _) HS9.out rfl (cells_one _) ?_
           generalize hw3 : World.setRow _ wr.heap.size (Stp.cells ⟨who, act, oi, oj, s, x, y, ox, oy⟩).toArray = w3
           obtain ⟨f1, f2, f3⟩ := copied hw3
           have e0 : w3.cell? ⟨wr.heap.size, 0, none⟩ = some (.int .i64 who) := cell_of_row w3 wr.heap.size 0 _ _ _ f1
           obtain ⟨⟨e1, e2, e3, e4, e5⟩, e6, e7, e8⟩ := box9 f1
           have HF1 := Lib.hid f1
           have HP3 := Lib.hid (HP.out.below f3)
           have HGA : Hid (wr.heap.size ≠ A ∧ wr.heap.size ≠ B) := Lib.hid (by
             have h1 := block_lt HP.out.a
             have h2 := block_lt HP.out.b
             exact ⟨by omega, by omega⟩)
           clear hw3 f1 f2 f3))
      simp only at e1 e2 e3 e4 e5 e6 e7 e8
      have HE3 : Hid (∃ r0 m0 r1 m1 Z0 Z1 l0 l1, PS w A B 68 71 w3 r0 m0 r1 m1 Z0 Z1 l0 l1) := Lib.hid ⟨_, _, _, _, _, _, _, _, HP3.out⟩
      obtain ⟨⟨A0, A1⟩, -⟩ := two HP3.out.a
      clear HCL HP
      by_cases hw0 : who = 0
      · subst hw0
        by_cases ha : act = 7
        · subst ha
          obtain ⟨S, v, M, g1, g2, g3, g4⟩ := HP3.out.open0
          have HG2 := Lib.hid (show _ ∧ _ ∧ _ from ⟨g2, g3, g4⟩)
          have HCP := Lib.hid ((g1.chg (w' := w3.drew) (T := fun _ => False) (Chg.refl _ w3).drew fun _ _ e => e).copy)
          clear g1 g2 g3 g4
          go_upto_region 8 with fail
          try simp only [Act.put]
          go_cut [19] from 34 to 70 (fun i wx => i = .int .i64 k ∧ Hid (∃ w4 r' S', wx = w4.setCell ⟨A, 1, none⟩ (.pointer (some ⟨r', 0, none⟩)) ∧ Rk w4 r' S' l0 ∧ Below w3.heap.size w3 w4 ∧ (∀ k, S' k → w3.heap.size ≤ k)))
          case first =>
            go_region_with (go_at_call 21; refine HCP.out.mono ?_; clear HCP; rintro e w4 ⟨r', S', rfl, hr', hb4, hS'⟩
                            have HR4 := Lib.hid (show Rk w4 r' S' l0 ∧ Below w3.heap.size w3 w4 ∧ (∀ k, S' k → w3.heap.size ≤ k) from ⟨hr', ⟨hb4.os, hb4.tape, hb4.output, hb4.size, hb4.block⟩, hS'⟩)
                            have x0 : w4.cell? ⟨wr.heap.size, 0, none⟩ = some (.int .i64 0) := cell_of_row w4 wr.heap.size 0 _ _ _ ((hb4.block _ (block_lt HF1.out)).trans HF1.out)
                            obtain ⟨⟨A0', A1'⟩, AF'⟩ := two ((HR4.out.2.1.block _ (block_lt HP3.out.a)).trans HP3.out.a)
                            have AFt' := AF' 1
                            clear hr' hb4 hS' AF')
            all_goals
              go_wp2_with fail
              go_meet
              exact ⟨rfl, Lib.hid ⟨w4, r', S', rfl, HR4.out⟩⟩
          case rest =>
            obtain ⟨rfl, HC8⟩ := hcut
            obtain ⟨w4, r', S', hwx, hr4, hr5, hr6⟩ := HC8.out
            have HR4 := Lib.hid (show _ ∧ _ ∧ _ from ⟨hr4, hr5, hr6⟩)
            subst hwx
            clear hr4 hr5 hr6 HC8
            obtain ⟨w5, hw5⟩ : ∃ w5, w4.setCell ⟨A, 1, none⟩ (.pointer (some ⟨r', 0, none⟩)) = w5 := ⟨_, rfl⟩
            rw [hw5]
            have HW5 := Lib.hid hw5
            have hB4 := (HR4.out.2.1.block _ (block_lt HP3.out.b)).trans HP3.out.b
            have hc5 : Chg (fun k => k = A) w4 w5 := by rw [← hw5]; exact (Chg.refl (fun k => k = A) w4).setCell (p := ⟨A, 1, none⟩) (fun _ => rfl) _
            have hbx5 : w5.heap[wr.heap.size]? = _ := hc5.heap ((HR4.out.2.1.block _ (block_lt HF1.out)).trans HF1.out) HGA.out.1
            have hB5 := hc5.heap hB4 (fun e => HP3.out.ab.1 e.symm)
            have hrf5 : Rf w5.drew m0 v M := (((HG2.out.1.below HR4.out.2.1).chg hc5 (HG2.out.2.2 _ (.inl rfl)) fun k hk => HG2.out.2.2 k (.inr hk)).chg (w' := w5.drew) (T := fun _ => False) (Chg.refl _ w5).drew (fun e => e) fun _ _ e => e)
            have HRC := Lib.hid (rCopy_any w5.drew m0 v M hrf5)
            have HBX5 := Lib.hid hbx5
            have HB5 := Lib.hid hB5
            have x1 : w5.cell? ⟨wr.heap.size, 0, none⟩ = some (.int .i64 0) := cell_of_row w5 wr.heap.size 0 _ _ _ hbx5
            obtain ⟨⟨B0, B1⟩, -⟩ := two hB5
            have hs5 : w5.heap.size = w4.heap.size := by rw [← hw5]; simp
            clear hw5 hB4 hc5 hbx5 hB5 hrf5
            go_upto_region 9 with fail
            go_region_with (go_at_call 30; refine HRC.out.mono ?_; clear HRC; rintro e w6 ⟨m', v', rfl, hm, hb6, hm', hv'⟩
                            have HM6 := Lib.hid (show _ ∧ _ ∧ _ ∧ _ from ⟨hm, (show Below w5.heap.size w5 w6 from ⟨hb6.os, hb6.tape, hb6.output, hb6.size, hb6.block⟩), hm', hv'⟩)
                            have x2 : w6.cell? ⟨wr.heap.size, 0, none⟩ = some (.int .i64 0) := cell_of_row w6 wr.heap.size 0 _ _ _ ((hb6.block _ (block_lt HBX5.out)).trans HBX5.out)
                            obtain ⟨⟨B0', B1'⟩, BF'⟩ := two ((hb6.block _ (block_lt HB5.out)).trans HB5.out)
                            have BFt' := BF' 1
                            clear hm hb6 hm' hv' BF')
            all_goals
              have HE : Hid (∃ r0 m0 r1 m1 Z0 Z1 l0 l1, PS w A B 68 71 (w6.setCell ⟨B, 1, none⟩ (.pointer (some ⟨m', 0, none⟩))) r0 m0 r1 m1 Z0 Z1 l0 l1) := Lib.hid (by
                obtain ⟨q1, q2, q3, q4⟩ := HM6.out
                have q3' : w4.heap.size ≤ m' := by rw [← hs5]; exact q3
                have q4' : ∀ k, v'.ownBlock = some k → w4.heap.size ≤ k := fun k hk => by rw [← hs5]; exact q4 k hk
                rw [← HW5.out] at q2
                obtain ⟨Z', hz⟩ := HP3.out.copy0 HG2.out.2.1 HR4.out.1 HR4.out.2.1 HR4.out.2.2 q1 q2 q3' q4'
                exact ⟨_, _, _, _, _, _, _, _, hz⟩)
              go_wp2_with fail
              go_roundw
              case rel => exact ⟨k + 1, by omega, by go_num, HE⟩
              case measure => simp [intOf]; omega
        · have ha7 : (act == 7) = false := by simpa using ha
          clear ha
          have HPL : Hid (Calls Try.prog 31 #[.pointer (some ⟨r0, 0, none⟩), .pointer (some ⟨m0, 0, none⟩), .agg #[.int .i64 0, .int .i64 act, .int .i64 oi, .int .i64 oj, .string ⟨s.toArray⟩, .int .u64 x, .int .u64 y, .bool ox, .bool oy]] w3.drew (PlayPost r0 m0 Z0 w3.drew)) := Lib.hid
            (plays_any w3.drew r0 m0 Z0 _ ⟨0, act, oi, oj, s, x, y, ox, oy⟩ (HP3.out.h0.chg (w' := w3.drew) (T := fun _ => False) (Chg.refl _ w3).drew fun _ _ e => e) HOK.out)
          obtain ⟨⟨B0, B1⟩, -⟩ := two HP3.out.b
          go_upto_region 10 with fail
          go_region_with (go_at_call 31; refine HPL.out.mono ?_; clear HPL; rintro e w4 ⟨rfl, l', ht⟩
                          have HE : Hid (∃ r0 m0 r1 m1 Z0 Z1 l0 l1, PS w A B 68 71 w4 r0 m0 r1 m1 Z0 Z1 l0 l1) := Lib.hid (by
                            obtain ⟨Z', hz⟩ := HP3.out.step0 (w' := w4) (l' := l') ⟨ht.ex, ⟨ht.chg.os, ht.chg.tape, ht.chg.output, ht.chg.size, ht.chg.block⟩⟩
                            exact ⟨_, _, _, _, _, _, _, _, hz⟩)
                          clear ht)
          all_goals
            go_wp2_with fail
            go_roundw
            case rel => exact ⟨k + 1, by omega, by go_num, HE⟩
            case measure => simp [intOf]; omega
      · by_cases hw1 : who = 1
        · subst hw1
          by_cases ha : act = 7
          · subst ha
            obtain ⟨S, v, M, g1, g2, g3, g4⟩ := HP3.out.open1
            have HG2 := Lib.hid (show _ ∧ _ ∧ _ from ⟨g2, g3, g4⟩)
            have HCP := Lib.hid ((g1.chg (w' := w3.drew) (T := fun _ => False) (Chg.refl _ w3).drew fun _ _ e => e).copy)
            clear g1 g2 g3 g4
            go_upto_region 8 with fail
            try simp only [Act.put]
            go_cut [19] from 34 to 70 (fun i wx => i = .int .i64 k ∧ Hid (∃ w4 r' S', wx = w4.setCell ⟨A, 0, none⟩ (.pointer (some ⟨r', 0, none⟩)) ∧ Rk w4 r' S' l1 ∧ Below w3.heap.size w3 w4 ∧ (∀ k, S' k → w3.heap.size ≤ k)))
            case first =>
              go_region_with (go_at_call 21; refine HCP.out.mono ?_; clear HCP; rintro e w4 ⟨r', S', rfl, hr', hb4, hS'⟩
                              have HR4 := Lib.hid (show Rk w4 r' S' l1 ∧ Below w3.heap.size w3 w4 ∧ (∀ k, S' k → w3.heap.size ≤ k) from ⟨hr', ⟨hb4.os, hb4.tape, hb4.output, hb4.size, hb4.block⟩, hS'⟩)
                              have x0 : w4.cell? ⟨wr.heap.size, 0, none⟩ = some (.int .i64 1) := cell_of_row w4 wr.heap.size 0 _ _ _ ((hb4.block _ (block_lt HF1.out)).trans HF1.out)
                              obtain ⟨⟨A0', A1'⟩, AF'⟩ := two ((HR4.out.2.1.block _ (block_lt HP3.out.a)).trans HP3.out.a)
                              have AFt' := AF' 0
                              clear hr' hb4 hS' AF')
              all_goals
                go_wp2_with fail
                go_meet
                exact ⟨rfl, Lib.hid ⟨w4, r', S', rfl, HR4.out⟩⟩
            case rest =>
              obtain ⟨rfl, HC8⟩ := hcut
              obtain ⟨w4, r', S', hwx, hr4, hr5, hr6⟩ := HC8.out
              have HR4 := Lib.hid (show _ ∧ _ ∧ _ from ⟨hr4, hr5, hr6⟩)
              subst hwx
              clear hr4 hr5 hr6 HC8
              obtain ⟨w5, hw5⟩ : ∃ w5, w4.setCell ⟨A, 0, none⟩ (.pointer (some ⟨r', 0, none⟩)) = w5 := ⟨_, rfl⟩
              rw [hw5]
              have HW5 := Lib.hid hw5
              have hB4 := (HR4.out.2.1.block _ (block_lt HP3.out.b)).trans HP3.out.b
              have hc5 : Chg (fun k => k = A) w4 w5 := by rw [← hw5]; exact (Chg.refl (fun k => k = A) w4).setCell (p := ⟨A, 0, none⟩) (fun _ => rfl) _
              have hbx5 : w5.heap[wr.heap.size]? = _ := hc5.heap ((HR4.out.2.1.block _ (block_lt HF1.out)).trans HF1.out) HGA.out.1
              have hB5 := hc5.heap hB4 (fun e => HP3.out.ab.1 e.symm)
              have hrf5 : Rf w5.drew m1 v M := (((HG2.out.1.below HR4.out.2.1).chg hc5 (HG2.out.2.2 _ (.inl rfl)) fun k hk => HG2.out.2.2 k (.inr hk)).chg (w' := w5.drew) (T := fun _ => False) (Chg.refl _ w5).drew (fun e => e) fun _ _ e => e)
              have HRC := Lib.hid (rCopy_any w5.drew m1 v M hrf5)
              have HBX5 := Lib.hid hbx5
              have HB5 := Lib.hid hB5
              have x1 : w5.cell? ⟨wr.heap.size, 0, none⟩ = some (.int .i64 1) := cell_of_row w5 wr.heap.size 0 _ _ _ hbx5
              obtain ⟨⟨B0, B1⟩, -⟩ := two hB5
              have hs5 : w5.heap.size = w4.heap.size := by rw [← hw5]; simp
              clear hw5 hB4 hc5 hbx5 hB5 hrf5
              go_upto_region 9 with fail
              go_region_with (go_at_call 30; refine HRC.out.mono ?_; clear HRC; rintro e w6 ⟨m', v', rfl, hm, hb6, hm', hv'⟩
                              have HM6 := Lib.hid (show _ ∧ _ ∧ _ ∧ _ from ⟨hm, (show Below w5.heap.size w5 w6 from ⟨hb6.os, hb6.tape, hb6.output, hb6.size, hb6.block⟩), hm', hv'⟩)
                              have x2 : w6.cell? ⟨wr.heap.size, 0, none⟩ = some (.int .i64 1) := cell_of_row w6 wr.heap.size 0 _ _ _ ((hb6.block _ (block_lt HBX5.out)).trans HBX5.out)
                              obtain ⟨⟨B0', B1'⟩, BF'⟩ := two ((hb6.block _ (block_lt HB5.out)).trans HB5.out)
                              have BFt' := BF' 0
                              clear hm hb6 hm' hv' BF')
              all_goals
                have HE : Hid (∃ r0 m0 r1 m1 Z0 Z1 l0 l1, PS w A B 68 71 (w6.setCell ⟨B, 0, none⟩ (.pointer (some ⟨m', 0, none⟩))) r0 m0 r1 m1 Z0 Z1 l0 l1) := Lib.hid (by
                  obtain ⟨q1, q2, q3, q4⟩ := HM6.out
                  have q3' : w4.heap.size ≤ m' := by rw [← hs5]; exact q3
                  have q4' : ∀ k, v'.ownBlock = some k → w4.heap.size ≤ k := fun k hk => by rw [← hs5]; exact q4 k hk
                  rw [← HW5.out] at q2
                  obtain ⟨Z', hz⟩ := HP3.out.copy1 HG2.out.2.1 HR4.out.1 HR4.out.2.1 HR4.out.2.2 q1 q2 q3' q4'
                  exact ⟨_, _, _, _, _, _, _, _, hz⟩)
                go_wp2_with fail
                go_roundw
                case rel => exact ⟨k + 1, by omega, by go_num, HE⟩
                case measure => simp [intOf]; omega
          · have ha7 : (act == 7) = false := by simpa using ha
            clear ha
            have HPL : Hid (Calls Try.prog 31 #[.pointer (some ⟨r1, 0, none⟩), .pointer (some ⟨m1, 0, none⟩), .agg #[.int .i64 1, .int .i64 act, .int .i64 oi, .int .i64 oj, .string ⟨s.toArray⟩, .int .u64 x, .int .u64 y, .bool ox, .bool oy]] w3.drew (PlayPost r1 m1 Z1 w3.drew)) := Lib.hid
              (plays_any w3.drew r1 m1 Z1 _ ⟨1, act, oi, oj, s, x, y, ox, oy⟩ (HP3.out.h1.chg (w' := w3.drew) (T := fun _ => False) (Chg.refl _ w3).drew fun _ _ e => e) HOK.out)
            obtain ⟨⟨B0, B1⟩, -⟩ := two HP3.out.b
            go_upto_region 10 with fail
            go_region_with (go_at_call 31; refine HPL.out.mono ?_; clear HPL; rintro e w4 ⟨rfl, l', ht⟩
                            have HE : Hid (∃ r0 m0 r1 m1 Z0 Z1 l0 l1, PS w A B 68 71 w4 r0 m0 r1 m1 Z0 Z1 l0 l1) := Lib.hid (by
                              obtain ⟨Z', hz⟩ := HP3.out.step1 (w' := w4) (l' := l') ⟨ht.ex, ⟨ht.chg.os, ht.chg.tape, ht.chg.output, ht.chg.size, ht.chg.block⟩⟩
                              exact ⟨_, _, _, _, _, _, _, _, hz⟩)
                            clear ht)
            all_goals
              go_wp2_with fail
              go_roundw
              case rel => exact ⟨k + 1, by omega, by go_num, HE⟩
              case measure => simp [intOf]; omega
        · by_cases hn0 : who < 0
          · have hd0 : decide (who < 0) = true := decide_eq_true hn0
            clear HP3 A0 A1
            go_wp2_with fail
            go_roundw
            case rel => exact ⟨k + 1, by omega, by go_num, HE3⟩
            case measure => simp [intOf]; omega
          · have hd0 : decide (who < 0) = false := decide_eq_false hn0
            have hd1 : decide (1 < who) = true := decide_eq_true (by omega)
            have hd2 : 1 < who := by omega
            clear HP3 A0 A1
            go_wp2_with fail
            go_roundw
            case rel => exact ⟨k + 1, by omega, by go_num, HE3⟩
            case measure => simp [intOf]; omega
    · obtain ⟨⟨A0, A1⟩, -⟩ := two HP.out.a
      obtain ⟨⟨B0, B1⟩, -⟩ := two HP.out.b
      have HR0 := Lib.hid (lrow_any wr r0 m0 Z0 l0 0 1048576 HP.out.h0)
      have HR1 := Lib.hid (fun W (hW : Below wr.heap.size wr W) => lrow_any W r1 m1 Z1 l1 0 1048576 (HP.out.h1.below hW))
      have HU := Lib.hid HP.out.under
      have HAB := Lib.hid (show _ ∧ _ from ⟨HP.out.a, HP.out.b⟩)
      clear hk
      go_wp2_with (first
        | (go_at_call 32; refine HR0.out.mono ?_; clear HR0; rintro e w3 ⟨rfl, hb3⟩
           have HR3 := Lib.hid (HR1.out w3 hb3)
           obtain ⟨⟨A0', A1'⟩, -⟩ := two ((hb3.block _ (block_lt HAB.out.1)).trans HAB.out.1)
           obtain ⟨⟨B0', B1'⟩, -⟩ := two ((hb3.block _ (block_lt HAB.out.2)).trans HAB.out.2)
           have HU3 := Lib.hid (HU.out.trans (hb3.mono HU.out.size))
           clear hb3 HR1)
        | (go_at_call 32; refine HR3.out.mono ?_; clear HR3; rintro e w4 ⟨rfl, hb4⟩
           have HU4 := Lib.hid (HU3.out.trans (hb4.mono HU3.out.size))
           clear hb4))
      go_ret
      exact ⟨rfl, HU4.out⟩
end Go.Proofs.Ytbjfigegiffefaa
