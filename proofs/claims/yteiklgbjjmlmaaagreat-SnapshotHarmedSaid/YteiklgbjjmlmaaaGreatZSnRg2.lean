
/- The law's own right: its walk (printed by tools/gen-right.py). -/
import Derived.Test.YteiklgbjjmlmaaaGreatZSnOut
import Derived.BigQuiet
import Derived.Deep.RegionHeld3
set_option linter.unusedVariables false
set_option linter.unusedSimpArgs false
namespace Go.Proofs.YteiklgbjjmlmaaaGreat
open Go.RowKit Pantry

def RightPost (n : Nat) (w : World) (e : Ending) (w' : World) : Prop := ∃ (t : Nat) (L : List SX) (v : Value), e = .returned (.tuple #[.int .i64 t, v]) ∧ t ≤ 9007199254740992 ∧ Below w.heap.size w w' ∧ OutS w' w.heap.size v L ∧ RightL (L.map (·.1)) ∧ L.length ≤ n
theorem seven_cells {w : World} {g : Nat} {c0 c1 c2 c3 c4 c5 c6 : Value} {t : TypeId} (h : w.heap[g]? = some (.cells #[c0, c1, c2, c3, c4, c5, c6] t)) :
    (w.cell? ⟨g, 0, none⟩ = some c0 ∧ w.cell? ⟨g, 1, none⟩ = some c1 ∧ w.cell? ⟨g, 2, none⟩ = some c2 ∧ w.cell? ⟨g, 3, none⟩ = some c3 ∧ w.cell? ⟨g, 4, none⟩ = some c4 ∧ w.cell? ⟨g, 5, none⟩ = some c5 ∧ w.cell? ⟨g, 6, none⟩ = some c6) ∧
    (w.frozen? ⟨g, 1, none⟩ = false ∧ w.frozen? ⟨g, 2, none⟩ = false ∧ w.frozen? ⟨g, 3, none⟩ = false ∧ w.frozen? ⟨g, 4, none⟩ = false ∧ w.frozen? ⟨g, 5, none⟩ = false ∧ w.frozen? ⟨g, 6, none⟩ = false) :=
  ⟨⟨cell_of_row w g 0 _ _ _ h, cell_of_row w g 1 _ _ _ h, cell_of_row w g 2 _ _ _ h, cell_of_row w g 3 _ _ _ h, cell_of_row w g 4 _ _ _ h, cell_of_row w g 5 _ _ _ h, cell_of_row w g 6 _ _ _ h⟩,
   frozen_of_row w g 1 _ _ h, frozen_of_row w g 2 _ _ h, frozen_of_row w g 3 _ _ h, frozen_of_row w g 4 _ _ h, frozen_of_row w g 5 _ _ h, frozen_of_row w g 6 _ _ h⟩
attribute [-go_sem] Builtin.append_
set_option maxRecDepth 100000 in
set_option maxHeartbeats 16000000 in
theorem lright_any (w : World) (now : Int) (hnow : -9223372036854775808 ≤ now ∧ now ≤ 9223372036854775807) (a : Option Addr) (n c : Nat) (l : List SE) (hl : l.length = n) (hn : n ≤ 1172812402961) (hr : SRow w a l) (hB : ∀ x ∈ l, PlainBig x.val) (hk : ∀ x ∈ l, x.key.length < 281474976710656)
    (hd : ∀ x ∈ l, -9223372036854775808 ≤ x.dl ∧ x.dl ≤ 9223372036854775807) (h64 : Bits64 l) :
    Calls Tryz.prog 22 #[.int .i64 now, .slice a n c] w (RightPost n w) := by
  have HR := Lib.hid hr
  have HL := Lib.hid hl
  have HPB := Lib.hid hB
  have HKY := Lib.hid hk
  have HDL := Lib.hid hd
  have H64 := Lib.hid h64
  obtain ⟨tn, htn, hwn⟩ : ∃ r : Nat, r ≤ 9007199254740992 ∧ ∀ w, Calls Tryz.prog 52 #[.int .i64 now] w fun e w' => e = .returned (.int .i64 r) ∧ w = w' := by
    have hb := tmod_bounds now 9007199254740993 (by decide)
    rw [show ((9007199254740993 : Nat) : Int) = 9007199254740993 from rfl] at hb
    exact ⟨(now.tmod 9007199254740993).natAbs, by omega, fun w => (within_at w now hnow)⟩
  have HWN := fun w => Lib.hid (hwn w)
  clear hr hl hB hk hd h64 hwn hnow
  go_enter Tryz.func22, Tryz.ntmps22
  go_wp2_with fail
  go_loopw [6, 15] (fun v i wr => ∃ (j : Nat) (L : List SX), j ≤ n ∧ i = .int .i64 j ∧ Hid (OutS wr w.heap.size v L) ∧ Hid (RightL (L.map (·.1))) ∧ Hid (L.length ≤ j) ∧ Hid (Below w.heap.size w wr)) (fun _ i _ => n - (intOf i).toNat)
  case atStart => exact ⟨0, [], Nat.zero_le _, rfl, Lib.hid (OutS.nil _ _), Lib.hid ⟨List.Pairwise.nil, by simp⟩, Lib.hid (Nat.le_refl _), Lib.hid (Below.refl _ _)⟩
  case round =>
    obtain ⟨j, L, hj, rfl, HO, HRL, HLL, HBR⟩ := hrel
    by_cases hlt : j < n
    · have hlti : (j : Int) < (n : Int) := by omega
      obtain ⟨x, hx⟩ : ∃ x, l[j]? = some x := ⟨_, List.getElem?_eq_getElem (by rw [HL.out]; exact hlt)⟩
      have hmem := List.mem_of_getElem? hx
      obtain ⟨p, rfl, a1, a2, a3, c1, c2, c3, hcl, hpl⟩ := (HR.out.below HBR.out) j x hx
      obtain ⟨A, hA⟩ : ∃ A, wr.alloc (.cells (seC x a1 a2 a3 c1 c2 c3).toArray 51) = A := ⟨_, rfl⟩
      have hbA : Below wr.heap.size wr A := by rw [← hA]; exact (Below.refl _ _).alloc (Nat.le_refl _) _
      have hX : A.heap[wr.heap.size]? = some (.cells (seC x a1 a2 a3 c1 c2 c3).toArray 51) := by rw [← hA]; exact heap_alloc_new wr _
      have hAs : A.heap.size = wr.heap.size + 1 := by rw [← hA]; simp
      have HSZ := Lib.hid (show (Tryz.prog.info? 51).map (·.size) = some (seC x a1 a2 a3 c1 c2 c3).length by kernel_rfl)
      have HCL := Lib.hid hcl
      have HPL := Lib.hid (hpl.below hbA)
      have HBG := Lib.hid (HPB.out x hmem)
      have hkl := HKY.out x hmem
      have HDX := Lib.hid (HDL.out x hmem)
      have H6X := Lib.hid (H64.out x hmem)
      have HBX := Lib.hid hbA
      simp only [seC] at hX HSZ HCL hA
      have HX := Lib.hid hX
      have HAS := Lib.hid hAs
      obtain ⟨⟨e0, e1, e2, e3, e4, e5, e6⟩, -⟩ := seven_cells hX
      clear hx hmem hcl hpl hbA hX hAs
      go_upto_region 5 with (refine wpl_load_at rfl 51 _ rfl (p.add (j * 7)) rfl _ _ HCL.out Tryz.underlying51 rfl HSZ.out ?_)
      by_cases hz : wrongP x.val = 0
      · have HOF := Lib.hid (of_any A x.val a1 a2 a3 c1 c2 c3 1 (by decide) HPL.out HBG.out hz)
        have HZ := Lib.hid hz
        simp only [Tryz.plainCells] at HOF
        clear hz
        go_upto_region 6 with (go_at_call 49; refine HOF.out.mono ?_; rintro e w2 ⟨v2, q, rfl, hcan, hval, hb2⟩
                               have HCN := Lib.hid hcan
                               have HVL := Lib.hid hval
                               have HB2 := Lib.hid (HBX.out.trans (hb2.mono (by rw [HAS.out]; omega)))
                               have HX2 := Lib.hid ((hb2.block _ (Array.getElem?_eq_some_iff.1 HX.out).1).trans HX.out)
                               have HEM := Lib.hid (empty_any hval)
                               clear hcan hval hb2)
        clear e0 e1 e2 e3 e4 e5 e6
        obtain ⟨⟨e0, e1, e2, e3, e4, e5, e6⟩, -⟩ := seven_cells HX2.out
        cases hem : emptyP q with
        | true =>
          rw [hem] at HEM
          clear hem
          go_wp2_with (go_at_call 50; refine HEM.out.mono ?_; rintro e w3 ⟨rfl, hb3⟩; have HB3 := Lib.hid (HB2.out.trans (hb3.mono HB2.out.size)); clear hb3)
          go_roundw
          case rel => exact ⟨j + 1, L, by omega, by go_num, Lib.hid (HO.out.below HB3.out), HRL, Lib.hid (by have := HLL.out; omega), Lib.hid (HBR.out.trans (HB3.out.mono HBR.out.size))⟩
          case measure => simp [intOf]; omega
        | false =>
          rw [hem] at HEM
          have HRG := Lib.hid (canon_right HZ.out HCN.out hem)
          clear hem
          by_cases hlong : x.key.length ≤ 1048576
          · have hli : ¬ (1048576 : Int) < (x.key.length : Int) := by omega
            have HLO := Lib.hid hlong
            clear hlong
            go_upto_region 7 with (go_at_call 50; refine HEM.out.mono ?_; rintro e w3 ⟨rfl, hb3⟩
                                   have HB3 := Lib.hid (HB2.out.trans (hb3.mono HB2.out.size))
                                   have HX3 := Lib.hid ((hb3.block _ (Array.getElem?_eq_some_iff.1 HX2.out).1).trans HX2.out)
                                   have g0 : w3.cell? ⟨wr.heap.size, 0, none⟩ = some (.string ⟨x.key.toArray⟩) := cell_of_row w3 _ 0 _ _ _ HX3.out
                                   have HTN := Lib.hid (told_new (HVL.out.below hb3))
                                   have HZ3 : Hid (wr.heap.size + 1 ≤ w3.heap.size) := Lib.hid (Array.getElem?_eq_some_iff.1 HX3.out).1
                                   clear hb3)
            clear e0 e1 e2 e3 e4 e5 e6 g0
            go_upto_region 8 with (go_at_call 51; refine HTN.out.mono ?_; rintro e w4 ⟨b1, b2, b3, d1, d2, d3, rfl, hpl, hb4, hfr⟩
                                   have HB4 := Lib.hid (HB3.out.trans (hb4.mono HB3.out.size))
                                   have hx4 := (hb4.block _ (Array.getElem?_eq_some_iff.1 HX3.out).1).trans HX3.out
                                   have HX4 := Lib.hid hx4
                                   have HPN := Lib.hid hpl
                                   have HFR := Lib.hid hfr
                                   simp only [Tryz.plainCells]
                                   obtain ⟨⟨e0, e1, e2, e3, e4, e5, e6⟩, f1, f2, f3, f4, f5, f6⟩ := seven_cells hx4
                                   clear hb4 hpl hfr hx4)
            obtain ⟨W4, hW4⟩ : ∃ W4, (((((w4.setCell ⟨wr.heap.size, 1, none⟩ (.int .i64 q.kind)).setCell ⟨wr.heap.size, 2, none⟩ (.string ⟨q.text.toArray⟩)).setCell ⟨wr.heap.size, 3, none⟩ (.slice b1 q.items.length d1)).setCell ⟨wr.heap.size, 4, none⟩ (.slice b2 q.pairs.length d2)).setCell ⟨wr.heap.size, 5, none⟩ (.slice b3 q.ranks.length d3)) = W4 := ⟨_, rfl⟩
            have hX5 : W4.heap[wr.heap.size]? = some (.cells #[.string ⟨x.key.toArray⟩, .int .i64 q.kind, .string ⟨q.text.toArray⟩, .slice b1 q.items.length d1, .slice b2 q.pairs.length d2, .slice b3 q.ranks.length d3, .int .i64 x.dl] 51) := by
              rw [← hW4]
              exact heap_set_here (heap_set_here (heap_set_here (heap_set_here (heap_set_here HX4.out _) _) _) _) _
            have hc4 : Chg (fun k => k = wr.heap.size) w4 W4 := by
              rw [← hW4]
              exact ((((Chg.setCell (S := fun k => k = wr.heap.size) (p := ⟨wr.heap.size, 1, none⟩) (Chg.refl _ w4) (fun _ => rfl) _).setCell (p := ⟨wr.heap.size, 2, none⟩) (fun _ => rfl) _).setCell (p := ⟨wr.heap.size, 3, none⟩) (fun _ => rfl) _).setCell (p := ⟨wr.heap.size, 4, none⟩) (fun _ => rfl) _).setCell (p := ⟨wr.heap.size, 5, none⟩) (fun _ => rfl) _
            have HX5 := Lib.hid hX5
            have HC4 := Lib.hid hc4
            rw [hW4]
            clear e0 e1 e2 e3 e4 e5 e6 f1 f2 f3 f4 f5 f6
            obtain ⟨⟨e0, e1, e2, e3, e4, e5, e6⟩, -, -, -, -, -, f6⟩ := seven_cells hX5
            obtain ⟨td, htd, hwd⟩ : ∃ r : Nat, r ≤ 9007199254740992 ∧ Calls Tryz.prog 52 #[.int .i64 x.dl] W4 fun e w' => e = .returned (.int .i64 r) ∧ W4 = w' := by
              have hb := tmod_bounds x.dl 9007199254740993 (by decide)
              rw [show ((9007199254740993 : Nat) : Int) = 9007199254740993 from rfl] at hb
              exact ⟨(x.dl.tmod 9007199254740993).natAbs, by omega, within_at W4 x.dl HDX.out⟩
            have HWD := Lib.hid hwd
            have HTD := Lib.hid htd
            clear hwd htd hX5 hc4 hW4
            go_upto_region 9 with (go_at_call 52; refine HWD.out.mono ?_; rintro e w5 ⟨rfl, rfl⟩)
            obtain ⟨W5, hW5⟩ : ∃ W5, W4.setCell ⟨wr.heap.size, 6, none⟩ (.int .i64 (td : Int)) = W5 := ⟨_, rfl⟩
            have hX6 : W5.heap[wr.heap.size]? = some (.cells #[.string ⟨x.key.toArray⟩, .int .i64 q.kind, .string ⟨q.text.toArray⟩, .slice b1 q.items.length d1, .slice b2 q.pairs.length d2, .slice b3 q.ranks.length d3, .int .i64 (td : Int)] 51) := by
              rw [← hW5]
              exact heap_set_here HX5.out _
            have hc5 : Chg (fun k => k = wr.heap.size) w4 W5 := by rw [← hW5]; exact HC4.out.setCell (p := ⟨wr.heap.size, 6, none⟩) (fun _ => rfl) _
            rw [hW5]
            obtain ⟨X, hXX⟩ : ∃ X, wr.heap.size = X := ⟨_, rfl⟩
            obtain ⟨qx, hqx⟩ : ∃ qx : SX, qx = (⟨x.key, q, (td : Int)⟩, (b1, b2, b3), (d1, d2, d3)) := ⟨_, rfl⟩
            have hfarX : Far qx X := by
              rw [hqx]
              rintro y (⟨h1, -⟩ | ⟨h1, -⟩ | ⟨h1, -⟩) he
              · have := HFR.out y (.inl h1); have := HZ3.out; omega
              · have := HFR.out y (.inr (.inl h1)); have := HZ3.out; omega
              · have := HFR.out y (.inr (.inr h1)); have := HZ3.out; omega
            have hpq4 : PlainAt w4 qx.1.val qx.2.1.1 qx.2.1.2.1 qx.2.1.2.2 := by rw [hqx]; exact HPN.out
            have hb5 : Below wr.heap.size wr W5 := HB4.out.trans (hc5.below HB4.out.size (fun k hk => by omega))
            have ho5 := HO.out.below hb5
            have hap : Apart W5 u6 qx := ⟨plain_chg hpq4 hc5 (fun k hk => by rw [hk, hXX]; exact hfarX), fun k hk y hy he => by
              have h1 := (HO.out.row.lt k hk).2
              rw [hqx] at hy
              rcases hy with ⟨hy, -⟩ | ⟨hy, -⟩ | ⟨hy, -⟩
              · have := HFR.out y (.inl hy); have := HZ3.out; omega
              · have := HFR.out y (.inr (.inl hy)); have := HZ3.out; omega
              · have := HFR.out y (.inr (.inr hy)); have := HZ3.out; omega⟩
            have hgx : GoodE qx.1 := by
              rw [hqx]
              exact ⟨HLO.out, ⟨by show (0 : Int) ≤ (td : Int); omega, by show (td : Int) ≤ _; have := HTD.out; omega⟩, HRG.out, canon_bits HCN.out H6X.out⟩
            have HGX := Lib.hid hgx
            have HAP := Lib.hid hap
            have HO5 := Lib.hid ho5
            have HB5 := Lib.hid hb5
            have HX6 := Lib.hid hX6
            have hxl : ∀ k, u6.ownBlock = some k → k < X := fun k hk => by rw [← hXX]; exact (HO.out.row.lt k hk).2
            have HXL := Lib.hid hxl
            have HFX := Lib.hid hfarX
            have HQX := Lib.hid hqx
            have HKX := Lib.hid (show qx.1.key = x.key by rw [hqx])
            clear e0 e1 e2 e3 e4 e5 e6 f6
            obtain ⟨⟨e0, e1, e2, e3, e4, e5, e6⟩, -⟩ := seven_cells hX6
            obtain ⟨ay, cy, rfl, hmc, hsr⟩ := ho5.srow
            obtain ⟨m, hm⟩ : ∃ m, L.length = m := ⟨_, rfl⟩
            have hmj : m ≤ j := by rw [← hm]; exact HLL.out
            have hmn : m ≤ n := by omega
            rw [hm]
            rw [hm] at HO5 HAP HXL HO
            have HM := Lib.hid hm
            have HSR := Lib.hid hsr
            rw [hXX] at e0 e1 e2 e3 e4 e5 e6 HB5 HX6 ⊢
            obtain ⟨xk, hxk⟩ : ∃ xk, x.key = xk := ⟨_, rfl⟩
            rw [hxk] at e0 HKX
            have HXK := Lib.hid hxk
            have HXS := Lib.hid hXX
            clear hxk hXX
            clear hW5 hX6 hc5 hfarX hpq4 hb5 ho5 hap hgx hxl hqx hm hsr hmc
            go_wp2_with fail
            go_loopw [11] (fun i wx => ∃ k : Nat, k ≤ m ∧ i = .int .i64 k ∧ Hid (∀ y ∈ (L.map (·.1)).take k, cmpB y.key xk < 0) ∧ ∃ q, wx = W5.drewN q) (fun i _ => m - (intOf i).toNat)
            case atStart => exact ⟨0, Nat.zero_le _, rfl, Lib.hid (by simp), 0, rfl⟩
            case round =>
              obtain ⟨k, hk, rfl, HLS, qq, rfl⟩ := hrel
              by_cases hkm : k < m
              · have hkmi : (k : Int) < (m : Int) := by omega
                obtain ⟨y, hy⟩ : ∃ y, (L.map (·.1))[k]? = some y := ⟨_, List.getElem?_eq_getElem (by rw [List.length_map, HM.out]; exact hkm)⟩
                obtain ⟨z, hz0, y1, y2, y3, g1, g2, g3, hyc, -⟩ := HSR.out k y hy
                subst hz0
                have hyk : W5.cell? (z.add (k * 7)) = some (.string ⟨y.key.toArray⟩) := hyc 0 _ rfl
                obtain ⟨yk, hyk2⟩ : ∃ yk, y.key = yk := ⟨_, rfl⟩
                rw [hyk2] at hyk
                have HYK := Lib.hid hyk2
                have HY := Lib.hid hy
                clear hyc hyk2 hy
                by_cases hless : cmpB yk xk < 0
                · have hbl : Op.bytesLess yk xk = true := by rw [bytesLess_iff]; exact decide_eq_true hless
                  have HLX : Hid (∀ y ∈ (L.map (·.1)).take (k + 1), cmpB y.key xk < 0) := Lib.hid (by
                    intro u hu
                    obtain ⟨h1, h2⟩ := List.getElem?_eq_some_iff.1 HY.out
                    rw [List.take_succ_eq_append_getElem h1, h2] at hu
                    rcases List.mem_append.1 hu with hu | hu
                    · exact HLS.out u hu
                    · obtain rfl := List.mem_singleton.1 hu
                      rw [HYK.out]; exact hless)
                  clear hless
                  go_wp2_with fail
                  go_quiet (fail)
                  go_wp2_with fail
                  go_roundw
                  case rel => exact ⟨k + 1, by omega, by go_num, HLX, _, rfl⟩
                  case measure => simp [intOf]; omega
                · have hbl : Op.bytesLess yk xk = false := by rw [bytesLess_iff]; exact decide_eq_false hless
                  by_cases hyx : yk = xk
                  · subst hyx
                    clear hless
                    go_wp2_with fail
                    go_quiet (fail)
                    go_wp2_with fail
                    go_quiet (fail)
                    go_wp2_with fail
                    go_roundw
                    case rel => exact ⟨j + 1, L, by omega, by go_num, Lib.hid (HO5.out.below ⟨rfl, rfl, rfl, Nat.le_refl _, fun _ _ => rfl⟩), HRL, Lib.hid (by have := HLL.out; omega), Lib.hid ((HBR.out.trans (HB5.out.mono (by rw [← HXS.out]; exact HBR.out.size))).trans ⟨rfl, rfl, rfl, Nat.le_refl _, fun _ _ => rfl⟩)⟩
                    case measure => simp [intOf]; omega
                  · have hne : (yk == xk) = false := by simpa using hyx
                    have HGT : Hid (∀ u, (L.map (·.1))[k]? = some u → cmpB xk u.key < 0) := Lib.hid (by
                      intro u hu
                      rw [HY.out] at hu
                      obtain rfl := Option.some.inj hu
                      rw [HYK.out]
                      rcases cmpB_tri hyx with h | h
                      · exact absurd h hless
                      · exact h)
                    clear hless hyx
                    go_wp2_with fail
                    go_quiet (fail)
                    rename Nat => n1
                    go_wp2_with fail
                    go_quiet (fail)
                    rename Nat => n2
                    go_upto_region 13 with fail
                    obtain ⟨Wc, hWc⟩ : ∃ Wc, ((W5.drewN qq).drewN n1).drewN n2 = Wc := ⟨_, rfl⟩
                    have hbc : Below W5.heap.size W5 Wc := by rw [← hWc]; exact ⟨rfl, rfl, rfl, Nat.le_refl _, fun _ _ => rfl⟩
                    have hhc : Wc.heap = W5.heap := by rw [← hWc]; rfl
                    rw [hWc]
                    have hoc := HO5.out.below hbc
                    have hapc : Apart Wc (.slice (some z) m cy) qx := ⟨HAP.out.plain.below hbc, HAP.out.far⟩
                    have hwB : w.heap.size ≤ Wc.heap.size := by rw [hhc]; exact Nat.le_trans HBR.out.size HB5.out.size
                    obtain ⟨g, cg, w6, hrun, ho6, hgr, hgB, hap6, hgw⟩ := hoc.append HM.out hapc (by omega) hwB
                    have hx6 := (hbc.block _ (Array.getElem?_eq_some_iff.1 HX6.out).1).trans HX6.out
                    have hcg6 : Chg (fun kk => (Value.slice (some z) m cy).ownBlock = some kk) Wc w6 := Chg.of_grown hgr fun kk h => h
                    have hx7 := hcg6.heap hx6 (fun e => Nat.lt_irrefl _ (HXL.out X e))
                    have hgX : g ≠ X := by
                      rintro rfl
                      rcases hgw with h | h
                      · exact Nat.lt_irrefl _ (HXL.out _ h)
                      · have := (Array.getElem?_eq_some_iff.1 hx6).1
                        omega
                    have hbw6 : Below w.heap.size w w6 := ((HBR.out.trans (HB5.out.mono (by rw [← HXS.out]; exact HBR.out.size))).trans (hbc.mono (by rw [← hhc]; exact hwB))).trans (hcg6.below hwB (fun kk h => (hoc.row.lt kk h).1))
                    have HB6 := Lib.hid hbw6
                    have HO6 := Lib.hid ho6
                    have HAP6 := Lib.hid hap6
                    have HX7 := Lib.hid hx7
                    rw [HXK.out] at hx6 hx7
                    simp only [sxC, HQX.out, seC, HXK.out] at hrun
                    clear e0 e1 e2 e3 e4 e5 e6 hWc hbc hhc hoc hapc hwB hgr hgB hap6 hgw hcg6 hbw6 ho6
                    obtain ⟨⟨e0, e1, e2, e3, e4, e5, e6⟩, -⟩ := seven_cells hx6
                    clear hx6
                    go_upto_region 14 with fail
                    clear e0 e1 e2 e3 e4 e5 e6 hrun
                    obtain ⟨⟨e0, e1, e2, e3, e4, e5, e6⟩, -⟩ := seven_cells hx7
                    clear hx7
                    have HX8 : Hid (w6.heap[X]? = some (.cells #[.string ⟨xk.toArray⟩, .int .i64 q.kind, .string ⟨q.text.toArray⟩, .slice b1 q.items.length d1, .slice b2 q.pairs.length d2, .slice b3 q.ranks.length d3, .int .i64 (td : Int)] 51)) := Lib.hid (by rw [HX7.out, HXK.out])
                    have HS7 : Hid (sxC qx = [.string ⟨xk.toArray⟩, .int .i64 q.kind, .string ⟨q.text.toArray⟩, .slice b1 q.items.length d1, .slice b2 q.pairs.length d2, .slice b3 q.ranks.length d3, .int .i64 (td : Int)]) := Lib.hid (by rw [HQX.out, ← HXK.out]; rfl)
                    have HSZ7 := Lib.hid (show (Tryz.prog.info? 51).map (·.size) = some 7 by kernel_rfl)
                    go_wp2_with fail
                    clear e0 e1 e2 e3 e4 e5 e6
                    go_loopw [12] (fun i wx => ∃ kk : Nat, k ≤ kk ∧ kk ≤ m ∧ i = .int .i64 kk ∧ Hid (OutS wx w.heap.size (.slice (some ⟨g, 0, none⟩) (m + 1) cg) ((L ++ [qx]).take (kk + 1) ++ L.drop kk)) ∧ Hid (Below w.heap.size w wx) ∧
                      Hid (wx.heap[X]? = some (.cells #[.string ⟨xk.toArray⟩, .int .i64 q.kind, .string ⟨q.text.toArray⟩, .slice b1 q.items.length d1, .slice b2 q.pairs.length d2, .slice b3 q.ranks.length d3, .int .i64 (td : Int)] 51)) ∧ Hid (Apart wx (.slice (some ⟨g, 0, none⟩) (m + 1) cg) qx)) (fun i _ => (intOf i).toNat)
                    case atStart =>
                      refine ⟨m, by omega, Nat.le_refl _, by go_num, Lib.hid ?_, HB6, HX8, HAP6⟩
                      rw [List.take_of_length_le (by rw [List.length_append, HM.out]; exact Nat.le_refl _), List.drop_of_length_le (by rw [HM.out]; exact Nat.le_refl _), List.append_nil]
                      exact HO6.out
                    case round =>
                      clear HX8 HX7 HAP6 HB6 HO6
                      obtain ⟨kk, hk1, hk2, rfl, HO6, HB6, HX8, HAP6⟩ := hrel
                      have HLN : Hid (((L ++ [qx]).take (kk + 1) ++ L.drop kk).length = m + 1) := Lib.hid (by rw [List.length_append, List.length_take, List.length_append, List.length_drop, HM.out]; simp; omega)
                      by_cases hgt : k < kk
                      · obtain ⟨k1, rfl⟩ : ∃ k1, kk = k1 + 1 := ⟨kk - 1, by omega⟩
                        have hgti : (k : Int) < ((k1 + 1 : Nat) : Int) := by omega
                        obtain ⟨qy, hqy⟩ : ∃ qy, ((L ++ [qx]).take (k1 + 1 + 1) ++ L.drop (k1 + 1))[k1]? = some qy := ⟨_, List.getElem?_eq_getElem (by rw [HLN.out]; omega)⟩
                        have HST := Lib.hid (shift_step (k := k1 + 1) (by omega) (by rw [HM.out]; omega) (show ((L ++ [qx]).take (k1 + 1 + 1) ++ L.drop (k1 + 1))[k1 + 1 - 1]? = some qy from hqy))
                        obtain ⟨cur, hcur, hcl, -, hput, hcp⟩ := HO6.out.put HLN.out (k := k1 + 1) (by omega) (HO6.out.vals qy (List.mem_of_getElem? hqy))
                        have hld : ∀ jj u, (sxC qy)[jj]? = some u → wr.cell? ((⟨g, k1 * 7, none⟩ : Addr).add jj) = some u := by
                          intro jj u hu
                          have hjj : jj < 7 := (List.getElem?_eq_some_iff.1 hu).1
                          obtain ⟨a9, c9, h9, hrd⟩ := ownsRow_rd HO6.out.row (sxCs_one _)
                          obtain ⟨rfl, -, -⟩ := Value.slice.inj h9
                          obtain ⟨-, z9, hz9, hc9⟩ := hrd (k1 * 7 + jj) u (by rw [flatRow_at (f := sxC) (s := 7) sxC_len hqy hjj]; exact hu)
                          obtain rfl : (⟨g, 0, none⟩ : Addr) = z9 := by simpa using hz9
                          rw [← Addr.add_add, Addr.add_base] at hc9
                          exact hc9
                        have HLD := Lib.hid hld
                        have HCR := Lib.hid hcur
                        have HCL7 := Lib.hid hcl
                        have HPU := Lib.hid hput
                        have HCP := Lib.hid hcp
                        have HX9 := Lib.hid (hcp.heap HX8.out (fun e => hgX e.symm))
                        have HAP7 := Lib.hid (HAP6.out.chg hcp (fun kk h => by rw [h]; rfl))
                        have HB7 := Lib.hid (HB6.out.trans (hcp.below HB6.out.size (fun kk h => by rw [h]; exact (HO6.out.row.lt g rfl).1)))
                        have HSL : Hid ((sxC qy).length = 7) := Lib.hid rfl
                        have HS1 := Lib.hid (sxC_one qy)
                        have HSZq : Hid ((Tryz.prog.info? 51).map (·.size) = some (sxC qy).length) := Lib.hid HSZ7.out
                        obtain ⟨SC, hSC⟩ : ∃ SC, sxC qy = SC := ⟨_, rfl⟩
                        rw [hSC] at HLD HPU HCP HX9 HAP7 HB7 HSL HS1 HSZq
                        obtain ⟨cur2, hcur2⟩ : ∃ cur2, (cur.toList.take ((k1 + 1) * 7) ++ SC ++ cur.toList.drop ((k1 + 1) * 7 + 7)).toArray = cur2 := ⟨_, rfl⟩
                        rw [hcur2] at HPU HCP HX9 HAP7 HB7
                        have HC2 : Hid ((cur.toList.take ((k1 + 1) * 7) ++ SC ++ cur.toList.drop ((k1 + 1) * 7 + SC.length)).toArray = cur2) := Lib.hid (by rw [HSL.out]; exact hcur2)
                        clear hqy hcur hcl hput hcp hld hSC hcur2
                        go_wp2_with (first
                          | (refine wpl_load_at rfl 51 _ rfl ⟨g, k1 * 7, none⟩ rfl _ _ HLD.out Tryz.underlying51 rfl HSZq.out ?_)
                          | (refine wpl_store_at rfl 51 _ _ rfl g ((k1 + 1) * 7) SC rfl rfl 51 cur HCR.out HSZq.out (by rw [HSL.out]; exact HCL7.out) HS1.out ?_; rw [HC2.out]))
                        go_roundw
                        case rel =>
                          refine ⟨k1, by omega, by omega, by go_num, Lib.hid ?_, HB7, HX9, HAP7⟩
                          have h := HPU.out
                          rw [HST.out, show k1 + 1 - 1 = k1 by omega] at h
                          exact h
                        case measure => simp [intOf]
                      · obtain rfl : k = kk := by omega
                        obtain ⟨cur, hcur, hcl, -, hput, hcp⟩ := HO6.out.put HLN.out (k := k) (by omega) HAP6.out
                        rw [shift_end (by rw [HM.out]; omega), HS7.out] at hput
                        rw [HS7.out] at hcp
                        have HCR := Lib.hid hcur
                        have HCL7 := Lib.hid hcl
                        have HPU := Lib.hid hput
                        have HB7 := Lib.hid (HB6.out.trans (hcp.below HB6.out.size (fun kk h => by rw [h]; exact (HO6.out.row.lt g rfl).1)))
                        have HRLN : Hid (RightL ((L.take k ++ qx :: L.drop k).map (·.1))) := Lib.hid (by
                          have h := HRL.out.ins HGX.out (i := k) (by rw [List.length_map, HM.out]; omega) (by rw [HKX.out]; exact HLS.out) (by rw [HKX.out]; exact HGT.out)
                          rw [List.map_append, List.map_cons, List.map_take, List.map_drop]
                          exact h)
                        have HLE : Hid ((L.take k ++ qx :: L.drop k).length = m + 1) := Lib.hid (by rw [List.length_append, List.length_take, List.length_cons, List.length_drop, HM.out]; omega)
                        have HS1 : Hid (∀ u ∈ ([.string ⟨xk.toArray⟩, .int .i64 q.kind, .string ⟨q.text.toArray⟩, .slice b1 q.items.length d1, .slice b2 q.pairs.length d2, .slice b3 q.ranks.length d3, .int .i64 (td : Int)] : List Value), u.oneCell' = true) := Lib.hid (by rw [← HS7.out]; exact sxC_one qx)
                        obtain ⟨cur2, hcur2⟩ : ∃ cur2, (cur.toList.take (k * 7) ++ ([.string ⟨xk.toArray⟩, .int .i64 q.kind, .string ⟨q.text.toArray⟩, .slice b1 q.items.length d1, .slice b2 q.pairs.length d2, .slice b3 q.ranks.length d3, .int .i64 (td : Int)] : List Value) ++ cur.toList.drop (k * 7 + 7)).toArray = cur2 := ⟨_, rfl⟩
                        rw [hcur2] at HPU HB7
                        have HC2 := Lib.hid hcur2
                        obtain ⟨⟨e0, e1, e2, e3, e4, e5, e6⟩, -⟩ := seven_cells HX8.out
                        clear hcur hcl hput hcp hcur2
                        go_wp2_with (refine wpl_store_at rfl 51 _ _ rfl g (k * 7) ([.string ⟨xk.toArray⟩, .int .i64 q.kind, .string ⟨q.text.toArray⟩, .slice b1 q.items.length d1, .slice b2 q.pairs.length d2, .slice b3 q.ranks.length d3, .int .i64 (td : Int)] : List Value) rfl rfl 51 cur HCR.out HSZ7.out HCL7.out HS1.out ?_; rw [show k * 7 + ([.string ⟨xk.toArray⟩, .int .i64 q.kind, .string ⟨q.text.toArray⟩, .slice b1 q.items.length d1, .slice b2 q.pairs.length d2, .slice b3 q.ranks.length d3, .int .i64 (td : Int)] : List Value).length = k * 7 + 7 from rfl, HC2.out])
                        go_roundw
                        case rel => exact ⟨j + 1, L.take k ++ qx :: L.drop k, by omega, by go_num, HPU, HRLN, Lib.hid (by rw [HLE.out]; omega), HB7⟩
                        case measure => simp [intOf]; omega
              · obtain rfl : k = m := by omega
                have hkmb : ((k : Int) < (k : Int)) = False := by simp
                have HGT : Hid (∀ u, (L.map (·.1))[k]? = some u → cmpB xk u.key < 0) := Lib.hid (by
                  intro u hu
                  have := (List.getElem?_eq_some_iff.1 hu).1
                  rw [List.length_map, HM.out] at this
                  omega)
                clear hkm
                go_wp2_with fail
                go_quiet (fail)
                rename Nat => n1
                go_wp2_with fail
                go_quiet (fail)
                rename Nat => n2
                go_upto_region 13 with fail
                obtain ⟨Wc, hWc⟩ : ∃ Wc, ((W5.drewN qq).drewN n1).drewN n2 = Wc := ⟨_, rfl⟩
                have hbc : Below W5.heap.size W5 Wc := by rw [← hWc]; exact ⟨rfl, rfl, rfl, Nat.le_refl _, fun _ _ => rfl⟩
                have hhc : Wc.heap = W5.heap := by rw [← hWc]; rfl
                rw [hWc]
                have hoc := HO5.out.below hbc
                have hapc : Apart Wc (.slice ay k cy) qx := ⟨HAP.out.plain.below hbc, HAP.out.far⟩
                have hwB : w.heap.size ≤ Wc.heap.size := by rw [hhc]; exact Nat.le_trans HBR.out.size HB5.out.size
                obtain ⟨g, cg, w6, hrun, ho6, hgr, hgB, hap6, hgw⟩ := hoc.append HM.out hapc (by omega) hwB
                have hx6 := (hbc.block _ (Array.getElem?_eq_some_iff.1 HX6.out).1).trans HX6.out
                have hcg6 : Chg (fun kk => (Value.slice ay k cy).ownBlock = some kk) Wc w6 := Chg.of_grown hgr fun kk h => h
                have hx7 := hcg6.heap hx6 (fun e => Nat.lt_irrefl _ (HXL.out X e))
                have hgX : g ≠ X := by
                  rintro rfl
                  rcases hgw with h | h
                  · exact Nat.lt_irrefl _ (HXL.out _ h)
                  · have := (Array.getElem?_eq_some_iff.1 hx6).1
                    omega
                have hbw6 : Below w.heap.size w w6 := ((HBR.out.trans (HB5.out.mono (by rw [← HXS.out]; exact HBR.out.size))).trans (hbc.mono (by rw [← hhc]; exact hwB))).trans (hcg6.below hwB (fun kk h => (hoc.row.lt kk h).1))
                have HB6 := Lib.hid hbw6
                have HO6 := Lib.hid ho6
                have HAP6 := Lib.hid hap6
                have HX7 := Lib.hid hx7
                rw [HXK.out] at hx6 hx7
                simp only [sxC, HQX.out, seC, HXK.out] at hrun
                clear e0 e1 e2 e3 e4 e5 e6 hWc hbc hhc hoc hapc hwB hgr hgB hap6 hgw hcg6 hbw6 ho6
                obtain ⟨⟨e0, e1, e2, e3, e4, e5, e6⟩, -⟩ := seven_cells hx6
                clear hx6
                go_upto_region 14 with fail
                clear e0 e1 e2 e3 e4 e5 e6 hrun
                obtain ⟨⟨e0, e1, e2, e3, e4, e5, e6⟩, -⟩ := seven_cells hx7
                clear hx7
                have HX8 : Hid (w6.heap[X]? = some (.cells #[.string ⟨xk.toArray⟩, .int .i64 q.kind, .string ⟨q.text.toArray⟩, .slice b1 q.items.length d1, .slice b2 q.pairs.length d2, .slice b3 q.ranks.length d3, .int .i64 (td : Int)] 51)) := Lib.hid (by rw [HX7.out, HXK.out])
                have HS7 : Hid (sxC qx = [.string ⟨xk.toArray⟩, .int .i64 q.kind, .string ⟨q.text.toArray⟩, .slice b1 q.items.length d1, .slice b2 q.pairs.length d2, .slice b3 q.ranks.length d3, .int .i64 (td : Int)]) := Lib.hid (by rw [HQX.out, ← HXK.out]; rfl)
                have HSZ7 := Lib.hid (show (Tryz.prog.info? 51).map (·.size) = some 7 by kernel_rfl)
                go_wp2_with fail
                clear e0 e1 e2 e3 e4 e5 e6
                go_loopw [12] (fun i wx => ∃ kk : Nat, k ≤ kk ∧ kk ≤ k ∧ i = .int .i64 kk ∧ Hid (OutS wx w.heap.size (.slice (some ⟨g, 0, none⟩) (k + 1) cg) ((L ++ [qx]).take (kk + 1) ++ L.drop kk)) ∧ Hid (Below w.heap.size w wx) ∧
                  Hid (wx.heap[X]? = some (.cells #[.string ⟨xk.toArray⟩, .int .i64 q.kind, .string ⟨q.text.toArray⟩, .slice b1 q.items.length d1, .slice b2 q.pairs.length d2, .slice b3 q.ranks.length d3, .int .i64 (td : Int)] 51)) ∧ Hid (Apart wx (.slice (some ⟨g, 0, none⟩) (k + 1) cg) qx)) (fun i _ => (intOf i).toNat)
                case atStart =>
                  refine ⟨k, by omega, Nat.le_refl _, by go_num, Lib.hid ?_, HB6, HX8, HAP6⟩
                  rw [List.take_of_length_le (by rw [List.length_append, HM.out]; exact Nat.le_refl _), List.drop_of_length_le (by rw [HM.out]; exact Nat.le_refl _), List.append_nil]
                  exact HO6.out
                case round =>
                  clear HX8 HX7 HAP6 HB6 HO6
                  obtain ⟨kk, hk1, hk2, rfl, HO6, HB6, HX8, HAP6⟩ := hrel
                  have HLN : Hid (((L ++ [qx]).take (kk + 1) ++ L.drop kk).length = k + 1) := Lib.hid (by rw [List.length_append, List.length_take, List.length_append, List.length_drop, HM.out]; simp; omega)
                  by_cases hgt : k < kk
                  · omega
                  · obtain rfl : k = kk := by omega
                    obtain ⟨cur, hcur, hcl, -, hput, hcp⟩ := HO6.out.put HLN.out (k := k) (by omega) HAP6.out
                    rw [shift_end (by rw [HM.out]; omega), HS7.out] at hput
                    rw [HS7.out] at hcp
                    have HCR := Lib.hid hcur
                    have HCL7 := Lib.hid hcl
                    have HPU := Lib.hid hput
                    have HB7 := Lib.hid (HB6.out.trans (hcp.below HB6.out.size (fun kk h => by rw [h]; exact (HO6.out.row.lt g rfl).1)))
                    have HRLN : Hid (RightL ((L.take k ++ qx :: L.drop k).map (·.1))) := Lib.hid (by
                      have h := HRL.out.ins HGX.out (i := k) (by rw [List.length_map, HM.out]; omega) (by rw [HKX.out]; exact HLS.out) (by rw [HKX.out]; exact HGT.out)
                      rw [List.map_append, List.map_cons, List.map_take, List.map_drop]
                      exact h)
                    have HLE : Hid ((L.take k ++ qx :: L.drop k).length = k + 1) := Lib.hid (by rw [List.length_append, List.length_take, List.length_cons, List.length_drop, HM.out]; omega)
                    have HS1 : Hid (∀ u ∈ ([.string ⟨xk.toArray⟩, .int .i64 q.kind, .string ⟨q.text.toArray⟩, .slice b1 q.items.length d1, .slice b2 q.pairs.length d2, .slice b3 q.ranks.length d3, .int .i64 (td : Int)] : List Value), u.oneCell' = true) := Lib.hid (by rw [← HS7.out]; exact sxC_one qx)
                    obtain ⟨cur2, hcur2⟩ : ∃ cur2, (cur.toList.take (k * 7) ++ ([.string ⟨xk.toArray⟩, .int .i64 q.kind, .string ⟨q.text.toArray⟩, .slice b1 q.items.length d1, .slice b2 q.pairs.length d2, .slice b3 q.ranks.length d3, .int .i64 (td : Int)] : List Value) ++ cur.toList.drop (k * 7 + 7)).toArray = cur2 := ⟨_, rfl⟩
                    rw [hcur2] at HPU HB7
                    have HC2 := Lib.hid hcur2
                    obtain ⟨⟨e0, e1, e2, e3, e4, e5, e6⟩, -⟩ := seven_cells HX8.out
                    clear hcur hcl hput hcp hcur2
                    go_wp2_with (refine wpl_store_at rfl 51 _ _ rfl g (k * 7) ([.string ⟨xk.toArray⟩, .int .i64 q.kind, .string ⟨q.text.toArray⟩, .slice b1 q.items.length d1, .slice b2 q.pairs.length d2, .slice b3 q.ranks.length d3, .int .i64 (td : Int)] : List Value) rfl rfl 51 cur HCR.out HSZ7.out HCL7.out HS1.out ?_; rw [show k * 7 + ([.string ⟨xk.toArray⟩, .int .i64 q.kind, .string ⟨q.text.toArray⟩, .slice b1 q.items.length d1, .slice b2 q.pairs.length d2, .slice b3 q.ranks.length d3, .int .i64 (td : Int)] : List Value).length = k * 7 + 7 from rfl, HC2.out])
                    go_roundw
                    case rel => exact ⟨j + 1, L.take k ++ qx :: L.drop k, by omega, by go_num, HPU, HRLN, Lib.hid (by rw [HLE.out]; omega), HB7⟩
                    case measure => simp [intOf]; omega
          · have hli : (1048576 : Int) < (x.key.length : Int) := by omega
            clear hlong
            go_wp2_with (go_at_call 50; refine HEM.out.mono ?_; rintro e w3 ⟨rfl, hb3⟩; have HB3 := Lib.hid (HB2.out.trans (hb3.mono HB2.out.size)); have g0 : w3.cell? ⟨wr.heap.size, 0, none⟩ = some (.string ⟨x.key.toArray⟩) := cell_of_row w3 _ 0 _ _ _ ((hb3.block _ (Array.getElem?_eq_some_iff.1 HX2.out).1).trans HX2.out); clear hb3)
            go_roundw
            case rel => exact ⟨j + 1, L, by omega, by go_num, Lib.hid (HO.out.below HB3.out), HRL, Lib.hid (by have := HLL.out; omega), Lib.hid (HBR.out.trans (HB3.out.mono HBR.out.size))⟩
            case measure => simp [intOf]; omega
      · have hcode : wrongP x.val = 2 ∨ wrongP x.val = 3 ∨ wrongP x.val = 4 := by rcases wrongP_cases x.val with h | h; exact absurd h hz; exact h
        have HOW := Lib.hid (of_wrong A x.val a1 a2 a3 c1 c2 c3 1 HPL.out HBG.out hz)
        simp only [Tryz.plainCells] at HOW
        generalize wrongP x.val = wc at hcode HOW
        clear hz
        rcases hcode with rfl | rfl | rfl
        all_goals
          go_wp2_with (go_at_call 49; refine HOW.out.mono ?_; rintro e w2 ⟨rfl, hb2⟩; have HB3 := Lib.hid (HBX.out.trans (hb2.mono (by rw [HAS.out]; omega))); clear hb2)
          go_roundw
          case rel => exact ⟨j + 1, L, by omega, by go_num, Lib.hid (HO.out.below HB3.out), HRL, Lib.hid (by have := HLL.out; omega), Lib.hid (HBR.out.trans (HB3.out.mono HBR.out.size))⟩
          case measure => simp [intOf]; omega
    · obtain rfl : j = n := by omega
      go_wp2_with (go_at_call 52; refine (HWN _).out.mono ?_; rintro e w9 ⟨rfl, rfl⟩)
      go_ret2
      exact ⟨tn, L, _, rfl, htn, HBR.out, HO.out, HRL.out, HLL.out⟩
end Go.Proofs.YteiklgbjjmlmaaaGreat
