/- The document's answer for the deque: Insert, into the upper half of a full chunk. -/
import Derived.Test.YtefoieloakfhfaaZRef9
import Derived.Deep.RegionHeld3
namespace Go.Proofs.Ytefoieloakfhfaa
open Go.RowKit Pantry

set_option maxHeartbeats 8000000 in
set_option maxRecDepth 100000 in
theorem rins_high (w : World) (m : Nat) (css : List (List Txt)) (i : Nat) (s : Txt) (K P : Nat) (ck : List Txt) (h : RefAt w m css) (hg : Fits css) (hs : s.length ≤ 281474976710656) (hc : mayC s (total css) = 0) (hi : i ≤ total css) (hkp : findC css i = (K, P)) (hck : css[K]? = some ck) (hP : P ≤ ck.length) (h32 : ck.length = 32) (h16 : 16 ≤ P) :
    Calls Try.prog 48 #[.pointer (some ⟨m, 0, none⟩), .int .i64 i, .string ⟨s.toArray⟩] w (RefPost m ((partC K ck css).set (K + 1) (insAt (ck.drop 16) (P - 16) s)) (.int .i64 0) w) := by
  have HLE := Lib.hid (rlen_or w _ css (.inr ⟨m, rfl, h⟩) hg.rows (Nat.le_trans hg.total (by omega)))
  obtain ⟨a, c, vs, ho⟩ := h.opened
  have hml := block_lt ho.head
  have hn := hg.rows
  have hgt := hg.total
  have hK1 := (List.getElem?_eq_some_iff.1 hck).1
  have HG := Lib.hid hg
  obtain ⟨q, hq⟩ : ∃ q, css.length = q := ⟨_, rfl⟩
  have HQ := Lib.hid hq
  have HO := Lib.hid ho
  have hnil := ho.nil
  have hcap := ho.cap
  rw [hq] at hn hcap hK1
  have HL := Lib.hid (show vs.length = q by rw [ho.all.len, hq])
  obtain ⟨N, hN⟩ : ∃ N, total css = N := ⟨_, rfl⟩
  rw [hN] at HLE hi hgt
  obtain ⟨u0, hu0⟩ : ∃ u, vs[K]? = some u := ⟨_, List.getElem?_eq_getElem (by rw [ho.all.len, hq]; exact hK1)⟩
  obtain ⟨-, y, hy, -⟩ := ho.rd.1 K u0 hu0
  subst hy
  have hiN : ¬ (N : Int) < (i : Int) := by omega
  have hq0 : ¬ (q : Int) = 0 := by omega
  have hq1 : ((q : Int) == 0) = false := by simp; omega
  have HKP := Lib.hid hkp
  have HCK := Lib.hid hck
  have HE := Lib.hid (show ((partC K ck css).set (K + 1) (insAt (ck.drop 16) (P - 16) s)) = css.take K ++ [ck.take 16, putIn (ck.drop 16) (P - 16) s] ++ css.drop (K + 1) from part_high (by rw [hq]; exact hK1) _ _)
  obtain ⟨RES, hRES⟩ : ∃ R, css.take K ++ [ck.take 16, putIn (ck.drop 16) (P - 16) s] ++ css.drop (K + 1) = R := ⟨_, rfl⟩
  have HRES := Lib.hid hRES
  rw [HE.out, hRES]
  obtain ⟨n0, hn0⟩ : ∃ n, ck.length = n := ⟨_, rfl⟩
  rw [hn0] at hP h32
  have HN0 := Lib.hid hn0
  obtain ⟨n3, hn3⟩ : ∃ n3, (putIn (ck.drop 16) (P - 16) s).length = n3 := ⟨_, rfl⟩
  have HN3 := Lib.hid hn3
  clear hn3
  clear h hg ho hq hu0 hnil hkp hck hN hn0 HE hRES
  go_enter Try.func48, Try.ntmps48
  go_wp2_with (first
    | (go_at_call 52; refine HLE.out.mono ?_; clear HLE; rintro e w1 ⟨rfl, hb1⟩
       have HM := Lib.hid (rmay_any w1 m css s ⟨_, (HO.out.below hb1).head, a_ls (HO.out.below hb1)⟩ HG.out hs)
       rw [hc] at HM
       have HB1 := Lib.hid hb1
       clear hb1)
    | (go_at_call 60; refine HM.out.mono ?_; clear HM; rintro e w2 ⟨rfl, hb2⟩
       have HB2 := Lib.hid (HB1.out.trans (hb2.mono HB1.out.size))
       have HP2 := Lib.hid (HO.out.below HB2.out)
       have hc2 := HP2.out.cell
       rw [HQ.out] at hc2
       clear hb2))
  go_loop [8, 9] (fun b a => ∃ j k : Nat, k < q ∧ j ≤ i ∧ a = .int .i64 j ∧ b = .int .i64 k ∧ Hid (findC css i = (k + (findC (css.drop k) j).1, (findC (css.drop k) j).2))) (fun b _ => q - (intOf b).toNat)
  case atStart => exact ⟨i, 0, by omega, Nat.le_refl _, rfl, rfl, Lib.hid (by simp)⟩
  case round =>
    obtain ⟨j, k, hk, hji, rfl, rfl, HR⟩ := hrel
    obtain ⟨c1, hc1⟩ : ∃ c1, css[k]? = some c1 := ⟨_, List.getElem?_eq_getElem (by rw [HQ.out]; exact hk)⟩
    obtain ⟨u, hu⟩ : ∃ u, vs[k]? = some u := ⟨_, List.getElem?_eq_getElem (by rw [HL.out]; exact hk)⟩
    obtain ⟨a2, c2, hu2, hnil2, hcap2, hrd2⟩ := HP2.out.all.at_ k u c1 hu hc1
    obtain ⟨hone, y', hy', hcell⟩ := HP2.out.rd.1 k u hu
    cases hy'
    subst hu2
    have hcl := HG.out.chunk c1 (List.mem_of_getElem? hc1)
    obtain ⟨n2, hn2⟩ : ∃ n2, c1.length = n2 := ⟨_, rfl⟩
    rw [hn2] at hcell hcap2 hcl
    have HU := Lib.hid hu
    rw [hn2] at HU
    have HC1 := Lib.hid hc1
    have HN2 := Lib.hid hn2
    have HR2 := Lib.hid hrd2
    clear hc1 hu hone hrd2 hn2
    have hk0 : (0 : Int) ≤ (k : Int) := by omega
    have hkq : (k : Int) < (q : Int) := by omega
    have hwq : IntKind.i64.wrap ((q : Int) - 1) = (q : Int) - 1 := by rw [IntKind.wrap_i64]; omega
    by_cases hgo : k + 1 < q ∧ n2 ≤ j
    · obtain ⟨hk1, hj⟩ := hgo
      have HR3 := Lib.hid (show findC css i = (k + 1 + (findC (css.drop (k + 1)) (j - n2)).1, (findC (css.drop (k + 1)) (j - n2)).2) by
        rw [HR.out, findC_go HC1.out (by rw [HQ.out]; exact hk1) (by rw [HN2.out]; exact hj), HN2.out]
        simp only [Prod.mk.injEq, and_true]
        omega)
      have hk2 : (k : Int) < (q : Int) - 1 := by omega
      have hj2 : (n2 : Int) ≤ (j : Int) := by omega
      clear HR
      go_wp2_with fail
      go_round
      case rel => exact ⟨j - n2, k + 1, hk1, by omega, by go_num, by go_num, HR3⟩
      case measure => simp [intOf]; omega
    · have HR3 := Lib.hid (show findC css i = (k, j) by rw [HR.out, findC_stop HC1.out (by rw [HQ.out, HN2.out]; omega)]; simp)
      obtain ⟨e1, e2⟩ : K = k ∧ P = j := by
        have := HKP.out.symm.trans HR3.out
        simpa using this
      subst e1 e2
      obtain rfl : ck = c1 := by
        have := HCK.out.symm.trans HC1.out
        simpa using this
      obtain rfl : n0 = n2 := HN0.out.symm.trans HN2.out
      clear HR HR3 HC1 HN2
      have hcase : (¬ (K : Int) < (q : Int) - 1) ∨ ((K : Int) < (q : Int) - 1 ∧ ¬ (n0 : Int) ≤ (P : Int)) := by omega
      clear hgo
      have HRW := Lib.hid (HR2.out)
      subst h32
      have hp16 : ¬ (P : Int) < 16 := by omega
      have hpw : IntKind.i64.wrap ((P : Int) - 16) = ((P - 16 : Nat) : Int) := by rw [IntKind.wrap_i64]; omega
      have hy2 : ∃ y2, a2 = some y2 := by
        cases a2 with
        | none => have := hnil2 rfl; omega
        | some y2 => exact ⟨y2, rfl⟩
      obtain ⟨y2, rfl⟩ := hy2
      have hc16 : ¬ c2 = 16 := by omega
      have hc16' : ¬ 16 = c2 := by omega
      have hc16i : (16 : Int) ≤ (c2 : Int) := by omega
      have hK1w : IntKind.i64.wrap ((K : Int) + 1) = (K : Int) + 1 := by rw [IntKind.wrap_i64]; omega
      have hK0 : (0 : Int) ≤ (K : Int) + 1 := by omega
      have hKq : (K : Int) + 1 ≤ (q : Int) := by omega
      have hKc : (K : Int) ≤ (q : Int) := by omega
      rcases hcase with hz | ⟨hz, hz2⟩
      all_goals
        by_cases hcc : c = K + 1
        · have HCC := Lib.hid hcc
          have hct : ((c : Int) = (K : Int) + 1) = True := eq_true (by omega)
          have hct2 : (c = K + 1) = True := eq_true hcc
          clear hcc
          go_upto_region 22 with (first
            | (at_builtin; refine wpl_append lsT rfl _ _ rfl w.heap.size rfl (World.ownsRow_nil w2 w.heap.size 22 1) (news := vs.take K) rfl (fun h => by cases h) (by rw [List.length_take, HL.out]; omega) (by have := (HP2.out.rd.part 0 K).1; rw [List.drop_zero] at this; exact this) (by omega) HB2.out.size ?_
               intro v3 w3 hown3 hg3 hv3
               have HB3 := Lib.hid (HB2.out.grown hg3 HB2.out.size fun k hk => by cases hk)
               have HT3 := Lib.hid ((HP2.out.all.take K).keeps (T := fun _ => True) (KeepsT.grown hg3 (fun j e => by cases e)) trivial)
               have HP3 := Lib.hid (HO.out.below HB3.out)
               have hc3 := HP3.out.cell
               rw [HQ.out] at hc3
               have HO3 := Lib.hid (own_cast hown3 (Nat.zero_add _) (List.nil_append _))
               have hb23 := Below.of_grown_none hg3
               have HK3 := Lib.hid (HR2.out.keeps (T := fun _ => True) (KeepsT.ofBelow hb23) trivial)
               have HL16 := Lib.hid (show RdT w3 9 (some y2) (txts (ck.take 16)) from by have := HK3.out.take 16; rw [← txts_take] at this; exact this)
               have HR16 := Lib.hid (show RdT w3 9 (some (y2.add 16)) (txts (ck.drop 16)) from by have := HK3.out.part 16 16; rw [← txts_drop, List.take_of_length_le (by have := HN0.out; rw [txts_length, List.length_drop]; omega)] at this; exact this)
               clear hown3 hg3 hv3 hb23))
          go_region_held3 (fun w' => True)
            (first
              | trivial
              | go_keep)
            (first
              | (go_at_call 61; refine (rwith_any w3.drew (some (y2.add 16)) 16 (c2 - 16) (P - 16) (ck.drop 16) s (by have := HN0.out; simp only [List.length_drop]; omega) (by omega) (HR16.out.keeps (T := fun _ => True) (KeepsT.ofBelow ((Below.refl w3.heap.size w3).drew)) trivial).1 (fun h => by cases h) (by omega) (by omega)).mono ?_; rintro e w4 ⟨v4, rfl, hown4, hb4⟩
                 have hb34 : Below w3.heap.size w3 w4 := ((Below.refl w3.heap.size w3).drew).trans hb4
                 have HB4 := Lib.hid (HB3.out.trans (hb34.mono HB3.out.size))
                 have HX4 := Lib.hid (TxAt.own hown4)
                 have hX16 : TxAt w4 (.slice (some y2) 16 c2) (ck.take 16) := ⟨some y2, c2, by rw [show (ck.take 16).length = 16 by have := HN0.out; simp only [List.length_take]; omega], (fun h => by cases h), by have := HN0.out; simp only [List.length_take]; omega, HL16.out.keeps (T := fun _ => True) (KeepsT.ofBelow hb34) trivial⟩
                 obtain ⟨a4, c4, rfl, -⟩ := own_slice hown4 (txts_one _)
                 rw [HN3.out] at HX4 ⊢
                 have HU4 := Lib.hid (show TxAll w4 [.slice (some y2) 16 c2, .slice a4 n3 c4] [ck.take 16, putIn (ck.drop 16) (P - 16) s] from ((TxAll.nil w4).snoc hX16).snoc HX4.out)
                 have HO4 := Lib.hid (ownsRow_belowAll HO3.out hb34)
                 have HT4 := Lib.hid (HT3.out.keeps (T := fun _ => True) (KeepsT.ofBelow hb34) trivial)
                 clear hown4 hb4 hb34 hX16)
              | (refine step_append_gen lsT (by rfl) _ _ (by rfl) w.heap.size (by rfl) (HO4.out.alloc (.cells #[.slice (some y2) 16 c2, .slice a4 n3 c4] 22)) (by rfl) (fun h => by cases h) (news := [.slice (some y2) 16 c2, .slice a4 n3 c4]) (by rfl) (Rd.new w4 #[.slice (some y2) 16 c2, .slice a4 n3 c4] 22 (0, 0) (by simp [Value.oneCell'])) (by omega) (by have := HB4.out.size; simp; omega) ?_; intro v5 w5 hown5 hg5
                 have HT5 := Lib.hid (((HT4.out.append HU4.out).keeps (T := fun _ => True) (KeepsT.alloc w4 _) trivial).grow (HO4.out.alloc _) hg5)
                 have HB5 := Lib.hid ((HB4.out.alloc HB4.out.size _).grown hg5 (by have := HB4.out.size; simp; omega) fun k hk => (HO4.out.lt k hk).1)
                 have HP5 := Lib.hid (HO.out.below HB5.out)
                 have hc5 := HP5.out.cell
                 rw [HQ.out] at hc5
                 have HO5 := Lib.hid hown5
                 clear hown5 hg5))
          all_goals
            go_wp2_with (first
            | (at_builtin; refine wpl_append lsT rfl _ _ rfl w.heap.size rfl HO5.out (news := vs.drop (K + 1)) rfl (fun h => by cases h) (by rw [List.length_drop, HL.out]; omega) (by rw [List.drop_eq_nil_of_le (by rw [HL.out]; have := HCC.out; omega)]; exact Rd.nil _ _) (by omega) HB5.out.size ?_
               intro v6 w6 hown6 hg6 hv6
               have HB6 := Lib.hid (HB5.out.grown hg6 HB5.out.size fun k hk => (HO5.out.lt k hk).1)
               have HT6 := Lib.hid ((HT5.out.append (HP5.out.all.drop (K + 1))).grow HO5.out hg6)
               have HP6 := Lib.hid (HO.out.below HB6.out)
               have hc6 := HP6.out.cell
               have hf6 := HP6.out.frozen
               rw [HQ.out] at hc6
               have hlen6 : 2 + (q - (K + 1)) + K = (css.take K ++ [ck.take 16, putIn (ck.drop 16) (P - 16) s] ++ css.drop (K + 1)).length := by simp [HQ.out]; omega
               obtain ⟨a6, c6, ho6, -⟩ := own_slice hown6 HT6.out.one
               subst ho6
               have HF := Lib.hid (ref_store HO.out.head HB6.out hown6 HT6.out (by rw [← hlen6]; omega))
               rw [HRES.out] at HF
               clear hown6 hg6 hv6 hlen6))
            go_ret
            exact ⟨rfl, HF.out.1, HF.out.2⟩
        · have hct : ¬ (c : Int) = (K : Int) + 1 := by omega
          have hct3 : ¬ (K : Int) + 1 = (c : Int) := by omega
          go_upto_region 22 with (first
            | (at_builtin; refine wpl_append lsT rfl _ _ rfl w.heap.size rfl (World.ownsRow_nil w2 w.heap.size 22 1) (news := vs.take K) rfl (fun h => by cases h) (by rw [List.length_take, HL.out]; omega) (by have := (HP2.out.rd.part 0 K).1; rw [List.drop_zero] at this; exact this) (by omega) HB2.out.size ?_
               intro v3 w3 hown3 hg3 hv3
               have HB3 := Lib.hid (HB2.out.grown hg3 HB2.out.size fun k hk => by cases hk)
               have HT3 := Lib.hid ((HP2.out.all.take K).keeps (T := fun _ => True) (KeepsT.grown hg3 (fun j e => by cases e)) trivial)
               have HP3 := Lib.hid (HO.out.below HB3.out)
               have hc3 := HP3.out.cell
               rw [HQ.out] at hc3
               have HO3 := Lib.hid (own_cast hown3 (Nat.zero_add _) (List.nil_append _))
               have hb23 := Below.of_grown_none hg3
               have HK3 := Lib.hid (HR2.out.keeps (T := fun _ => True) (KeepsT.ofBelow hb23) trivial)
               have HL16 := Lib.hid (show RdT w3 9 (some y2) (txts (ck.take 16)) from by have := HK3.out.take 16; rw [← txts_take] at this; exact this)
               have HR16 := Lib.hid (show RdT w3 9 (some (y2.add 16)) (txts (ck.drop 16)) from by have := HK3.out.part 16 16; rw [← txts_drop, List.take_of_length_le (by have := HN0.out; rw [txts_length, List.length_drop]; omega)] at this; exact this)
               clear hown3 hg3 hv3 hb23))
          go_region_held3 (fun w' => True)
            (first
              | trivial
              | go_keep)
            (first
              | (go_at_call 61; refine (rwith_any w3.drew (some (y2.add 16)) 16 (c2 - 16) (P - 16) (ck.drop 16) s (by have := HN0.out; simp only [List.length_drop]; omega) (by omega) (HR16.out.keeps (T := fun _ => True) (KeepsT.ofBelow ((Below.refl w3.heap.size w3).drew)) trivial).1 (fun h => by cases h) (by omega) (by omega)).mono ?_; rintro e w4 ⟨v4, rfl, hown4, hb4⟩
                 have hb34 : Below w3.heap.size w3 w4 := ((Below.refl w3.heap.size w3).drew).trans hb4
                 have HB4 := Lib.hid (HB3.out.trans (hb34.mono HB3.out.size))
                 have HX4 := Lib.hid (TxAt.own hown4)
                 have hX16 : TxAt w4 (.slice (some y2) 16 c2) (ck.take 16) := ⟨some y2, c2, by rw [show (ck.take 16).length = 16 by have := HN0.out; simp only [List.length_take]; omega], (fun h => by cases h), by have := HN0.out; simp only [List.length_take]; omega, HL16.out.keeps (T := fun _ => True) (KeepsT.ofBelow hb34) trivial⟩
                 obtain ⟨a4, c4, rfl, -⟩ := own_slice hown4 (txts_one _)
                 rw [HN3.out] at HX4 ⊢
                 have HU4 := Lib.hid (show TxAll w4 [.slice (some y2) 16 c2, .slice a4 n3 c4] [ck.take 16, putIn (ck.drop 16) (P - 16) s] from ((TxAll.nil w4).snoc hX16).snoc HX4.out)
                 have HO4 := Lib.hid (ownsRow_belowAll HO3.out hb34)
                 have HT4 := Lib.hid (HT3.out.keeps (T := fun _ => True) (KeepsT.ofBelow hb34) trivial)
                 clear hown4 hb4 hb34 hX16)
              | (refine step_append_gen lsT (by rfl) _ _ (by rfl) w.heap.size (by rfl) (HO4.out.alloc (.cells #[.slice (some y2) 16 c2, .slice a4 n3 c4] 22)) (by rfl) (fun h => by cases h) (news := [.slice (some y2) 16 c2, .slice a4 n3 c4]) (by rfl) (Rd.new w4 #[.slice (some y2) 16 c2, .slice a4 n3 c4] 22 (0, 0) (by simp [Value.oneCell'])) (by omega) (by have := HB4.out.size; simp; omega) ?_; intro v5 w5 hown5 hg5
                 have HT5 := Lib.hid (((HT4.out.append HU4.out).keeps (T := fun _ => True) (KeepsT.alloc w4 _) trivial).grow (HO4.out.alloc _) hg5)
                 have HB5 := Lib.hid ((HB4.out.alloc HB4.out.size _).grown hg5 (by have := HB4.out.size; simp; omega) fun k hk => (HO4.out.lt k hk).1)
                 have HP5 := Lib.hid (HO.out.below HB5.out)
                 have hc5 := HP5.out.cell
                 rw [HQ.out] at hc5
                 have HO5 := Lib.hid hown5
                 clear hown5 hg5))
          all_goals
            go_wp2_with (first
            | (at_builtin; refine wpl_append lsT rfl _ _ rfl w.heap.size rfl HO5.out (news := vs.drop (K + 1)) rfl (fun h => by cases h) (by rw [List.length_drop, HL.out]; omega) (by have := (HP5.out.rd.part (K + 1) (q - (K + 1))).1; rw [List.take_of_length_le (by rw [List.length_drop, HL.out]; exact Nat.le_refl _)] at this; exact this) (by omega) HB5.out.size ?_
               intro v6 w6 hown6 hg6 hv6
               have HB6 := Lib.hid (HB5.out.grown hg6 HB5.out.size fun k hk => (HO5.out.lt k hk).1)
               have HT6 := Lib.hid ((HT5.out.append (HP5.out.all.drop (K + 1))).grow HO5.out hg6)
               have HP6 := Lib.hid (HO.out.below HB6.out)
               have hc6 := HP6.out.cell
               have hf6 := HP6.out.frozen
               rw [HQ.out] at hc6
               have hlen6 : 2 + (q - (K + 1)) + K = (css.take K ++ [ck.take 16, putIn (ck.drop 16) (P - 16) s] ++ css.drop (K + 1)).length := by simp [HQ.out]; omega
               obtain ⟨a6, c6, ho6, -⟩ := own_slice hown6 HT6.out.one
               subst ho6
               have HF := Lib.hid (ref_store HO.out.head HB6.out hown6 HT6.out (by rw [← hlen6]; omega))
               rw [HRES.out] at HF
               clear hown6 hg6 hv6 hlen6))
            go_ret
            exact ⟨rfl, HF.out.1, HF.out.2⟩
end Go.Proofs.Ytefoieloakfhfaa
