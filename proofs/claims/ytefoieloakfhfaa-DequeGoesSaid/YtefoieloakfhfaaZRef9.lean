/- The document's answer for the deque: Insert. -/
import Derived.Test.YtefoieloakfhfaaZRef8B
import Derived.Deep.RegionHeld3
namespace Pantry
theorem set_mid {α : Type} {l : List α} {k : Nat} (h : k < l.length) (x : α) : l.set k x = l.take k ++ [x] ++ l.drop (k + 1) := by
  rw [List.set_eq_take_append_cons_drop, if_pos h]; simp
theorem part_mid {cs : List (List Txt)} {k : Nat} (h : k < cs.length) (c : List Txt) : partC k c cs = cs.take k ++ [c.take 16, c.drop 16] ++ cs.drop (k + 1) := by
  unfold partC putIn
  rw [set_mid h]
  have e : (cs.take k).length = k := by rw [List.length_take]; omega
  have t : (cs.take k ++ [c.take 16] ++ cs.drop (k + 1)).take (k + 1) = cs.take k ++ [c.take 16] := List.take_left' (by simp [e])
  have d : (cs.take k ++ [c.take 16] ++ cs.drop (k + 1)).drop (k + 1) = cs.drop (k + 1) := List.drop_left' (by simp [e])
  rw [t, d]; simp
theorem part_low {cs : List (List Txt)} {k : Nat} (h : k < cs.length) (c x : List Txt) : (partC k c cs).set k x = cs.take k ++ [x, c.drop 16] ++ cs.drop (k + 1) := by
  have e : (cs.take k).length = k := by rw [List.length_take]; omega
  rw [part_mid h, List.append_assoc, List.set_append_right _ _ (by omega), e, Nat.sub_self, List.append_assoc]; rfl
theorem part_high {cs : List (List Txt)} {k : Nat} (h : k < cs.length) (c x : List Txt) : (partC k c cs).set (k + 1) x = cs.take k ++ [c.take 16, x] ++ cs.drop (k + 1) := by
  have e : (cs.take k).length = k := by rw [List.length_take]; omega
  rw [part_mid h, List.append_assoc, List.set_append_right _ _ (by omega), e, Nat.add_sub_cancel_left, List.append_assoc]; rfl
end Pantry
namespace Go.Proofs.Ytefoieloakfhfaa
open Go.RowKit Pantry

theorem a_ls {w : World} {m : Nat} {css : List (List Txt)} {a : Option Addr} {c : Nat} {vs : List Value} (h : Opened w m css a c vs) : LsAt w (.slice a css.length c) css := ⟨a, c, vs, rfl, h.nil, h.cap, h.rd, h.all⟩
theorem Below.of_grown_none {w w' : World} (h : w.grownBy w' none) : Below w.heap.size w w' := (Below.refl w.heap.size w).grown h (Nat.le_refl _) fun k hk => by cases hk
set_option maxHeartbeats 8000000 in
set_option maxRecDepth 100000 in
theorem rins_room (w : World) (m : Nat) (css : List (List Txt)) (i : Nat) (s : Txt) (K P : Nat) (ck : List Txt) (h : RefAt w m css) (hg : Fits css) (hs : s.length ≤ 281474976710656) (hc : mayC s (total css) = 0) (hi : i ≤ total css) (hkp : findC css i = (K, P)) (hck : css[K]? = some ck) (hP : P ≤ ck.length) (h32 : ck.length < 32) :
    Calls Try.prog 48 #[.pointer (some ⟨m, 0, none⟩), .int .i64 i, .string ⟨s.toArray⟩] w (RefPost m (css.set K (insAt ck P s)) (.int .i64 0) w) := by
  have HLE := Lib.hid (rlen_or w _ css (.inr ⟨m, rfl, h⟩) hg.rows (Nat.le_trans hg.total (by omega)))
  obtain ⟨a, c, vs, ho⟩ := h.opened
  have hml := block_lt ho.head
  have hn := hg.rows
  have hgt := hg.total
  have hK1 := (List.getElem?_eq_some_iff.1 hck).1
  have HG := Lib.hid hg
  obtain ⟨q, hq⟩ : ∃ q, css.length = q := ⟨_, rfl⟩
  have HQ := Lib.hid hq
  have HO := Lib.hid ho
  have hnil := ho.nil
  have hcap := ho.cap
  rw [hq] at hn hcap hK1
  have HL := Lib.hid (show vs.length = q by rw [ho.all.len, hq])
  obtain ⟨N, hN⟩ : ∃ N, total css = N := ⟨_, rfl⟩
  rw [hN] at HLE hi hgt
  obtain ⟨u0, hu0⟩ : ∃ u, vs[K]? = some u := ⟨_, List.getElem?_eq_getElem (by rw [ho.all.len, hq]; exact hK1)⟩
  obtain ⟨-, y, hy, -⟩ := ho.rd.1 K u0 hu0
  subst hy
  have hiN : ¬ (N : Int) < (i : Int) := by omega
  have hq0 : ¬ (q : Int) = 0 := by omega
  have hq1 : ((q : Int) == 0) = false := by simp; omega
  have HKP := Lib.hid hkp
  have HCK := Lib.hid hck
  have HE := Lib.hid (show (css.set K (insAt ck P s)) = css.take K ++ [putIn ck P s] ++ css.drop (K + 1) from set_mid (by rw [hq]; exact hK1) _)
  obtain ⟨RES, hRES⟩ : ∃ R, css.take K ++ [putIn ck P s] ++ css.drop (K + 1) = R := ⟨_, rfl⟩
  have HRES := Lib.hid hRES
  rw [HE.out, hRES]
  obtain ⟨n0, hn0⟩ : ∃ n, ck.length = n := ⟨_, rfl⟩
  rw [hn0] at hP h32
  have HN0 := Lib.hid hn0
  obtain ⟨n3, hn3⟩ : ∃ n3, (putIn ck P s).length = n3 := ⟨_, rfl⟩
  have HN3 := Lib.hid hn3
  clear hn3
  clear h hg ho hq hu0 hnil hkp hck hN hn0 HE hRES
  go_enter Try.func48, Try.ntmps48
  go_wp2_with (first
    | (go_at_call 52; refine HLE.out.mono ?_; clear HLE; rintro e w1 ⟨rfl, hb1⟩
       have HM := Lib.hid (rmay_any w1 m css s ⟨_, (HO.out.below hb1).head, a_ls (HO.out.below hb1)⟩ HG.out hs)
       rw [hc] at HM
       have HB1 := Lib.hid hb1
       clear hb1)
    | (go_at_call 60; refine HM.out.mono ?_; clear HM; rintro e w2 ⟨rfl, hb2⟩
       have HB2 := Lib.hid (HB1.out.trans (hb2.mono HB1.out.size))
       have HP2 := Lib.hid (HO.out.below HB2.out)
       have hc2 := HP2.out.cell
       rw [HQ.out] at hc2
       clear hb2))
  go_loop [8, 9] (fun b a => ∃ j k : Nat, k < q ∧ j ≤ i ∧ a = .int .i64 j ∧ b = .int .i64 k ∧ Hid (findC css i = (k + (findC (css.drop k) j).1, (findC (css.drop k) j).2))) (fun b _ => q - (intOf b).toNat)
  case atStart => exact ⟨i, 0, by omega, Nat.le_refl _, rfl, rfl, Lib.hid (by simp)⟩
  case round =>
    obtain ⟨j, k, hk, hji, rfl, rfl, HR⟩ := hrel
    obtain ⟨c1, hc1⟩ : ∃ c1, css[k]? = some c1 := ⟨_, List.getElem?_eq_getElem (by rw [HQ.out]; exact hk)⟩
    obtain ⟨u, hu⟩ : ∃ u, vs[k]? = some u := ⟨_, List.getElem?_eq_getElem (by rw [HL.out]; exact hk)⟩
    obtain ⟨a2, c2, hu2, hnil2, hcap2, hrd2⟩ := HP2.out.all.at_ k u c1 hu hc1
    obtain ⟨hone, y', hy', hcell⟩ := HP2.out.rd.1 k u hu
    cases hy'
    subst hu2
    have hcl := HG.out.chunk c1 (List.mem_of_getElem? hc1)
    obtain ⟨n2, hn2⟩ : ∃ n2, c1.length = n2 := ⟨_, rfl⟩
    rw [hn2] at hcell hcap2 hcl
    have HU := Lib.hid hu
    rw [hn2] at HU
    have HC1 := Lib.hid hc1
    have HN2 := Lib.hid hn2
    have HR2 := Lib.hid hrd2
    clear hc1 hu hone hrd2 hn2
    have hk0 : (0 : Int) ≤ (k : Int) := by omega
    have hkq : (k : Int) < (q : Int) := by omega
    have hwq : IntKind.i64.wrap ((q : Int) - 1) = (q : Int) - 1 := by rw [IntKind.wrap_i64]; omega
    by_cases hgo : k + 1 < q ∧ n2 ≤ j
    · obtain ⟨hk1, hj⟩ := hgo
      have HR3 := Lib.hid (show findC css i = (k + 1 + (findC (css.drop (k + 1)) (j - n2)).1, (findC (css.drop (k + 1)) (j - n2)).2) by
        rw [HR.out, findC_go HC1.out (by rw [HQ.out]; exact hk1) (by rw [HN2.out]; exact hj), HN2.out]
        simp only [Prod.mk.injEq, and_true]
        omega)
      have hk2 : (k : Int) < (q : Int) - 1 := by omega
      have hj2 : (n2 : Int) ≤ (j : Int) := by omega
      clear HR
      go_wp2_with fail
      go_round
      case rel => exact ⟨j - n2, k + 1, hk1, by omega, by go_num, by go_num, HR3⟩
      case measure => simp [intOf]; omega
    · have HR3 := Lib.hid (show findC css i = (k, j) by rw [HR.out, findC_stop HC1.out (by rw [HQ.out, HN2.out]; omega)]; simp)
      obtain ⟨e1, e2⟩ : K = k ∧ P = j := by
        have := HKP.out.symm.trans HR3.out
        simpa using this
      subst e1 e2
      obtain rfl : ck = c1 := by
        have := HCK.out.symm.trans HC1.out
        simpa using this
      obtain rfl : n0 = n2 := HN0.out.symm.trans HN2.out
      clear HR HR3 HC1 HN2
      have hcase : (¬ (K : Int) < (q : Int) - 1) ∨ ((K : Int) < (q : Int) - 1 ∧ ¬ (n0 : Int) ≤ (P : Int)) := by omega
      clear hgo
      have HRW := Lib.hid (HR2.out)
      have h32i : (n0 : Int) < 32 := by omega
      have h32e : ((n0 : Int) == 32) = false := by simp; omega
      have hK1w : IntKind.i64.wrap ((K : Int) + 1) = (K : Int) + 1 := by rw [IntKind.wrap_i64]; omega
      have hK0 : (0 : Int) ≤ (K : Int) + 1 := by omega
      have hKq : (K : Int) + 1 ≤ (q : Int) := by omega
      have hKc : (K : Int) ≤ (q : Int) := by omega
      rcases hcase with hz | ⟨hz, hz2⟩
      all_goals
        by_cases hcc : c = K + 1
        · have HCC := Lib.hid hcc
          have hct : ((c : Int) = (K : Int) + 1) = True := eq_true (by omega)
          have hct2 : (c = K + 1) = True := eq_true hcc
          clear hcc
          go_wp2_with (first
            | (at_builtin; refine wpl_append lsT rfl _ _ rfl w.heap.size rfl (World.ownsRow_nil w2 w.heap.size 22 1) (news := vs.take K) rfl (fun h => by cases h) (by rw [List.length_take, HL.out]; omega) (by have := (HP2.out.rd.part 0 K).1; rw [List.drop_zero] at this; exact this) (by omega) HB2.out.size ?_
               intro v3 w3 hown3 hg3 hv3
               have HB3 := Lib.hid (HB2.out.grown hg3 HB2.out.size fun k hk => by cases hk)
               have HT3 := Lib.hid ((HP2.out.all.take K).keeps (T := fun _ => True) (KeepsT.grown hg3 (fun j e => by cases e)) trivial)
               have HP3 := Lib.hid (HO.out.below HB3.out)
               have hc3 := HP3.out.cell
               rw [HQ.out] at hc3
               have HO3 := Lib.hid (own_cast hown3 (Nat.zero_add _) (List.nil_append _))
               have hb23 := Below.of_grown_none hg3
               have HK3 := Lib.hid (HR2.out.keeps (T := fun _ => True) (KeepsT.ofBelow hb23) trivial)
               have HW := Lib.hid (rwith_any w3 a2 n0 c2 P ck s HN0.out (by omega) HK3.out.1 hnil2 hcap2 hP)
               clear hown3 hg3 hv3 hb23)
            | (go_at_call 61; refine HW.out.mono ?_; clear HW; rintro e w4 ⟨v4, rfl, hown4, hb4⟩
               have HB4 := Lib.hid (HB3.out.trans (hb4.mono HB3.out.size))
               have HX4 := Lib.hid (TxAt.own hown4)
               obtain ⟨a4, c4, rfl, -⟩ := own_slice hown4 (txts_one _)
               rw [HN3.out] at HX4 ⊢
               have HO4 := Lib.hid (ownsRow_belowAll HO3.out hb4)
               have HT4 := Lib.hid (HT3.out.keeps (T := fun _ => True) (KeepsT.ofBelow hb4) trivial)
               clear hown4 hb4)
            | (at_builtin; refine wpl_append1 lsT rfl _ _ rfl w.heap.size rfl HO4.out #[.slice a4 n3 c4] rfl rfl (by simp [Value.oneCell']) (by omega) HB4.out.size ?_
               intro v5 w5 hown5 hg5 hb5 hv5
               have HT5 := Lib.hid ((HT4.out.grow HO4.out hg5).snoc (HX4.out.keeps (T := fun t => t = 9) (KeepsT.row HO4.out (by decide) hg5) rfl))
               have HB5 := Lib.hid (HB4.out.trans hb5)
               have HP5 := Lib.hid (HO.out.below HB5.out)
               have hc5 := HP5.out.cell
               rw [HQ.out] at hc5
               have HO5 := Lib.hid hown5
               clear hown5 hg5 hb5 hv5)
            | (at_builtin; refine wpl_append lsT rfl _ _ rfl w.heap.size rfl HO5.out (news := vs.drop (K + 1)) rfl (fun h => by cases h) (by rw [List.length_drop, HL.out]; omega) (by rw [List.drop_eq_nil_of_le (by rw [HL.out]; have := HCC.out; omega)]; exact Rd.nil _ _) (by omega) HB5.out.size ?_
               intro v6 w6 hown6 hg6 hv6
               have HB6 := Lib.hid (HB5.out.grown hg6 HB5.out.size fun k hk => (HO5.out.lt k hk).1)
               have HT6 := Lib.hid ((HT5.out.append (HP5.out.all.drop (K + 1))).grow HO5.out hg6)
               have HP6 := Lib.hid (HO.out.below HB6.out)
               have hc6 := HP6.out.cell
               have hf6 := HP6.out.frozen
               rw [HQ.out] at hc6
               have hlen6 : 1 + (q - (K + 1)) + K = (css.take K ++ [putIn ck P s] ++ css.drop (K + 1)).length := by simp [HQ.out]; omega
               obtain ⟨a6, c6, ho6, -⟩ := own_slice hown6 HT6.out.one
               subst ho6
               have HF := Lib.hid (ref_store HO.out.head HB6.out hown6 HT6.out (by rw [← hlen6]; omega))
               rw [HRES.out] at HF
               clear hown6 hg6 hv6 hlen6))
          go_ret
          exact ⟨rfl, HF.out.1, HF.out.2⟩
        · have hct : ¬ (c : Int) = (K : Int) + 1 := by omega
          have hct3 : ¬ (K : Int) + 1 = (c : Int) := by omega
          go_wp2_with (first
            | (at_builtin; refine wpl_append lsT rfl _ _ rfl w.heap.size rfl (World.ownsRow_nil w2 w.heap.size 22 1) (news := vs.take K) rfl (fun h => by cases h) (by rw [List.length_take, HL.out]; omega) (by have := (HP2.out.rd.part 0 K).1; rw [List.drop_zero] at this; exact this) (by omega) HB2.out.size ?_
               intro v3 w3 hown3 hg3 hv3
               have HB3 := Lib.hid (HB2.out.grown hg3 HB2.out.size fun k hk => by cases hk)
               have HT3 := Lib.hid ((HP2.out.all.take K).keeps (T := fun _ => True) (KeepsT.grown hg3 (fun j e => by cases e)) trivial)
               have HP3 := Lib.hid (HO.out.below HB3.out)
               have hc3 := HP3.out.cell
               rw [HQ.out] at hc3
               have HO3 := Lib.hid (own_cast hown3 (Nat.zero_add _) (List.nil_append _))
               have hb23 := Below.of_grown_none hg3
               have HK3 := Lib.hid (HR2.out.keeps (T := fun _ => True) (KeepsT.ofBelow hb23) trivial)
               have HW := Lib.hid (rwith_any w3 a2 n0 c2 P ck s HN0.out (by omega) HK3.out.1 hnil2 hcap2 hP)
               clear hown3 hg3 hv3 hb23)
            | (go_at_call 61; refine HW.out.mono ?_; clear HW; rintro e w4 ⟨v4, rfl, hown4, hb4⟩
               have HB4 := Lib.hid (HB3.out.trans (hb4.mono HB3.out.size))
               have HX4 := Lib.hid (TxAt.own hown4)
               obtain ⟨a4, c4, rfl, -⟩ := own_slice hown4 (txts_one _)
               rw [HN3.out] at HX4 ⊢
               have HO4 := Lib.hid (ownsRow_belowAll HO3.out hb4)
               have HT4 := Lib.hid (HT3.out.keeps (T := fun _ => True) (KeepsT.ofBelow hb4) trivial)
               clear hown4 hb4)
            | (at_builtin; refine wpl_append1 lsT rfl _ _ rfl w.heap.size rfl HO4.out #[.slice a4 n3 c4] rfl rfl (by simp [Value.oneCell']) (by omega) HB4.out.size ?_
               intro v5 w5 hown5 hg5 hb5 hv5
               have HT5 := Lib.hid ((HT4.out.grow HO4.out hg5).snoc (HX4.out.keeps (T := fun t => t = 9) (KeepsT.row HO4.out (by decide) hg5) rfl))
               have HB5 := Lib.hid (HB4.out.trans hb5)
               have HP5 := Lib.hid (HO.out.below HB5.out)
               have hc5 := HP5.out.cell
               rw [HQ.out] at hc5
               have HO5 := Lib.hid hown5
               clear hown5 hg5 hb5 hv5)
            | (at_builtin; refine wpl_append lsT rfl _ _ rfl w.heap.size rfl HO5.out (news := vs.drop (K + 1)) rfl (fun h => by cases h) (by rw [List.length_drop, HL.out]; omega) (by have := (HP5.out.rd.part (K + 1) (q - (K + 1))).1; rw [List.take_of_length_le (by rw [List.length_drop, HL.out]; exact Nat.le_refl _)] at this; exact this) (by omega) HB5.out.size ?_
               intro v6 w6 hown6 hg6 hv6
               have HB6 := Lib.hid (HB5.out.grown hg6 HB5.out.size fun k hk => (HO5.out.lt k hk).1)
               have HT6 := Lib.hid ((HT5.out.append (HP5.out.all.drop (K + 1))).grow HO5.out hg6)
               have HP6 := Lib.hid (HO.out.below HB6.out)
               have hc6 := HP6.out.cell
               have hf6 := HP6.out.frozen
               rw [HQ.out] at hc6
               have hlen6 : 1 + (q - (K + 1)) + K = (css.take K ++ [putIn ck P s] ++ css.drop (K + 1)).length := by simp [HQ.out]; omega
               obtain ⟨a6, c6, ho6, -⟩ := own_slice hown6 HT6.out.one
               subst ho6
               have HF := Lib.hid (ref_store HO.out.head HB6.out hown6 HT6.out (by rw [← hlen6]; omega))
               rw [HRES.out] at HF
               clear hown6 hg6 hv6 hlen6))
          go_ret
          exact ⟨rfl, HF.out.1, HF.out.2⟩
end Go.Proofs.Ytefoieloakfhfaa
