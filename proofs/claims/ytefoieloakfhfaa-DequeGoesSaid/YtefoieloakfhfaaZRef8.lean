/- The document's answer for the deque: Push, the other ways. -/
import Derived.Test.YtefoieloakfhfaaZRef7
namespace Go.Proofs.Ytefoieloakfhfaa
open Go.RowKit Pantry

theorem own_cell {w : World} {base n : Nat} {v : Value} {t : TypeId} {xs : List Value} (h : w.ownsRow base t 1 v n xs) (h1 : ∀ u ∈ xs, u.oneCell' = true) {d : Nat} {u : Value} (hd : xs[d]? = some u) : ∃ g cap, v = .slice (some ⟨g, 0, none⟩) n cap ∧ w.cell? ⟨g, d, none⟩ = some u ∧ w.frozen? ⟨g, d, none⟩ = false := by
  rcases h.2 with ⟨_, h0⟩ | ⟨g, cap, cur, rfl, _, hg, _⟩
  · have := (List.getElem?_eq_some_iff.1 hd).1
    have := h.1
    omega
  · obtain ⟨-, y, hy, hc⟩ := rdOf h h1 d u hd
    cases hy
    have e : (⟨g, 0, none⟩ : Addr).add d = ⟨g, d, none⟩ := by unfold Addr.add; split <;> simp_all
    rw [e] at hc
    exact ⟨g, cap, rfl, hc, frozen_of_row w g d _ _ hg⟩

set_option maxHeartbeats 8000000 in
set_option maxRecDepth 100000 in
/-- Ahead, where the first chunk has room. -/
theorem rpush_roomA (w : World) (m : Nat) (css : List (List Txt)) (c0 : List Txt) (s : Txt) (h : RefAt w m css) (hg : Fits css) (hs : s.length ≤ 281474976710656) (hc : mayC s (total css) = 0) (h0 : css[0]? = some c0) (h32 : c0.length < 32) :
    Calls Try.prog 42 #[.pointer (some ⟨m, 0, none⟩), .bool true, .string ⟨s.toArray⟩] w (RefPost m (css.set 0 (insAt c0 0 s)) (.int .i64 0) w) := by
  have HM := Lib.hid (rmay_any w m css s h hg hs)
  rw [hc] at HM
  obtain ⟨a, c, vs, ho⟩ := h.opened
  have hml := block_lt ho.head
  have hn := hg.rows
  obtain ⟨q, hq⟩ : ∃ q, css.length = q := ⟨_, rfl⟩
  have HQ := Lib.hid hq
  have HO := Lib.hid ho
  have hnil := ho.nil
  have hcap := ho.cap
  rw [hq] at hn hcap
  have hq0 : 0 < q := by rw [← hq]; exact (List.getElem?_eq_some_iff.1 h0).1
  have hq1 : (0 : Int) < (q : Int) := by omega
  have hq2 : 1 ≤ q := by omega
  have hq3 : (1 : Int) ≤ (q : Int) := by omega
  have hcc : 1 ≤ c := by omega
  obtain ⟨u, hu⟩ : ∃ u, vs[0]? = some u := ⟨_, List.getElem?_eq_getElem (by rw [ho.all.len]; omega)⟩
  obtain ⟨a2, c2, hu2, hnil2, hcap2, hrd2⟩ := ho.all.at_ 0 u c0 hu h0
  obtain ⟨-, y, hy, -⟩ := ho.rd.1 0 u hu
  subst hy hu2
  obtain ⟨n2, hn2⟩ : ∃ n2, c0.length = n2 := ⟨_, rfl⟩
  rw [hn2] at hu hcap2 h32
  have h32i : (n2 : Int) < 32 := by omega
  have HN2 := Lib.hid hn2
  have HU := Lib.hid hu
  have HR2 := Lib.hid hrd2.1
  obtain ⟨n3, hn3⟩ : ∃ n3, (putIn c0 0 s).length = n3 := ⟨_, rfl⟩
  have HN3 := Lib.hid hn3
  have HD := Lib.hid (show (vs.drop 1).length = (q - 1) * 1 by rw [List.length_drop, ho.all.len, hq]; omega)
  have HE := Lib.hid (show css.set 0 (insAt c0 0 s) = [putIn c0 0 s] ++ css.drop 1 by
    cases css with
    | nil => simp at h0
    | cons x l => simp at h0; subst h0; simp [insAt, putIn])
  obtain ⟨K, hK⟩ : ∃ K, [putIn c0 0 s] ++ css.drop 1 = K := ⟨_, rfl⟩
  have HK := Lib.hid hK
  rw [HE.out, hK]
  clear h hg hs hc hq ho hu h0 hrd2 hn2 hn3 hK
  by_cases hci : c = 1
  · have HCI := Lib.hid hci
    have hct : (c = 1) = True := eq_true hci
    clear hci
    go_enter Try.func42, Try.ntmps42
    go_wp2_with (first
      | (go_at_call 60; refine HM.out.mono ?_; clear HM; rintro e w1 ⟨rfl, hb1⟩
         have hc1 := (HO.out.below hb1).cell
         rw [HQ.out] at hc1
         have hu1 := ((HO.out.below hb1).rd.1 0 _ HU.out).2
         obtain ⟨y', hy', hu1⟩ := hu1
         cases hy'
         simp only [show y.add 0 = y by simp [Addr.add]] at hu1
         have HW := Lib.hid (rwith_any w1 a2 n2 c2 0 c0 s HN2.out (by omega) (Rd.keep HR2.out hb1) hnil2 hcap2 (Nat.zero_le _))
         have HB1 := Lib.hid hb1
         clear hb1)
      | (go_at_call 61; refine HW.out.mono ?_; clear HW; rintro e w2 ⟨v2, rfl, hown2, hb2⟩
         have HB2 := Lib.hid (HB1.out.trans (hb2.mono HB1.out.size))
         have HX2 := Lib.hid (TxAt.own hown2)
         obtain ⟨a3, c3, rfl, -⟩ := own_slice hown2 (txts_one _)
         rw [HN3.out] at HX2 ⊢
         clear hown2 hb2)
      | (at_builtin; refine wpl_append1 lsT rfl _ _ rfl w.heap.size rfl (World.ownsRow_nil w2 w.heap.size 22 1) #[.slice a3 n3 c3] rfl rfl (by simp [Value.oneCell']) (by omega) HB2.out.size ?_
         intro v4 w4 hown4 hg4 hb4 hv4
         have HT4 := Lib.hid ((TxAll.nil w4).snoc (HX2.out.keeps (T := fun _ => True) (KeepsT.grown hg4 (fun j e => by cases e)) trivial))
         have HB4 := Lib.hid (HB2.out.trans hb4)
         have HP4 := Lib.hid (HO.out.below HB4.out)
         have hc4 := HP4.out.cell
         rw [HQ.out] at hc4
         have HO4 := Lib.hid hown4
         clear hown4 hg4 hb4 hv4)
      | (at_builtin; refine wpl_append lsT rfl _ _ rfl w.heap.size rfl HO4.out (news := vs.drop 1) rfl (fun h => by cases h) HD.out (by rw [List.drop_eq_nil_of_le (by rw [HP4.out.all.len, HQ.out]; have := HCI.out; omega)]; exact Rd.nil _ _) (by omega) HB4.out.size ?_
         intro v5 w5 hown5 hg5 hv5
         have HB5 := Lib.hid (HB4.out.grown hg5 HB4.out.size fun k hk => (HO4.out.lt k hk).1)
         have HT5 := Lib.hid ((HT4.out.append (HP4.out.all.drop 1)).grow HO4.out hg5)
         have HP5 := Lib.hid (HO.out.below HB5.out)
         have hc5 := HP5.out.cell
         have hf5 := HP5.out.frozen
         rw [HQ.out] at hc5
         have hown6 := own_cast (m := q) hown5 (by omega) (List.append_assoc [] _ _)
         obtain ⟨a5, c5, ho5, -⟩ := own_slice hown6 (by simpa using HT5.out.one)
         subst ho5
         have HF := Lib.hid (ref_store HO.out.head HB5.out (own_cast hown6 rfl (List.append_assoc [] _ _).symm) HT5.out (by rw [List.length_append, List.length_append, List.length_drop, HQ.out]; simp; omega))
         rw [List.nil_append, HK.out] at HF
         clear hown5 hown6 hg5 hv5))
    go_ret
    exact ⟨rfl, HF.out.1, HF.out.2⟩
  · skip
    go_enter Try.func42, Try.ntmps42
    go_wp2_with (first
      | (go_at_call 60; refine HM.out.mono ?_; clear HM; rintro e w1 ⟨rfl, hb1⟩
         have hc1 := (HO.out.below hb1).cell
         rw [HQ.out] at hc1
         have hu1 := ((HO.out.below hb1).rd.1 0 _ HU.out).2
         obtain ⟨y', hy', hu1⟩ := hu1
         cases hy'
         simp only [show y.add 0 = y by simp [Addr.add]] at hu1
         have HW := Lib.hid (rwith_any w1 a2 n2 c2 0 c0 s HN2.out (by omega) (Rd.keep HR2.out hb1) hnil2 hcap2 (Nat.zero_le _))
         have HB1 := Lib.hid hb1
         clear hb1)
      | (go_at_call 61; refine HW.out.mono ?_; clear HW; rintro e w2 ⟨v2, rfl, hown2, hb2⟩
         have HB2 := Lib.hid (HB1.out.trans (hb2.mono HB1.out.size))
         have HX2 := Lib.hid (TxAt.own hown2)
         obtain ⟨a3, c3, rfl, -⟩ := own_slice hown2 (txts_one _)
         rw [HN3.out] at HX2 ⊢
         clear hown2 hb2)
      | (at_builtin; refine wpl_append1 lsT rfl _ _ rfl w.heap.size rfl (World.ownsRow_nil w2 w.heap.size 22 1) #[.slice a3 n3 c3] rfl rfl (by simp [Value.oneCell']) (by omega) HB2.out.size ?_
         intro v4 w4 hown4 hg4 hb4 hv4
         have HT4 := Lib.hid ((TxAll.nil w4).snoc (HX2.out.keeps (T := fun _ => True) (KeepsT.grown hg4 (fun j e => by cases e)) trivial))
         have HB4 := Lib.hid (HB2.out.trans hb4)
         have HP4 := Lib.hid (HO.out.below HB4.out)
         have hc4 := HP4.out.cell
         rw [HQ.out] at hc4
         have HO4 := Lib.hid hown4
         clear hown4 hg4 hb4 hv4)
      | (at_builtin; refine wpl_append lsT rfl _ _ rfl w.heap.size rfl HO4.out (news := vs.drop 1) rfl (fun h => by cases h) HD.out (by have := (HP4.out.rd.part 1 (q - 1)).1; rw [List.take_of_length_le (by rw [List.length_drop, HP4.out.all.len, HQ.out]; exact Nat.le_refl _)] at this; exact this) (by omega) HB4.out.size ?_
         intro v5 w5 hown5 hg5 hv5
         have HB5 := Lib.hid (HB4.out.grown hg5 HB4.out.size fun k hk => (HO4.out.lt k hk).1)
         have HT5 := Lib.hid ((HT4.out.append (HP4.out.all.drop 1)).grow HO4.out hg5)
         have HP5 := Lib.hid (HO.out.below HB5.out)
         have hc5 := HP5.out.cell
         have hf5 := HP5.out.frozen
         rw [HQ.out] at hc5
         have hown6 := own_cast (m := q) hown5 (by omega) (List.append_assoc [] _ _)
         obtain ⟨a5, c5, ho5, -⟩ := own_slice hown6 (by simpa using HT5.out.one)
         subst ho5
         have HF := Lib.hid (ref_store HO.out.head HB5.out (own_cast hown6 rfl (List.append_assoc [] _ _).symm) HT5.out (by rw [List.length_append, List.length_append, List.length_drop, HQ.out]; simp; omega))
         rw [List.nil_append, HK.out] at HF
         clear hown5 hown6 hg5 hv5))
    go_ret
    exact ⟨rfl, HF.out.1, HF.out.2⟩
set_option maxHeartbeats 8000000 in
set_option maxRecDepth 100000 in
/-- Behind, where a new chunk comes. -/
theorem rpush_newB (w : World) (m : Nat) (css : List (List Txt)) (s : Txt) (h : RefAt w m css) (hg : Fits css) (hs : s.length ≤ 281474976710656) (hc : mayC s (total css) = 0) (hnew : css = [] ∨ ∃ c0, css[css.length - 1]? = some c0 ∧ c0.length = 32) :
    Calls Try.prog 42 #[.pointer (some ⟨m, 0, none⟩), .bool false, .string ⟨s.toArray⟩] w (RefPost m (css ++ [[s]]) (.int .i64 0) w) := by
  have HM := Lib.hid (rmay_any w m css s h hg hs)
  rw [hc] at HM
  obtain ⟨a, c, vs, ho⟩ := h.opened
  have hml := block_lt ho.head
  have hn := hg.rows
  obtain ⟨q, hq⟩ : ∃ q, css.length = q := ⟨_, rfl⟩
  have HQ := Lib.hid hq
  have HO := Lib.hid ho
  have hnil := ho.nil
  have hcap := ho.cap
  rw [hq] at hn hcap hnew
  have HL := Lib.hid (show vs.length = q * 1 by rw [ho.all.len, hq]; omega)
  have hcase : q = 0 ∨ ∃ p, q = p + 1 ∧ ∃ y a2 c2, a = some y ∧ vs[p]? = some (.slice a2 32 c2) := by
    rcases hnew with rfl | ⟨c0, h0, h32⟩
    · left; simpa using hq.symm
    · have hq0 := (List.getElem?_eq_some_iff.1 h0).1
      obtain ⟨u, hu⟩ : ∃ u, vs[q - 1]? = some u := ⟨_, List.getElem?_eq_getElem (by rw [ho.all.len]; exact hq0)⟩
      obtain ⟨a2, c2, hu2, -⟩ := ho.all.at_ _ u c0 hu h0
      obtain ⟨-, y, hy, -⟩ := ho.rd.1 _ u hu
      rw [h32] at hu2
      exact .inr ⟨q - 1, by omega, y, a2, c2, hy, by rw [hu, hu2]⟩
  clear h hg hs hc hnew hq ho
  rcases hcase with rfl | ⟨p, hqp, y, a2, c2, rfl, hv0⟩
  · skip
    go_enter Try.func42, Try.ntmps42
    go_wp2_with (first
      | (go_at_call 60; refine HM.out.mono ?_; clear HM; rintro e w1 ⟨rfl, hb1⟩
         have HP1 := Lib.hid (HO.out.below hb1)
         have hc1 := HP1.out.cell
         rw [HQ.out] at hc1
         have HB1 := Lib.hid hb1
         clear hb1)
      | (at_builtin; refine wpl_append lsT rfl _ _ rfl w.heap.size rfl (World.ownsRow_nil w1 w.heap.size 22 1) (news := vs) rfl hnil HL.out HP1.out.rd.1 (by omega) HB1.out.size ?_
         intro v2 w2 hown2 hg2 hv2
         have HB2 := Lib.hid (HB1.out.grown hg2 HB1.out.size fun k hk => by cases hk)
         have HT2 := Lib.hid (HP1.out.all.keeps (T := fun _ => True) (KeepsT.grown hg2 (fun j e => by cases e)) trivial)
         have HP2 := Lib.hid (HO.out.below HB2.out)
         have hc2 := HP2.out.cell
         rw [HQ.out] at hc2
         have HO2 := Lib.hid (own_cast hown2 (Nat.zero_add _) (List.nil_append vs))
         clear hown2 hg2 hv2)
      | (at_builtin; refine wpl_append1_at lsT rfl _ _ rfl w.heap.size rfl (HO2.out.alloc (.cells #[.string ⟨s.toArray⟩] 9)) #[.slice (some ⟨w2.heap.size, 0, none⟩) 1 1] (H := w2.heap.size + 1) rfl (by simp) rfl (by simp [Value.oneCell']) (by omega) (by have := HB2.out.size; simp; omega) ?_
         intro v3 w3 hown3 hg3 hb3 hv3
         have HT3 := Lib.hid (((HT2.out.keeps (T := fun _ => True) (KeepsT.alloc w2 _) trivial).snoc (tx_new w2 s)).grow (HO2.out.alloc _) hg3)
         have HB3 := Lib.hid ((HB2.out.alloc HB2.out.size (.cells #[.string ⟨s.toArray⟩] 9)).trans hb3)
         have HP3 := Lib.hid (HO.out.below HB3.out)
         have hc3 := HP3.out.cell
         have hf3 := HP3.out.frozen
         rw [HQ.out] at hc3
         obtain ⟨a3, c3, ho3, -⟩ := own_slice hown3 (by simpa using HT3.out.one)
         subst ho3
         have HF := Lib.hid (ref_store HO.out.head HB3.out hown3 HT3.out (by simp [HQ.out]))
         clear hown3 hg3 hb3 hv3))
    go_ret
    exact ⟨rfl, HF.out.1, HF.out.2⟩
  · have hq1 : (0 : Int) < (q : Int) := by omega
    have hw1 : IntKind.i64.wrap ((q : Int) - 1) = (p : Int) := by rw [IntKind.wrap_i64]; omega
    have hpq : p < q := by omega
    clear hqp
    go_enter Try.func42, Try.ntmps42
    go_wp2_with (first
      | (go_at_call 60; refine HM.out.mono ?_; clear HM; rintro e w1 ⟨rfl, hb1⟩
         have HP1 := Lib.hid (HO.out.below hb1)
         have hc1 := HP1.out.cell
         rw [HQ.out] at hc1
         have HB1 := Lib.hid hb1
         clear hb1)
      | (at_builtin; refine wpl_append lsT rfl _ _ rfl w.heap.size rfl (World.ownsRow_nil w1 w.heap.size 22 1) (news := vs) rfl hnil HL.out HP1.out.rd.1 (by omega) HB1.out.size ?_
         intro v2 w2 hown2 hg2 hv2
         have HB2 := Lib.hid (HB1.out.grown hg2 HB1.out.size fun k hk => by cases hk)
         have HT2 := Lib.hid (HP1.out.all.keeps (T := fun _ => True) (KeepsT.grown hg2 (fun j e => by cases e)) trivial)
         have HP2 := Lib.hid (HO.out.below HB2.out)
         have hc2 := HP2.out.cell
         rw [HQ.out] at hc2
         obtain ⟨y', hy', hu2⟩ := (HP2.out.rd.1 p _ hv0).2
         cases hy'
         have HO2 := Lib.hid (own_cast hown2 (Nat.zero_add _) (List.nil_append vs))
         clear hown2 hg2 hv2)
      | (at_builtin; refine wpl_append1_at lsT rfl _ _ rfl w.heap.size rfl (HO2.out.alloc (.cells #[.string ⟨s.toArray⟩] 9)) #[.slice (some ⟨w2.heap.size, 0, none⟩) 1 1] (H := w2.heap.size + 1) rfl (by simp) rfl (by simp [Value.oneCell']) (by omega) (by have := HB2.out.size; simp; omega) ?_
         intro v3 w3 hown3 hg3 hb3 hv3
         have HT3 := Lib.hid (((HT2.out.keeps (T := fun _ => True) (KeepsT.alloc w2 _) trivial).snoc (tx_new w2 s)).grow (HO2.out.alloc _) hg3)
         have HB3 := Lib.hid ((HB2.out.alloc HB2.out.size (.cells #[.string ⟨s.toArray⟩] 9)).trans hb3)
         have HP3 := Lib.hid (HO.out.below HB3.out)
         have hc3 := HP3.out.cell
         have hf3 := HP3.out.frozen
         rw [HQ.out] at hc3
         obtain ⟨a3, c3, ho3, -⟩ := own_slice hown3 (by simpa using HT3.out.one)
         subst ho3
         have HF := Lib.hid (ref_store HO.out.head HB3.out hown3 HT3.out (by simp [HQ.out]))
         clear hown3 hg3 hb3 hv3))
    go_ret
    exact ⟨rfl, HF.out.1, HF.out.2⟩
end Go.Proofs.Ytefoieloakfhfaa
