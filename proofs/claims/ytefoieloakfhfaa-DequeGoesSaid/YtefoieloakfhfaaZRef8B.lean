/- The document's answer for the deque: Push behind, where the last chunk has room. -/
import Derived.Test.YtefoieloakfhfaaZRef8
import Derived.Deep.RegionWith
namespace Go.Proofs.Ytefoieloakfhfaa
open Go.RowKit Pantry

set_option maxHeartbeats 8000000 in
set_option maxRecDepth 100000 in
/-- Behind, where the last chunk has room. -/
theorem rpush_roomB (w : World) (m : Nat) (css : List (List Txt)) (c0 : List Txt) (s : Txt) (h : RefAt w m css) (hg : Fits css) (hs : s.length ≤ 281474976710656) (hc : mayC s (total css) = 0) (h0 : css[css.length - 1]? = some c0) (h32 : c0.length < 32) :
    Calls Try.prog 42 #[.pointer (some ⟨m, 0, none⟩), .bool false, .string ⟨s.toArray⟩] w (RefPost m (css.set (css.length - 1) (insAt c0 c0.length s)) (.int .i64 0) w) := by
  have HM := Lib.hid (rmay_any w m css s h hg hs)
  rw [hc] at HM
  obtain ⟨a, c, vs, ho⟩ := h.opened
  have hml := block_lt ho.head
  have hn := hg.rows
  obtain ⟨q, hq⟩ : ∃ q, css.length = q := ⟨_, rfl⟩
  have HQ := Lib.hid hq
  have HO := Lib.hid ho
  have hnil := ho.nil
  have hcap := ho.cap
  have hqp0 := (List.getElem?_eq_some_iff.1 h0).1
  rw [hq] at hn hcap h0 hqp0 ⊢
  have HL := Lib.hid (show vs.length = q * 1 by rw [ho.all.len, hq]; omega)
  obtain ⟨p, hqp⟩ : ∃ p, q - 1 = p := ⟨_, rfl⟩
  rw [hqp] at h0 ⊢
  have hq1 : (0 : Int) < (q : Int) := by omega
  have hw1 : IntKind.i64.wrap ((q : Int) - 1) = (p : Int) := by rw [IntKind.wrap_i64]; omega
  have hpq : p < q := by omega
  have hp0 : (0 : Int) ≤ (p : Int) := by omega
  have hp1 : (p : Int) < (q : Int) := by omega
  obtain ⟨u, hu⟩ : ∃ u, vs[p]? = some u := ⟨_, List.getElem?_eq_getElem (by rw [ho.all.len, hq]; exact hpq)⟩
  obtain ⟨a2, c2, hu2, hnil2, hcap2, hrd2⟩ := ho.all.at_ p u c0 hu h0
  obtain ⟨-, y, hy, -⟩ := ho.rd.1 p u hu
  subst hy hu2
  obtain ⟨n2, hn2⟩ : ∃ n2, c0.length = n2 := ⟨_, rfl⟩
  rw [hn2] at hu hcap2 h32 ⊢
  have h32i : (n2 : Int) < 32 := by omega
  have HN2 := Lib.hid hn2
  have HU := Lib.hid hu
  have HR2 := Lib.hid hrd2.1
  obtain ⟨n3, hn3⟩ : ∃ n3, (putIn c0 n2 s).length = n3 := ⟨_, rfl⟩
  have HN3 := Lib.hid hn3
  clear h hg hs hc hq ho hu h0 hrd2 hn2 hn3 hqp hqp0
  go_enter Try.func42, Try.ntmps42
  go_upto_region 18 with (first
    | (go_at_call 60; refine HM.out.mono ?_; clear HM; rintro e w1 ⟨rfl, hb1⟩
       have HP1 := Lib.hid (HO.out.below hb1)
       have hc1 := HP1.out.cell
       rw [HQ.out] at hc1
       have HB1 := Lib.hid hb1
       clear hb1)
    | (at_builtin; refine wpl_append lsT rfl _ _ rfl w.heap.size rfl (World.ownsRow_nil w1 w.heap.size 22 1) (news := vs) rfl hnil HL.out HP1.out.rd.1 (by omega) HB1.out.size ?_
       intro v2 w2 hown2 hg2 hv2
       have HB2 := Lib.hid (HB1.out.grown hg2 HB1.out.size fun k hk => by cases hk)
       have HT2 := Lib.hid (HP1.out.all.keeps (T := fun _ => True) (KeepsT.grown hg2 (fun j e => by cases e)) trivial)
       have HP2 := Lib.hid (HO.out.below HB2.out)
       have hc2 := HP2.out.cell
       rw [HQ.out] at hc2
       obtain ⟨y', hy', hu2⟩ := (HP2.out.rd.1 p _ HU.out).2
       cases hy'
       have ho2 := own_cast hown2 (Nat.zero_add _) (List.nil_append vs)
       obtain ⟨g, cap, rfl, hcp, hfp⟩ := own_cell ho2 HT2.out.one HU.out
       have HO2 := Lib.hid ho2
       have HR22 := Lib.hid (Rd.keep HR2.out HB2.out)
       clear hown2 hg2 hv2 ho2))
  go_region_with (go_at_call 61; refine (rwith_any w2.drew a2 n2 c2 n2 c0 s HN2.out (by omega) (Rd.keep HR22.out ((Below.refl w2.heap.size w2).drew)) hnil2 hcap2 (Nat.le_refl _)).mono ?_
                  rintro e w4 ⟨v4, rfl, hown4, hb4⟩
                  have hb4' : Below w2.heap.size w2 w4 := ((Below.refl w2.heap.size w2).drew).trans hb4
                  have hX4 : TxAt w4 v4 (putIn c0 n2 s) := TxAt.own hown4
                  have ho4 := ownsRow_belowAll HO2.out hb4'
                  obtain ⟨g', cap', e', hcg, hfg⟩ := own_cell ho4 HT2.out.one HU.out
                  cases e'
                  obtain ⟨a3, c3, rfl, -⟩ := own_slice hown4 (txts_one _)
                  rw [HN3.out]
                  rw [HN3.out] at hX4
                  have hS := ho4.stored p (.slice a3 n3 c3)
                  have hb5 : Below w.heap.size w (w4.setCell ⟨g, p, none⟩ (.slice a3 n3 c3)) := (HB2.out.trans (hb4'.mono HB2.out.size)).grown hS.2 (Nat.le_trans HB2.out.size hb4'.size) (fun k hk => by cases hk; exact (ho4.lt g rfl).1)
                  have hT5 := (HT2.out.keeps (T := fun _ => True) (KeepsT.ofBelow hb4') trivial).set p hX4
                  have HT6 := Lib.hid (hT5.grow ho4 hS.2)
                  have HP5 := Lib.hid (HO.out.below hb5)
                  have hc5 := HP5.out.cell
                  have hf5 := HP5.out.frozen
                  rw [HQ.out] at hc5
                  have HF := Lib.hid (ref_store HO.out.head hb5 hS.1 HT6.out (by rw [List.length_set, HQ.out]))
                  clear hown4 hb4 hb4' hX4 ho4 hS hb5 hT5)
  all_goals
    go_wp2_with fail
    go_ret
    exact ⟨rfl, HF.out.1, HF.out.2⟩
/-- Push, where nothing bars it. -/
theorem rpush_ok (w : World) (m : Nat) (css : List (List Txt)) (b : Bool) (s : Txt) (h : RefAt w m css) (hg : Fits css) (hs : s.length ≤ 281474976710656) (hc : mayC s (total css) = 0) :
    Calls Try.prog 42 #[.pointer (some ⟨m, 0, none⟩), .bool b, .string ⟨s.toArray⟩] w (RefPost m (pushC b s css) (.int .i64 0) w) := by
  unfold pushC
  cases b with
  | true =>
    cases hx : css[0]? with
    | none =>
      have e : css = [] := by cases css with
        | nil => rfl
        | cons x l => simp at hx
      simp only [if_true, hx]
      subst e
      exact rpush_newA w m [] s h hg hs hc (.inl rfl)
    | some c =>
      simp only [if_true, hx]
      have h32 := hg.chunk c (List.mem_of_getElem? hx)
      by_cases hl : c.length = 32
      · rw [if_pos hl]
        exact rpush_newA w m css s h hg hs hc (.inr ⟨c, hx, hl⟩)
      · rw [if_neg hl]
        exact rpush_roomA w m css c s h hg hs hc hx (by omega)
  | false =>
    cases hx : css[css.length - 1]? with
    | none =>
      have e : css = [] := by cases css with
        | nil => rfl
        | cons x l => simp at hx
      simp only [Bool.false_eq_true, if_false, hx]
      subst e
      exact rpush_newB w m [] s h hg hs hc (.inl rfl)
    | some c =>
      simp only [Bool.false_eq_true, if_false, hx]
      have h32 := hg.chunk c (List.mem_of_getElem? hx)
      by_cases hl : c.length = 32
      · rw [if_pos hl]
        have e : putIn css css.length [s] = css ++ [[s]] := by simp [putIn]
        rw [e]
        exact rpush_newB w m css s h hg hs hc (.inr ⟨c, hx, hl⟩)
      · rw [if_neg hl]
        exact rpush_roomB w m css c s h hg hs hc hx (by omega)
end Go.Proofs.Ytefoieloakfhfaa
