/- The document's answer for the deque: Push. -/
import Derived.Test.YtefoieloakfhfaaZRef6
import Derived.Deep.RegionWith
namespace Go.Proofs.Ytefoieloakfhfaa
open Go.RowKit Pantry

theorem tx_new (w : World) (s : Txt) : TxAt (w.alloc (.cells #[.string ⟨s.toArray⟩] 9)) (.slice (some ⟨w.heap.size, 0, none⟩) 1 1) [s] :=
  ⟨some ⟨w.heap.size, 0, none⟩, 1, rfl, (fun h => by cases h), Nat.le_refl _, Rd.new w #[.string ⟨s.toArray⟩] 9 (0, 0) (by simp [Value.oneCell']), (fun x hx _ => by cases hx; exact ⟨_, _, heap_alloc_new w _⟩)⟩
theorem TxAll.set {w : World} {vs : List Value} {css : List (List Txt)} {v : Value} {c : List Txt} (h : TxAll w vs css) (k : Nat) (hc : TxAt w v c) : TxAll w (vs.set k v) (css.set k c) := by
  refine ⟨by simp [h.len], fun i u d h1 h2 => ?_⟩
  by_cases hik : i = k
  · subst hik
    have hi : i < vs.length := by have := (List.getElem?_eq_some_iff.1 h1).1; simpa using this
    rw [List.getElem?_set_self hi] at h1
    rw [List.getElem?_set_self (by rw [← h.len]; exact hi)] at h2
    cases h1; cases h2; exact hc
  · rw [List.getElem?_set_ne (fun e => hik e.symm)] at h1 h2
    exact h.at_ i u d h1 h2
theorem rpush_nil (w : World) (b : Bool) (s : ByteArray) : Calls Try.prog 42 #[.pointer none, .bool b, .string s] w fun e w' => e = .returned (.int .i64 1) ∧ w = w' := by
  go_enter Try.func42, Try.ntmps42
  go_wp2_with fail
  go_ret
  exact ⟨rfl, rfl⟩
theorem rpush_no (w : World) (m : Nat) (css : List (List Txt)) (b : Bool) (s : Txt) (h : RefAt w m css) (hg : Fits css) (hs : s.length ≤ 281474976710656) (hc : (mayC s (total css) != 0) = true) :
    Calls Try.prog 42 #[.pointer (some ⟨m, 0, none⟩), .bool b, .string ⟨s.toArray⟩] w fun e w' => e = .returned (.int .i64 (mayC s (total css))) ∧ Below w.heap.size w w' := by
  have HM := Lib.hid (rmay_any w m css s h hg hs)
  obtain ⟨code, hcode⟩ : ∃ code, mayC s (total css) = code := ⟨_, rfl⟩
  rw [hcode] at HM hc ⊢
  clear hcode h hg hs
  go_enter Try.func42, Try.ntmps42
  go_wp2_with (go_at_call 60; refine HM.out.mono ?_; clear HM; rintro e w1 ⟨rfl, hb1⟩; have HB1 := Lib.hid hb1; clear hb1)
  go_ret
  exact ⟨rfl, HB1.out⟩
/-- What is known of the answer's deque while it is read. -/
structure Opened (w : World) (m : Nat) (css : List (List Txt)) (a : Option Addr) (c : Nat) (vs : List Value) : Prop where
  head : w.heap[m]? = some (.cells #[.slice a css.length c] 77)
  nil : a = none → c = 0
  cap : css.length ≤ c
  rd : RdT w 22 a vs
  all : TxAll w vs css
theorem RefAt.opened {w : World} {m : Nat} {css : List (List Txt)} (h : RefAt w m css) : ∃ a c vs, Opened w m css a c vs := by
  obtain ⟨v, hm, a, c, vs, rfl, h1, h2, h3, h4⟩ := h
  exact ⟨a, c, vs, hm, h1, h2, h3, h4⟩
theorem Opened.below {w w' : World} {m : Nat} {css : List (List Txt)} {a : Option Addr} {c : Nat} {vs : List Value} (h : Opened w m css a c vs) (hb : Below w.heap.size w w') : Opened w' m css a c vs :=
  ⟨(hb.block m (block_lt h.head)).trans h.head, h.nil, h.cap, h.rd.keeps (T := fun _ => True) (KeepsT.ofBelow hb) trivial, h.all.keeps (T := fun _ => True) (KeepsT.ofBelow hb) trivial⟩
theorem Opened.cell {w : World} {m : Nat} {css : List (List Txt)} {a : Option Addr} {c : Nat} {vs : List Value} (h : Opened w m css a c vs) : w.cell? ⟨m, 0, none⟩ = some (.slice a css.length c) := by
  rw [cell_of_row w m 0 _ _ _ h.head]; rfl
theorem Opened.frozen {w : World} {m : Nat} {css : List (List Txt)} {a : Option Addr} {c : Nat} {vs : List Value} (h : Opened w m css a c vs) : w.frozen? ⟨m, 0, none⟩ = false := frozen_of_row w m 0 _ _ h.head

set_option maxHeartbeats 8000000 in
set_option maxRecDepth 100000 in
/-- Ahead, where a new chunk comes. -/
theorem rpush_newA (w : World) (m : Nat) (css : List (List Txt)) (s : Txt) (h : RefAt w m css) (hg : Fits css) (hs : s.length ≤ 281474976710656) (hc : mayC s (total css) = 0) (hnew : css = [] ∨ ∃ c0, css[0]? = some c0 ∧ c0.length = 32) :
    Calls Try.prog 42 #[.pointer (some ⟨m, 0, none⟩), .bool true, .string ⟨s.toArray⟩] w (RefPost m ([s] :: css) (.int .i64 0) w) := by
  have HM := Lib.hid (rmay_any w m css s h hg hs)
  rw [hc] at HM
  obtain ⟨a, c, vs, ho⟩ := h.opened
  have hml := block_lt ho.head
  have hn := hg.rows
  obtain ⟨q, hq⟩ : ∃ q, css.length = q := ⟨_, rfl⟩
  have HQ := Lib.hid hq
  have HO := Lib.hid ho
  have hnil := ho.nil
  have hcap := ho.cap
  rw [hq] at hn hcap
  have HL := Lib.hid (show vs.length = q * 1 by rw [ho.all.len, hq]; omega)
  have hcase : q = 0 ∨ (0 < q ∧ ∃ y a2 c2, a = some y ∧ vs[0]? = some (.slice a2 32 c2)) := by
    rcases hnew with rfl | ⟨c0, h0, h32⟩
    · left; simpa using hq.symm
    · have hq0 := (List.getElem?_eq_some_iff.1 h0).1
      obtain ⟨u, hu⟩ : ∃ u, vs[0]? = some u := ⟨_, List.getElem?_eq_getElem (by rw [ho.all.len]; exact hq0)⟩
      obtain ⟨a2, c2, hu2, -⟩ := ho.all.at_ 0 u c0 hu h0
      obtain ⟨-, y, hy, -⟩ := ho.rd.1 0 u hu
      rw [h32] at hu2
      exact .inr ⟨by omega, y, a2, c2, hy, by rw [hu, hu2]⟩
  clear h hg hs hc hnew hq ho
  rcases hcase with rfl | ⟨hq0, y, a2, c2, rfl, hv0⟩
  · skip
    go_enter Try.func42, Try.ntmps42
    go_wp2_with (first
      | (go_at_call 60; refine HM.out.mono ?_; clear HM; rintro e w1 ⟨rfl, hb1⟩
         have hc1 := (HO.out.below hb1).cell
         rw [HQ.out] at hc1
         have HB1 := Lib.hid hb1
         clear hb1)
      | (at_builtin; refine wpl_append1_at lsT rfl _ _ rfl w.heap.size rfl (World.ownsRow_nil (w1.alloc (.cells #[.string ⟨s.toArray⟩] 9)) w.heap.size 22 1) #[.slice (some ⟨w1.heap.size, 0, none⟩) 1 1] (H := w1.heap.size + 1) rfl (by simp) rfl (by simp [Value.oneCell']) (by omega) (by have := HB1.out.size; simp; omega) ?_
         intro v2 w2 hown2 hg2 hb2 hv2
         have hT2 : TxAll w2 [.slice (some ⟨w1.heap.size, 0, none⟩) 1 1] [[s]] := (TxAll.nil w2).snoc ((tx_new w1 s).keeps (T := fun _ => True) (KeepsT.grown hg2 (fun j e => by cases e)) trivial)
         have HB2 := Lib.hid ((HB1.out.alloc HB1.out.size (.cells #[.string ⟨s.toArray⟩] 9)).trans hb2)
         have HP2 := Lib.hid (HO.out.below HB2.out)
         have hc2 := HP2.out.cell
         rw [HQ.out] at hc2
         have HO2 := Lib.hid hown2
         have HT2 := Lib.hid hT2
         clear hown2 hg2 hb2 hv2 hT2)
      | (at_builtin; refine wpl_append lsT rfl _ _ rfl w.heap.size rfl HO2.out (news := vs) rfl hnil HL.out HP2.out.rd.1 (by omega) HB2.out.size ?_
         intro v3 w3 hown3 hg3 hv3
         have HB3 := Lib.hid (HB2.out.grown hg3 HB2.out.size fun k hk => (HO2.out.lt k hk).1)
         have HT3 := Lib.hid ((HT2.out.append HP2.out.all).grow HO2.out hg3)
         have HP3 := Lib.hid (HO.out.below HB3.out)
         have hc3 := HP3.out.cell
         have hf3 := HP3.out.frozen
         rw [HQ.out] at hc3
         obtain ⟨a3, c3, ho3, -⟩ := own_slice hown3 (by simpa using HT3.out.one)
         subst ho3
         have HF := Lib.hid (ref_store HO.out.head HB3.out (own_cast hown3 rfl (by simp)) HT3.out (by simp [HQ.out]; try omega))
         clear hown3 hg3 hv3))
    go_ret
    exact ⟨rfl, HF.out.1, HF.out.2⟩
  · have hq1 : (0 : Int) < (q : Int) := by omega
    go_enter Try.func42, Try.ntmps42
    go_wp2_with (first
      | (go_at_call 60; refine HM.out.mono ?_; clear HM; rintro e w1 ⟨rfl, hb1⟩
         have hc1 := (HO.out.below hb1).cell
         rw [HQ.out] at hc1
         have hu1 := ((HO.out.below hb1).rd.1 0 _ hv0).2
         obtain ⟨y', hy', hu1⟩ := hu1
         cases hy'
         simp only [show y.add 0 = y by simp [Addr.add]] at hu1
         have HB1 := Lib.hid hb1
         clear hb1)
      | (at_builtin; refine wpl_append1_at lsT rfl _ _ rfl w.heap.size rfl (World.ownsRow_nil (w1.alloc (.cells #[.string ⟨s.toArray⟩] 9)) w.heap.size 22 1) #[.slice (some ⟨w1.heap.size, 0, none⟩) 1 1] (H := w1.heap.size + 1) rfl (by simp) rfl (by simp [Value.oneCell']) (by omega) (by have := HB1.out.size; simp; omega) ?_
         intro v2 w2 hown2 hg2 hb2 hv2
         have hT2 : TxAll w2 [.slice (some ⟨w1.heap.size, 0, none⟩) 1 1] [[s]] := (TxAll.nil w2).snoc ((tx_new w1 s).keeps (T := fun _ => True) (KeepsT.grown hg2 (fun j e => by cases e)) trivial)
         have HB2 := Lib.hid ((HB1.out.alloc HB1.out.size (.cells #[.string ⟨s.toArray⟩] 9)).trans hb2)
         have HP2 := Lib.hid (HO.out.below HB2.out)
         have hc2 := HP2.out.cell
         rw [HQ.out] at hc2
         have HO2 := Lib.hid hown2
         have HT2 := Lib.hid hT2
         clear hown2 hg2 hb2 hv2 hT2)
      | (at_builtin; refine wpl_append lsT rfl _ _ rfl w.heap.size rfl HO2.out (news := vs) rfl hnil HL.out HP2.out.rd.1 (by omega) HB2.out.size ?_
         intro v3 w3 hown3 hg3 hv3
         have HB3 := Lib.hid (HB2.out.grown hg3 HB2.out.size fun k hk => (HO2.out.lt k hk).1)
         have HT3 := Lib.hid ((HT2.out.append HP2.out.all).grow HO2.out hg3)
         have HP3 := Lib.hid (HO.out.below HB3.out)
         have hc3 := HP3.out.cell
         have hf3 := HP3.out.frozen
         rw [HQ.out] at hc3
         obtain ⟨a3, c3, ho3, -⟩ := own_slice hown3 (by simpa using HT3.out.one)
         subst ho3
         have HF := Lib.hid (ref_store HO.out.head HB3.out (own_cast hown3 rfl (by simp)) HT3.out (by simp [HQ.out]; try omega))
         clear hown3 hg3 hv3))
    go_ret
    exact ⟨rfl, HF.out.1, HF.out.2⟩
end Go.Proofs.Ytefoieloakfhfaa
