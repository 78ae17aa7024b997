/- Within of ranks, whole. -/
import Derived.Test.YtbjfigegiffefaaRkWithin
set_option linter.unusedVariables false
set_option linter.unusedSimpArgs false
namespace Pantry
open Go Go.RowKit Ieee
theorem dkey_ge {d : Datum} (h : DGood d) : -fbig ≤ dkey d := by
  cases d with
  | number s m i =>
    obtain ⟨h1, h2, h3⟩ := h
    exact Int.le_of_lt (signed_abs s m _ h1 (by omega)).1
  | infinity s =>
    have := fbig_pos
    cases s
    · show -fbig ≤ fbig; omega
    · exact Int.le_refl _
  | nan => cases h
theorem ninf_read : double.read ninfB = .infinity true := by rfl
theorem ninf_num : ¬ fnan ninfB := by unfold fnan; rw [ninf_read]; decide
theorem ninf_key : fkey ninfB = -fbig := by unfold fkey; rw [ninf_read]; rfl
theorem ninf_le {x : Nat} (hx : ¬ fnan x) : fkey ninfB ≤ fkey x := by
  rw [ninf_key]; exact dkey_ge ((read_good x).resolve_right hx)
theorem withinF_num {x a b : Nat} {oa ob : Bool} (hx : ¬ fnan x) (ha : ¬ fnan a) (hb : ¬ fnan b) :
    withinF x a oa b ob = ((decide (fkey a < fkey x) || (decide (fkey x = fkey a) && !oa)) && (decide (fkey x < fkey b) || (decide (fkey x = fkey b) && !ob))) := by
  unfold withinF
  rw [f_gt hx ha, f_eq hx ha, f_lt hx hb, f_eq hx hb]
theorem within_upto {x a : Nat} {oa : Bool} (hx : ¬ fnan x) (ha : ¬ fnan a) : withinF x ninfB false a oa = true ↔ fkey x < fkey a ∨ (fkey x = fkey a ∧ oa = false) := by
  rw [withinF_num hx ninf_num ha]
  have := ninf_le hx
  simp only [Bool.and_eq_true, Bool.or_eq_true, decide_eq_true_eq, Bool.not_eq_true', Bool.not_false, Bool.and_true]
  constructor
  · exact fun h => h.2
  · exact fun h => ⟨by omega, h⟩
theorem within_nan {x a b : Nat} {oa ob : Bool} (h : fnan a ∨ fnan b) : withinF x a oa b ob = false := by
  unfold withinF
  rcases h with h | h
  · rw [f_nan_r h]; rfl
  · rw [f_nan_r h x]; simp
end Pantry
namespace Go.Proofs.Ytbjfigegiffefaa
open Go.RowKit Pantry

theorem falls_within {l : List Mb} (h : ∀ p ∈ l, ¬ fnan p.2) (hr : Rises l) {a : Nat} {oa : Bool} (ha : ¬ fnan a) : Falls l (fun x => withinF x ninfB false a oa) := by
  intro j k m m' hjk hj hk hp
  have h1 := hr.get hjk hj hk
  rw [cmpR_lt] at h1
  have hm := h _ (List.mem_of_getElem? hj)
  have hm' := h _ (List.mem_of_getElem? hk)
  rw [within_upto hm' ha] at hp
  rw [within_upto hm ha]
  rcases hp with hp | ⟨hp, ho⟩
  · exact .inl (by omega)
  · rcases h1 with h1 | ⟨h1, -⟩
    · exact .inl (by omega)
    · exact .inr ⟨by omega, ho⟩
def WithinPost (l : List Mb) (a : Nat) (oa : Bool) (b : Nat) (ob : Bool) (w : World) (e : Ending) (w' : World) : Prop :=
  (((fnan a ∨ fnan b) ∧ e = .returned (.tuple #[.int .i64 0, .int .i64 0])) ∨
   (¬ fnan a ∧ ¬ fnan b ∧ ∃ i j : Nat, Upto l (fun x => withinF x ninfB false a (!oa)) i ∧ Upto l (fun x => withinF x ninfB false b ob) j ∧ e = .returned (.tuple #[.int .i64 i, .int .i64 (max i j : Nat)]))) ∧ Below w.heap.size w w'
set_option maxHeartbeats 4000000 in
set_option maxRecDepth 100000 in
theorem rkWithin_any (w : World) (r seed d : Nat) (D : Dc) (v : Value) (l : List Mb) (a : Nat) (oa : Bool) (b : Nat) (ob : Bool) (h : RkAt w r seed d D v l) :
    Calls Try.prog 24 #[.pointer (some ⟨r, 0, none⟩), .agg #[.float .f64 a, .bool oa], .agg #[.float .f64 b, .bool ob]] w (WithinPost l a oa b ob w) := by
  have hnan := fun w => Lib.hid (isNaN_any w a)
  have hnan2 := fun w => Lib.hid (isNaN_any w b)
  have hninf := fun w => Lib.hid (ninf_any w)
  have H := Lib.hid h
  obtain ⟨w1, hw1⟩ : ∃ w1, (w.alloc (.cells #[.float .f64 a, .bool oa] 58)).alloc (.cells #[.float .f64 b, .bool ob] 58) = w1 := ⟨_, rfl⟩
  have hB1 : Below w.heap.size w w1 := by rw [← hw1]; exact ((Below.refl _ w).alloc (Nat.le_refl _) _).alloc (by simp) _
  have hs1 : w1.heap.size = w.heap.size + 2 := by rw [← hw1]; simp
  have ha1 : w1.heap[w.heap.size]? = some (.cells #[.float .f64 a, .bool oa] 58) := by rw [← hw1, heap_alloc_old (by simp)]; exact heap_alloc_new w _
  have hb1 : w1.heap[w.heap.size + 1]? = some (.cells #[.float .f64 b, .bool ob] 58) := by
    rw [← hw1]
    have := heap_alloc_new (w.alloc (.cells #[.float .f64 a, .bool oa] 58)) (.cells #[.float .f64 b, .bool ob] 58)
    simpa using this
  obtain ⟨⟨a0, a1⟩, -⟩ := two ha1
  obtain ⟨⟨b0, b1⟩, -⟩ := two hb1
  have HF := Lib.hid (show _ ∧ _ ∧ _ ∧ _ from ⟨hB1, hs1, ha1, hb1⟩)
  clear hB1 hs1 ha1 hb1 h
  by_cases ha : fnan a
  · have HA := Lib.hid ha
    have hd : decide (fnan a) = true := decide_eq_true ha
    clear ha
    go_enter Try.func24, Try.ntmps24
    go_wp2_with (first
      | (go_at_call 38; refine (hnan _).out.mono ?_; rintro e w2 ⟨rfl, rfl⟩))
    go_ret2
    exact ⟨.inl ⟨.inl HA.out, rfl⟩, HF.out.1⟩
  · have HA := Lib.hid ha
    have hd : decide (fnan a) = false := decide_eq_false ha
    clear ha
    by_cases hb : fnan b
    · have HB := Lib.hid hb
      have hd2 : decide (fnan b) = true := decide_eq_true hb
      clear hb
      go_enter Try.func24, Try.ntmps24
      go_wp2_with (first
        | (go_at_call 38; refine (hnan _).out.mono ?_; rintro e w2 ⟨rfl, rfl⟩)
        | (go_at_call 38; refine (hnan2 _).out.mono ?_; rintro e w2 ⟨rfl, rfl⟩))
      go_ret2
      exact ⟨.inl ⟨.inr HB.out, rfl⟩, HF.out.1⟩
    · have HB := Lib.hid hb
      have hd2 : decide (fnan b) = false := decide_eq_false hb
      clear hb
      obtain ⟨w2, hw2⟩ : ∃ w2, w1.alloc (.cells #[.float .f64 ninfB, .bool false] 58) = w2 := ⟨_, rfl⟩
      have hB2 : Below w1.heap.size w1 w2 := by rw [← hw2]; exact (Below.refl _ w1).alloc (Nat.le_refl _) _
      have ha2 : w2.heap[w.heap.size]? = _ := (hB2.block _ (block_lt HF.out.2.2.1)).trans HF.out.2.2.1
      have hb2 : w2.heap[w.heap.size + 1]? = _ := (hB2.block _ (block_lt HF.out.2.2.2)).trans HF.out.2.2.2
      have hc2 : w2.heap[w.heap.size + 2]? = some (.cells #[.float .f64 ninfB, .bool false] 58) := by
        rw [← hw2]
        have := heap_alloc_new w1 (.cells #[.float .f64 ninfB, .bool false] 58)
        rwa [HF.out.2.1] at this
      have hs2 : w1.heap.size = w.heap.size + 2 := HF.out.2.1
      have HB2 := Lib.hid (HF.out.1.trans (hB2.mono HF.out.1.size))
      have HC1 := Lib.hid (count_any w2 r seed d D v l 43 #[.pointer (some ⟨w.heap.size + 2, 0, none⟩), .pointer (some ⟨w.heap.size, 0, none⟩)] _ (H.out.below HB2.out) (falls_within H.out.good.num H.out.good.rises HA.out) fun W bb hW hbb W2 s x z hW2 => count1_rkW1 _ _ bb _ _ s x z ((tests1 _ _ a oa w2 hc2 ha2).below (hW.trans (hW2.mono hW.size))) ((hW2.block _ (block_lt hbb)).trans hbb))
      have HT2 := Lib.hid (show _ ∧ _ from ⟨hb2, hc2⟩)
      have HC2 : Hid (∀ W, Below w2.heap.size w2 W → Calls Try.prog 42 #[.pointer (some ⟨r, 0, none⟩), .func (.func 44) #[] #[.pointer (some ⟨w.heap.size + 2, 0, none⟩), .pointer (some ⟨w.heap.size + 1, 0, none⟩)]] W (CountPost l (fun x => withinF x ninfB false b ob) W)) := Lib.hid fun W hW =>
        count_any W r seed d D v l 44 #[.pointer (some ⟨w.heap.size + 2, 0, none⟩), .pointer (some ⟨w.heap.size + 1, 0, none⟩)] _ ((H.out.below HB2.out).below hW) (falls_within H.out.good.num H.out.good.rises HB.out) fun W1 bb hW1 hbb W2 s x z hW2 => count1_rkW2 _ _ bb _ _ s x z ((tests2 _ _ b ob w2 HT2.out.2 HT2.out.1).below (hW.trans ((hW1.trans (hW2.mono hW1.size)).mono hW.size))) ((hW2.block _ (block_lt hbb)).trans hbb)
      have HW2 := Lib.hid hw2
      clear hB2 ha2 hb2 hc2 hw2
      go_enter Try.func24, Try.ntmps24
      go_wp2_with (first
        | (go_at_call 38; refine (hnan _).out.mono ?_; rintro e w2 ⟨rfl, rfl⟩)
        | (go_at_call 38; refine (hnan2 _).out.mono ?_; rintro e w2 ⟨rfl, rfl⟩)
        | (go_at_call 26; refine (hninf _).out.mono ?_; rintro e w3 ⟨rfl, rfl⟩))
      rw [HW2.out]
      refine HC1.out.mono ?_
      rintro e w3 ⟨i, rfl, hi, hb3⟩
      have HI := Lib.hid hi
      have HB3 := Lib.hid hb3
      have HC3 := Lib.hid (HC2.out w3 hb3)
      clear hi hb3 HC1 HC2 HW2
      go_wp2_with fail
      refine HC3.out.mono ?_
      rintro e w4 ⟨j, rfl, hj, hb4⟩
      have HJ := Lib.hid hj
      have HB4 := Lib.hid (HB2.out.trans ((HB3.out.trans (hb4.mono HB3.out.size)).mono HB2.out.size))
      clear hj hb4 HC3
      have hm : max (i : Int) (j : Int) = ((max i j : Nat) : Int) := by omega
      obtain ⟨m, hm2⟩ : ∃ m, max i j = m := ⟨_, rfl⟩
      rw [hm2] at hm
      have HM := Lib.hid hm2
      clear hm2
      go_wp2_with fail
      go_ret2
      exact ⟨.inr ⟨HA.out, HB.out, i, j, HI.out, HJ.out, by rw [HM.out]; rfl⟩, HB4.out⟩
end Go.Proofs.Ytbjfigegiffefaa
