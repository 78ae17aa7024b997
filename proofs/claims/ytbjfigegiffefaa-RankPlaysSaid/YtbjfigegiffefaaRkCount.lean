/- How many scores a test takes, by halving. -/
import Derived.Test.YtbjfigegiffefaaRkNew
set_option linter.unusedVariables false
set_option linter.unusedSimpArgs false
namespace Go.Proofs.Ytbjfigegiffefaa
open Go.RowKit Pantry

/-- A function value answers a test of scores, now and later. -/
def Tests (F : Nat) (caps : Array Value) (P : Nat → Bool) (w : World) : Prop := ∀ W x, Below w.heap.size w W → Calls Try.prog F (#[.float .f64 x] ++ caps) W (QPost W (.bool (P x)))
theorem Tests.below {F : Nat} {caps : Array Value} {P : Nat → Bool} {w w' : World} (h : Tests F caps P w) (hb : Below w.heap.size w w') : Tests F caps P w' := fun W x k => h W x (hb.trans (k.mono hb.size))
set_option maxHeartbeats 1000000 in
theorem count1_rkW1 (p q b : Nat) (P : Nat → Bool) (w : World) (s : List UInt8) (x : Nat) (z : Int) (h : Tests 43 #[.pointer (some ⟨p, 0, none⟩), .pointer (some ⟨q, 0, none⟩)] P w) (hb : w.heap[b]? = some (.cells #[.func (.func 43) #[] #[.pointer (some ⟨p, 0, none⟩), .pointer (some ⟨q, 0, none⟩)]] 82)) :
    Calls Try.prog 65 #[.agg #[.string ⟨s.toArray⟩, .float .f64 x], .int .i64 z, .pointer (some ⟨b, 0, none⟩)] w (QPost w (.int .i64 (if P x then -1 else 1))) := by
  obtain ⟨w1, hw1⟩ : ∃ w1, w.alloc (.cells #[.string ⟨s.toArray⟩, .float .f64 x] 34) = w1 := ⟨_, rfl⟩
  have hB1 : Below w.heap.size w w1 := by rw [← hw1]; exact (Below.refl _ w).alloc (Nat.le_refl _) _
  have hb1 : w1.heap[b]? = _ := (hB1.block _ (block_lt hb)).trans hb
  have c0 := cell_of_row w1 b 0 _ _ _ hb1
  have hx1 : w1.heap[w.heap.size]? = some (.cells #[.string ⟨s.toArray⟩, .float .f64 x] 34) := by rw [← hw1]; exact heap_alloc_new w _
  have c1 := cell_of_row w1 w.heap.size 1 _ _ _ hx1
  replace c0 : w1.cell? ⟨b, 0, none⟩ = some (.func (.func 43) #[] #[.pointer (some ⟨p, 0, none⟩), .pointer (some ⟨q, 0, none⟩)]) := c0
  replace c1 : w1.cell? ⟨w.heap.size, 1, none⟩ = some (.float .f64 x) := c1
  have HC := Lib.hid (h w1 x hB1)
  have HB1 := Lib.hid hB1
  obtain ⟨t, ht⟩ : ∃ t, P x = t := ⟨_, rfl⟩
  rw [ht] at HC ⊢
  clear h hb hB1 hb1 hx1 ht
  cases t
  all_goals
    go_enter Try.func65, Try.ntmps65
    go_wp2_with (go_at_call 43; refine HC.out.mono ?_; rintro e w2 ⟨rfl, hb2⟩
                 have HB2 := Lib.hid (HB1.out.trans (hb2.mono HB1.out.size))
                 clear hb2 HC)
    go_ret
    exact ⟨rfl, HB2.out⟩
set_option maxHeartbeats 1000000 in
theorem count1_rkW2 (p q b : Nat) (P : Nat → Bool) (w : World) (s : List UInt8) (x : Nat) (z : Int) (h : Tests 44 #[.pointer (some ⟨p, 0, none⟩), .pointer (some ⟨q, 0, none⟩)] P w) (hb : w.heap[b]? = some (.cells #[.func (.func 44) #[] #[.pointer (some ⟨p, 0, none⟩), .pointer (some ⟨q, 0, none⟩)]] 82)) :
    Calls Try.prog 65 #[.agg #[.string ⟨s.toArray⟩, .float .f64 x], .int .i64 z, .pointer (some ⟨b, 0, none⟩)] w (QPost w (.int .i64 (if P x then -1 else 1))) := by
  obtain ⟨w1, hw1⟩ : ∃ w1, w.alloc (.cells #[.string ⟨s.toArray⟩, .float .f64 x] 34) = w1 := ⟨_, rfl⟩
  have hB1 : Below w.heap.size w w1 := by rw [← hw1]; exact (Below.refl _ w).alloc (Nat.le_refl _) _
  have hb1 : w1.heap[b]? = _ := (hB1.block _ (block_lt hb)).trans hb
  have c0 := cell_of_row w1 b 0 _ _ _ hb1
  have hx1 : w1.heap[w.heap.size]? = some (.cells #[.string ⟨s.toArray⟩, .float .f64 x] 34) := by rw [← hw1]; exact heap_alloc_new w _
  have c1 := cell_of_row w1 w.heap.size 1 _ _ _ hx1
  replace c0 : w1.cell? ⟨b, 0, none⟩ = some (.func (.func 44) #[] #[.pointer (some ⟨p, 0, none⟩), .pointer (some ⟨q, 0, none⟩)]) := c0
  replace c1 : w1.cell? ⟨w.heap.size, 1, none⟩ = some (.float .f64 x) := c1
  have HC := Lib.hid (h w1 x hB1)
  have HB1 := Lib.hid hB1
  obtain ⟨t, ht⟩ : ∃ t, P x = t := ⟨_, rfl⟩
  rw [ht] at HC ⊢
  clear h hb hB1 hb1 hx1 ht
  cases t
  all_goals
    go_enter Try.func65, Try.ntmps65
    go_wp2_with (go_at_call 44; refine HC.out.mono ?_; rintro e w2 ⟨rfl, hb2⟩
                 have HB2 := Lib.hid (HB1.out.trans (hb2.mono HB1.out.size))
                 clear hb2 HC)
    go_ret
    exact ⟨rfl, HB2.out⟩

/-- The comparison that count hands on. -/
def CTests (b : Nat) (P : Nat → Bool) (w : World) : Prop := ∀ W s x z, Below w.heap.size w W → Calls Try.prog 65 #[.agg #[.string ⟨List.toArray s⟩, .float .f64 x], .int .i64 z, .pointer (some ⟨b, 0, none⟩)] W (QPost W (.int .i64 (if P x then -1 else 1)))
theorem CTests.below {b : Nat} {P : Nat → Bool} {w w' : World} (h : CTests b P w) (hb : Below w.heap.size w w') : CTests b P w' := fun W s x z k => h W s x z (hb.trans (k.mono hb.size))
/-- So many of the first pass the test, and no other. -/
structure Upto (l : List Mb) (P : Nat → Bool) (i : Nat) : Prop where
  le : i ≤ l.length
  lo : ∀ k m, k < i → l[k]? = some m → P m.2 = true
  hi : ∀ k m, i ≤ k → l[k]? = some m → P m.2 = false
def Falls (l : List Mb) (P : Nat → Bool) : Prop := ∀ (j k : Nat) (m m' : Mb), j < k → l[j]? = some m → l[k]? = some m' → P m'.2 = true → P m.2 = true
def UptoPost (l : List Mb) (P : Nat → Bool) (w : World) (e : Ending) (w' : World) : Prop := ∃ (i : Nat) (ok : Bool), e = .returned (.tuple #[.int .i64 i, .bool ok]) ∧ Upto l P i ∧ Below w.heap.size w w'
set_option maxHeartbeats 4000000 in
set_option maxRecDepth 100000 in
theorem bsearchN_any (w : World) (a : Option Addr) (n c b : Nat) (l : List Mb) (P : Nat → Bool) (hr : Rd w a (rkCells l)) (hn : l.length = n) (hf : n ≤ 268435456) (hP : Falls l P) (hc : CTests b P w) :
    Calls Try.prog 64 #[.slice a n c, .int .i64 0, .func (.func 65) #[] #[.pointer (some ⟨b, 0, none⟩)]] w (UptoPost l P w) := by
  have HN := Lib.hid hn
  have HP := Lib.hid hP
  have HR := Lib.hid hr
  have HC := Lib.hid hc
  clear hn hP hr hc
  go_enter Try.func64, Try.ntmps64
  go_wp2_with fail
  go_loopw [9, 10] (fun i j wr => ∃ p q : Nat, p ≤ q ∧ q ≤ n ∧ i = .int .i64 p ∧ j = .int .i64 q ∧ Hid (Below w.heap.size w wr) ∧ Hid (∀ k m, k < p → l[k]? = some m → P m.2 = true) ∧ Hid (∀ k m, q ≤ k → l[k]? = some m → P m.2 = false)) (fun i j _ => (intOf j).toNat - (intOf i).toNat)
  case atStart => exact ⟨0, n, by omega, by omega, rfl, rfl, Lib.hid (Below.refl _ _), Lib.hid (fun k m hk => absurd hk (Nat.not_lt_zero k)), Lib.hid (fun k m hk hm => by have := (List.getElem?_eq_some_iff.1 hm).1; have := HN.out; omega)⟩
  case round =>
    obtain ⟨p, q, hpq, hqn, rfl, rfl, HB, HLO, HHI⟩ := hrel
    have HRW := Lib.hid (HR.out.below HB.out)
    by_cases hlt : p < q
    · obtain ⟨h, hh⟩ : ∃ h, (p + q) / 2 = h := ⟨_, rfl⟩
      have hmid : ((p : Int) + (q : Int)) / 2 = (h : Int) := by omega
      have hph : p ≤ h := by omega
      have hhq : h < q := by omega
      have hhn : h < n := by omega
      clear hh
      obtain ⟨m, hm⟩ : ∃ m, l[h]? = some m := ⟨_, List.getElem?_eq_getElem (by have := HN.out; omega)⟩
      obtain ⟨y, hy, hcl⟩ := rk_cells HRW.out hm
      have HM := Lib.hid hm
      have e0 := hcl 0 _ rfl
      have e1 := hcl 1 _ rfl
      rw [← Addr.add_add] at e0 e1
      have e2 : wr.cell? (y.add (h * 2)) = some (.string ⟨m.1.toArray⟩) := e0
      have e3 : wr.cell? { block := (y.add (h * 2)).block, off := (y.add (h * 2)).off + 1 } = some (.float .f64 m.2) := e1
      have HO := Lib.hid (HC.out wr m.1 m.2 0 HB.out)
      subst hy
      obtain ⟨t, ht⟩ : ∃ t, P m.2 = t := ⟨_, rfl⟩
      rw [ht] at HO
      have HT := Lib.hid ht
      clear hm hcl e0 e1 ht
      cases t
      · go_wp2_with (go_at_call 65; refine HO.out.mono ?_; rintro e w2 ⟨rfl, hb2⟩
                     have HB2 := Lib.hid ((HB.out).trans (hb2.mono HB.out.size))
                     clear hb2 HO)
        go_roundw
        case rel => exact ⟨p, h, hph, by omega, rfl, by go_num, HB2, HLO, Lib.hid (fun k m' hk hm' => by
          rcases Nat.lt_or_eq_of_le hk with hlt2 | rfl
          · cases hq : P m'.2 with
            | false => rfl
            | true => have := HP.out _ _ _ _ hlt2 HM.out hm' hq; rw [HT.out] at this; cases this
          · rw [HM.out] at hm'; cases hm'; exact HT.out)⟩
        case measure => simp [intOf]; omega
      · go_wp2_with (go_at_call 65; refine HO.out.mono ?_; rintro e w2 ⟨rfl, hb2⟩
                     have HB2 := Lib.hid ((HB.out).trans (hb2.mono HB.out.size))
                     clear hb2 HO)
        go_roundw
        case rel => exact ⟨h + 1, q, by omega, hqn, by go_num, rfl, HB2, Lib.hid (fun k m' hk hm' => by
          rcases Nat.lt_or_eq_of_le (Nat.le_of_lt_succ hk) with hlt2 | rfl
          · exact HP.out _ _ _ _ hlt2 hm' HM.out HT.out
          · rw [HM.out] at hm'; cases hm'; exact HT.out), HHI⟩
        case measure => simp [intOf]; omega
    · obtain rfl : p = q := by omega
      have HAT := Lib.hid (show Upto l P p from ⟨by rw [HN.out]; exact hqn, HLO.out, HHI.out⟩)
      clear HLO HHI hlt hpq
      by_cases hpn : p < n
      · have hpi : decide (p < n) = true := by simpa using hpn
        have hpi' : decide ((p : Int) < (n : Int)) = true := by simpa using hpn
        obtain ⟨m, hm⟩ : ∃ m, l[p]? = some m := ⟨_, List.getElem?_eq_getElem (by have := HN.out; omega)⟩
        obtain ⟨y, hy, hcl⟩ := rk_cells HRW.out hm
        subst hy
        have e0 := hcl 0 _ rfl
        have e1 := hcl 1 _ rfl
        rw [← Addr.add_add] at e0 e1
        have e2 : wr.cell? (y.add (p * 2)) = some (.string ⟨m.1.toArray⟩) := e0
        have e3 : wr.cell? { block := (y.add (p * 2)).block, off := (y.add (p * 2)).off + 1 } = some (.float .f64 m.2) := e1
        have HO := Lib.hid (HC.out wr m.1 m.2 0 HB.out)
        obtain ⟨t, ht⟩ : ∃ t, P m.2 = t := ⟨_, rfl⟩
        rw [ht] at HO
        clear hm hcl e0 e1 ht
        cases t
        all_goals
          go_wp2_with (go_at_call 65; refine HO.out.mono ?_; rintro e w2 ⟨rfl, hb2⟩
                       have HB2 := Lib.hid ((HB.out).trans (hb2.mono HB.out.size))
                       clear hb2 HO)
          go_ret2
          exact ⟨p, _, rfl, HAT.out, HB2.out⟩
      · have hpi : decide (p < n) = false := by simpa using hpn
        have hpi' : decide ((p : Int) < (n : Int)) = false := by simpa using hpn
        go_wp2_with fail
        go_ret2
        exact ⟨p, false, rfl, HAT.out, HB.out⟩
end Go.Proofs.Ytbjfigegiffefaa
