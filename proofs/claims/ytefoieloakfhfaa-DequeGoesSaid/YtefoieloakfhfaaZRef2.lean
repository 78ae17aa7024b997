/- The document's answer for the deque: Chunks, Cost, At, may, with. -/
import Derived.Test.YtefoieloakfhfaaZRef1
namespace Go.Proofs.Ytefoieloakfhfaa
open Go.RowKit Pantry

set_option maxHeartbeats 4000000 in
set_option maxRecDepth 100000 in
theorem rchunks_any (w : World) (m : Nat) (css : List (List Txt)) (h : RefAt w m css) (hn : css.length ≤ 1048577) :
    Calls Try.prog 51 #[.pointer (some ⟨m, 0, none⟩)] w (IntsPost (sizesL css) w) := by
  obtain ⟨v, hm, a, c, vs, rfl, hnil, hc, hrd, hall⟩ := h
  have hc0 : w.cell? ⟨m, 0, none⟩ = some (.slice a css.length c) := by rw [cell_of_row w m 0 _ _ _ hm]; rfl
  obtain ⟨q, hq⟩ : ∃ q, css.length = q := ⟨_, rfl⟩
  rw [hq] at hn hc hc0
  have HQ := Lib.hid hq
  have HA := Lib.hid hall
  have HR := Lib.hid hrd
  clear hq hm hall hrd
  go_enter Try.func51, Try.ntmps51
  go_wp2_with fail
  go_loopw [3, 13] (fun v i wr => ∃ k : Nat, k ≤ q ∧ i = .int .i64 k ∧ Hid (wr.ownsRow w.heap.size 3 1 v k (intsL (sizesL (css.take k)))) ∧ Hid (Below w.heap.size w wr)) (fun _ i _ => q - (intOf i).toNat)
  case atStart => exact ⟨0, Nat.zero_le _, rfl, Lib.hid (World.ownsRow_nil _ _ _ _), Lib.hid (Below.refl _ _)⟩
  case round =>
    obtain ⟨k, hk, rfl, HO, HB⟩ := hrel
    by_cases hlt : k < q
    · obtain ⟨ck, hck⟩ : ∃ ck, css[k]? = some ck := ⟨_, List.getElem?_eq_getElem (by rw [HQ.out]; exact hlt)⟩
      obtain ⟨u, hu⟩ : ∃ u, vs[k]? = some u := ⟨_, List.getElem?_eq_getElem (by rw [HA.out.len, HQ.out]; exact hlt)⟩
      obtain ⟨a2, c2, rfl, hnil2, hc2, hrd2⟩ := HA.out.at_ k u ck hu hck
      obtain ⟨hone, y, rfl, hcell⟩ := (Rd.keep HR.out.1 HB.out) k _ hu
      have HST := Lib.hid (sizesL_take hck)
      obtain ⟨n2, hn2⟩ : ∃ n2, ck.length = n2 := ⟨_, rfl⟩
      rw [hn2] at hcell hc2 HST
      clear hck hu hrd2 hn2
      go_wp2_with (at_builtin; (refine wpl_append1 Try.intsT rfl _ _ rfl w.heap.size rfl HO.out #[.int .i64 n2] rfl rfl (by simp [Value.oneCell']) (by omega) HB.out.size ?_)
                   intro v5 w5 hown5 hg5 hb5 hv5
                   have HO5 := Lib.hid hown5
                   have HB5 := Lib.hid (HB.out.trans hb5)
                   clear hown5 hg5 hb5 hv5)
      go_roundw
      case rel => exact ⟨k + 1, by omega, by go_num, Lib.hid (by rw [HST.out, ← intsL_snoc]; exact HO5.out), HB5⟩
      case measure => simp [intOf]; omega
    · obtain rfl : k = q := by omega
      have HE := Lib.hid (show css.take k = css by rw [List.take_of_length_le (by rw [HQ.out]; exact Nat.le_refl _)])
      go_wp2_with fail
      go_ret
      refine ⟨_, rfl, ?_, HB.out⟩
      have h1 := HO.out
      rw [HE.out] at h1
      rw [show (sizesL css).length = k by simp [sizesL, HQ.out]]
      exact h1
theorem rchunks_or (w : World) (p : Option Addr) (css : List (List Txt)) (h : RefOr w p css) (hn : css.length ≤ 1048577) : Calls Try.prog 51 #[.pointer p] w (IntsPost (sizesL css) w) := by
  rcases h with ⟨rfl, rfl⟩ | ⟨m, rfl, h⟩
  · go_enter Try.func51, Try.ntmps51
    go_wp2_with fail
    go_ret
    exact ⟨_, rfl, World.ownsRow_nil _ _ _ _, Below.refl _ _⟩
  · exact rchunks_any w m css h hn

set_option maxHeartbeats 4000000 in
set_option maxRecDepth 100000 in
theorem rcost_or (w : World) (p : Option Addr) (css : List (List Txt)) (h : RefOr w p css) (hg : Fits css) :
    Calls Try.prog 53 #[.pointer p] w fun e w' => e = .returned (.int .i64 (costOf css : Nat)) ∧ Below w.heap.size w w' := by
  have HR := Lib.hid (rrow_or w p css h hg.rows (Nat.le_trans hg.total (by omega)))
  have hcl := costOf_le hg.text
  have htot := hg.total
  obtain ⟨l, hl⟩ : ∃ l, css.flatten = l := ⟨_, rfl⟩
  have hct := costOf_flat css
  have hln : l.length = total css := by rw [← hl, flatten_length]
  rw [hl] at hct HR
  obtain ⟨C, hC⟩ : ∃ C, costOf css = C := ⟨_, rfl⟩
  obtain ⟨n, hn⟩ : ∃ n, total css = n := ⟨_, rfl⟩
  rw [hC] at hcl hct ⊢
  rw [hn] at hcl htot hln
  have hCb : C ≤ 1048576 * 1048592 := Nat.le_trans hcl (Nat.mul_le_mul_right _ htot)
  have HCT := Lib.hid (show costs l = C from hct.symm)
  have HL := Lib.hid hln
  clear h hg hcl hct hln hC hn hl
  go_enter Try.func53, Try.ntmps53
  go_wp2_with (go_at_call 32; refine HR.out.mono ?_; clear HR; rintro e w1 ⟨v1, rfl, hown1, hb1⟩
               obtain ⟨a1, c1, rfl, hr1⟩ := textsRd hown1
               rw [HL.out]
               have HR1 := Lib.hid hr1
               have HB1 := Lib.hid hb1
               clear hown1 hb1 hr1)
  go_loopw [3, 9] (fun s i wx => ∃ j u : Nat, j ≤ n ∧ s = .int .i64 u ∧ i = .int .i64 j ∧ Hid (u = costs (l.take j)) ∧ wx = w1) (fun _ i _ => n - (intOf i).toNat)
  case atStart => exact ⟨0, 0, Nat.zero_le _, rfl, rfl, Lib.hid rfl, rfl⟩
  case round =>
    obtain ⟨j, u, hj, rfl, rfl, HU, rfl⟩ := hrel
    by_cases hlt2 : j < n
    · obtain ⟨x, hxj⟩ : ∃ x, l[j]? = some x := ⟨_, List.getElem?_eq_getElem (by rw [HL.out]; exact hlt2)⟩
      obtain ⟨y, hy, hcell⟩ := txts_cell HR1.out hxj
      subst hy
      unfold txt at hcell
      have hsz := mk_size x
      have hst := costs_take hxj
      have hmo := costs_mono l (j + 1)
      rw [HCT.out, hst, ← HU.out] at hmo
      have HST := Lib.hid hst
      clear hxj hst
      have hb : u + (16 + x.length) ≤ 1048576 * 1048592 := Nat.le_trans hmo hCb
      go_wp2_with fail
      go_roundw
      case rel => exact ⟨j + 1, u + (16 + x.length), by omega, by go_num, by go_num, Lib.hid (by have h1 := HU.out; have h2 := HST.out; omega), trivial⟩
      case measure => simp [intOf]; omega
    · obtain rfl : j = n := by omega
      have HS2 := Lib.hid (show u = C by rw [HU.out, List.take_of_length_le (by rw [HL.out]; exact Nat.le_refl _)]; exact HCT.out)
      go_wp2_with fail
      go_ret
      exact ⟨by rw [← HS2.out]; rfl, HB1.out⟩

theorem rat_in (w : World) (p : Option Addr) (css : List (List Txt)) (h : RefOr w p css) (hg : Fits css) (i : Nat) (x : Txt) (hx : css.flatten[i]? = some x) :
    Calls Try.prog 45 #[.pointer p, .int .i64 i] w fun e w' => e = .returned (.tuple #[.string ⟨x.toArray⟩, .bool true]) ∧ Below w.heap.size w w' := by
  have HR := Lib.hid (rrow_or w p css h hg.rows (Nat.le_trans hg.total (by omega)))
  have htot := hg.total
  rw [← flatten_length] at htot
  obtain ⟨l, hl⟩ : ∃ l, css.flatten = l := ⟨_, rfl⟩
  rw [hl] at HR htot hx
  have hil := (List.getElem?_eq_some_iff.1 hx).1
  obtain ⟨n, hn⟩ : ∃ n, l.length = n := ⟨_, rfl⟩
  rw [hn] at hil htot
  have HL := Lib.hid hn
  have HX := Lib.hid hx
  clear h hg hl hx hn
  go_enter Try.func45, Try.ntmps45
  go_wp2_with (go_at_call 32; refine HR.out.mono ?_; clear HR; rintro e w1 ⟨v1, rfl, hown1, hb1⟩
               obtain ⟨a1, c1, rfl, hr1⟩ := textsRd hown1
               rw [HL.out]
               obtain ⟨y, hy, hcell⟩ := txts_cell hr1 HX.out
               subst hy
               unfold txt at hcell
               have HB1 := Lib.hid hb1
               clear hown1 hb1 hr1)
  go_ret2
  exact ⟨rfl, HB1.out⟩
theorem rat_out (w : World) (p : Option Addr) (css : List (List Txt)) (h : RefOr w p css) (hg : Fits css) (i : Int) (hi : i < 0 ∨ (total css : Int) ≤ i) :
    Calls Try.prog 45 #[.pointer p, .int .i64 i] w fun e w' => e = .returned (.tuple #[.string ⟨#[]⟩, .bool false]) ∧ Below w.heap.size w w' := by
  have HR := Lib.hid (rrow_or w p css h hg.rows (Nat.le_trans hg.total (by omega)))
  obtain ⟨l, hl⟩ : ∃ l, css.flatten = l := ⟨_, rfl⟩
  obtain ⟨n, hn⟩ : ∃ n, total css = n := ⟨_, rfl⟩
  have HL := Lib.hid (show l.length = n by rw [← hl, flatten_length, hn])
  rw [hl] at HR
  rw [hn] at hi
  clear h hg hl hn
  rcases hi with hi | hi
  · go_enter Try.func45, Try.ntmps45
    go_wp2_with (go_at_call 32; refine HR.out.mono ?_; clear HR; rintro e w1 ⟨v1, rfl, hown1, hb1⟩
                 have HB1 := Lib.hid hb1
                 clear hown1 hb1)
    go_ret2
    exact ⟨rfl, HB1.out⟩
  · have hi0 : ¬ i < 0 := by omega
    go_enter Try.func45, Try.ntmps45
    go_wp2_with (go_at_call 32; refine HR.out.mono ?_; clear HR; rintro e w1 ⟨v1, rfl, hown1, hb1⟩
                 obtain ⟨a1, c1, rfl, hr1⟩ := textsRd hown1
                 rw [HL.out]
                 have HB1 := Lib.hid hb1
                 clear hown1 hb1 hr1)
    go_ret2
    exact ⟨rfl, HB1.out⟩
/-- Why a text is not taken. -/
def mayC (s : Txt) (n : Nat) : Int := if 1048576 < s.length then 2 else if 1048576 ≤ n then 4 else 0
theorem rmay_any (w : World) (m : Nat) (css : List (List Txt)) (s : Txt) (h : RefAt w m css) (hg : Fits css) (hs : s.length ≤ 281474976710656) :
    Calls Try.prog 60 #[.pointer (some ⟨m, 0, none⟩), .string ⟨s.toArray⟩] w fun e w' => e = .returned (.int .i64 (mayC s (total css))) ∧ Below w.heap.size w w' := by
  have HL := Lib.hid (rlen_or w _ css (.inr ⟨m, rfl, h⟩) hg.rows (Nat.le_trans hg.total (by omega)))
  have hsz := mk_size s
  obtain ⟨n, hn⟩ : ∃ n, total css = n := ⟨_, rfl⟩
  rw [hn] at HL ⊢
  clear h hg hn
  obtain ⟨code, hcode⟩ : ∃ code, mayC s n = code := ⟨_, rfl⟩
  rw [hcode]
  have HCD := Lib.hid hcode
  clear hcode
  by_cases h1 : 1048576 < s.length
  · have HM := Lib.hid (show code = 2 by rw [← HCD.out]; unfold mayC; rw [if_pos h1])
    have h2 : (1048576 : Int) < (s.length : Int) := by omega
    go_enter Try.func60, Try.ntmps60
    go_wp2_with fail
    go_ret
    exact ⟨by rw [HM.out]; rfl, Below.refl _ _⟩
  · have h2 : ¬ (1048576 : Int) < (s.length : Int) := by omega
    by_cases h3 : 1048576 ≤ n
    · have h4 : (1048576 : Int) ≤ (n : Int) := by omega
      have HM := Lib.hid (show code = 4 by rw [← HCD.out]; unfold mayC; rw [if_neg h1, if_pos h3])
      clear h1 h3
      go_enter Try.func60, Try.ntmps60
      go_wp2_with (go_at_call 52; refine HL.out.mono ?_; clear HL; rintro e w1 ⟨rfl, hb1⟩; have HB1 := Lib.hid hb1; clear hb1)
      go_ret
      exact ⟨by rw [HM.out]; rfl, HB1.out⟩
    · have h5 : ¬ (1048576 : Int) ≤ (n : Int) := by omega
      have h6 : decide ((1048576 : Int) ≤ (n : Int)) = false := decide_eq_false h5
      have HM := Lib.hid (show code = 0 by rw [← HCD.out]; unfold mayC; rw [if_neg h1, if_neg h3])
      clear h1 h3
      go_enter Try.func60, Try.ntmps60
      go_wp2_with fail
      refine HL.out.mono ?_
      rintro e w1 ⟨rfl, hb1⟩
      have HB1 := Lib.hid hb1
      clear hb1 HL
      simp only []
      go_wp2_with fail
      go_ret
      exact ⟨by rw [HM.out]; rfl, HB1.out⟩
set_option maxHeartbeats 4000000 in
set_option maxRecDepth 100000 in
theorem rwith_any (w : World) (a : Option Addr) (n c i : Nat) (l : List Txt) (s : Txt) (hl : l.length = n) (hn : n ≤ 1048576) (hr : Rd w a (txts l)) (hnil : a = none → c = 0) (hnc : n ≤ c) (hi : i ≤ n) :
    Calls Try.prog 61 #[.slice a n c, .int .i64 i, .string ⟨s.toArray⟩] w (TRowPost (putIn l i s) w) := by
  have HL := Lib.hid hl
  clear hl
  have HO0 := Lib.hid (World.ownsRow_nil w w.heap.size 9 1)
  cases a with
  | none =>
    obtain rfl : c = 0 := hnil rfl
    obtain rfl : n = 0 := by omega
    obtain rfl : i = 0 := by omega
    obtain rfl : l = [] := List.eq_nil_of_length_eq_zero HL.out
    clear hnil hnc hi hr hn
    go_enter Try.func61, Try.ntmps61
    go_wp2_with (first
      | (at_builtin; refine wpl_append strT rfl _ _ rfl w.heap.size rfl HO0.out (news := []) rfl (fun _ => rfl) rfl (Rd.nil _ _) (by decide) (Nat.le_refl _) ?_; clear HO0; intro v2 w2 hown2 hg2 hv2
         have HO2 := Lib.hid hown2
         have hb2 := ((Below.refl w.heap.size w).grown hg2 (Nat.le_refl _) (fun k hk => by cases hk))
         have HB2 := Lib.hid hb2
         have hsz2 := hb2.size
         clear hown2 hg2 hb2 hv2)
      | (at_builtin; refine wpl_append1 strT rfl _ _ rfl w.heap.size rfl HO2.out #[.string ⟨s.toArray⟩] rfl rfl (by simp [Value.oneCell']) (by omega) hsz2 ?_; clear HO2; intro v3 w3 hown3 hg3 hb3 hv3
         have HO3 := Lib.hid hown3
         have HB3 := Lib.hid (HB2.out.trans hb3)
         have hsz3 := hb3.size
         clear hown3 hg3 hb3 hv3)
      | (at_builtin; refine wpl_append strT rfl _ _ rfl w.heap.size rfl HO3.out (news := []) rfl (fun _ => rfl) rfl (Rd.nil _ _) (by decide) (by omega) ?_; intro v4 w4 hown4 hg4 hv4
         have HB4 := Lib.hid (HB3.out.grown hg4 HB3.out.size fun k hk => (HO3.out.lt k hk).1)
         clear HO3
         have HO4 := Lib.hid hown4
         have HG4 := Lib.hid hg4
         clear hown4 hg4 hv4))
    go_ret
    exact ⟨v4, rfl, HO4.out, HB4.out⟩
  | some y =>
    clear hnil
    by_cases hci : i = c
    · obtain rfl : i = n := by omega
      subst hci
      go_enter Try.func61, Try.ntmps61
      go_wp2_with (first
        | (at_builtin; refine wpl_append strT rfl _ _ rfl w.heap.size rfl HO0.out (news := txts (l.take i)) rfl (fun h => by cases h) (by rw [txts_length, List.length_take, HL.out]; omega) (by have := Rd.part hr 0 i; rw [List.drop_zero, ← txts_take] at this; exact this) (by omega) (Nat.le_refl _) ?_; clear HO0; intro v2 w2 hown2 hg2 hv2
           have HO2 := Lib.hid hown2
           have hb2 := ((Below.refl w.heap.size w).grown hg2 (Nat.le_refl _) (fun k hk => by cases hk))
           have HB2 := Lib.hid hb2
           have hsz2 := hb2.size
           clear hown2 hg2 hb2 hv2)
        | (at_builtin; refine wpl_append1 strT rfl _ _ rfl w.heap.size rfl HO2.out #[.string ⟨s.toArray⟩] rfl rfl (by simp [Value.oneCell']) (by omega) hsz2 ?_; clear HO2; intro v3 w3 hown3 hg3 hb3 hv3
           have HO3 := Lib.hid hown3
           have HB3 := Lib.hid (HB2.out.trans hb3)
           have hsz3 := hb3.size
           clear hown3 hg3 hb3 hv3)
        | (at_builtin; refine wpl_append strT rfl _ _ rfl w.heap.size rfl HO3.out (news := txts (l.drop i)) rfl (fun h => by cases h) (by rw [txts_length, List.length_drop, HL.out]; omega) (by rw [List.drop_eq_nil_of_le (by rw [HL.out]; exact Nat.le_refl _)]; exact Rd.nil _ _) (by omega) (by omega) ?_; intro v4 w4 hown4 hg4 hv4
           have HB4 := Lib.hid (HB3.out.grown hg4 HB3.out.size fun k hk => (HO3.out.lt k hk).1)
           clear HO3
           have HO4 := Lib.hid hown4
           have HG4 := Lib.hid hg4
           clear hown4 hg4 hv4))
      go_ret
      refine ⟨v4, rfl, ?_, HB4.out⟩
      exact own_cast HO4.out (by simp [putIn, HL.out]; try omega) (by simp [putIn, txts, txt])
    · have hci2 : ¬ c = i := fun e => hci e.symm
      go_enter Try.func61, Try.ntmps61
      go_wp2_with (first
        | (at_builtin; refine wpl_append strT rfl _ _ rfl w.heap.size rfl HO0.out (news := txts (l.take i)) rfl (fun h => by cases h) (by rw [txts_length, List.length_take, HL.out]; omega) (by have := Rd.part hr 0 i; rw [List.drop_zero, ← txts_take] at this; exact this) (by omega) (Nat.le_refl _) ?_; clear HO0; intro v2 w2 hown2 hg2 hv2
           have HO2 := Lib.hid hown2
           have hb2 := ((Below.refl w.heap.size w).grown hg2 (Nat.le_refl _) (fun k hk => by cases hk))
           have HB2 := Lib.hid hb2
           have hsz2 := hb2.size
           clear hown2 hg2 hb2 hv2)
        | (at_builtin; refine wpl_append1 strT rfl _ _ rfl w.heap.size rfl HO2.out #[.string ⟨s.toArray⟩] rfl rfl (by simp [Value.oneCell']) (by omega) hsz2 ?_; clear HO2; intro v3 w3 hown3 hg3 hb3 hv3
           have HO3 := Lib.hid hown3
           have HB3 := Lib.hid (HB2.out.trans hb3)
           have hsz3 := hb3.size
           clear hown3 hg3 hb3 hv3)
        | (at_builtin; refine wpl_append strT rfl _ _ rfl w.heap.size rfl HO3.out (news := txts (l.drop i)) rfl (fun h => by cases h) (by rw [txts_length, List.length_drop, HL.out]; omega) ((by have := Rd.part hr i (n - i); rw [← txts_drop, List.take_of_length_le (by rw [txts_length, List.length_drop, HL.out]; exact Nat.le_refl _)] at this; exact Rd.keep this HB3.out)) (by omega) (by omega) ?_; intro v4 w4 hown4 hg4 hv4
           have HB4 := Lib.hid (HB3.out.grown hg4 HB3.out.size fun k hk => (HO3.out.lt k hk).1)
           clear HO3
           have HO4 := Lib.hid hown4
           have HG4 := Lib.hid hg4
           clear hown4 hg4 hv4))
      go_ret
      refine ⟨v4, rfl, ?_, HB4.out⟩
      exact own_cast HO4.out (by simp [putIn, HL.out]; try omega) (by simp [putIn, txts, txt])

end Go.Proofs.Ytefoieloakfhfaa
