/- The document's answer for the deque: without; Remove, Trim, Pop. -/
import Derived.Test.YtefoieloakfhfaaZRef3
namespace Pantry
open Go Go.RowKit
/-- Is the text at this place kept? -/
def keepAt (F T : Int) (o : Bool) (i : Nat) : Bool := (decide (F ≤ (i : Int)) && decide ((i : Int) < T)) == o
def filterAt (p : Nat → Bool) : Nat → List Txt → List Txt
  | _, [] => []
  | i, x :: r => if p i then x :: filterAt p (i + 1) r else filterAt p (i + 1) r
def withoutC (p : Nat → Bool) : Nat → List (List Txt) → List (List Txt)
  | _, [] => []
  | a, c :: r => filterAt p a c :: withoutC p (a + c.length) r
theorem keep_cases {F T : Int} {o : Bool} {i : Nat} (h : keepAt F T o i = true) : ((F ≤ (i : Int) ∧ (i : Int) < T) ∧ o = true) ∨ (((F ≤ (i : Int) ∧ ¬ (i : Int) < T) ∨ ¬ F ≤ (i : Int)) ∧ o = false) := by
  unfold keepAt at h
  by_cases h1 : F ≤ (i : Int) <;> by_cases h2 : (i : Int) < T <;> cases o <;> simp_all
theorem drop_cases {F T : Int} {o : Bool} {i : Nat} (h : ¬ keepAt F T o i = true) : ((F ≤ (i : Int) ∧ (i : Int) < T) ∧ o = false) ∨ (((F ≤ (i : Int) ∧ ¬ (i : Int) < T) ∨ ¬ F ≤ (i : Int)) ∧ o = true) := by
  unfold keepAt at h
  by_cases h1 : F ≤ (i : Int) <;> by_cases h2 : (i : Int) < T <;> cases o <;> simp_all
theorem filterAt_snoc (p : Nat → Bool) (a : Nat) (l : List Txt) (x : Txt) : filterAt p a (l ++ [x]) = filterAt p a l ++ (if p (a + l.length) then [x] else []) := by
  induction l generalizing a with
  | nil => simp [filterAt]
  | cons y l ih =>
    have e : a + 1 + l.length = a + (y :: l).length := by simp; omega
    simp only [List.cons_append, filterAt, ih, e]
    split <;> simp
theorem withoutC_snoc (p : Nat → Bool) (a : Nat) (l : List (List Txt)) (c : List Txt) : withoutC p a (l ++ [c]) = withoutC p a l ++ [filterAt p (a + total l) c] := by
  induction l generalizing a with
  | nil => simp [withoutC, total]
  | cons x l ih =>
    have e : a + x.length + total l = a + total (x :: l) := by simp [total]; omega
    simp only [List.cons_append, withoutC, ih, e]
theorem filterAt_take {p : Nat → Bool} {a : Nat} {l : List Txt} {k : Nat} {x : Txt} (h : l[k]? = some x) : filterAt p a (l.take (k + 1)) = filterAt p a (l.take k) ++ (if p (a + k) then [x] else []) := by
  have hk := (List.getElem?_eq_some_iff.1 h).1
  rw [List.take_add_one, h, Option.toList_some, filterAt_snoc, List.length_take, Nat.min_eq_left (by omega)]
theorem withoutC_take {p : Nat → Bool} {l : List (List Txt)} {k : Nat} {c : List Txt} (h : l[k]? = some c) : withoutC p 0 (l.take (k + 1)) = withoutC p 0 (l.take k) ++ [filterAt p (total (l.take k)) c] := by
  rw [List.take_add_one, h, Option.toList_some, withoutC_snoc, Nat.zero_add]
theorem filterAt_le (p : Nat → Bool) (a : Nat) (l : List Txt) : (filterAt p a l).length ≤ l.length := by
  induction l generalizing a with
  | nil => simp [filterAt]
  | cons x l ih =>
    have := ih (a + 1)
    simp only [filterAt]
    split <;> simp <;> omega
theorem withoutC_length (p : Nat → Bool) (a : Nat) (l : List (List Txt)) : (withoutC p a l).length = l.length := by
  induction l generalizing a with
  | nil => rfl
  | cons x l ih => simp [withoutC, ih]
end Pantry
namespace Go.Proofs.Ytefoieloakfhfaa
open Go.RowKit Pantry

set_option maxHeartbeats 8000000 in
set_option maxRecDepth 100000 in
theorem rwithout_any (w : World) (m : Nat) (css : List (List Txt)) (F T : Int) (o : Bool) (h : RefAt w m css) (hf : Fits css) :
    Calls Try.prog 62 #[.pointer (some ⟨m, 0, none⟩), .int .i64 F, .int .i64 T, .bool o] w (RefPost m (full (withoutC (keepAt F T o) 0 css)) (.tuple #[]) w) := by
  have HL := fun (w' : World) (hb : Below w.heap.size w w') (ks : List (List Txt)) (v : Value) (hv : LsAt w' v ks) (hn : ks.length ≤ 1048577) =>
    Lib.hid (show Calls Try.prog 65 #[.pointer (some ⟨m, 0, none⟩), v] w' (RefPost m (full ks) (.tuple #[]) w') from rlay_any w' m css ks v (h.keeps (T := fun _ => True) (KeepsT.ofBelow hb) fun _ _ => trivial) hv hn)
  obtain ⟨v0, hm, a, c, vs, rfl, hnil, hc, hrd, hall⟩ := h
  have hml : m < w.heap.size := block_lt hm
  have hc0 : w.cell? ⟨m, 0, none⟩ = some (.slice a css.length c) := by rw [cell_of_row w m 0 _ _ _ hm]; rfl
  have hn := hf.rows
  have ht := hf.total
  obtain ⟨q, hq⟩ : ∃ q, css.length = q := ⟨_, rfl⟩
  rw [hq] at hn hc hc0
  obtain ⟨N, hN⟩ : ∃ N, total css = N := ⟨_, rfl⟩
  rw [hN] at ht
  obtain ⟨p, hp⟩ : ∃ p, keepAt F T o = p := ⟨_, rfl⟩
  rw [hp]
  have HP := Lib.hid (fun i => congrFun hp i)
  have HN := Lib.hid hN
  have HQ := Lib.hid hq
  have HA := Lib.hid hall
  have HR := Lib.hid hrd
  have HF := Lib.hid hf
  have HLL := Lib.hid HL
  clear hq hm hall hrd hf hN hp HL
  go_enter Try.func62, Try.ntmps62
  go_wp2_with fail
  go_loopw [8, 9, 20] (fun x y z wr => ∃ k A : Nat, ∃ us, k ≤ q ∧ x = .int .i64 A ∧ z = .int .i64 k ∧ Hid (A = total (css.take k)) ∧ Hid (wr.ownsRow w.heap.size 22 1 y k us) ∧ Hid (TxAll wr us (withoutC p 0 (css.take k))) ∧ Hid (Below w.heap.size w wr)) (fun _ _ z _ => q - (intOf z).toNat)
  case atStart => exact ⟨0, 0, [], Nat.zero_le _, rfl, rfl, Lib.hid rfl, Lib.hid (World.ownsRow_nil _ _ _ _), Lib.hid (TxAll.nil _), Lib.hid (Below.refl _ _)⟩
  case round =>
    obtain ⟨k, A, us, hk, rfl, rfl, HAA, HO, HU, HB⟩ := hrel
    by_cases hlt : k < q
    · obtain ⟨ck, hck⟩ : ∃ ck, css[k]? = some ck := ⟨_, List.getElem?_eq_getElem (by rw [HQ.out]; exact hlt)⟩
      obtain ⟨u, hu⟩ : ∃ u, vs[k]? = some u := ⟨_, List.getElem?_eq_getElem (by rw [HA.out.len, HQ.out]; exact hlt)⟩
      have htx := HA.out.at_ k u ck hu hck
      obtain ⟨a2, c2, hu2, -, -, hrd2⟩ := htx
      obtain ⟨hone, y, rfl, hcell⟩ := (Rd.keep HR.out.1 HB.out) k _ hu
      have HRC := Lib.hid (Rd.keep hrd2.1 HB.out)
      have HST := Lib.hid (total_step hck)
      have HWT := Lib.hid (withoutC_take (p := p) hck)
      subst hu2
      have h32 := HF.out.chunk ck (List.mem_of_getElem? hck)
      obtain ⟨n2, hn2⟩ : ∃ n2, ck.length = n2 := ⟨_, rfl⟩
      rw [hn2] at hcell HST h32
      have HN2 := Lib.hid hn2
      have hAb : A + n2 ≤ 1048576 := by
        have h1 := HST.out
        have h2 := HAA.out
        have h3 := total_take_le css (k + 1)
        rw [HN.out] at h3
        omega
      clear hck hu hone hrd2 hn2
      go_wp2_with fail
      go_loopw [8, 12, 26] (fun x left z wx => ∃ j t i0 : Nat, j ≤ n2 ∧ x = .int .i64 i0 ∧ z = .int .i64 j ∧ t ≤ j ∧ Hid (i0 = A + j) ∧ Hid (wx.ownsRow wr.heap.size 9 1 left t (txts (filterAt p A (ck.take j)))) ∧ Hid (t = (filterAt p A (ck.take j)).length) ∧ Hid (Below wr.heap.size wr wx)) (fun _ _ z _ => n2 - (intOf z).toNat)
      case atStart => exact ⟨0, 0, A, Nat.zero_le _, rfl, rfl, Nat.le_refl _, Lib.hid rfl, Lib.hid (World.ownsRow_nil _ _ _ _), Lib.hid rfl, Lib.hid (Below.refl _ _)⟩
      case round =>
        obtain ⟨j, t, i0, hj, rfl, rfl, htj, HI0, HOI, HT, HBI⟩ := hrel
        by_cases hjn : j < n2
        · obtain ⟨x, hxj⟩ : ∃ x, ck[j]? = some x := ⟨_, List.getElem?_eq_getElem (by rw [HN2.out]; exact hjn)⟩
          obtain ⟨y2, hy2, hcx⟩ := txts_cell (Rd.keep HRC.out HBI.out) hxj
          subst hy2
          unfold txt at hcx
          have HFT := Lib.hid (filterAt_take (p := p) (a := A) hxj)
          have hi0 : i0 ≤ 1048576 := by have := HI0.out; omega
          clear hxj
          by_cases hk1 : keepAt F T o i0 = true
          · have HPJ := Lib.hid (show p (A + j) = true by rw [← HI0.out, ← HP.out]; exact hk1)
            have hcase : ((F ≤ (i0 : Int) ∧ (i0 : Int) < T) ∧ o = true) ∨ (((F ≤ (i0 : Int) ∧ ¬ (i0 : Int) < T) ∨ ¬ F ≤ (i0 : Int)) ∧ o = false) := keep_cases hk1
            clear hk1
            rcases hcase with ⟨⟨g1, g2⟩, rfl⟩ | ⟨⟨g1, g2⟩ | g1, rfl⟩
            all_goals
              go_wp2_with (at_builtin; (refine wpl_append1 strT rfl _ _ rfl _ rfl HOI.out #[.string ⟨x.toArray⟩] rfl rfl (by simp [Value.oneCell']) (by omega) HBI.out.size ?_)
                           intro v5 w5 hown5 hg5 hb5 hv5
                           have HB5 := Lib.hid (HBI.out.trans hb5)
                           have HO5 := Lib.hid hown5
                           clear hown5 hg5 hb5 hv5)
              go_roundw
              case rel => exact ⟨j + 1, t + 1, i0 + 1, by omega, by go_num, by go_num, by omega, Lib.hid (by have := HI0.out; omega), Lib.hid (by rw [HFT.out, HPJ.out, if_pos rfl, txts_snoc]; exact HO5.out), Lib.hid (by rw [HFT.out, HPJ.out, if_pos rfl, List.length_append, ← HT.out]; rfl), HB5⟩
              case measure => simp [intOf]; omega
          · have HPJ := Lib.hid (show p (A + j) = false by rw [← HI0.out, ← HP.out]; simpa using hk1)
            have hcase : ((F ≤ (i0 : Int) ∧ (i0 : Int) < T) ∧ o = false) ∨ (((F ≤ (i0 : Int) ∧ ¬ (i0 : Int) < T) ∨ ¬ F ≤ (i0 : Int)) ∧ o = true) := drop_cases hk1
            clear hk1
            rcases hcase with ⟨⟨g1, g2⟩, rfl⟩ | ⟨⟨g1, g2⟩ | g1, rfl⟩
            all_goals
              go_wp2_with fail
              go_roundw
              case rel => exact ⟨j + 1, t, i0 + 1, by omega, by go_num, by go_num, by omega, Lib.hid (by have := HI0.out; omega), Lib.hid (by rw [HFT.out, HPJ.out]; simpa using HOI.out), Lib.hid (by rw [HFT.out, HPJ.out]; simpa using HT.out), HBI⟩
              case measure => simp [intOf]; omega
        · obtain rfl : j = n2 := by omega
          have HCK := Lib.hid (show ck.take j = ck by rw [List.take_of_length_le (by rw [HN2.out]; exact Nat.le_refl _)])
          have ho1 := HOI.out
          have ht1 := HT.out
          rw [HCK.out] at ho1 ht1
          have HTX := Lib.hid (TxAt.own (own_cast ho1 ht1 rfl))
          have HBW := Lib.hid (HB.out.trans (HBI.out.mono HB.out.size))
          have HO2 := Lib.hid (ownsRow_belowAll HO.out HBI.out)
          have HU2 := Lib.hid (HU.out.keeps (T := fun _ => True) (KeepsT.ofBelow HBI.out) trivial)
          obtain ⟨a6, c6, ho6, -⟩ := own_slice ho1 (txts_one _)
          subst ho6
          have HT1 := Lib.hid ht1
          clear ho1 ht1
          go_wp2_with (at_builtin; (refine wpl_append1 lsT rfl _ _ rfl w.heap.size rfl HO2.out #[.slice a6 t c6] rfl rfl (by simp [Value.oneCell']) (by omega) HBW.out.size ?_)
                       intro v5 w5 hown5 hg5 hb5 hv5
                       have HB5 := Lib.hid (HBW.out.trans hb5)
                       have HU5 := Lib.hid ((HU2.out.grow HO2.out hg5).snoc (HTX.out.keeps (T := fun t => t = 9) (KeepsT.row HO2.out (by decide) hg5) rfl))
                       have HO5 := Lib.hid hown5
                       clear hown5 hg5 hb5 hv5)
          go_roundw
          case rel => exact ⟨k + 1, i0, _, by omega, rfl, by go_num, Lib.hid (by have h1 := HI0.out; have h2 := HST.out; have h3 := HAA.out; omega), HO5, Lib.hid (by rw [HWT.out, ← HAA.out]; exact HU5.out), HB5⟩
          case measure => simp [intOf]; omega
    · obtain rfl : k = q := by omega
      have HE := Lib.hid (show css.take k = css by rw [List.take_of_length_le (by rw [HQ.out]; exact Nat.le_refl _)])
      have hu1 := HU.out
      rw [HE.out] at hu1
      have hlv := LsAt.own HO.out hu1 (by rw [withoutC_length, HQ.out])
      have HG := HLL.out _ HB.out _ _ hlv (by rw [withoutC_length, HQ.out]; exact hn)
      obtain ⟨a6, c6, ho6, -⟩ := own_slice HO.out hu1.one
      subst ho6
      clear hu1 hlv
      go_wp2_with (go_at_call 65; refine HG.out.mono ?_; clear HG; rintro e w6 ⟨rfl, hr6, hc6⟩; have HR6 := Lib.hid hr6; have HC6 := Lib.hid hc6; clear hr6 hc6)
      go_end0
      exact ⟨rfl, HR6.out, (Chg.of_below (S := fun j => j = m) HB.out).trans HC6.out fun _ _ e => e⟩
end Go.Proofs.Ytefoieloakfhfaa
