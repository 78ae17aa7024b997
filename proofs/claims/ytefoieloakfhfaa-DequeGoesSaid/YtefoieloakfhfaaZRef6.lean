/- The document's answer for the deque: Set. -/
import Derived.Test.YtefoieloakfhfaaZRef5
namespace Go.Proofs.Ytefoieloakfhfaa
open Go.RowKit Pantry

/-- A text put in the place of another: chunk by chunk. -/
def setAt (i : Nat) (s : Txt) (a : Nat) (c : List Txt) : List Txt := if a ≤ i ∧ i < a + c.length then c.set (i - a) s else c
def setAll (i : Nat) (s : Txt) : Nat → List (List Txt) → List (List Txt)
  | _, [] => []
  | a, c :: r => setAt i s a c :: setAll i s (a + c.length) r
theorem setAll_snoc (i : Nat) (s : Txt) (a : Nat) (l : List (List Txt)) (c : List Txt) : setAll i s a (l ++ [c]) = setAll i s a l ++ [setAt i s (a + total l) c] := by
  induction l generalizing a with
  | nil => simp [setAll, total]
  | cons x l ih =>
    have e : a + x.length + total l = a + total (x :: l) := by simp [total]; omega
    simp only [List.cons_append, setAll, ih, e]
theorem setAll_take {i : Nat} {s : Txt} {l : List (List Txt)} {k : Nat} {c : List Txt} (h : l[k]? = some c) : setAll i s 0 (l.take (k + 1)) = setAll i s 0 (l.take k) ++ [setAt i s (total (l.take k)) c] := by
  rw [List.take_add_one, h, Option.toList_some, setAll_snoc, Nat.zero_add]
theorem setAll_length (i : Nat) (s : Txt) (a : Nat) (l : List (List Txt)) : (setAll i s a l).length = l.length := by
  induction l generalizing a with
  | nil => rfl
  | cons x l ih => simp [setAll, ih]
theorem setAll_far {i : Nat} {s : Txt} {a : Nat} {css : List (List Txt)} (h : i < a) : setAll i s a css = css := by
  induction css generalizing a with
  | nil => rfl
  | cons c r ih => simp only [setAll]; rw [ih (by omega)]; unfold setAt; rw [if_neg (by omega)]
theorem setAll_near {i : Nat} {s : Txt} {a : Nat} {css : List (List Txt)} (h : a ≤ i) (h2 : i < a + total css) : ∃ c, css[(findC css (i - a)).1]? = some c ∧ setAll i s a css = css.set (findC css (i - a)).1 (c.set (findC css (i - a)).2 s) := by
  induction css generalizing a with
  | nil => simp [total] at h2; omega
  | cons c r ih =>
    have ht : total (c :: r) = c.length + total r := by simp [total]
    rw [ht] at h2
    by_cases hc : i < a + c.length
    · have hf : findC (c :: r) (i - a) = (0, i - a) := by rw [findC, if_neg (by omega)]
      rw [hf]
      refine ⟨c, rfl, ?_⟩
      simp only [setAll, List.set_cons_zero]
      rw [setAll_far (by omega)]
      unfold setAt
      rw [if_pos ⟨h, hc⟩]
    · have hr : r.isEmpty = false := by
        cases r with
        | nil => simp [total] at h2; omega
        | cons x l => rfl
      have hf : findC (c :: r) (i - a) = ((findC r (i - a - c.length)).1 + 1, (findC r (i - a - c.length)).2) := by rw [findC, if_pos ⟨hr, by omega⟩]
      obtain ⟨d, h3, h5⟩ := ih (a := a + c.length) (by omega) (by omega)
      rw [show i - (a + c.length) = i - a - c.length by omega] at h3 h5
      rw [hf]
      refine ⟨d, by simpa using h3, ?_⟩
      simp only [setAll, List.set_cons_succ]
      rw [h5]
      unfold setAt
      rw [if_neg (by omega)]
theorem setAll_eq {css : List (List Txt)} {i : Nat} (hi : i < total css) (s : Txt) : setAll i s 0 css = setC i s css := by
  obtain ⟨c, h1, h2⟩ := setAll_near (css := css) (s := s) (a := 0) (Nat.zero_le i) (by omega)
  rw [Nat.sub_zero] at h1 h2
  rw [h2]
  unfold setC
  rw [h1]
theorem txts_map_set (l : List Txt) (k : Nat) (x : Txt) : (txts l).set k (.string ⟨x.toArray⟩) = txts (l.set k x) := by simp [txts, txt, List.map_set]
theorem own_at {w : World} {base n : Nat} {v : Value} {l : List Txt} (h : w.ownsRow base 9 1 v n (txts l)) {d : Nat} (hd : d < n) : ∃ g cap, v = .slice (some ⟨g, 0, none⟩) n cap ∧ (∃ x, w.cell? ⟨g, d, none⟩ = some (.string x)) ∧ w.frozen? ⟨g, d, none⟩ = false := by
  have hl : l.length = n := by have := h.1; rw [txts_length] at this; omega
  rcases h.2 with ⟨_, h0⟩ | ⟨g, cap, cur, rfl, _, hg, _⟩
  · omega
  · obtain ⟨x, hx⟩ : ∃ x, l[d]? = some x := ⟨_, List.getElem?_eq_getElem (by omega)⟩
    obtain ⟨y, hy, hc⟩ := txts_cell (rdOf h (txts_one l)) hx
    cases hy
    refine ⟨g, cap, rfl, ⟨⟨x.toArray⟩, ?_⟩, frozen_of_row w g d _ _ hg⟩
    have e : (⟨g, 0, none⟩ : Addr).add d = ⟨g, d, none⟩ := by unfold Addr.add; split <;> simp_all
    rw [e] at hc; exact hc
theorem rset_out (w : World) (p : Option Addr) (css : List (List Txt)) (i : Int) (s : ByteArray) (h : RefOr w p css) (hg : Fits css) (hi : i < 0 ∨ (total css : Int) ≤ i) :
    Calls Try.prog 46 #[.pointer p, .int .i64 i, .string s] w fun e w' => e = .returned (.bool false) ∧ Below w.heap.size w w' := by
  have HA := Lib.hid (rat_out w p css h hg i hi)
  clear h hg hi
  go_enter Try.func46, Try.ntmps46
  go_wp2_with (go_at_call 45; refine HA.out.mono ?_; clear HA; rintro e w1 ⟨rfl, hb1⟩; have HB1 := Lib.hid hb1; clear hb1)
  go_ret
  exact ⟨rfl, HB1.out⟩
theorem rset_long (w : World) (m : Nat) (css : List (List Txt)) (i : Nat) (s : Txt) (h : RefAt w m css) (hg : Fits css) (hi : i < total css) (hs : 1048576 < s.length) :
    Calls Try.prog 46 #[.pointer (some ⟨m, 0, none⟩), .int .i64 i, .string ⟨s.toArray⟩] w fun e w' => e = .returned (.bool false) ∧ Below w.heap.size w w' := by
  have hlt : i < css.flatten.length := by rw [flatten_length]; exact hi
  obtain ⟨x, hx⟩ : ∃ x, css.flatten[i]? = some x := ⟨_, List.getElem?_eq_getElem hlt⟩
  have HA := Lib.hid (rat_in w _ css (.inr ⟨m, rfl, h⟩) hg i x hx)
  have hsz := mk_size s
  have hs2 : (1048576 : Int) < (s.length : Int) := by omega
  clear h hg hi hlt hx
  go_enter Try.func46, Try.ntmps46
  go_wp2_with (go_at_call 45; refine HA.out.mono ?_; clear HA; rintro e w1 ⟨rfl, hb1⟩; have HB1 := Lib.hid hb1; clear hb1)
  go_ret
  exact ⟨rfl, HB1.out⟩

set_option maxHeartbeats 8000000 in
set_option maxRecDepth 100000 in
theorem rset_in (w : World) (m : Nat) (css : List (List Txt)) (i : Nat) (s : Txt) (h : RefAt w m css) (hg : Fits css) (hi : i < total css) (hs : s.length ≤ 1048576) :
    Calls Try.prog 46 #[.pointer (some ⟨m, 0, none⟩), .int .i64 i, .string ⟨s.toArray⟩] w (RefPost m (setC i s css) (.bool true) w) := by
  have hlt : i < css.flatten.length := by rw [flatten_length]; exact hi
  obtain ⟨x, hx⟩ : ∃ x, css.flatten[i]? = some x := ⟨_, List.getElem?_eq_getElem hlt⟩
  have HAT := Lib.hid (rat_in w _ css (.inr ⟨m, rfl, h⟩) hg i x hx)
  have HSE := Lib.hid (setAll_eq hi s)
  have hsz := mk_size s
  have hs2 : ¬ (1048576 : Int) < (s.length : Int) := by omega
  have hs3 : decide ((1048576 : Int) < (s.length : Int)) = false := decide_eq_false hs2
  obtain ⟨v0, hm, a, c, vs, rfl, hnil, hc, hrd, hall⟩ := h
  have hml : m < w.heap.size := block_lt hm
  have hn := hg.rows
  have ht := hg.total
  obtain ⟨q, hq⟩ : ∃ q, css.length = q := ⟨_, rfl⟩
  rw [hq] at hn hc hm
  obtain ⟨N, hN⟩ : ∃ N, total css = N := ⟨_, rfl⟩
  rw [hN] at ht hi
  have HN := Lib.hid hN
  have HQ := Lib.hid hq
  have HA := Lib.hid hall
  have HR := Lib.hid hrd
  have HF := Lib.hid hg
  have HM := Lib.hid hm
  clear hq hm hall hrd hg hN hlt hx hs
  go_enter Try.func46, Try.ntmps46
  go_wp2_with (go_at_call 45; refine HAT.out.mono ?_; clear HAT; rintro e w1 ⟨rfl, hb1⟩
               have hc1 : w1.cell? ⟨m, 0, none⟩ = some (.slice a q c) := (hb1.cell (p := ⟨m, 0, none⟩) hml).trans (by rw [cell_of_row w m 0 _ _ _ HM.out]; rfl)
               have HB1 := Lib.hid hb1
               clear hb1)
  go_loopw [9, 10, 32] (fun y x z wr => ∃ k A : Nat, ∃ us, k ≤ q ∧ x = .int .i64 A ∧ z = .int .i64 k ∧ Hid (A = total (css.take k)) ∧ Hid (wr.ownsRow w.heap.size 22 1 y k us) ∧ Hid (TxAll wr us (setAll i s 0 (css.take k))) ∧ Hid (Below w.heap.size w wr)) (fun _ _ z _ => q - (intOf z).toNat)
  case atStart => exact ⟨0, 0, [], Nat.zero_le _, rfl, rfl, Lib.hid rfl, Lib.hid (World.ownsRow_nil _ _ _ _), Lib.hid (TxAll.nil _), HB1⟩
  case round =>
    obtain ⟨k, A, us, hk, rfl, rfl, HAA, HO, HU, HB⟩ := hrel
    by_cases hlt : k < q
    · obtain ⟨ck, hck⟩ : ∃ ck, css[k]? = some ck := ⟨_, List.getElem?_eq_getElem (by rw [HQ.out]; exact hlt)⟩
      obtain ⟨u, hu⟩ : ∃ u, vs[k]? = some u := ⟨_, List.getElem?_eq_getElem (by rw [HA.out.len, HQ.out]; exact hlt)⟩
      have htx := HA.out.at_ k u ck hu hck
      obtain ⟨a2, c2, hu2, hnil2, -, hrd2⟩ := htx
      obtain ⟨hone, y, rfl, hcell⟩ := (Rd.keep HR.out.1 HB.out) k _ hu
      have HRC := Lib.hid (Rd.keep hrd2.1 HB.out)
      have HST := Lib.hid (total_step hck)
      have HWT := Lib.hid (setAll_take (i := i) (s := s) hck)
      subst hu2
      have h32 := HF.out.chunk ck (List.mem_of_getElem? hck)
      obtain ⟨n2, hn2⟩ : ∃ n2, ck.length = n2 := ⟨_, rfl⟩
      rw [hn2] at hcell HST h32
      have HN2 := Lib.hid hn2
      have HL2 := Lib.hid (show (txts ck).length = n2 * 1 by rw [txts_length]; omega)
      have hAb : A + n2 ≤ 1048576 := by
        have h1 := HST.out
        have h2 := HAA.out
        have h3 := total_take_le css (k + 1)
        rw [HN.out] at h3
        omega
      clear hck hu hone hrd2 hn2
      by_cases hit : A ≤ i ∧ i < A + n2
      · skip
        obtain ⟨d, hd⟩ : ∃ d, i - A = d := ⟨_, rfl⟩
        have HD := Lib.hid hd
        have hdn : d < n2 := by omega
        have hw1 : IntKind.i64.wrap ((i : Int) - (A : Int)) = (d : Int) := by rw [IntKind.wrap_i64]; omega
        have hw2 : IntKind.i64.wrap ((A : Int) + (n2 : Int)) = (A : Int) + (n2 : Int) := by rw [IntKind.wrap_i64]; omega
        have hA1 : (A : Int) ≤ (i : Int) := by omega
        have hA2 : (i : Int) < (A : Int) + (n2 : Int) := by omega
        have HSA := Lib.hid (show setAt i s A ck = ck.set d s by unfold setAt; rw [if_pos (by rw [HN2.out]; exact hit), hd])
        clear hd hit
        go_wp2_with (first
          | (at_builtin; refine wpl_append strT rfl _ _ rfl wr.heap.size rfl (own_empty wr _ _ (Nat.le_refl _)) rfl hnil2 HL2.out (Rd.keep HRC.out ((Below.refl _ _).alloc (Nat.le_refl _) _)) (by omega) (by simp) ?_
             intro v5 w5 hown5 hg5 hv5
             have ho5 := own_cast hown5 (Nat.zero_add n2) (List.nil_append (txts ck))
             have hb5 : Below wr.heap.size wr w5 := ((Below.refl wr.heap.size wr).alloc (Nat.le_refl _) _).grown hg5 (by simp) (fun k hk => by cases hk; exact Nat.le_refl _)
             clear hown5 hg5 hv5
             obtain ⟨g, cap, rfl, ⟨xo, hcd⟩, hfd⟩ := own_at ho5 hdn
             have HO5 := Lib.hid (ho5.stored d (.string ⟨s.toArray⟩))
             have hb6 : Below wr.heap.size wr (w5.setCell ⟨g, d, none⟩ (.string ⟨s.toArray⟩)) := hb5.grown HO5.out.2 hb5.size (fun k hk => by cases hk; exact (ho5.lt g rfl).1)
             have HX6 := Lib.hid (TxAt.own (l := ck.set d s) (own_cast HO5.out.1 (by rw [List.length_set, HN2.out]) (txts_map_set ck d s)))
             have HO6 := Lib.hid (ownsRow_belowAll HO.out hb6)
             have HU6 := Lib.hid (HU.out.keeps (T := fun _ => True) (KeepsT.ofBelow hb6) trivial)
             have HB6 := Lib.hid (HB.out.trans (hb6.mono HB.out.size))
             clear ho5 hb5 hb6)
          | (at_builtin; refine wpl_append1_at lsT rfl _ _ rfl w.heap.size rfl HO6.out #[(.slice (some ⟨g, 0, none⟩) n2 cap)] (H := w5.heap.size) rfl (by simp) rfl (by simp [Value.oneCell']) (by omega) HB6.out.size ?_
             intro v7 w7 hown7 hg7 hb7 hv7
             have HB7 := Lib.hid (HB6.out.trans hb7)
             have HU7 := Lib.hid ((HU6.out.grow HO6.out hg7).snoc (HX6.out.keeps (T := fun t => t = 9) (KeepsT.row HO6.out (by decide) hg7) rfl))
             have HO7 := Lib.hid hown7
             clear hown7 hg7 hb7 hv7))
        go_roundw
        case rel => exact ⟨k + 1, A + n2, _, by omega, by go_num, by go_num, Lib.hid (by have h2 := HST.out; have h3 := HAA.out; omega), HO7, Lib.hid (by rw [HWT.out, ← HAA.out]; rw [HSA.out]; exact HU7.out), HB7⟩
        case measure => simp [intOf]; omega
      · skip
        have hw2 : IntKind.i64.wrap ((A : Int) + (n2 : Int)) = (A : Int) + (n2 : Int) := by rw [IntKind.wrap_i64]; omega
        have HSA := Lib.hid (show setAt i s A ck = ck by unfold setAt; rw [if_neg (by rw [HN2.out]; exact hit)])
        have hcase : ¬ (A : Int) ≤ (i : Int) ∨ ((A : Int) ≤ (i : Int) ∧ ¬ (i : Int) < (A : Int) + (n2 : Int)) := by omega
        clear hit
        rcases hcase with h1 | ⟨h1, h2⟩
        all_goals
          go_wp2_with (first
            | (at_builtin; refine wpl_append strT rfl _ _ rfl wr.heap.size rfl (own_empty wr _ _ (Nat.le_refl _)) rfl hnil2 HL2.out (Rd.keep HRC.out ((Below.refl _ _).alloc (Nat.le_refl _) _)) (by omega) (by simp) ?_
               intro v5 w5 hown5 hg5 hv5
               have ho5 := own_cast hown5 (Nat.zero_add n2) (List.nil_append (txts ck))
               have hb5 : Below wr.heap.size wr w5 := ((Below.refl wr.heap.size wr).alloc (Nat.le_refl _) _).grown hg5 (by simp) (fun k hk => by cases hk; exact Nat.le_refl _)
               clear hown5 hg5 hv5
               obtain ⟨a5, c5, rfl, -⟩ := own_slice ho5 (txts_one ck)
               have HX6 := Lib.hid (TxAt.own (own_cast ho5 HN2.out.symm rfl))
               have HO6 := Lib.hid (ownsRow_belowAll HO.out hb5)
               have HU6 := Lib.hid (HU.out.keeps (T := fun _ => True) (KeepsT.ofBelow hb5) trivial)
               have HB6 := Lib.hid (HB.out.trans (hb5.mono HB.out.size))
               clear ho5 hb5)
            | (at_builtin; refine wpl_append1 lsT rfl _ _ rfl w.heap.size rfl HO6.out #[(.slice a5 n2 c5)] rfl rfl (by simp [Value.oneCell']) (by omega) HB6.out.size ?_
               intro v7 w7 hown7 hg7 hb7 hv7
               have HB7 := Lib.hid (HB6.out.trans hb7)
               have HU7 := Lib.hid ((HU6.out.grow HO6.out hg7).snoc (HX6.out.keeps (T := fun t => t = 9) (KeepsT.row HO6.out (by decide) hg7) rfl))
               have HO7 := Lib.hid hown7
               clear hown7 hg7 hb7 hv7))
          go_roundw
          case rel => exact ⟨k + 1, A + n2, _, by omega, by go_num, by go_num, Lib.hid (by have h2 := HST.out; have h3 := HAA.out; omega), HO7, Lib.hid (by rw [HWT.out, ← HAA.out]; rw [HSA.out]; exact HU7.out), HB7⟩
          case measure => simp [intOf]; omega
    · obtain rfl : k = q := by omega
      have HE := Lib.hid (show css.take k = css by rw [List.take_of_length_le (by rw [HQ.out]; exact Nat.le_refl _)])
      have hbx : Boxed wr m 77 (.slice a k c) := (HB.out.block m hml).trans HM.out
      have hb1 := hbx.cell
      have hb2 := hbx.frozen
      obtain ⟨a6, c6, ho6, -⟩ := own_slice HO.out HU.out.one
      subst ho6
      have HF := Lib.hid (ref_store HM.out HB.out HO.out HU.out (by rw [setAll_length, HE.out, HQ.out]))
      rw [HE.out, HSE.out] at HF
      clear hbx
      go_wp2_with fail
      go_ret
      exact ⟨rfl, HF.out.1, HF.out.2⟩
end Go.Proofs.Ytefoieloakfhfaa
