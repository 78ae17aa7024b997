/- The document's answer for the deque: a list of lists, in memory; New, Row, Len. -/
import Derived.Test.YtefoieloakfhfaaZSame
namespace Go.Proofs.Ytefoieloakfhfaa
open Go Go.RowKit Pantry
theorem own_slice {w : World} {base : Nat} {e : TypeId} {size n : Nat} {v : Value} {xs : List Value} (h : w.ownsRow base e size v n xs) (h1 : ∀ u ∈ xs, u.oneCell' = true) : ∃ a c, v = .slice a n c ∧ (a = none → c = 0) ∧ n ≤ c ∧ Rd w a xs := by
  obtain ⟨a, c, rfl, hr⟩ := ownsRow_rd h h1
  refine ⟨a, c, rfl, ?_, ?_, hr⟩
  · rintro rfl
    rcases h.2 with ⟨e, _⟩ | ⟨g, cap, cur, e, _⟩
    · cases e; rfl
    · cases e
  · rcases h.2 with ⟨e, _⟩ | ⟨g, cap, cur, e, _, _, hnc, _⟩
    · cases e; exact Nat.le_refl _
    · cases e; exact hnc
/-- Cells that are read, of a block of this type. -/
def RdT (w : World) (t : TypeId) (a : Option Addr) (xs : List Value) : Prop := Rd w a xs ∧ ∀ x, a = some x → xs ≠ [] → ∃ cur fr, w.heap[x.block]? = some (.cells cur t fr)
theorem RdT.nil (w : World) (t : TypeId) (a : Option Addr) : RdT w t a [] := ⟨Rd.nil _ _, fun _ _ h => absurd rfl h⟩
theorem RdT.keeps {T : TypeId → Prop} {w w' : World} {t : TypeId} {a : Option Addr} {xs : List Value} (h : RdT w t a xs) (hk : KeepsT T w w') (ht : T t) : RdT w' t a xs := by
  refine ⟨fun j u hj => ?_, fun x hx hne => ?_⟩
  · obtain ⟨h1, x, hx, hc⟩ := h.1 j u hj
    obtain ⟨cur, fr, hb⟩ := h.2 x hx (by rintro rfl; simp at hj)
    refine ⟨h1, x, hx, ?_⟩
    rw [← hc]
    exact World.cell?_of_block (by rw [Addr.add_block]; exact (hk _ _ _ _ ht hb).trans hb.symm)
  · obtain ⟨cur, fr, hb⟩ := h.2 x hx hne
    exact ⟨cur, fr, hk _ _ _ _ ht hb⟩
theorem RdT.part {w : World} {t : TypeId} {y : Addr} {xs : List Value} (h : RdT w t (some y) xs) (i m : Nat) : RdT w t (some (y.add i)) ((xs.drop i).take m) :=
  ⟨Rd.part h.1 i m, fun x hx hne => by
    cases hx
    rw [Addr.add_block]
    exact h.2 y rfl fun e => hne (by rw [e]; simp)⟩
theorem RdT.take {w : World} {t : TypeId} {a : Option Addr} {xs : List Value} (h : RdT w t a xs) (m : Nat) : RdT w t a (xs.take m) :=
  ⟨fun j u hj => h.1 j u (by
    rw [List.getElem?_take] at hj
    split at hj
    · exact hj
    · cases hj), fun x hx hne => h.2 x hx fun e => hne (by rw [e]; simp)⟩
theorem RdT.own {w : World} {base : Nat} {t : TypeId} {a : Option Addr} {n m c : Nat} {xs : List Value} (h : w.ownsRow base t 1 (.slice a m c) n xs) (h1 : ∀ u ∈ xs, u.oneCell' = true) : RdT w t a xs := by
  refine ⟨rdOf h h1, fun x hx hne => ?_⟩
  rcases h.2 with ⟨e, h0⟩ | ⟨g, cap, cur, e, _, hg, _⟩
  · cases e; cases hx
  · cases e; cases hx
    exact ⟨cur, (0, 0), hg⟩

/-- The types of which the answer is made. -/
def rfT (t : TypeId) : Prop := t = 77 ∨ t = 22 ∨ t = 9
/-- The same but for the heads. -/
def rlT (t : TypeId) : Prop := t = 22 ∨ t = 9
theorem rfT_nd {t : TypeId} (h : rfT t) : ndT t := by
  rcases h with rfl | rfl | rfl <;> (unfold ndT dqT; decide)
/-- A value of type []string that reads as l. -/
def TxAt (w : World) (v : Value) (l : List Txt) : Prop := ∃ a c, v = .slice a l.length c ∧ (a = none → c = 0) ∧ l.length ≤ c ∧ RdT w 9 a (txts l)
theorem TxAt.keeps {T : TypeId → Prop} {w w' : World} {v : Value} {l : List Txt} (h : TxAt w v l) (hk : KeepsT T w w') (ht : T 9) : TxAt w' v l := by
  obtain ⟨a, c, h1, h2, h3, h4⟩ := h
  exact ⟨a, c, h1, h2, h3, h4.keeps hk ht⟩
theorem TxAt.nil (w : World) : TxAt w (.slice none 0 0) [] := ⟨none, 0, rfl, fun _ => rfl, Nat.le_refl _, RdT.nil _ _ _⟩
theorem TxAt.one {w : World} {v : Value} {l : List Txt} (h : TxAt w v l) : v.oneCell' = true := by
  obtain ⟨a, c, rfl, -⟩ := h; rfl
theorem TxAt.own {w : World} {base : Nat} {v : Value} {l : List Txt} (h : w.ownsRow base 9 1 v l.length (txts l)) : TxAt w v l := by
  obtain ⟨a, c, rfl, h1, h2, -⟩ := own_slice h (txts_one l)
  exact ⟨a, c, rfl, h1, h2, RdT.own h (txts_one l)⟩
/-- Values of type []string that read as the lists. -/
structure TxAll (w : World) (vs : List Value) (css : List (List Txt)) : Prop where
  len : vs.length = css.length
  at_ : ∀ (i : Nat) (v : Value) (c : List Txt), vs[i]? = some v → css[i]? = some c → TxAt w v c
theorem TxAll.keeps {T : TypeId → Prop} {w w' : World} {vs : List Value} {css : List (List Txt)} (h : TxAll w vs css) (hk : KeepsT T w w') (ht : T 9) : TxAll w' vs css := ⟨h.len, fun i v c h1 h2 => (h.at_ i v c h1 h2).keeps hk ht⟩
theorem TxAll.one {w : World} {vs : List Value} {css : List (List Txt)} (h : TxAll w vs css) : ∀ u ∈ vs, u.oneCell' = true := by
  intro u hu
  obtain ⟨i, hi⟩ := List.mem_iff_getElem?.1 hu
  have hil := (List.getElem?_eq_some_iff.1 hi).1
  obtain ⟨c, hc⟩ : ∃ c, css[i]? = some c := ⟨_, List.getElem?_eq_getElem (by rw [← h.len]; exact hil)⟩
  exact (h.at_ i u c hi hc).one
theorem TxAll.nil (w : World) : TxAll w [] [] := ⟨rfl, fun i v c h => by simp at h⟩
theorem TxAll.snoc {w : World} {vs : List Value} {css : List (List Txt)} {v : Value} {c : List Txt} (h : TxAll w vs css) (hc : TxAt w v c) : TxAll w (vs ++ [v]) (css ++ [c]) := by
  refine ⟨by simp [h.len], fun i u d h1 h2 => ?_⟩
  have hl := h.len
  by_cases hi : i < vs.length
  · rw [List.getElem?_append_left hi] at h1
    rw [List.getElem?_append_left (by omega)] at h2
    exact h.at_ i u d h1 h2
  · rw [List.getElem?_append_right (by omega)] at h1
    rw [List.getElem?_append_right (by omega), ← hl] at h2
    have h0 : i - vs.length = 0 := by
      by_cases e : i - vs.length = 0
      · exact e
      · rw [List.getElem?_eq_none (by simp; omega)] at h1; cases h1
    rw [h0] at h1 h2
    have e1 : v = u := by simpa using h1
    have e2 : c = d := by simpa using h2
    subst e1 e2; exact hc
theorem TxAll.append {w : World} {vs us : List Value} {css ks : List (List Txt)} (h : TxAll w vs css) (k : TxAll w us ks) : TxAll w (vs ++ us) (css ++ ks) := by
  refine ⟨by simp [h.len, k.len], fun i u d h1 h2 => ?_⟩
  have hl := h.len
  by_cases hi : i < vs.length
  · rw [List.getElem?_append_left hi] at h1
    rw [List.getElem?_append_left (by omega)] at h2
    exact h.at_ i u d h1 h2
  · rw [List.getElem?_append_right (by omega)] at h1
    rw [List.getElem?_append_right (by omega), ← hl] at h2
    exact k.at_ _ u d h1 h2
theorem TxAll.drop {w : World} {vs : List Value} {css : List (List Txt)} (h : TxAll w vs css) (k : Nat) : TxAll w (vs.drop k) (css.drop k) :=
  ⟨by simp [h.len], fun i u d h1 h2 => h.at_ (k + i) u d (by rwa [List.getElem?_drop] at h1) (by rwa [List.getElem?_drop] at h2)⟩
theorem TxAll.take {w : World} {vs : List Value} {css : List (List Txt)} (h : TxAll w vs css) (k : Nat) : TxAll w (vs.take k) (css.take k) :=
  ⟨by simp [h.len], fun i u d h1 h2 => by
    rw [List.getElem?_take] at h1 h2
    split at h1
    · rename_i hik
      rw [if_pos hik] at h2
      exact h.at_ i u d h1 h2
    · cases h1⟩
/-- A value of type [][]string that reads as the lists. -/
def LsAt (w : World) (v : Value) (css : List (List Txt)) : Prop := ∃ a c vs, v = .slice a css.length c ∧ (a = none → c = 0) ∧ css.length ≤ c ∧ RdT w 22 a vs ∧ TxAll w vs css
theorem LsAt.keeps {T : TypeId → Prop} {w w' : World} {v : Value} {css : List (List Txt)} (h : LsAt w v css) (hk : KeepsT T w w') (h1 : T 22) (h2 : T 9) : LsAt w' v css := by
  obtain ⟨a, c, vs, e1, e2, e3, e4, e5⟩ := h
  exact ⟨a, c, vs, e1, e2, e3, e4.keeps hk h1, e5.keeps hk h2⟩
theorem LsAt.nil (w : World) : LsAt w (.slice none 0 0) [] := ⟨none, 0, [], rfl, fun _ => rfl, Nat.le_refl _, RdT.nil _ _ _, TxAll.nil _⟩
theorem LsAt.own {w : World} {base n : Nat} {v : Value} {vs : List Value} {css : List (List Txt)} (h : w.ownsRow base 22 1 v n vs) (ht : TxAll w vs css) (hn : n = css.length) : LsAt w v css := by
  subst hn
  obtain ⟨a, c, rfl, h1, h2, -⟩ := own_slice h ht.one
  exact ⟨a, c, vs, rfl, h1, h2, RdT.own h ht.one, ht⟩
/-- Block m is the answer's deque, whose chunks are css. -/
def RefAt (w : World) (m : Nat) (css : List (List Txt)) : Prop := ∃ v, w.heap[m]? = some (.cells #[v] 77) ∧ LsAt w v css
theorem RefAt.keeps {T : TypeId → Prop} {w w' : World} {m : Nat} {css : List (List Txt)} (h : RefAt w m css) (hk : KeepsT T w w') (ht : ∀ t, rfT t → T t) : RefAt w' m css := by
  obtain ⟨v, h1, h2⟩ := h
  exact ⟨v, hk _ _ _ _ (ht _ (.inl rfl)) h1, h2.keeps hk (ht _ (.inr (.inl rfl))) (ht _ (.inr (.inr rfl)))⟩
/-- What a change of the answer's deque m leaves. -/
def RefPost (m : Nat) (css' : List (List Txt)) (r : Value) (w : World) (e : Ending) (w' : World) : Prop := e = .returned r ∧ RefAt w' m css' ∧ Chg (fun j => j = m) w w'
theorem RefAt.chg {w w' : World} {m n : Nat} {css ks : List (List Txt)} (h : RefAt w n css) (hm : RefAt w m ks) (hc : Chg (fun j => j = m) w w') (hne : n ≠ m) : RefAt w' n css := by
  obtain ⟨v, h1, h2⟩ := h
  obtain ⟨u, g1, -⟩ := hm
  have hk : KeepsT rlT w w' := fun j c t fr ht hj => hc.heap hj (by
    rintro rfl
    rw [g1] at hj; cases hj
    revert ht; unfold rlT; decide)
  exact ⟨v, hc.heap h1 hne, h2.keeps hk (.inl rfl) (.inr rfl)⟩
theorem RefAt.keepsD {w w' : World} {m : Nat} {css : List (List Txt)} (h : RefAt w m css) (hc : Chg (fun j => j = m) w w') : KeepsT dqT w w' := fun j c t fr ht hj => hc.heap hj (by
  obtain ⟨u, g1, -⟩ := h
  rintro rfl
  rw [g1] at hj; cases hj
  revert ht; unfold dqT; decide)

theorem rnew_any (w : World) : Calls Try.prog 27 #[] w fun e w' => e = .returned (.pointer (some ⟨w.heap.size, 0, none⟩)) ∧ RefAt w' w.heap.size [] ∧ Chg (fun _ => False) w w' := by
  go_enter Try.func27, Try.ntmps27
  go_wp2_with fail
  go_ret
  exact ⟨rfl, ⟨_, heap_alloc_new w _, LsAt.nil _⟩, (Chg.refl _ _).alloc _⟩
theorem rrow_nil (w : World) : Calls Try.prog 32 #[.pointer none] w fun e w' => e = .returned (.slice none 0 0) ∧ w = w' := by
  go_enter Try.func32, Try.ntmps32
  go_wp2_with fail
  go_ret
  exact ⟨rfl, rfl⟩
set_option maxHeartbeats 4000000 in
set_option maxRecDepth 100000 in
theorem rrow_any (w : World) (m : Nat) (css : List (List Txt)) (h : RefAt w m css) (hn : css.length ≤ 1048577) (ht : total css ≤ 1048577) :
    Calls Try.prog 32 #[.pointer (some ⟨m, 0, none⟩)] w (TRowPost css.flatten w) := by
  obtain ⟨v, hm, a, c, vs, rfl, hnil, hc, hrd, hall⟩ := h
  have hc0 : w.cell? ⟨m, 0, none⟩ = some (.slice a css.length c) := by rw [cell_of_row w m 0 _ _ _ hm]; rfl
  obtain ⟨q, hq⟩ : ∃ q, css.length = q := ⟨_, rfl⟩
  rw [hq] at hn hc hc0
  have HQ := Lib.hid hq
  have HT := Lib.hid ht
  have HA := Lib.hid hall
  have HR := Lib.hid hrd
  clear hq hm hall hrd ht
  go_enter Try.func32, Try.ntmps32
  go_wp2_with fail
  go_loopw [3, 13] (fun v i wr => ∃ k t : Nat, k ≤ q ∧ i = .int .i64 k ∧ Hid (t = total (css.take k)) ∧ Hid (wr.ownsRow w.heap.size 9 1 v t (txts (css.take k).flatten)) ∧ Hid (Below w.heap.size w wr)) (fun _ i _ => q - (intOf i).toNat)
  case atStart => exact ⟨0, 0, Nat.zero_le _, rfl, Lib.hid rfl, Lib.hid (World.ownsRow_nil _ _ _ _), Lib.hid (Below.refl _ _)⟩
  case round =>
    obtain ⟨k, t, hk, rfl, HK, HO, HB⟩ := hrel
    by_cases hlt : k < q
    · obtain ⟨ck, hck⟩ : ∃ ck, css[k]? = some ck := ⟨_, List.getElem?_eq_getElem (by rw [HQ.out]; exact hlt)⟩
      obtain ⟨u, hu⟩ : ∃ u, vs[k]? = some u := ⟨_, List.getElem?_eq_getElem (by rw [HA.out.len, HQ.out]; exact hlt)⟩
      obtain ⟨a2, c2, rfl, hnil2, hc2, hrd2⟩ := HA.out.at_ k u ck hu hck
      obtain ⟨hone, y, rfl, hcell⟩ := (Rd.keep HR.out.1 HB.out) k _ hu
      obtain ⟨n2, hn2⟩ : ∃ n2, ck.length = n2 := ⟨_, rfl⟩
      rw [hn2] at hcell hc2
      have hst := total_step hck
      rw [hn2] at hst
      have hfl := flat_step hck
      have hle := total_take_le css (k + 1)
      have hbt : t + n2 ≤ 1048577 := by have := HT.out; have := HK.out; omega
      have HST := Lib.hid hst
      have HFL := Lib.hid hfl
      have HN2 := Lib.hid (show (txts ck).length = n2 * 1 by rw [txts_length]; omega)
      have HRD := Lib.hid (Rd.keep hrd2.1 HB.out)
      clear hck hu hrd2 hn2 hst hfl hle
      go_wp2_with (at_builtin; refine wpl_append strT rfl _ _ rfl w.heap.size rfl HO.out rfl hnil2 HN2.out HRD.out (by omega) HB.out.size ?_
                   intro v5 w5 hown5 hg5 hv5
                   have HO5 := Lib.hid hown5
                   have HB5 := Lib.hid (HB.out.grown hg5 HB.out.size fun j hj => (HO.out.lt j hj).1)
                   clear hown5 hg5 hv5)
      go_roundw
      case rel => exact ⟨k + 1, t + n2, by omega, by go_num, Lib.hid (by have := HK.out; have := HST.out; omega), Lib.hid (by rw [HFL.out, txts_app]; exact HO5.out), HB5⟩
      case measure => simp [intOf]; omega
    · obtain rfl : k = q := by omega
      have HE := Lib.hid (show css.take k = css by rw [List.take_of_length_le (by rw [HQ.out]; exact Nat.le_refl _)])
      go_wp2_with fail
      go_ret
      refine ⟨_, rfl, ?_, HB.out⟩
      have h1 := HO.out
      have h2 := HK.out
      rw [HE.out] at h1 h2
      rw [flatten_length, ← h2]
      exact h1
/-- The answer's deque, or none. -/
def RefOr (w : World) (p : Option Addr) (css : List (List Txt)) : Prop := (p = none ∧ css = []) ∨ ∃ m, p = some ⟨m, 0, none⟩ ∧ RefAt w m css
theorem rrow_or (w : World) (p : Option Addr) (css : List (List Txt)) (h : RefOr w p css) (hn : css.length ≤ 1048577) (ht : total css ≤ 1048577) : Calls Try.prog 32 #[.pointer p] w (TRowPost css.flatten w) := by
  rcases h with ⟨rfl, rfl⟩ | ⟨m, rfl, h⟩
  · refine (rrow_nil w).mono ?_
    rintro e w' ⟨rfl, rfl⟩
    exact ⟨_, rfl, World.ownsRow_nil _ _ _ _, Below.refl _ _⟩
  · exact rrow_any w m css h hn ht
theorem rlen_or (w : World) (p : Option Addr) (css : List (List Txt)) (h : RefOr w p css) (hn : css.length ≤ 1048577) (ht : total css ≤ 1048577) :
    Calls Try.prog 52 #[.pointer p] w fun e w' => e = .returned (.int .i64 (total css : Nat)) ∧ Below w.heap.size w w' := by
  have HR := Lib.hid (rrow_or w p css h hn ht)
  clear h hn ht
  go_enter Try.func52, Try.ntmps52
  go_wp2_with (go_at_call 32; refine HR.out.mono ?_; rintro e w1 ⟨v1, rfl, hown1, hb1⟩; obtain ⟨a1, c1, rfl, -⟩ := textsRd hown1; have HB1 := Lib.hid hb1; clear hown1 hb1)
  go_ret
  exact ⟨rfl, HB1.out⟩
end Go.Proofs.Ytefoieloakfhfaa
