/- The document's answer for the deque: New rows of lists; lay, Copy, Push. -/
import Derived.Test.YtefoieloakfhfaaZRef2
namespace Go.Proofs.Ytefoieloakfhfaa
open Go.RowKit Pantry

theorem lsT : ElemT Try.prog 75 22 1 24 (.slice none 0 0) := ⟨Try.underlying75, by kernel_rfl, rfl, by decide, by decide⟩
theorem KeepsT.ofBelow {T : TypeId → Prop} {w w' : World} (h : Below w.heap.size w w') : KeepsT T w w' := keepsQuiet (Chg.of_below h)
/-- A copy of the answer's deque. -/
def RCopyPost (css : List (List Txt)) (w : World) (e : Ending) (w' : World) : Prop := ∃ m, e = .returned (.pointer (some ⟨m, 0, none⟩)) ∧ RefAt w' m css ∧ w.heap.size ≤ m ∧ Below w.heap.size w w'
theorem rcopy_nil (w : World) : Calls Try.prog 29 #[.pointer none] w (RCopyPost [] w) := by
  go_enter Try.func29, Try.ntmps29
  go_wp2_with (go_at_call 27; refine (rnew_any w).mono ?_; rintro e w1 ⟨rfl, hr, hc⟩; have HR := Lib.hid hr; have HC := Lib.hid hc; clear hr hc)
  go_ret
  exact ⟨_, rfl, HR.out, Nat.le_refl _, HC.out.below (Nat.le_refl _) fun _ e => e.elim⟩
set_option maxHeartbeats 4000000 in
set_option maxRecDepth 100000 in
theorem rcopy_any (w : World) (m : Nat) (css : List (List Txt)) (h : RefAt w m css) (hn : css.length ≤ 1048577) : Calls Try.prog 29 #[.pointer (some ⟨m, 0, none⟩)] w (RCopyPost css w) := by
  obtain ⟨v, hm, a, c, vs, rfl, hnil, hc, hrd, hall⟩ := h
  have hc0 : w.cell? ⟨m, 0, none⟩ = some (.slice a css.length c) := by rw [cell_of_row w m 0 _ _ _ hm]; rfl
  have hml : m < w.heap.size := block_lt hm
  have hc1 : (w.alloc (.cells #[] 22)).cell? ⟨m, 0, none⟩ = some (.slice a css.length c) := (((Below.refl w.heap.size w).alloc (Nat.le_refl _) (.cells #[] 22)).cell (p := ⟨m, 0, none⟩) hml).trans hc0
  obtain ⟨q, hq⟩ : ∃ q, css.length = q := ⟨_, rfl⟩
  rw [hq] at hn hc hc0 hc1
  have HQ := Lib.hid hq
  have HA := Lib.hid hall
  have HR := Lib.hid hrd
  have HL := Lib.hid (show vs.length = q * 1 by rw [hall.len, hq]; omega)
  clear hq hm hall hrd
  go_enter Try.func29, Try.ntmps29
  go_wp2_with (at_builtin; refine wpl_append lsT rfl _ _ rfl w.heap.size rfl (own_empty w _ _ (Nat.le_refl _)) (news := vs) rfl hnil HL.out (Rd.keep HR.out.1 ((Below.refl _ _).alloc (Nat.le_refl _) _)) (by omega) (by simp) ?_
               intro v5 w5 hown5 hg5 hv5
               have HO5 := Lib.hid hown5
               have hb5 : Below w.heap.size w w5 := ((Below.refl w.heap.size w).alloc (Nat.le_refl _) _).grown hg5 (by simp) (fun k hk => by cases hk; exact Nat.le_refl _)
               obtain ⟨a5, c5, rfl, -⟩ := own_slice hown5 (by simpa using HA.out.one)
               have HB5 := Lib.hid hb5
               clear hown5 hg5 hv5 hb5)
  go_ret
  have h1 := own_cast HO5.out (Nat.zero_add q) (List.nil_append vs)
  rw [Nat.zero_add] at h1
  have hT : TxAll w5 vs css := HA.out.keeps (T := fun _ => True) (KeepsT.ofBelow HB5.out) trivial
  refine ⟨w5.heap.size, rfl, ⟨_, heap_alloc_new w5 _, LsAt.own (h1.alloc _) (hT.keeps (T := fun _ => True) (KeepsT.alloc w5 _) trivial) HQ.out.symm⟩, HB5.out.size, HB5.out.alloc HB5.out.size _⟩
theorem ref_store {w wN : World} {m n : Nat} {v0 v : Value} {vs : List Value} {css : List (List Txt)} (hm : w.heap[m]? = some (.cells #[v0] 77)) (hb : Below w.heap.size w wN) (hown : wN.ownsRow w.heap.size 22 1 v n vs) (ht : TxAll wN vs css) (hn : n = css.length) :
    RefAt (wN.setCell ⟨m, 0, none⟩ v) m css ∧ Chg (fun j => j = m) w (wN.setCell ⟨m, 0, none⟩ v) := by
  have hml := block_lt hm
  have hm2 : wN.heap[m]? = some (.cells #[v0] 77) := (hb.block m hml).trans hm
  have hbx : Boxed wN m 77 v0 := hm2
  have hk : KeepsT rlT wN (wN.setCell ⟨m, 0, none⟩ v) := KeepsT.set hbx (by unfold rlT; decide) v
  refine ⟨⟨v, hbx.set v, ?_⟩, ?_⟩
  · exact (LsAt.own hown ht hn).keeps hk (.inl rfl) (.inr rfl)
  · exact (Chg.of_below (S := fun j => j = m) hb).setCell (p := ⟨m, 0, none⟩) (fun _ => rfl) v
theorem TxAll.grow {w w' : World} {base : Nat} {v : Value} {n : Nat} {vs xs : List Value} {css : List (List Txt)} (h : TxAll w vs css) (hown : w.ownsRow base 22 1 v n xs) (hg : w.grownBy w' v.ownBlock) : TxAll w' vs css :=
  h.keeps (T := fun t => t = 9) (KeepsT.row hown (by decide) hg) rfl

theorem full_snoc (l : List (List Txt)) (c : List Txt) : full (l ++ [c]) = full l ++ (if c.isEmpty then [] else [c]) := by
  unfold full
  rw [List.filter_append]
  cases h : c.isEmpty <;> simp [List.filter, h]
theorem full_take {ks : List (List Txt)} {k : Nat} {c : List Txt} (h : ks[k]? = some c) : full (ks.take (k + 1)) = full (ks.take k) ++ (if c.isEmpty then [] else [c]) := by
  rw [List.take_add_one, h, Option.toList_some, full_snoc]

set_option maxHeartbeats 4000000 in
set_option maxRecDepth 100000 in
theorem rlay_any (w : World) (m : Nat) (css ks : List (List Txt)) (v : Value) (h : RefAt w m css) (hv : LsAt w v ks) (hn : ks.length ≤ 1048577) :
    Calls Try.prog 65 #[.pointer (some ⟨m, 0, none⟩), v] w (RefPost m (full ks) (.tuple #[]) w) := by
  obtain ⟨v0, hm, -⟩ := h
  obtain ⟨a, c, vs, rfl, hnil, hc, hrd, hall⟩ := hv
  have hml : m < w.heap.size := block_lt hm
  obtain ⟨q, hq⟩ : ∃ q, ks.length = q := ⟨_, rfl⟩
  rw [hq] at hn hc ⊢
  have HQ := Lib.hid hq
  have HM := Lib.hid hm
  have HA := Lib.hid hall
  have HR := Lib.hid hrd
  clear hq hm hall hrd
  go_enter Try.func65, Try.ntmps65
  go_wp2_with fail
  go_loopw [4, 9] (fun o i wr => ∃ k t : Nat, ∃ us, k ≤ q ∧ i = .int .i64 k ∧ t ≤ k ∧ Hid (t = (full (ks.take k)).length) ∧ Hid (wr.ownsRow w.heap.size 22 1 o t us) ∧ Hid (TxAll wr us (full (ks.take k))) ∧ Hid (Below w.heap.size w wr)) (fun _ i _ => q - (intOf i).toNat)
  case atStart => exact ⟨0, 0, [], Nat.zero_le _, rfl, Nat.le_refl _, Lib.hid rfl, Lib.hid (World.ownsRow_nil _ _ _ _), Lib.hid (TxAll.nil _), Lib.hid (Below.refl _ _)⟩
  case round =>
    obtain ⟨k, t, us, hk, rfl, htk, HT, HO, HU, HB⟩ := hrel
    by_cases hlt : k < q
    · obtain ⟨ck, hck⟩ : ∃ ck, ks[k]? = some ck := ⟨_, List.getElem?_eq_getElem (by rw [HQ.out]; exact hlt)⟩
      obtain ⟨u, hu⟩ : ∃ u, vs[k]? = some u := ⟨_, List.getElem?_eq_getElem (by rw [HA.out.len, HQ.out]; exact hlt)⟩
      have HTX := Lib.hid (HA.out.at_ k u ck hu hck)
      obtain ⟨a2, c2, hu2, -⟩ := HTX.out
      obtain ⟨hone, y, rfl, hcell⟩ := (Rd.keep HR.out.1 HB.out) k _ hu
      have HST := Lib.hid (full_take hck)
      subst hu2
      obtain ⟨n2, hn2⟩ : ∃ n2, ck.length = n2 := ⟨_, rfl⟩
      rw [hn2] at hcell HTX
      clear hck hu hone
      by_cases hz : n2 = 0
      · have he : ck.isEmpty = true := by cases ck with
          | nil => rfl
          | cons x l => simp at hn2; omega
        rw [he] at HST
        have hz2 : ¬ (0 : Int) < (n2 : Int) := by omega
        clear he hn2
        go_wp2_with fail
        go_roundw
        case rel => exact ⟨k + 1, t, us, by omega, by go_num, by omega, Lib.hid (by rw [HST.out, HT.out]; simp), HO, Lib.hid (by rw [HST.out]; simpa using HU.out), HB⟩
        case measure => simp [intOf]; omega
      · have he : ck.isEmpty = false := by cases ck with
          | nil => simp at hn2; omega
          | cons x l => rfl
        rw [he] at HST
        have hz2 : (0 : Int) < (n2 : Int) := by omega
        clear he hn2
        go_wp2_with (at_builtin; (refine wpl_append1 lsT rfl _ _ rfl w.heap.size rfl HO.out #[.slice a2 n2 c2] rfl rfl (by simp [Value.oneCell']) (by omega) HB.out.size ?_)
                     intro v5 w5 hown5 hg5 hb5 hv5
                     have HB5 := Lib.hid (HB.out.trans hb5)
                     have HU5 := Lib.hid ((HU.out.grow HO.out hg5).snoc (HTX.out.keeps (T := fun _ => True) (KeepsT.ofBelow HB5.out) trivial))
                     have HO5 := Lib.hid hown5
                     clear hown5 hg5 hb5 hv5)
        go_roundw
        case rel => exact ⟨k + 1, t + 1, _, by omega, by go_num, by omega, Lib.hid (by rw [HST.out, HT.out]; simp), HO5, Lib.hid (by rw [HST.out]; simpa using HU5.out), HB5⟩
        case measure => simp [intOf]; omega
    · obtain rfl : k = q := by omega
      have HE := Lib.hid (show ks.take k = ks by rw [List.take_of_length_le (by rw [HQ.out]; exact Nat.le_refl _)])
      have hbx : Boxed wr m 77 v0 := (HB.out.block m hml).trans HM.out
      have hb1 := hbx.cell
      have hb2 := hbx.frozen
      obtain ⟨a6, c6, ho6, -⟩ := own_slice HO.out HU.out.one
      subst ho6
      have HF := Lib.hid (ref_store HM.out HB.out HO.out HU.out HT.out)
      rw [HE.out] at HF
      clear hbx
      go_wp2_with fail
      go_end0
      exact ⟨rfl, HF.out.1, HF.out.2⟩
end Go.Proofs.Ytefoieloakfhfaa
