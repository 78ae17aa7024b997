/- Two seeds, and the members set in the opposite order: the same row. The walk. -/
import Derived.Test.YtbjfigegiffefaaRkBuilt
import Derived.Deep.CutRange
set_option linter.unusedVariables false
set_option linter.unusedSimpArgs false
namespace Pantry
open Go Go.RowKit
theorem rises_uniq : ∀ {l k : List Mb}, Rises l → Rises k → l.Perm k → l = k
  | [], k, _, _, hp => by simpa using hp.symm.eq_nil
  | p :: l, [], _, _, hp => by simp at hp
  | p :: l, q :: k, hl, hk, hp => by
    have hl' := List.pairwise_cons.1 hl
    have hk' := List.pairwise_cons.1 hk
    have e : p = q := by
      rcases List.mem_cons.1 (hp.mem_iff.1 List.mem_cons_self) with h | h
      · exact h
      · rcases List.mem_cons.1 (hp.mem_iff.2 List.mem_cons_self) with h2 | h2
        · exact h2.symm
        · have h3 := hk'.1 p h
          have h4 := hl'.1 q h2
          exact absurd (cmpR_trans h3 h4) (cmpR_irrefl q)
    subst e
    rw [rises_uniq hl'.2 hk'.2 (List.Perm.cons_inv hp)]
theorem segR_all (l : List Mb) : segR l 0 (l.length : Nat) = l := by
  unfold segR
  rw [show (max (0 : Int) 0).toNat = 0 by omega, show (min ((l.length : Nat) : Int) (l.length : Nat)).toNat = l.length by omega, List.take_length, List.drop_zero]
end Pantry
namespace Go.Proofs.Ytbjfigegiffefaa
open Go.RowKit Pantry

/-- A member that is new to ranks with room is taken. -/
theorem SetC.taken {l l' : List Mb} {key : List UInt8} {x : Nat} {new : Bool} {code : Int} (h : SetC l key x l' new code) (hk : ∀ p ∈ l, p.1 ≠ key) (ht : key.length ≤ 1048576) (hx : ¬ fnan x) (hf : l.length < 1048576) : new = true ∧ code = 0 ∧ l'.Perm ((key, x) :: l) := by
  cases h with
  | long h => omega
  | nan h hx' => exact absurd hx' hx
  | full h hx' hk' hf' => omega
  | same h hx' y hy he => exact absurd rfl (hk _ hy)
  | moved h hx' i y j hy he hj => exact absurd rfl (hk _ (List.mem_of_getElem? hy))
  | fresh h hx' hk' hf' j hj => exact ⟨rfl, rfl, ins_perm l j _⟩
/-- The entries, read. -/
theorem Twin.entries {w : World} {r : Nat} {v : Value} {l : List Mb} {wr : World} (h : Twin w r v l wr) : ∃ L a c, v = .slice a l.length c ∧ L.Perm l ∧ Rd wr a (rkCells L) ∧ L.length = l.length := by
  obtain ⟨⟨S, L, h1, h2, h3, h4, h5⟩, h6⟩ := h
  obtain ⟨a, c, rfl, hrd⟩ := ownsRow_rd h4 (rkCells_one L)
  exact ⟨L, a, c, by rw [h3.length_eq], h3, hrd, h3.length_eq⟩
theorem Twin.good {w : World} {r : Nat} {v : Value} {l : List Mb} {wr : World} (h : Twin w r v l wr) : RkGood l ∧ (l.map (·.1)).Nodup := by
  obtain ⟨⟨S, L, h1, h2, h3, h4, h5⟩, h6⟩ := h
  exact ⟨h1.good, h1.keys⟩
theorem Twin.range {w : World} {r : Nat} {v : Value} {l : List Mb} {wr : World} (h : Twin w r v l wr) (x y : Int) {m : List Mb} {n : Nat} (hm : segR l x y = m) (hn : m.length = n) : Calls Try.prog 12 #[.pointer (some ⟨r, 0, none⟩), .int .i64 x, .int .i64 y] wr (RowPost n m wr) := by
  obtain ⟨⟨S, L, h1, h2, h3, h4, h5⟩, h6⟩ := h
  exact St.range (w := w) (N := fun _ => False) ⟨S, h1, h2, h6, fun _ _ e => e, fun _ e => e.elim⟩ x y hm hn
theorem Twin.len {w : World} {r : Nat} {v : Value} {l : List Mb} {wr : World} (h : Twin w r v l wr) : Calls Try.prog 13 #[.pointer (some ⟨r, 0, none⟩)] wr fun e w' => e = .returned (.int .i64 (l.length : Nat)) ∧ wr = w' := by
  obtain ⟨⟨S, L, h1, h2, h3, h4, h5⟩, h6⟩ := h
  exact h1.len
theorem Twin.cost {w : World} {r : Nat} {v : Value} {l : List Mb} {wr : World} (h : Twin w r v l wr) : Calls Try.prog 17 #[.pointer (some ⟨r, 0, none⟩)] wr fun e w' => e = .returned (.int .i64 (rkCost l : Nat)) ∧ wr = w' := by
  obtain ⟨⟨S, L, h1, h2, h3, h4, h5⟩, h6⟩ := h
  exact h1.cost
set_option maxHeartbeats 8000000 in
set_option maxRecDepth 100000 in
theorem anyway_walk (w : World) (one two : Nat) (h1 : one < 18446744073709551616) (h2 : two < 18446744073709551616) (a : Option Addr) (n c : Nat) (ops : List Stp) (hl : OpsAt w a n ops) :
    Calls Try.prog 4 #[.int .u64 one, .int .u64 two, .slice a n c] w (OkPost w) := by
  have HW := Lib.hid (wakes_any w)
  have HL := Lib.hid hl
  have H1 := Lib.hid h1
  have HN := Lib.hid (fun W => Rk.new W two h2)
  clear hl h1 h2
  go_enter Try.func4, Try.ntmps4
  go_wp2_with (first
    | (go_at_call 10; refine HW.out.mono ?_; rintro e w1 ⟨rfl, hb⟩
       have HB := Lib.hid hb
       have HBU := Lib.hid (built_any w1 one H1.out a n c ops (HL.out.keep hb))
       clear hb)
    | (go_at_call 11; refine HBU.out.mono ?_; rintro e w2 ⟨r, v, rfl, ht⟩
       have HT := Lib.hid ht
       have HN2 := Lib.hid (HN.out w2)
       obtain ⟨L, a2, c2, rfl, hp, hrd, hlen⟩ := ht.entries
       have hf := ht.good.1.few
       obtain ⟨m, hm⟩ : ∃ m, (runL ops).length = m := ⟨_, rfl⟩
       rw [hm] at hlen hf
       have HLL := Lib.hid (show _ ∧ _ ∧ _ ∧ _ from ⟨hp, hrd, hlen, hm⟩)
       rw [hm]
       rw [hm] at HT
       clear ht hp hrd hlen hm HBU)
    | (go_at_call 18; refine HN2.out.mono ?_; rintro e w3 ⟨b, S, rfl, hr, hb, hS⟩
       have HST := Lib.hid (St.made (Below.refl _ w2) hr hb hS)
       clear hr hb hS HN2))
  clear HN HW
  go_loopw [11] (fun i wr => ∃ (k : Nat) (lb : List Mb), k ≤ m ∧ i = .int .i64 ((k : Int) - 1) ∧ Hid (St w2 b lb (fun _ => False) wr) ∧ Hid (lb.Perm (L.drop k))) (fun i _ => ((intOf i) + 1).toNat)
  case atStart => exact ⟨m, [], Nat.le_refl _, rfl, HST, Lib.hid (by rw [List.drop_of_length_le (by rw [HLL.out.2.2.1]; exact Nat.le_refl _)])⟩
  case round =>
    obtain ⟨k, lb, hk, rfl, HS, HPM⟩ := hrel
    cases k with
    | succ j =>
      rw [show (((j + 1 : Nat) : Int) - 1) = (j : Int) by omega]
      obtain ⟨p, hj⟩ : ∃ p, L[j]? = some p := ⟨_, List.getElem?_eq_getElem (by rw [HLL.out.2.2.1]; omega)⟩
      obtain ⟨y, rfl, e2, e3⟩ := mb_cells (HLL.out.2.1.below HS.out.under) hj
      have hdrop : L.drop j = p :: L.drop (j + 1) := by
        obtain ⟨hjl, rfl⟩ := List.getElem?_eq_some_iff.1 hj
        exact List.drop_eq_getElem_cons hjl
      have HSET : Hid (Calls Try.prog 19 #[.pointer (some ⟨b, 0, none⟩), .string ⟨p.1.toArray⟩, .float .f64 p.2] wr.drew fun e w' => e = .returned (.tuple #[.bool true, .int .i64 0]) ∧ ∃ lb', St w2 b lb' (fun _ => False) w' ∧ lb'.Perm (L.drop j)) := Lib.hid (by
        have hpl : p ∈ runL ops := HLL.out.1.mem_iff.1 (List.mem_of_getElem? hj)
        obtain ⟨hg, hnd⟩ := HT.out.good
        have hst : St w2 b lb (fun _ => False) wr.drew := HS.out.below (Below.refl _ _).drew
        refine (hst.set p.1 p.2 (by have := hg.text p hpl; omega)).mono ?_
        rintro e w' ⟨⟨l', new, code, q1, rfl, q3⟩, -⟩
        obtain ⟨rfl, rfl, hpm⟩ := SetC.taken q1 (by
          intro q hq hqk
          have hq2 := HPM.out.mem_iff.1 hq
          have hnL : (L.map (·.1)).Nodup := (HLL.out.1.map _).nodup_iff.2 hnd
          rw [← List.take_append_drop j L, hdrop, List.map_append, List.map_cons, List.nodup_append] at hnL
          exact (List.nodup_cons.1 hnL.2.1).1 (List.mem_map.2 ⟨q, hq2, hqk⟩)) (hg.text p hpl) (hg.num p hpl) (by
          rw [HPM.out.length_eq, List.length_drop, HLL.out.2.2.1]
          omega)
        exact ⟨rfl, l', q3, by rw [hdrop]; exact hpm.trans (HPM.out.cons p)⟩)
      have hjm : j < m := by omega
      have hge : decide ((0 : Int) ≤ (j : Int)) = true := by simp
      clear hj hdrop
      go_wp2_with fail
      go_region_with (go_at_call 19; refine HSET.out.mono ?_; clear HSET; rintro e w5 ⟨rfl, lb', hst, hpm⟩
                      have HS5 := Lib.hid hst
                      have HP5 := Lib.hid hpm
                      clear hst hpm)
      all_goals
        go_wp2_with fail
        go_roundw
        case rel => exact ⟨j, lb', by omega, by first | rfl | go_num, HS5, HP5⟩
        case measure => simp [intOf]; try omega
    | zero =>
      have hlt : decide ((0 : Int) ≤ ((0 : Nat) : Int) - 1) = false := by simp
      have hlb : lb = runL ops := rises_uniq HS.out.good.rises HT.out.good.1.rises (by have := HPM.out; rw [List.drop_zero] at this; exact this.trans HLL.out.1)
      subst hlb
      have HTW := Lib.hid (HT.out.below HS.out.under)
      have HM := Lib.hid HLL.out.2.2.2
      have HLN := Lib.hid HTW.out.len
      have HLN2 := Lib.hid HS.out.len
      rw [HM.out] at HLN HLN2
      have HR1 := Lib.hid (HTW.out.range 0 m (m := runL ops) (n := m) (by have := segR_all (runL ops); rwa [HM.out] at this) HM.out)
      have HSM := Lib.hid (sameB_refl (l := runL ops))
      have HUN := Lib.hid (HB.out.trans ((HT.out.under.trans (HS.out.under.mono HT.out.under.size)).mono HB.out.size))
      clear HPM
      go_wp2_with (first
        | (go_at_call 13; refine HLN.out.mono ?_; clear HLN; rintro e w6 ⟨rfl, rfl⟩)
        | (go_at_call 12; refine HR1.out.mono ?_; clear HR1; rintro e w7 ⟨a7, c7, rfl, hrd, -, hb7⟩
           have HRD7 := Lib.hid hrd
           have HTW7 := Lib.hid (HTW.out.below hb7)
           have HS7 := Lib.hid (HS.out.below hb7)
           have HUN7 := Lib.hid (HUN.out.trans (hb7.mono HUN.out.size))
           have HLN3 := Lib.hid HS7.out.len
           rw [HM.out] at HLN3
           have HR2 := Lib.hid (HS7.out.range 0 m (m := runL ops) (n := m) (by have := segR_all (runL ops); rwa [HM.out] at this) HM.out)
           clear hrd hb7 HLN2)
        | (go_at_call 13; refine HLN3.out.mono ?_; clear HLN3; rintro e w8 ⟨rfl, rfl⟩)
        | (go_at_call 12; refine HR2.out.mono ?_; clear HR2; rintro e w9 ⟨a9, c9, rfl, hrd, -, hb9⟩
           have HRD9 := Lib.hid hrd
           have HRD8 := Lib.hid (HRD7.out.below hb9)
           have HTW9 := Lib.hid (HTW7.out.below hb9)
           have HS9 := Lib.hid (HS7.out.below hb9)
           have HUN9 := Lib.hid (HUN7.out.trans (hb9.mono HUN7.out.size))
           clear hrd hb9)
        | (go_at_call 20; refine (same_any _ _ m m _ _ (runL ops) (runL ops) _ HM.out HM.out (by omega) HRD8.out HRD9.out).mono ?_; rintro e w10 ⟨rfl, q10, rfl⟩
           rw [HSM.out]
           have hq : Below w9.heap.size w9 (w9.drewN q10) := belowN (Below.refl _ _)
           have HC1 := Lib.hid ((HTW9.out.below hq).cost)
           have HC2 := Lib.hid ((HS9.out.below hq).cost)
           have HU10 := Lib.hid (HUN9.out.trans (hq.mono HUN9.out.size))
           clear hq)
        | (go_at_call 17; refine HC1.out.mono ?_; clear HC1; rintro e w11 ⟨rfl, rfl⟩)
        | (go_at_call 17; refine HC2.out.mono ?_; clear HC2; rintro e w11 ⟨rfl, rfl⟩))
      go_ret
      exact ⟨by simp, HU10.out⟩
end Go.Proofs.Ytbjfigegiffefaa
