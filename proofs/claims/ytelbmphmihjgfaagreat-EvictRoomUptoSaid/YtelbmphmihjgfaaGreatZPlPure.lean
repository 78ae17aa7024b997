/- A pool as plain data. -/
import Derived.Test.YtelbmphmihjgfaaGreatZKsCmp
set_option linter.unusedVariables false
set_option linter.unusedSimpArgs false
namespace Pantry
open Go Go.RowKit Go.Proofs Go.Sort
/-- A candidate. -/
structure Cand where
  key : List UInt8
  rank : Nat
deriving Inhabited, DecidableEq
def Cand.due (c : Cand) : Due := ⟨c.key, 0, c.rank⟩
def cmpC (x y : Cand) : Int := cmpD x.due y.due
theorem swoC : SWO (ltOf cmpC) := ⟨fun x => swoD.irrefl x.due, fun x y z => swoD.trans x.due y.due z.due, fun x y z => swoD.ntrans x.due y.due z.due⟩
theorem cmpC_irr (x : Cand) : ¬ cmpC x x < 0 := cmpD_irr x.due
theorem cmpC_trans {x y z : Cand} (h1 : cmpC x y < 0) (h2 : cmpC y z < 0) : cmpC x z < 0 := by
  have := swoC.trans x y z (by simpa [ltOf] using h1) (by simpa [ltOf] using h2)
  simpa [ltOf] using this
theorem cmpC_tri {x y : Cand} (h : x.key ≠ y.key) : cmpC x y < 0 ∨ cmpC y x < 0 := by
  by_cases h1 : cmpC x y < 0
  · exact .inl h1
  · by_cases h2 : cmpC y x < 0
    · exact .inr h2
    · exact absurd (cmpD_zero h1 h2) h
/-- The row of a pool: the soonest first, each key once. -/
structure PoolOk (P : List Cand) : Prop where
  rises : P.Pairwise fun x y => cmpC x y < 0
  keys : (P.map (·.key)).Nodup
theorem PoolOk.nil : PoolOk [] := ⟨List.Pairwise.nil, List.nodup_nil⟩
theorem PoolOk.sublist {P Q : List Cand} (h : PoolOk P) (hs : Q.Sublist P) : PoolOk Q := ⟨h.rises.sublist hs, h.keys.sublist (hs.map _)⟩
def dropC (P : List Cand) (key : List UInt8) : List Cand := P.filter fun c => !(c.key == key)
theorem mem_dropC {P : List Cand} {key : List UInt8} {c : Cand} : c ∈ dropC P key ↔ c ∈ P ∧ c.key ≠ key := by simp [dropC]
theorem PoolOk.drop {P : List Cand} (h : PoolOk P) (key : List UInt8) : PoolOk (dropC P key) := h.sublist List.filter_sublist
def insCand (c : Cand) : List Cand → List Cand
  | [] => [c]
  | x :: l => if cmpC x c < 0 then x :: insCand c l else c :: x :: l
theorem insCand_perm (c : Cand) : ∀ l : List Cand, (insCand c l).Perm (c :: l)
  | [] => List.Perm.refl _
  | x :: l => by
    rw [insCand]
    split
    · exact ((insCand_perm c l).cons x).trans (List.Perm.swap c x l)
    · exact List.Perm.refl _
theorem insCand_ok {c : Cand} : ∀ {l : List Cand}, PoolOk l → (∀ x ∈ l, x.key ≠ c.key) → (insCand c l).Pairwise fun x y => cmpC x y < 0
  | [], _, _ => List.pairwise_singleton _ _
  | x :: l, h, hn => by
    have h1 := List.pairwise_cons.1 h.rises
    rw [insCand]
    split
    · rename_i hlt
      refine List.pairwise_cons.2 ⟨fun y hy => ?_, insCand_ok (h.sublist (List.sublist_cons_self x l)) fun y hy => hn y (.tail _ hy)⟩
      rcases List.mem_cons.1 ((insCand_perm c l).subset hy) with rfl | hy
      · exact hlt
      · exact h1.1 y hy
    · rename_i hge
      have hcx : cmpC c x < 0 := (cmpC_tri (hn x (.head _))).resolve_left hge
      refine List.pairwise_cons.2 ⟨fun y hy => ?_, h.rises⟩
      rcases List.mem_cons.1 hy with rfl | hy
      · exact hcx
      · exact cmpC_trans hcx (h1.1 y hy)
theorem insCand_good {c : Cand} {l : List Cand} (h : PoolOk l) (hn : ∀ x ∈ l, x.key ≠ c.key) : PoolOk (insCand c l) := by
  refine ⟨insCand_ok h hn, (((insCand_perm c l).map (·.key)).nodup_iff).2 ?_⟩
  rw [List.map_cons, List.nodup_cons]
  exact ⟨fun hm => by obtain ⟨x, hx, e⟩ := List.mem_map.1 hm; exact hn x hx e, h.keys⟩
/-- Any rising row of the same candidates is that one. -/
theorem insCand_unique {c : Cand} {l m : List Cand} (h : PoolOk l) (hn : ∀ x ∈ l, x.key ≠ c.key) (hp : m.Perm (l ++ [c])) (hm : m.Pairwise fun x y => ¬ cmpC y x < 0) : m = insCand c l := by
  have hk : (m.map (·.key)).Nodup := by
    refine ((hp.map _).nodup_iff).2 ?_
    have := (insCand_good h hn).keys
    exact (((insCand_perm c l).trans (List.perm_append_singleton c l).symm).map (·.key)).nodup_iff.1 this
  have hs : m.Pairwise fun x y => cmpC x y < 0 := by
    refine (List.Pairwise.and (List.pairwise_map.1 hk) hm).imp fun {a b} ⟨e1, e2⟩ => (cmpC_tri e1).resolve_right e2
  exact rising_unique (R := fun x y => cmpC x y < 0) cmpC_irr cmpC_trans (hp.trans ((List.perm_append_singleton c l).trans (insCand_perm c l).symm)) hs (insCand_ok h hn)
/-- A candidate is offered. -/
def offerAll (P : List Cand) (c : Cand) : List Cand := insCand c (dropC P c.key)
def offerC (most : Nat) (P : List Cand) (c : Cand) : List Cand := (offerAll P c).take most
theorem offerAll_ok {P : List Cand} (h : PoolOk P) (c : Cand) : PoolOk (offerAll P c) := insCand_good (h.drop _) fun _ hx => (mem_dropC.1 hx).2
theorem offerC_ok {P : List Cand} (h : PoolOk P) (most : Nat) (c : Cand) : PoolOk (offerC most P c) := (offerAll_ok h c).sublist (List.take_sublist _ _)
theorem offerAll_length (P : List Cand) (c : Cand) : (offerAll P c).length ≤ P.length + 1 := by
  rw [offerAll, (insCand_perm _ _).length_eq, List.length_cons]
  exact Nat.succ_le_succ (List.length_filter_le _ _)
theorem offerC_length (most : Nat) (P : List Cand) (c : Cand) : (offerC most P c).length ≤ most := by rw [offerC, List.length_take]; omega
theorem offerC_ne {most : Nat} (h : 0 < most) (P : List Cand) (c : Cand) : offerC most P c ≠ [] := by
  intro e
  have h1 := congrArg List.length e
  rw [offerC, List.length_take, offerAll, (insCand_perm _ _).length_eq, List.length_cons, List.length_nil] at h1
  omega
theorem mem_offerC {most : Nat} {P : List Cand} {c x : Cand} (h : x ∈ offerC most P c) : x = c ∨ (x ∈ P ∧ x.key ≠ c.key) := by
  have h1 := (insCand_perm _ _).subset ((List.take_sublist _ _).subset h)
  rcases List.mem_cons.1 h1 with e | e
  · exact .inl e
  · exact .inr (mem_dropC.1 e)
end Pantry

/- A pool in memory; the closure of Drop, slices.IndexFunc. -/
set_option linter.unusedVariables false
set_option linter.unusedSimpArgs false
namespace Go.Proofs.YtelbmphmihjgfaaGreat.DEnt
open Go.RowKit Pantry Go.Maps Go.Sort

def candC (c : Cand) : List Value := [.string ⟨c.key.toArray⟩, .int .u64 c.rank]
theorem candC_len (c : Cand) : (candC c).length = 2 := rfl
theorem candC_one (c : Cand) : ∀ u ∈ candC c, u.oneCell' = true := by intro u hu; simp [candC] at hu; rcases hu with rfl | rfl <;> rfl
theorem candsC_one (P : List Cand) : ∀ u ∈ P.flatMap candC, u.oneCell' = true := fun u hu => by
  obtain ⟨c, -, hc⟩ := List.mem_flatMap.1 hu
  exact candC_one c u hc
theorem candsC_len (P : List Cand) : (P.flatMap candC).length = P.length * 2 := flatM_length candC_len P
theorem candsC_get {P : List Cand} {j : Nat} {c : Cand} (h : P[j]? = some c) : (P.flatMap candC)[j * 2]? = some (.string ⟨c.key.toArray⟩) ∧ (P.flatMap candC)[j * 2 + 1]? = some (.int .u64 c.rank) := by
  have hj : j < P.length := (List.getElem?_eq_some_iff.1 h).1
  have hc : P[j]! = c := by rw [List.getElem!_eq_getElem?_getD, h]; rfl
  have h0 := flatM_get (enc := candC) (k := 2) (by omega) candC_len P (j * 2) (by omega)
  have h1 := flatM_get (enc := candC) (k := 2) (by omega) candC_len P (j * 2 + 1) (by omega)
  rw [show j * 2 / 2 = j by omega, show j * 2 % 2 = 0 by omega, hc] at h0
  rw [show (j * 2 + 1) / 2 = j by omega, show (j * 2 + 1) % 2 = 1 by omega, hc] at h1
  exact ⟨h0, h1⟩
theorem candsC_take (P : List Cand) (j : Nat) : (P.take j).flatMap candC = (P.flatMap candC).take (j * 2) := by
  induction P generalizing j with
  | nil => simp
  | cons c P ih =>
    cases j with
    | zero => simp
    | succ j =>
      rw [List.take_succ_cons, List.flatMap_cons, List.flatMap_cons, ih, List.take_append, candC_len]
      rw [show (j + 1) * 2 - 2 = j * 2 by omega, List.take_of_length_le (l := candC c) (by rw [candC_len]; omega)]
theorem candI : ElemT Tryz.prog 43 50 2 24 (.agg #[.string ⟨#[]⟩, .int .u64 0]) := ⟨Tryz.underlying43, by kernel_rfl, rfl, by omega, by omega⟩
/-- A pool of so many. -/
structure PlAt (w : World) (p most : Nat) (v : Value) (P : List Cand) : Prop where
  head : w.heap[p]? = some (.cells #[.int .i64 most, v] 77)
  row : w.ownsRow 0 50 2 v P.length (P.flatMap candC)
  ok : PoolOk P
  room : 1 ≤ most ∧ most ≤ 16
  len : P.length ≤ most
def PlF (p : Nat) (v : Value) (k : Nat) : Prop := k = p ∨ v.ownBlock = some k
structure PlH (w : World) (p : Nat) (G : Nat → Prop) (most : Nat) (P : List Cand) : Prop where
  ex : ∃ v, PlAt w p most v P ∧ ∀ k, G k ↔ PlF p v k
structure PlTo (p : Nat) (G : Nat → Prop) (most : Nat) (P' : List Cand) (w w' : World) : Prop where
  ex : ∃ G', PlH w' p G' most P' ∧ ∀ k, G' k → G k ∨ w.heap.size ≤ k
  chg : Chg G w w'
theorem PlAt.blocks {w : World} {p most : Nat} {v : Value} {P : List Cand} (h : PlAt w p most v P) {k : Nat} (hk : PlF p v k) : ∃ c t, w.heap[k]? = some (.cells c t) ∧ (t = 77 ∨ t = 50) := by
  rcases hk with rfl | hk
  · exact ⟨_, _, h.head, .inl rfl⟩
  · obtain ⟨c, hc, -⟩ := ownsRow_cells h.row hk
    exact ⟨c, _, hc, .inr rfl⟩
theorem PlH.not_foot {w : World} {p : Nat} {G : Nat → Prop} {most : Nat} {P : List Cand} (h : PlH w p G most P) {k : Nat} {c : Array Value} {t : TypeId} (hk : w.heap[k]? = some (.cells c t)) (ht : t ≠ 77 ∧ t ≠ 50) : ¬ G k := by
  obtain ⟨v, h1, h2⟩ := h.ex
  intro hg
  obtain ⟨c', t', h3, h4⟩ := h1.blocks ((h2 k).1 hg)
  rcases h4 with rfl | rfl
  · exact types_ne hk h3 ht.1 rfl
  · exact types_ne hk h3 ht.2 rfl
theorem PlH.keep {w w' : World} {p : Nat} {G : Nat → Prop} {most : Nat} {P : List Cand} (h : PlH w p G most P) {S : Nat → Prop} (hc : Chg S w w') (hS : ∀ k, G k → ¬ S k) : PlH w' p G most P := by
  obtain ⟨v, h1, h2⟩ := h.ex
  exact ⟨v, ⟨hc.heap h1.head (hS p ((h2 p).2 (.inl rfl))), Chg.ownsRow h1.row hc fun k hk => hS k ((h2 k).2 (.inr hk)), h1.ok, h1.room, h1.len⟩, h2⟩
theorem PlH.below {w w' : World} {p : Nat} {G : Nat → Prop} {most : Nat} {P : List Cand} (h : PlH w p G most P) (hb : Below w.heap.size w w') : PlH w' p G most P := h.keep (S := fun _ => False) (Chg.of_below hb) fun _ _ e => e
theorem PlH.lt {w : World} {p : Nat} {G : Nat → Prop} {most : Nat} {P : List Cand} (h : PlH w p G most P) {k : Nat} (hk : G k) : k < w.heap.size := by
  obtain ⟨v, h1, h2⟩ := h.ex
  obtain ⟨c, t, h3, -⟩ := h1.blocks ((h2 k).1 hk)
  exact block_lt h3
theorem PlTo.pre {w A w' : World} {p : Nat} {G : Nat → Prop} {most : Nat} {P : List Cand} (hb : Below w.heap.size w A) (h : PlTo p G most P A w') : PlTo p G most P w w' := by
  obtain ⟨⟨G', h1, h2⟩, hc⟩ := h
  exact ⟨⟨G', h1, fun k hk => (h2 k hk).imp id (Nat.le_trans hb.size)⟩, (Chg.of_below (S := G) hb).trans hc fun j _ e => e⟩

theorem drop1_any (W : World) (c : Cand) (kb : Nat) (key : List UInt8) (hk : W.cell? ⟨kb, 0, none⟩ = some (.string ⟨key.toArray⟩)) (hkb : kb < W.heap.size) :
    Calls Tryz.prog 90 #[.agg (candC c).toArray, .pointer (some ⟨kb, 0, none⟩)] W fun e w' => e = .returned (.bool (c.key == key)) ∧ Below W.heap.size W w' := by
  obtain ⟨ck, cr⟩ := c
  have hk2 : (W.alloc (.cells #[.string ⟨ck.toArray⟩, .int .u64 cr] 50)).cell? ⟨kb, 0, none⟩ = some (.string ⟨key.toArray⟩) := (((Below.refl W.heap.size W).alloc (Nat.le_refl _) _).cell (p := ⟨kb, 0, none⟩) hkb).trans hk
  simp only [candC]
  go_enter Tryz.func90, Tryz.ntmps90
  go_wp2_with fail
  go_ret
  exact ⟨by simp, (Below.refl W.heap.size W).alloc (Nat.le_refl _) _⟩
/-- Where the first of a key stands. -/
def IdxC (P : List Cand) (key : List UInt8) (w : World) (r : Ending) (w' : World) : Prop :=
  ((r = .returned (.int .i64 (-1)) ∧ ∀ c ∈ P, c.key ≠ key) ∨ ∃ (k : Nat) (c : Cand), r = .returned (.int .i64 k) ∧ P[k]? = some c ∧ c.key = key) ∧ Below w.heap.size w w'
set_option maxHeartbeats 2000000 in
theorem idxF_any (w : World) (v : Value) (P : List Cand) (kb : Nat) (key : List UInt8) (hk : w.cell? ⟨kb, 0, none⟩ = some (.string ⟨key.toArray⟩)) (hkb : kb < w.heap.size) (hrow : w.ownsRow 0 50 2 v P.length (P.flatMap candC)) (hl : P.length ≤ 1024) :
    Calls Tryz.prog 124 #[v, .func (.func 90) #[] #[.pointer (some ⟨kb, 0, none⟩)]] w (IdxC P key w) := by
  obtain ⟨a0, c0, hv, -⟩ := ownsRow_rd hrow (candsC_one P)
  subst hv
  obtain ⟨m, hm⟩ : ∃ m, P.length = m := ⟨_, rfl⟩
  rw [hm] at hrow hl ⊢
  have HR := Lib.hid hrow
  have HM := Lib.hid hm
  have HK := Lib.hid hk
  clear hrow hm hk
  go_enter Tryz.func124, Tryz.ntmps124
  go_wp2_with fail
  go_loopw [8] (fun i wr => ∃ k : Nat, k ≤ m ∧ i = .int .i64 k ∧ Below w.heap.size w wr ∧ Hid (∀ c ∈ P.take k, c.key ≠ key)) (fun i _ => m - (intOf i).toNat)
  case atStart => exact ⟨0, Nat.zero_le _, rfl, Below.refl _ _, Lib.hid (by simp)⟩
  case round =>
    obtain ⟨k, hk, rfl, hB, HO⟩ := hrel
    by_cases hlt : k < m
    · obtain ⟨c, hc⟩ : ∃ c, P[k]? = some c := ⟨_, List.getElem?_eq_getElem (by rw [HM.out]; exact hlt)⟩
      obtain ⟨sb, hsb, e0, e1⟩ : ∃ sb, a0 = some ⟨sb, 0, none⟩ ∧ wr.cell? ⟨sb, k * 2, none⟩ = some (.string ⟨c.key.toArray⟩) ∧ wr.cell? ⟨sb, k * 2 + 1, none⟩ = some (.int .u64 c.rank) := by
        rcases HR.out.2 with ⟨_, h0⟩ | ⟨sb, cap, cur, hv, _, hg, _, _, _, htk⟩
        · omega
        · injection hv with e1 e2 e3
          subst e1
          have hblt := block_lt hg
          obtain ⟨q0, q1⟩ := candsC_get hc
          have g0 := HR.out.cells (g := sb) rfl _ _ q0
          have g1 := HR.out.cells (g := sb) rfl _ _ q1
          rw [Addr.add_base] at g0 g1
          exact ⟨sb, rfl, (hB.cell (p := ⟨sb, k * 2, none⟩) hblt).trans g0, (hB.cell (p := ⟨sb, k * 2 + 1, none⟩) hblt).trans g1⟩
      subst hsb
      have HE := Lib.hid (drop1_any wr c kb key ((hB.cell (p := ⟨kb, 0, none⟩) hkb).trans HK.out) (Nat.lt_of_lt_of_le hkb hB.size))
      have HC := Lib.hid hc
      have HB := Lib.hid hB
      obtain ⟨b, hb⟩ : ∃ b, (c.key == key) = b := ⟨_, rfl⟩
      rw [hb] at HE
      have HBB := Lib.hid hb
      simp only [candC] at HE
      clear hc hb hB
      cases b
      · go_wp2_with (refine HE.out.mono ?_; rintro e w' ⟨rfl, hb2⟩)
        go_roundw
        case rel => exact ⟨k + 1, by omega, by go_num, HB.out.trans (hb2.mono HB.out.size), Lib.hid (by
          intro x hx
          rw [List.take_add_one, HC.out] at hx
          rcases List.mem_append.1 hx with hx | hx
          · exact HO.out x hx
          · have : x = c := by simpa using hx
            subst this
            have := HBB.out
            simpa using this)⟩
        case measure => simp [intOf]; omega
      · go_wp2_with (refine HE.out.mono ?_; rintro e w' ⟨rfl, hb2⟩)
        go_ret
        exact ⟨.inr ⟨k, c, rfl, HC.out, by simpa using HBB.out⟩, HB.out.trans (hb2.mono HB.out.size)⟩
    · obtain rfl : k = m := by omega
      have HB := Lib.hid hB
      clear hB
      go_wp2_with fail
      go_ret
      refine ⟨.inl ⟨rfl, ?_⟩, HB.out⟩
      have h := HO.out
      rw [List.take_of_length_le (by rw [HM.out]; exact Nat.le_refl _)] at h
      exact h
end Go.Proofs.YtelbmphmihjgfaaGreat.DEnt

/- slices.DeleteFunc at a pool's row: one key. -/
set_option linter.unusedVariables false
set_option linter.unusedSimpArgs false
namespace Pantry
theorem dropC_none {P : List Cand} {key : List UInt8} (h : ∀ c ∈ P, c.key ≠ key) : dropC P key = P := by
  unfold dropC
  rw [List.filter_eq_self]
  intro c hc
  simpa using h c hc
theorem dropC_at {P : List Cand} {key : List UInt8} (hP : (P.map (·.key)).Nodup) {k : Nat} {c : Cand} (hc : P[k]? = some c) (hk : c.key = key) : dropC P key = P.take k ++ P.drop (k + 1) ∧ ∀ j x, j ≠ k → P[j]? = some x → x.key ≠ key := by
  have hu : ∀ j x, j ≠ k → P[j]? = some x → x.key ≠ key := by
    intro j x hj hx e
    have h1 : (P.map (·.key))[j]? = some key := by rw [List.getElem?_map, hx]; simp [e]
    have h2 : (P.map (·.key))[k]? = some key := by rw [List.getElem?_map, hc]; simp [hk]
    obtain ⟨a1, b1⟩ := List.getElem?_eq_some_iff.1 h1
    obtain ⟨a2, b2⟩ := List.getElem?_eq_some_iff.1 h2
    have hp := List.pairwise_iff_getElem.1 hP
    rcases Nat.lt_trichotomy j k with h | h | h
    · exact hp j k a1 a2 h (b1.trans b2.symm)
    · exact hj h
    · exact hp k j a2 a1 h (b2.trans b1.symm)
  refine ⟨?_, hu⟩
  have hl := (List.getElem?_eq_some_iff.1 hc).1
  have e0 : P = P.take k ++ c :: P.drop (k + 1) := by
    have h1 := List.take_append_drop k P
    rw [List.drop_eq_getElem_cons hl] at h1
    rw [(List.getElem?_eq_some_iff.1 hc).2] at h1
    exact h1.symm
  conv => lhs; rw [e0]
  unfold dropC
  rw [List.filter_append, List.filter_cons_of_neg (by simp [hk])]
  congr 1
  · rw [List.filter_eq_self]
    intro x hx
    obtain ⟨j, hj⟩ := List.mem_iff_getElem?.1 hx
    rw [List.getElem?_take] at hj
    split at hj
    · simpa using hu j x (by omega) hj
    · cases hj
  · rw [List.filter_eq_self]
    intro x hx
    obtain ⟨j, hj⟩ := List.mem_iff_getElem?.1 hx
    rw [List.getElem?_drop] at hj
    simpa using hu _ x (by omega) hj
theorem cut_get {P : List Cand} {k i : Nat} (hk : k ≤ i) (hl : k ≤ P.length) : (P.take k ++ P.drop (k + 1))[i]? = P[i + 1]? := by
  rw [List.getElem?_append_right (by rw [List.length_take]; omega), List.getElem?_drop, List.length_take]
  congr 1; omega
theorem cut_low {P : List Cand} {k i : Nat} (hk : i < k) (hl : k ≤ P.length) : (P.take k ++ P.drop (k + 1))[i]? = P[i]? := by
  rw [List.getElem?_append_left (by rw [List.length_take]; omega), List.getElem?_take, if_pos hk]
end Pantry
namespace Go.Proofs.YtelbmphmihjgfaaGreat.DEnt
open Go.RowKit Pantry Go.Maps Go.Sort

def GoneC (P : List Cand) (key : List UInt8) (v : Value) (w : World) (e : Ending) (w' : World) : Prop :=
  ∃ v', e = .returned v' ∧ w'.ownsRow 0 50 2 v' (dropC P key).length ((dropC P key).flatMap candC) ∧ Chg (fun q => v.ownBlock = some q) w w' ∧ ∀ q, v'.ownBlock = some q → v.ownBlock = some q
theorem elZeroC (w : World) : (zeroValue 50).run Tryz.prog w = .ok (.agg #[.string ⟨#[]⟩, .int .u64 0]) w := by kernel_rfl
def zC : List Value := [.string ⟨#[]⟩, .int .u64 0]
theorem run_clear_c (w : World) (ty : TypeId) (g o c : Nat) (cur : List Value) (hg : w.heap[g]? = some (.cells cur.toArray 50)) (hfit : o + 2 ≤ cur.length) :
    (Builtin.clear_ #[43] ty #[.slice (some ⟨g, o, none⟩) 1 c]).run Tryz.prog w = .ok (.tuple #[]) (w.setRow g (splice cur o zC).toArray) := by
  have hz := elZeroC w
  have hst := run_storeCells_at Tryz.prog g o 50 zC 0 cur.toArray w hg (by simpa [zC] using hfit) (by simp [zC, Value.oneCell'])
  have hzc : (Builtin.zeroCells (Value.agg #[.string ⟨#[]⟩, .int .u64 0]).cells 1).toList = zC := by
    rw [show (Value.agg #[.string ⟨#[]⟩, .int .u64 0]).cells = #[.string ⟨#[]⟩, .int .u64 0] from rfl]
    apply List.ext_getElem?
    intro j
    match j with
    | 0 => simp [Builtin.zeroCells, zC]
    | 1 => simp [Builtin.zeroCells, zC]
    | j + 2 => simp [Builtin.zeroCells, zC]
  simp [Builtin.clear_, run_underlying Tryz.underlying43, hz, hzc, hst, splice]
/-- What holds within the loop. -/
structure SwC (sb cap m : Nat) (P Q : List Cand) (w wr : World) (i : Nat) (cur : List Value) : Prop where
  here : wr.heap[sb]? = some (.cells cur.toArray 50)
  size : cur.length = cap * 2
  got : ∀ q, q < i * 2 → cur[q]? = (Q.flatMap candC)[q]?
  rest : ∀ q, (i + 1) * 2 ≤ q → q < m * 2 → cur[q]? = (P.flatMap candC)[q]?
  chg : Chg (fun q => q = sb) w wr
theorem SwC.step {sb cap m : Nat} {P Q : List Cand} {w wr : World} {i : Nat} {cur : List Value} (h : SwC sb cap m P Q w wr i cur) {c : Cand} (hc : Q[i]? = some c) (hm : m ≤ cap) (him : i + 1 < m) {W : World} (hb : Below wr.heap.size wr W) :
    SwC sb cap m P Q w ((W.setCell ⟨sb, i * 2, none⟩ (.string ⟨c.key.toArray⟩)).setCell ⟨sb, i * 2 + 1, none⟩ (.int .u64 c.rank)) (i + 1) ((cur.set (i * 2) (.string ⟨c.key.toArray⟩)).set (i * 2 + 1) (.int .u64 c.rank)) := by
  have hW : W.heap[sb]? = some (.cells cur.toArray 50) := (hb.block sb (block_lt h.here)).trans h.here
  have h1 := heapSetHere (j := i * 2) hW (.string ⟨c.key.toArray⟩)
  have h2 := heapSetHere (j := i * 2 + 1) h1 (.int .u64 c.rank)
  have hs := h.size
  obtain ⟨q0, q1⟩ := candsC_get hc
  refine ⟨by rw [h2]; simp, by simp [hs], fun q hq => ?_, fun q hq1 hq2 => ?_, ?_⟩
  · by_cases e1 : q = i * 2 + 1
    · subst e1
      rw [List.getElem?_set_self (by simp; omega)]; exact q1.symm
    · rw [List.getElem?_set_ne (by omega)]
      by_cases e2 : q = i * 2
      · subst e2
        rw [List.getElem?_set_self (by omega)]; exact q0.symm
      · rw [List.getElem?_set_ne (by omega)]
        exact h.got q (by omega)
  · rw [List.getElem?_set_ne (by omega), List.getElem?_set_ne (by omega)]
    exact h.rest q (by omega) hq2
  · exact (((h.chg.trans (T := fun _ => False) (Chg.of_below hb) fun _ _ e => e.elim).setCell (p := ⟨sb, i * 2, none⟩) (fun _ => rfl) _).setCell (p := ⟨sb, i * 2 + 1, none⟩) (fun _ => rfl) _)
set_option maxHeartbeats 4000000 in
set_option maxRecDepth 100000 in
theorem delF_any (w : World) (v : Value) (P : List Cand) (kb : Nat) (key : List UInt8) (hk : w.heap[kb]? = some (.cells #[.string ⟨key.toArray⟩] 9)) (hrow : w.ownsRow 0 50 2 v P.length (P.flatMap candC)) (hl : P.length ≤ 1024) (hP : PoolOk P) :
    Calls Tryz.prog 89 #[v, .func (.func 90) #[] #[.pointer (some ⟨kb, 0, none⟩)]] w (GoneC P key v w) := by
  have hkb := block_lt hk
  have hkc : w.cell? ⟨kb, 0, none⟩ = some (.string ⟨key.toArray⟩) := cell_of_row w kb 0 _ _ _ hk
  have hi := idxF_any w v P kb key hkc hkb hrow hl
  have hcl := candsC_len P
  by_cases hall : ∀ c ∈ P, c.key ≠ key
  · have HI := Lib.hid (hi.mono (R' := fun e w' => e = .returned (.int .i64 (-1)) ∧ Below w.heap.size w w') (by
      rintro e w' ⟨⟨rfl, -⟩ | ⟨k, c, -, h1, h2⟩, hb⟩
      · exact ⟨rfl, hb⟩
      · exact absurd h2 (hall c (List.mem_of_getElem? h1))))
    have HEND := Lib.hid (show ∀ w', Below w.heap.size w w' → GoneC P key v w (.returned v) w' from fun w' hb => ⟨v, rfl, by rw [dropC_none hall]; exact ownsRow_belowAll hrow hb, Chg.of_below hb, fun q h => h⟩)
    obtain ⟨a0, c0, hv, -⟩ := ownsRow_rd hrow (candsC_one P)
    subst hv
    clear hi hall hrow hk hkc
    obtain ⟨m, hm⟩ : ∃ m, P.length = m := ⟨_, rfl⟩
    rw [hm] at HI HEND ⊢
    clear hm hcl
    go_enter Tryz.func89, Tryz.ntmps89
    go_wp2_with (refine HI.out.mono ?_; rintro e w' ⟨rfl, hb2⟩; have HB2 := Lib.hid hb2; clear hb2)
    go_ret
    exact HEND.out _ HB2.out
  · obtain ⟨c0, hc0, hck0⟩ : ∃ c ∈ P, c.key = key := by
      apply Classical.byContradiction
      intro hno
      exact hall fun c hc e => hno ⟨c, hc, e⟩
    obtain ⟨k, hk1⟩ := List.mem_iff_getElem?.1 hc0
    have hkl := (List.getElem?_eq_some_iff.1 hk1).1
    obtain ⟨hQ, hne⟩ := dropC_at hP.keys hk1 hck0
    have HI := Lib.hid (hi.mono (R' := fun e w' => e = .returned (.int .i64 k) ∧ Below w.heap.size w w') (by
      rintro e w' ⟨⟨rfl, h⟩ | ⟨l, c, rfl, h1, h2⟩, hb⟩
      · exact absurd h hall
      · obtain rfl : l = k := by
          apply Classical.byContradiction
          intro hlk
          exact hne l c hlk h1 h2
        exact ⟨rfl, hb⟩))
    rcases hrow.2 with ⟨_, h0⟩ | ⟨sb, cap, cur, rfl, hbg, hg, hnc, hcm, hcs, htake⟩
    · omega
    · have hsl : cur.toList.length = cap * 2 := by simpa using hcs
      have hskb : sb ≠ kb := types_ne hg hk (by decide)
      have hQl : (dropC P key).length + 1 = P.length := by rw [hQ, List.length_append, List.length_take, List.length_drop]; omega
      obtain ⟨Q, hQe⟩ : ∃ Q, dropC P key = Q := ⟨_, rfl⟩
      have hQlow : ∀ q, q < k * 2 → (Q.flatMap candC)[q]? = (P.flatMap candC)[q]? := fun q hq => by
        rw [← hQe, hQ, List.flatMap_append, List.getElem?_append_left (by rw [candsC_len, List.length_take]; omega), candsC_take, List.getElem?_take, if_pos hq]
      have hQat : ∀ i, k ≤ i → Q[i]? = P[i + 1]? := fun i hi => by rw [← hQe, hQ]; exact cut_get hi (by omega)
      rw [hQe] at hQl
      have hcell : ∀ q, q < P.length * 2 → cur.toList[q]? = (P.flatMap candC)[q]? := fun q hq => by
        rw [← htake, List.getElem?_take, if_pos hq]
      obtain ⟨m, hm⟩ : ∃ m, P.length = m := ⟨_, rfl⟩
      have HS0 : Hid (∀ w', Below w.heap.size w w' → SwC sb cap m P Q w w' k cur.toList) := Lib.hid fun w' hb => by
        refine ⟨(hb.block sb (block_lt hg)).trans (by simpa using hg), hsl, fun q hq => ?_, fun q hq1 hq2 => ?_, Chg.of_below hb⟩
        · rw [hcell q (by omega)]; exact (hQlow q hq).symm
        · exact hcell q (by rw [hm]; exact hq2)
      have HKE : Hid (∀ (j : Nat) x, j ≠ k → P[j]? = some x → x.key ≠ key) := Lib.hid fun j x hj hx => hne j x hj hx
      have HQA := Lib.hid hQat
      have HM := Lib.hid hm
      have HQE := Lib.hid hQe
      have HKH := Lib.hid hk
      have HQL := Lib.hid hQl
      have HSK := Lib.hid hskb
      rw [hm] at HI hkl hl hnc ⊢
      have hke : ((k : Int) == -1) = false := by rw [beq_eq_false_iff_ne]; omega
      clear hi hall hrow hP hk hkc hkb hc0 hck0 hk1 hQ hne hQlow hQat hcell hg hcs htake hcl hm hQe hQl hsl hskb
      unfold maxLen at hcm
      go_enter Tryz.func89, Tryz.ntmps89
      go_wp2_with (refine HI.out.mono ?_; rintro e w' ⟨rfl, hb2⟩; have HB2 := Lib.hid (HS0.out _ hb2); clear hb2)
      go_loopw [5, 6] (fun a b wr => ∃ i : Nat, k ≤ i ∧ i + 1 ≤ m ∧ a = .int .i64 i ∧ b = .int .i64 ((i : Int) + 1) ∧ ∃ cur, Hid (SwC sb cap m P Q w wr i cur)) (fun _ b _ => m - (intOf b).toNat)
      case atStart => exact ⟨k, Nat.le_refl _, by omega, rfl, rfl, _, HB2⟩
      case round =>
        obtain ⟨i, hki, him, rfl, rfl, cur2, HV⟩ := hrel
        have hz1 : IntKind.i64.wrap ((i : Int) + 1) = (i : Int) + 1 := by rw [IntKind.wrap_i64]; omega
        by_cases hlt : i + 1 < m
        · obtain ⟨c, hc⟩ : ∃ c, P[i + 1]? = some c := ⟨_, List.getElem?_eq_getElem (by rw [HM.out]; exact hlt)⟩
          obtain ⟨q0, q1⟩ := candsC_get hc
          have hlt2 : (i : Int) + 1 < (m : Int) := by omega
          have htn : ((i : Int) + 1).toNat = i + 1 := by omega
          have hcA : wr.cell? ⟨sb, (i + 1) * 2, none⟩ = some (.string ⟨c.key.toArray⟩) := by
            rw [cell_of_row wr sb _ _ _ _ HV.out.here, ← Array.getElem?_toList]
            show cur2[(i + 1) * 2]? = _
            rw [HV.out.rest _ (Nat.le_refl _) (by omega), q0]
          have hcB : wr.cell? ⟨sb, (i + 1) * 2 + 1, none⟩ = some (.int .u64 c.rank) := by
            rw [cell_of_row wr sb _ _ _ _ HV.out.here, ← Array.getElem?_toList]
            show cur2[(i + 1) * 2 + 1]? = _
            rw [HV.out.rest _ (by omega) (by omega), q1]
          have hck : c.key ≠ key := HKE.out (i + 1) c (by omega) hc
          have hckb : (c.key == key) = false := by simpa using hck
          have HKB : Hid (wr.heap[kb]? = some (.cells #[.string ⟨key.toArray⟩] 9)) := Lib.hid (HV.out.chg.heap HKH.out fun e => HSK.out e.symm)
          have hQc : Q[i]? = some c := (HQA.out i hki).trans hc
          have HST : Hid (∀ W, Below wr.heap.size wr W → SwC sb cap m P Q w ((W.setCell ⟨sb, i * 2, none⟩ (.string ⟨c.key.toArray⟩)).setCell ⟨sb, i * 2 + 1, none⟩ (.int .u64 c.rank)) (i + 1) ((cur2.set (i * 2) (.string ⟨c.key.toArray⟩)).set (i * 2 + 1) (.int .u64 c.rank))) := Lib.hid fun W hb => HV.out.step hQc hnc hlt hb
          have HWC : Hid (∀ W, Below wr.heap.size wr W → (∃ u, W.cell? ⟨sb, i * 2, none⟩ = some u) ∧ (∃ u, W.cell? ⟨sb, i * 2 + 1, none⟩ = some u) ∧ W.frozen? ⟨sb, i * 2, none⟩ = false ∧ W.frozen? ⟨sb, i * 2 + 1, none⟩ = false) := Lib.hid fun W hb => by
            have hW : W.heap[sb]? = some (.cells cur2.toArray 50) := (hb.block sb (block_lt HV.out.here)).trans HV.out.here
            have hsz := HV.out.size
            refine ⟨⟨_, (cell_of_row W sb _ _ _ _ hW).trans (Array.getElem?_eq_getElem (by simp; omega))⟩, ⟨_, (cell_of_row W sb _ _ _ _ hW).trans (Array.getElem?_eq_getElem (by simp; omega))⟩, frozen_of_row W sb _ _ _ hW, frozen_of_row W sb _ _ _ hW⟩
          have hkw : kb < wr.heap.size := block_lt HKB.out
          have HE : Hid (Calls Tryz.prog 90 #[.agg #[.string ⟨c.key.toArray⟩, .int .u64 c.rank], .pointer (some ⟨kb, 0, none⟩)] (wr.alloc (.cells #[.string ⟨c.key.toArray⟩, .int .u64 c.rank] 50)) fun e w' => e = .returned (.bool false) ∧ Below (wr.heap.size + 1) (wr.alloc (.cells #[.string ⟨c.key.toArray⟩, .int .u64 c.rank] 50)) w') := Lib.hid (by
            have := drop1_any (wr.alloc (.cells #[.string ⟨c.key.toArray⟩, .int .u64 c.rank] 50)) c kb key ((((Below.refl wr.heap.size wr).alloc (Nat.le_refl _) _).cell (p := ⟨kb, 0, none⟩) hkw).trans (cell_of_row wr kb 0 _ _ _ HKB.out)) (by simp; omega)
            rw [hckb] at this
            simpa [candC] using this)
          have HNB : Hid (∀ W, Below (wr.heap.size + 1) (wr.alloc (.cells #[.string ⟨c.key.toArray⟩, .int .u64 c.rank] 50)) W → Below wr.heap.size wr W ∧ W.cell? ⟨wr.heap.size, 0, none⟩ = some (.string ⟨c.key.toArray⟩) ∧ W.cell? ⟨wr.heap.size, 1, none⟩ = some (.int .u64 c.rank)) := Lib.hid fun W hb => by
            have hn := heap_alloc_new wr (.cells #[.string ⟨c.key.toArray⟩, .int .u64 c.rank] 50)
            exact ⟨((Below.refl wr.heap.size wr).alloc (Nat.le_refl _) _).trans (hb.mono (Nat.le_succ _)), (hb.cell (p := ⟨wr.heap.size, 0, none⟩) (Nat.lt_succ_self _)).trans (cell_of_row _ _ 0 _ _ _ hn), (hb.cell (p := ⟨wr.heap.size, 1, none⟩) (Nat.lt_succ_self _)).trans (cell_of_row _ _ 1 _ _ _ hn)⟩
          clear hc q0 q1 hck hckb hQc
          go_wp2_with (refine HE.out.mono ?_; rintro e w' ⟨rfl, hb2⟩
                       obtain ⟨nb, n0, n1⟩ := HNB.out _ hb2
                       obtain ⟨⟨x0, y0⟩, ⟨x1, y1⟩, y2, y3⟩ := HWC.out _ nb
                       have HN := Lib.hid (HST.out _ nb)
                       clear hb2 nb)
          go_roundw
          case rel => exact ⟨i + 1, by omega, by omega, by go_num, by go_num, _, HN⟩
          case measure => simp [intOf]; omega
        · obtain rfl : m = i + 1 := by omega
          have hclr : ∀ ty c, (Builtin.clear_ #[43] ty #[.slice (some ⟨sb, i * 2, none⟩) 1 c]).run Tryz.prog wr = .ok (.tuple #[]) (wr.setRow sb (splice cur2 (i * 2) zC).toArray) := fun ty c =>
            run_clear_c wr ty sb (i * 2) c _ HV.out.here (by rw [HV.out.size]; omega)
          have HEND : Hid (GoneC P key (.slice (some ⟨sb, 0, none⟩) (i + 1) cap) w (.returned (.slice (some ⟨sb, 0, none⟩) i cap)) (wr.setRow sb (splice cur2 (i * 2) zC).toArray)) := Lib.hid (by
            have hql := HQL.out
            have hsz := HV.out.size
            have hsl : (splice cur2 (i * 2) zC).length = cap * 2 := by rw [length_splice _ _ _ (by simp [zC]; omega), hsz]
            rw [HM.out] at hql
            have hqi : Q.length = i := by omega
            refine ⟨_, rfl, ?_, ?_, fun q hq => hq⟩
            · rw [HQE.out, hqi]
              refine ⟨by rw [candsC_len, hqi], .inr ⟨sb, cap, _, rfl, Nat.zero_le _, setRow_heap wr sb _ _ _ _ HV.out.here, by omega, by unfold maxLen; omega, ?_, ?_⟩⟩
              · rw [List.size_toArray, hsl]
              · apply List.ext_getElem?
                intro q
                rw [List.getElem?_take]
                split
                · rename_i hq
                  show (splice cur2 (i * 2) zC)[q]? = _
                  unfold splice
                  rw [List.getElem?_append_left (by rw [List.length_take]; omega), List.getElem?_take, if_pos hq]
                  exact HV.out.got q hq
                · rename_i hq
                  rw [List.getElem?_eq_none (by rw [candsC_len, hqi]; omega)]
            · exact (HV.out.chg.setRow (fun _ => rfl) _).mono (fun q _ e => by subst e; rfl))
          have hb4 : ¬ (cap = i) := by omega
          clear hke
          go_wp2_with (refine wpl_clear_run _ rfl _ 43 rfl _ rfl (hclr _ _) ?_)
          go_ret
          exact HEND.out
end Go.Proofs.YtelbmphmihjgfaaGreat.DEnt

/- A pool: New, Drop, Take, Candidates. -/
set_option linter.unusedVariables false
set_option linter.unusedSimpArgs false
namespace Go.Proofs.YtelbmphmihjgfaaGreat.DEnt
open Go.RowKit Pantry Go.Maps Go.Sort

theorem two_cells {w : World} {g : Nat} {c0 c1 : Value} {t : TypeId} (h : w.heap[g]? = some (.cells #[c0, c1] t)) : w.cell? ⟨g, 0, none⟩ = some c0 ∧ w.cell? ⟨g, 1, none⟩ = some c1 ∧ ∀ j, w.frozen? ⟨g, j, none⟩ = false :=
  ⟨cell_of_row w g 0 _ _ _ h, cell_of_row w g 1 _ _ _ h, fun j => frozen_of_row w g j _ _ h⟩
/-- The row of a pool has been set to another one. -/
theorem PlH.reset {w w2 : World} {p : Nat} {G : Nat → Prop} {most : Nat} {P Q : List Cand} (h : PlH w p G most P) {v v' : Value} (hv : PlAt w p most v P) (hG : ∀ k, G k ↔ PlF p v k) {S : Nat → Prop} (hc : Chg S w w2) (hS : ∀ k, S k → v.ownBlock = some k)
    (hr : w2.ownsRow 0 50 2 v' Q.length (Q.flatMap candC)) (hb : ∀ q, v'.ownBlock = some q → v.ownBlock = some q ∨ w.heap.size ≤ q) (hQ : PoolOk Q) (hl : Q.length ≤ most) :
    w2.heap[p]? = some (.cells #[.int .i64 most, v] 77) ∧ PlTo p G most Q w (w2.setCell ⟨p, 1, none⟩ v') := by
  have hp2 : w2.heap[p]? = some (.cells #[.int .i64 most, v] 77) := hc.heap hv.head fun e => by
    obtain ⟨c, hcc, -⟩ := ownsRow_cells hv.row (hS p e)
    exact types_ne hcc hv.head (by decide) rfl
  refine ⟨hp2, ⟨_, ⟨v', ⟨by rw [heapSetHere hp2]; rfl, ?_, hQ, hv.room, hl⟩, fun k => Iff.rfl⟩, ?_⟩, ?_⟩
  · refine Chg.ownsRow (S := fun k => k = p) hr (Chg.setCell (S := fun k => k = p) (Chg.refl _ w2) (p := ⟨p, 1, none⟩) (fun _ => rfl) _) fun k hk e => ?_
    subst e
    obtain ⟨c, hcc, -⟩ := ownsRow_cells hr hk
    exact types_ne hcc hp2 (by decide) rfl
  · rintro k (rfl | hk)
    · exact .inl ((hG _).2 (.inl rfl))
    · exact (hb k hk).imp (fun h => (hG k).2 (.inr h)) id
  · exact ((hc.mono (T := G) fun k _ hk => (hG k).2 (.inr (hS k hk))).setCell (p := ⟨p, 1, none⟩) (fun _ => (hG p).2 (.inl rfl)) _)
section
variable {w : World} {p most : Nat} {G : Nat → Prop} {P : List Cand}
set_option maxHeartbeats 1000000 in
theorem pDrop (h : PlH w p G most P) (key : List UInt8) : Calls Tryz.prog 69 #[.pointer (some ⟨p, 0, none⟩), .string ⟨key.toArray⟩] w fun r w' => r = .returned (.bool (decide ((dropC P key).length < P.length))) ∧ PlTo p G most (dropC P key) w w' := by
  obtain ⟨v, h1, h2⟩ := h.ex
  have hlen := h1.len
  have hroom := h1.room
  have hdl : (dropC P key).length ≤ P.length := List.length_filter_le _ _
  obtain ⟨w1, hw1⟩ : ∃ w1, w.alloc (.cells #[.string ⟨key.toArray⟩] 9) = w1 := ⟨_, rfl⟩
  have hb1 : Below w.heap.size w w1 := by rw [← hw1]; exact (Below.refl _ _).alloc (Nat.le_refl _) _
  have hk1 : w1.heap[w.heap.size]? = some (.cells #[.string ⟨key.toArray⟩] 9) := by rw [← hw1]; exact heap_alloc_new w _
  have hr1 : w1.ownsRow 0 50 2 v P.length (P.flatMap candC) := ownsRow_belowAll h1.row hb1
  have hp1 : w1.heap[p]? = some (.cells #[.int .i64 most, v] 77) := (hb1.block p (block_lt h1.head)).trans h1.head
  have HD := Lib.hid (delF_any w1 v P w.heap.size key hk1 hr1 (by omega) h1.ok)
  obtain ⟨-, c1, -⟩ := two_cells hp1
  have HFIN : Hid (∀ w2 v', w2.ownsRow 0 50 2 v' (dropC P key).length ((dropC P key).flatMap candC) → Chg (fun q => v.ownBlock = some q) w1 w2 → (∀ q, v'.ownBlock = some q → v.ownBlock = some q) →
      w2.heap[p]? = some (.cells #[.int .i64 most, v] 77) ∧ PlTo p G most (dropC P key) w (w2.setCell ⟨p, 1, none⟩ v')) := Lib.hid (by
    intro w2 v' hr hc hb
    have hc0 : Chg (fun q => v.ownBlock = some q) w w2 := (Chg.of_below (S := fun q => v.ownBlock = some q) hb1).trans hc fun j _ e => e
    exact h.reset h1 h2 hc0 (fun k e => e) hr (fun q hq => .inl (hb q hq)) (h1.ok.drop key) (by omega))
  obtain ⟨pv, cv, rfl, -⟩ := ownsRow_rd h1.row (candsC_one P)
  obtain ⟨Q, hQ⟩ : ∃ Q, dropC P key = Q := ⟨_, rfl⟩
  rw [hQ] at HFIN hdl ⊢
  unfold GoneC at HD
  rw [hQ] at HD
  obtain ⟨n, hn⟩ : ∃ n, P.length = n := ⟨_, rfl⟩
  obtain ⟨m, hm⟩ : ∃ n, Q.length = n := ⟨_, rfl⟩
  rw [hn] at c1 HD hlen hdl HFIN
  rw [hm] at HFIN HD hdl
  rw [hn, hm]
  clear h h1 h2 hQ hn hm hb1 hk1 hr1 hp1
  subst hw1
  go_enter Tryz.func69, Tryz.ntmps69
  go_wp2_with (go_at_call 89; refine HD.out.mono ?_; rintro e w2 ⟨v', rfl, hr, hc, hb⟩
               obtain ⟨f1, f2⟩ := HFIN.out w2 v' hr hc hb
               obtain ⟨pv', cv', rfl, -⟩ := ownsRow_rd hr (candsC_one Q)
               obtain ⟨-, d1, d2⟩ := two_cells f1
               have d21 := d2 1
               have F2 := Lib.hid f2
               clear hr hc hb f1 f2 d2)
  go_ret
  exact ⟨by simp, F2.out⟩
end
end Go.Proofs.YtelbmphmihjgfaaGreat.DEnt
