/- A pool: Offer. -/
import Derived.Test.YtelbmphmihjgfaaGreatZPlSort
set_option linter.unusedVariables false
set_option linter.unusedSimpArgs false
namespace Go.Proofs.YtelbmphmihjgfaaGreat.DEnt
open Go.RowKit Pantry Go.Maps Go.Sort

attribute [-go_sem] Builtin.append_
def OfferPost (p most : Nat) (G : Nat → Prop) (P : List Cand) (c : Cand) (w : World) (r : Ending) (w' : World) : Prop := (∃ b, r = .returned (.bool b)) ∧ PlTo p G most (offerC most P c) w w'
theorem PlTo.after {w w1 w2 : World} {p most : Nat} {G : Nat → Prop} {P : List Cand} (h : PlTo p G most P w w1) (hb : Below w1.heap.size w1 w2) : PlTo p G most P w w2 := by
  obtain ⟨⟨G', h1, h2⟩, hc⟩ := h
  exact ⟨⟨G', h1.below hb, h2⟩, hc.trans (T := fun _ => False) (Chg.of_below hb) fun _ _ e => e.elim⟩
section
variable {w : World} {p most : Nat} {G : Nat → Prop} {P : List Cand}
set_option maxRecDepth 100000 in
set_option maxHeartbeats 4000000 in
theorem pOffer (h : PlH w p G most P) (c : Cand) : Calls Tryz.prog 68 #[.pointer (some ⟨p, 0, none⟩), .agg #[.string ⟨c.key.toArray⟩, .int .u64 c.rank]] w (OfferPost p most G P c w) := by
  have hmx : Tryz.prog.follows .mixedOrders = true := by kernel_rfl
  obtain ⟨hok, hroom, hlen⟩ : PoolOk P ∧ (1 ≤ most ∧ most ≤ 16) ∧ P.length ≤ most := by
    obtain ⟨v, h1, -⟩ := h.ex
    exact ⟨h1.ok, h1.room, h1.len⟩
  have hnew := (Below.refl w.heap.size w).alloc (Nat.le_refl _) (.cells #[.string ⟨c.key.toArray⟩, .int .u64 c.rank] 50)
  have hbox := heap_alloc_new w (.cells #[.string ⟨c.key.toArray⟩, .int .u64 c.rank] 50)
  have hpw0 : ¬ w.heap.size = p := by
    obtain ⟨v, h1, -⟩ := h.ex
    have := block_lt h1.head
    omega
  have hGn : ¬ G w.heap.size := fun e => Nat.lt_irrefl _ (h.lt e)
  have HD := Lib.hid (pDrop (h.below hnew) c.key)
  have hqn : ∀ x ∈ dropC P c.key, x.key ≠ c.key := fun x hx => (mem_dropC.1 hx).2
  have hql : (dropC P c.key).length ≤ most := Nat.le_trans (List.length_filter_le _ _) hlen
  have hqo := hok.drop c.key
  have hoc : offerC most P c = (insCand c (dropC P c.key)).take most := rfl
  obtain ⟨Q, hQ⟩ : ∃ Q, dropC P c.key = Q := ⟨_, rfl⟩
  unfold OfferPost
  rw [hoc]
  rw [hQ] at HD hqn hql hqo ⊢
  obtain ⟨n, hn⟩ : ∃ n, Q.length = n := ⟨_, rfl⟩
  rw [hn] at hql
  -- behind Drop
  have HA : Hid (∀ w2, PlTo p G most Q (w.alloc (.cells #[.string ⟨c.key.toArray⟩, .int .u64 c.rank] 50)) w2 → ∃ v, PlTmp (w.alloc (.cells #[.string ⟨c.key.toArray⟩, .int .u64 c.rank] 50)) G p most v Q w2) := Lib.hid fun w2 ht => PlTmp.of ht
  have HBX : Hid (∀ w2 v R, PlTmp (w.alloc (.cells #[.string ⟨c.key.toArray⟩, .int .u64 c.rank] 50)) G p most v R w2 → w2.cell? ⟨w.heap.size, 0, none⟩ = some (.string ⟨c.key.toArray⟩) ∧ w2.cell? ⟨w.heap.size, 1, none⟩ = some (.int .u64 c.rank)) := Lib.hid fun w2 v R ht => by
    have := ht.chg.heap hbox hGn
    exact ⟨cell_of_row _ _ 0 _ _ _ this, cell_of_row _ _ 1 _ _ _ this⟩
  have HEND : Hid (∀ w2 v R, PlTmp (w.alloc (.cells #[.string ⟨c.key.toArray⟩, .int .u64 c.rank] 50)) G p most v R w2 → R = (insCand c Q).take most → PlTo p G most ((insCand c Q).take most) w w2) := Lib.hid fun w2 v R ht e => by
    subst e
    have hl : ((insCand c Q).take most).length ≤ most := by rw [List.length_take]; omega
    exact PlTo.pre hnew (ht.to ((insCand_good hqo hqn).sublist (List.take_sublist _ _)) hroom hl)
  have HS : Hid (∀ l' : List Cand, l'.Perm (Q ++ [c]) → l'.Pairwise (fun x y => ¬ cmpC y x < 0) → l' = insCand c Q) := Lib.hid fun l' h1 h2 => insCand_unique hqo hqn h1 h2
  have HIL : Hid ((insCand c Q).length = n + 1) := Lib.hid (by rw [(insCand_perm c Q).length_eq, List.length_cons, hn])
  have HN := Lib.hid hn
  obtain ⟨ck, cr⟩ := c
  obtain ⟨I, hI⟩ : ∃ I, insCand ⟨ck, cr⟩ Q = I := ⟨_, rfl⟩
  rw [hI] at HEND HS HIL ⊢
  simp only at *
  clear h hok hnew hbox hGn hqn hqo hoc hQ hn hI
  go_enter Tryz.func68, Tryz.ntmps68
  go_wp2_with (go_at_call 69; refine HD.out.mono ?_; rintro e w2 ⟨rfl, ht⟩
               obtain ⟨v, ht2⟩ := HA.out w2 ht
               obtain ⟨b0, b1⟩ := HBX.out _ _ _ ht2
               obtain ⟨-, d1, d2⟩ := two_cells ht2.head
               obtain ⟨pv, cv, rfl, -⟩ := ownsRow_rd ht2.row (candsC_one Q)
               obtain ⟨g, cap, w4, hrun, x1, x2, ht4⟩ := ht2.append (by have := HN.out; omega) ⟨ck, cr⟩ 43
               have dA : (w2.alloc (.cells #[.string ⟨ck.toArray⟩, .int .u64 cr] 50)).cell? ⟨p, 1, none⟩ = some (.slice pv Q.length cv) := (((Below.refl w2.heap.size w2).alloc (Nat.le_refl _) _).cell (p := ⟨p, 1, none⟩) (block_lt ht2.head)).trans d1
               rw [HN.out] at ht2 d1 dA hrun x1 ht4
               have HT4 := Lib.hid ht4
               clear ht ht2 d2 ht4)
  go_region
  all_goals
    have HSO : Hid (∀ W R v k, PlTmp (w.alloc (.cells #[.string ⟨ck.toArray⟩, .int .u64 cr] 50)) G p most v R W → R.length = k → k ≤ 1024 → Calls Tryz.prog 87 #[v, .func (.func 88) #[] #[]] W fun r w' => r = .returned (.tuple #[]) ∧ ∃ l' : List Cand, l'.Perm R ∧ l'.Pairwise (fun x y => ¬ cmpC y x < 0) ∧ w'.ownsRow 0 50 2 v k (l'.flatMap candC) ∧ W.grownBy w' v.ownBlock) :=
      Lib.hid fun W R v k ht hk hk2 => sortCands_any W 0 k v R hk (by omega) (by have := ht.row; rwa [hk] at this)
    have htt := HT4.out
    have HSRT := Lib.hid (HSO.out _ _ _ (n + 1) htt (by rw [List.length_append, HN.out]; rfl) (by omega))
    obtain ⟨-, e1, -⟩ := two_cells htt.head
    clear htt HSO
    go_wp2_with (go_at_call 87; refine HSRT.out.mono ?_; rintro e w5 ⟨rfl, l', hp, hpw, hr5, hg5⟩
                 have hl : l' = I := HS.out l' hp (hpw.imp fun h => by omega)
                 subst hl
                 have ht5 := HT4.out.sorted (R' := l') hg5 hp.length_eq (by rw [List.length_append, HN.out]; exact hr5)
                 obtain ⟨f0, f1, f2⟩ := two_cells ht5.head
                 have HT5 := Lib.hid ht5
                 clear hp hpw hr5 hg5 ht5 f2)
    by_cases hle : n + 1 ≤ most
    · have hle2 : (n : Int) + 1 ≤ (most : Int) := by omega
      go_quiet (fail)
      go_wp2_with fail
      go_ret
      refine ⟨⟨_, rfl⟩, HEND.out _ _ _ (HT5.out.below ⟨rfl, rfl, rfl, Nat.le_refl _, fun _ _ => rfl⟩) ?_⟩
      rw [List.take_of_length_le (by rw [HIL.out]; exact hle)]
    · have hle2 : ¬ (n : Int) + 1 ≤ (most : Int) := by omega
      obtain rfl : most = n := by omega
      go_quiet (fail)
      go_wp2_with fail
      obtain ⟨lc, hlc⟩ : ∃ lc, l'[most]? = some lc := ⟨_, List.getElem?_eq_getElem (by rw [HIL.out]; omega)⟩
      obtain ⟨w6, hw6⟩ : ∃ w6, w5.drewN nq = w6 := ⟨_, rfl⟩
      have ht6 := HT5.out.below (w' := w6) (by rw [← hw6]; exact ⟨rfl, rfl, rfl, Nat.le_refl _, fun _ _ => rfl⟩)
      obtain ⟨h0, h1, -⟩ := two_cells ht6.head
      obtain ⟨h2, h3⟩ := ht6.at hlc
      obtain ⟨h4, h5⟩ := HBX.out _ _ _ ht6
      have HAL := fun o => ((Below.refl w6.heap.size w6).alloc (Nat.le_refl _) o)
      have hpl := block_lt ht6.head
      have hgl := World.block_lt_of_cell? w6 _ h2
      have h0a : ∀ o, (w6.alloc o).cell? ⟨p, 0, none⟩ = some (.int .i64 most) := fun o => ((HAL o).cell (p := ⟨p, 0, none⟩) hpl).trans h0
      have h1a : ∀ o, (w6.alloc o).cell? ⟨p, 1, none⟩ = some (.slice (some ⟨g, 0, none⟩) (most + 1) cap) := fun o => ((HAL o).cell (p := ⟨p, 1, none⟩) hpl).trans h1
      have h2a : ∀ o, (w6.alloc o).cell? ⟨g, most * 2, none⟩ = some (.string ⟨lc.key.toArray⟩) := fun o => ((HAL o).cell (p := ⟨g, most * 2, none⟩) hgl).trans h2
      have h3a : ∀ o, (w6.alloc o).cell? ⟨g, most * 2 + 1, none⟩ = some (.int .u64 lc.rank) := fun o => ((HAL o).cell (p := ⟨g, most * 2 + 1, none⟩) hgl).trans h3
      have HT6 := Lib.hid ht6
      rw [hw6]
      have i0 : (0 : Int) ≤ (most : Int) := by omega
      have i1 : (most : Int) < (most : Int) + 1 := by omega
      clear hw6 ht6 HAL hlc hpl hgl f0 f1 x1 d1 dA hrun
      go_region
      go_wp2_with fail
      obtain ⟨w7, hw7⟩ : ∃ w7, (w6.alloc (.cells #[.string ⟨lc.key.toArray⟩, .int .u64 lc.rank] 50)).drew = w7 := ⟨_, rfl⟩
      have ht7 := HT6.out.below (w' := w7) (by rw [← hw7]; exact ((Below.refl _ _).alloc (Nat.le_refl _) _).drew)
      have hn7 : w7.heap[w6.heap.size]? = some (.cells #[.string ⟨lc.key.toArray⟩, .int .u64 lc.rank] 50) := by rw [← hw7]; exact heap_alloc_new w6 _
      have hp6 := block_lt HT6.out.head
      have hpn : ¬ p = w6.heap.size := by omega
      have hpn2 : ¬ w6.heap.size = p := by omega
      have hpn4 : ¬ w.heap.size = p := hpw0
      have hpn5 : ¬ p = w.heap.size := fun e => hpw0 e.symm
      obtain ⟨j0, j1, j2⟩ := two_cells ht7.head
      have j21 := j2 1
      obtain ⟨j4, j5⟩ := HBX.out _ _ _ ht7
      obtain ⟨k0, k1, -⟩ := two_cells hn7
      have hcap : most + 1 ≤ cap := by
        have hr7 := ht7.row
        rw [HIL.out] at hr7
        rcases hr7.2 with ⟨hv, -⟩ | ⟨g', cap', cur, hv, hb, hg, hnc, hcm, hcs, htk⟩
        · cases hv
        · cases hv; exact hnc
      have hcap2 : (most : Int) ≤ (cap : Int) := by omega
      have hcap3 : most ≤ cap := by omega
      have HFIN : Hid (PlTo p G most (l'.take most) w (w7.setCell ⟨p, 1, none⟩ (.slice (some ⟨g, 0, none⟩) most cap))) := Lib.hid (HEND.out _ _ _ (ht7.cut HIL.out (Nat.le_succ _)) rfl)
      rw [hw7]
      clear hw7 ht7 hn7 h0 h1 h2 h3 h4 h5 h0a h1a h2a h3a j2 hp6
      go_region
      go_wp2_with fail
      all_goals
        go_ret
        exact ⟨⟨_, rfl⟩, HFIN.out.after ⟨rfl, rfl, rfl, Nat.le_refl _, fun _ _ => rfl⟩⟩
end
end Go.Proofs.YtelbmphmihjgfaaGreat.DEnt
