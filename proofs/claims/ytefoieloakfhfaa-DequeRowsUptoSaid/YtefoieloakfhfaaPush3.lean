/- Push where a chunk comes in. -/
import Derived.Test.YtefoieloakfhfaaPush2
namespace Pantry
open Go Go.RowKit
theorem rows_le {cs : List (List Txt)} (h : ∀ c ∈ cs, c ≠ []) : cs.length ≤ total cs := by
  induction cs with
  | nil => simp
  | cons c cs ih =>
    have a := ih fun x hx => h x (List.mem_cons_of_mem _ hx)
    have b := List.length_pos_iff.2 (h c List.mem_cons_self)
    simp only [total, List.map_cons, List.sum_cons, List.length_cons] at a ⊢
    omega
theorem Fits.putIn {cs : List (List Txt)} (h : Fits cs) (k : Nat) {c : List Txt} (h1 : c.length ≤ 32) (h2 : ∀ x ∈ c, x.length ≤ 1048576) (h3 : Pantry.total cs + c.length ≤ 1048576) (h4 : cs.length ≤ 1048576) (hk : k ≤ cs.length) : Fits (putIn cs k c) :=
  ⟨fun c' hc => by rcases putIn_mem hc with hc | rfl; exact h.chunk c' hc; exact h1, fun c' hc => by rcases putIn_mem hc with hc | rfl; exact h.text c' hc; exact h2, by rw [total_putIn]; exact h3, by rw [putIn_length hk]; omega⟩
theorem ownsRow_some {w : World} {e size n : Nat} {v : Value} {xs : List Value} {b : Nat} (h : w.ownsRow b e size v (n + 1) xs) : ∃ g cap, v = .slice (some ⟨g, 0, none⟩) (n + 1) cap ∧ n + 1 ≤ cap := by
  rcases h.2 with ⟨_, h0⟩ | ⟨g, cap, cur, rfl, _, _, hnc, _⟩
  · omega
  · exact ⟨g, cap, rfl, hnc⟩
end Pantry
namespace Go.Proofs.Ytefoieloakfhfaa
open Go.RowKit Pantry

set_option maxHeartbeats 8000000 in
set_option maxRecDepth 100000 in
theorem push_new (w : World) (d : Nat) (v : Value) (gs : List Nat) (cs : List (List Txt)) (ahead : Bool) (s : Txt) (h : DeqAt w d v gs cs) (hf : Fits cs) (hne : cs.length ≤ total cs) (hs : s.length ≤ 1048576) (ht : total cs < 1048576)
    (hc : cs = [] ∨ ∃ c, cs[if ahead then 0 else cs.length - 1]? = some c ∧ c.length = 32) :
    Calls Try.prog 11 #[.pointer (some ⟨d, 0, none⟩), .bool ahead, .string ⟨s.toArray⟩] w (DeqPost d v gs (putIn cs (if ahead then 0 else cs.length) [s]) (.int .i64 0) w) := by
  have HR := Lib.hid (refused_no w d v gs cs s h hs ht)
  obtain ⟨K, hK⟩ : ∃ K, (if ahead then 0 else cs.length) = K := ⟨_, rfl⟩
  rw [hK]
  have hKl : K ≤ cs.length := by rw [← hK]; split <;> omega
  obtain ⟨H, hH⟩ : ∃ H, w.heap.size = H := ⟨_, rfl⟩
  obtain ⟨W1, hW1⟩ : ∃ W1, w.alloc (.cells (chunkL []).toArray 66) = W1 := ⟨_, rfl⟩
  have hs1 : W1.heap.size = H + 1 := by rw [← hW1, ← hH]; simp
  obtain ⟨W2, hW2⟩ : ∃ W2, W1.alloc (.cells #[ptr H] 67) = W2 := ⟨_, rfl⟩
  have hs2 : W2.heap.size = H + 2 := by rw [← hW2]; simp [hs1]
  have hch2 : ChunkAt W2 H [] := by
    unfold ChunkAt
    rw [← hW2, Below.heap_alloc W1 _ H (by omega), ← hW1, ← hH]
    exact heap_alloc_new w _
  have hvb2 : W2.heap[H + 1]? = some (.cells #[ptr H] 67) := by rw [← hW2, ← hs1]; exact heap_alloc_new W1 _
  have hcg2 : Chg (fun _ => False) w W2 := by rw [← hW2, ← hW1]; exact ((Chg.refl _ w).alloc _).alloc _
  have hown2 := Chg.ownsRow h.row hcg2 fun _ _ h => h
  have HINS := Lib.hid (insert_any W2 0 (H + 1) K cs.length v (ptr H) (gs.map ptr) hown2 hvb2 (fun e => by have := h.lt _ (.inr (.inr e)); omega) (Nat.zero_le _) hKl (by have := hf.rows; omega) (ptr_one gs) rfl)
  -- what is known behind the call of Insert
  have HNEXT := Lib.hid (fun (v' : Value) (w3 : World) (r1 : w3.ownsRow 0 67 1 v' (cs.length + 1) (putIn (gs.map ptr) K (ptr H))) (r2 : W2.grownBy w3 v.ownBlock) (r3 : ∀ k, v'.ownBlock = some k → v.ownBlock = some k ∨ W2.heap.size ≤ k) =>
    show (w3.heap[d]? = some (.cells #[v, .int .i64 (total cs : Nat), .int .i64 (costOf cs : Nat)] 62)) ∧ ChunkAt w3 H [] ∧
      DeqAt (w3.setCell ⟨d, 0, none⟩ v') d v' (putIn gs K H) (putIn cs K []) ∧ Chg (Foot d v gs) w (w3.setCell ⟨d, 0, none⟩ v') ∧ ∀ k, Foot d v' (putIn gs K H) k → Foot d v gs k ∨ w.heap.size ≤ k from by
    have hcg3 : Chg (fun j => v.ownBlock = some j) w w3 := (hcg2.mono fun _ _ e => e.elim).trans (Chg.of_grown r2 fun k e => e) (fun _ _ e => e)
    have hd3 := hcg3.heap h.head (fun e => h.rowd e)
    have hc3 : ChunkAt w3 H [] := (r2.block H (by omega) (fun e => by have := h.lt H (.inr (.inr e.symm)); omega)).trans hch2
    have hU := (Upd.same hd3).setCell 0 v'
    have hin : DeqAt (w3.setCell ⟨d, 0, none⟩ v') d v' (putIn gs K H) (putIn cs K []) := by
      refine h.inserted hKl (by omega) hc3 hcg3 r1 (fun j hj => ?_) (w3 := w3) ?_
      · rcases r3 j hj with h1 | h1
        · exact .inl h1
        · exact .inr ⟨by omega, by omega⟩
      · rw [total_putIn, costOf_putIn]
        exact hU
    refine ⟨hd3, hc3, hin, (hcg3.mono fun _ _ e => .inr (.inr e)).trans hU.chg (fun _ _ e => .inl e), fun k hk => ?_⟩
    rcases hk with rfl | hk | hk
    · exact .inl (.inl rfl)
    · rcases putIn_mem hk with hk | rfl
      · exact .inl (.inr (.inl hk))
      · exact .inr (by omega)
    · rcases r3 k hk with h1 | h1
      · exact .inl (.inr (.inr h1))
      · exact .inr (by omega))
  have HPUT := Lib.hid (show (putIn cs K []).set K (insAt [] 0 s) = putIn cs K [s] from putIn_set hKl [] [s])
  have HFIT := Lib.hid (hf.putIn (c := []) K (by simp) (by simp) (by simp; omega) (by omega) hKl)
  have HTOT := Lib.hid (show total (putIn cs K []) < 1048576 by rw [total_putIn]; simpa using ht)
  have HGET := Lib.hid (show (putIn cs K [])[K]? = some [] by rw [putIn_get hKl, if_neg (by omega), if_pos rfl])
  have HWL := Lib.hid (show (w.alloc (.cells #[.string ⟨#[]⟩, .string ⟨#[]⟩, .string ⟨#[]⟩, .string ⟨#[]⟩, .string ⟨#[]⟩, .string ⟨#[]⟩, .string ⟨#[]⟩, .string ⟨#[]⟩, .string ⟨#[]⟩, .string ⟨#[]⟩, .string ⟨#[]⟩, .string ⟨#[]⟩, .string ⟨#[]⟩, .string ⟨#[]⟩, .string ⟨#[]⟩, .string ⟨#[]⟩,
    .string ⟨#[]⟩, .string ⟨#[]⟩, .string ⟨#[]⟩, .string ⟨#[]⟩, .string ⟨#[]⟩, .string ⟨#[]⟩, .string ⟨#[]⟩, .string ⟨#[]⟩, .string ⟨#[]⟩, .string ⟨#[]⟩, .string ⟨#[]⟩, .string ⟨#[]⟩, .string ⟨#[]⟩, .string ⟨#[]⟩, .string ⟨#[]⟩, .string ⟨#[]⟩, .int .i64 0] 66)).alloc (.cells #[.pointer (some ⟨w.heap.size, 0, none⟩)] 67) = W2 by
    rw [← hW2, ← hW1, newChunk, ← hH]; rfl)
  subst hH
  obtain ⟨a0, c0, hv0, -⟩ := ownsRow_rd h.row (ptr_one gs)
  obtain ⟨⟨d0, d1, d2⟩, -⟩ := three h.head
  have hrl := hf.rows
  subst hv0
  obtain ⟨m, hm⟩ : ∃ m, cs.length = m := ⟨_, rfl⟩
  have hlast : m = 0 ∨ 0 < m ∧ ∃ g sb cap, a0 = some ⟨sb, 0, none⟩ ∧ c0 = cap ∧ (if ahead then 0 else m - 1) < cap ∧ w.cell? ⟨sb, if ahead then 0 else m - 1, none⟩ = some (.pointer (some ⟨g, 0, none⟩)) ∧ w.cell? ⟨g, 32, none⟩ = some (.int .i64 32) := by
    rcases hc with rfl | ⟨c, hc, h32⟩
    · exact .inl hm.symm
    · obtain ⟨g, sb, cap, -, hv, hkl, hnc, hcell, hch⟩ := h.at hc
      have hn := hch.n (by omega)
      rw [h32] at hn
      cases hv
      rw [hm] at hcell hkl
      exact .inr ⟨by omega, g, sb, _, rfl, rfl, by omega, hcell, hn⟩
  rw [hm] at hKl hK d0 hrl
  have HM := Lib.hid hm
  rw [hm] at HINS HNEXT ⊢
  clear hm hc h hf hne hW1 hW2 hs1 hs2 hch2 hvb2 hcg2 hown2 d1 d2 ht
  rcases hlast with h0 | ⟨h0, g, sb, cap, rfl, rfl, hcap, hcell, hn⟩
  · subst h0
    obtain rfl : K = 0 := by omega
    cases ahead
    all_goals
      go_enter Try.func11, Try.ntmps11
      go_wp2_with (go_at_call 33; refine HR.out.mono ?_; rintro e w' ⟨rfl, rfl⟩)
      rw [HWL.out]
      refine HINS.out.mono ?_
      rintro e w3 ⟨v', rfl, r1, r2, r3⟩
      obtain ⟨hd3, hc3, hin, hcg, hft⟩ := HNEXT.out v' w3 r1 r2 r3
      obtain ⟨g', sb', cap', -, hv', hkl', hnc', hcell', hch'⟩ := hin.at HGET.out
      have hn' := hch'.n (by simp)
      have HLAY := Lib.hid (lay_any _ d v' _ _ 0 0 [] s hin HGET.out (by simp) (Nat.le_refl _) HFIT.out HTOT.out hs)
      obtain ⟨⟨e0, -, -⟩, ef⟩ := three hd3
      have ef0 := ef 0
      obtain ⟨⟨x0, -, -⟩, -⟩ := three hin.head
      have HEND := Lib.hid (fun (w' : World) (hd : DeqAt w' d v' (putIn gs 0 w.heap.size) ((putIn cs 0 []).set 0 (insAt [] 0 s))) (hc : Chg (Foot d v' (putIn gs 0 w.heap.size)) (w3.setCell ⟨d, 0, none⟩ v') w') =>
        show DeqPost d (.slice a0 0 c0) gs (putIn cs 0 [s]) (.int .i64 0) w (.returned (.int .i64 0)) w' from
          ⟨v', _, rfl, by rw [← HPUT.out]; exact hd, hcg.trans hc fun j hj hk => (hft j hk).resolve_right (by omega), hft⟩)
      have HPL := Lib.hid (putIn_length (l := cs) (k := 0) (by rw [HM.out]; omega) ([] : List Txt))
      rw [HPL.out, HM.out] at hv' hnc' hkl'
      rw [hv'] at x0 HLAY HEND r1
      subst hv'
      clear hin hch' hc3 hd3 hcg hft r1 r2 r3 ef HPUT HNEXT HINS HGET
      go_upto_region 13 with fail
      obtain ⟨w4, hw4⟩ : ∃ w4, w3.setCell ⟨d, 0, none⟩ (.slice (some ⟨sb', 0, none⟩) (0 + 1) cap') = w4 := ⟨_, rfl⟩
      rw [hw4] at hcell' hn' x0 HLAY HEND ⊢
      clear hw4 e0 ef0
      go_wp2_with (go_at_call 35; refine HLAY.out.mono ?_; rintro e w' ⟨rfl, hd, hcg⟩)
      go_ret
      exact HEND.out _ hd hcg
  · obtain ⟨j, rfl⟩ : ∃ j, m = j + 1 := ⟨m - 1, by omega⟩
    cases ahead with
    | true =>
      simp only [if_true] at hK hcell hcap
      subst hK
      go_enter Try.func11, Try.ntmps11
      go_wp2_with (go_at_call 33; refine HR.out.mono ?_; rintro e w' ⟨rfl, rfl⟩)
      rw [HWL.out]
      refine HINS.out.mono ?_
      rintro e w3 ⟨v', rfl, r1, r2, r3⟩
      obtain ⟨hd3, hc3, hin, hcg, hft⟩ := HNEXT.out v' w3 r1 r2 r3
      obtain ⟨g', sb', cap', -, hv', hkl', hnc', hcell', hch'⟩ := hin.at HGET.out
      have hn' := hch'.n (by simp)
      have HLAY := Lib.hid (lay_any _ d v' _ _ 0 0 [] s hin HGET.out (by simp) (Nat.le_refl _) HFIT.out HTOT.out hs)
      obtain ⟨⟨e0, -, -⟩, ef⟩ := three hd3
      have ef0 := ef 0
      obtain ⟨⟨x0, -, -⟩, -⟩ := three hin.head
      have HEND := Lib.hid (fun (w' : World) (hd : DeqAt w' d v' (putIn gs (0) w.heap.size) ((putIn cs (0) []).set (0) (insAt [] 0 s))) (hc : Chg (Foot d v' (putIn gs (0) w.heap.size)) (w3.setCell ⟨d, 0, none⟩ v') w') =>
        show DeqPost d (.slice (some ⟨sb, 0, none⟩) (j + 1) c0) gs (putIn cs (0) [s]) (.int .i64 0) w (.returned (.int .i64 0)) w' from
          ⟨v', _, rfl, by rw [← HPUT.out]; exact hd, hcg.trans hc fun j hj hk => (hft j hk).resolve_right (by omega), hft⟩)
      have HPL := Lib.hid (putIn_length (l := cs) (k := 0) (by rw [HM.out]; omega) ([] : List Txt))
      rw [HPL.out, HM.out] at hv' hnc' hkl'
      rw [hv'] at x0 HLAY HEND r1
      subst hv'
      clear hin hch' hc3 hd3 hcg hft r1 r2 r3 ef HPUT HNEXT HINS HGET
      go_upto_region 13 with fail
      obtain ⟨w4, hw4⟩ : ∃ w4, w3.setCell ⟨d, 0, none⟩ (.slice (some ⟨sb', 0, none⟩) ((j + 1) + 1) cap') = w4 := ⟨_, rfl⟩
      rw [hw4] at hcell' hn' x0 HLAY HEND ⊢
      clear hw4 e0 ef0
      go_wp2_with (go_at_call 35; refine HLAY.out.mono ?_; rintro e w' ⟨rfl, hd, hcg⟩)
      go_ret
      exact HEND.out _ hd hcg
    | false =>
      simp only [Bool.false_eq_true, if_false, Nat.add_sub_cancel] at hK hcell hcap
      subst hK
      rw [show ((j + 1 : Nat) : Int) = (j : Int) + 1 from rfl] at HINS
      go_enter Try.func11, Try.ntmps11
      go_wp2_with (go_at_call 33; refine HR.out.mono ?_; rintro e w' ⟨rfl, rfl⟩)
      rw [HWL.out]
      refine HINS.out.mono ?_
      rintro e w3 ⟨v', rfl, r1, r2, r3⟩
      obtain ⟨hd3, hc3, hin, hcg, hft⟩ := HNEXT.out v' w3 r1 r2 r3
      obtain ⟨g', sb', cap', -, hv', hkl', hnc', hcell', hch'⟩ := hin.at HGET.out
      have hn' := hch'.n (by simp)
      have HLAY := Lib.hid (lay_any _ d v' _ _ (j + 1) 0 [] s hin HGET.out (by simp) (Nat.le_refl _) HFIT.out HTOT.out hs)
      obtain ⟨⟨e0, -, -⟩, ef⟩ := three hd3
      have ef0 := ef 0
      obtain ⟨⟨x0, -, -⟩, -⟩ := three hin.head
      have HEND := Lib.hid (fun (w' : World) (hd : DeqAt w' d v' (putIn gs ((j + 1)) w.heap.size) ((putIn cs ((j + 1)) []).set ((j + 1)) (insAt [] 0 s))) (hc : Chg (Foot d v' (putIn gs ((j + 1)) w.heap.size)) (w3.setCell ⟨d, 0, none⟩ v') w') =>
        show DeqPost d (.slice (some ⟨sb, 0, none⟩) (j + 1) c0) gs (putIn cs ((j + 1)) [s]) (.int .i64 0) w (.returned (.int .i64 0)) w' from
          ⟨v', _, rfl, by rw [← HPUT.out]; exact hd, hcg.trans hc fun j hj hk => (hft j hk).resolve_right (by omega), hft⟩)
      have HPL := Lib.hid (putIn_length (l := cs) (k := (j + 1)) (by rw [HM.out]; omega) ([] : List Txt))
      rw [HPL.out, HM.out] at hv' hnc' hkl'
      rw [hv'] at x0 HLAY HEND r1
      subst hv'
      clear hin hch' hc3 hd3 hcg hft r1 r2 r3 ef HPUT HNEXT HINS HGET
      go_upto_region 13 with fail
      obtain ⟨w4, hw4⟩ : ∃ w4, w3.setCell ⟨d, 0, none⟩ (.slice (some ⟨sb', 0, none⟩) ((j + 1) + 1) cap') = w4 := ⟨_, rfl⟩
      rw [hw4] at hcell' hn' x0 HLAY HEND ⊢
      clear hw4 e0 ef0
      go_wp2_with (go_at_call 35; refine HLAY.out.mono ?_; rintro e w' ⟨rfl, hd, hcg⟩)
      go_ret
      exact HEND.out _ hd hcg
end Go.Proofs.Ytefoieloakfhfaa
