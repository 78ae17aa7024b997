/- Insert where a chunk of 32 is parted: the walk. -/
import Derived.Test.YtefoieloakfhfaaInsert2
namespace Go.Proofs.Ytefoieloakfhfaa
open Go.RowKit Pantry

set_option maxHeartbeats 8000000 in
set_option maxRecDepth 100000 in
theorem ins_split (w : World) (d : Nat) (v : Value) (gs : List Nat) (cs : List (List Txt)) (i : Nat) (s : Txt) (k p : Nat) (c : List Txt) (h : DeqAt w d v gs cs) (hf : Fits cs) (hrows : cs.length ≤ 1048576) (hne : cs ≠ []) (hi : i ≤ total cs) (ht0 : 0 < total cs) (hs : s.length ≤ 1048576) (ht : total cs < 1048576)
    (hkp : findC cs i = (k, p)) (h1 : cs[k]? = some c) (hc : c.length = 32) (hp : p ≤ c.length) :
    Calls Try.prog 15 #[.pointer (some ⟨d, 0, none⟩), .int .i64 i, .string ⟨s.toArray⟩] w
      (DeqPost d v gs (if 16 ≤ p then (partC k c cs).set (k + 1) (insAt (c.drop 16) (p - 16) s) else (partC k c cs).set k (insAt (c.take 16) p s)) (.int .i64 0) w) := by
  have HR := Lib.hid (refused_no w d v gs cs s h hs ht)
  have hfind := find_any w d v gs cs i h hf hne (by omega)
  rw [hkp] at hfind
  have HFIND := Lib.hid hfind
  obtain ⟨g, sb, cap, hg, hv, hkl, hnc, hcell, hch⟩ := h.at h1
  have hn := hch.n (by omega)
  rw [hc] at hn
  obtain ⟨⟨d0, d1, -⟩, -⟩ := three h.head
  have hrl := hf.rows
  have hgw := block_lt hch
  have hgd : g ≠ d := fun e => h.notd (by rw [← e]; exact List.mem_of_getElem? hg)
  -- the new half, and the copy into it
  obtain ⟨W1, hW1⟩ : ∃ W1, w.alloc (.cells rawHalf.toArray 66) = W1 := ⟨_, rfl⟩
  have HW1 := Lib.hid (show w.alloc (.cells #[.string ⟨#[]⟩, .string ⟨#[]⟩, .string ⟨#[]⟩, .string ⟨#[]⟩, .string ⟨#[]⟩, .string ⟨#[]⟩, .string ⟨#[]⟩, .string ⟨#[]⟩, .string ⟨#[]⟩, .string ⟨#[]⟩, .string ⟨#[]⟩, .string ⟨#[]⟩, .string ⟨#[]⟩, .string ⟨#[]⟩, .string ⟨#[]⟩, .string ⟨#[]⟩,
    .string ⟨#[]⟩, .string ⟨#[]⟩, .string ⟨#[]⟩, .string ⟨#[]⟩, .string ⟨#[]⟩, .string ⟨#[]⟩, .string ⟨#[]⟩, .string ⟨#[]⟩, .string ⟨#[]⟩, .string ⟨#[]⟩, .string ⟨#[]⟩, .string ⟨#[]⟩, .string ⟨#[]⟩, .string ⟨#[]⟩, .string ⟨#[]⟩, .string ⟨#[]⟩, .int .i64 16] 66) = W1 by rw [← rawLit]; exact hW1)
  have hs1 : W1.heap.size = w.heap.size + 1 := by rw [← hW1]; simp
  have hH1 : W1.heap[w.heap.size]? = some (.cells rawHalf.toArray 66) := by rw [← hW1]; exact heap_alloc_new w _
  have hch1 : ChunkAt W1 g c := by unfold ChunkAt; rw [← hW1, Below.heap_alloc w _ g hgw]; exact hch
  have hcg1 : Chg (fun _ => False) w W1 := by rw [← hW1]; exact (Chg.refl _ w).alloc _
  have hd16 : (c.drop 16).length = 16 := by rw [List.length_drop, hc]
  have hcp : ∀ ty dc sc, (Builtin.copy_ #[22, 22] ty #[.slice (some ⟨w.heap.size, 0, none⟩) 32 dc, .slice (some ⟨g, 16, none⟩) 16 sc]).run Try.prog W1.drew = .ok (goInt (Nat.min 16 32)) (W1.drew.setRow w.heap.size (splice rawHalf 0 (txts (c.drop 16))).toArray) := fun ty dc sc =>
    run_copy_gen W1.drew 22 22 ty 9 w.heap.size 0 32 dc ⟨g, 16, none⟩ 16 sc rawHalf 66 (txts (c.drop 16)) 1 Try.underlying22 strSize hH1 (by rw [txts_length, hd16]; rfl)
      (fun j u hj => by
        rw [Addr.add_lit]
        show W1.cell? _ = _
        rw [cell_of_row W1 g _ _ _ _ hch1, ← Array.getElem?_toList, List.toList_toArray]
        rw [txts_get, List.getElem?_drop] at hj
        cases hx : c[16 + j]? with
        | none => rw [hx] at hj; cases hj
        | some x => rw [hx] at hj; cases hj; exact chunkL_text hx)
      (by rw [txts_length, hd16]; decide) (txts_one _)
  rw [raw_copy hd16] at hcp
  obtain ⟨W2, hW2⟩ : ∃ W2, W1.drew.setRow w.heap.size (chunkL (c.drop 16)).toArray = W2 := ⟨_, rfl⟩
  have hU2 : Upd w.heap.size (.cells (chunkL (c.drop 16)).toArray 66) W1 W2 := by rw [← hW2]; exact (Upd.same hH1).drew.setRow _
  rw [hW2] at hcp
  clear hW2 hW1
  have hch2 : ChunkAt W2 g c := (hU2.other g (by omega)).trans hch1
  have hn2 := hch2.n (by omega)
  rw [hc] at hn2
  -- the cut
  have hcut := cut_any W2 g 16 32 c hch2 (by omega) (by omega) (by omega)
  rw [List.drop_eq_nil_of_le (i := 32) (by omega), List.append_nil] at hcut
  rw [show ((16 : Nat) : Int) = 16 from rfl, show ((32 : Nat) : Int) = 32 from rfl] at hcut
  have HCUT := Lib.hid hcut
  -- behind the cut
  have HNEXT := Lib.hid (fun (W3 : World) (hU3 : Upd g (.cells (chunkL (c.take 16)).toArray 66) W2 W3) =>
    show W3.heap.size = w.heap.size + 1 ∧ W3.heap[d]? = some (.cells #[v, .int .i64 (total cs : Nat), .int .i64 (costOf cs : Nat)] 62) ∧
      Calls Try.prog 34 #[v, .int .i64 ((k : Int) + 1), .slice (some ⟨w.heap.size + 1, 0, none⟩) 1 1] (W3.alloc (.cells #[.pointer (some ⟨w.heap.size, 0, none⟩)] 67)) (fun e w5 => ∃ v', e = .returned v' ∧ (∃ sb' cap', v' = .slice (some ⟨sb', 0, none⟩) (cs.length + 1) cap') ∧
        w5.heap[d]? = some (.cells #[v, .int .i64 (total cs : Nat), .int .i64 (costOf cs : Nat)] 62) ∧ DeqAt (w5.setCell ⟨d, 0, none⟩ v') d v' (putIn gs (k + 1) w.heap.size) (partC k c cs) ∧ Chg (Foot d v gs) w (w5.setCell ⟨d, 0, none⟩ v') ∧ ∀ q, Foot d v' (putIn gs (k + 1) w.heap.size) q → Foot d v gs q ∨ w.heap.size ≤ q) from by
    have hsz3 : W3.heap.size = w.heap.size + 1 := by rw [hU3.size, hU2.size, hs1]
    have hcg3 : Chg (fun j => j = g) w W3 := ((hcg1.mono fun _ _ e => e.elim).trans (hU2.chg.mono (T := fun j => j = w.heap.size) fun _ _ e => e) (fun j hj e => by omega)).trans hU3.chg fun _ _ e => e
    have hgsb : ∀ j, v.ownBlock = some j → ¬ j = g := fun j hj e => h.rowg j hj (by rw [e]; exact List.mem_of_getElem? hg)
    have hd3 := hcg3.heap h.head (fun e => hgd e.symm)
    refine ⟨hsz3, hd3, ?_⟩
    obtain ⟨W4, hW4⟩ : ∃ W4, W3.alloc (.cells #[.pointer (some ⟨w.heap.size, 0, none⟩)] 67) = W4 := ⟨_, rfl⟩
    have hsz4 : W4.heap.size = w.heap.size + 2 := by rw [← hW4]; simp [hsz3]
    have hcg34 : Chg (fun _ => False) W3 W4 := by rw [← hW4]; exact (Chg.refl _ W3).alloc _
    have hown4 := Chg.ownsRow (Chg.ownsRow h.row hcg3 hgsb) hcg34 fun _ _ h => h
    have hvb4 : W4.heap[w.heap.size + 1]? = some (.cells #[ptr w.heap.size] 67) := by rw [← hW4, ← hsz3]; exact heap_alloc_new W3 _
    have hg3 : W3.heap[g]? = some (.cells (chunkL (c.take 16)).toArray 66) := hU3.here
    have hH3 : W3.heap[w.heap.size]? = some (.cells (chunkL (c.drop 16)).toArray 66) := (hU3.other w.heap.size (by omega)).trans hU2.here
    rw [hW4]
    refine (insert_any W4 0 (w.heap.size + 1) (k + 1) cs.length v (ptr w.heap.size) (gs.map ptr) hown4 hvb4 (fun e => by have := h.lt _ (.inr (.inr e)); omega) (Nat.zero_le _) hkl (by omega) (ptr_one gs) rfl).mono ?_
    rintro e w5 ⟨v', rfl, r1, r2, r3⟩
    obtain ⟨sb', cap', hv', -⟩ := ownsRow_some r1
    have hcg45 : Chg (fun j => v.ownBlock = some j) W4 w5 := Chg.of_grown r2 fun q e => e
    have hcg5 : Chg (fun j => v.ownBlock = some j ∨ j = g) w w5 := ((hcg3.mono fun _ _ e => .inr e).trans (hcg34.mono fun _ _ e => e.elim) fun _ _ e => e).trans (hcg45.mono fun _ _ e => .inl e) fun _ _ e => e
    have hno : ∀ j, v.ownBlock = some j → j < w.heap.size := fun j hj => h.lt j (.inr (.inr hj))
    have hd5 := hcg5.heap h.head (by rintro (e | e); exact h.rowd e; exact hgd e.symm)
    have hU6 := (Upd.same hd5).setCell 0 v'
    have hsp := h.split h1 hg (Nat.le_refl _) hcg5 (hcg45.heap (hcg34.heap hg3 id) fun e => h.rowg g e (List.mem_of_getElem? hg)) (hcg45.heap (hcg34.heap hH3 id) fun e => by have := hno _ e; omega) r1 (fun j hj => by
      rcases r3 j hj with e | e
      · exact .inl e
      · exact .inr ⟨by omega, by omega⟩) hU6
    refine ⟨v', rfl, ⟨sb', cap', hv'⟩, hd5, hsp, (hcg5.mono fun j _ e => ?_).trans hU6.chg (fun j _ e => .inl e), fun q hq => ?_⟩
    · rcases e with e | rfl
      · exact .inr (.inr e)
      · exact .inr (.inl (List.mem_of_getElem? hg))
    · rcases hq with rfl | hq | hq
      · exact .inl (.inl rfl)
      · rcases putIn_mem hq with hq | rfl
        · exact .inl (.inr (.inl hq))
        · exact .inr (Nat.le_refl _)
      · rcases r3 q hq with e | e
        · exact .inl (.inr (.inr e))
        · exact .inr (by omega))
  have HLAY1 := Lib.hid (fun (w6 : World) (v' : Value) (hin : DeqAt w6 d v' (putIn gs (k + 1) w.heap.size) (partC k c cs)) (hp16 : 16 ≤ p) =>
    lay_any w6 d v' _ _ (k + 1) (p - 16) (c.drop 16) s hin (by rw [partC_get h1, if_neg (by omega), if_pos rfl]) (by omega) (by omega) (partC_fits h1 hf hrows) (by rw [partC_total h1]; exact ht) hs)
  have HLAY2 := Lib.hid (fun (w6 : World) (v' : Value) (hin : DeqAt w6 d v' (putIn gs (k + 1) w.heap.size) (partC k c cs)) (hp16 : p < 16) =>
    lay_any w6 d v' _ _ k p (c.take 16) s hin (by rw [partC_get h1, if_pos rfl]) (by rw [List.length_take]; omega) (by rw [List.length_take]; omega) (partC_fits h1 hf hrows) (by rw [partC_total h1]; exact ht) hs)
  subst hv
  obtain ⟨m, hm⟩ : ∃ m, cs.length = m := ⟨_, rfl⟩
  obtain ⟨N, hN⟩ : ∃ N, total cs = N := ⟨_, rfl⟩
  rw [hm] at hkl hnc d0 hrl HNEXT ⊢
  rw [hN] at d1 hi ht0 HNEXT
  clear h hf h1 hg hch hm hN hkp hfind hne hch1 hch2 hcg1 hH1 hU2 hcut hd16 hrows
  have hN0 : ((N : Int) == 0) = false := by rw [beq_eq_false_iff_ne]; omega
  have hiN : (i : Int) ≤ (N : Int) := by omega
  have hkm : (k : Int) < (m : Int) := by omega
  rw [hc] at hp
  clear hc
  by_cases hp16 : 16 ≤ p
  · obtain ⟨q, rfl⟩ : ∃ q, p = q + 16 := ⟨p - 16, by omega⟩
    rw [if_pos hp16]
    rw [Nat.add_sub_cancel] at HLAY1 ⊢
    rw [show ((q + 16 : Nat) : Int) = (q : Int) + 16 from rfl] at HFIND
    rw [show ((k + 1 : Nat) : Int) = (k : Int) + 1 from rfl] at HLAY1
    clear HLAY2
    go_enter Try.func15, Try.ntmps15
    go_wp2_with fail
    refine HR.out.mono ?_
    rintro e w' ⟨rfl, rfl⟩
    go_wp2_with fail
    refine HFIND.out.mono ?_
    rintro e w' ⟨rfl, rfl⟩
    go_upto_region 14 with fail
    rw [HW1.out]
    go_region
    all_goals
      go_wp2_with fail
      refine HCUT.out.mono ?_
      rintro e W3 ⟨rfl, hU3⟩
      obtain ⟨hz3, hd3, hins⟩ := HNEXT.out W3 hU3
      obtain ⟨⟨e0, -, -⟩, -⟩ := three hd3
      have HINS := Lib.hid hins
      have HZ3 := Lib.hid hz3
      clear hd3 hins hU3 hz3
      go_wp2_with fail
      rw [HZ3.out]
      refine HINS.out.mono ?_
      rintro e w5 ⟨v', rfl, ⟨sb', cap', rfl⟩, hd5, hin, hcg, hft⟩
      obtain ⟨⟨f0, -, -⟩, ff⟩ := three hd5
      have ff0 := ff 0
      have HLAY := Lib.hid (HLAY1.out _ _ hin hp16)
      have HEND := Lib.hid (fun (w' : World) (hd : DeqAt w' d (.slice (some ⟨sb', 0, none⟩) (m + 1) cap') (putIn gs (k + 1) w.heap.size) ((partC k c cs).set (k + 1) (insAt (c.drop 16) q s))) (hc : Chg (Foot d (.slice (some ⟨sb', 0, none⟩) (m + 1) cap') (putIn gs (k + 1) w.heap.size)) (w5.setCell ⟨d, 0, none⟩ (.slice (some ⟨sb', 0, none⟩) (m + 1) cap')) w') =>
        show DeqPost d (.slice (some ⟨sb, 0, none⟩) m cap) gs ((partC k c cs).set (k + 1) (insAt (c.drop 16) q s)) (.int .i64 0) w (.returned (.int .i64 0)) w' from
          ⟨_, _, rfl, hd, hcg.trans hc fun j hj hk => (hft j hk).resolve_right (by omega), hft⟩)
      clear hd5 hin hcg hft ff HINS HNEXT HCUT HLAY1 HFIND HR
      go_upto_region 17 with fail
      obtain ⟨w6, hw6⟩ : ∃ w6, w5.setCell ⟨d, 0, none⟩ (.slice (some ⟨sb', 0, none⟩) (m + 1) cap') = w6 := ⟨_, rfl⟩
      rw [hw6] at HLAY HEND ⊢
      clear hw6 f0 ff0
      go_wp2_with fail
      refine HLAY.out.mono ?_
      rintro e w' ⟨rfl, hd, hc⟩
      have HE := Lib.hid (HEND.out _ hd hc)
      clear hd hc HEND
      go_wp2_with fail
      go_ret
      exact HE.out
  · have hp2 : p < 16 := by omega
    rw [if_neg hp16]
    clear HLAY1
    go_enter Try.func15, Try.ntmps15
    go_wp2_with fail
    refine HR.out.mono ?_
    rintro e w' ⟨rfl, rfl⟩
    go_wp2_with fail
    refine HFIND.out.mono ?_
    rintro e w' ⟨rfl, rfl⟩
    go_upto_region 14 with fail
    rw [HW1.out]
    go_region
    all_goals
      go_wp2_with fail
      refine HCUT.out.mono ?_
      rintro e W3 ⟨rfl, hU3⟩
      obtain ⟨hz3, hd3, hins⟩ := HNEXT.out W3 hU3
      obtain ⟨⟨e0, -, -⟩, -⟩ := three hd3
      have HINS := Lib.hid hins
      have HZ3 := Lib.hid hz3
      clear hd3 hins hU3 hz3
      go_wp2_with fail
      rw [HZ3.out]
      refine HINS.out.mono ?_
      rintro e w5 ⟨v', rfl, ⟨sb', cap', rfl⟩, hd5, hin, hcg, hft⟩
      obtain ⟨⟨f0, -, -⟩, ff⟩ := three hd5
      have ff0 := ff 0
      have HLAY := Lib.hid (HLAY2.out _ _ hin hp2)
      have HEND := Lib.hid (fun (w' : World) (hd : DeqAt w' d (.slice (some ⟨sb', 0, none⟩) (m + 1) cap') (putIn gs (k + 1) w.heap.size) ((partC k c cs).set k (insAt (c.take 16) p s))) (hc : Chg (Foot d (.slice (some ⟨sb', 0, none⟩) (m + 1) cap') (putIn gs (k + 1) w.heap.size)) (w5.setCell ⟨d, 0, none⟩ (.slice (some ⟨sb', 0, none⟩) (m + 1) cap')) w') =>
        show DeqPost d (.slice (some ⟨sb, 0, none⟩) m cap) gs ((partC k c cs).set k (insAt (c.take 16) p s)) (.int .i64 0) w (.returned (.int .i64 0)) w' from
          ⟨_, _, rfl, hd, hcg.trans hc fun j hj hk => (hft j hk).resolve_right (by omega), hft⟩)
      clear hd5 hin hcg hft ff HINS HNEXT HCUT HLAY2 HFIND HR
      go_upto_region 17 with fail
      obtain ⟨w6, hw6⟩ : ∃ w6, w5.setCell ⟨d, 0, none⟩ (.slice (some ⟨sb', 0, none⟩) (m + 1) cap') = w6 := ⟨_, rfl⟩
      rw [hw6] at HLAY HEND ⊢
      clear hw6 f0 ff0
      go_wp2_with fail
      refine HLAY.out.mono ?_
      rintro e w' ⟨rfl, hd, hc⟩
      have HE := Lib.hid (HEND.out _ hd hc)
      clear hd hc HEND
      go_wp2_with fail
      go_ret
      exact HE.out
end Go.Proofs.Ytefoieloakfhfaa
