
/- Each. -/
import Derived.Test.YteiklgbjjmlmaaaGreatZPush
namespace Go.Proofs.YteiklgbjjmlmaaaGreat
open Go.RowKit Pantry

theorem each_any (w : World) (p : Option Addr) : Calls Tryz.prog 176 #[.pointer p] w fun e w' => e = .returned (.func (.func 177) #[] #[.pointer (some ⟨w.heap.size, 0, none⟩)]) ∧ w' = w.alloc (.cells #[.pointer p] 102) := by
  go_enter Tryz.func176, Tryz.ntmps176
  go_wp2_with fail
  go_ret
  exact ⟨rfl, rfl⟩
theorem copy_nil (w : World) : Calls Tryz.prog 178 #[.pointer none] w fun e w' => e = .returned (.pointer (some ⟨w.heap.size, 0, none⟩)) ∧ w' = w.alloc (.cells #[.slice none 0 0, .int .i64 0, .int .i64 0] 135) := by
  have HN := Lib.hid (new_any w)
  go_enter Tryz.func178, Tryz.ntmps178
  go_wp2_with (go_at_call 61; refine HN.out.mono ?_; rintro e w' ⟨rfl, rfl⟩)
  go_ret
  exact ⟨rfl, rfl⟩
end Go.Proofs.YteiklgbjjmlmaaaGreat


/- Copy. -/
namespace Go.Proofs.YteiklgbjjmlmaaaGreat
open Go.RowKit Pantry

/-- The copy within the loop: k chunks are copied; the head has the whole's numbers already. -/
structure CopyInv (d2 : Nat) (gs2 : List Nat) (cs : List (List Txt)) (k : Nat) (w wr : World) (v2 : Value) : Prop where
  head : wr.heap[d2]? = some (.cells #[v2, .int .i64 (total cs : Nat), .int .i64 (costOf cs : Nat)] 135)
  row : wr.ownsRow (d2 + 1) 140 1 v2 k (gs2.map ptr)
  chunk : ∀ (i g : Nat) (c : List Txt), gs2[i]? = some g → cs[i]? = some c → ChunkAt wr g c
  nodup : gs2.Nodup
  fresh : ∀ g ∈ gs2, d2 < g ∧ g < wr.heap.size
  rowg : ∀ j, v2.ownBlock = some j → j ∉ gs2
  chg : Chg (fun _ => False) w wr
  old : w.heap.size ≤ d2
/-- A copy: all its blocks are new. -/
def CopyPost (cs : List (List Txt)) (w : World) (e : Ending) (w' : World) : Prop :=
  ∃ d2 v2 gs2, e = .returned (.pointer (some ⟨d2, 0, none⟩)) ∧ DeqAt w' d2 v2 gs2 cs ∧ Chg (fun _ => False) w w' ∧ ∀ j, Foot d2 v2 gs2 j → w.heap.size ≤ j
theorem CopyInv.post {d2 : Nat} {gs2 : List Nat} {cs : List (List Txt)} {w wr : World} {v2 : Value} (h : CopyInv d2 gs2 cs cs.length w wr v2) : CopyPost cs w (.returned (.pointer (some ⟨d2, 0, none⟩))) wr := by
  have hr : ∀ j, v2.ownBlock = some j → d2 + 1 ≤ j := fun j hj => (h.row.lt j hj).1
  refine ⟨d2, v2, gs2, rfl, ⟨h.head, ⟨h.row.1, h.row.2.imp id fun ⟨g, cap, cur, a, _, c⟩ => ⟨g, cap, cur, a, Nat.zero_le _, c⟩⟩, h.chunk, h.nodup, fun hm => by have := (h.fresh d2 hm).1; omega, fun e => by have := hr d2 e; omega, h.rowg⟩, h.chg, fun j hj => ?_⟩
  have := h.old
  rcases hj with rfl | hj | hj
  · exact h.old
  · have := (h.fresh j hj).1; omega
  · have := hr j hj; omega
end Go.Proofs.YteiklgbjjmlmaaaGreat


/- Copy: one round, plain. -/
namespace Go.Proofs.YteiklgbjjmlmaaaGreat
open Go.RowKit Pantry

theorem CopyInv.step {d2 : Nat} {gs2 : List Nat} {cs : List (List Txt)} {k : Nat} {w wr w3 w4 : World} {v2 v3 : Value} {c : List Txt} (h : CopyInv d2 gs2 cs k w wr v2) (hc : cs[k]? = some c)
    (hn : w3.heap[wr.heap.size]? = some (.cells (chunkL c).toArray 139)) (hs : w3.heap.size = wr.heap.size + 1) (hcg : Chg (fun _ => False) wr w3)
    (hown : w4.ownsRow (d2 + 1) 140 1 v3 (k + 1) ((gs2 ++ [wr.heap.size]).map ptr)) (hg : w3.grownBy w4 v2.ownBlock) (hv : ∀ q, v3.ownBlock = some q → v2.ownBlock = some q ∨ w3.heap.size ≤ q) :
    CopyInv d2 (gs2 ++ [wr.heap.size]) cs (k + 1) w (w4.setCell ⟨d2, 0, none⟩ v3) v3 := by
  have hl : gs2.length = k := by have := h.row.1; simpa using this
  have hd := block_lt h.head
  have hlt2 : ∀ q, v2.ownBlock = some q → d2 + 1 ≤ q ∧ q < wr.heap.size := fun q hq => h.row.lt q hq
  have hcg1 : Chg (fun q => v2.ownBlock = some q) w3 w4 := Chg.of_grown hg fun q e => e
  have hhd : w4.heap[d2]? = some (.cells #[v2, .int .i64 (total cs : Nat), .int .i64 (costOf cs : Nat)] 135) := hcg1.heap (hcg.heap h.head (fun e => e)) (fun e => by have := (hlt2 d2 e).1; omega)
  have hU := (Upd.same hhd).setCell 0 v3
  have hold := h.old
  have hsz : w3.heap.size ≤ w4.heap.size := hcg1.size
  refine ⟨hU.here, ?_, ?_, ?_, ?_, ?_, ?_, h.old⟩
  · refine Chg.ownsRow hown hU.chg fun j hj e => ?_
    have := (hown.lt j hj).1
    omega
  · intro i g ci hi hci
    have key : w4.heap[g]? = some (.cells (chunkL ci).toArray 139) ∧ g ≠ d2 := by
      by_cases hik : i < gs2.length
      · rw [List.getElem?_append_left hik] at hi
        have hm := List.mem_of_getElem? hi
        have hf := h.fresh g hm
        exact ⟨hcg1.heap (hcg.heap (h.chunk i g ci hi hci) (fun e => e)) (fun e => h.rowg g e hm), by omega⟩
      · rw [List.getElem?_append_right (by omega)] at hi
        have h0 : i - gs2.length = 0 := by
          by_cases e : i - gs2.length = 0
          · exact e
          · rw [List.getElem?_eq_none (by simp; omega)] at hi; cases hi
        rw [h0] at hi
        have e1 : wr.heap.size = g := by simpa using hi
        have e2 : i = k := by omega
        subst e1 e2
        rw [hc] at hci
        cases hci
        exact ⟨hcg1.heap hn (fun e => by have := (hlt2 _ e).2; omega), by omega⟩
    exact (hU.other g key.2).trans key.1
  · rw [List.nodup_append]
    refine ⟨h.nodup, by simp, ?_⟩
    intro a ha b hb e
    have hb2 : b = wr.heap.size := by simpa using hb
    have := (h.fresh a ha).2
    omega
  · intro g hgm
    have e1 : (w4.setCell ⟨d2, 0, none⟩ v3).heap.size = w4.heap.size := hU.size
    rcases List.mem_append.1 hgm with hm | hm
    · have := h.fresh g hm; omega
    · have : g = wr.heap.size := by simpa using hm
      omega
  · intro j hj hm
    rcases List.mem_append.1 hm with hm | hm
    · have hf := h.fresh j hm
      rcases hv j hj with e | e
      · exact h.rowg j e hm
      · omega
    · have hjg : j = wr.heap.size := by simpa using hm
      rcases hv j hj with e | e
      · have := (hlt2 j e).2; omega
      · omega
  · refine h.chg.trans ((hcg.mono (T := fun q => d2 ≤ q) fun q _ e => e.elim).trans ((hcg1.mono (T := fun q => d2 ≤ q) fun q _ e => by have := (hlt2 q e).1; omega).trans (hU.chg) fun q _ (e : q = d2) => by omega) fun q _ e => e) fun q hq (e : d2 ≤ q) => by omega
/-- The world in which a chunk has been copied. -/
theorem copied {wr w3 : World} {z cells : Array Value} {t : TypeId} (hw : (wr.alloc (.cells z t)).setRow wr.heap.size cells = w3) : w3.heap[wr.heap.size]? = some (.cells cells t) ∧ w3.heap.size = wr.heap.size + 1 ∧ Chg (fun _ => False) wr w3 := by
  subst hw
  refine ⟨setRow_heap _ _ _ _ _ _ (heap_alloc_new wr _), by simp [World.setRow], ?_⟩
  exact ((Chg.refl _ wr).alloc _).setRow (fun e => absurd e (Nat.lt_irrefl _)) _
end Go.Proofs.YteiklgbjjmlmaaaGreat


/- Copy: the walk. -/
namespace Go.Proofs.YteiklgbjjmlmaaaGreat
open Go.RowKit Pantry

set_option maxHeartbeats 4000000 in
set_option maxRecDepth 100000 in
theorem copy_any (w : World) (d : Nat) (v : Value) (gs : List Nat) (cs : List (List Txt)) (h : DeqAt w d v gs cs) (hf : Fits cs) :
    Calls Tryz.prog 178 #[.pointer (some ⟨d, 0, none⟩)] w (CopyPost cs w) := by
  have HN := Lib.hid (new_any w)
  have HD := Lib.hid h
  have HF := Lib.hid hf
  have hdl := h.lt d (.inl rfl)
  obtain ⟨a0, c0, hv, -⟩ := ownsRow_rd h.row (ptr_one gs)
  obtain ⟨H, hH⟩ : ∃ H, w.heap.size = H := ⟨_, rfl⟩
  obtain ⟨W1, hW1⟩ : ∃ W1, w.alloc (.cells #[.slice none 0 0, .int .i64 0, .int .i64 0] 135) = W1 := ⟨_, rfl⟩
  rw [hW1, hH] at HN
  have hcg : Chg (fun _ => False) w W1 := by rw [← hW1]; exact (Chg.refl _ w).alloc _
  have hd1 : DeqAt W1 d v gs cs := h.chg hcg (fun _ _ e => e)
  have hnew : W1.heap[H]? = some (.cells #[.slice none 0 0, .int .i64 0, .int .i64 0] 135) := by rw [← hW1, ← hH]; exact heap_alloc_new w _
  obtain ⟨⟨d0, d1, d2⟩, -⟩ := threeQ hd1.head
  obtain ⟨⟨e0, e1, e2⟩, ef⟩ := threeQ hnew
  have ef0 := ef 0
  have ef1 := ef 1
  have ef2 := ef 2
  have hne : ¬ d = H := by omega
  have hrl := hf.rows
  obtain ⟨m, hm⟩ : ∃ m, cs.length = m := ⟨_, rfl⟩
  obtain ⟨N, hN⟩ : ∃ N, total cs = N := ⟨_, rfl⟩
  obtain ⟨C, hC⟩ : ∃ C, costOf cs = C := ⟨_, rfl⟩
  rw [hN] at d1
  rw [hC] at d2
  rw [hm] at hv hrl
  have HTN := Lib.hid hN
  have HTC := Lib.hid hC
  have HH := Lib.hid hH
  have HV0 := Lib.hid hv
  rw [hv] at d0
  have HCG := Lib.hid hcg
  have HD1 := Lib.hid hd1
  have HNEW := Lib.hid hnew
  have HM := Lib.hid hm
  clear h hf hH hW1 hcg hd1 hnew ef hm hN hC hv
  go_enter Tryz.func178, Tryz.ntmps178
  go_wp2_with (go_at_call 61; refine HN.out.mono ?_; rintro e w' ⟨rfl, rfl⟩)
  go_region
  all_goals
    go_wp2_with fail
    go_loopw [30] (fun y wr => ∃ k : Nat, k ≤ m ∧ y = .int .i64 k ∧ ∃ gs2 v2, Hid (CopyInv H gs2 cs k w wr v2)) (fun y _ => m - (intOf y).toNat)
    case atStart =>
      have hU := ((Upd.same HNEW.out).setCell 1 (.int .i64 (N : Int))).setCell 2 (.int .i64 (C : Int))
      refine ⟨0, Nat.zero_le _, rfl, [], _, Lib.hid ⟨?_, World.ownsRow_nil _ _ _ _, fun i g c h => by simp at h, List.nodup_nil, by simp, by simp, ?_, by have := HCG.out.size; have := HH.out; omega⟩⟩
      · rw [HTN.out, HTC.out]; exact hU.here
      · exact HCG.out.trans hU.drew.chg fun q hq (e : q = H) => by have := HH.out; omega
    case round =>
      obtain ⟨k, hk, rfl, gs2, v2, HV⟩ := hrel
      by_cases hlt : k < m
      · obtain ⟨c, hc⟩ : ∃ c, cs[k]? = some c := ⟨_, List.getElem?_eq_getElem (by rw [HM.out]; exact hlt)⟩
        have hdw := HD.out.chg HV.out.chg (fun _ _ e => e)
        obtain ⟨g, sb, cap, -, hv', -, -, hcell, hch⟩ := hdw.at hc
        rw [HM.out, HV0.out] at hv'
        cases hv'
        have hc32 := HF.out.chunk c (List.mem_of_getElem? hc)
        have HSZ := Lib.hid (show (Tryz.prog.info? 139).map (·.size) = some (chunkL c).toArray.size by rw [List.size_toArray, chunkL_length hc32]; kernel_rfl)
        have HSZ2 := Lib.hid (show (chunkL c).toArray.size = 33 by rw [List.size_toArray, chunkL_length hc32])
        have HONE := Lib.hid (show (chunkL c).toArray.all (·.oneCell') = true by
          rw [List.all_toArray, List.all_eq_true]
          exact chunkL_one c)
        obtain ⟨a2, c2, hv2, -⟩ := ownsRow_rd HV.out.row (ptr_one gs2)
        subst hv2
        have hHl := block_lt HV.out.head
        go_wp2_with (first
          | (refine wpList_load_row rfl _ _ rfl g rfl _ (chunkL c).toArray (0, 0) _ hch Tryz.underlying139 rfl HSZ.out ?_)
          | (refine wpList_store_row rfl _ _ _ rfl wr.heap.size (chunkL c).toArray rfl rfl _ _ (heap_alloc_new wr _) HSZ.out HSZ2.out.symm HONE.out ?_
             generalize hw3 : World.setRow _ wr.heap.size (chunkL c).toArray = w3
             obtain ⟨f1, f2, f3⟩ := copied hw3
             have hh3 := f3.heap HV.out.head (fun e => e)
             obtain ⟨⟨g0, -, -⟩, gf⟩ := threeQ hh3
             have gf0 := gf 0
             clear hw3 gf hh3)
          | (at_builtin; (refine wpl_append1 Tryz.rowT rfl _ _ rfl (H + 1) rfl (Chg.ownsRow HV.out.row f3 (fun _ _ e => e)) #[.pointer (some ⟨wr.heap.size, 0, none⟩)] (by rw [f2]; rfl) rfl (by simp [Value.oneCell']) (by omega) (by rw [f2]; omega) ?_); intro v3 w4 hown4 hg4 hb4 hv4
             have hown5 : w4.ownsRow (H + 1) 140 1 v3 (k + 1) ((gs2 ++ [wr.heap.size]).map ptr) := by rw [List.map_append]; exact hown4
             have HN2 := Lib.hid (HV.out.step hc f1 f2 f3 hown5 hg4 hv4)
             have hh4 := (Chg.of_grown hg4 (S := fun q => (Value.slice a2 k c2).ownBlock = some q) fun q e => e).heap (f3.heap HV.out.head (fun e => e)) (fun e => by have := (HV.out.row.lt H e).1; omega)
             obtain ⟨a3, c3, hv3, -⟩ := ownsRow_rd hown5 (ptr_one _)
             subst hv3
             obtain ⟨⟨k0, -, -⟩, kf⟩ := threeQ hh4
             have kf0 := kf 0
             clear hown4 hown5 hg4 hb4 hv4 hh4 kf))
        go_roundw
        case rel => exact ⟨k + 1, by omega, by go_num, _, _, HN2⟩
        case measure => simp [intOf]; omega
      · obtain rfl : k = m := by omega
        have HE := Lib.hid (show CopyInv H gs2 cs cs.length w wr v2 by rw [HM.out]; exact HV.out)
        go_wp2_with fail
        go_ret
        exact HE.out.post
end Go.Proofs.YteiklgbjjmlmaaaGreat
