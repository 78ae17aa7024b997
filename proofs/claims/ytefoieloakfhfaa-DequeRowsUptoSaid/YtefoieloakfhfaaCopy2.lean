/- Copy: the walk. -/
import Derived.Test.YtefoieloakfhfaaCopyStep
namespace Go.Proofs.Ytefoieloakfhfaa
open Go.RowKit Pantry

set_option maxHeartbeats 4000000 in
set_option maxRecDepth 100000 in
theorem copy_any (w : World) (d : Nat) (v : Value) (gs : List Nat) (cs : List (List Txt)) (h : DeqAt w d v gs cs) (hf : Fits cs) :
    Calls Try.prog 28 #[.pointer (some ⟨d, 0, none⟩)] w (CopyPost cs w) := by
  have HN := Lib.hid (new_any w)
  have HD := Lib.hid h
  have HF := Lib.hid hf
  have hdl := h.lt d (.inl rfl)
  obtain ⟨a0, c0, hv, -⟩ := ownsRow_rd h.row (ptr_one gs)
  obtain ⟨H, hH⟩ : ∃ H, w.heap.size = H := ⟨_, rfl⟩
  obtain ⟨W1, hW1⟩ : ∃ W1, w.alloc (.cells #[.slice none 0 0, .int .i64 0, .int .i64 0] 62) = W1 := ⟨_, rfl⟩
  rw [hW1, hH] at HN
  have hcg : Chg (fun _ => False) w W1 := by rw [← hW1]; exact (Chg.refl _ w).alloc _
  have hd1 : DeqAt W1 d v gs cs := h.chg hcg (fun _ _ e => e)
  have hnew : W1.heap[H]? = some (.cells #[.slice none 0 0, .int .i64 0, .int .i64 0] 62) := by rw [← hW1, ← hH]; exact heap_alloc_new w _
  obtain ⟨⟨d0, d1, d2⟩, -⟩ := three hd1.head
  obtain ⟨⟨e0, e1, e2⟩, ef⟩ := three hnew
  have ef0 := ef 0
  have ef1 := ef 1
  have ef2 := ef 2
  have hne : ¬ d = H := by omega
  have hrl := hf.rows
  obtain ⟨m, hm⟩ : ∃ m, cs.length = m := ⟨_, rfl⟩
  obtain ⟨N, hN⟩ : ∃ N, total cs = N := ⟨_, rfl⟩
  obtain ⟨C, hC⟩ : ∃ C, costOf cs = C := ⟨_, rfl⟩
  rw [hN] at d1
  rw [hC] at d2
  rw [hm] at hv hrl
  have HTN := Lib.hid hN
  have HTC := Lib.hid hC
  have HH := Lib.hid hH
  have HV0 := Lib.hid hv
  rw [hv] at d0
  have HCG := Lib.hid hcg
  have HD1 := Lib.hid hd1
  have HNEW := Lib.hid hnew
  have HM := Lib.hid hm
  clear h hf hH hW1 hcg hd1 hnew ef hm hN hC hv
  go_enter Try.func28, Try.ntmps28
  go_wp2_with (go_at_call 10; refine HN.out.mono ?_; rintro e w' ⟨rfl, rfl⟩)
  go_region
  all_goals
    go_wp2_with fail
    go_loopw [30] (fun y wr => ∃ k : Nat, k ≤ m ∧ y = .int .i64 k ∧ ∃ gs2 v2, Hid (CopyInv H gs2 cs k w wr v2)) (fun y _ => m - (intOf y).toNat)
    case atStart =>
      have hU := ((Upd.same HNEW.out).setCell 1 (.int .i64 (N : Int))).setCell 2 (.int .i64 (C : Int))
      refine ⟨0, Nat.zero_le _, rfl, [], _, Lib.hid ⟨?_, World.ownsRow_nil _ _ _ _, fun i g c h => by simp at h, List.nodup_nil, by simp, by simp, ?_, by have := HCG.out.size; have := HH.out; omega⟩⟩
      · rw [HTN.out, HTC.out]; exact hU.here
      · exact HCG.out.trans hU.drew.chg fun q hq (e : q = H) => by have := HH.out; omega
    case round =>
      obtain ⟨k, hk, rfl, gs2, v2, HV⟩ := hrel
      by_cases hlt : k < m
      · obtain ⟨c, hc⟩ : ∃ c, cs[k]? = some c := ⟨_, List.getElem?_eq_getElem (by rw [HM.out]; exact hlt)⟩
        have hdw := HD.out.chg HV.out.chg (fun _ _ e => e)
        obtain ⟨g, sb, cap, -, hv', -, -, hcell, hch⟩ := hdw.at hc
        rw [HM.out, HV0.out] at hv'
        cases hv'
        have hc32 := HF.out.chunk c (List.mem_of_getElem? hc)
        have HSZ := Lib.hid (show (Try.prog.info? 66).map (·.size) = some (chunkL c).toArray.size by rw [List.size_toArray, chunkL_length hc32]; kernel_rfl)
        have HSZ2 := Lib.hid (show (chunkL c).toArray.size = 33 by rw [List.size_toArray, chunkL_length hc32])
        have HONE := Lib.hid (show (chunkL c).toArray.all (·.oneCell') = true by
          rw [List.all_toArray, List.all_eq_true]
          exact chunkL_one c)
        obtain ⟨a2, c2, hv2, -⟩ := ownsRow_rd HV.out.row (ptr_one gs2)
        subst hv2
        have hHl := block_lt HV.out.head
        go_wp2_with (first
          | (refine wpList_load_row rfl _ _ rfl g rfl _ (chunkL c).toArray (0, 0) _ hch Try.underlying66 rfl HSZ.out ?_)
          | (refine wpList_store_row rfl _ _ _ rfl wr.heap.size (chunkL c).toArray rfl rfl _ _ (heap_alloc_new wr _) HSZ.out HSZ2.out.symm HONE.out ?_
             generalize hw3 : World.setRow _ wr.heap.size (chunkL c).toArray = w3
             obtain ⟨f1, f2, f3⟩ := copied hw3
             have hh3 := f3.heap HV.out.head (fun e => e)
             obtain ⟨⟨g0, -, -⟩, gf⟩ := three hh3
             have gf0 := gf 0
             clear hw3 gf hh3)
          | (at_builtin; (refine wpl_append1 Try.rowT rfl _ _ rfl (H + 1) rfl (Chg.ownsRow HV.out.row f3 (fun _ _ e => e)) #[.pointer (some ⟨wr.heap.size, 0, none⟩)] (by rw [f2]; rfl) rfl (by simp [Value.oneCell']) (by omega) (by rw [f2]; omega) ?_); intro v3 w4 hown4 hg4 hb4 hv4
             have hown5 : w4.ownsRow (H + 1) 67 1 v3 (k + 1) ((gs2 ++ [wr.heap.size]).map ptr) := by rw [List.map_append]; exact hown4
             have HN2 := Lib.hid (HV.out.step hc f1 f2 f3 hown5 hg4 hv4)
             have hh4 := (Chg.of_grown hg4 (S := fun q => (Value.slice a2 k c2).ownBlock = some q) fun q e => e).heap (f3.heap HV.out.head (fun e => e)) (fun e => by have := (HV.out.row.lt H e).1; omega)
             obtain ⟨a3, c3, hv3, -⟩ := ownsRow_rd hown5 (ptr_one _)
             subst hv3
             obtain ⟨⟨k0, -, -⟩, kf⟩ := three hh4
             have kf0 := kf 0
             clear hown4 hown5 hg4 hb4 hv4 hh4 kf))
        go_roundw
        case rel => exact ⟨k + 1, by omega, by go_num, _, _, HN2⟩
        case measure => simp [intOf]; omega
      · obtain rfl : k = m := by omega
        have HE := Lib.hid (show CopyInv H gs2 cs cs.length w wr v2 by rw [HM.out]; exact HV.out)
        go_wp2_with fail
        go_ret
        exact HE.out.post
end Go.Proofs.Ytefoieloakfhfaa
