/- What goes through the buckets of a dict. -/
import Derived.Test.YtelbmphmihjgfaaGreatZEDGet
import Derived.Test.YtelbmphmihjgfaaGreatZIter
import Derived.BigQuiet
import Derived.Deep.QuietTactic
import Derived.RangeFuncNested
import Derived.RangeFuncBound
import Derived.RangeFuncCalls
import Derived.RangeFuncLeaves
import Derived.RangeFuncBox
import Derived.Shelf.Abstract
import Derived.Shelf.RegionOpen
import Derived.WalkKit
import Derived.OwnWalkIn
import Derived.TacticsInMore
import Derived.LoopNIn
import Derived.LoopIn
set_option linter.unusedVariables false
set_option linter.unusedSimpArgs false
namespace Go.Proofs.YtelbmphmihjgfaaGreat.DEnt
open Go.RowKit Pantry

attribute [local go_sem] Oper.semAt_some
def encC (x : List DE) : Array Value := #[.pointer (ptrA x)]
/-- The chains that may have entries, in their order. -/
def Dc.heads (D : Dc) : List (List DE) := D.T.drop D.pos ++ D.Y
theorem take_prefix_snoc {α : Type} {l : List α} {k : Nat} {x : α} (h : l[k]? = some x) : l.take k ++ [x] <+: l := by rw [take_snoc_get h]; exact List.take_prefix _ _
theorem heads_flat {D : Dc} (h : D.Wf) : (Dc.heads D).flatten = D.ents := by
  unfold Dc.heads
  have h0 : (D.T.take D.pos).flatten = [] := by
    rw [List.flatten_eq_nil_iff]
    intro c hc
    obtain ⟨i, hi, rfl⟩ := List.mem_iff_getElem.1 hc
    rw [List.length_take] at hi
    rw [List.getElem_take]
    exact h.past i _ (by omega) (List.getElem?_eq_getElem (by omega))
  unfold Dc.ents
  rw [List.flatten_append]
  congr 1
  conv => rhs; rw [← List.take_append_drop D.pos D.T, List.flatten_append, h0, List.nil_append]
/-- What a round keeps: what lies below n₀, and the box. -/
def KpA (n₀ Bn : Nat) (A B : World) : Prop := Below n₀ A B ∧ B.heap[Bn]? = A.heap[Bn]?
theorem KpA.trans {n₀ Bn : Nat} {A B C : World} (h : KpA n₀ Bn A B) (k : KpA n₀ Bn B C) : KpA n₀ Bn A C := ⟨h.1.trans k.1, k.2.trans h.2⟩
/-- A table's cells as they are read. -/
theorem TabAt.row {w : World} {b : Nat} {T : List (List DE)} (h : TabAt w b T) : ∃ p, tabV b T = .slice p T.length T.length ∧ ∀ i c, T[i]? = some c → ∃ x : Addr, p = some x ∧ x.block = b ∧ w.cell? (x.add i) = some (ptrOf c) := by
  by_cases hT : T = []
  · subst hT
    exact ⟨none, rfl, fun i c hc => by simp at hc⟩
  · exact ⟨_, tabV_some hT, fun i c hc => ⟨_, rfl, rfl, by rw [Addr.add_base]; exact h.cell hc⟩⟩

set_option maxHeartbeats 4000000 in
set_option maxRecDepth 100000 in
theorem all1_in (n : Nat) (hn : 1 ≤ n) (l Bn d n₀ : Nat) (D : Dc) (W : World) (hB : W.cell? ⟨Bn, 0, none⟩ = some (.pointer (some ⟨d, 0, none⟩))) (h : DictAt W d D) (hw : D.Wf) (hF : ∀ k, DFoot d D k → k < n₀) 
    (J Jx : List (List DE) → World → Prop) (hJ : OwnFrom W.heap.size J)
    (hY : ∀ pre x A, J pre A → (pre ++ [x]) <+: Dc.heads D → YieldAt Fence.wide (n - 1) Tryz.prog l (encC x) A fun e B =>
      (e = .returned (.bool true) ∧ J (pre ++ [x]) B ∧ KpA n₀ Bn A B) ∨ (e = .returned (.bool false) ∧ Jx (pre ++ [x]) B ∧ KpA n₀ Bn A B)) (h0 : J [] W) :
    CallsIn Fence.wide n Tryz.prog 92 #[.func (.yield l) #[] #[], .pointer (some ⟨Bn, 0, none⟩)] W fun e W' => (∃ v, e = .returned v) ∧
      (J (Dc.heads D) W' ∨ (∃ pre, pre <+: Dc.heads D ∧ Jx pre W')) := by
  obtain ⟨hs, hhs⟩ : ∃ hs, Dc.heads D = hs := ⟨_, rfl⟩
  rw [hhs] at hY ⊢
  unfold Dc.heads at hhs
  obtain ⟨⟨d0, d1, d2, d3, d4⟩, df⟩ := five h.head
  obtain ⟨p2, hv2, hc2⟩ := h.young.row
  rw [hv2] at d2
  have HV2 := Lib.hid hv2
  have HW := Lib.hid hw
  have HD := Lib.hid h
  have HF := Lib.hid hF
  have HH := Lib.hid hhs
  have HJ := Lib.hid hJ
  have HY := Lib.hid hY
  have HJ0 := Lib.hid h0
  have HC2 := Lib.hid hc2
  have hty := h.young.few
  have hto := h.old.few
  clear hY hJ h0 hhs hF hc2 hv2 d0 d4 df
  by_cases hT : D.T = []
  · have hYn : D.Y = [] := Classical.byContradiction fun hy => by
      have := HW.out.moves hy
      rw [hT] at this
      simp at this
    have hp0 : D.pos = 0 := HW.out.still hYn
    have hs0 : hs = [] := by
      have h1 := HH.out
      rw [hT, hYn, List.drop_nil, List.nil_append] at h1
      exact h1.symm
    rw [hT, tabV_nil] at d1
    rw [hp0] at d3
    rw [hYn] at d2 HV2
    have hv2 := HV2.out
    rw [tabV_nil] at hv2
    cases hv2
    have HS0 := Lib.hid hs0
    clear hT hYn hp0 hs0 hw h
    refine callsIn_of_wp Tryz.func92 rfl trivial ?_ rfl
    simp only [Tryz.ntmps92, List.size_toArray, List.length_cons, List.length_nil, Nat.reduceAdd, Nat.reduceSub, Array.replicate_succ, Array.replicate_zero, List.push_toArray, List.append_toArray, List.nil_append, List.cons_append]
    gi_wp2_with fail
    refine wpIn_wide.2 ?_
    go_quiet (fail)
    gi_wp2_with fail
    have HJ1 := Lib.hid (HJ.out _ _ (W.drewN nq) none HJ0.out (((Chg.refl _ _).drewN : Chg (fun _ => False) W (W.drewN nq)).grown) fun r e => by cases e)
    gi_loopw [17] (fun x wr => x = .int .i64 0 ∧ wr = W.drewN nq) (fun x _ => 0)
    case atStart => exact ⟨rfl, rfl⟩
    case round =>
      obtain ⟨rfl, rfl⟩ := hrel
      gi_wp2_with fail
      gi_loopw [31] (fun x wr => x = .int .i64 0 ∧ wr = W.drewN nq) (fun x _ => 0)
      case atStart => exact ⟨rfl, rfl⟩
      case round =>
        obtain ⟨rfl, rfl⟩ := hrel
        gi_wp2_with fail
        go_end0
        exact ⟨⟨_, rfl⟩, .inl (by rw [HS0.out]; exact HJ1.out)⟩
  · have hpos : D.pos < D.T.length := by
      by_cases hy : D.Y = []
      · rw [HW.out.still hy]; exact List.length_pos_iff.2 hT
      · exact HW.out.moves hy
    rw [tabV_some hT] at d1
    have HT := Lib.hid hT
    obtain ⟨nt, hnt⟩ : ∃ n, D.T.length = n := ⟨_, rfl⟩
    obtain ⟨ny, hny⟩ : ∃ n, D.Y.length = n := ⟨_, rfl⟩
    obtain ⟨at_, hat⟩ : ∃ n, D.pos = n := ⟨_, rfl⟩
    rw [hnt] at d1 hpos hto
    rw [hat] at d3 hpos
    rw [hny] at d2 hty HV2
    have HE := Lib.hid (show D.T.length = nt ∧ D.Y.length = ny ∧ D.pos = at_ from ⟨hnt, hny, hat⟩)
    clear hnt hny hat hT hw h
    have hpos2 : (at_ : Int) < (nt : Int) := by omega
    refine callsIn_of_wp Tryz.func92 rfl trivial ?_ rfl
    simp only [Tryz.ntmps92, List.size_toArray, List.length_cons, List.length_nil, Nat.reduceAdd, Nat.reduceSub, Array.replicate_succ, Array.replicate_zero, List.push_toArray, List.append_toArray, List.nil_append, List.cons_append]
    gi_wp2_with fail
    refine wpIn_wide.2 ?_
    go_quiet (fail)
    gi_wp2_with fail
    obtain ⟨m, hm⟩ : ∃ m, nt - at_ = m := ⟨_, rfl⟩
    rw [hm]
    have hm2 : (m : Int) ≤ 1099511627776 := by omega
    have HM := Lib.hid hm
    have HJ1 := Lib.hid (HJ.out _ _ (W.drewN nq) none HJ0.out (((Chg.refl _ _).drewN : Chg (fun _ => False) W (W.drewN nq)).grown) fun r e => by cases e)
    clear hm hpos2
    gi_loopw [17] (fun x wr => ∃ k : Nat, k ≤ m ∧ x = .int .i64 k ∧ Hid (J (hs.take k) wr) ∧ Hid (KpA n₀ Bn W wr)) (fun x _ => m - (intOf x).toNat)
    case atStart => exact ⟨0, Nat.zero_le _, rfl, HJ1, Lib.hid ⟨⟨rfl, rfl, rfl, Nat.le_refl _, fun _ _ => rfl⟩, rfl⟩⟩
    case round =>
      obtain ⟨k, hk, rfl, HJk, HBk⟩ := hrel
      have HDk := Lib.hid (HD.out.keep (w' := wr) fun j hj => HBk.out.1.block j (HF.out j hj))
      have hB' : wr.cell? ⟨Bn, 0, none⟩ = some (.pointer (some ⟨d, 0, none⟩)) := (World.cell?_of_block (w := W) HBk.out.2).trans hB
      by_cases hlt : k < m
      · obtain ⟨c, hc⟩ : ∃ c, D.T[at_ + k]? = some c := ⟨_, List.getElem?_eq_getElem (by rw [HE.out.1]; have := HM.out; omega)⟩
        have hcell : wr.cell? ⟨D.bo, at_ + k, none⟩ = some (ptrOf c) := HDk.out.old.cell hc
        unfold ptrOf at hcell
        have hx : hs[k]? = some c := by
          rw [← HH.out, List.getElem?_append_left (by rw [List.length_drop, HE.out.1, HE.out.2.2]; have := HM.out; omega), List.getElem?_drop, HE.out.2.2]
          exact hc
        obtain ⟨fn, tmps, assign, body, hy, hR⟩ := HY.out _ c wr HJk.out (take_prefix_snoc hx)
        rw [take_snoc_get hx] at hR
        have HR := Lib.hid hR
        have HX := Lib.hid hx
        dsimp only [encC] at hy
        clear hR hx hc
        gi_wp2_with fail
        refine HR.out.mono ?_
        rintro e W3 (⟨rfl, hJ3, hk3⟩ | ⟨rfl, hJx3, hk3⟩)
        · have HJ3 := Lib.hid hJ3
          have HB3 := Lib.hid (HBk.out.trans hk3)
          clear hJ3 hk3
          gi_wp2_with fail
          go_roundw
          case rel => exact ⟨k + 1, by omega, by go_num, HJ3, HB3⟩
          case measure => simp [intOf]; omega
        · gi_wp2_with fail
          refine bodyPost_ret (results_none rfl _ _ _) rfl ?_
          exact ⟨⟨_, rfl⟩, .inr ⟨_, List.take_prefix _ _, hJx3⟩⟩
      · obtain rfl : k = m := by omega
        obtain ⟨⟨e0, e1, e2, e3, e4⟩, ef⟩ := five HDk.out.head
        rw [show tabV D.bn D.Y = .slice p2 ny ny from HV2.out] at e2
        clear e0 e1 e3 e4 ef
        gi_wp2_with fail
        gi_loopw [31] (fun x wx => ∃ j : Nat, j ≤ ny ∧ x = .int .i64 j ∧ Hid (J (hs.take (k + j)) wx) ∧ Hid (KpA n₀ Bn W wx)) (fun x _ => ny - (intOf x).toNat)
        case atStart => exact ⟨0, Nat.zero_le _, rfl, HJk, HBk⟩
        case round =>
          obtain ⟨j, hj, rfl, HJj, HBj⟩ := hrel
          by_cases hlt2 : j < ny
          · obtain ⟨c, hc⟩ : ∃ c, D.Y[j]? = some c := ⟨_, List.getElem?_eq_getElem (by rw [HE.out.2.1]; exact hlt2)⟩
            obtain ⟨x0, rfl, hxb, hcell0⟩ := HC2.out j c hc
            have hcell : wr.cell? (x0.add j) = some (ptrOf c) := (HBj.out.1.cell (p := x0.add j) (by rw [Addr.add_block, hxb]; exact HF.out _ (.inr (.inr (.inl ⟨by rintro e; rw [e] at hc; simp at hc, rfl⟩))))).trans hcell0
            unfold ptrOf at hcell
            have hx : hs[k + j]? = some c := by
              have hl : (D.T.drop D.pos).length = k := by rw [List.length_drop, HE.out.1, HE.out.2.2, HM.out]
              rw [← HH.out, List.getElem?_append_right (by omega), hl, Nat.add_sub_cancel_left]
              exact hc
            obtain ⟨fn, tmps, assign, body, hy, hR⟩ := HY.out _ c wr HJj.out (take_prefix_snoc hx)
            rw [take_snoc_get hx] at hR
            have HR := Lib.hid hR
            dsimp only [encC] at hy
            clear hR hx hc hcell0
            gi_wp2_with fail
            refine HR.out.mono ?_
            rintro e W3 (⟨rfl, hJ3, hk3⟩ | ⟨rfl, hJx3, hk3⟩)
            · have HJ3 := Lib.hid hJ3
              have HB3 := Lib.hid (HBj.out.trans hk3)
              clear hJ3 hk3
              gi_wp2_with fail
              go_roundw
              case rel => exact ⟨j + 1, by omega, by go_num, HJ3, HB3⟩
              case measure => simp [intOf]; omega
            · gi_wp2_with fail
              refine bodyPost_ret (results_none rfl _ _ _) rfl ?_
              exact ⟨⟨_, rfl⟩, .inr ⟨_, List.take_prefix _ _, hJx3⟩⟩
          · obtain rfl : j = ny := by omega
            gi_wp2_with fail
            go_end0
            refine ⟨⟨_, rfl⟩, .inl ?_⟩
            have hl : hs.take (k + j) = hs := List.take_of_length_le (by rw [← HH.out, List.length_append, List.length_drop, HE.out.1, HE.out.2.1, HE.out.2.2, HM.out]; exact Nat.le_refl _)
            have := HJj.out
            rwa [hl] at this
theorem all_any (w : World) (p : Option Addr) : Calls Tryz.prog 73 #[.pointer p] w fun e w' => e = .returned (.func (.func 92) #[] #[.pointer (some ⟨w.heap.size, 0, none⟩)]) ∧ w' = w.alloc (.cells #[.pointer p] 78) := by
  go_enter Tryz.func73, Tryz.ntmps73
  go_wp2_with fail
  go_ret
  exact ⟨rfl, rfl⟩
theorem each_any (w : World) (p : Option Addr) : Calls Tryz.prog 34 #[.pointer p] w fun e w' => e = .returned (.func (.func 72) #[] #[.pointer (some ⟨w.heap.size, 0, none⟩)]) ∧ w' = w.alloc (.cells #[.pointer p] 78) := by
  go_enter Tryz.func34, Tryz.ntmps34
  go_wp2_with fail
  go_ret
  exact ⟨rfl, rfl⟩
theorem all_seq (n : Nat) (hn : 1 ≤ n) (Bn d n₀ : Nat) (D : Dc) (W : World) (hB : W.cell? ⟨Bn, 0, none⟩ = some (.pointer (some ⟨d, 0, none⟩))) (h : DictAt W d D) (hw : D.Wf) (hF : ∀ k, DFoot d D k → k < n₀) :
    SeqV Fence.wide n Tryz.prog 92 #[.pointer (some ⟨Bn, 0, none⟩)] encC (KpA n₀ Bn) (Dc.heads D) W := fun l J Jx W1 hW _ hJ _ hY h0 => by
  have hBl : Bn < W.heap.size := World.block_lt_of_cell? W _ hB
  exact all1_in n hn l Bn d n₀ D W1 ((hW.cell (p := ⟨Bn, 0, none⟩) hBl).trans hB) (h.keep fun k hk => hW.block k (h.lt k hk)) hw hF J Jx hJ hY h0
end Go.Proofs.YtelbmphmihjgfaaGreat.DEnt
