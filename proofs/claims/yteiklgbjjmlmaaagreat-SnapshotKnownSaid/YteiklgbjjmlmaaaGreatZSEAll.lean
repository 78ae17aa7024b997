
/- What goes through the buckets of a dict. -/
import Derived.Test.YteiklgbjjmlmaaaGreatZSDGet
import Derived.Test.YteiklgbjjmlmaaaGreatZIter
import Derived.BigQuiet
import Derived.Deep.QuietTactic
import Derived.RangeFuncNested
import Derived.RangeFuncBound
import Derived.RangeFuncCalls
import Derived.RangeFuncLeaves
import Derived.RangeFuncBox
import Derived.Shelf.Abstract
import Derived.Shelf.RegionOpen
import Derived.WalkKit
import Derived.OwnWalkIn
import Derived.TacticsInMore
import Derived.LoopNIn
import Derived.LoopIn
import Derived.Sort.LoopGhostIn
import Derived.Sort.CutIn
set_option linter.unusedVariables false
set_option linter.unusedSimpArgs false
namespace Go.Proofs.YteiklgbjjmlmaaaGreat.DStr
open Go.RowKit Pantry

attribute [local go_sem] Oper.semAt_some
def encC (x : List DE) : Array Value := #[.pointer (ptrA x)]
/-- The chains that may have entries, in their order. -/
def Dc.heads (D : Dc) : List (List DE) := D.T.drop D.pos ++ D.Y
theorem take_prefix_snoc {α : Type} {l : List α} {k : Nat} {x : α} (h : l[k]? = some x) : l.take k ++ [x] <+: l := by rw [take_snoc_get h]; exact List.take_prefix _ _
theorem heads_flat {D : Dc} (h : D.Wf) : (Dc.heads D).flatten = D.ents := by
  unfold Dc.heads
  have h0 : (D.T.take D.pos).flatten = [] := by
    rw [List.flatten_eq_nil_iff]
    intro c hc
    obtain ⟨i, hi, rfl⟩ := List.mem_iff_getElem.1 hc
    rw [List.length_take] at hi
    rw [List.getElem_take]
    exact h.past i _ (by omega) (List.getElem?_eq_getElem (by omega))
  unfold Dc.ents
  rw [List.flatten_append]
  congr 1
  conv => rhs; rw [← List.take_append_drop D.pos D.T, List.flatten_append, h0, List.nil_append]
/-- What a round keeps: what lies below n₀, and the box. -/
def KpA (n₀ Bn : Nat) (A B : World) : Prop := Below n₀ A B ∧ B.heap[Bn]? = A.heap[Bn]?
theorem KpA.trans {n₀ Bn : Nat} {A B C : World} (h : KpA n₀ Bn A B) (k : KpA n₀ Bn B C) : KpA n₀ Bn A C := ⟨h.1.trans k.1, k.2.trans h.2⟩
/-- A table's cells as they are read. -/
theorem TabAt.row {w : World} {b : Nat} {T : List (List DE)} (h : TabAt w b T) : ∃ p, tabV b T = .slice p T.length T.length ∧ ∀ i c, T[i]? = some c → ∃ x : Addr, p = some x ∧ x.block = b ∧ w.cell? (x.add i) = some (ptrOf c) := by
  by_cases hT : T = []
  · subst hT
    exact ⟨none, rfl, fun i c hc => by simp at hc⟩
  · exact ⟨_, tabV_some hT, fun i c hc => ⟨_, rfl, rfl, by rw [Addr.add_base]; exact h.cell hc⟩⟩

set_option maxHeartbeats 4000000 in
set_option maxRecDepth 100000 in
theorem all1_in (n : Nat) (hn : 1 ≤ n) (l Bn d n₀ : Nat) (D : Dc) (W : World) (hB : W.cell? ⟨Bn, 0, none⟩ = some (.pointer (some ⟨d, 0, none⟩))) (h : DictAt W d D) (hw : D.Wf) (hF : ∀ k, DFoot d D k → k < n₀) 
    (J Jx : List (List DE) → World → Prop) (hJ : OwnFrom W.heap.size J)
    (hY : ∀ pre x A, J pre A → (pre ++ [x]) <+: Dc.heads D → YieldAt Fence.wide (n - 1) Tryz.prog l (encC x) A fun e B =>
      (e = .returned (.bool true) ∧ J (pre ++ [x]) B ∧ KpA n₀ Bn A B) ∨ (e = .returned (.bool false) ∧ Jx (pre ++ [x]) B ∧ KpA n₀ Bn A B)) (h0 : J [] W) :
    CallsIn Fence.wide n Tryz.prog 196 #[.func (.yield l) #[] #[], .pointer (some ⟨Bn, 0, none⟩)] W fun e W' => (∃ v, e = .returned v) ∧
      (J (Dc.heads D) W' ∨ (∃ pre, pre <+: Dc.heads D ∧ Jx pre W')) := by
  obtain ⟨hs, hhs⟩ : ∃ hs, Dc.heads D = hs := ⟨_, rfl⟩
  rw [hhs] at hY ⊢
  unfold Dc.heads at hhs
  obtain ⟨⟨d0, d1, d2, d3, d4⟩, df⟩ := five h.head
  obtain ⟨p2, hv2, hc2⟩ := h.young.row
  rw [hv2] at d2
  have HV2 := Lib.hid hv2
  have HW := Lib.hid hw
  have HD := Lib.hid h
  have HF := Lib.hid hF
  have HH := Lib.hid hhs
  have HJ := Lib.hid hJ
  have HY := Lib.hid hY
  have HJ0 := Lib.hid h0
  have HC2 := Lib.hid hc2
  have hty := h.young.few
  have hto := h.old.few
  clear hY hJ h0 hhs hF hc2 hv2 d0 d4 df
  by_cases hT : D.T = []
  · have hYn : D.Y = [] := Classical.byContradiction fun hy => by
      have := HW.out.moves hy
      rw [hT] at this
      simp at this
    have hp0 : D.pos = 0 := HW.out.still hYn
    have hs0 : hs = [] := by
      have h1 := HH.out
      rw [hT, hYn, List.drop_nil, List.nil_append] at h1
      exact h1.symm
    rw [hT, tabV_nil] at d1
    rw [hp0] at d3
    rw [hYn] at d2 HV2
    have hv2 := HV2.out
    rw [tabV_nil] at hv2
    cases hv2
    have HS0 := Lib.hid hs0
    clear hT hYn hp0 hs0 hw h
    refine callsIn_of_wp Tryz.func196 rfl trivial ?_ rfl
    simp only [Tryz.ntmps196, List.size_toArray, List.length_cons, List.length_nil, Nat.reduceAdd, Nat.reduceSub, Array.replicate_succ, Array.replicate_zero, List.push_toArray, List.append_toArray, List.nil_append, List.cons_append]
    gi_wp2_with fail
    refine wpIn_wide.2 ?_
    go_quiet (fail)
    gi_wp2_with fail
    have HJ1 := Lib.hid (HJ.out _ _ (W.drewN nq) none HJ0.out (((Chg.refl _ _).drewN : Chg (fun _ => False) W (W.drewN nq)).grown) fun r e => by cases e)
    gi_loopw [17] (fun x wr => x = .int .i64 0 ∧ wr = W.drewN nq) (fun x _ => 0)
    case atStart => exact ⟨rfl, rfl⟩
    case round =>
      obtain ⟨rfl, rfl⟩ := hrel
      gi_wp2_with fail
      gi_loopw [31] (fun x wr => x = .int .i64 0 ∧ wr = W.drewN nq) (fun x _ => 0)
      case atStart => exact ⟨rfl, rfl⟩
      case round =>
        obtain ⟨rfl, rfl⟩ := hrel
        gi_wp2_with fail
        go_end0
        exact ⟨⟨_, rfl⟩, .inl (by rw [HS0.out]; exact HJ1.out)⟩
  · have hpos : D.pos < D.T.length := by
      by_cases hy : D.Y = []
      · rw [HW.out.still hy]; exact List.length_pos_iff.2 hT
      · exact HW.out.moves hy
    rw [tabV_some hT] at d1
    have HT := Lib.hid hT
    obtain ⟨nt, hnt⟩ : ∃ n, D.T.length = n := ⟨_, rfl⟩
    obtain ⟨ny, hny⟩ : ∃ n, D.Y.length = n := ⟨_, rfl⟩
    obtain ⟨at_, hat⟩ : ∃ n, D.pos = n := ⟨_, rfl⟩
    rw [hnt] at d1 hpos hto
    rw [hat] at d3 hpos
    rw [hny] at d2 hty HV2
    have HE := Lib.hid (show D.T.length = nt ∧ D.Y.length = ny ∧ D.pos = at_ from ⟨hnt, hny, hat⟩)
    clear hnt hny hat hT hw h
    have hpos2 : (at_ : Int) < (nt : Int) := by omega
    refine callsIn_of_wp Tryz.func196 rfl trivial ?_ rfl
    simp only [Tryz.ntmps196, List.size_toArray, List.length_cons, List.length_nil, Nat.reduceAdd, Nat.reduceSub, Array.replicate_succ, Array.replicate_zero, List.push_toArray, List.append_toArray, List.nil_append, List.cons_append]
    gi_wp2_with fail
    refine wpIn_wide.2 ?_
    go_quiet (fail)
    gi_wp2_with fail
    obtain ⟨m, hm⟩ : ∃ m, nt - at_ = m := ⟨_, rfl⟩
    rw [hm]
    have hm2 : (m : Int) ≤ 1099511627776 := by omega
    have HM := Lib.hid hm
    have HJ1 := Lib.hid (HJ.out _ _ (W.drewN nq) none HJ0.out (((Chg.refl _ _).drewN : Chg (fun _ => False) W (W.drewN nq)).grown) fun r e => by cases e)
    clear hm hpos2
    gi_loopw [17] (fun x wr => ∃ k : Nat, k ≤ m ∧ x = .int .i64 k ∧ Hid (J (hs.take k) wr) ∧ Hid (KpA n₀ Bn W wr)) (fun x _ => m - (intOf x).toNat)
    case atStart => exact ⟨0, Nat.zero_le _, rfl, HJ1, Lib.hid ⟨⟨rfl, rfl, rfl, Nat.le_refl _, fun _ _ => rfl⟩, rfl⟩⟩
    case round =>
      obtain ⟨k, hk, rfl, HJk, HBk⟩ := hrel
      have HDk := Lib.hid (HD.out.keep (w' := wr) fun j hj => HBk.out.1.block j (HF.out j hj))
      have hB' : wr.cell? ⟨Bn, 0, none⟩ = some (.pointer (some ⟨d, 0, none⟩)) := (World.cell?_of_block (w := W) HBk.out.2).trans hB
      by_cases hlt : k < m
      · obtain ⟨c, hc⟩ : ∃ c, D.T[at_ + k]? = some c := ⟨_, List.getElem?_eq_getElem (by rw [HE.out.1]; have := HM.out; omega)⟩
        have hcell : wr.cell? ⟨D.bo, at_ + k, none⟩ = some (ptrOf c) := HDk.out.old.cell hc
        unfold ptrOf at hcell
        have hx : hs[k]? = some c := by
          rw [← HH.out, List.getElem?_append_left (by rw [List.length_drop, HE.out.1, HE.out.2.2]; have := HM.out; omega), List.getElem?_drop, HE.out.2.2]
          exact hc
        obtain ⟨fn, tmps, assign, body, hy, hR⟩ := HY.out _ c wr HJk.out (take_prefix_snoc hx)
        rw [take_snoc_get hx] at hR
        have HR := Lib.hid hR
        have HX := Lib.hid hx
        dsimp only [encC] at hy
        clear hR hx hc
        gi_wp2_with fail
        refine HR.out.mono ?_
        rintro e W3 (⟨rfl, hJ3, hk3⟩ | ⟨rfl, hJx3, hk3⟩)
        · have HJ3 := Lib.hid hJ3
          have HB3 := Lib.hid (HBk.out.trans hk3)
          clear hJ3 hk3
          gi_wp2_with fail
          go_roundw
          case rel => exact ⟨k + 1, by omega, by go_num, HJ3, HB3⟩
          case measure => simp [intOf]; omega
        · gi_wp2_with fail
          refine bodyPost_ret (results_none rfl _ _ _) rfl ?_
          exact ⟨⟨_, rfl⟩, .inr ⟨_, List.take_prefix _ _, hJx3⟩⟩
      · obtain rfl : k = m := by omega
        obtain ⟨⟨e0, e1, e2, e3, e4⟩, ef⟩ := five HDk.out.head
        rw [show tabV D.bn D.Y = .slice p2 ny ny from HV2.out] at e2
        clear e0 e1 e3 e4 ef
        gi_wp2_with fail
        gi_loopw [31] (fun x wx => ∃ j : Nat, j ≤ ny ∧ x = .int .i64 j ∧ Hid (J (hs.take (k + j)) wx) ∧ Hid (KpA n₀ Bn W wx)) (fun x _ => ny - (intOf x).toNat)
        case atStart => exact ⟨0, Nat.zero_le _, rfl, HJk, HBk⟩
        case round =>
          obtain ⟨j, hj, rfl, HJj, HBj⟩ := hrel
          by_cases hlt2 : j < ny
          · obtain ⟨c, hc⟩ : ∃ c, D.Y[j]? = some c := ⟨_, List.getElem?_eq_getElem (by rw [HE.out.2.1]; exact hlt2)⟩
            obtain ⟨x0, rfl, hxb, hcell0⟩ := HC2.out j c hc
            have hcell : wr.cell? (x0.add j) = some (ptrOf c) := (HBj.out.1.cell (p := x0.add j) (by rw [Addr.add_block, hxb]; exact HF.out _ (.inr (.inr (.inl ⟨by rintro e; rw [e] at hc; simp at hc, rfl⟩))))).trans hcell0
            unfold ptrOf at hcell
            have hx : hs[k + j]? = some c := by
              have hl : (D.T.drop D.pos).length = k := by rw [List.length_drop, HE.out.1, HE.out.2.2, HM.out]
              rw [← HH.out, List.getElem?_append_right (by omega), hl, Nat.add_sub_cancel_left]
              exact hc
            obtain ⟨fn, tmps, assign, body, hy, hR⟩ := HY.out _ c wr HJj.out (take_prefix_snoc hx)
            rw [take_snoc_get hx] at hR
            have HR := Lib.hid hR
            dsimp only [encC] at hy
            clear hR hx hc hcell0
            gi_wp2_with fail
            refine HR.out.mono ?_
            rintro e W3 (⟨rfl, hJ3, hk3⟩ | ⟨rfl, hJx3, hk3⟩)
            · have HJ3 := Lib.hid hJ3
              have HB3 := Lib.hid (HBj.out.trans hk3)
              clear hJ3 hk3
              gi_wp2_with fail
              go_roundw
              case rel => exact ⟨j + 1, by omega, by go_num, HJ3, HB3⟩
              case measure => simp [intOf]; omega
            · gi_wp2_with fail
              refine bodyPost_ret (results_none rfl _ _ _) rfl ?_
              exact ⟨⟨_, rfl⟩, .inr ⟨_, List.take_prefix _ _, hJx3⟩⟩
          · obtain rfl : j = ny := by omega
            gi_wp2_with fail
            go_end0
            refine ⟨⟨_, rfl⟩, .inl ?_⟩
            have hl : hs.take (k + j) = hs := List.take_of_length_le (by rw [← HH.out, List.length_append, List.length_drop, HE.out.1, HE.out.2.1, HE.out.2.2, HM.out]; exact Nat.le_refl _)
            have := HJj.out
            rwa [hl] at this
theorem all_any (w : World) (p : Option Addr) : Calls Tryz.prog 192 #[.pointer p] w fun e w' => e = .returned (.func (.func 196) #[] #[.pointer (some ⟨w.heap.size, 0, none⟩)]) ∧ w' = w.alloc (.cells #[.pointer p] 145) := by
  go_enter Tryz.func192, Tryz.ntmps192
  go_wp2_with fail
  go_ret
  exact ⟨rfl, rfl⟩
theorem each_any (w : World) (p : Option Addr) : Calls Tryz.prog 187 #[.pointer p] w fun e w' => e = .returned (.func (.func 191) #[] #[.pointer (some ⟨w.heap.size, 0, none⟩)]) ∧ w' = w.alloc (.cells #[.pointer p] 145) := by
  go_enter Tryz.func187, Tryz.ntmps187
  go_wp2_with fail
  go_ret
  exact ⟨rfl, rfl⟩
theorem all_seq (n : Nat) (hn : 1 ≤ n) (Bn d n₀ : Nat) (D : Dc) (W : World) (hB : W.cell? ⟨Bn, 0, none⟩ = some (.pointer (some ⟨d, 0, none⟩))) (h : DictAt W d D) (hw : D.Wf) (hF : ∀ k, DFoot d D k → k < n₀) :
    SeqV Fence.wide n Tryz.prog 196 #[.pointer (some ⟨Bn, 0, none⟩)] encC (KpA n₀ Bn) (Dc.heads D) W := fun l J Jx W1 hW _ hJ _ hY h0 => by
  have hBl : Bn < W.heap.size := World.block_lt_of_cell? W _ hB
  exact all1_in n hn l Bn d n₀ D W1 ((hW.cell (p := ⟨Bn, 0, none⟩) hBl).trans hB) (h.keep fun k hk => hW.block k (h.lt k hk)) hw hF J Jx hJ hY h0
end Go.Proofs.YteiklgbjjmlmaaaGreat.DStr


/- Each of a dict: what its function goes through. -/
set_option linter.unusedVariables false
set_option linter.unusedSimpArgs false
namespace Go.Proofs.YteiklgbjjmlmaaaGreat.DStr
open Go.RowKit Pantry

attribute [local go_sem] Oper.semAt_some
attribute [-go_sem] Builtin.append_
theorem keyI : ElemT Tryz.prog 45 9 1 16 (.string ⟨#[]⟩) := ⟨Tryz.underlying45, by kernel_rfl, rfl, by omega, by omega⟩
/-- What Each yields: a key and what lies under it. -/
def encKV (x : List UInt8 × List UInt8) : Array Value := #[.string ⟨x.1.toArray⟩, .string ⟨x.2.toArray⟩]
def keyC (e : DE) : Value := .string ⟨e.key.toArray⟩
/-- A value as it may lie under a key. -/
def IsV (v : Value) : Prop := ∃ s : List UInt8, v = .string ⟨s.toArray⟩
/-- Between two entries of a chain. -/
def ColSt (W A : World) (d : Nat) (es : List DE) (X : World) : Prop := ∃ kv vv, TwoRows 45 9 45 9 W.heap.size W W.heap.size (W.heap.size + 1) es.length (es.map keyC) es.length (es.map (·.val)) X kv vv ∧ Boxed X (W.heap.size + 1 + 1) 145 (.pointer (some ⟨d, 0, none⟩)) ∧ Below W.heap.size A X ∧ KeepsOthers A X
theorem valI : ElemT Tryz.prog 45 9 1 16 (.string ⟨#[]⟩) := ⟨Tryz.underlying45, by kernel_rfl, rfl, by omega, by omega⟩

set_option maxHeartbeats 4000000 in
set_option maxRecDepth 100000 in
theorem each1_in (n : Nat) (hn : 4 ≤ n) (l Bn d : Nat) (D : Dc) (W : World) (hB : W.cell? ⟨Bn, 0, none⟩ = some (.pointer (some ⟨d, 0, none⟩))) (h : DictAt W d D) (hw : D.Wf)
    (kvl : List (List UInt8 × List UInt8)) (hkv : D.kv = kvl.map fun p => (p.1, .string ⟨p.2.toArray⟩)) (Kp : World → World → Prop) (Hd : List (Nat × Obj) → World → Prop) (hK : Keeper Kp W Hd)
    (J Jx : List (List UInt8 × List UInt8) → World → Prop) (hJ : OwnFrom W.heap.size J) (hJx0 : OwnFrom W.heap.size Jx)
    (hY : ∀ pre x A, J pre A → (pre ++ [x]) <+: kvl → YieldAt Fence.wide (n - 1) Tryz.prog l (encKV x) A fun e B => (e = .returned (.bool true) ∧ J (pre ++ [x]) B ∧ Kp A B) ∨ (e = .returned (.bool false) ∧ Jx (pre ++ [x]) B ∧ Kp A B)) (h0 : J [] W) :
    CallsIn Fence.wide n Tryz.prog 191 #[.func (.yield l) #[] #[], .pointer (some ⟨Bn, 0, none⟩)] W fun e W' => (∃ v, e = .returned v) ∧
      (J kvl W' ∨ (∃ pre, pre <+: kvl ∧ Jx pre W')) := by
  have HA := fun W => Lib.hid (all_any W (some ⟨d, 0, none⟩))
  have hn1 : 1 ≤ n := by omega
  have hone : ∀ e ∈ D.ents, IsV e.val := fun e he => by
    have h1 : e.kv ∈ D.kv := List.mem_map.2 ⟨e, he, rfl⟩
    rw [hkv] at h1
    obtain ⟨p, -, hp⟩ := List.mem_map.1 h1
    have : e.val = .string ⟨p.2.toArray⟩ := (congrArg Prod.snd hp).symm
    exact ⟨_, this⟩
  have hlen : D.ents.length ≤ 1099511627776 := hw.few
  have HD := Lib.hid h
  have HW := Lib.hid hw
  have HKV := Lib.hid hkv
  have HKK := Lib.hid hK
  have HJ := Lib.hid hJ
  have hJx := Lib.hid hJx0
  have HY := Lib.hid hY
  have HJ0 := Lib.hid h0
  have HON := Lib.hid hone
  have hBl : Bn < W.heap.size := World.block_lt_of_cell? W _ hB
  have hB2 : ((W.alloc (.cells #[.slice none 0 0] 45)).alloc (.cells #[.slice none 0 0] 45)).cell? ⟨Bn, 0, none⟩ = some (.pointer (some ⟨d, 0, none⟩)) :=
    (((Below.refl W.heap.size W).alloc (Nat.le_refl _) _).alloc (by simp) _ |>.cell (p := ⟨Bn, 0, none⟩) hBl).trans hB
  clear h hw hkv hK hJ hJx0 hY h0 hone
  refine callsIn_of_wp_marks Tryz.func191 rfl trivial ?_ rfl
  simp only [Tryz.ntmps191, List.size_toArray, List.length_cons, List.length_nil, Nat.reduceAdd, Nat.reduceSub, Array.replicate_succ, Array.replicate_zero, List.push_toArray, List.append_toArray, List.nil_append, List.cons_append]
  gi_wp2_with fail
  refine ⟨trivial, (callsIn_wide.2 (HA _).out).mono ?_⟩
  rintro e w' ⟨rfl, rfl⟩
  gi_wp2_with fail
  obtain ⟨W0, hW0⟩ : ∃ W0, (((W.alloc (.cells #[.slice none 0 0] 45)).alloc (.cells #[.slice none 0 0] 45)).alloc (.cells #[.pointer (some ⟨d, 0, none⟩)] 145)) = W0 := ⟨_, rfl⟩
  have hB0 : Below W.heap.size W W0 := by
    rw [← hW0]
    exact (((Below.refl _ W).alloc (Nat.le_refl _) _).alloc (by simp) _).alloc (by simp; omega) _
  have hs0 : W0.heap.size = W.heap.size + 1 + 1 + 1 := by rw [← hW0]; simp
  have hb0 : Boxed W0 W.heap.size 45 (.slice none 0 0) := by rw [← hW0]; exact ((Boxed.new W _ _).alloc _).alloc _
  have hb1 : Boxed W0 (W.heap.size + 1) 45 (.slice none 0 0) := by
    have := Boxed.new (W.alloc (.cells #[.slice none 0 0] 45)) 45 (.slice none 0 0)
    rw [World.size_alloc] at this
    rw [← hW0]; exact this.alloc _
  have hb2 : Boxed W0 (W.heap.size + 1 + 1) 145 (.pointer (some ⟨d, 0, none⟩)) := by
    have := Boxed.new ((W.alloc (.cells #[.slice none 0 0] 45)).alloc (.cells #[.slice none 0 0] 45)) 145 (.pointer (some ⟨d, 0, none⟩))
    rw [World.size_alloc, World.size_alloc] at this
    rw [← hW0]; exact this
  have hD0 : DictAt W0 d D := HD.out.keep fun k hk => hB0.block k (HD.out.lt k hk)
  have hst : TwoRows 45 9 45 9 W.heap.size W W.heap.size (W.heap.size + 1) 0 [] 0 [] W0 (.slice none 0 0) (.slice none 0 0) :=
    ⟨hb0, World.ownsRow_nil _ _ _ _, hb1, World.ownsRow_nil _ _ _ _, by simp [Value.ownBlock], hB0⟩
  rw [hW0]
  refine wpIn_rangeV rfl (by omega) (gf := 196) (lb := #[.pointer (some ⟨W.heap.size + 1 + 1, 0, none⟩)]) rfl trivial (enters_of Tryz.func196 (by kernel_rfl) rfl)
    (all_seq (n - 1) (by omega) (W.heap.size + 1 + 1) d W.heap.size D W0 hb2.cell hD0 HW.out (fun k hk => HD.out.lt k hk))
    (fun h k => h.trans k) (fun W1 o o' h1 h2 h3 => ⟨belowK_b (w := W0) (by omega) W1 _ o o' (by omega) h1 h2 h3, World.putObj_heap_other (by omega)⟩) (Below.refl _ _) (fun _ => rfl)
    (fun pre A => (∃ kv vv, TwoRows 45 9 45 9 W.heap.size W W.heap.size (W.heap.size + 1) (pre.flatten).length ((pre.flatten).map keyC) (pre.flatten).length ((pre.flatten).map (·.val)) A kv vv) ∧ Boxed A (W.heap.size + 1 + 1) 145 (.pointer (some ⟨d, 0, none⟩)) ∧ Below W.heap.size W0 A)
    (fun _ _ _ => False)
    ((twoRows_own (Nat.le_refl _) (by omega) _ _ _ _).and ((Own.from (boxed_own _ _ _) _).and (ownFrom_below (by omega) (by omega))))
    (fun _ _ _ _ _ h _ _ => h)
    ⟨⟨_, _, hst⟩, hb2, Below.refl _ _⟩
    (fun x => { tmps := #[.func (.yield l) #[] #[], .pointer (some ⟨Bn, 0, none⟩), undef, .pointer (some ⟨W.heap.size, 0, none⟩), .pointer (some ⟨W.heap.size + 1, 0, none⟩), .pointer (ptrA x), undef, undef, .pointer (some ⟨d, 0, none⟩), .bool false, .pointer (some ⟨d, 0, none⟩), .func (.func 196) #[] #[.pointer (some ⟨W.heap.size + 1 + 1, 0, none⟩)], .pointer (ptrA x), undef, undef, undef, undef, undef, undef, undef, undef, undef, undef, undef, undef, undef, undef, undef, undef, undef, undef, undef, undef, undef, undef, undef, undef, undef, undef, undef, undef, undef, undef, undef, undef, undef, undef, undef, undef], defers := [] }) ?assign ?body ?done ?stop
  case assign =>
    intro l x W K hK
    simp only [encC]
    gi_wp2
    exact hK
  case body =>
    rintro l2 pre x A ⟨⟨kv, vv, hT⟩, hbD, hB⟩ hlt
    obtain ⟨c, hc⟩ : ∃ c, x = c := ⟨_, rfl⟩
    rw [hc] at hlt ⊢
    have hcm : c ∈ Dc.heads D := hlt.subset (by simp)
    have hcp : ChainAt W0 c ∧ ∀ e ∈ c, e.b < W.heap.size ∧ IsV e.val := by
      rcases List.mem_append.1 hcm with hm | hm
      · have hm' := List.mem_of_mem_drop hm
        have he' : ∀ e ∈ c, e ∈ D.ents := fun e he => List.mem_append.2 (.inl (List.mem_flatten.2 ⟨c, hm', he⟩))
        exact ⟨hD0.chT c hm', fun e he => ⟨HD.out.lt _ (.inr (.inr (.inr ⟨e, he' e he, rfl⟩))), HON.out e (he' e he)⟩⟩
      · have he' : ∀ e ∈ c, e ∈ D.ents := fun e he => List.mem_append.2 (.inr (List.mem_flatten.2 ⟨c, hm, he⟩))
        exact ⟨hD0.chY c hm, fun e he => ⟨HD.out.lt _ (.inr (.inr (.inr ⟨e, he' e he, rfl⟩))), HON.out e (he' e he)⟩⟩
    have hfl : (pre ++ [c]).flatten.length ≤ 1099511627776 := by
      obtain ⟨t, ht⟩ := hlt
      have h1 : (pre ++ [c]).flatten.length ≤ (Dc.heads D).flatten.length := by rw [← ht]; simp only [List.flatten_append, List.length_append]; omega
      rw [heads_flat HW.out] at h1
      omega
    have HX := Lib.hid hcp
    obtain ⟨p0, hp0⟩ : ∃ p, ptrA c = p := ⟨_, rfl⟩
    rw [hp0]
    have HP0 := Lib.hid hp0
    have hmx : Tryz.prog.follows .mixedOrders = true := by kernel_rfl
    have HBA := Lib.hid hB
    obtain ⟨es, hes⟩ : ∃ es, pre.flatten = es := ⟨_, rfl⟩
    rw [hes] at hT
    have HES := Lib.hid hes
    have HBD0 := Lib.hid hbD
    have HT0 := Lib.hid (show ColSt W A d es A from ⟨kv, vv, hT, hbD, Below.refl _ _, KeepsOthers.refl _⟩)
    have HL0 : Hid (∀ done rest : List DE, c = done ++ rest → (es ++ done).length + rest.length ≤ 1099511627776) := Lib.hid fun done rest e => by
      rw [List.flatten_append, List.length_append, hes] at hfl
      rw [e] at hfl
      simp at hfl ⊢
      omega
    clear hc hT hbD hB hes hp0 hlt hcm hcp hfl
    gi_wp2_with fail
    gi_loopg [5] (c.length + 1) (fun g p wx => ∃ done rest : List DE, p = .pointer (ptrA rest) ∧ rest.length + 1 ≤ g ∧ Hid (c = done ++ rest ∧ ColSt W A d (es ++ done) wx))
    case atStart => exact ⟨[], c, by rw [HP0.out], Nat.le_refl _, Lib.hid ⟨rfl, by rw [List.append_nil]; exact HT0.out⟩⟩
    case round =>
      obtain ⟨done, rest, rfl, hg, HH⟩ := hrel
      obtain ⟨kv, vv, hT, hbD, hBx, hKx⟩ := HH.out.2
      cases rest with
      | nil =>
        simp only [ptrA]
        have HN := Lib.hid (show KeepsFrom W0.heap.size A wr ∧ KpA W.heap.size (W.heap.size + 1 + 1) A wr from ⟨hKx.from _, hBx, by rw [show wr.heap[W.heap.size + 1 + 1]? = _ from hbD, show A.heap[W.heap.size + 1 + 1]? = _ from HBD0.out]⟩)
        have HF := Lib.hid (show ∃ kv vv, TwoRows 45 9 45 9 W.heap.size W W.heap.size (W.heap.size + 1) (pre ++ [c]).flatten.length ((pre ++ [c]).flatten.map keyC) (pre ++ [c]).flatten.length ((pre ++ [c]).flatten.map (·.val)) wr kv vv from ⟨kv, vv, by
          have h1 : (pre ++ [c]).flatten = es ++ done := by rw [List.flatten_append, HES.out, HH.out.1]; simp
          rw [h1]
          exact hT⟩)
        have HBD := Lib.hid hbD
        have HBX := Lib.hid (HBA.out.trans hBx)
        clear hT hbD hBx hKx
        gi_wp2_with fail
        exact ⟨HN.out.1, HN.out.2, HF.out, HBD.out, HBX.out⟩
      | cons e r =>
        simp only [ptrA]
        have hce := HH.out.1
        have hch : ChainAt W0 (e :: r) := by
          have h1 := HX.out.1.drop done.length
          rw [hce, List.drop_left] at h1
          exact h1
        have hmem : e ∈ c := by rw [hce]; simp
        obtain ⟨hel, he1⟩ := HX.out.2 e hmem
        have hebx : ∀ X, Below W.heap.size A X → X.heap[e.b]? = some (.cells #[.string ⟨e.key.toArray⟩, e.val, ptrOf r] 193) := fun X hX => ((HBA.out.trans hX).block e.b hel).trans hch.1
        obtain ⟨⟨c0, c1, c2⟩, -⟩ := three (hebx wr hBx)
        have hl0 := HL0.out done (e :: r) hce
        obtain ⟨q, hq⟩ : ∃ q, (es ++ done).length = q := ⟨_, rfl⟩
        rw [hq] at hT hl0
        have HQ := Lib.hid hq
        have HL1 := Lib.hid hl0
        clear hq
        have hKA := hT.add keyI 45 (by decide) (by decide) (by decide) (by omega) (by omega) (Nat.le_refl _) (keyC e) rfl (by omega)
        obtain ⟨g1, p1, w1, hr1, hk1, hf1, hT1, hcg1⟩ := hKA
        have hbk := hT.bk.cell
        have hbk2 := (hT.bk.alloc (.cells #[.string ⟨e.key.toArray⟩] 9)).cell
        have hbv := hT.bv.cell
        have HT1 := Lib.hid hT1
        have HCG1 := Lib.hid hcg1
        have HT := Lib.hid hT
        have HBX := Lib.hid hBx
        have HKX := Lib.hid hKx
        have HEBX := Lib.hid hebx
        have HBD := Lib.hid hbD
        have HCH := Lib.hid hch
        have HE1 := Lib.hid he1
        unfold keyC at hr1
        clear hT hbD hBx hKx hT1 hcg1 hebx hch he1 hce hmem hel hl0 hbv
        gi_wp2_with fail
        refine wpIn_cut (fun a' w' => ∃ x19 x20 x21 x22 x23 x24 x25, w' = w1.setCell ⟨W.heap.size, 0, none⟩ (.slice (some ⟨g1, 0, none⟩) (q + 1) p1) ∧ a' = { tmps := #[.func (.yield l) #[] #[], .pointer (some ⟨Bn, 0, none⟩), undef, .pointer (some ⟨W.heap.size, 0, none⟩), .pointer (some ⟨W.heap.size + 1, 0, none⟩), .pointer (some ⟨e.b, 0, none⟩), undef, undef, .pointer (some ⟨d, 0, none⟩), .bool false, .pointer (some ⟨d, 0, none⟩), .func (.func 196) #[] #[.pointer (some ⟨W.heap.size + 1 + 1, 0, none⟩)], .pointer p0, .pointer (some ⟨e.b, 0, none⟩), .bool true, u15, u16, u17, u18, x19, x20, x21, x22, x23, x24, x25, u26, u27, u28, u29, u30, u31, u32, undef, undef, undef, undef, undef, undef, undef, undef, undef, undef, undef, undef, undef, undef, undef, undef], defers := [] }) ?rest1 ?first1
        case first1 =>
          intro J1 K1 hJ1 hK1
          gi_region_with_o (fail)
          all_goals exact hK1 _ _ (hJ1 _ _ ⟨_, _, _, _, _, _, _, rfl, rfl⟩)
        case rest1 =>
          rintro a' w' ⟨x19, x20, x21, x22, x23, x24, x25, rfl, rfl⟩
          obtain ⟨w2, hw2⟩ : ∃ w2, w1.setCell ⟨W.heap.size, 0, none⟩ (.slice (some ⟨g1, 0, none⟩) (q + 1) p1) = w2 := ⟨_, rfl⟩
          rw [hw2] at HT1 HCG1 ⊢
          clear hw2 hr1 hk1 hf1 c0 c1 c2 hbk hbk2
          have hT2 := HT1.out.swap
          have hS1 : ∀ k, (k = W.heap.size ∨ kv.ownBlock = some k) → W.heap.size ≤ k := by
            rintro k (rfl | hk)
            · exact Nat.le_refl _
            · exact (ownsRow_cells HT.out.rk hk).choose_spec.2
          have hB2 : Below W.heap.size A w2 := HBX.out.trans (HCG1.out.below (Nat.le_trans (by omega) HT.out.below.size) hS1)
          have hl1 := HL1.out
          have hE2 : ElemT Tryz.prog 45 9 1 16 (.string ⟨#[]⟩) := valI
          obtain ⟨ev, hev⟩ := HE1.out
          obtain ⟨g2, p2, w3, hr2, hk2, hf2, hT3, hcg2⟩ := hT2.add hE2 45 (by decide) (by decide) (by decide) (by omega) (by omega) (Nat.le_refl _) (.string ⟨ev.toArray⟩) rfl (by omega)
          have hbv := hT2.bk.cell
          have hbv2 := (hT2.bk.alloc (.cells #[.string ⟨ev.toArray⟩] 9)).cell
          obtain ⟨⟨-, c1, c2⟩, -⟩ := three (HEBX.out w2 hB2)
          have HT3 := Lib.hid hT3
          have HCG2 := Lib.hid hcg2
          have HT2 := Lib.hid hT2
          have HB2 := Lib.hid hB2
          have HS1 := Lib.hid hS1
          rw [hev] at c1
          have HEV := Lib.hid hev
          clear hev
          clear hT3 hcg2 hT2 hB2 hS1 hl1 hE2 c2
          gi_wp2_with fail
          refine wpIn_mono (Q := fun x a' w' => x = Exit.normal ∧ ∃ x26 x27 x28 x29 x30 x31 x32, w' = w3.setCell ⟨W.heap.size + 1, 0, none⟩ (.slice (some ⟨g2, 0, none⟩) (q + 1) p2) ∧ a' = { tmps := #[.func (.yield l) #[] #[], .pointer (some ⟨Bn, 0, none⟩), undef, .pointer (some ⟨W.heap.size, 0, none⟩), .pointer (some ⟨W.heap.size + 1, 0, none⟩), .pointer (some ⟨e.b, 0, none⟩), undef, undef, .pointer (some ⟨d, 0, none⟩), .bool false, .pointer (some ⟨d, 0, none⟩), .func (.func 196) #[] #[.pointer (some ⟨W.heap.size + 1 + 1, 0, none⟩)], .pointer p0, .pointer (some ⟨e.b, 0, none⟩), .bool true, u15, u16, u17, u18, x19, x20, x21, x22, x23, x24, x25, x26, x27, x28, x29, x30, x31, x32, undef, undef, undef, undef, undef, undef, undef, undef, undef, undef, undef, undef, undef, undef, undef, undef], defers := [] }) ?first2 ?rest2
          case first2 =>
            gi_region_with_o (fail)
            all_goals exact ⟨rfl, _, _, _, _, _, _, _, rfl, rfl⟩
          case rest2 =>
            rintro x a' w' ⟨rfl, x26, x27, x28, x29, x30, x31, x32, rfl, rfl⟩
            obtain ⟨w4, hw4⟩ : ∃ w4, w3.setCell ⟨W.heap.size + 1, 0, none⟩ (.slice (some ⟨g2, 0, none⟩) (q + 1) p2) = w4 := ⟨_, rfl⟩
            rw [hw4] at HT3 HCG2 ⊢
            clear hw4 hr2 hk2 hf2 c1 hbv hbv2
            have hS2 : ∀ k, (k = W.heap.size + 1 ∨ vv.ownBlock = some k) → W.heap.size ≤ k := by
              rintro k (rfl | hk)
              · omega
              · exact (ownsRow_cells HT2.out.rk hk).choose_spec.2
            have hB4 : Below W.heap.size A w4 := HB2.out.trans (HCG2.out.below (Nat.le_trans (Nat.le_refl _) HT2.out.below.size) hS2)
            obtain ⟨⟨-, -, c2⟩, -⟩ := three (HEBX.out w4 hB4)
            unfold ptrOf at c2
            have HB4 := Lib.hid hB4
            have HS2 := Lib.hid hS2
            clear hB4 hS2
            gi_wp2_with fail
            gi_roundg (r.length + 1)
            case measure => simp at hg; omega
            case rel =>
              refine ⟨done ++ [e], r, rfl, Nat.le_refl _, Lib.hid ⟨by rw [HH.out.1]; simp, ?_⟩⟩
              have hlq : (es ++ (done ++ [e])).length = q + 1 := by rw [← HQ.out, ← List.append_assoc]; simp; omega
              have hfin := HT3.out.swap
              refine ⟨_, _, by
                rw [hlq, ← List.append_assoc, List.map_append, List.map_append (l₁ := es ++ done)]
                simp only [List.map_cons, List.map_nil]
                rw [HEV.out]
                exact hfin, ?_, HB4.out, ?_⟩
              · have hd2 : Boxed w2 (W.heap.size + 1 + 1) 145 (.pointer (some ⟨d, 0, none⟩)) := HCG1.out.heap HBD.out (by
                  rintro (e | e)
                  · omega
                  · exact (HBD.out.not_row (by decide) HT.out.rk) e.symm)
                exact HCG2.out.heap hd2 (by
                  rintro (e | e)
                  · omega
                  · exact (hd2.not_row (by decide) HT2.out.rk) e.symm)
              · refine (HKX.out.trans (HCG1.out.others ?_)).trans (HCG2.out.others ?_)
                · rintro k (rfl | hk)
                  · exact ⟨_, _, _, HT.out.bk⟩
                  · obtain ⟨c', hc', -⟩ := ownsRow_cells HT.out.rk hk
                    exact ⟨_, _, _, hc'⟩
                · rintro k (rfl | hk)
                  · exact ⟨_, _, _, HT2.out.bk⟩
                  · obtain ⟨c', hc', -⟩ := ownsRow_cells HT2.out.rk hk
                    exact ⟨_, _, _, hc'⟩
  case done =>
    rintro E1 A hE ⟨⟨kv, vv, hT⟩, hbD, hB⟩ hKE
    rw [heads_flat HW.out] at hT
    have hk1 : D.ents.map keyC = kvl.map fun p => .string ⟨p.1.toArray⟩ := by
      have h1 := congrArg (List.map fun p : List UInt8 × Value => Value.string ⟨p.1.toArray⟩) HKV.out
      show D.ents.map (fun e => Value.string ⟨e.key.toArray⟩) = _
      simpa [Dc.kv, DE.kv, Function.comp_def] using h1
    have hv1 : D.ents.map (·.val) = kvl.map fun p => .string ⟨p.2.toArray⟩ := by
      have h1 := congrArg (List.map fun p : List UInt8 × Value => p.2) HKV.out
      simpa [Dc.kv, DE.kv, Function.comp_def] using h1
    have hln : D.ents.length = kvl.length := by
      have h1 := congrArg List.length HKV.out
      simpa [Dc.kv] using h1
    rw [hk1, hv1, hln] at hT
    rw [hln] at hlen
    obtain ⟨nn, hnn⟩ : ∃ nn, kvl.length = nn := ⟨_, rfl⟩
    rw [hnn] at hT hlen
    have HN := Lib.hid hnn
    have HJA := Lib.hid (ownBelow HJ.out HJ0.out hT.below)
    obtain ⟨pk, ck, rfl, -⟩ := ownsRow_rd hT.rk (by intro u hu; obtain ⟨p, -, rfl⟩ := List.mem_map.1 hu; rfl)
    obtain ⟨pv, cv, rfl, -⟩ := ownsRow_rd hT.rv (by intro u hu; obtain ⟨p, -, rfl⟩ := List.mem_map.1 hu; rfl)
    obtain ⟨lk, hlk1, hlk2⟩ := rowObjs hT.rk
    obtain ⟨lv, hlv1, hlv2⟩ := rowObjs hT.rv
    obtain ⟨os, hos⟩ : ∃ os : List (Nat × Obj), (E1, Obj.deferred (some [])) :: (W.heap.size + 1, Obj.cells #[.slice pv nn cv] 45) :: (lk ++ lv) = os := ⟨_, rfl⟩
    have hst : ∀ p ∈ os, A.heap[p.1]? = some p.2 ∧ W.heap.size ≤ p.1 := by
      intro p hp
      rw [← hos] at hp
      rcases List.mem_cons.1 hp with rfl | hp
      · exact ⟨hKE, by simp; omega⟩
      · rcases List.mem_cons.1 hp with rfl | hp
        · exact ⟨hT.bv, by simp⟩
        · rcases List.mem_append.1 hp with hp | hp
          · exact hlk1 p hp
          · exact hlv1 p hp
    have HHD := Lib.hid (HKK.out.start os A hst hT.below)
    have HUSE : Hid (∀ X, Hd os X → X.heap[E1]? = some (.deferred (some [])) ∧ Boxed X (W.heap.size + 1) 45 (.slice pv nn cv) ∧ Rd X pk (kvl.map fun p => .string ⟨p.1.toArray⟩) ∧ Rd X pv (kvl.map fun p => .string ⟨p.2.toArray⟩)) := Lib.hid fun X hX => by
      have h1 := HKK.out.obj os X hX
      rw [← hos] at h1
      refine ⟨h1 (E1, .deferred (some [])) (by simp), h1 (W.heap.size + 1, .cells #[.slice pv nn cv] 45) (by simp), ?_, ?_⟩
      · obtain ⟨p, c, hv, hr⟩ := ownsRow_rd (hlk2 X fun q hq => h1 q (by simp [hq])) (by intro u hu; obtain ⟨p, -, rfl⟩ := List.mem_map.1 hu; rfl)
        cases hv; exact hr
      · obtain ⟨p, c, hv, hr⟩ := ownsRow_rd (hlv2 X fun q hq => h1 q (by simp [hq])) (by intro u hu; obtain ⟨p, -, rfl⟩ := List.mem_map.1 hu; rfl)
        cases hv; exact hr
    have hbk := hT.bk.cell
    clear hT hbD hB hKE hk1 hv1 hln hnn hlk1 hlk2 hlv1 hlv2 hos hst
    gi_wp2_with fail
    gi_loopw [35] (fun i wr => ∃ k : Nat, k ≤ nn ∧ i = .int .i64 k ∧ Hid (J (kvl.take k) wr) ∧ Hid (Hd os wr)) (fun i _ => nn - (intOf i).toNat)
    case atStart => exact ⟨0, Nat.zero_le _, rfl, HJA, HHD⟩
    case round =>
      obtain ⟨k, hk, rfl, HJk, HDk⟩ := hrel
      by_cases hlt : k < nn
      · obtain ⟨x, hx⟩ : ∃ x, kvl[k]? = some x := ⟨_, List.getElem?_eq_getElem (by rw [HN.out]; exact hlt)⟩
        obtain ⟨-, hbv, hrk, hrv⟩ := HUSE.out wr HDk.out
        obtain ⟨-, xk, rfl, hck⟩ := hrk k (.string ⟨x.1.toArray⟩) (by rw [List.getElem?_map, hx]; rfl)
        obtain ⟨-, xv, rfl, hcv⟩ := hrv k (.string ⟨x.2.toArray⟩) (by rw [List.getElem?_map, hx]; rfl)
        have hbvc := hbv.cell
        obtain ⟨fn, tmps, assign, body, hy, hR⟩ := HY.out _ x wr HJk.out (take_prefix_snoc hx)
        have HR := Lib.hid hR
        have HX := Lib.hid hx
        dsimp only [encKV] at hy
        clear hR hx hbv hrk hrv
        gi_wp2_with fail
        refine HR.out.mono ?_
        rintro e W3 (⟨rfl, hJ3, hk3⟩ | ⟨rfl, hJx3, hk3⟩)
        · have HJ3 := Lib.hid hJ3
          have HD3 := Lib.hid (HKK.out.kp _ _ _ hk3 HDk.out)
          clear hJ3 hk3
          gi_wp2_with fail
          go_roundw
          case rel => exact ⟨k + 1, by omega, by go_num, Lib.hid (by rw [← take_snoc_get HX.out]; exact HJ3.out), HD3⟩
          case measure => simp [intOf]; omega
        · have HE := Lib.hid (HUSE.out W3 (HKK.out.kp _ _ _ hk3 HDk.out)).1
          have HPX := Lib.hid (show _ ∧ _ from ⟨take_prefix_snoc HX.out, hJx3⟩)
          clear hJx3 hk3
          gi_wp2_with fail
          refine ⟨by simp, .inl ⟨_, _, rfl, run_takeDeferred HE.out, ?_⟩⟩
          refine ⟨_, results_none rfl _ _ _, ⟨_, rfl⟩, .inr ⟨_, HPX.out.1, ?_⟩⟩
          exact hJx.out.putObj _ HPX.out.2 (by omega) HE.out rfl
      · obtain rfl : k = nn := by omega
        have HE := Lib.hid (HUSE.out wr HDk.out).1
        have HJE : Hid (J kvl wr) := Lib.hid (by
          have := HJk.out
          rwa [List.take_of_length_le (by rw [HN.out]; exact Nat.le_refl _)] at this)
        gi_wp2_with fail
        refine ⟨by simp, .inl ⟨_, _, rfl, run_takeDeferred HE.out, ?_⟩⟩
        refine ⟨_, results_none rfl _ _ _, ⟨_, rfl⟩, .inl ?_⟩
        exact HJ.out.putObj _ HJE.out (by omega) HE.out rfl
  case stop =>
    rintro D c pre W hD hSp h _
    exact h.elim
theorem each_seq (n : Nat) (hn : 4 ≤ n) (Bn d : Nat) (D : Dc) (w : World) (hB : w.cell? ⟨Bn, 0, none⟩ = some (.pointer (some ⟨d, 0, none⟩))) (h : DictAt w d D) (hw : D.Wf)
    (kvl : List (List UInt8 × List UInt8)) (hkv : D.kv = kvl.map fun p => (p.1, .string ⟨p.2.toArray⟩)) (Kp : World → World → Prop) (Hd : List (Nat × Obj) → World → Prop)
    (hK : ∀ W, Below w.heap.size w W → w.heap.size + 2 ≤ W.heap.size → Keeper Kp W Hd) :
    SeqV Fence.wide n Tryz.prog 191 #[.pointer (some ⟨Bn, 0, none⟩)] encKV Kp kvl w := fun l J Jx W hW hsz hJ hJx hY h0 => by
  have hBl : Bn < w.heap.size := World.block_lt_of_cell? w _ hB
  exact each1_in n hn l Bn d D W ((hW.cell (p := ⟨Bn, 0, none⟩) hBl).trans hB) (h.keep fun k hk => hW.block k (h.lt k hk)) hw kvl hkv Kp Hd (hK W hW hsz) J Jx hJ hJx hY h0
end Go.Proofs.YteiklgbjjmlmaaaGreat.DStr
