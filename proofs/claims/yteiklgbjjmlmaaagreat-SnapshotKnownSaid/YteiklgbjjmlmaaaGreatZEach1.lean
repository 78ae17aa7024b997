
/- What goes through a deque: the function that Each hands back. -/
import Derived.Test.YteiklgbjjmlmaaaGreatZEach
import Derived.Test.YteiklgbjjmlmaaaGreatZIter
import Derived.RangeFuncNested
import Derived.RangeFuncBound
import Derived.RangeFuncCalls
import Derived.RangeFuncLeaves
import Derived.RangeFuncBox
import Derived.Shelf.Abstract
import Derived.Shelf.RegionOpen
import Derived.WalkKit
import Derived.OwnWalkIn
import Derived.TacticsInMore
import Derived.LoopNIn
import Derived.LoopIn
namespace Pantry
open Go Go.RowKit
/-- The texts with their places. -/
def placed (l : List Txt) : List (Nat × Txt) := l.zipIdx.map fun p => (p.2, p.1)
theorem placed_snoc (l : List Txt) (x : Txt) : placed (l ++ [x]) = placed l ++ [(l.length, x)] := by simp [placed, List.zipIdx_append]
theorem placed_length (l : List Txt) : (placed l).length = l.length := by simp [placed]
theorem placed_append (l m : List Txt) : placed l <+: placed (l ++ m) := by
  induction m generalizing l with
  | nil => simp
  | cons x m ih =>
    have h1 : placed l <+: placed (l ++ [x]) := by rw [placed_snoc]; exact List.prefix_append _ _
    have h2 := ih (l ++ [x])
    rw [List.append_assoc, List.singleton_append] at h2
    exact h1.trans h2
def encs2 (x : Nat × Txt) : Array Value := #[.int .i64 x.1, .string ⟨x.2.toArray⟩]
theorem abidesQuiet {β : Type} {B : Nat} {J : β → World → Prop} (h : AbidesFrom B J) {s : β} {w w' : World} (hs : J s w) (hc : Chg (fun _ => False) w w') : J s w' :=
  h s w w' none hs hc.grown fun r e => by cases e
end Pantry
namespace Go.Proofs.YteiklgbjjmlmaaaGreat
open Go.RowKit Pantry

attribute [local go_sem] Oper.semAt_some

/-- What is kept of a copy while a loop goes through it. -/
structure Holds (cs : List (List Txt)) (Kp : World → World → Prop) (W : World) (Hd : Nat → Value → List Nat → World → Prop) : Prop where
  deq : ∀ d v gs A, Hd d v gs A → DeqAt A d v gs cs
  start : ∀ d v gs A, DeqAt A d v gs cs → Chg (fun _ => False) W A → (∀ j, Foot d v gs j → W.heap.size ≤ j) → Hd d v gs A
  kp : ∀ d v gs A B, Kp A B → Hd d v gs A → Hd d v gs B
  quiet : ∀ d v gs A B, Chg (fun _ => False) A B → Hd d v gs A → Hd d v gs B
/-- A deque, or none at all. -/
def DeqOr (w : World) (p : Option Addr) (cs : List (List Txt)) : Prop := (p = none ∧ cs = []) ∨ ∃ d v gs, p = some ⟨d, 0, none⟩ ∧ DeqAt w d v gs cs
theorem copy_or {w : World} {p : Option Addr} {cs : List (List Txt)} (h : DeqOr w p cs) (hf : Fits cs) : Calls Tryz.prog 178 #[.pointer p] w (CopyPost cs w) := by
  rcases h with ⟨rfl, rfl⟩ | ⟨d, v, gs, rfl, h⟩
  · refine (copy_nil w).mono ?_
    rintro e w' ⟨rfl, rfl⟩
    refine ⟨w.heap.size, .slice none 0 0, [], rfl, ⟨heap_alloc_new w _, World.ownsRow_nil _ _ _ _, by simp, List.nodup_nil, by simp, by simp [Value.ownBlock], by simp⟩, (Chg.refl _ _).alloc _, ?_⟩
    rintro j (rfl | h | h)
    · exact Nat.le_refl _
    · simp at h
    · cases h
  · exact copy_any w d v gs cs h hf
theorem flat_step {cs : List (List Txt)} {k : Nat} {c : List Txt} (h : cs[k]? = some c) : (cs.take (k + 1)).flatten = (cs.take k).flatten ++ c := by
  rw [List.take_add_one, h]; simp
theorem flat_prefix {cs : List (List Txt)} {k j : Nat} {c : List Txt} (h : cs[k]? = some c) : placed ((cs.take k).flatten ++ c.take j) <+: placed cs.flatten := by
  have e : cs.flatten = ((cs.take k).flatten ++ c.take j) ++ (c.drop j ++ (cs.drop (k + 1)).flatten) := by
    have e1 : cs.flatten = (cs.take k).flatten ++ c ++ (cs.drop (k + 1)).flatten := by rw [← flat_step h, ← List.flatten_append, List.take_append_drop]
    have e2 : c = c.take j ++ c.drop j := (List.take_append_drop j c).symm
    rw [e1]
    conv => lhs; rw [e2]
    simp only [List.append_assoc]
  rw [e]
  exact placed_append _ _

set_option maxHeartbeats 4000000 in
set_option maxRecDepth 100000 in
theorem each1_in (n : Nat) (hn : 1 ≤ n) (l Bn : Nat) (p : Option Addr) (cs : List (List Txt)) (W : World) (Kp : World → World → Prop) (Hd : Nat → Value → List Nat → World → Prop) (hH : Holds cs Kp W Hd)
    (hB : W.cell? ⟨Bn, 0, none⟩ = some (.pointer p)) (h : DeqOr W p cs) (hf : Fits cs) (J Jx : List (Nat × Txt) → World → Prop) (hJ : AbidesFrom W.heap.size J)
    (hY : ∀ pre x A, J pre A → pre.length < cs.flatten.length → YieldAt Fence.wide (n - 1) Tryz.prog l (encs2 x) A fun e B =>
      (e = .returned (.bool true) ∧ J (pre ++ [x]) B ∧ Kp A B) ∨ (e = .returned (.bool false) ∧ Jx (pre ++ [x]) B)) (h0 : J [] W) :
    CallsIn Fence.wide n Tryz.prog 177 #[.func (.yield l) #[] #[], .pointer (some ⟨Bn, 0, none⟩)] W fun e W' => (∃ v, e = .returned v) ∧
      ((∃ ys, ys = placed cs.flatten ∧ J ys W') ∨ (∃ pre, pre <+: placed cs.flatten ∧ Jx pre W')) := by
  have HC := Lib.hid (copy_or h hf)
  have HF := Lib.hid hf
  have hrl := hf.rows
  have htl := hf.total
  obtain ⟨m, hm⟩ : ∃ m, cs.length = m := ⟨_, rfl⟩
  rw [hm] at hrl
  have HM := Lib.hid hm
  have HJ := Lib.hid hJ
  have HY := Lib.hid hY
  have HH := Lib.hid hH
  have HJ0 := Lib.hid h0
  obtain ⟨tt, htt⟩ : ∃ t, total cs = t := ⟨_, rfl⟩
  rw [htt] at htl
  have HTT := Lib.hid htt
  clear h hf hm hJ hY hH h0 htt
  refine callsIn_of_wp Tryz.func177 rfl trivial ?_ rfl
  simp only [Tryz.ntmps177, List.size_toArray, List.length_cons, List.length_nil, Nat.reduceAdd, Nat.reduceSub, Array.replicate_succ, Array.replicate_zero, List.push_toArray, List.append_toArray, List.nil_append, List.cons_append]
  gi_wp2_with fail
  refine ⟨trivial, (callsIn_wide.2 HC.out).mono ?_⟩
  rintro e w' ⟨dd, v2, gs2, rfl, hd2, hc2, hf2⟩
  have HD2 := Lib.hid (HH.out.start dd v2 gs2 w' hd2 hc2 hf2)
  have HJ2 := Lib.hid (abidesQuiet HJ.out HJ0.out hc2)
  obtain ⟨a2, k2, hv2, -⟩ := ownsRow_rd hd2.row (ptr_one gs2)
  rw [HM.out] at hv2
  subst hv2
  obtain ⟨⟨d0, d1, d2⟩, -⟩ := threeQ hd2.head
  clear hd2 hc2 hf2 d1 d2
  gi_wp2_with fail
  gi_loopw [3, 14] (fun x y wr => ∃ k t : Nat, k ≤ m ∧ x = .int .i64 t ∧ y = .int .i64 k ∧ Hid (t = total (cs.take k)) ∧ Hid (J (placed (cs.take k).flatten) wr) ∧ Hid (Hd dd (.slice a2 m k2) gs2 wr)) (fun _ y _ => m - (intOf y).toNat)
  case atStart => exact ⟨0, 0, Nat.zero_le _, rfl, rfl, Lib.hid rfl, Lib.hid HJ2.out, Lib.hid HD2.out⟩
  case round =>
    obtain ⟨k, t, hk, rfl, rfl, HT, HJk, HDk⟩ := hrel
    by_cases hlt : k < m
    · obtain ⟨c, hc⟩ : ∃ c, cs[k]? = some c := ⟨_, List.getElem?_eq_getElem (by rw [HM.out]; exact hlt)⟩
      have hdk := HH.out.deq _ _ _ _ HDk.out
      obtain ⟨g, sb, cap, hg, hv', -, -, hcell, hch⟩ := hdk.at hc
      rw [HM.out] at hv'
      cases hv'
      have hc32 := HF.out.chunk c (List.mem_of_getElem? hc)
      obtain ⟨q, hq⟩ : ∃ q, c.length = q := ⟨_, rfl⟩
      have hn32 := hch.n hc32
      rw [hq] at hc32 hn32
      have hb2 : (q : Int) ≤ 32 := by omega
      have HQ := Lib.hid hq
      have HC1 := Lib.hid hc
      have HG := Lib.hid hg
      clear hc hch hq hdk hg
      gi_wp2_with fail
      gi_region
      all_goals
        gi_wp2_with fail
        gi_loopw [3, 27] (fun x y wx => ∃ j t2 : Nat, j ≤ q ∧ x = .int .i64 t2 ∧ y = .int .i64 j ∧ Hid (t2 = total (cs.take k) + j) ∧ Hid (J (placed ((cs.take k).flatten ++ c.take j)) wx) ∧ Hid (Hd dd (.slice (some ⟨sb, 0, none⟩) m k2) gs2 wx)) (fun _ y _ => q - (intOf y).toNat)
        case atStart =>
          refine ⟨0, t, Nat.zero_le _, rfl, rfl, Lib.hid (by rw [HT.out]; rfl), Lib.hid ?_, Lib.hid (HH.out.quiet _ _ _ _ _ (Chg.refl _ _).drew HDk.out)⟩
          rw [List.take_zero, List.append_nil]
          exact HJ.out _ _ _ none HJk.out (((Chg.refl _ _).drew : Chg (fun _ => False) wr wr.drew).grown) (fun r e => by cases e)
        case round =>
          obtain ⟨j, t2, hj, rfl, rfl, HT2, HJj, HDj⟩ := hrel
          have hlen1 : ((cs.take k).flatten ++ c.take j).length = t2 := by
            rw [List.length_append, flatten_length, HT2.out, List.length_take, HQ.out, Nat.min_eq_left hj]
          by_cases hlt2 : j < q
          · obtain ⟨x, hx⟩ : ∃ x, c[j]? = some x := ⟨_, List.getElem?_eq_getElem (by rw [HQ.out]; exact hlt2)⟩
            have hcx : wr.cell? ⟨g, j, none⟩ = some (.string ⟨x.toArray⟩) := ((HH.out.deq _ _ _ _ HDj.out).chunk k g c HG.out HC1.out).text hx
            have hlt3 : t2 < cs.flatten.length := by
              have h1 := (flat_prefix (j := j + 1) HC1.out).length_le
              rw [placed_length, placed_length, List.length_append, flatten_length, List.length_take, HQ.out, Nat.min_eq_left (by omega)] at h1
              have h2 := HT2.out
              omega
            have hbt : t2 < 1048577 := by rw [flatten_length, HTT.out] at hlt3; omega
            obtain ⟨fn, tmps, assign, body, hy, hR⟩ := HY.out _ (t2, x) wr HJj.out (by rw [placed_length, hlen1]; exact hlt3)
            have hnext : placed ((cs.take k).flatten ++ c.take j) ++ [(t2, x)] = placed ((cs.take k).flatten ++ c.take (j + 1)) := by
              rw [List.take_add_one, hx, Option.toList_some, ← List.append_assoc, placed_snoc, hlen1]
            rw [hnext] at hR
            have HR := Lib.hid hR
            dsimp only [encs2] at hy
            clear hR hnext hlt3 hx hlen1
            gi_wp2_with fail
            refine HR.out.mono ?_
            rintro e W3 (⟨rfl, hJ3, hk3⟩ | ⟨rfl, hJx3⟩)
            · have HJ3 := Lib.hid hJ3
              have HD3 := Lib.hid (HH.out.kp _ _ _ _ _ hk3 HDj.out)
              clear hJ3 hk3
              gi_wp2_with fail
              go_roundw
              case rel => exact ⟨j + 1, t2 + 1, by omega, by go_num, by go_num, Lib.hid (by rw [HT2.out]; omega), HJ3, HD3⟩
              case measure => simp [intOf]; omega
            · gi_wp2_with fail
              refine bodyPost_ret (results_none rfl _ _ _) rfl ?_
              exact ⟨⟨_, rfl⟩, .inr ⟨_, flat_prefix HC1.out, hJx3⟩⟩
          · obtain rfl : j = q := by omega
            gi_wp2_with fail
            go_roundw
            case rel =>
              refine ⟨k + 1, t2, by omega, rfl, by go_num, Lib.hid ?_, Lib.hid ?_, HDj⟩
              · rw [HT2.out, ← flatten_length, ← flatten_length, flat_step HC1.out, List.length_append, HQ.out]
              · have := HJj.out
                rw [List.take_of_length_le (l := c) (by rw [HQ.out]; exact Nat.le_refl _)] at this
                rw [flat_step HC1.out]
                exact this
            case measure => simp [intOf]; omega
    · obtain rfl : k = m := by omega
      gi_wp2_with fail
      go_end0
      refine ⟨⟨_, rfl⟩, .inl ⟨_, ?_, HJk.out⟩⟩
      rw [List.take_of_length_le (by rw [HM.out]; exact Nat.le_refl _)]
end Go.Proofs.YteiklgbjjmlmaaaGreat


/- What Each of a deque goes through, for any loop. -/
set_option linter.unusedVariables false
namespace Pantry
open Go Go.RowKit
/-- Blocks of these types lie as they lay. -/
def KeepsT (T : TypeId → Prop) (A B : World) : Prop := ∀ (k : Nat) (c : Array Value) (t : TypeId) (fr : Nat × Nat), T t → A.heap[k]? = some (Obj.cells c t fr) → B.heap[k]? = some (Obj.cells c t fr)
theorem KeepsT.trans {T : TypeId → Prop} {A B C : World} (h : KeepsT T A B) (k : KeepsT T B C) : KeepsT T A C := fun j c t fr ht hj => k j c t fr ht (h j c t fr ht hj)
theorem KeepsT.grown {T : TypeId → Prop} {A B : World} {row : Option Nat} (h : A.grownBy B row) (hr : ∀ j, row = some j → ∀ c t fr, A.heap[j]? = some (.cells c t fr) → ¬ T t) : KeepsT T A B := fun j c t fr ht hj =>
  (h.block j (Array.getElem?_eq_some_iff.1 hj).1 fun e => hr j e.symm c t fr hj ht).trans hj
theorem KeepsT.putObj {T : TypeId → Prop} {A : World} {l : Nat} {o : Obj} (o' : Obj) (hl : A.heap[l]? = some o) (ho : o.isCells = false) : KeepsT T A (A.putObj l o') :=
  KeepsT.grown (grownBy_putObj' A l o') fun j e c t fr hj => by cases e; rw [hl] at hj; cases hj; cases ho
theorem placed_texts (l : List Txt) : (placed l).map Prod.snd = l := by
  unfold placed
  rw [List.map_map, show (Prod.snd ∘ fun p : Txt × Nat => (p.2, p.1)) = Prod.fst from rfl]
  exact List.zipIdx_map_fst 0 l
end Pantry
namespace Go.Proofs.YteiklgbjjmlmaaaGreat
open Go.RowKit Pantry

attribute [local go_sem] Oper.semAt_some
/-- The types of which a deque is made. -/
def dqT (t : TypeId) : Prop := t = 139 ∨ t = 135 ∨ t = 140
theorem DeqAt.keepsT {A B : World} {d : Nat} {v : Value} {gs : List Nat} {cs : List (List Txt)} (h : DeqAt A d v gs cs) (k : KeepsT dqT A B) : DeqAt B d v gs cs := by
  refine ⟨k _ _ _ _ (.inr (.inl rfl)) h.head, ⟨h.row.1, h.row.2.imp id ?_⟩, fun i g c hg hc => k _ _ _ _ (.inl rfl) (h.chunk i g c hg hc), h.nodup, h.notd, h.rowd, h.rowg⟩
  rintro ⟨g, cap, cur, rfl, h1, h2, h3⟩
  exact ⟨g, cap, cur, rfl, h1, k _ _ _ _ (.inr (.inr rfl)) h2, h3⟩
theorem holdsT (cs : List (List Txt)) (W : World) : Holds cs (KeepsT dqT) W (fun d v gs A => DeqAt A d v gs cs) :=
  ⟨fun _ _ _ _ h => h, fun _ _ _ _ h _ _ => h, fun _ _ _ _ _ k h => h.keepsT k, fun _ _ _ _ _ k h => h.chg k fun _ _ e => e⟩
/-- What Each hands back goes through all texts, or through the first ones. -/
theorem each_stops (n : Nat) (hn : 1 ≤ n) (Bn : Nat) (p : Option Addr) (cs : List (List Txt)) (w : World) (Kp : World → World → Prop) (Hd : Nat → Value → List Nat → World → Prop)
    (hH : ∀ W, Below w.heap.size w W → Holds cs Kp W Hd) (hB : w.cell? ⟨Bn, 0, none⟩ = some (.pointer p)) (h : DeqOr w p cs) (hf : Fits cs) :
    SeqStopsK Fence.wide n Tryz.prog 177 #[.pointer (some ⟨Bn, 0, none⟩)] encs2 Kp (fun ys => ys = placed cs.flatten) (fun pre => pre <+: placed cs.flatten) cs.flatten.length w := fun l J Jx W hW hJ _ hY h0 => by
  have hBl : Bn < w.heap.size := World.block_lt_of_cell? w _ hB
  have hW2 : Chg (fun _ => False) w W := Chg.of_below hW
  refine each1_in n hn l Bn p cs W Kp Hd (hH W hW) ((hW.cell (p := ⟨Bn, 0, none⟩) hBl).trans hB) ?_ hf J Jx hJ hY h0
  exact h.imp id fun ⟨d, v, gs, e, hd⟩ => ⟨d, v, gs, e, hd.chg hW2 fun _ _ e => e⟩
end Go.Proofs.YteiklgbjjmlmaaaGreat
