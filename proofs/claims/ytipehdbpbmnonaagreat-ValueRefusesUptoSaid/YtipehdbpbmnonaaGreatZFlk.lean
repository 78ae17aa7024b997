/- Flocks in memory: New, Len, Cost, Has, Add. -/
import Derived.Test.YtipehdbpbmnonaaGreatZUDGet
import Derived.StillTailTactics
import Derived.IntWalk
import Derived.Deep.Cut
set_option linter.unusedVariables false
set_option linter.unusedSimpArgs false
namespace Pantry
open Go Go.RowKit
def flkCost (l : List (List UInt8)) : Nat := (l.map fun p => 24 + p.length).sum
structure FlkGood (l : List (List UInt8)) : Prop where
  keys : l.Nodup
  text : ∀ p ∈ l, p.length ≤ 1048576
  few : l.length ≤ 1048576
theorem flkCost_le {l : List (List UInt8)} (h : ∀ p ∈ l, p.length ≤ 1048576) : flkCost l ≤ l.length * 1048600 := by
  induction l with
  | nil => simp [flkCost]
  | cons p l ih =>
    have h1 := ih fun q hq => h q (List.mem_cons_of_mem _ hq)
    have h2 := h p List.mem_cons_self
    simp only [flkCost, List.map_cons, List.sum_cons, List.length_cons] at *
    omega
theorem FlkGood.cost {l : List (List UInt8)} (h : FlkGood l) : flkCost l ≤ 1099536793600 := by
  have h1 := flkCost_le h.text
  have h2 := Nat.mul_le_mul_right 1048600 h.few
  omega
theorem FlkGood.cons {l : List (List UInt8)} (h : FlkGood l) {k : List UInt8} (hk : k ∉ l) (h1 : k.length ≤ 1048576) (hf : l.length < 1048576) : FlkGood (k :: l) :=
  ⟨List.nodup_cons.2 ⟨hk, h.keys⟩, fun p hp => by rcases List.mem_cons.1 hp with rfl | hp; exact h1; exact h.text p hp, by rw [List.length_cons]; omega⟩
/-- What Add does to the members, and what it tells. -/
def addF (l : List (List UInt8)) (k : List UInt8) : List (List UInt8) × Bool × Int :=
  if 1048576 < k.length then (l, false, 2) else if k ∈ l then (l, false, 0) else if 1048576 ≤ l.length then (l, false, 4) else (k :: l, true, 0)
end Pantry
namespace Go.Proofs.YtipehdbpbmnonaaGreat.DUnit
open Go.RowKit Pantry

/-- Block r is a flock of the members l. -/
structure FlkAt (w : World) (r seed d : Nat) (D : Dc) (l : List (List UInt8)) : Prop where
  head : w.heap[r]? = some (.cells #[.int .u64 seed, .pointer (some ⟨d, 0, none⟩), .int .i64 (flkCost l : Nat)] 164)
  dict : DictAt w d D
  wf : D.Wf
  keys : (D.ents.map (·.key)).Perm l
  good : FlkGood l
def FlkFoot (r d : Nat) (D : Dc) (k : Nat) : Prop := k = r ∨ DFoot d D k
theorem three {w : World} {g : Nat} {c0 c1 c2 : Value} {t : TypeId} (h : w.heap[g]? = some (.cells #[c0, c1, c2] t)) :
    (w.cell? ⟨g, 0, none⟩ = some c0 ∧ w.cell? ⟨g, 1, none⟩ = some c1 ∧ w.cell? ⟨g, 2, none⟩ = some c2) ∧ ∀ j, w.frozen? ⟨g, j, none⟩ = false := by
  refine ⟨⟨?_, ?_, ?_⟩, fun j => frozen_of_row w g j _ _ h⟩ <;> rw [cell_of_row w g _ _ _ _ h] <;> rfl
theorem FlkAt.few {w : World} {r seed d : Nat} {D : Dc} {l : List (List UInt8)} (h : FlkAt w r seed d D l) : D.ents.length = l.length := by
  have := h.keys.length_eq
  simpa using this
theorem FlkAt.lt {w : World} {r seed d : Nat} {D : Dc} {l : List (List UInt8)} (h : FlkAt w r seed d D l) : ∀ k, FlkFoot r d D k → k < w.heap.size := by
  rintro k (rfl | hk)
  · exact block_lt h.head
  · exact h.dict.lt k hk
theorem FlkAt.keep {w w' : World} {r seed d : Nat} {D : Dc} {l : List (List UInt8)} {S : Nat → Prop} (h : FlkAt w r seed d D l) (hc : Chg S w w') (hS : ∀ k, FlkFoot r d D k → ¬ S k) : FlkAt w' r seed d D l :=
  ⟨hc.heap h.head (hS r (.inl rfl)), h.dict.chg hc fun k hk => hS k (.inr hk), h.wf, h.keys, h.good⟩
theorem FlkAt.not_foot {w : World} {r seed d : Nat} {D : Dc} {l : List (List UInt8)} (h : FlkAt w r seed d D l) : ¬ DFoot d D r := h.dict.not_foot h.head (by decide)
/-- After calls of the dict alone. -/
theorem FlkAt.dicts {w w' : World} {r seed d : Nat} {D D' : Dc} {l : List (List UInt8)} (h : FlkAt w r seed d D l) (hI : SI w d D w' D') (hw : D'.Wf) : FlkAt w' r seed d D' l ∧ Chg (FlkFoot r d D) w w' ∧ ∀ k, FlkFoot r d D' k → FlkFoot r d D k := by
  refine ⟨⟨hI.chg.heap h.head h.not_foot, hI.at_, hw, (hI.perm.map _).trans h.keys, h.good⟩, hI.chg.mono fun k _ hk => .inr hk, ?_⟩
  rintro k (rfl | hk)
  · exact .inl rfl
  · exact .inr (hI.foot k hk)
theorem fLen_any (w : World) (r seed d : Nat) (D : Dc) (l : List (List UInt8)) (h : FlkAt w r seed d D l) : Calls Tryz.prog 102 #[.pointer (some ⟨r, 0, none⟩)] w fun e w' => e = .returned (.int .i64 (l.length : Nat)) ∧ w = w' := by
  obtain ⟨⟨h0, h1, h2⟩, -⟩ := three h.head
  have HL := Lib.hid (dlen_any w d D h.dict)
  rw [h.few] at HL
  clear h h0 h2
  go_enter Tryz.func102, Tryz.ntmps102
  go_wp2_with (go_at_call 156; refine HL.out.mono ?_; rintro e w1 ⟨rfl, rfl⟩)
  go_ret
  exact ⟨rfl, rfl⟩
theorem fCost_any (w : World) (r seed d : Nat) (D : Dc) (l : List (List UInt8)) (h : FlkAt w r seed d D l) : Calls Tryz.prog 234 #[.pointer (some ⟨r, 0, none⟩)] w fun e w' => e = .returned (.int .i64 (flkCost l : Nat)) ∧ w = w' := by
  obtain ⟨⟨h0, h1, h2⟩, -⟩ := three h.head
  clear h h0 h1
  go_enter Tryz.func234, Tryz.ntmps234
  go_wp2_with fail
  go_ret
  exact ⟨rfl, rfl⟩
def FNewPost (seed : Nat) (w : World) (e : Ending) (w' : World) : Prop :=
  ∃ r d D, e = .returned (.pointer (some ⟨r, 0, none⟩)) ∧ FlkAt w' r seed d D [] ∧ Below w.heap.size w w' ∧ ∀ k, FlkFoot r d D k → w.heap.size ≤ k
theorem fNew_any (w : World) (seed : Nat) (hs : seed < 18446744073709551616) : Calls Tryz.prog 45 #[.int .u64 seed] w (FNewPost seed w) := by
  go_enter Tryz.func45, Tryz.ntmps45
  go_wp2_with (go_at_call 100; refine (dNew_any _ _).mono ?_; rintro e w1 ⟨rfl, rfl⟩)
  go_ret
  refine ⟨w.heap.size + 1, w.heap.size, Dc.zero seed, by simp, ⟨?_, ?_, Dc.zero_wf hs, List.Perm.refl _, ⟨List.nodup_nil, ?_, Nat.zero_le _⟩⟩, ?_, ?_⟩
  · have := heap_alloc_new (w.alloc (.cells #[.int .u64 seed, .slice none 0 0, .slice none 0 0, .int .i64 0, .int .i64 0] 226)) (.cells #[.int .u64 seed, .pointer (some ⟨w.heap.size, 0, none⟩), .int .i64 0] 164)
    simpa [flkCost] using this
  · exact (dict_zero w seed).chg (S := fun _ => False) ((Chg.refl _ _).alloc _) fun _ _ e => e
  · intro p hp; cases hp
  · exact ((Below.refl _ _).alloc (Nat.le_refl _) _).alloc (by simp) _
  · rintro k (rfl | hk)
    · omega
    · rw [zero_foot hk]; exact Nat.le_refl _
/-- What a call leaves that may change the flock. -/
structure FlkOp (r seed d : Nat) (D : Dc) (l' : List (List UInt8)) (w w' : World) : Prop where
  ex : ∃ D', FlkAt w' r seed d D' l' ∧ ∀ k, FlkFoot r d D' k → FlkFoot r d D k ∨ w.heap.size ≤ k
  chg : Chg (FlkFoot r d D) w w'
/-- What Has tells. -/
def HasPost (r seed d : Nat) (D : Dc) (l : List (List UInt8)) (k : List UInt8) (w : World) (e : Ending) (w' : World) : Prop :=
  e = .returned (.bool (decide (k ∈ l))) ∧ ∃ D', FlkAt w' r seed d D' l ∧ Chg (FlkFoot r d D) w w' ∧ ∀ j, FlkFoot r d D' j → FlkFoot r d D j
set_option maxHeartbeats 1000000 in
theorem fHas_any (w : World) (r seed d : Nat) (D : Dc) (l : List (List UInt8)) (k : List UInt8) (h : FlkAt w r seed d D l) (hk : k.length ≤ 140737488351232) :
    Calls Tryz.prog 101 #[.pointer (some ⟨r, 0, none⟩), .string ⟨k.toArray⟩] w (HasPost r seed d D l k w) := by
  obtain ⟨⟨h0, h1, h2⟩, -⟩ := three h.head
  have HG := Lib.hid (get_any w d D k h.dict h.wf hk)
  have HP : Hid (∀ b w1 D1, (b = decide (k ∈ l)) → D1.Wf → SI w d D w1 D1 → HasPost r seed d D l k w (.returned (.bool b)) (w1.alloc (.cells #[] 162))) := Lib.hid (by
    rintro b w1 D1 rfl hD hI
    obtain ⟨g1, g2, g3⟩ := h.dicts hI hD
    exact ⟨rfl, D1, g1.keep (S := fun _ => False) ((Chg.refl _ _).alloc _) fun _ _ e => e, g2.alloc _, g3⟩)
  have HM : Hid (∀ e ∈ D.ents, e.key = k → true = decide (k ∈ l)) := Lib.hid fun e he hh => by
    have : k ∈ l := h.keys.subset (List.mem_map.2 ⟨e, he, hh⟩)
    simp [this]
  have HN : Hid ((∀ e ∈ D.ents, e.key ≠ k) → false = decide (k ∈ l)) := Lib.hid fun hh => by
    have : k ∉ l := fun hm => by
      obtain ⟨e, he, hk⟩ := List.mem_map.1 (h.keys.mem_iff.2 hm)
      exact hh e he hk
    simp [this]
  clear h h0 h2
  go_enter Tryz.func101, Tryz.ntmps101
  go_wp2_with (go_at_call 155; refine HG.out.mono ?_; rintro e w1 ⟨hp, D1, hD, hI⟩
               have HDI := Lib.hid (show _ ∧ _ from ⟨hD, hI⟩)
               clear hD hI
               rcases hp with ⟨x, hx, hxk, rfl⟩ | ⟨hx, rfl⟩)
  · have HR := Lib.hid (HP.out true w1 D1 (HM.out x hx hxk) HDI.out.1 HDI.out.2)
    clear hx hxk
    go_ret
    exact HR.out
  · have HR := Lib.hid (HP.out false w1 D1 (HN.out hx) HDI.out.1 HDI.out.2)
    clear hx
    go_ret
    exact HR.out
/-- While the cost is being set. -/
structure FlkMid (r seed d : Nat) (D1 : Dc) (c : Int) (w1 w2 : World) : Prop where
  dict : DictAt w2 d D1
  head : w2.heap[r]? = some (.cells #[.int .u64 seed, .pointer (some ⟨d, 0, none⟩), .int .i64 c] 164)
  chg : Chg (fun k => k = r) w1 w2
theorem FlkAt.start {w : World} {r seed d : Nat} {D : Dc} {l : List (List UInt8)} (h : FlkAt w r seed d D l) : FlkMid r seed d D (flkCost l : Nat) w w := ⟨h.dict, h.head, Chg.refl _ _⟩
theorem FlkMid.drew {r seed d : Nat} {D1 : Dc} {c : Int} {w1 w2 : World} (h : FlkMid r seed d D1 c w1 w2) : FlkMid r seed d D1 c w1 w2.drew :=
  ⟨h.dict.keep fun _ _ => rfl, h.head, h.chg.drew⟩
theorem FlkMid.set {r seed d : Nat} {D1 : Dc} {c : Int} {w1 w2 : World} (h : FlkMid r seed d D1 c w1 w2) (c' : Int) : FlkMid r seed d D1 c' w1 (w2.setCell ⟨r, 2, none⟩ (.int .i64 c')) := by
  have hc : Chg (fun k => k = r) w2 (w2.setCell ⟨r, 2, none⟩ (.int .i64 c')) := (Chg.refl (fun k => k = r) w2).setCell (p := ⟨r, 2, none⟩) (fun _ => rfl) _
  refine ⟨h.dict.chg hc fun k hk e => ?_, by rw [heapSetHere h.head]; rfl, h.chg.trans hc fun _ _ e => e⟩
  subst e
  exact h.dict.not_foot h.head (by decide) hk
def AddTo (r seed d : Nat) (D : Dc) (l : List (List UInt8)) (k : List UInt8) (w : World) (e : Ending) (w' : World) : Prop :=
  e = .returned (.tuple #[.bool (addF l k).2.1, .int .i64 (addF l k).2.2]) ∧ FlkOp r seed d D (addF l k).1 w w'
set_option maxHeartbeats 4000000 in
set_option maxRecDepth 100000 in
theorem fAdd_any (w : World) (r seed d : Nat) (D : Dc) (l : List (List UInt8)) (k : List UInt8) (h : FlkAt w r seed d D l) (hk : k.length ≤ 140737488351232) :
    Calls Tryz.prog 46 #[.pointer (some ⟨r, 0, none⟩), .string ⟨k.toArray⟩] w (AddTo r seed d D l k w) := by
  by_cases hlong : 1048576 < k.length
  · have hl2 : (1048576 : Int) < (k.length : Int) := by omega
    have HP : Hid (AddTo r seed d D l k w (.returned (.tuple #[.bool false, .int .i64 2])) w) := Lib.hid (by
      unfold AddTo addF
      rw [if_pos hlong]
      exact ⟨rfl, ⟨D, h, fun k hk => .inl hk⟩, Chg.refl _ _⟩)
    clear h hlong
    go_enter Tryz.func46, Tryz.ntmps46
    go_wp2_with fail
    go_ret2
    exact HP.out
  · have hl2 : ¬ (1048576 : Int) < (k.length : Int) := by omega
    have hk1 : k.length ≤ 1048576 := by omega
    have HH := Lib.hid h
    have HL := Lib.hid hlong
    have HHA := Lib.hid (fHas_any w r seed d D l k h hk)
    have hmix : Tryz.prog.follows .mixedOrders = true := by kernel_rfl
    have hcl := h.good.cost
    by_cases hin : k ∈ l
    · have HP : Hid (∀ w', (∃ D', FlkAt w' r seed d D' l ∧ Chg (FlkFoot r d D) w w' ∧ ∀ j, FlkFoot r d D' j → FlkFoot r d D j) → AddTo r seed d D l k w (.returned (.tuple #[.bool false, .int .i64 0])) w') := Lib.hid (by
        rintro w' ⟨D', g1, g2, g3⟩
        unfold AddTo addF
        rw [if_neg hlong, if_pos hin]
        exact ⟨rfl, ⟨D', g1, fun j hj => .inl (g3 j hj)⟩, g2⟩)
      have hdk : decide (k ∈ l) = true := by simpa using hin
      unfold HasPost at HHA
      rw [hdk] at HHA
      clear h hlong hin hk hdk
      go_enter Tryz.func46, Tryz.ntmps46
      go_wp2_with (go_at_call 101; refine HHA.out.mono ?_; rintro e w1 ⟨rfl, hex⟩
                   have HR := Lib.hid (HP.out w1 hex)
                   clear hex)
      go_ret2
      exact HR.out
    · have hdk : decide (k ∈ l) = false := by simpa using hin
      unfold HasPost at HHA
      rw [hdk] at HHA
      obtain ⟨n, hn⟩ : ∃ n, l.length = n := ⟨_, rfl⟩
      have HN := Lib.hid hn
      have HI := Lib.hid hin
      by_cases hfull : 1048576 ≤ n
      · have hb : decide ((1048576 : Int) ≤ (n : Int)) = true := by simp; omega
        have HP : Hid (∀ w', (∃ D', FlkAt w' r seed d D' l ∧ Chg (FlkFoot r d D) w w' ∧ ∀ j, FlkFoot r d D' j → FlkFoot r d D j) → AddTo r seed d D l k w (.returned (.tuple #[.bool false, .int .i64 4])) w') := Lib.hid (by
          rintro w' ⟨D', g1, g2, g3⟩
          unfold AddTo addF
          rw [if_neg hlong, if_neg hin, if_pos (by rw [hn]; exact hfull)]
          exact ⟨rfl, ⟨D', g1, fun j hj => .inl (g3 j hj)⟩, g2⟩)
        clear h hlong hin hk hdk hn hfull hcl
        go_enter Tryz.func46, Tryz.ntmps46
        go_wp2_with (first
          | (go_at_call 101; refine HHA.out.mono ?_; rintro e w1 ⟨rfl, hex⟩
             have HR := Lib.hid (HP.out w1 hex)
             obtain ⟨D1, g1, -⟩ := hex
             have HLE := Lib.hid (fLen_any w1 r seed d D1 l g1)
             rw [HN.out] at HLE
             clear g1)
          | (go_at_call 102; refine HLE.out.mono ?_; clear HLE; rintro e w2 ⟨rfl, rfl⟩))
        go_ret2
        exact HR.out
      · have hb : decide ((1048576 : Int) ≤ (n : Int)) = false := by simp; omega
        have HF := Lib.hid hfull
        obtain ⟨cl, hcl2⟩ : ∃ c, flkCost l = c := ⟨_, rfl⟩
        have HCL := Lib.hid hcl2
        rw [hcl2] at hcl
        have hk2 : (k.length : Int) ≤ 1048576 := by omega
        have hcost : (cl : Int) + (24 + (k.length : Int)) = ((flkCost (k :: l) : Nat) : Int) := by
          rw [← hcl2]
          simp only [flkCost, List.map_cons, List.sum_cons]
          omega
        have HCO := Lib.hid hcost
        have hw2 : IntKind.i64.wrap ((cl : Int) + (24 + (k.length : Int))) = (cl : Int) + (24 + (k.length : Int)) := IntWalk.i64_in _ (by omega)
        have hw3 : IntKind.i64.wrap (24 + (k.length : Int)) = 24 + (k.length : Int) := IntWalk.i64_in _ (by omega)
        clear h hlong hin hk hdk hn hfull hcl2 hcost
        go_enter Tryz.func46, Tryz.ntmps46
        go_upto_region 9 with (first
          | (go_at_call 101; refine HHA.out.mono ?_; rintro e w1 ⟨rfl, D1, g1, g2, g3⟩
             have HLE := Lib.hid (fLen_any w1 r seed d D1 l g1)
             rw [HN.out] at HLE
             have HG := Lib.hid (show _ ∧ _ ∧ _ from ⟨g1, g2, g3⟩)
             obtain ⟨⟨-, q1, q2⟩, qf⟩ := three g1.head
             rw [HCL.out] at q2
             have qf2 := qf 2
             have hM3 := g1.start.set ((cl : Int) + (24 + (k.length : Int)))
             obtain ⟨W3, hW3⟩ : ∃ W3, w1.setCell ⟨r, 2, none⟩ (.int .i64 ((cl : Int) + (24 + (k.length : Int)))) = W3 := ⟨_, rfl⟩
             have hM4 : FlkMid r seed d D1 ((cl : Int) + (24 + (k.length : Int))) w1 W3 := by rw [← hW3]; exact hM3
             obtain ⟨⟨-, t1, -⟩, -⟩ := three hM4.head
             have HM4 := Lib.hid hM4
             have HW3 := Lib.hid hW3
             have HDS := Lib.hid (set_any W3 d D1 k hM4.dict g1.wf (by omega) (by rw [g1.few, HN.out]; have := HF.out; omega) (fun e he hh => HI.out (g1.keys.subset (List.mem_map.2 ⟨e, he, hh⟩))))
             clear g1 g2 g3 qf hM3 hM4 hW3)
          | (go_at_call 102; refine HLE.out.mono ?_; clear HLE; rintro e w2 ⟨rfl, rfl⟩))
        go_upto_region 10 with fail
        rw [HW3.out]
        go_wp2_with (go_at_call 103; refine HDS.out.mono ?_; clear HDS; rintro e w5 ⟨rfl, ho⟩
                     have HO := Lib.hid ho
                     clear ho)
        go_ret2
        unfold AddTo addF
        rw [if_neg HL.out, if_neg HI.out, if_neg (by rw [HN.out]; exact HF.out)]
        obtain ⟨⟨D3, q1, q2, q3, q4, q5⟩, q6⟩ := HO.out
        obtain ⟨g1, g2, g3⟩ := HG.out
        have hm := HM4.out
        have hh3 := q6.heap hm.head (hm.dict.not_foot hm.head (by decide))
        rw [HCO.out] at hh3
        refine ⟨rfl, ⟨D3, ⟨hh3, q3, q1, ?_, g1.good.cons HI.out hk1 (by rw [HN.out]; have := HF.out; omega)⟩, ?_⟩, ?_⟩
        · have := q4.map Prod.fst
          have e1 : D3.kv.map Prod.fst = D3.ents.map (·.key) := by simp [Dc.kv, DE.kv, Function.comp_def]
          have e2 : D1.kv.map Prod.fst = D1.ents.map (·.key) := by simp [Dc.kv, DE.kv, Function.comp_def]
          rw [e1, List.map_cons, e2] at this
          exact this.trans (g1.keys.cons _)
        · have hsz : w.heap.size ≤ W3.heap.size := Nat.le_trans g2.size hm.chg.size
          rintro j (rfl | hj)
          · exact .inl (.inl rfl)
          · rcases q5 j hj with hj | hj
            · exact .inl (g3 j (.inr hj))
            · exact .inr (by omega)
        · exact (g2.trans hm.chg fun k _ e => .inl e).trans q6 fun k _ hk => g3 k (.inr hk)
end Go.Proofs.YtipehdbpbmnonaaGreat.DUnit
