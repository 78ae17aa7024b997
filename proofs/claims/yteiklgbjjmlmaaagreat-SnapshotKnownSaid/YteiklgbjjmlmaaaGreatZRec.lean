
/- Records in memory: New, Len, Cost, Get. -/
import Derived.Test.YteiklgbjjmlmaaaGreatZSDGet
import Derived.StillTailTactics
import Derived.Lib.MinMax
import Derived.IntWalk
import Derived.Deep.Cut
set_option linter.unusedVariables false
set_option linter.unusedSimpArgs false
namespace Pantry
open Go Go.RowKit
/-- A field and what it holds. -/
abbrev Fld := List UInt8 × List UInt8
def recCost (l : List Fld) : Nat := (l.map fun p => 32 + p.1.length + p.2.length).sum
def fdKv (p : Fld) : List UInt8 × Value := (p.1, .string ⟨p.2.toArray⟩)
structure RecGood (l : List Fld) : Prop where
  keys : (l.map (·.1)).Nodup
  text : ∀ p ∈ l, p.1.length ≤ 1048576 ∧ p.2.length ≤ 1048576
  few : l.length ≤ 1048576
theorem recCost_le {l : List Fld} (h : ∀ p ∈ l, p.1.length ≤ 1048576 ∧ p.2.length ≤ 1048576) : recCost l ≤ l.length * 2097184 := by
  induction l with
  | nil => simp [recCost]
  | cons p l ih =>
    have h1 := ih fun q hq => h q (List.mem_cons_of_mem _ hq)
    have h2 := h p List.mem_cons_self
    simp only [recCost, List.map_cons, List.sum_cons, List.length_cons] at *
    omega
theorem RecGood.cost {l : List Fld} (h : RecGood l) : recCost l ≤ 2199056809984 := by
  have h1 := recCost_le h.text
  have h2 := Nat.mul_le_mul_right 2097184 h.few
  omega
end Pantry
namespace Go.Proofs.YteiklgbjjmlmaaaGreat.DStr
open Go.RowKit Pantry

/-- Block r is a record of the fields l. -/
structure RecAt (w : World) (r seed d : Nat) (D : Dc) (l : List Fld) : Prop where
  head : w.heap[r]? = some (.cells #[.int .u64 seed, .pointer (some ⟨d, 0, none⟩), .int .i64 (recCost l : Nat)] 148)
  dict : DictAt w d D
  wf : D.Wf
  kv : D.kv.Perm (l.map fdKv)
  good : RecGood l
def RecFoot (r d : Nat) (D : Dc) (k : Nat) : Prop := k = r ∨ DFoot d D k
theorem RecAt.few {w : World} {r seed d : Nat} {D : Dc} {l : List Fld} (h : RecAt w r seed d D l) : D.ents.length = l.length := by
  have := h.kv.length_eq
  simpa [Dc.kv] using this
theorem RecAt.keep {w w' : World} {r seed d : Nat} {D : Dc} {l : List Fld} {S : Nat → Prop} (h : RecAt w r seed d D l) (hc : Chg S w w') (hS : ∀ k, RecFoot r d D k → ¬ S k) : RecAt w' r seed d D l :=
  ⟨hc.heap h.head (hS r (.inl rfl)), h.dict.chg hc fun k hk => hS k (.inr hk), h.wf, h.kv, h.good⟩
theorem RecAt.not_foot {w : World} {r seed d : Nat} {D : Dc} {l : List Fld} (h : RecAt w r seed d D l) : ¬ DFoot d D r := h.dict.not_foot h.head (by decide)
/-- After calls of the dict alone. -/
theorem RecAt.dicts {w w' : World} {r seed d : Nat} {D D' : Dc} {l : List Fld} (h : RecAt w r seed d D l) (hI : SI w d D w' D') (hw : D'.Wf) : RecAt w' r seed d D' l ∧ Chg (RecFoot r d D) w w' ∧ ∀ k, RecFoot r d D' k → RecFoot r d D k := by
  refine ⟨⟨hI.chg.heap h.head h.not_foot, hI.at_, hw, (hI.perm.map DE.kv).trans h.kv, h.good⟩, hI.chg.mono fun k _ hk => .inr hk, ?_⟩
  rintro k (rfl | hk)
  · exact .inl rfl
  · exact .inr (hI.foot k hk)
theorem rLen_any (w : World) (r seed d : Nat) (D : Dc) (l : List Fld) (h : RecAt w r seed d D l) : Calls Tryz.prog 185 #[.pointer (some ⟨r, 0, none⟩)] w fun e w' => e = .returned (.int .i64 (l.length : Nat)) ∧ w = w' := by
  obtain ⟨⟨h0, h1, h2⟩, -⟩ := three h.head
  have HL := Lib.hid (dlen_any w d D h.dict)
  rw [h.few] at HL
  clear h h0 h2
  go_enter Tryz.func185, Tryz.ntmps185
  go_wp2_with (go_at_call 86; refine HL.out.mono ?_; rintro e w1 ⟨rfl, rfl⟩)
  go_ret
  exact ⟨rfl, rfl⟩
theorem mem_fd {D : Dc} {l : List Fld} (h : D.kv.Perm (l.map fdKv)) {e : DE} (he : e ∈ D.ents) : ∃ x, (e.key, x) ∈ l ∧ e.val = .string ⟨x.toArray⟩ := by
  have : e.kv ∈ l.map fdKv := h.mem_iff.1 (List.mem_map.2 ⟨e, he, rfl⟩)
  obtain ⟨p, hp, hh⟩ := List.mem_map.1 this
  simp only [fdKv, DE.kv, Prod.mk.injEq] at hh
  exact ⟨p.2, by rw [← hh.1]; exact hp, hh.2.symm⟩
theorem fd_mem {D : Dc} {l : List Fld} (h : D.kv.Perm (l.map fdKv)) {p : Fld} (hp : p ∈ l) : ∃ e ∈ D.ents, e.key = p.1 ∧ e.val = .string ⟨p.2.toArray⟩ := by
  have : fdKv p ∈ D.kv := h.mem_iff.2 (List.mem_map.2 ⟨p, hp, rfl⟩)
  obtain ⟨e, he, hh⟩ := List.mem_map.1 this
  simp only [fdKv, DE.kv, Prod.mk.injEq] at hh
  exact ⟨e, he, hh.1, hh.2⟩
def RGetD (d : Nat) (D : Dc) (l : List Fld) (k : List UInt8) (w : World) (e : Ending) (w' : World) : Prop :=
  ((∃ y, (k, y) ∈ l ∧ e = .returned (.tuple #[.string ⟨y.toArray⟩, .bool true])) ∨ ((∀ p ∈ l, p.1 ≠ k) ∧ e = .returned (.tuple #[.string ⟨#[]⟩, .bool false]))) ∧ ∃ D1, D1.Wf ∧ SI w d D w' D1
theorem RecAt.getD {w : World} {r seed d : Nat} {D : Dc} {l : List Fld} (h : RecAt w r seed d D l) (k : List UInt8) (hk : k.length ≤ 140737488351232) :
    Calls Tryz.prog 84 #[.pointer (some ⟨d, 0, none⟩), .string ⟨k.toArray⟩] w (RGetD d D l k w) := by
  refine (get_any w d D k h.dict h.wf hk).mono ?_
  rintro e w' ⟨h1, h2⟩
  refine ⟨?_, h2⟩
  rcases h1 with ⟨x, hx, rfl, rfl⟩ | ⟨hx, rfl⟩
  · obtain ⟨y, hy, hv⟩ := mem_fd h.kv hx
    exact .inl ⟨y, hy, by rw [hv]⟩
  · refine .inr ⟨fun p hp hk => ?_, rfl⟩
    obtain ⟨e, he, h1, -⟩ := fd_mem h.kv hp
    exact hx e he (h1.trans hk)
theorem costs_any (w : World) (k s : List UInt8) (hk : k.length ≤ 1048576) (hs : s.length ≤ 1048576) : Calls Tryz.prog 85 #[.string ⟨k.toArray⟩, .string ⟨s.toArray⟩] w fun e w' => e = .returned (.int .i64 ((32 + k.length + s.length : Nat) : Int)) ∧ w' = w := by
  have e1 : 32 + (k.length : Int) + (s.length : Int) = ((32 + k.length + s.length : Nat) : Int) := by omega
  have HE := Lib.hid e1
  have h1 : (k.length : Int) ≤ 1048576 := by omega
  have h2 : (s.length : Int) ≤ 1048576 := by omega
  clear e1
  go_enter Tryz.func85, Tryz.ntmps85
  go_wp2_with fail
  go_ret
  exact ⟨by rw [← HE.out]; rfl, rfl⟩
def RNewPost (seed : Nat) (w : World) (e : Ending) (w' : World) : Prop :=
  ∃ r d D, e = .returned (.pointer (some ⟨r, 0, none⟩)) ∧ RecAt w' r seed d D [] ∧ Below w.heap.size w w' ∧ ∀ k, RecFoot r d D k → w.heap.size ≤ k
theorem rNew_any (w : World) (seed : Nat) (hs : seed < 18446744073709551616) : Calls Tryz.prog 64 #[.int .u64 seed] w (RNewPost seed w) := by
  go_enter Tryz.func64, Tryz.ntmps64
  go_wp2_with (go_at_call 83; refine (dNew_any _ _).mono ?_; rintro e w1 ⟨rfl, rfl⟩)
  go_ret
  refine ⟨w.heap.size + 1, w.heap.size, Dc.zero seed, by simp, ⟨?_, ?_, Dc.zero_wf hs, List.Perm.refl _, ⟨List.nodup_nil, ?_, Nat.zero_le _⟩⟩, ?_, ?_⟩
  · have := heap_alloc_new (w.alloc (.cells #[.int .u64 seed, .slice none 0 0, .slice none 0 0, .int .i64 0, .int .i64 0] 188)) (.cells #[.int .u64 seed, .pointer (some ⟨w.heap.size, 0, none⟩), .int .i64 0] 148)
    simpa [recCost] using this
  · exact (dict_zero w seed).chg (S := fun _ => False) ((Chg.refl _ _).alloc _) fun _ _ e => e
  · intro p hp; cases hp
  · exact ((Below.refl _ _).alloc (Nat.le_refl _) _).alloc (by simp) _
  · rintro k (rfl | hk)
    · omega
    · rw [zero_foot hk]; exact Nat.le_refl _
end Go.Proofs.YteiklgbjjmlmaaaGreat.DStr


/- Set of a record. -/
set_option linter.unusedVariables false
set_option linter.unusedSimpArgs false
namespace Pantry
open Go Go.RowKit
def recHas (l : List Fld) (k : List UInt8) : Option (List UInt8) := (l.find? fun p => decide (p.1 = k)).map (·.2)
def recPut (l : List Fld) (k s : List UInt8) : List Fld := l.map fun p => if p.1 = k then (p.1, s) else p
/-- What Set does to the fields, and what it tells. -/
def setR (l : List Fld) (k s : List UInt8) : List Fld × Bool × Int :=
  if 1048576 < max k.length s.length then (l, false, 2) else
  match recHas l k with
  | some _ => (recPut l k s, false, 0)
  | none => if 1048576 ≤ l.length then (l, false, 4) else ((k, s) :: l, true, 0)
theorem recHas_some {l : List Fld} (hn : (l.map (·.1)).Nodup) {k x : List UInt8} (h : (k, x) ∈ l) : recHas l k = some x := by
  unfold recHas
  cases hf : l.find? fun p => decide (p.1 = k) with
  | none =>
    have := List.find?_eq_none.1 hf _ h
    simp at this
  | some q =>
    have h1 := List.find?_some hf
    have h2 := List.mem_of_find?_eq_some hf
    simp at h1
    have h3 := inj_of_nodup hn h2 h h1
    rw [h3]; rfl
theorem recHas_none {l : List Fld} {k : List UInt8} (h : ∀ p ∈ l, p.1 ≠ k) : recHas l k = none := by
  unfold recHas
  rw [List.find?_eq_none.2 (by intro p hp; simpa using h p hp)]
  rfl
theorem recPut_keys (l : List Fld) (k s : List UInt8) : (recPut l k s).map (·.1) = l.map (·.1) := by
  unfold recPut
  rw [List.map_map]
  refine List.map_congr_left fun p _ => ?_
  simp only [Function.comp]
  split <;> rfl
theorem recPut_other {l : List Fld} {k : List UInt8} (h : ∀ p ∈ l, p.1 ≠ k) (s : List UInt8) : recPut l k s = l := by
  unfold recPut
  conv => rhs; rw [← List.map_id l]
  refine List.map_congr_left fun p hp => ?_
  rw [if_neg (h p hp)]; rfl
theorem recPut_cost {l : List Fld} (hn : (l.map (·.1)).Nodup) {k x : List UInt8} (h : (k, x) ∈ l) (s : List UInt8) : recCost (recPut l k s) + (32 + k.length + x.length) = recCost l + (32 + k.length + s.length) := by
  induction l with
  | nil => cases h
  | cons p l ih =>
    rw [List.map_cons, List.nodup_cons] at hn
    rcases List.mem_cons.1 h with rfl | h
    · have h0 : ∀ q ∈ l, q.1 ≠ k := fun q hq e => hn.1 (List.mem_map.2 ⟨q, hq, e⟩)
      have h1 : recPut ((k, x) :: l) k s = (k, s) :: l := by
        show (if _ then _ else _) :: recPut l k s = _
        rw [if_pos rfl, recPut_other h0]
      rw [h1]
      simp only [recCost, List.map_cons, List.sum_cons]
      omega
    · have h0 : p.1 ≠ k := fun e => hn.1 (List.mem_map.2 ⟨_, h, e.symm⟩)
      have h1 : recPut (p :: l) k s = p :: recPut l k s := by
        show (if _ then _ else _) :: recPut l k s = _
        rw [if_neg h0]
      have h2 := ih hn.2 h
      rw [h1]
      simp only [recCost, List.map_cons, List.sum_cons] at h2 ⊢
      omega
theorem recPut_kv (l : List Fld) (k s : List UInt8) : (l.map fdKv).map (fun p => if p.1 = k then (p.1, .string ⟨s.toArray⟩) else p) = (recPut l k s).map fdKv := by
  unfold recPut
  rw [List.map_map, List.map_map]
  refine List.map_congr_left fun p _ => ?_
  by_cases h : p.1 = k <;> simp [Function.comp, fdKv, h]
theorem RecGood.put {l : List Fld} (h : RecGood l) {k s : List UInt8} (hs : s.length ≤ 1048576) : RecGood (recPut l k s) := by
  refine ⟨by rw [recPut_keys]; exact h.keys, fun p hp => ?_, by unfold recPut; rw [List.length_map]; exact h.few⟩
  obtain ⟨q, hq, rfl⟩ := List.mem_map.1 hp
  have := h.text q hq
  split
  · exact ⟨this.1, hs⟩
  · exact this
theorem RecGood.cons {l : List Fld} (h : RecGood l) {k s : List UInt8} (hk : ∀ p ∈ l, p.1 ≠ k) (h1 : k.length ≤ 1048576) (h2 : s.length ≤ 1048576) (hf : l.length < 1048576) : RecGood ((k, s) :: l) := by
  refine ⟨?_, fun p hp => ?_, by rw [List.length_cons]; omega⟩
  · rw [List.map_cons, List.nodup_cons]
    exact ⟨fun hm => by obtain ⟨q, hq, e⟩ := List.mem_map.1 hm; exact hk q hq e, h.keys⟩
  · rcases List.mem_cons.1 hp with rfl | hp
    · exact ⟨h1, h2⟩
    · exact h.text p hp
end Pantry
namespace Go.Proofs.YteiklgbjjmlmaaaGreat.DStr
open Go.RowKit Pantry

/-- What a call leaves that may change the record. -/
structure RecOp (r seed d : Nat) (D : Dc) (l' : List Fld) (w w' : World) : Prop where
  ex : ∃ D', RecAt w' r seed d D' l' ∧ ∀ k, RecFoot r d D' k → RecFoot r d D k ∨ w.heap.size ≤ k
  chg : Chg (RecFoot r d D) w w'
theorem RecAt.same {w w' : World} {r seed d : Nat} {D D' : Dc} {l : List Fld} (h : RecAt w r seed d D l) (hI : SI w d D w' D') (hw : D'.Wf) : RecOp r seed d D l w w' := by
  obtain ⟨h1, h2, h3⟩ := h.dicts hI hw
  exact ⟨⟨D', h1, fun k hk => .inl (h3 k hk)⟩, h2⟩
/-- While the cost is being set. -/
structure RecMid (r seed d : Nat) (D1 : Dc) (c : Int) (w1 w2 : World) : Prop where
  dict : DictAt w2 d D1
  head : w2.heap[r]? = some (.cells #[.int .u64 seed, .pointer (some ⟨d, 0, none⟩), .int .i64 c] 148)
  chg : Chg (fun k => k = r) w1 w2
theorem RecAt.start {w : World} {r seed d : Nat} {D : Dc} {l : List Fld} (h : RecAt w r seed d D l) : RecMid r seed d D (recCost l : Nat) w w := ⟨h.dict, h.head, Chg.refl _ _⟩
theorem RecMid.drew {r seed d : Nat} {D1 : Dc} {c : Int} {w1 w2 : World} (h : RecMid r seed d D1 c w1 w2) : RecMid r seed d D1 c w1 w2.drew :=
  ⟨h.dict.keep fun _ _ => rfl, h.head, h.chg.drew⟩
theorem RecMid.set {r seed d : Nat} {D1 : Dc} {c : Int} {w1 w2 : World} (h : RecMid r seed d D1 c w1 w2) (c' : Int) : RecMid r seed d D1 c' w1 (w2.setCell ⟨r, 2, none⟩ (.int .i64 c')) := by
  have hc : Chg (fun k => k = r) w2 (w2.setCell ⟨r, 2, none⟩ (.int .i64 c')) := (Chg.refl (fun k => k = r) w2).setCell (p := ⟨r, 2, none⟩) (fun _ => rfl) _
  refine ⟨h.dict.chg hc fun k hk e => ?_, by rw [heapSetHere h.head]; rfl, h.chg.trans hc fun _ _ e => e⟩
  subst e
  exact h.dict.not_foot h.head (by decide) hk
/-- A call of the dict behind that. -/
theorem RecAt.opened {w w1 w2 w3 : World} {r seed d : Nat} {D D1 : Dc} {l l' : List Fld} {c : Int} (h : RecAt w r seed d D l) (hI : SI w d D w1 D1) (hw1 : D1.Wf) (hm : RecMid r seed d D1 c w1 w2) {m : List (List UInt8 × Value)}
    (ho : DOp d D1 m w2 w3) (hp : m.Perm (l'.map fdKv)) (hg : RecGood l') (hc : c = (recCost l' : Nat)) : RecOp r seed d D l' w w3 := by
  obtain ⟨g1, g2, g3⟩ := h.dicts hI hw1
  obtain ⟨⟨D3, q1, q2, q3, q4, q5⟩, q6⟩ := ho
  have hh3 := q6.heap hm.head (hm.dict.not_foot hm.head (by decide))
  subst hc
  have hseed : D3.seed = D1.seed := q2
  refine ⟨⟨D3, ⟨hh3, q3, q1, q4.trans hp, hg⟩, ?_⟩, ?_⟩
  · have hsz : w.heap.size ≤ w2.heap.size := Nat.le_trans g2.size hm.chg.size
    rintro k (rfl | hk)
    · exact .inl (.inl rfl)
    · rcases q5 k hk with hk | hk
      · exact .inl (g3 k (.inr hk))
      · exact .inr (by omega)
  · refine (g2.trans hm.chg fun k _ e => .inl e).trans q6 fun k _ hk => g3 k (.inr hk)
def SetTo (r seed d : Nat) (D : Dc) (l : List Fld) (k s : List UInt8) (w : World) (e : Ending) (w' : World) : Prop :=
  e = .returned (.tuple #[.bool (setR l k s).2.1, .int .i64 (setR l k s).2.2]) ∧ RecOp r seed d D (setR l k s).1 w w'
set_option maxHeartbeats 4000000 in
set_option maxRecDepth 100000 in
theorem rSet_any (w : World) (r seed d : Nat) (D : Dc) (l : List Fld) (k s : List UInt8) (h : RecAt w r seed d D l) (hk : k.length ≤ 140737488351232) (hs : s.length ≤ 140737488351232) :
    Calls Tryz.prog 65 #[.pointer (some ⟨r, 0, none⟩), .string ⟨k.toArray⟩, .string ⟨s.toArray⟩] w (SetTo r seed d D l k s w) := by
  by_cases hlong : 1048576 < max k.length s.length
  · have hl2 : (1048576 : Int) < max (k.length : Int) (s.length : Int) := by omega
    have HP : Hid (SetTo r seed d D l k s w (.returned (.tuple #[.bool false, .int .i64 2])) w) := Lib.hid (by
      unfold SetTo setR
      rw [if_pos hlong]
      exact ⟨rfl, ⟨D, h, fun k hk => .inl hk⟩, Chg.refl _ _⟩)
    clear h hlong
    go_enter Tryz.func65, Tryz.ntmps65
    go_wp2_with fail
    go_ret2
    exact HP.out
  · have hl2 : ¬ (1048576 : Int) < max (k.length : Int) (s.length : Int) := by omega
    have hk1 : k.length ≤ 1048576 := by omega
    have hs1 : s.length ≤ 1048576 := by omega
    have HH := Lib.hid h
    obtain ⟨⟨h0, h1, h2⟩, -⟩ := three h.head
    have HG := Lib.hid (h.getD k hk)
    have HL := Lib.hid hlong
    have hmix : Tryz.prog.follows .mixedOrders = true := by kernel_rfl
    clear h h0 h2 hlong hk hs
    go_enter Tryz.func65, Tryz.ntmps65
    go_upto_region 8 with (first
      | (go_at_call 84; refine HG.out.mono ?_; clear HG; rintro e w1 ⟨hp1, D1, hD1, hI⟩
         have HI := Lib.hid (show _ ∧ _ from ⟨hI, hD1⟩)
         have hh1 := (HH.out.dicts hI hD1).1
         obtain ⟨⟨-, q1, q2⟩, qf⟩ := three hh1.head
         have qf2 := qf 2
         have HDL := Lib.hid (dlen_any w1 d D1 hh1.dict)
         rw [hh1.few] at HDL
         clear hI hD1 hh1 qf
         rcases hp1 with ⟨x, hx, rfl⟩ | ⟨hx, rfl⟩))
    · -- the field is there
      have ht := HH.out.good.text _ hx
      have hcl := HH.out.good.cost
      have hpc := recPut_cost HH.out.good.keys hx s
      have hC1 := costs_any w1.drew k x hk1 ht.2
      have hC2 := fun W => Lib.hid (costs_any W k s hk1 hs1)
      have hset : setR l k s = (recPut l k s, false, 0) := by
        unfold setR
        rw [if_neg HL.out, recHas_some HH.out.good.keys hx]
      have HS := Lib.hid hset
      have HPC := Lib.hid hpc
      have HX := Lib.hid hx
      obtain ⟨cl, hcl2⟩ : ∃ c, recCost l = c := ⟨_, rfl⟩
      obtain ⟨c1, hc1⟩ : ∃ c, 32 + k.length + x.length = c := ⟨_, rfl⟩
      obtain ⟨c2, hc2⟩ : ∃ c, 32 + k.length + s.length = c := ⟨_, rfl⟩
      rw [hcl2] at q2 hcl
      rw [hc1] at hC1
      have hcle : c1 ≤ 3145728 := by have h1 : k.length ≤ 1048576 := ht.1; have h2 : x.length ≤ 1048576 := ht.2; omega
      have hcle2 : c2 ≤ 3145728 := by rw [← hc2]; clear hc2; omega
      have HC1 := Lib.hid hC1
      rw [hcl2, hc1, hc2] at HPC
      have hw1 : IntKind.i64.wrap ((cl : Int) - c1) = (cl : Int) - c1 := IntWalk.i64_in _ (by omega)
      have hw2 : IntKind.i64.wrap ((cl : Int) - c1 + c2) = (cl : Int) - c1 + c2 := IntWalk.i64_in _ (by omega)
      clear hx hset hpc hcl2 hc1 ht hC1
      refine wp_region_still_tail 10 hmix (by kernel_rfl) ?_
      simp only [List.take_succ_cons, List.take_zero, List.drop_succ_cons, List.drop_zero]
      repeat still_step
      still_call HC1.out
      repeat still_step
      refine wpStill_nil ?_
      change wpList _ _ _ _ _ w1.drew
      go_wp2_with fail
      have hM := ((HH.out.dicts HI.out.1 HI.out.2).1.start.drew.set ((cl : Int) - c1))
      obtain ⟨W2, hW2⟩ : ∃ W2, w1.setCell ⟨r, 2, none⟩ (.int .i64 ((cl : Int) - c1)) = W2 := ⟨_, rfl⟩
      have hM2 : RecMid r seed d D1 ((cl : Int) - c1) w1 W2.drew := by rw [← hW2]; exact hM
      rw [hW2]
      clear hM hW2
      obtain ⟨V, hV⟩ : ∃ V, W2.drew = V := ⟨_, rfl⟩
      rw [hV] at hM2 ⊢
      clear hV W2
      obtain ⟨⟨-, p1, p2⟩, pf⟩ := three hM2.head
      have pf2 := pf 2
      have HC2 := hC2 V.drew
      rw [hc2] at HC2
      have hM3 := hM2.drew.set ((cl : Int) - c1 + c2)
      obtain ⟨W3, hW3⟩ : ∃ W3, (V.setCell ⟨r, 2, none⟩ (.int .i64 ((cl : Int) - c1 + c2))).drew = W3 := ⟨_, rfl⟩
      have hM4 : RecMid r seed d D1 ((cl : Int) - c1 + c2) w1 W3 := by rw [← hW3]; exact hM3
      obtain ⟨⟨-, t1, -⟩, -⟩ := three hM4.head
      have HM4 := Lib.hid hM4
      have HC4 := fun Z => Lib.hid (costs_any Z k s hk1 hs1)
      rw [hc2] at HC4
      clear hM2 hC2 hc2 q1 q2 qf2 pf hM3 hM4 HC2
      refine wp_region_still_tail 10 hmix (by kernel_rfl) ?_
      simp only [List.take_succ_cons, List.take_zero, List.drop_succ_cons, List.drop_zero]
      repeat still_step
      still_call (HC4 _).out
      repeat still_step
      refine wpStill_nil ?_
      change wpList _ _ _ _ _ V.drew
      have hh1 := (HH.out.dicts HI.out.1 HI.out.2).1
      have HDS := Lib.hid ((set_any W3 d D1 k s HM4.out.dict HI.out.2 (by omega) (by rw [hh1.few]; have := HH.out.good.few; omega)).mono (R' := fun e W' => e = .returned (.bool false) ∧ DOp d D1 (D1.kv.map fun p => if p.1 = k then (p.1, .string ⟨s.toArray⟩) else p) W3 W') fun e W' hp => by
        rcases hp with ⟨-, h1, h2⟩ | ⟨h0, -⟩
        · exact ⟨h1, h2⟩
        · obtain ⟨e0, he0, hk0, -⟩ := fd_mem hh1.kv HX.out
          exact absurd hk0 (h0 e0 he0))
      have HKV := Lib.hid hh1.kv
      have HW3 := Lib.hid hW3
      clear hh1 hW3
      go_wp2_with fail
      rw [HW3.out]
      go_wp2_with (go_at_call 87; refine HDS.out.mono ?_; clear HDS; rintro e w5 ⟨rfl, ho⟩
                   have HO := Lib.hid ho
                   clear ho)
      go_ret2
      unfold SetTo
      rw [HS.out]
      refine ⟨rfl, HH.out.opened HI.out.1 HI.out.2 HM4.out HO.out ?_ (HH.out.good.put hs1) ?_⟩
      · rw [← recPut_kv]
        exact HKV.out.map _
      · have := HPC.out
        show (cl : Int) - c1 + c2 = ((recCost (recPut l k s) : Nat) : Int)
        clear hw1 hw2
        omega
    · -- a new field
      have hn := recHas_none hx
      have hcl := HH.out.good.cost
      obtain ⟨n, hnl⟩ : ∃ n, l.length = n := ⟨_, rfl⟩
      rw [hnl] at HDL
      have HNL := Lib.hid hnl
      have HX := Lib.hid hx
      have HN := Lib.hid hn
      clear hx hn hnl
      by_cases hfull : 1048576 ≤ n
      · have hb : decide ((1048576 : Int) ≤ (n : Int)) = true := by simp; omega
        have HP : Hid (SetTo r seed d D l k s w (.returned (.tuple #[.bool false, .int .i64 4])) w1) := Lib.hid (by
          unfold SetTo setR
          rw [if_neg HL.out, HN.out]
          simp only
          rw [if_pos (by rw [HNL.out]; exact hfull)]
          exact ⟨rfl, HH.out.same HI.out.1 HI.out.2⟩)
        clear hfull hcl
        go_wp2_with (go_at_call 86; refine HDL.out.mono ?_; clear HDL; rintro e w2 ⟨rfl, rfl⟩)
        go_ret2
        exact HP.out
      · have hb : decide ((1048576 : Int) ≤ (n : Int)) = false := by simp; omega
        have HF := Lib.hid hfull
        clear hfull
        go_wp2_with (go_at_call 86; refine HDL.out.mono ?_; clear HDL; rintro e w2 ⟨rfl, rfl⟩)
        obtain ⟨cl, hcl2⟩ : ∃ c, recCost l = c := ⟨_, rfl⟩
        obtain ⟨c2, hc2⟩ : ∃ c, 32 + k.length + s.length = c := ⟨_, rfl⟩
        rw [hcl2] at q2 hcl
        have hcle2 : c2 ≤ 3145728 := by rw [← hc2]; clear hc2; omega
        have HC2 := fun Z => Lib.hid (costs_any Z k s hk1 hs1)
        rw [hc2] at HC2
        have hcost : recCost ((k, s) :: l) = cl + c2 := by
          rw [← hcl2, ← hc2]; simp only [recCost, List.map_cons, List.sum_cons]; omega
        have HCO := Lib.hid hcost
        have hw2 : IntKind.i64.wrap ((cl : Int) + c2) = (cl : Int) + c2 := IntWalk.i64_in _ (by omega)
        have hh1 := (HH.out.dicts HI.out.1 HI.out.2).1
        have hM3 := hh1.start.drew.set ((cl : Int) + c2)
        obtain ⟨W3, hW3⟩ : ∃ W3, (w1.setCell ⟨r, 2, none⟩ (.int .i64 ((cl : Int) + c2))).drew = W3 := ⟨_, rfl⟩
        have hM4 : RecMid r seed d D1 ((cl : Int) + c2) w1 W3 := by rw [← hW3]; exact hM3
        obtain ⟨⟨-, t1, -⟩, -⟩ := three hM4.head
        have HM4 := Lib.hid hM4
        have HKV := Lib.hid hh1.kv
        have HDS := Lib.hid ((set_any W3 d D1 k s hM4.dict HI.out.2 (by omega) (by rw [hh1.few]; have := HH.out.good.few; omega)).mono (R' := fun e W' => e = .returned (.bool true) ∧ DOp d D1 ((k, .string ⟨s.toArray⟩) :: D1.kv) W3 W') fun e W' hp => by
          rcases hp with ⟨⟨e0, he0, hk0⟩, -⟩ | ⟨-, h1, h2⟩
          · obtain ⟨y, hy, -⟩ := mem_fd HKV.out he0
            exact absurd hk0 (HX.out _ hy)
          · exact ⟨h1, h2⟩)
        have HW3 := Lib.hid hW3
        have HSR : Hid (setR l k s = ((k, s) :: l, true, 0)) := Lib.hid (by
          unfold setR
          rw [if_neg HL.out, HN.out]
          simp only
          rw [if_neg (by rw [HNL.out]; exact HF.out)])
        clear hM3 hM4 hW3 hh1 hcost hcl2 hc2
        refine wp_region_still_tail 10 hmix (by kernel_rfl) ?_
        simp only [List.take_succ_cons, List.take_zero, List.drop_succ_cons, List.drop_zero]
        repeat still_step
        still_call (HC2 _).out
        repeat still_step
        refine wpStill_nil ?_
        change wpList _ _ _ _ _ w1.drew
        go_wp2_with fail
        rw [HW3.out]
        go_wp2_with (go_at_call 87; refine HDS.out.mono ?_; clear HDS; rintro e w5 ⟨rfl, ho⟩
                     have HO := Lib.hid ho
                     clear ho)
        go_ret2
        unfold SetTo
        rw [HSR.out]
        refine ⟨rfl, HH.out.opened HI.out.1 HI.out.2 HM4.out HO.out ?_ (HH.out.good.cons HX.out hk1 hs1 (by rw [HNL.out]; have := HF.out; omega)) ?_⟩
        · exact HKV.out.cons _
        · show (cl : Int) + c2 = ((recCost ((k, s) :: l) : Nat) : Int)
          rw [HCO.out]
          rfl
end Go.Proofs.YteiklgbjjmlmaaaGreat.DStr
