
/- Ranks in memory; Len, Cost, Score. -/
import Derived.Test.YteiklgbjjmlmaaaGreatZRkPlace
import Derived.Test.YteiklgbjjmlmaaaGreatZDCut
import Derived.Test.YteiklgbjjmlmaaaGreatZInsR
set_option linter.unusedVariables false
set_option linter.unusedSimpArgs false
namespace Pantry
open Go Go.RowKit
def rkCost (l : List Mb) : Nat := (l.map fun p => 40 + p.1.length).sum
def mbKv (p : Mb) : List UInt8 × Value := (p.1, .float .f64 p.2)
structure RkGood (l : List Mb) : Prop where
  rises : Rises l
  num : ∀ p ∈ l, ¬ fnan p.2
  text : ∀ p ∈ l, p.1.length ≤ 1048576
  few : l.length ≤ 1048576
theorem rkCost_le {l : List Mb} (h : ∀ p ∈ l, p.1.length ≤ 1048576) : rkCost l ≤ l.length * 1048616 := by
  induction l with
  | nil => simp [rkCost]
  | cons p l ih =>
    have h1 := ih fun q hq => h q (List.mem_cons_of_mem _ hq)
    have h2 := h p List.mem_cons_self
    simp only [rkCost, List.map_cons, List.sum_cons, List.length_cons] at *
    omega
end Pantry
namespace Go.Proofs.YteiklgbjjmlmaaaGreat
open Go.RowKit Pantry

/-- Block r is ranks of the members l; their scores lie in the dict at d, the row is v. -/
structure RkAt (w : World) (r seed d : Nat) (D : Dc) (v : Value) (l : List Mb) : Prop where
  head : w.heap[r]? = some (.cells #[.int .u64 seed, .pointer (some ⟨d, 0, none⟩), v, .int .i64 (rkCost l : Nat)] 167)
  dict : DictAt w d D
  wf : D.Wf
  row : w.ownsRow 0 54 2 v l.length (rkCells l)
  kv : D.kv.Perm (l.map mbKv)
  good : RkGood l
def RFoot (r d : Nat) (D : Dc) (v : Value) (k : Nat) : Prop := k = r ∨ DFoot d D k ∨ v.ownBlock = some k
theorem four {w : World} {g : Nat} {c0 c1 c2 c3 : Value} {t : TypeId} (h : w.heap[g]? = some (.cells #[c0, c1, c2, c3] t)) :
    (w.cell? ⟨g, 0, none⟩ = some c0 ∧ w.cell? ⟨g, 1, none⟩ = some c1 ∧ w.cell? ⟨g, 2, none⟩ = some c2 ∧ w.cell? ⟨g, 3, none⟩ = some c3) ∧ ∀ j, w.frozen? ⟨g, j, none⟩ = false := by
  refine ⟨⟨?_, ?_, ?_, ?_⟩, fun j => frozen_of_row w g j _ _ h⟩ <;> rw [cell_of_row w g _ _ _ _ h] <;> rfl
theorem RkAt.few {w : World} {r seed d : Nat} {D : Dc} {v : Value} {l : List Mb} (h : RkAt w r seed d D v l) : D.ents.length = l.length := by
  have := h.kv.length_eq
  simpa [Dc.kv] using this
theorem RkAt.slice {w : World} {r seed d : Nat} {D : Dc} {v : Value} {l : List Mb} (h : RkAt w r seed d D v l) : ∃ a c, v = .slice a l.length c ∧ Rd w a (rkCells l) := ownsRow_rd h.row (rkCells_one l)
/-- The row's block is of its type. -/
theorem row_type {w : World} {v : Value} {n k : Nat} {xs : List Value} (h : w.ownsRow 0 54 2 v n xs) (hk : v.ownBlock = some k) : ∃ c, w.heap[k]? = some (.cells c 54) := by
  rcases h.2 with ⟨rfl, _⟩ | ⟨g, cap, cur, rfl, _, hg, _⟩
  · cases hk
  · cases hk; exact ⟨_, hg⟩
theorem RkAt.lt {w : World} {r seed d : Nat} {D : Dc} {v : Value} {l : List Mb} (h : RkAt w r seed d D v l) : ∀ k, RFoot r d D v k → k < w.heap.size := by
  rintro k (rfl | hk | hk)
  · exact block_lt h.head
  · exact h.dict.lt k hk
  · obtain ⟨c, hc⟩ := row_type h.row hk
    exact block_lt hc
theorem RkAt.keep {w w' : World} {r seed d : Nat} {D : Dc} {v : Value} {l : List Mb} {S : Nat → Prop} (h : RkAt w r seed d D v l) (hc : Chg S w w') (hS : ∀ k, RFoot r d D v k → ¬ S k) : RkAt w' r seed d D v l :=
  ⟨hc.heap h.head (hS r (.inl rfl)), h.dict.chg hc fun k hk => hS k (.inr (.inl hk)), h.wf, Chg.ownsRow h.row hc fun k hk => hS k (.inr (.inr hk)), h.kv, h.good⟩
/-- A dict's blocks are of its types. -/
theorem DictAt.types {w : World} {d : Nat} {D : Dc} (h : DictAt w d D) {k : Nat} (hk : DFoot d D k) : ∃ c t, w.heap[k]? = some (.cells c t) ∧ (t = 210 ∨ t = 213 ∨ t = 215) := by
  rcases hk with rfl | ⟨hne, rfl⟩ | ⟨hne, rfl⟩ | ⟨e, he, rfl⟩
  · exact ⟨_, _, h.head, .inl rfl⟩
  · exact ⟨_, _, h.old.cells hne, .inr (.inl rfl)⟩
  · exact ⟨_, _, h.young.cells hne, .inr (.inl rfl)⟩
  · obtain ⟨q, hq⟩ := h.ent he
    exact ⟨_, _, hq, .inr (.inr rfl)⟩
theorem DictAt.not_foot {w : World} {d : Nat} {D : Dc} (h : DictAt w d D) {k : Nat} {c : Array Value} {t : TypeId} (hk : w.heap[k]? = some (.cells c t)) (ht : t ≠ 210 ∧ t ≠ 213 ∧ t ≠ 215) : ¬ DFoot d D k := fun hf => by
  obtain ⟨c', t', h1, h2⟩ := h.types hf
  rw [hk] at h1
  simp only [Option.some.injEq, Obj.cells.injEq] at h1
  rcases h2 with rfl | rfl | rfl
  · exact ht.1 h1.2.1
  · exact ht.2.1 h1.2.1
  · exact ht.2.2 h1.2.1
/-- After calls of the dict alone. -/
theorem RkAt.dicts {w w' : World} {r seed d : Nat} {D D' : Dc} {v : Value} {l : List Mb} (h : RkAt w r seed d D v l) (hI : SI w d D w' D') (hw : D'.Wf) : RkAt w' r seed d D' v l ∧ Chg (RFoot r d D v) w w' ∧ ∀ k, RFoot r d D' v k → RFoot r d D v k := by
  refine ⟨⟨hI.chg.heap h.head (h.dict.not_foot h.head (by decide)), hI.at_, hw, Chg.ownsRow h.row hI.chg fun k hk => ?_, (hI.perm.map DE.kv).trans h.kv, h.good⟩, hI.chg.mono fun k _ hk => .inr (.inl hk), ?_⟩
  · obtain ⟨c, hc⟩ := row_type h.row hk
    exact h.dict.not_foot hc (by decide)
  · rintro k (rfl | hk | hk)
    · exact .inl rfl
    · exact .inr (.inl (hI.foot k hk))
    · exact .inr (.inr hk)
theorem rkLen_any (w : World) (r seed d : Nat) (D : Dc) (v : Value) (l : List Mb) (h : RkAt w r seed d D v l) : Calls Tryz.prog 247 #[.pointer (some ⟨r, 0, none⟩)] w fun e w' => e = .returned (.int .i64 (l.length : Nat)) ∧ w = w' := by
  obtain ⟨⟨h0, h1, h2, h3⟩, -⟩ := four h.head
  obtain ⟨a, c, rfl, -⟩ := h.slice
  obtain ⟨n, hn⟩ : ∃ n, l.length = n := ⟨_, rfl⟩
  rw [hn] at h2 ⊢
  clear h h0 h1 h3 hn
  go_enter Tryz.func247, Tryz.ntmps247
  go_wp2_with fail
  go_ret
  exact ⟨rfl, rfl⟩
/-- What Score tells: the score; the dict may have moved on. -/
structure RkSame (r seed d : Nat) (D : Dc) (v : Value) (l : List Mb) (w w' : World) : Prop where
  ex : ∃ D', RkAt w' r seed d D' v l ∧ ∀ k, RFoot r d D' v k → RFoot r d D v k
  chg : Chg (RFoot r d D v) w w'
def ScorePost (r seed d : Nat) (D : Dc) (v : Value) (l : List Mb) (key : List UInt8) (w : World) (e : Ending) (w' : World) : Prop :=
  ((∃ x, (key, x) ∈ l ∧ e = .returned (.tuple #[.float .f64 x, .bool true])) ∨ ((∀ p ∈ l, p.1 ≠ key) ∧ e = .returned (.tuple #[.float .f64 0, .bool false]))) ∧ RkSame r seed d D v l w w'
theorem mem_kv {D : Dc} {l : List Mb} (h : D.kv.Perm (l.map mbKv)) {e : DE} (he : e ∈ D.ents) : ∃ x, (e.key, x) ∈ l ∧ e.val = .float .f64 x := by
  have : e.kv ∈ l.map mbKv := h.mem_iff.1 (List.mem_map.2 ⟨e, he, rfl⟩)
  obtain ⟨p, hp, hh⟩ := List.mem_map.1 this
  simp only [mbKv, DE.kv, Prod.mk.injEq] at hh
  exact ⟨p.2, by rw [← hh.1]; exact hp, hh.2.symm⟩
theorem kv_mem {D : Dc} {l : List Mb} (h : D.kv.Perm (l.map mbKv)) {p : Mb} (hp : p ∈ l) : ∃ e ∈ D.ents, e.key = p.1 ∧ e.val = .float .f64 p.2 := by
  have : mbKv p ∈ D.kv := h.mem_iff.2 (List.mem_map.2 ⟨p, hp, rfl⟩)
  obtain ⟨e, he, hh⟩ := List.mem_map.1 this
  simp only [mbKv, DE.kv, Prod.mk.injEq] at hh
  exact ⟨e, he, hh.1, hh.2⟩
theorem rkScore_any (w : World) (r seed d : Nat) (D : Dc) (v : Value) (l : List Mb) (key : List UInt8) (h : RkAt w r seed d D v l) (hs : key.length ≤ 140737488351232) :
    Calls Tryz.prog 135 #[.pointer (some ⟨r, 0, none⟩), .string ⟨key.toArray⟩] w (ScorePost r seed d D v l key w) := by
  obtain ⟨⟨h0, h1, h2, h3⟩, -⟩ := four h.head
  have HH := Lib.hid h
  have HG := Lib.hid (get_any w d D key h.dict h.wf hs)
  clear h h0 h2 h3
  have HP : ∀ e w', GetPost d D key w e w' → ScorePost r seed d D v l key w e w' := by
    rintro e w' ⟨h1, D', hw', hI⟩
    obtain ⟨g1, g2, g3⟩ := HH.out.dicts hI hw'
    refine ⟨?_, ⟨D', g1, g3⟩, g2⟩
    rcases h1 with ⟨x, hx, rfl, rfl⟩ | ⟨hx, rfl⟩
    · obtain ⟨y, hy, hv⟩ := mem_kv HH.out.kv hx
      exact .inl ⟨y, hy, by rw [hv]⟩
    · refine .inr ⟨fun p hp hk => ?_, rfl⟩
      obtain ⟨e, he, h1, -⟩ := kv_mem HH.out.kv hp
      exact hx e he (h1.trans hk)
  have HPP := Lib.hid HP
  clear HP
  go_enter Tryz.func135, Tryz.ntmps135
  go_wp2_with (go_at_call 93; refine HG.out.mono ?_; intro e w' hp
               have HQ := Lib.hid (HPP.out e w' hp)
               obtain ⟨hp1, -⟩ := hp
               rcases hp1 with ⟨x, hx, hxk, rfl⟩ | ⟨hx, rfl⟩)
  all_goals
    go_ret2
    exact HQ.out
end Go.Proofs.YteiklgbjjmlmaaaGreat


/- The place of a member; Rank. -/
set_option linter.unusedVariables false
set_option linter.unusedSimpArgs false
namespace Go.Proofs.YteiklgbjjmlmaaaGreat
open Go.RowKit Pantry

def PlacePost (l : List Mb) (x : Mb) (w : World) (e : Ending) (w' : World) : Prop := ∃ i : Nat, e = .returned (.int .i64 i) ∧ AtPlace l x i ∧ Below w.heap.size w w'
set_option maxHeartbeats 4000000 in
set_option maxRecDepth 100000 in
theorem place_any (w : World) (r seed d : Nat) (D : Dc) (v : Value) (l : List Mb) (x : Mb) (h : RkAt w r seed d D v l) (hx : ¬ fnan x.2) :
    Calls Tryz.prog 96 #[.pointer (some ⟨r, 0, none⟩), .agg #[.string ⟨x.1.toArray⟩, .float .f64 x.2]] w (PlacePost l x w) := by
  obtain ⟨⟨h0, h1, h2, h3⟩, -⟩ := four h.head
  obtain ⟨a, c, rfl, hrd⟩ := h.slice
  have hf : l.length ≤ 268435456 := by have := h.good.few; omega
  have HG := Lib.hid h.good
  have HRD := Lib.hid hrd
  have hrl := block_lt h.head
  obtain ⟨n, hn⟩ : ∃ n, l.length = n := ⟨_, rfl⟩
  rw [hn] at h2 hf
  have HN := Lib.hid hn
  have HX := Lib.hid hx
  clear h h0 h1 h3 hrd hn hx
  go_enter Tryz.func96, Tryz.ntmps96
  go_wp2_with fail
  obtain ⟨w1, hw1⟩ : ∃ w1, w.alloc (.cells #[.string ⟨x.1.toArray⟩, .float .f64 x.2] 54) = w1 := ⟨_, rfl⟩
  rw [hw1]
  have HB1 := Lib.hid (show Below w.heap.size w w1 by rw [← hw1]; exact (Below.refl _ w).alloc (Nat.le_refl _) _)
  have hbx : w1.heap[w.heap.size]? = some (.cells #[.string ⟨x.1.toArray⟩, .float .f64 x.2] 54) := by rw [← hw1]; exact heap_alloc_new w _
  have HS0 : Hid (w1.drew.cell? ⟨r, 2, none⟩ = some (.slice a n c) ∧ w1.drew.cell? ⟨w.heap.size, 0, none⟩ = some (.string ⟨x.1.toArray⟩) ∧ w1.drew.cell? ⟨w.heap.size, 1, none⟩ = some (.float .f64 x.2)) := Lib.hid ⟨(World.cell?_of_block (w := w) (w' := w1.drew) (a := ⟨r, 2, none⟩) (HB1.out.block r hrl)).trans h2, row_cells hbx 0 _ rfl, row_cells hbx 1 _ rfl⟩
  have HO := Lib.hid (bsearch_any w1.drew a n c l x (HRD.out.below HB1.out.drew) HN.out hf HG.out.num HX.out HG.out.rises)
  clear hw1 hbx h2 hf hrl
  go_region_held (fun w' => w'.cell? ⟨r, 2, none⟩ = some (.slice a n c) ∧ w'.cell? ⟨w.heap.size, 0, none⟩ = some (.string ⟨x.1.toArray⟩) ∧ w'.cell? ⟨w.heap.size, 1, none⟩ = some (.float .f64 x.2))
    (first | exact HS0.out | exact HS2.out)
    (first | (go_at_call 125; refine HO.out.mono ?_; rintro e w2 ⟨i, ok, rfl, hat, hb2⟩
              have HAT := Lib.hid hat
              have HB2 := Lib.hid (HB1.out.drew.trans (hb2.mono HB1.out.size))
              have HS2 : Hid (w2.cell? ⟨r, 2, none⟩ = some (.slice a n c) ∧ w2.cell? ⟨w.heap.size, 0, none⟩ = some (.string ⟨x.1.toArray⟩) ∧ w2.cell? ⟨w.heap.size, 1, none⟩ = some (.float .f64 x.2)) := Lib.hid (by
                have keep : ∀ p u, w1.drew.cell? p = some u → w2.cell? p = some u := fun p u hp => (World.cell?_of_block (w := w1.drew) (hb2.block p.block (World.block_lt_of_cell? w1.drew _ hp))).trans hp
                exact ⟨keep _ _ HS0.out.1, keep _ _ HS0.out.2.1, keep _ _ HS0.out.2.2⟩)
              clear hat hb2 HO))
  all_goals
    go_wp2_with fail
    go_ret
    exact ⟨i, rfl, HAT.out, HB2.out⟩
/-- Some more memory has been taken. -/
theorem RkSame.below {w w1 w2 : World} {r seed d : Nat} {D : Dc} {v : Value} {l : List Mb} (h : RkSame r seed d D v l w w1) (hb : Below w1.heap.size w1 w2) : RkSame r seed d D v l w w2 := by
  obtain ⟨⟨D', h1, h2⟩, h3⟩ := h
  have hc : Chg (fun _ => False) w1 w2 := Chg.of_below hb
  exact ⟨⟨D', h1.keep hc fun _ _ e => e, h2⟩, h3.trans hc fun _ _ e => e.elim⟩
def RankPost (r seed d : Nat) (D : Dc) (v : Value) (l : List Mb) (key : List UInt8) (w : World) (e : Ending) (w' : World) : Prop :=
  ((∃ (i x : Nat), l[i]? = some (key, x) ∧ e = .returned (.tuple #[.int .i64 i, .bool true])) ∨ ((∀ p ∈ l, p.1 ≠ key) ∧ e = .returned (.tuple #[.int .i64 0, .bool false]))) ∧ RkSame r seed d D v l w w'
set_option maxHeartbeats 2000000 in
theorem rkRank_any (w : World) (r seed d : Nat) (D : Dc) (v : Value) (l : List Mb) (key : List UInt8) (h : RkAt w r seed d D v l) (hs : key.length ≤ 140737488351232) :
    Calls Tryz.prog 120 #[.pointer (some ⟨r, 0, none⟩), .string ⟨key.toArray⟩] w (RankPost r seed d D v l key w) := by
  have HS := Lib.hid (rkScore_any w r seed d D v l key h hs)
  have HG := Lib.hid h.good
  clear h
  go_enter Tryz.func120, Tryz.ntmps120
  go_wp2_with fail
  refine HS.out.mono ?_
  rintro e w1 ⟨hres, hsame⟩
  have HM := Lib.hid hsame
  rcases hres with ⟨x, hx, rfl⟩ | ⟨hx, rfl⟩
  · obtain ⟨⟨D', h1, -⟩, -⟩ := hsame
    have HP := Lib.hid (place_any w1 r seed d D' v l (key, x) h1 (HG.out.num _ hx))
    have HX := Lib.hid hx
    clear h1 hx HS
    go_wp2_with (go_at_call 96; refine HP.out.mono ?_; rintro e w2 ⟨i, rfl, hat, hb⟩
                 have HAT := Lib.hid hat
                 have HB := Lib.hid hb
                 clear hat hb)
    go_ret2
    refine ⟨.inl ⟨i, x, ?_, rfl⟩, HM.out.below HB.out⟩
    obtain ⟨j, hj, he⟩ := List.mem_iff_getElem.1 HX.out
    have hg : l[j]? = some (key, x) := by rw [List.getElem?_eq_getElem hj, he]
    rw [(HG.out.rises.place hg).uniq HAT.out] at hg
    exact hg
  · have HX := Lib.hid hx
    clear hx hsame HS
    go_wp2_with fail
    go_ret2
    exact ⟨.inr ⟨HX.out, rfl⟩, HM.out⟩
end Go.Proofs.YteiklgbjjmlmaaaGreat


/- Ranks between two statements: the row is put, the dict is called, the cost is put; Delete. -/
set_option linter.unusedVariables false
set_option linter.unusedSimpArgs false
namespace Pantry
open Go Go.RowKit
theorem cut_cost {l : List Mb} {i : Nat} {p : Mb} (h : l[i]? = some p) : rkCost l = rkCost (l.take i ++ l.drop (i + 1)) + (40 + p.1.length) := by
  obtain ⟨hi, rfl⟩ := List.getElem?_eq_some_iff.1 h
  have key : ∀ (A B : List Mb) (p : Mb), rkCost (A ++ p :: B) = rkCost (A ++ B) + (40 + p.1.length) := fun A B p => by simp [rkCost]; omega
  rw [← key, ← List.drop_eq_getElem_cons hi, List.take_append_drop]
theorem cut_filter {l : List Mb} {i : Nat} {key : List UInt8} {x : Nat} (h : l[i]? = some (key, x)) (hn : (l.map (·.1)).Nodup) : (l.map mbKv).filter (fun p => !(p.1 == key)) = (l.take i ++ l.drop (i + 1)).map mbKv := by
  obtain ⟨hi, he⟩ := List.getElem?_eq_some_iff.1 h
  have e : l = l.take i ++ (key, x) :: l.drop (i + 1) := by rw [← he, ← List.drop_eq_getElem_cons hi, List.take_append_drop]
  generalize l.take i = A at e
  generalize l.drop (i + 1) = B at e
  subst e
  rw [List.map_append, List.map_cons, List.nodup_append] at hn
  obtain ⟨-, h2, h3⟩ := hn
  rw [List.nodup_cons] at h2
  have hA : (A.map mbKv).filter (fun p => !(p.1 == key)) = A.map mbKv := by
    rw [List.filter_eq_self]
    intro p hp
    obtain ⟨q, hq, rfl⟩ := List.mem_map.1 hp
    have : q.1 ≠ key := h3 _ (List.mem_map.2 ⟨q, hq, rfl⟩) _ List.mem_cons_self
    simpa [mbKv] using this
  have hB : (B.map mbKv).filter (fun p => !(p.1 == key)) = B.map mbKv := by
    rw [List.filter_eq_self]
    intro p hp
    obtain ⟨q, hq, rfl⟩ := List.mem_map.1 hp
    have : q.1 ≠ key := fun hh => h2.1 (List.mem_map.2 ⟨q, hq, hh⟩)
    simpa [mbKv] using this
  rw [List.map_append, List.map_cons, List.filter_append, List.filter_cons_of_neg (by simp [mbKv]), hA, hB, List.map_append]
theorem RkGood.cut {l : List Mb} (h : RkGood l) (i : Nat) : RkGood (l.take i ++ l.drop (i + 1)) := by
  have hm : ∀ p ∈ l.take i ++ l.drop (i + 1), p ∈ l := fun p hp => by
    rcases List.mem_append.1 hp with hp | hp
    · exact List.mem_of_mem_take hp
    · exact List.mem_of_mem_drop hp
  refine ⟨h.rises.erase i, fun p hp => h.num p (hm p hp), fun p hp => h.text p (hm p hp), ?_⟩
  have := h.few
  simp only [List.length_append, List.length_take, List.length_drop]
  omega
end Pantry
namespace Go.Proofs.YteiklgbjjmlmaaaGreat
open Go.RowKit Pantry

structure RkMid (w : World) (r seed d : Nat) (D : Dc) (v : Value) (l : List Mb) (cost : Int) : Prop where
  head : w.heap[r]? = some (.cells #[.int .u64 seed, .pointer (some ⟨d, 0, none⟩), v, .int .i64 cost] 167)
  dict : DictAt w d D
  wf : D.Wf
  row : w.ownsRow 0 54 2 v l.length (rkCells l)
theorem RkAt.mid {w : World} {r seed d : Nat} {D : Dc} {v : Value} {l : List Mb} (h : RkAt w r seed d D v l) : RkMid w r seed d D v l (rkCost l : Nat) := ⟨h.head, h.dict, h.wf, h.row⟩
theorem RkAt.keys {w : World} {r seed d : Nat} {D : Dc} {v : Value} {l : List Mb} (h : RkAt w r seed d D v l) : (l.map (·.1)).Nodup := by
  have h1 := (h.kv.map (·.1)).nodup_iff.1 (by
    have := h.wf.keys
    unfold Dc.kv
    rw [List.map_map]
    exact this)
  rw [List.map_map] at h1
  exact h1
theorem RkMid.row_set {w w2 : World} {r seed d : Nat} {D : Dc} {v v' : Value} {l l2 : List Mb} {cost : Int} (h : RkMid w r seed d D v l cost) (hr : w2.ownsRow 0 54 2 v' l2.length (rkCells l2)) (hg : w.grownBy w2 v.ownBlock) :
    RkMid (w2.setCell ⟨r, 2, none⟩ v') r seed d D v' l2 cost ∧ Chg (fun k => k = r ∨ v.ownBlock = some k) w (w2.setCell ⟨r, 2, none⟩ v') := by
  have hc : Chg (fun k => v.ownBlock = some k) w w2 := Chg.of_grown hg fun k hk => hk
  have hrow : ∀ k, v.ownBlock = some k → ∃ c, w.heap[k]? = some (.cells c 54) := fun k hk => row_type h.row hk
  have hrn : v.ownBlock ≠ some r := fun hk => by
    obtain ⟨c, hc⟩ := hrow r hk
    exact types_ne hc h.head (by decide) rfl
  have hh := hc.heap h.head hrn
  have hd2 : DictAt w2 d D := h.dict.chg hc fun k hk hkv => by
    obtain ⟨c, hc⟩ := hrow k hkv
    exact h.dict.not_foot hc (by decide) hk
  have ho : ∀ k, k ≠ r → (w2.setCell ⟨r, 2, none⟩ v').heap[k]? = w2.heap[k]? := fun k hk => heapSetOther (p := ⟨r, 2, none⟩) hk
  refine ⟨⟨?_, ?_, h.wf, ?_⟩, ?_⟩
  · rw [heapSetHere hh]; rfl
  · exact hd2.keep fun k hk => ho k fun e => by subst e; exact hd2.not_foot hh (by decide) hk
  · refine Chg.ownsRow hr ((Chg.refl (fun k => k = r) w2).setCell (p := ⟨r, 2, none⟩) (fun _ => rfl) v') fun k hk e => ?_
    subst e
    obtain ⟨c, hc⟩ := row_type hr hk
    exact types_ne hc hh (by decide) rfl
  · exact (hc.mono fun k _ hk => .inr hk).setCell (p := ⟨r, 2, none⟩) (fun _ => .inl rfl) v'
theorem RkMid.dict_op {w w' : World} {r seed d : Nat} {D : Dc} {v : Value} {l : List Mb} {cost : Int} {lk : List (List UInt8 × Value)} (h : RkMid w r seed d D v l cost) (ho : DOp d D lk w w') :
    (∃ D', RkMid w' r seed d D' v l cost ∧ D'.kv.Perm lk ∧ ∀ k, DFoot d D' k → DFoot d D k ∨ w.heap.size ≤ k) ∧ Chg (DFoot d D) w w' := by
  obtain ⟨⟨D', h1, -, h3, h4, h5⟩, hc⟩ := ho
  refine ⟨⟨D', ⟨hc.heap h.head (h.dict.not_foot h.head (by decide)), h3, h1, Chg.ownsRow h.row hc fun k hk => ?_⟩, h4, h5⟩, hc⟩
  obtain ⟨c, hcc⟩ := row_type h.row hk
  exact h.dict.not_foot hcc (by decide)
theorem RkMid.cost_set {w : World} {r seed d : Nat} {D : Dc} {v : Value} {l : List Mb} {cost : Int} (h : RkMid w r seed d D v l cost) (c : Int) : RkMid (w.setCell ⟨r, 3, none⟩ (.int .i64 c)) r seed d D v l c := by
  have ho : ∀ k, k ≠ r → (w.setCell ⟨r, 3, none⟩ (.int .i64 c)).heap[k]? = w.heap[k]? := fun k hk => heapSetOther (p := ⟨r, 3, none⟩) hk
  refine ⟨?_, h.dict.keep fun k hk => ho k fun e => by subst e; exact h.dict.not_foot h.head (by decide) hk, h.wf, ?_⟩
  · rw [heapSetHere h.head]; rfl
  · refine Chg.ownsRow h.row ((Chg.refl (fun k => k = r) w).setCell (p := ⟨r, 3, none⟩) (fun _ => rfl) _) fun k hk e => ?_
    subst e
    obtain ⟨c', hc⟩ := row_type h.row hk
    exact types_ne hc h.head (by decide) rfl
/-- What a call that changes ranks leaves. -/
structure ROp (r seed d : Nat) (D : Dc) (v : Value) (l' : List Mb) (w w' : World) : Prop where
  ex : ∃ D' v', RkAt w' r seed d D' v' l' ∧ ∀ k, RFoot r d D' v' k → RFoot r d D v k ∨ w.heap.size ≤ k
  chg : Chg (RFoot r d D v) w w'
theorem RkSame.op {w w' : World} {r seed d : Nat} {D : Dc} {v : Value} {l : List Mb} (h : RkSame r seed d D v l w w') : ROp r seed d D v l w w' := by
  obtain ⟨⟨D', h1, h2⟩, h3⟩ := h
  exact ⟨⟨D', v, h1, fun k hk => .inl (h2 k hk)⟩, h3⟩
/-- The row, then the dict, then the cost: all three have been changed. -/
theorem rk_changed {w w2 w4 : World} {r seed d : Nat} {D : Dc} {v v' : Value} {l l2 : List Mb} {lk : List (List UInt8 × Value)} (h : RkAt w r seed d D v l) (hr : w2.ownsRow 0 54 2 v' l2.length (rkCells l2)) (hg : w.grownBy w2 v.ownBlock)
    (hv : ∀ k, v'.ownBlock = some k → v.ownBlock = some k ∨ w.heap.size ≤ k) (ho : DOp d D lk (w2.setCell ⟨r, 2, none⟩ v') w4) (hk : lk.Perm (l2.map mbKv)) (hgood : RkGood l2) (c : Int) (hc : c = (rkCost l2 : Nat)) :
    ROp r seed d D v l2 w (w4.setCell ⟨r, 3, none⟩ (.int .i64 c)) ∧ w4.cell? ⟨r, 3, none⟩ = some (.int .i64 (rkCost l : Nat)) ∧ w4.frozen? ⟨r, 3, none⟩ = false := by
  subst hc
  obtain ⟨m1, c1⟩ := h.mid.row_set hr hg
  obtain ⟨⟨D', m2, p2, f2⟩, c2⟩ := m1.dict_op ho
  have m3 := m2.cost_set (rkCost l2 : Nat)
  have hsz : w.heap.size ≤ (w2.setCell ⟨r, 2, none⟩ v').heap.size := c1.size
  obtain ⟨⟨-, -, -, q3⟩, qf⟩ := four m2.head
  refine ⟨⟨⟨D', v', ⟨m3.head, m3.dict, m3.wf, m3.row, p2.trans hk, hgood⟩, ?_⟩, ?_⟩, q3, qf 3⟩
  · rintro k (rfl | hk | hk)
    · exact .inl (.inl rfl)
    · rcases f2 k hk with hh | hh
      · exact .inl (.inr (.inl hh))
      · exact .inr (Nat.le_trans hsz hh)
    · rcases hv k hk with hh | hh
      · exact .inl (.inr (.inr hh))
      · exact .inr hh
  · refine (Chg.trans (S := RFoot r d D v) (c1.mono ?_) c2 ?_).setCell (p := ⟨r, 3, none⟩) (fun _ => .inl rfl) _
    · rintro k - (rfl | hk)
      · exact .inl rfl
      · exact .inr (.inr hk)
    · exact fun k _ hk => .inr (.inl hk)
end Go.Proofs.YteiklgbjjmlmaaaGreat


/- Delete of ranks. -/
set_option linter.unusedVariables false
set_option linter.unusedSimpArgs false
namespace Go.Proofs.YteiklgbjjmlmaaaGreat
open Go.RowKit Pantry

theorem ROp.after {w w1 w2 : World} {r seed d : Nat} {D D1 : Dc} {v : Value} {l' : List Mb} (h : ROp r seed d D1 v l' w1 w2) (f : ∀ k, RFoot r d D1 v k → RFoot r d D v k) (g : Chg (RFoot r d D v) w w1) : ROp r seed d D v l' w w2 := by
  obtain ⟨⟨D2, v2, h1, h2⟩, h3⟩ := h
  exact ⟨⟨D2, v2, h1, fun k hk => (h2 k hk).imp (f k) fun hh => Nat.le_trans g.size hh⟩, g.trans h3 fun j _ hf => f j hf⟩
def RDelPost (r seed d : Nat) (D : Dc) (v : Value) (l : List Mb) (key : List UInt8) (w : World) (e : Ending) (w' : World) : Prop :=
  (∃ (i x : Nat), l[i]? = some (key, x) ∧ e = .returned (.bool true) ∧ ROp r seed d D v (l.take i ++ l.drop (i + 1)) w w') ∨
  ((∀ p ∈ l, p.1 ≠ key) ∧ e = .returned (.bool false) ∧ ROp r seed d D v l w w')
set_option maxHeartbeats 4000000 in
set_option maxRecDepth 100000 in
theorem rkDel_any (w : World) (r seed d : Nat) (D : Dc) (v : Value) (l : List Mb) (key : List UInt8) (h : RkAt w r seed d D v l) (hs : key.length ≤ 140737488351232) :
    Calls Tryz.prog 94 #[.pointer (some ⟨r, 0, none⟩), .string ⟨key.toArray⟩] w (RDelPost r seed d D v l key w) := by
  have HR := Lib.hid (rkRank_any w r seed d D v l key h hs)
  clear h
  go_enter Tryz.func94, Tryz.ntmps94
  go_wp2_with fail
  refine HR.out.mono ?_
  rintro e w1 ⟨hres, hsame⟩
  have HM := Lib.hid hsame
  rcases hres with ⟨i, x, hix, rfl⟩ | ⟨hx, rfl⟩
  · obtain ⟨⟨D1, h1, f1⟩, g1⟩ := hsame
    have H1 := Lib.hid h1
    have HF1 := Lib.hid f1
    have HG1 := Lib.hid g1
    have HIX := Lib.hid hix
    have hil := (List.getElem?_eq_some_iff.1 hix).1
    have hfew := h1.good.few
    have htext : key.length ≤ 1048576 := h1.good.text _ (List.mem_of_getElem? hix)
    have hcut := cut_cost hix
    have hcl := rkCost_le h1.good.text
    have HCF := Lib.hid (cut_filter hix h1.keys)
    have HGC := Lib.hid (h1.good.cut i)
    obtain ⟨n, hn⟩ : ∃ n, l.length = n + 1 := ⟨l.length - 1, by omega⟩
    have hl2 : (l.take i ++ l.drop (i + 1)).length = n := by simp; omega
    have hrow1 := h1.row
    rw [hn] at hrow1
    have HD := Lib.hid (delete_anyR w1 0 i n v (rkCells l) hrow1 (by omega) (rkCells_one l))
    rw [rkCells_take, rkCells_drop, ← rkCells_append] at HD
    obtain ⟨⟨h0, hp1, h2, h3⟩, hfz⟩ := four h1.head
    have hfz2 := hfz 2
    have hrl := block_lt h1.head
    have hnv : v.ownBlock ≠ some r := fun hk => by
      obtain ⟨c, hc⟩ := row_type h1.row hk
      exact types_ne hc h1.head (by decide) rfl
    obtain ⟨e0, he0, hek, -⟩ := kv_mem h1.kv (List.mem_of_getElem? hix)
    have hdl : D1.ents.length ≤ 268435456 := by rw [h1.few]; omega
    have HDD : Hid (∀ W, DictAt W d D1 → Calls Tryz.prog 122 #[.pointer (some ⟨d, 0, none⟩), .string ⟨key.toArray⟩] W (fun e W' => e = .returned (.bool true) ∧ DOp d D1 (D1.kv.filter fun p => !(p.1 == key)) W W')) := Lib.hid fun W hW =>
      (del_any W d D1 key hW H1.out.wf hs hdl).mono fun e W' hp => by
        rcases hp with ⟨-, h1, h2⟩ | ⟨h1, -⟩
        · exact ⟨h1, h2⟩
        · exact absurd hek (h1 e0 he0)
    have HL2 := Lib.hid hl2
    have HN := Lib.hid hn
    clear h1 hix hrow1 h0 hfz he0 hn hl2
    go_wp2_with fail
    refine HD.out.mono ?_
    rintro e w2 ⟨v', rfl, hr2, hg2, hv2⟩
    obtain ⟨a', c', rfl, -⟩ := ownsRow_rd hr2 (rkCells_one _)
    have hh2 : w2.heap[r]? = _ := (hg2.block r hrl (by intro e; exact hnv e.symm)).trans H1.out.head
    obtain ⟨⟨k0, k1, k2, k3⟩, kf⟩ := four hh2
    have kf2 := kf 2
    have hr3 : w2.ownsRow 0 54 2 (.slice a' n c') (l.take i ++ l.drop (i + 1)).length (rkCells (l.take i ++ l.drop (i + 1))) := by rw [HL2.out]; exact hr2
    have hm := H1.out.mid.row_set hr3 hg2
    have HMID := Lib.hid hm.1
    obtain ⟨⟨-, q1, -, -⟩, -⟩ := four hm.1.head
    have HR2 := Lib.hid (show _ ∧ _ ∧ _ from ⟨hr3, hg2, hv2⟩)
    clear hr2 hr3 hg2 hv2 hh2 k0 k1 k3 kf hm hp1 h2 h3 hfz2 HD
    go_wp2_with fail
    refine (HDD.out _ HMID.out.dict).mono ?_
    rintro e w4 ⟨rfl, ho⟩
    have hcc : (rkCost l : Int) - (40 + (key.length : Int)) = ((rkCost (l.take i ++ l.drop (i + 1)) : Nat) : Int) := by
      have : (key, x).1.length = key.length := rfl
      omega
    obtain ⟨hop, j3, j3f⟩ := rk_changed H1.out HR2.out.1 HR2.out.2.1 HR2.out.2.2 ho (((H1.out.kv.filter _).trans (by rw [HCF.out]))) HGC.out _ hcc
    have HOP := Lib.hid hop
    obtain ⟨cl, hcl2⟩ : ∃ c, rkCost l = c := ⟨_, rfl⟩
    rw [hcl2] at j3 hcl hcc HOP
    rw [hcc] at HOP
    clear hop ho hcut hcl2
    go_wp2_with fail
    go_ret
    exact .inl ⟨i, x, HIX.out, rfl, HOP.out.after HF1.out HG1.out⟩
  · have HX := Lib.hid hx
    clear hx HR
    go_wp2_with fail
    go_ret
    exact .inr ⟨HX.out, rfl, HM.out.op⟩
end Go.Proofs.YteiklgbjjmlmaaaGreat
