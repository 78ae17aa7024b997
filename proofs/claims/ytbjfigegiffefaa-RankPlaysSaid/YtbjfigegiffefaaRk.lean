/- Ranks in memory; Len, Cost, Score. -/
import Derived.Test.YtbjfigegiffefaaRkPlace
import Derived.Test.YtbjfigegiffefaaDDel
import Derived.Test.YtbjfigegiffefaaDelR
set_option linter.unusedVariables false
set_option linter.unusedSimpArgs false
namespace Pantry
open Go Go.RowKit
def rkCost (l : List Mb) : Nat := (l.map fun p => 40 + p.1.length).sum
def mbKv (p : Mb) : List UInt8 × Value := (p.1, .float .f64 p.2)
structure RkGood (l : List Mb) : Prop where
  rises : Rises l
  num : ∀ p ∈ l, ¬ fnan p.2
  text : ∀ p ∈ l, p.1.length ≤ 1048576
  few : l.length ≤ 1048576
theorem rkCost_le {l : List Mb} (h : ∀ p ∈ l, p.1.length ≤ 1048576) : rkCost l ≤ l.length * 1048616 := by
  induction l with
  | nil => simp [rkCost]
  | cons p l ih =>
    have h1 := ih fun q hq => h q (List.mem_cons_of_mem _ hq)
    have h2 := h p List.mem_cons_self
    simp only [rkCost, List.map_cons, List.sum_cons, List.length_cons] at *
    omega
end Pantry
namespace Go.Proofs.Ytbjfigegiffefaa
open Go.RowKit Pantry

/-- Block r is ranks of the members l; their scores lie in the dict at d, the row is v. -/
structure RkAt (w : World) (r seed d : Nat) (D : Dc) (v : Value) (l : List Mb) : Prop where
  head : w.heap[r]? = some (.cells #[.int .u64 seed, .pointer (some ⟨d, 0, none⟩), v, .int .i64 (rkCost l : Nat)] 78)
  dict : DictAt w d D
  wf : D.Wf
  row : w.ownsRow 0 34 2 v l.length (rkCells l)
  kv : D.kv.Perm (l.map mbKv)
  good : RkGood l
def RFoot (r d : Nat) (D : Dc) (v : Value) (k : Nat) : Prop := k = r ∨ DFoot d D k ∨ v.ownBlock = some k
theorem four {w : World} {g : Nat} {c0 c1 c2 c3 : Value} {t : TypeId} (h : w.heap[g]? = some (.cells #[c0, c1, c2, c3] t)) :
    (w.cell? ⟨g, 0, none⟩ = some c0 ∧ w.cell? ⟨g, 1, none⟩ = some c1 ∧ w.cell? ⟨g, 2, none⟩ = some c2 ∧ w.cell? ⟨g, 3, none⟩ = some c3) ∧ ∀ j, w.frozen? ⟨g, j, none⟩ = false := by
  refine ⟨⟨?_, ?_, ?_, ?_⟩, fun j => frozen_of_row w g j _ _ h⟩ <;> rw [cell_of_row w g _ _ _ _ h] <;> rfl
theorem RkAt.few {w : World} {r seed d : Nat} {D : Dc} {v : Value} {l : List Mb} (h : RkAt w r seed d D v l) : D.ents.length = l.length := by
  have := h.kv.length_eq
  simpa [Dc.kv] using this
theorem RkAt.slice {w : World} {r seed d : Nat} {D : Dc} {v : Value} {l : List Mb} (h : RkAt w r seed d D v l) : ∃ a c, v = .slice a l.length c ∧ Rd w a (rkCells l) := ownsRow_rd h.row (rkCells_one l)
/-- The row's block is of its type. -/
theorem row_type {w : World} {v : Value} {n k : Nat} {xs : List Value} (h : w.ownsRow 0 34 2 v n xs) (hk : v.ownBlock = some k) : ∃ c, w.heap[k]? = some (.cells c 34) := by
  rcases h.2 with ⟨rfl, _⟩ | ⟨g, cap, cur, rfl, _, hg, _⟩
  · cases hk
  · cases hk; exact ⟨_, hg⟩
theorem RkAt.lt {w : World} {r seed d : Nat} {D : Dc} {v : Value} {l : List Mb} (h : RkAt w r seed d D v l) : ∀ k, RFoot r d D v k → k < w.heap.size := by
  rintro k (rfl | hk | hk)
  · exact block_lt h.head
  · exact h.dict.lt k hk
  · obtain ⟨c, hc⟩ := row_type h.row hk
    exact block_lt hc
theorem RkAt.keep {w w' : World} {r seed d : Nat} {D : Dc} {v : Value} {l : List Mb} {S : Nat → Prop} (h : RkAt w r seed d D v l) (hc : Chg S w w') (hS : ∀ k, RFoot r d D v k → ¬ S k) : RkAt w' r seed d D v l :=
  ⟨hc.heap h.head (hS r (.inl rfl)), h.dict.chg hc fun k hk => hS k (.inr (.inl hk)), h.wf, Chg.ownsRow h.row hc fun k hk => hS k (.inr (.inr hk)), h.kv, h.good⟩
/-- A dict's blocks are of its types. -/
theorem DictAt.types {w : World} {d : Nat} {D : Dc} (h : DictAt w d D) {k : Nat} (hk : DFoot d D k) : ∃ c t, w.heap[k]? = some (.cells c t) ∧ (t = 101 ∨ t = 95 ∨ t = 97) := by
  rcases hk with rfl | ⟨hne, rfl⟩ | ⟨hne, rfl⟩ | ⟨e, he, rfl⟩
  · exact ⟨_, _, h.head, .inl rfl⟩
  · exact ⟨_, _, h.old.cells hne, .inr (.inl rfl)⟩
  · exact ⟨_, _, h.young.cells hne, .inr (.inl rfl)⟩
  · obtain ⟨q, hq⟩ := h.ent he
    exact ⟨_, _, hq, .inr (.inr rfl)⟩
theorem DictAt.not_foot {w : World} {d : Nat} {D : Dc} (h : DictAt w d D) {k : Nat} {c : Array Value} {t : TypeId} (hk : w.heap[k]? = some (.cells c t)) (ht : t ≠ 101 ∧ t ≠ 95 ∧ t ≠ 97) : ¬ DFoot d D k := fun hf => by
  obtain ⟨c', t', h1, h2⟩ := h.types hf
  rw [hk] at h1
  simp only [Option.some.injEq, Obj.cells.injEq] at h1
  rcases h2 with rfl | rfl | rfl
  · exact ht.1 h1.2.1
  · exact ht.2.1 h1.2.1
  · exact ht.2.2 h1.2.1
/-- After calls of the dict alone. -/
theorem RkAt.dicts {w w' : World} {r seed d : Nat} {D D' : Dc} {v : Value} {l : List Mb} (h : RkAt w r seed d D v l) (hI : SI w d D w' D') (hw : D'.Wf) : RkAt w' r seed d D' v l ∧ Chg (RFoot r d D v) w w' ∧ ∀ k, RFoot r d D' v k → RFoot r d D v k := by
  refine ⟨⟨hI.chg.heap h.head (h.dict.not_foot h.head (by decide)), hI.at_, hw, Chg.ownsRow h.row hI.chg fun k hk => ?_, (hI.perm.map DE.kv).trans h.kv, h.good⟩, hI.chg.mono fun k _ hk => .inr (.inl hk), ?_⟩
  · obtain ⟨c, hc⟩ := row_type h.row hk
    exact h.dict.not_foot hc (by decide)
  · rintro k (rfl | hk | hk)
    · exact .inl rfl
    · exact .inr (.inl (hI.foot k hk))
    · exact .inr (.inr hk)
theorem rkLen_any (w : World) (r seed d : Nat) (D : Dc) (v : Value) (l : List Mb) (h : RkAt w r seed d D v l) : Calls Try.prog 13 #[.pointer (some ⟨r, 0, none⟩)] w fun e w' => e = .returned (.int .i64 (l.length : Nat)) ∧ w = w' := by
  obtain ⟨⟨h0, h1, h2, h3⟩, -⟩ := four h.head
  obtain ⟨a, c, rfl, -⟩ := h.slice
  obtain ⟨n, hn⟩ : ∃ n, l.length = n := ⟨_, rfl⟩
  rw [hn] at h2 ⊢
  clear h h0 h1 h3 hn
  go_enter Try.func13, Try.ntmps13
  go_wp2_with fail
  go_ret
  exact ⟨rfl, rfl⟩
theorem rkCost_any (w : World) (r seed d : Nat) (D : Dc) (v : Value) (l : List Mb) (h : RkAt w r seed d D v l) : Calls Try.prog 17 #[.pointer (some ⟨r, 0, none⟩)] w fun e w' => e = .returned (.int .i64 (rkCost l : Nat)) ∧ w = w' := by
  obtain ⟨⟨h0, h1, h2, h3⟩, -⟩ := four h.head
  clear h h0 h1 h2
  go_enter Try.func17, Try.ntmps17
  go_wp2_with fail
  go_ret
  exact ⟨rfl, rfl⟩
/-- What Score tells: the score; the dict may have moved on. -/
structure RkSame (r seed d : Nat) (D : Dc) (v : Value) (l : List Mb) (w w' : World) : Prop where
  ex : ∃ D', RkAt w' r seed d D' v l ∧ ∀ k, RFoot r d D' v k → RFoot r d D v k
  chg : Chg (RFoot r d D v) w w'
def ScorePost (r seed d : Nat) (D : Dc) (v : Value) (l : List Mb) (key : List UInt8) (w : World) (e : Ending) (w' : World) : Prop :=
  ((∃ x, (key, x) ∈ l ∧ e = .returned (.tuple #[.float .f64 x, .bool true])) ∨ ((∀ p ∈ l, p.1 ≠ key) ∧ e = .returned (.tuple #[.float .f64 0, .bool false]))) ∧ RkSame r seed d D v l w w'
theorem mem_kv {D : Dc} {l : List Mb} (h : D.kv.Perm (l.map mbKv)) {e : DE} (he : e ∈ D.ents) : ∃ x, (e.key, x) ∈ l ∧ e.val = .float .f64 x := by
  have : e.kv ∈ l.map mbKv := h.mem_iff.1 (List.mem_map.2 ⟨e, he, rfl⟩)
  obtain ⟨p, hp, hh⟩ := List.mem_map.1 this
  simp only [mbKv, DE.kv, Prod.mk.injEq] at hh
  exact ⟨p.2, by rw [← hh.1]; exact hp, hh.2.symm⟩
theorem kv_mem {D : Dc} {l : List Mb} (h : D.kv.Perm (l.map mbKv)) {p : Mb} (hp : p ∈ l) : ∃ e ∈ D.ents, e.key = p.1 ∧ e.val = .float .f64 p.2 := by
  have : mbKv p ∈ D.kv := h.mem_iff.2 (List.mem_map.2 ⟨p, hp, rfl⟩)
  obtain ⟨e, he, hh⟩ := List.mem_map.1 this
  simp only [mbKv, DE.kv, Prod.mk.injEq] at hh
  exact ⟨e, he, hh.1, hh.2⟩
theorem rkScore_any (w : World) (r seed d : Nat) (D : Dc) (v : Value) (l : List Mb) (key : List UInt8) (h : RkAt w r seed d D v l) (hs : key.length ≤ 140737488351232) :
    Calls Try.prog 15 #[.pointer (some ⟨r, 0, none⟩), .string ⟨key.toArray⟩] w (ScorePost r seed d D v l key w) := by
  obtain ⟨⟨h0, h1, h2, h3⟩, -⟩ := four h.head
  have HH := Lib.hid h
  have HG := Lib.hid (get_any w d D key h.dict h.wf hs)
  clear h h0 h2 h3
  have HP : ∀ e w', GetPost d D key w e w' → ScorePost r seed d D v l key w e w' := by
    rintro e w' ⟨h1, D', hw', hI⟩
    obtain ⟨g1, g2, g3⟩ := HH.out.dicts hI hw'
    refine ⟨?_, ⟨D', g1, g3⟩, g2⟩
    rcases h1 with ⟨x, hx, rfl, rfl⟩ | ⟨hx, rfl⟩
    · obtain ⟨y, hy, hv⟩ := mem_kv HH.out.kv hx
      exact .inl ⟨y, hy, by rw [hv]⟩
    · refine .inr ⟨fun p hp hk => ?_, rfl⟩
      obtain ⟨e, he, h1, -⟩ := kv_mem HH.out.kv hp
      exact hx e he (h1.trans hk)
  have HPP := Lib.hid HP
  clear HP
  go_enter Try.func15, Try.ntmps15
  go_wp2_with (go_at_call 35; refine HG.out.mono ?_; intro e w' hp
               have HQ := Lib.hid (HPP.out e w' hp)
               obtain ⟨hp1, -⟩ := hp
               rcases hp1 with ⟨x, hx, hxk, rfl⟩ | ⟨hx, rfl⟩)
  all_goals
    go_ret2
    exact HQ.out
end Go.Proofs.Ytbjfigegiffefaa
