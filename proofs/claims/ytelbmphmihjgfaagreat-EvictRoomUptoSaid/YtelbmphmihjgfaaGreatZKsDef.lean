/- A keyspace in memory; its parts, each changed by itself. -/
import Derived.Test.YtelbmphmihjgfaaGreatZKsPure
import Derived.Test.YtelbmphmihjgfaaGreatZEDCut
import Derived.Test.YtelbmphmihjgfaaGreatZIter
import Derived.Maps.OwnSet
set_option linter.unusedVariables false
set_option linter.unusedSimpArgs false
namespace Pantry
open Go Go.RowKit
structure Raw where
  seed : Nat
  most : Int
  policy : Int
  samples : Int
  now : Nat
  uses : Nat
  used : Int
  km : List (List UInt8 × Value)
  kl : List (List UInt8 × Value)
  ents : List KE
  touched : List (List UInt8)
  steps : List (Int × List UInt8)
/-- A space as its parts. -/
def Sp.raw (X : Sp) : Raw := ⟨X.seed, X.most, X.policy, X.samples, X.now, X.uses, (usedN X.ents : Nat), X.ents.map KE.kv, lateKv X.ents, X.ents, X.touched, X.steps⟩
def stC (p : Int × List UInt8) : List Value := [.int .i64 p.1, .string ⟨p.2.toArray⟩]
def stCells (l : List (Int × List UInt8)) : List Value := l.flatMap stC
theorem stCells_snoc (l : List (Int × List UInt8)) (x : Int × List UInt8) : stCells (l ++ [x]) = stCells l ++ [.int .i64 x.1, .string ⟨x.2.toArray⟩] := by simp [stCells, stC]
theorem stCells_one (l : List (Int × List UInt8)) : ∀ u ∈ stCells l, u.oneCell' = true := by
  intro u hu
  obtain ⟨p, -, hp⟩ := List.mem_flatMap.1 hu
  simp [stC] at hp
  rcases hp with rfl | rfl <;> rfl
def KE.cells (e : KE) : Array Value := #[.pointer (some ⟨e.v, 0, none⟩), .int .i64 e.cost, .int .u64 e.stamp, .int .i64 e.dl]
theorem maps_shrink {H : Type} {w : World} {P : Program} {k : TypeId} {R : Value → Option (DataW H × List MemPlace)} {b n : Nat} {D : DataW H} (h : w.ownsMap P k R b n D) : w.ownsMap P k R b (Maps.size D) D := by
  obtain ⟨es, clock, hb, F, hs, rfl⟩ := h
  exact ⟨es, clock, hb, F, by simp [Maps.size, length_sorted], rfl⟩
theorem map_ne {w : World} {a b : Nat} {es : Array MapEntry} {c : Nat} {cs : Array Value} {t : TypeId} (h : w.heap[a]? = some (.map es c)) (h' : w.heap[b]? = some (.cells cs t)) : a ≠ b := by
  rintro rfl; rw [h] at h'; cases h'
theorem head11 {w : World} {g : Nat} {c0 c1 c2 c3 c4 c5 c6 c7 c8 c9 c10 : Value} {t : TypeId} (h : w.heap[g]? = some (.cells #[c0, c1, c2, c3, c4, c5, c6, c7, c8, c9, c10] t)) :
    w.cell? ⟨g, 0, none⟩ = some c0 ∧ w.cell? ⟨g, 1, none⟩ = some c1 ∧ w.cell? ⟨g, 2, none⟩ = some c2 ∧ w.cell? ⟨g, 3, none⟩ = some c3 ∧ w.cell? ⟨g, 4, none⟩ = some c4 ∧ w.cell? ⟨g, 5, none⟩ = some c5 ∧ w.cell? ⟨g, 6, none⟩ = some c6 ∧ w.cell? ⟨g, 7, none⟩ = some c7 ∧ w.cell? ⟨g, 8, none⟩ = some c8 ∧ w.cell? ⟨g, 9, none⟩ = some c9 ∧ w.cell? ⟨g, 10, none⟩ = some c10 ∧ ∀ j, w.frozen? ⟨g, j, none⟩ = false := by
  refine ⟨?_, ?_, ?_, ?_, ?_, ?_, ?_, ?_, ?_, ?_, ?_, fun j => frozen_of_row w g j _ _ h⟩ <;> rw [cell_of_row w g _ _ _ _ h] <;> rfl
end Pantry
namespace Go.Proofs.YtelbmphmihjgfaaGreat.DEnt
open Go.RowKit Pantry Go.Maps

theorem strLaw : Keyed Tryz.prog 9 := string_keyed Tryz.underlying9
theorem stepI : ElemT Tryz.prog 40 46 2 24 (.agg #[.int .i64 0, .string ⟨#[]⟩]) := ⟨Tryz.underlying40, by kernel_rfl, rfl, by omega, by omega⟩
/-- Block t is the set of the touched keys. -/
structure TouchAt (w : World) (t : Nat) (T : List (List UInt8)) : Prop where
  ex : ∃ D : DataW Unit, w.ownsMap Tryz.prog 9 unitElem t (Maps.size D) D ∧ Maps.size D ≤ T.length ∧ ∀ k, Maps.has D (.string k) = decide (k ∈ T)
theorem TouchAt.obj {w : World} {t : Nat} {T : List (List UInt8)} (h : TouchAt w t T) : ∃ es c, w.heap[t]? = some (.map es c) := by
  obtain ⟨D, ⟨es, c, h1, -⟩, -⟩ := h.ex
  exact ⟨es, c, h1⟩
theorem TouchAt.keep {w w' : World} {t : Nat} {T : List (List UInt8)} (h : TouchAt w t T) (hk : w'.heap[t]? = w.heap[t]?) : TouchAt w' t T := by
  obtain ⟨D, ⟨es, c, h1, h2⟩, h3⟩ := h.ex
  exact ⟨D, ⟨es, c, hk.trans h1, h2⟩, h3⟩
/-- A keyspace in memory: s the space, m and l the dicts of all keys and of those with a deadline, t the touched, sv the row of steps. -/
structure RawAt (w : World) (s m l t : Nat) (M L : Dc) (sv : Value) (R : Raw) : Prop where
  head : w.heap[s]? = some (.cells #[.int .u64 R.seed, .int .i64 R.most, .int .i64 R.policy, .int .i64 R.samples, .int .i64 R.now, .int .u64 R.uses, .int .i64 R.used, .pointer (some ⟨m, 0, none⟩), .pointer (some ⟨l, 0, none⟩), .map (some t), sv] 81)
  main : DictAt w m M
  mwf : M.Wf
  mkv : M.kv.Perm R.km
  late : DictAt w l L
  lwf : L.Wf
  lkv : L.kv.Perm R.kl
  ents : ∀ e ∈ R.ents, w.heap[e.b]? = some (.cells e.cells 103)
  touch : TouchAt w t R.touched
  steps : w.ownsRow 0 46 2 sv R.steps.length (stCells R.steps)
  apart : ∀ k, DFoot m M k → ¬ DFoot l L k
def SFoot (s m l t : Nat) (M L : Dc) (sv : Value) (es : List KE) (k : Nat) : Prop := k = s ∨ DFoot m M k ∨ DFoot l L k ∨ (∃ e ∈ es, k = e.b) ∨ k = t ∨ sv.ownBlock = some k
section
variable {w w' : World} {s m l t : Nat} {M L : Dc} {sv : Value} {R : Raw}
theorem RawAt.keep (h : RawAt w s m l t M L sv R) {S : Nat → Prop} (hc : Chg S w w') (hS : ∀ k, SFoot s m l t M L sv R.ents k → ¬ S k) : RawAt w' s m l t M L sv R := by
  obtain ⟨es, c, ht⟩ := h.touch.obj
  exact ⟨hc.heap h.head (hS _ (.inl rfl)), h.main.chg hc fun k hk => hS k (.inr (.inl hk)), h.mwf, h.mkv, h.late.chg hc fun k hk => hS k (.inr (.inr (.inl hk))), h.lwf, h.lkv,
    fun e he => hc.heap (h.ents e he) (hS _ (.inr (.inr (.inr (.inl ⟨e, he, rfl⟩))))), h.touch.keep ((hc.heap ht (hS _ (.inr (.inr (.inr (.inr (.inl rfl))))))).trans ht.symm),
    Chg.ownsRow h.steps hc fun k hk => hS k (.inr (.inr (.inr (.inr (.inr hk))))), h.apart⟩
theorem RawAt.row (h : RawAt w s m l t M L sv R) {k : Nat} (hk : sv.ownBlock = some k) : ∃ c, w.heap[k]? = some (.cells c 46) := by
  obtain ⟨c, hc, -⟩ := ownsRow_cells h.steps hk
  exact ⟨c, hc⟩
/-- What the blocks of a space are. -/
theorem RawAt.kind (h : RawAt w s m l t M L sv R) {k : Nat} (hk : SFoot s m l t M L sv R.ents k) :
    (∃ es c, w.heap[k]? = some (.map es c)) ∨ ∃ c ty, w.heap[k]? = some (.cells c ty) ∧ (ty = 81 ∨ ty = 154 ∨ ty = 144 ∨ ty = 146 ∨ ty = 103 ∨ ty = 46) := by
  rcases hk with rfl | hk | hk | ⟨e, he, rfl⟩ | rfl | hk
  · exact .inr ⟨_, _, h.head, .inl rfl⟩
  · obtain ⟨c, ty, h1, h2⟩ := h.main.types hk
    exact .inr ⟨c, ty, h1, by rcases h2 with e | e | e <;> simp [e]⟩
  · obtain ⟨c, ty, h1, h2⟩ := h.late.types hk
    exact .inr ⟨c, ty, h1, by rcases h2 with e | e | e <;> simp [e]⟩
  · exact .inr ⟨_, _, h.ents e he, by simp⟩
  · exact .inl h.touch.obj
  · obtain ⟨c, hc⟩ := h.row hk
    exact .inr ⟨c, _, hc, by simp⟩
theorem RawAt.lt (h : RawAt w s m l t M L sv R) {k : Nat} (hk : SFoot s m l t M L sv R.ents k) : k < w.heap.size := by
  rcases h.kind hk with ⟨es, c, h1⟩ | ⟨c, ty, h1, -⟩
  · exact block_lt h1
  · exact block_lt h1
/-- A block of another type is none of a space's. -/
theorem RawAt.not_foot (h : RawAt w s m l t M L sv R) {k : Nat} {c : Array Value} {ty : TypeId} (hk : w.heap[k]? = some (.cells c ty)) (ht : ty ≠ 81 ∧ ty ≠ 154 ∧ ty ≠ 144 ∧ ty ≠ 146 ∧ ty ≠ 103 ∧ ty ≠ 46) : ¬ SFoot s m l t M L sv R.ents k := fun hf => by
  rcases h.kind hf with ⟨es, c', h1⟩ | ⟨c', ty', h1, h2⟩
  · rw [hk] at h1; cases h1
  · rw [hk] at h1
    simp only [Option.some.injEq, Obj.cells.injEq] at h1
    obtain ⟨-, rfl, -⟩ := h1
    obtain ⟨n1, n2, n3, n4, n5, n6⟩ := ht
    rcases h2 with e | e | e | e | e | e
    · exact n1 e
    · exact n2 e
    · exact n3 e
    · exact n4 e
    · exact n5 e
    · exact n6 e
/-- A map is no block of a dict. -/
theorem DictAt.not_map {d : Nat} {D : Dc} (h : DictAt w d D) {k : Nat} (hk : ∃ es c, w.heap[k]? = some (.map es c)) : ¬ DFoot d D k := fun hf => by
  obtain ⟨es, c, h1⟩ := hk
  obtain ⟨c', ty, h2, -⟩ := h.types hf
  rw [h1] at h2; cases h2
/-- Cells of the space itself have been written. -/
theorem RawAt.reset (h : RawAt w s m l t M L sv R) {R' : Raw} {sv' : Value} (hh : w'.heap[s]? = some (.cells #[.int .u64 R'.seed, .int .i64 R'.most, .int .i64 R'.policy, .int .i64 R'.samples, .int .i64 R'.now, .int .u64 R'.uses, .int .i64 R'.used, .pointer (some ⟨m, 0, none⟩), .pointer (some ⟨l, 0, none⟩), .map (some t), sv'] 81))
    (ho : ∀ k, k ≠ s → w'.heap[k]? = w.heap[k]?) (h1 : R'.km = R.km) (h2 : R'.kl = R.kl) (h3 : R'.ents = R.ents) (h4 : R'.touched = R.touched) (h5 : w'.ownsRow 0 46 2 sv' R'.steps.length (stCells R'.steps)) : RawAt w' s m l t M L sv' R' := by
  obtain ⟨es, c, ht⟩ := h.touch.obj
  refine ⟨hh, h.main.keep fun k hk => ho k fun e => ?_, h.mwf, h1 ▸ h.mkv, h.late.keep fun k hk => ho k fun e => ?_, h.lwf, h2 ▸ h.lkv, fun e he => ?_, ?_, h5, h.apart⟩
  · subst e; exact h.main.not_foot h.head (by decide) hk
  · subst e; exact h.late.not_foot h.head (by decide) hk
  · rw [h3] at he
    exact (ho _ (types_ne (h.ents e he) h.head (by decide))).trans (h.ents e he)
  · rw [h4]; exact h.touch.keep (ho _ (map_ne ht h.head))
end
/-- A space while calls work on it, since w0: F0 are its blocks there. -/
structure Run (w0 : World) (F0 : Nat → Prop) (w : World) (s m l t : Nat) (R : Raw) : Prop where
  ex : ∃ M L sv, RawAt w s m l t M L sv R ∧ ∀ k, SFoot s m l t M L sv R.ents k → F0 k ∨ w0.heap.size ≤ k
  chg : Chg F0 w0 w
section
variable {w0 w w' : World} {F0 : Nat → Prop} {s m l t : Nat} {R : Raw}
theorem Run.cells (h : Run w0 F0 w s m l t R) : ∃ sv, w.cell? ⟨s, 0, none⟩ = some (.int .u64 R.seed) ∧ w.cell? ⟨s, 1, none⟩ = some (.int .i64 R.most) ∧ w.cell? ⟨s, 2, none⟩ = some (.int .i64 R.policy) ∧ w.cell? ⟨s, 3, none⟩ = some (.int .i64 R.samples) ∧ w.cell? ⟨s, 4, none⟩ = some (.int .i64 R.now) ∧ w.cell? ⟨s, 5, none⟩ = some (.int .u64 R.uses) ∧ w.cell? ⟨s, 6, none⟩ = some (.int .i64 R.used) ∧ w.cell? ⟨s, 7, none⟩ = some (.pointer (some ⟨m, 0, none⟩)) ∧ w.cell? ⟨s, 8, none⟩ = some (.pointer (some ⟨l, 0, none⟩)) ∧ w.cell? ⟨s, 9, none⟩ = some (.map (some t)) ∧ w.cell? ⟨s, 10, none⟩ = some sv ∧ ∀ j, w.frozen? ⟨s, j, none⟩ = false := by
  obtain ⟨M, L, sv, h1, -⟩ := h.ex
  exact ⟨sv, head11 h1.head⟩
theorem Run.ent (h : Run w0 F0 w s m l t R) {e : KE} (he : e ∈ R.ents) : w.cell? ⟨e.b, 0, none⟩ = some (.pointer (some ⟨e.v, 0, none⟩)) ∧ w.cell? ⟨e.b, 1, none⟩ = some (.int .i64 e.cost) ∧ w.cell? ⟨e.b, 2, none⟩ = some (.int .u64 e.stamp) ∧ w.cell? ⟨e.b, 3, none⟩ = some (.int .i64 e.dl) ∧ ∀ j, w.frozen? ⟨e.b, j, none⟩ = false := by
  obtain ⟨M, L, sv, h1, -⟩ := h.ex
  have := h1.ents e he
  exact ⟨cell_of_row _ _ 0 _ _ _ this, cell_of_row _ _ 1 _ _ _ this, cell_of_row _ _ 2 _ _ _ this, cell_of_row _ _ 3 _ _ _ this, fun j => frozen_of_row w _ j _ _ this⟩
theorem Run.below (h : Run w0 F0 w s m l t R) (hb : Below w.heap.size w w') : Run w0 F0 w' s m l t R := by
  obtain ⟨M, L, sv, h1, h2⟩ := h.ex
  exact ⟨⟨M, L, sv, h1.keep (S := fun _ => False) (Chg.of_below hb) fun _ _ e => e, h2⟩, h.chg.trans (T := fun _ => False) (Chg.of_below hb) fun _ _ e => e.elim⟩
theorem Run.setUsed (h : Run w0 F0 w s m l t R) (u : Int) : Run w0 F0 (w.setCell ⟨s, 6, none⟩ (.int .i64 u)) s m l t { R with used := u } := by
  obtain ⟨M, L, sv, h1, h2⟩ := h.ex
  refine ⟨⟨M, L, sv, h1.reset (by rw [heapSetHere h1.head]; rfl) (fun k hk => heapSetOther (p := ⟨s, 6, none⟩) hk) rfl rfl rfl rfl ?_, h2⟩, h.chg.setCell (p := ⟨s, 6, none⟩) (fun hl => (h2 s (.inl rfl)).resolve_right (Nat.not_le.2 hl)) _⟩
  exact (Chg.setCell (S := fun k => k = s) (Chg.refl _ w) (p := ⟨s, 6, none⟩) (fun _ => rfl) _).ownsRow h1.steps fun k hk e => by
    subst e
    obtain ⟨c, hc⟩ := h1.row hk
    exact types_ne hc h1.head (by decide) rfl
theorem Run.setNow (h : Run w0 F0 w s m l t R) (u : Nat) : Run w0 F0 (w.setCell ⟨s, 4, none⟩ (.int .i64 u)) s m l t { R with now := u } := by
  obtain ⟨M, L, sv, h1, h2⟩ := h.ex
  refine ⟨⟨M, L, sv, h1.reset (by rw [heapSetHere h1.head]; rfl) (fun k hk => heapSetOther (p := ⟨s, 4, none⟩) hk) rfl rfl rfl rfl ?_, h2⟩, h.chg.setCell (p := ⟨s, 4, none⟩) (fun hl => (h2 s (.inl rfl)).resolve_right (Nat.not_le.2 hl)) _⟩
  exact (Chg.setCell (S := fun k => k = s) (Chg.refl _ w) (p := ⟨s, 4, none⟩) (fun _ => rfl) _).ownsRow h1.steps fun k hk e => by
    subst e
    obtain ⟨c, hc⟩ := h1.row hk
    exact types_ne hc h1.head (by decide) rfl
theorem Run.setUses (h : Run w0 F0 w s m l t R) (u : Nat) : Run w0 F0 (w.setCell ⟨s, 5, none⟩ (.int .u64 u)) s m l t { R with uses := u } := by
  obtain ⟨M, L, sv, h1, h2⟩ := h.ex
  refine ⟨⟨M, L, sv, h1.reset (by rw [heapSetHere h1.head]; rfl) (fun k hk => heapSetOther (p := ⟨s, 5, none⟩) hk) rfl rfl rfl rfl ?_, h2⟩, h.chg.setCell (p := ⟨s, 5, none⟩) (fun hl => (h2 s (.inl rfl)).resolve_right (Nat.not_le.2 hl)) _⟩
  exact (Chg.setCell (S := fun k => k = s) (Chg.refl _ w) (p := ⟨s, 5, none⟩) (fun _ => rfl) _).ownsRow h1.steps fun k hk e => by
    subst e
    obtain ⟨c, hc⟩ := h1.row hk
    exact types_ne hc h1.head (by decide) rfl
/-- The main dict has been changed. -/
theorem Run.mainOp {M L : Dc} {sv : Value} (h : Chg F0 w0 w) (h1 : RawAt w s m l t M L sv R) (h2 : ∀ k, SFoot s m l t M L sv R.ents k → F0 k ∨ w0.heap.size ≤ k) {kv' : List (List UInt8 × Value)} (hop : DOp m M kv' w w') : Run w0 F0 w' s m l t { R with km := kv' } := by
  obtain ⟨⟨M', q1, q2, q3, q4, q5⟩, hc⟩ := hop
  obtain ⟨es, c, ht⟩ := h1.touch.obj
  refine ⟨⟨M', L, sv, ⟨hc.heap h1.head (h1.main.not_foot h1.head (by decide)), q3, q1, q4, h1.late.chg hc fun k hk hm => h1.apart k hm hk, h1.lwf, h1.lkv, fun e he => hc.heap (h1.ents e he) (h1.main.not_foot (h1.ents e he) (by decide)), h1.touch.keep ((hc.heap ht (h1.main.not_map ⟨es, c, ht⟩)).trans ht.symm), Chg.ownsRow h1.steps hc fun k hk => ?_, fun k hk hl => ?_⟩, fun k hk => ?_⟩, h.trans hc fun j hj hd => (h2 j (.inr (.inl hd))).resolve_right (by omega)⟩
  · obtain ⟨c, hcc⟩ := h1.row hk
    exact h1.main.not_foot hcc (by decide)
  · rcases q5 k hk with hk | hk
    · exact h1.apart k hk hl
    · have := h1.late.lt k hl; omega
  · rcases hk with rfl | hk | hk | hk | hk | hk
    · exact h2 _ (.inl rfl)
    · rcases q5 k hk with hk | hk
      · exact h2 k (.inr (.inl hk))
      · exact .inr (Nat.le_trans h.size hk)
    · exact h2 k (.inr (.inr (.inl hk)))
    · exact h2 k (.inr (.inr (.inr (.inl hk))))
    · exact h2 k (.inr (.inr (.inr (.inr (.inl hk)))))
    · exact h2 k (.inr (.inr (.inr (.inr (.inr hk)))))
/-- The dict of those with a deadline has been changed. -/
theorem Run.lateOp {M L : Dc} {sv : Value} (h : Chg F0 w0 w) (h1 : RawAt w s m l t M L sv R) (h2 : ∀ k, SFoot s m l t M L sv R.ents k → F0 k ∨ w0.heap.size ≤ k) {kv' : List (List UInt8 × Value)} (hop : DOp l L kv' w w') : Run w0 F0 w' s m l t { R with kl := kv' } := by
  obtain ⟨⟨L', q1, q2, q3, q4, q5⟩, hc⟩ := hop
  obtain ⟨es, c, ht⟩ := h1.touch.obj
  refine ⟨⟨M, L', sv, ⟨hc.heap h1.head (h1.late.not_foot h1.head (by decide)), h1.main.chg hc fun k hk hm => h1.apart k hk hm, h1.mwf, h1.mkv, q3, q1, q4, fun e he => hc.heap (h1.ents e he) (h1.late.not_foot (h1.ents e he) (by decide)), h1.touch.keep ((hc.heap ht (h1.late.not_map ⟨es, c, ht⟩)).trans ht.symm), Chg.ownsRow h1.steps hc fun k hk => ?_, fun k hk hl => ?_⟩, fun k hk => ?_⟩, h.trans hc fun j hj hd => (h2 j (.inr (.inr (.inl hd)))).resolve_right (by omega)⟩
  · obtain ⟨c, hcc⟩ := h1.row hk
    exact h1.late.not_foot hcc (by decide)
  · rcases q5 k hl with hl | hl
    · exact h1.apart k hk hl
    · have := h1.main.lt k hk; omega
  · rcases hk with rfl | hk | hk | hk | hk | hk
    · exact h2 _ (.inl rfl)
    · exact h2 k (.inr (.inl hk))
    · rcases q5 k hk with hk | hk
      · exact h2 k (.inr (.inr (.inl hk)))
      · exact .inr (Nat.le_trans h.size hk)
    · exact h2 k (.inr (.inr (.inr (.inl hk))))
    · exact h2 k (.inr (.inr (.inr (.inr (.inl hk)))))
    · exact h2 k (.inr (.inr (.inr (.inr (.inr hk)))))
/-- The touched have been changed. -/
theorem Run.mapOp (h : Run w0 F0 w s m l t R) {T : List (List UInt8)} (hT : TouchAt w' t T) (hg : w.grownBy w' (some t)) : Run w0 F0 w' s m l t { R with touched := T } := by
  obtain ⟨M, L, sv, h1, h2⟩ := h.ex
  have hc : Chg (fun k => k = t) w w' := Chg.of_grown hg fun k e => by cases e; rfl
  obtain ⟨es, c, ht⟩ := h1.touch.obj
  have nm : ∀ {k c ty}, w.heap[k]? = some (.cells c ty) → k ≠ t := fun hk e => map_ne ht hk e.symm
  refine ⟨⟨M, L, sv, ⟨hc.heap h1.head (nm h1.head), h1.main.chg hc fun k hk e => ?_, h1.mwf, h1.mkv, h1.late.chg hc fun k hk e => ?_, h1.lwf, h1.lkv, fun e he => hc.heap (h1.ents e he) (nm (h1.ents e he)), hT, Chg.ownsRow h1.steps hc fun k hk => ?_, h1.apart⟩, h2⟩, h.chg.trans hc fun j hj e => (h2 j (.inr (.inr (.inr (.inr (.inl e)))))).resolve_right (by omega)⟩
  · subst e; exact h1.main.not_map ⟨es, c, ht⟩ hk
  · subst e; exact h1.late.not_map ⟨es, c, ht⟩ hk
  · obtain ⟨c, hcc⟩ := h1.row hk
    exact nm hcc
/-- An entry has been written. -/
theorem Run.setEnt (h : Run w0 F0 w s m l t R) {e e' : KE} (he : e ∈ R.ents) (hb : e'.b = e.b) (hkey : e'.key = e.key) (hn : (R.ents.map (·.b)).Nodup) (hkn : (R.ents.map (·.key)).Nodup) {j : Nat} {u : Value} (hu : e.cells.setIfInBounds j u = e'.cells) : Run w0 F0 (w.setCell ⟨e.b, j, none⟩ u) s m l t { R with ents := setK R.ents e' } := by
  obtain ⟨M, L, sv, h1, h2⟩ := h.ex
  have hE := h1.ents e he
  have hc : Chg (fun k => k = e.b) w (w.setCell ⟨e.b, j, none⟩ u) := Chg.setCell (S := fun k => k = e.b) (Chg.refl _ w) (p := ⟨e.b, j, none⟩) (fun _ => rfl) _
  obtain ⟨es, c, ht⟩ := h1.touch.obj
  have inj : ∀ x ∈ R.ents, x.b = e.b → x = e := fun x hx hxb => by
    obtain ⟨i, hi, rfl⟩ := List.mem_iff_getElem.1 hx
    obtain ⟨i', hi', rfl⟩ := List.mem_iff_getElem.1 he
    have := (List.nodup_iff_pairwise_ne.1 hn)
    rcases Nat.lt_trichotomy i i' with h | h | h
    · exact absurd hxb (by have := List.pairwise_iff_getElem.1 this i i' (by simpa using hi) (by simpa using hi') h; simpa using this)
    · subst h; rfl
    · exact absurd hxb.symm (by have := List.pairwise_iff_getElem.1 this i' i (by simpa using hi') (by simpa using hi) h; simpa using this)
  refine ⟨⟨M, L, sv, ⟨hc.heap h1.head (types_ne hE h1.head (by decide)).symm, h1.main.chg hc fun k hk e2 => ?_, h1.mwf, h1.mkv, h1.late.chg hc fun k hk e2 => ?_, h1.lwf, h1.lkv, fun x hx => ?_, h1.touch.keep ((hc.heap ht (map_ne ht hE)).trans ht.symm), Chg.ownsRow h1.steps hc fun k hk => ?_, h1.apart⟩, fun k hk => ?_⟩, h.chg.setCell (p := ⟨e.b, j, none⟩) (fun hl => (h2 e.b (.inr (.inr (.inr (.inl ⟨e, he, rfl⟩))))).resolve_right (Nat.not_le.2 hl)) _⟩
  · subst e2; exact h1.main.not_foot hE (by decide) hk
  · subst e2; exact h1.late.not_foot hE (by decide) hk
  · rcases mem_setK hx with rfl | ⟨hx, hne⟩
    · rw [hb, heapSetHere hE, hu]
    · exact hc.heap (h1.ents x hx) fun e2 => hne (by rw [inj x hx e2, hkey])
  · obtain ⟨c, hcc⟩ := h1.row hk
    exact types_ne hcc hE (by decide)
  · rcases hk with rfl | hk | hk | ⟨x, hx, rfl⟩ | hk | hk
    · exact h2 _ (.inl rfl)
    · exact h2 k (.inr (.inl hk))
    · exact h2 k (.inr (.inr (.inl hk)))
    · rcases mem_setK hx with rfl | ⟨hx, -⟩
      · exact h2 _ (.inr (.inr (.inr (.inl ⟨e, he, hb⟩))))
      · exact h2 _ (.inr (.inr (.inr (.inl ⟨x, hx, rfl⟩))))
    · exact h2 k (.inr (.inr (.inr (.inr (.inl hk)))))
    · exact h2 k (.inr (.inr (.inr (.inr (.inr hk)))))
/-- Some entries are forgotten. -/
theorem Run.lessEnts (h : Run w0 F0 w s m l t R) {es' : List KE} (hs : ∀ e ∈ es', e ∈ R.ents) : Run w0 F0 w s m l t { R with ents := es' } := by
  obtain ⟨M, L, sv, h1, h2⟩ := h.ex
  refine ⟨⟨M, L, sv, ⟨h1.head, h1.main, h1.mwf, h1.mkv, h1.late, h1.lwf, h1.lkv, fun e he => h1.ents e (hs e he), h1.touch, h1.steps, h1.apart⟩, fun k hk => ?_⟩, h.chg⟩
  rcases hk with rfl | hk | hk | ⟨x, hx, rfl⟩ | hk | hk
  · exact h2 _ (.inl rfl)
  · exact h2 k (.inr (.inl hk))
  · exact h2 k (.inr (.inr (.inl hk)))
  · exact h2 _ (.inr (.inr (.inr (.inl ⟨x, hs x hx, rfl⟩))))
  · exact h2 k (.inr (.inr (.inr (.inr (.inl hk)))))
  · exact h2 k (.inr (.inr (.inr (.inr (.inr hk)))))
/-- A new entry. -/
theorem Run.newEnt (h : Run w0 F0 w s m l t R) (e : KE) (hb : e.b = w.heap.size) : Run w0 F0 (w.alloc (.cells e.cells 103)) s m l t { R with ents := e :: R.ents } := by
  have h0 := h.below ((Below.refl w.heap.size w).alloc (Nat.le_refl _) (.cells e.cells 103))
  obtain ⟨M, L, sv, h1, h2⟩ := h0.ex
  refine ⟨⟨M, L, sv, ⟨h1.head, h1.main, h1.mwf, h1.mkv, h1.late, h1.lwf, h1.lkv, fun x hx => ?_, h1.touch, h1.steps, h1.apart⟩, fun k hk => ?_⟩, h0.chg⟩
  · rcases List.mem_cons.1 hx with rfl | hx
    · rw [hb]; exact heap_alloc_new w _
    · exact h1.ents x hx
  · rcases hk with rfl | hk | hk | ⟨x, hx, rfl⟩ | hk | hk
    · exact h2 _ (.inl rfl)
    · exact h2 k (.inr (.inl hk))
    · exact h2 k (.inr (.inr (.inl hk)))
    · rcases List.mem_cons.1 hx with rfl | hx
      · exact .inr (by rw [hb]; exact h.chg.size)
      · exact h2 _ (.inr (.inr (.inr (.inl ⟨x, hx, rfl⟩))))
    · exact h2 k (.inr (.inr (.inr (.inr (.inl hk)))))
    · exact h2 k (.inr (.inr (.inr (.inr (.inr hk)))))
end
/-- A space by a handle: s its block, F all its blocks. -/
structure SpH (w : World) (s : Nat) (F : Nat → Prop) (X : Sp) : Prop where
  ex : ∃ m l t M L sv, RawAt w s m l t M L sv X.raw ∧ ∀ k, F k ↔ SFoot s m l t M L sv X.ents k
  good : SpGood X
/-- .. behind a call. -/
structure SpTo (s : Nat) (F : Nat → Prop) (X' : Sp) (w w' : World) : Prop where
  ex : ∃ F', SpH w' s F' X' ∧ ∀ k, F' k → F k ∨ w.heap.size ≤ k
  chg : Chg F w w'
theorem SpH.run {w : World} {s : Nat} {F : Nat → Prop} {X : Sp} (h : SpH w s F X) : ∃ m l t, Run w F w s m l t X.raw := by
  obtain ⟨m, l, t, M, L, sv, h1, h2⟩ := h.ex
  exact ⟨m, l, t, ⟨M, L, sv, h1, fun k hk => .inl ((h2 k).2 hk)⟩, Chg.refl _ _⟩
theorem Run.to {w0 w : World} {F0 : Nat → Prop} {s m l t : Nat} {X : Sp} (h : Run w0 F0 w s m l t X.raw) (hg : SpGood X) : SpTo s F0 X w0 w := by
  obtain ⟨M, L, sv, h1, h2⟩ := h.ex
  exact ⟨⟨_, ⟨⟨m, l, t, M, L, sv, h1, fun k => Iff.rfl⟩, hg⟩, h2⟩, h.chg⟩
theorem SpH.keep {w w' : World} {s : Nat} {F : Nat → Prop} {X : Sp} (h : SpH w s F X) {S : Nat → Prop} (hc : Chg S w w') (hS : ∀ k, F k → ¬ S k) : SpH w' s F X := by
  obtain ⟨m, l, t, M, L, sv, h1, h2⟩ := h.ex
  exact ⟨⟨m, l, t, M, L, sv, h1.keep hc fun k hk => hS k ((h2 k).2 hk), h2⟩, h.good⟩
theorem SpH.below {w w' : World} {s : Nat} {F : Nat → Prop} {X : Sp} (h : SpH w s F X) (hb : Below w.heap.size w w') : SpH w' s F X := h.keep (S := fun _ => False) (Chg.of_below hb) fun _ _ e => e
theorem SpH.lt {w : World} {s : Nat} {F : Nat → Prop} {X : Sp} (h : SpH w s F X) {k : Nat} (hk : F k) : k < w.heap.size := by
  obtain ⟨m, l, t, M, L, sv, h1, h2⟩ := h.ex
  exact h1.lt ((h2 k).1 hk)
theorem SpH.not_foot {w : World} {s : Nat} {F : Nat → Prop} {X : Sp} (h : SpH w s F X) {k : Nat} {c : Array Value} {ty : TypeId} (hk : w.heap[k]? = some (.cells c ty)) (ht : ty ≠ 81 ∧ ty ≠ 154 ∧ ty ≠ 144 ∧ ty ≠ 146 ∧ ty ≠ 103 ∧ ty ≠ 46) : ¬ F k := by
  obtain ⟨m, l, t, M, L, sv, h1, h2⟩ := h.ex
  exact fun hf => h1.not_foot hk ht ((h2 k).1 hf)
end Go.Proofs.YtelbmphmihjgfaaGreat.DEnt

/- A keyspace: costs, past, touch, goes, expires, met. -/
set_option linter.unusedVariables false
set_option linter.unusedSimpArgs false
namespace Pantry
theorem ret_i64 {a b : Int} (h : a = b) : Go.Ending.returned (.int .i64 a) = .returned (.int .i64 b) := by rw [h]
end Pantry
namespace Go.Proofs.YtelbmphmihjgfaaGreat.DEnt
open Go.RowKit Pantry Go.Maps

theorem costs_any (w : World) (e : KE) (h1 : w.cell? ⟨e.b, 1, none⟩ = some (.int .i64 e.cost)) (h3 : w.cell? ⟨e.b, 3, none⟩ = some (.int .i64 e.dl)) (hk : e.key.length ≤ 1048576) (hc : e.cost ≤ 2199023255552) (hd : e.dl ≤ 9007199254740992) :
    Calls Tryz.prog 53 #[.pointer (some ⟨e.b, 0, none⟩), .string ⟨e.key.toArray⟩] w fun r w' => r = .returned (.int .i64 (e.costs : Nat)) ∧ w = w' := by
  obtain ⟨key, b, v, cost, stamp, dl⟩ := e
  simp only at *
  by_cases h0 : 0 < dl
  · have hx : (KE.costs ⟨key, b, v, cost, stamp, dl⟩ : Nat) = 48 + key.length + cost + 16 := by simp [KE.costs, h0]
    rw [hx]
    have hg : ((dl : Int) > 0) = True := by simp; omega
    clear hx
    go_enter Tryz.func53, Tryz.ntmps53
    go_wp2_with fail
    go_ret
    exact ⟨ret_i64 (by omega), rfl⟩
  · obtain rfl : dl = 0 := by omega
    have hx : (KE.costs ⟨key, b, v, cost, stamp, 0⟩ : Nat) = 48 + key.length + cost := by simp [KE.costs]
    rw [hx]
    clear hx h0
    go_enter Tryz.func53, Tryz.ntmps53
    go_wp2_with fail
    go_ret
    exact ⟨ret_i64 (by omega), rfl⟩
theorem past_any (w : World) (s at_ now : Nat) (h4 : w.cell? ⟨s, 4, none⟩ = some (.int .i64 now)) :
    Calls Tryz.prog 35 #[.pointer (some ⟨s, 0, none⟩), .int .i64 at_] w fun r w' => r = .returned (.bool (decide (0 < at_) && decide (at_ ≤ now))) ∧ w = w' := by
  by_cases h0 : 0 < at_
  · by_cases h1 : at_ ≤ now
    · rw [decide_eq_true h0, decide_eq_true h1]
      go_enter Tryz.func35, Tryz.ntmps35
      go_wp2_with fail
      go_ret
      exact ⟨by simp, rfl⟩
    · rw [decide_eq_true h0, decide_eq_false h1]
      go_enter Tryz.func35, Tryz.ntmps35
      go_wp2_with fail
      go_ret
      exact ⟨by simp, rfl⟩
  · obtain rfl : at_ = 0 := by omega
    go_enter Tryz.func35, Tryz.ntmps35
    go_wp2_with fail
    go_ret
    exact ⟨by simp, rfl⟩
section
variable {w0 w w' : World} {F0 : Nat → Prop} {s m l t : Nat} {R : Raw}
theorem Run.touch (h : Run w0 F0 w s m l t R) (key : List UInt8) (hk : key.length ≤ 140737488351232) (hT : R.touched.length ≤ 1073741824) :
    Calls Tryz.prog 58 #[.pointer (some ⟨s, 0, none⟩), .string ⟨key.toArray⟩] w fun r w' => r = .returned (.tuple #[]) ∧ Run w0 F0 w' s m l t { R with touched := addT R.touched key } := by
  obtain ⟨sv, -, -, -, -, -, -, -, -, -, c9, -, -⟩ := h.cells
  obtain ⟨M, L, sv', h1, -⟩ := h.ex
  obtain ⟨D, hown, hsz, hhas⟩ := h1.touch.ex
  have hkey : keyOf Tryz.prog 9 (.string ⟨key.toArray⟩) = some (.string key) := Go.WideMaps.keyOf_string_mk Tryz.underlying9 (by show key.toArray.size ≤ maxLen; unfold maxLen; simp; omega)
  have HEND : Hid (∀ w1, w1.ownsMap Tryz.prog 9 unitElem t (Maps.size D + 1) (D.put (.string key) (.agg [])) → w.grownBy w1 (some t) → Run w0 F0 w1 s m l t { R with touched := addT R.touched key }) := Lib.hid (by
    intro w1 hown1 hg1
    have hty := hown.tidy strLaw
    refine h.mapOp ⟨_, maps_shrink hown1, ?_, fun k => ?_⟩ hg1
    · rw [Maps.size_put hty, hhas]
      unfold addT
      by_cases hm : key ∈ R.touched
      · rw [if_pos (by simpa using hm), if_pos hm]; exact hsz
      · rw [if_neg (by simpa using hm), if_neg hm, List.length_cons]; omega
    · by_cases e : k = key
      · subst e
        rw [Maps.has_put_same hty.isMap (by trivial)]
        simp [mem_addT]
      · rw [Maps.has_put_other (by simpa using e), hhas]
        simp [mem_addT, e])
  have hlen : Maps.size D < maxLen := by unfold maxLen; omega
  clear h h1 hsz hhas
  go_enter Tryz.func58, Tryz.ntmps58
  go_wp2_with (at_mapUpdate; refine wpList_mapUpdate_own _ rfl _ _ _ 79 rfl 9 164 strLaw Tryz.underlying79 (unitElem (H := Unit)) t _ D rfl hown hlen _ _ _ rfl rfl hkey _ [] unitElem_mk ?_; intro w1 hown1 hg1
               have HR := Lib.hid (HEND.out w1 hown1 hg1)
               clear hown1 hg1 HEND hown hlen hkey)
  refine bodyPost_end (results_none rfl _ _ _) rfl ?_
  exact ⟨rfl, HR.out⟩
theorem kv_length {D : Dc} {l : List (List UInt8 × Value)} (h : D.kv.Perm l) : D.ents.length = l.length := by
  have := h.length_eq
  simpa [Dc.kv] using this
theorem del_kv {d : Nat} {D : Dc} {key : List UInt8} {l : List (List UInt8 × Value)} (hp : D.kv.Perm l) {r : Ending} (h : DelPost d D key w r w') : DOp d D (l.filter fun p => !(p.1 == key)) w w' ∧ ∃ b, r = .returned (.bool b) := by
  rcases h with ⟨-, rfl, q⟩ | ⟨hn, rfl, q⟩
  · exact ⟨⟨by obtain ⟨D, a1, a2, a3, a4, a5⟩ := q.ex; exact ⟨D, a1, a2, a3, a4.trans (hp.filter _), a5⟩, q.chg⟩, _, rfl⟩
  · refine ⟨⟨?_, q.chg⟩, _, rfl⟩
    obtain ⟨D', a1, a2, a3, a4, a5⟩ := q.ex
    refine ⟨D', a1, a2, a3, a4.trans (hp.trans ?_), a5⟩
    rw [List.filter_eq_self.2]
    intro p hp2
    obtain ⟨e, he, rfl⟩ := List.mem_map.1 (hp.mem_iff.2 hp2)
    have := hn e he
    simpa [DE.kv] using this
theorem Run.del (h : Run w0 F0 w s m l t R) (key : List UInt8) (hk : key.length ≤ 140737488351232) (hT : R.km.length ≤ 268435456) :
    Calls Tryz.prog 54 #[.pointer (some ⟨m, 0, none⟩), .string ⟨key.toArray⟩] w fun r w' => (∃ b, r = .returned (.bool b)) ∧ Run w0 F0 w' s m l t { R with km := R.km.filter fun p => !(p.1 == key) } := by
  obtain ⟨M, L, sv, h1, h2⟩ := h.ex
  refine (del_any w m M key h1.main h1.mwf hk (by rw [kv_length h1.mkv]; exact hT)).mono ?_
  rintro r w' hp
  obtain ⟨q1, q2⟩ := del_kv h1.mkv hp
  exact ⟨q2, Run.mainOp h.chg h1 h2 q1⟩
theorem Run.ldel (h : Run w0 F0 w s m l t R) (key : List UInt8) (hk : key.length ≤ 140737488351232) (hT : R.kl.length ≤ 268435456) :
    Calls Tryz.prog 54 #[.pointer (some ⟨l, 0, none⟩), .string ⟨key.toArray⟩] w fun r w' => (∃ b, r = .returned (.bool b)) ∧ Run w0 F0 w' s m l t { R with kl := R.kl.filter fun p => !(p.1 == key) } := by
  obtain ⟨M, L, sv, h1, h2⟩ := h.ex
  refine (del_any w l L key h1.late h1.lwf hk (by rw [kv_length h1.lkv]; exact hT)).mono ?_
  rintro r w' hp
  obtain ⟨q1, q2⟩ := del_kv h1.lkv hp
  exact ⟨q2, Run.lateOp h.chg h1 h2 q1⟩
theorem SI.op {d : Nat} {D0 D : Dc} (h : SI w d D0 w' D) (hw : D.Wf) {l : List (List UInt8 × Value)} (hp : D0.kv.Perm l) : DOp d D0 l w w' :=
  ⟨⟨D, hw, h.seed, h.at_, (h.perm.map DE.kv).trans hp, fun k hk => .inl (h.foot k hk)⟩, h.chg⟩
theorem Run.get (h : Run w0 F0 w s m l t R) (key : List UInt8) (hk : key.length ≤ 140737488351232) :
    Calls Tryz.prog 78 #[.pointer (some ⟨m, 0, none⟩), .string ⟨key.toArray⟩] w fun r w' => ((∃ v, (key, v) ∈ R.km ∧ r = .returned (.tuple #[v, .bool true])) ∨ ((∀ p ∈ R.km, p.1 ≠ key) ∧ r = .returned (.tuple #[.pointer none, .bool false]))) ∧ Run w0 F0 w' s m l t R := by
  obtain ⟨M, L, sv, h1, h2⟩ := h.ex
  refine (get_any w m M key h1.main h1.mwf hk).mono ?_
  rintro r w' ⟨hr, D, hD, hI⟩
  refine ⟨?_, Run.mainOp h.chg h1 h2 (hI.op hD h1.mkv)⟩
  rcases hr with ⟨e, he, rfl, rfl⟩ | ⟨hn, rfl⟩
  · exact .inl ⟨e.val, h1.mkv.mem_iff.1 (List.mem_map.2 ⟨e, he, rfl⟩), rfl⟩
  · refine .inr ⟨fun p hp => ?_, rfl⟩
    obtain ⟨e, he, rfl⟩ := List.mem_map.1 (h1.mkv.mem_iff.2 hp)
    exact hn e he
theorem set_kv {d : Nat} {D : Dc} {key : List UInt8} {x : Nat} {l : List (List UInt8 × Value)} (hp : D.kv.Perm l) {r : Ending} (h : SetPost d D key x w r w') : DOp d D (setKv l key (.pointer (some ⟨x, 0, none⟩))) w w' ∧ ∃ b, r = .returned (.bool b) := by
  unfold setKv
  rcases h with ⟨⟨e, he, hek⟩, rfl, q⟩ | ⟨hn, rfl, q⟩
  · rw [if_pos ⟨e.kv, hp.mem_iff.1 (List.mem_map.2 ⟨e, he, rfl⟩), hek⟩]
    exact ⟨⟨by obtain ⟨D, a1, a2, a3, a4, a5⟩ := q.ex; exact ⟨D, a1, a2, a3, a4.trans (hp.map _), a5⟩, q.chg⟩, _, rfl⟩
  · rw [if_neg]
    · exact ⟨⟨by obtain ⟨D, a1, a2, a3, a4, a5⟩ := q.ex; exact ⟨D, a1, a2, a3, a4.trans (hp.cons _), a5⟩, q.chg⟩, _, rfl⟩
    · rintro ⟨p, hp2, he⟩
      obtain ⟨e, he2, rfl⟩ := List.mem_map.1 (hp.mem_iff.2 hp2)
      exact hn e he2 he
theorem Run.set (h : Run w0 F0 w s m l t R) (key : List UInt8) (x : Nat) (hk : key.length ≤ 140737488351232) (hT : R.km.length ≤ 268435456) :
    Calls Tryz.prog 56 #[.pointer (some ⟨m, 0, none⟩), .string ⟨key.toArray⟩, .pointer (some ⟨x, 0, none⟩)] w fun r w' => (∃ b, r = .returned (.bool b)) ∧ Run w0 F0 w' s m l t { R with km := setKv R.km key (.pointer (some ⟨x, 0, none⟩)) } := by
  obtain ⟨M, L, sv, h1, h2⟩ := h.ex
  refine (set_any w m M key x h1.main h1.mwf hk (by rw [kv_length h1.mkv]; exact hT)).mono ?_
  rintro r w' hp
  obtain ⟨q1, q2⟩ := set_kv h1.mkv hp
  exact ⟨q2, Run.mainOp h.chg h1 h2 q1⟩
theorem Run.lset (h : Run w0 F0 w s m l t R) (key : List UInt8) (x : Nat) (hk : key.length ≤ 140737488351232) (hT : R.kl.length ≤ 268435456) :
    Calls Tryz.prog 56 #[.pointer (some ⟨l, 0, none⟩), .string ⟨key.toArray⟩, .pointer (some ⟨x, 0, none⟩)] w fun r w' => (∃ b, r = .returned (.bool b)) ∧ Run w0 F0 w' s m l t { R with kl := setKv R.kl key (.pointer (some ⟨x, 0, none⟩)) } := by
  obtain ⟨M, L, sv, h1, h2⟩ := h.ex
  refine (set_any w l L key x h1.late h1.lwf hk (by rw [kv_length h1.lkv]; exact hT)).mono ?_
  rintro r w' hp
  obtain ⟨q1, q2⟩ := set_kv h1.lkv hp
  exact ⟨q2, Run.lateOp h.chg h1 h2 q1⟩
/-- A key's entry as met and Get tell it. -/
def MetRes : Option KE → Ending
  | some e => .returned (.tuple #[.pointer (some ⟨e.b, 0, none⟩), .bool true])
  | none => .returned (.tuple #[.pointer none, .bool false])
theorem Run.getX {X : Sp} (h : Run w0 F0 w s m l t X.raw) (hg : SpGood X) (key : List UInt8) (hk : key.length ≤ 140737488351232) :
    Calls Tryz.prog 78 #[.pointer (some ⟨m, 0, none⟩), .string ⟨key.toArray⟩] w fun r w' => r = MetRes (X.find key) ∧ Run w0 F0 w' s m l t X.raw := by
  refine (h.get key hk).mono ?_
  rintro r w' ⟨hr, q⟩
  refine ⟨?_, q⟩
  rcases hr with ⟨v, hv, rfl⟩ | ⟨hn, rfl⟩
  · obtain ⟨e, he, hp⟩ := List.mem_map.1 hv
    obtain ⟨rfl, rfl⟩ := Prod.mk.inj hp
    rw [find_of_mem hg he]; rfl
  · cases hf : X.find key with
    | none => rfl
    | some e =>
      obtain ⟨h1, h2⟩ := find_some hf
      exact absurd h2 (hn e.kv (List.mem_map.2 ⟨e, h1, rfl⟩))
theorem goes_raw1 {X : Sp} (hg : SpGood X) {e : KE} (he : e ∈ X.ents) (hd : 0 < e.dl) :
    (⟨X.seed, X.most, X.policy, X.samples, X.now, X.uses, ((usedN X.ents : Nat) : Int) - (e.costs : Nat), X.raw.km.filter (fun p => !(p.1 == e.key)), X.raw.kl.filter (fun p => !(p.1 == e.key)), dropK X.ents e.key, addT X.touched e.key, X.steps⟩ : Raw) = (X.goes e.key).raw := by
  have h1 := usedN_drop hg.keys he
  simp only [Sp.raw, Sp.goes, Raw.mk.injEq, true_and, and_true]
  exact ⟨by omega, kv_drop _ _, late_drop _ _⟩
theorem goes_raw0 {X : Sp} (hg : SpGood X) {e : KE} (he : e ∈ X.ents) (hd : e.dl = 0) :
    (⟨X.seed, X.most, X.policy, X.samples, X.now, X.uses, ((usedN X.ents : Nat) : Int) - (e.costs : Nat), X.raw.km.filter (fun p => !(p.1 == e.key)), X.raw.kl, dropK X.ents e.key, addT X.touched e.key, X.steps⟩ : Raw) = (X.goes e.key).raw := by
  have h1 := usedN_drop hg.keys he
  simp only [Sp.raw, Sp.goes, Raw.mk.injEq, true_and, and_true]
  exact ⟨by omega, kv_drop _ _, (late_none hg.keys he hd).symm⟩
theorem lateKv_length (l : List KE) : (lateKv l).length ≤ l.length := by
  unfold lateKv
  rw [List.length_map]
  exact List.length_filter_le _ _
set_option maxHeartbeats 2000000 in
theorem goes_any {X : Sp} (h : Run w0 F0 w s m l t X.raw) (hg : SpGood X) {e : KE} (he : e ∈ X.ents) :
    Calls Tryz.prog 52 #[.pointer (some ⟨s, 0, none⟩), .string ⟨e.key.toArray⟩, .pointer (some ⟨e.b, 0, none⟩)] w fun r w' => r = .returned (.tuple #[]) ∧ Run w0 F0 w' s m l t (X.goes e.key).raw := by
  have hmx : Tryz.prog.follows .mixedOrders = true := by kernel_rfl
  have hkl := hg.text e he
  have hcl := hg.cost e he
  have hdl := hg.dl e he
  have hel := hg.ents
  have hll := lateKv_length X.ents
  have hub := hg.used
  have hcu := usedN_drop hg.keys he
  have hfew := hg.few
  have htl : X.touched.length ≤ 8388608 := by unfold Sp.mass at hfew; omega
  obtain ⟨sv, -, -, -, -, -, -, c6, c7, -⟩ := h.cells
  obtain ⟨-, e1, -, e3, -⟩ := h.ent he
  obtain ⟨-, -, -, -, -, -, -, -, -, -, -, -, cf⟩ := h.cells
  have cf6 := cf 6
  have HR1 : Hid (Run w0 F0 (w.drew.setCell ⟨s, 6, none⟩ (.int .i64 (((usedN X.ents : Nat) : Int) - (e.costs : Nat)))) s m l t { X.raw with used := ((usedN X.ents : Nat) : Int) - (e.costs : Nat) }) := Lib.hid ((h.below (Below.refl _ _).drew).setUsed _)
  have HR1C := HR1.out.cells
  obtain ⟨sv1, -, -, -, -, -, -, -, d7, -⟩ := HR1C
  have HC : Hid (∀ W, W.cell? ⟨e.b, 1, none⟩ = some (.int .i64 e.cost) → W.cell? ⟨e.b, 3, none⟩ = some (.int .i64 e.dl) → Calls Tryz.prog 53 #[.pointer (some ⟨e.b, 0, none⟩), .string ⟨e.key.toArray⟩] W fun r w' => r = .returned (.int .i64 (e.costs : Nat)) ∧ W = w') := Lib.hid fun W q1 q3 => costs_any W e q1 q3 hkl hcl hdl
  have HKM : Hid (X.raw.km.length ≤ 268435456) := Lib.hid (by simp [Sp.raw]; omega)
  have HKL : Hid (X.raw.kl.length ≤ 268435456) := Lib.hid (by simp [Sp.raw]; omega)
  have HTL : Hid (X.raw.touched.length ≤ 1073741824) := Lib.hid (by simp [Sp.raw]; omega)
  have HKY : Hid (e.key.length ≤ 140737488351232) := Lib.hid (by omega)
  have HE := Lib.hid he
  have HLE : Hid (∀ x ∈ dropK X.ents e.key, x ∈ X.ents) := Lib.hid fun x hx => (mem_dropK.1 hx).1
  by_cases hd : 0 < e.dl
  · have HRAW := Lib.hid (goes_raw1 hg he hd)
    obtain ⟨u, hu⟩ : ∃ u, usedN X.ents = u := ⟨_, rfl⟩
    obtain ⟨c, hc⟩ : ∃ u, e.costs = u := ⟨_, rfl⟩
    have hdg : ((e.dl : Int) > 0) = True := by simp; omega
    simp only [Sp.raw] at c6
    rw [hu] at HRAW hub hcu c6 HR1
    rw [hc] at HRAW hcu HC HR1
    have hcu2 : c ≤ u := by omega
    clear h hg he hu hc hcu hkl hcl hel hll hfew htl cf
    go_enter Tryz.func52, Tryz.ntmps52
    go_wp2_with fail
    go_region_with (go_at_call 53; refine (HC.out w.drew e1 e3).mono ?_; rintro r w1 ⟨rfl, rfl⟩)
    all_goals
      go_wp2_with (first
        | (go_at_call 54
           refine (HR1.out.del e.key HKY.out HKM.out).mono ?_
           rintro r w2 ⟨⟨b, rfl⟩, hr⟩
           obtain ⟨sv2, -, -, -, -, -, -, -, -, g8, -⟩ := hr.cells
           obtain ⟨-, -, -, g3, -⟩ := hr.ent HE.out
           have HR2 := Lib.hid hr
           clear hr HR1)
        | (go_at_call 54
           refine (HR2.out.ldel e.key HKY.out HKL.out).mono ?_
           rintro r w3 ⟨⟨b, rfl⟩, hr⟩
           have HR3 := Lib.hid hr
           clear hr HR2)
        | (go_at_call 58
           refine (HR3.out.touch e.key HKY.out HTL.out).mono ?_
           rintro r w4 ⟨rfl, hr⟩
           have HR4 := Lib.hid hr
           clear hr HR3))
      refine bodyPost_end (results_none rfl _ _ _) rfl ?_
      refine ⟨rfl, ?_⟩
      rw [← HRAW.out]
      exact HR4.out.lessEnts HLE.out
  · obtain hd0 : e.dl = 0 := by omega
    have HRAW := Lib.hid (goes_raw0 hg he hd0)
    obtain ⟨u, hu⟩ : ∃ u, usedN X.ents = u := ⟨_, rfl⟩
    obtain ⟨c, hc⟩ : ∃ u, e.costs = u := ⟨_, rfl⟩
    have hdg : ((e.dl : Int) > 0) = False := by simp; omega
    simp only [Sp.raw] at c6
    rw [hu] at HRAW hub hcu c6 HR1
    rw [hc] at HRAW hcu HC HR1
    have hcu2 : c ≤ u := by omega
    clear h hg he hu hc hcu hkl hcl hel hll hfew htl cf hd0
    go_enter Tryz.func52, Tryz.ntmps52
    go_wp2_with fail
    go_region_with (go_at_call 53; refine (HC.out w.drew e1 e3).mono ?_; rintro r w1 ⟨rfl, rfl⟩)
    all_goals
      go_wp2_with (first
        | (go_at_call 54
           refine (HR1.out.del e.key HKY.out HKM.out).mono ?_
           rintro r w2 ⟨⟨b, rfl⟩, hr⟩
           obtain ⟨-, -, -, g3, -⟩ := hr.ent HE.out
           have HR2 := Lib.hid hr
           clear hr HR1)
        | (go_at_call 58
           refine (HR2.out.touch e.key HKY.out HTL.out).mono ?_
           rintro r w4 ⟨rfl, hr⟩
           have HR4 := Lib.hid hr
           clear hr HR2))
      refine bodyPost_end (results_none rfl _ _ _) rfl ?_
      refine ⟨rfl, ?_⟩
      rw [← HRAW.out]
      exact HR4.out.lessEnts HLE.out
end
end Go.Proofs.YtelbmphmihjgfaaGreat.DEnt

/- A keyspace: expires, met, use. -/
set_option linter.unusedVariables false
set_option linter.unusedSimpArgs false
namespace Go.Proofs.YtelbmphmihjgfaaGreat.DEnt
open Go.RowKit Pantry Go.Maps

section
variable {w0 w w' : World} {F0 : Nat → Prop} {s m l t : Nat} {R : Raw} {M L : Dc} {sv : Value}
/-- Another row of steps. -/
theorem RawAt.newRow (h : RawAt w s m l t M L sv R) {sv' : Value} {st' : List (Int × List UInt8)} (hc : Chg (fun k => sv.ownBlock = some k) w w') (hr : w'.ownsRow 0 46 2 sv' st'.length (stCells st')) :
    w'.cell? ⟨s, 10, none⟩ = some sv ∧ w'.frozen? ⟨s, 10, none⟩ = false ∧ RawAt (w'.setCell ⟨s, 10, none⟩ sv') s m l t M L sv' { R with steps := st' } := by
  have nr : ∀ {k c ty}, w.heap[k]? = some (.cells c ty) → ty ≠ 46 → ¬ sv.ownBlock = some k := fun hk hne e => by
    obtain ⟨c, hcc⟩ := h.row e
    exact types_ne hcc hk (fun e => hne e.symm) rfl
  have hd := hc.heap h.head (nr h.head (by decide))
  have hs : Chg (fun k => k = s) w' (w'.setCell ⟨s, 10, none⟩ sv') := Chg.setCell (S := fun k => k = s) (Chg.refl _ w') (p := ⟨s, 10, none⟩) (fun _ => rfl) _
  obtain ⟨es, c, ht⟩ := h.touch.obj
  have ht' := hc.heap ht fun e => by
    obtain ⟨c, hcc⟩ := h.row e
    rw [ht] at hcc; cases hcc
  have hT' : TouchAt w' t R.touched := h.touch.keep (ht'.trans ht.symm)
  have hM' : DictAt w' m M := h.main.chg hc fun k hk e => by
    obtain ⟨c, hcc⟩ := h.row e
    exact h.main.not_foot hcc (by decide) hk
  have hL' : DictAt w' l L := h.late.chg hc fun k hk e => by
    obtain ⟨c, hcc⟩ := h.row e
    exact h.late.not_foot hcc (by decide) hk
  refine ⟨(head11 hd).2.2.2.2.2.2.2.2.2.2.1, (head11 hd).2.2.2.2.2.2.2.2.2.2.2 10, ⟨by rw [heapSetHere hd]; rfl, hM'.chg hs fun k hk e => ?_, h.mwf, h.mkv, hL'.chg hs fun k hk e => ?_, h.lwf, h.lkv, fun e he => ?_, hT'.keep (heapSetOther (p := ⟨s, 10, none⟩) (map_ne ht' hd)), hs.ownsRow hr fun k hk e => ?_, h.apart⟩⟩
  · subst e; exact hM'.not_foot hd (by decide) hk
  · subst e; exact hL'.not_foot hd (by decide) hk
  · have he' := hc.heap (h.ents e he) (nr (h.ents e he) (by decide))
    exact hs.heap he' (types_ne he' hd (by decide))
  · subst e
    obtain ⟨c, hcc, -⟩ := ownsRow_cells hr hk
    exact types_ne hcc hd (by decide) rfl
theorem Run.stepsRow (h : Run w0 F0 w s m l t R) : ∃ sv, w.cell? ⟨s, 10, none⟩ = some sv ∧ w.ownsRow 0 46 2 sv R.steps.length (stCells R.steps) ∧
    ∀ w' v' st', w'.ownsRow 0 46 2 v' st'.length (stCells st') → w.grownBy w' sv.ownBlock → (∀ k, v'.ownBlock = some k → sv.ownBlock = some k ∨ w.heap.size ≤ k) →
      w'.cell? ⟨s, 10, none⟩ = some sv ∧ w'.frozen? ⟨s, 10, none⟩ = false ∧ Run w0 F0 (w'.setCell ⟨s, 10, none⟩ v') s m l t { R with steps := st' } := by
  obtain ⟨M, L, sv, h1, h2⟩ := h.ex
  refine ⟨sv, (head11 h1.head).2.2.2.2.2.2.2.2.2.2.1, h1.steps, fun w' v' st' hr hg hv => ?_⟩
  have hc : Chg (fun k => sv.ownBlock = some k) w w' := Chg.of_grown hg fun k e => e
  obtain ⟨q1, q2, q3⟩ := h1.newRow hc hr
  refine ⟨q1, q2, ⟨M, L, v', q3, fun k hk => ?_⟩, (h.chg.trans hc fun j hj e => (h2 j (.inr (.inr (.inr (.inr (.inr e)))))).resolve_right (by omega)).setCell (p := ⟨s, 10, none⟩) (fun hl => (h2 s (.inl rfl)).resolve_right (Nat.not_le.2 hl)) _⟩
  rcases hk with rfl | hk | hk | hk | hk | hk
  · exact h2 _ (.inl rfl)
  · exact h2 k (.inr (.inl hk))
  · exact h2 k (.inr (.inr (.inl hk)))
  · exact h2 k (.inr (.inr (.inr (.inl hk))))
  · exact h2 k (.inr (.inr (.inr (.inr (.inl hk)))))
  · rcases hv k hk with hk | hk
    · exact h2 k (.inr (.inr (.inr (.inr (.inr hk)))))
    · exact .inr (Nat.le_trans h.chg.size hk)
/-- One more step, behind an append. -/
theorem Run.addStep (h : Run w0 F0 w s m l t R) : ∃ sv, w.cell? ⟨s, 10, none⟩ = some sv ∧ w.ownsRow 0 46 2 sv R.steps.length (stCells R.steps) ∧
    ∀ w' v' (x : Int × List UInt8), w'.ownsRow 0 46 2 v' (R.steps.length + 1) (stCells R.steps ++ [.int .i64 x.1, .string ⟨x.2.toArray⟩]) → w.grownBy w' sv.ownBlock → (∀ k, v'.ownBlock = some k → sv.ownBlock = some k ∨ w.heap.size ≤ k) →
      w'.cell? ⟨s, 10, none⟩ = some sv ∧ w'.frozen? ⟨s, 10, none⟩ = false ∧ Run w0 F0 (w'.setCell ⟨s, 10, none⟩ v') s m l t { R with steps := R.steps ++ [x] } := by
  obtain ⟨sv, h1, h2, h3⟩ := h.stepsRow
  refine ⟨sv, h1, h2, fun w' v' x hr hg hv => h3 w' v' _ ?_ hg hv⟩
  rw [stCells_snoc, List.length_append, List.length_singleton]
  exact hr
set_option maxHeartbeats 1000000 in
theorem expires_any {X : Sp} (h : Run w0 F0 w s m l t X.raw) (hg : SpGood X) {e : KE} (he : e ∈ X.ents) :
    Calls Tryz.prog 41 #[.pointer (some ⟨s, 0, none⟩), .string ⟨e.key.toArray⟩, .pointer (some ⟨e.b, 0, none⟩)] w fun r w' => r = .returned (.tuple #[]) ∧ Run w0 F0 w' s m l t (X.expires e.key).raw := by
  have HG := Lib.hid (goes_any h hg he)
  have hfew := hg.few
  have hsl : (X.goes e.key).raw.steps.length ≤ 8388608 := by show X.steps.length ≤ _; unfold Sp.mass at hfew; omega
  clear h hg hfew
  go_enter Tryz.func41, Tryz.ntmps41
  go_wp2_with (first
    | (go_at_call 52
       refine HG.out.mono ?_
       rintro r w1 ⟨rfl, hr⟩
       obtain ⟨sv, c10, hrow, hadd⟩ := hr.addStep
       have HROW := Lib.hid hrow
       have HADD := Lib.hid hadd
       clear hr hadd hrow HG)
    | (at_builtin
       refine wpl_append1 stepI rfl _ _ rfl 0 rfl HROW.out #[.int .i64 1, .string ⟨e.key.toArray⟩] rfl rfl (by intro u hu; simp at hu; rcases hu with rfl | rfl <;> rfl) (by omega) (Nat.zero_le _) ?_
       intro v' w2 ho hgr _ hk
       obtain ⟨g, cap, rfl⟩ := ownsRow_succ ho
       obtain ⟨d10, f10, hrun⟩ := HADD.out w2 _ (1, e.key) ho hgr hk
       have HRUN := Lib.hid hrun
       clear ho hgr hk hrun HADD HROW))
  refine bodyPost_end (results_none rfl _ _ _) rfl ?_
  exact ⟨rfl, HRUN.out⟩
set_option maxHeartbeats 1000000 in
theorem met_any {X : Sp} (h : Run w0 F0 w s m l t X.raw) (hg : SpGood X) (key : List UInt8) (hk : key.length ≤ 140737488351232) :
    Calls Tryz.prog 43 #[.pointer (some ⟨s, 0, none⟩), .string ⟨key.toArray⟩] w fun r w' => r = MetRes (X.met key).1 ∧ Run w0 F0 w' s m l t (X.met key).2.raw := by
  have HGET := Lib.hid (h.getX hg key hk)
  obtain ⟨sv, -, -, -, -, -, -, -, c7, -⟩ := h.cells
  have HG := Lib.hid hg
  clear h hg
  cases hf : X.find key with
  | none =>
    rw [hf] at HGET
    rw [met_none hf]
    unfold MetRes at HGET ⊢
    simp only at HGET ⊢
    go_enter Tryz.func43, Tryz.ntmps43
    go_wp2_with (go_at_call 78; refine HGET.out.mono ?_; rintro r w1 ⟨rfl, hr⟩; have HR := Lib.hid hr; clear hr HGET)
    go_ret2
    exact ⟨rfl, HR.out⟩
  | some e =>
    obtain ⟨he, rfl⟩ := find_some hf
    rw [hf] at HGET
    cases hp : e.past X.now with
    | true =>
      rw [met_past hf hp]
      have hp' : (decide (0 < e.dl) && decide (e.dl ≤ X.now)) = true := hp
      unfold MetRes at HGET ⊢
      simp only at HGET ⊢
      have HE := Lib.hid he
      clear hf hp
      go_enter Tryz.func43, Tryz.ntmps43
      go_wp2_with (first
        | (go_at_call 78
           refine HGET.out.mono ?_
           rintro r w1 ⟨rfl, hr⟩
           obtain ⟨-, -, -, e3, -⟩ := hr.ent HE.out
           obtain ⟨sv1, -, -, -, -, d4, -⟩ := hr.cells
           have HR := Lib.hid hr
           clear hr HGET)
        | (go_at_call 35
           refine (past_any _ s e.dl X.now d4).mono ?_
           rintro r w2 ⟨rfl, rfl⟩
           rw [hp'])
        | (go_at_call 41
           refine (expires_any HR.out HG.out HE.out).mono ?_
           rintro r w3 ⟨rfl, hr⟩
           have HR3 := Lib.hid hr
           clear hr HR))
      go_ret2
      exact ⟨rfl, HR3.out⟩
    | false =>
      rw [met_some hf hp]
      have hp' : (decide (0 < e.dl) && decide (e.dl ≤ X.now)) = false := hp
      unfold MetRes at HGET ⊢
      simp only at HGET ⊢
      have HE := Lib.hid he
      clear hf hp
      go_enter Tryz.func43, Tryz.ntmps43
      go_wp2_with (first
        | (go_at_call 78
           refine HGET.out.mono ?_
           rintro r w1 ⟨rfl, hr⟩
           obtain ⟨-, -, -, e3, -⟩ := hr.ent HE.out
           obtain ⟨sv1, -, -, -, -, d4, -⟩ := hr.cells
           have HR := Lib.hid hr
           clear hr HGET)
        | (go_at_call 35
           refine (past_any _ s e.dl X.now d4).mono ?_
           rintro r w2 ⟨rfl, rfl⟩
           rw [hp']))
      go_ret2
      exact ⟨rfl, HR.out⟩
theorem use_raw {X : Sp} (hg : SpGood X) {e : KE} (he : e ∈ X.ents) :
    (⟨X.seed, X.most, X.policy, X.samples, X.now, X.uses + 1, ((usedN X.ents : Nat) : Int), X.raw.km, X.raw.kl, setK X.ents { e with stamp := X.uses + 1 }, X.touched, X.steps⟩ : Raw) = (X.use e).raw := by
  have h1 := usedN_set (e := { e with stamp := X.uses + 1 }) hg.keys he rfl
  have h2 : KE.costs { e with stamp := X.uses + 1 } = e.costs := rfl
  simp only [Sp.raw, Sp.use, Raw.mk.injEq, true_and, and_true]
  exact ⟨by omega, (kv_set (e' := { e with stamp := X.uses + 1 }) hg.keys he rfl rfl).symm, (late_set (e' := { e with stamp := X.uses + 1 }) hg.keys he rfl rfl rfl).symm⟩
set_option maxHeartbeats 1000000 in
theorem use_any {X : Sp} (h : Run w0 F0 w s m l t X.raw) (hg : SpGood X) {e : KE} (he : e ∈ X.ents) :
    Calls Tryz.prog 57 #[.pointer (some ⟨s, 0, none⟩), .pointer (some ⟨e.b, 0, none⟩)] w fun r w' => r = .returned (.tuple #[]) ∧ Run w0 F0 w' s m l t (X.use e).raw := by
  have hu : X.uses ≤ 8388608 := by have := hg.few; unfold Sp.mass at this; omega
  have h1 := h.setUses (X.uses + 1)
  have h2 := h1.setEnt (e' := { e with stamp := X.uses + 1 }) he rfl rfl hg.blocks hg.keys (j := 2) (u := .int .u64 (X.uses + 1 : Nat)) rfl
  have HR : Hid (Run w0 F0 ((w.setCell ⟨s, 5, none⟩ (.int .u64 ((X.uses : Int) + 1))).setCell ⟨e.b, 2, none⟩ (.int .u64 ((X.uses : Int) + 1))) s m l t (X.use e).raw) := Lib.hid (by
    rw [← use_raw hg he]
    exact h2)
  obtain ⟨sv, -, -, -, -, -, c5, -, -, -, -, -, cf⟩ := h.cells
  obtain ⟨-, -, e2, -, ef⟩ := h.ent he
  have c5' : w.cell? ⟨s, 5, none⟩ = some (.int .u64 X.uses) := c5
  have cf5 := cf 5
  have ef2 := ef 2
  clear h h1 h2 hg he ef cf c5
  go_enter Tryz.func57, Tryz.ntmps57
  go_wp2_with fail
  refine bodyPost_end (results_none rfl _ _ _) rfl ?_
  exact ⟨rfl, HR.out⟩
end
end Go.Proofs.YtelbmphmihjgfaaGreat.DEnt
