/- Plain data while it is being built in a variable: its three rows. -/
import Derived.Test.YtipehdbpbmnonaaGreatZVTold
import Derived.Laws.Externs
set_option linter.unusedVariables false
set_option linter.unusedSimpArgs false
namespace Go.Proofs.YtipehdbpbmnonaaGreat
open Go.RowKit Pantry

theorem pairI12 : ElemT Tryz.prog 23 43 2 32 (.agg #[.string ⟨#[]⟩, .string ⟨#[]⟩]) := ⟨Tryz.underlying23, by kernel_rfl, rfl, by omega, by omega⟩
theorem rkdI12 : ElemT Tryz.prog 29 46 2 24 (.agg #[.string ⟨#[]⟩, .float .f64 0]) := ⟨Tryz.underlying29, by kernel_rfl, rfl, by omega, by omega⟩
/-- Block X is plain data that is being built, beside all that was there. -/
structure PB (w : World) (X : Nat) (k : Int) (t : List UInt8) (its : List (List UInt8)) (prs : List Fld) (rks : List Mb) (A : World) (v2 v3 v4 : Value) : Prop where
  ge : w.heap.size ≤ X
  blk : A.heap[X]? = some (.cells #[.int .i64 k, .string ⟨t.toArray⟩, v2, v3, v4] 31)
  r2 : A.ownsRow w.heap.size 9 1 v2 its.length (its.map txC)
  r3 : A.ownsRow w.heap.size 43 2 v3 prs.length (fdCells prs)
  r4 : A.ownsRow w.heap.size 46 2 v4 rks.length (rkCells rks)
  below : Below w.heap.size w A
section
variable {w : World} {X : Nat} {k : Int} {t : List UInt8} {its : List (List UInt8)} {prs : List Fld} {rks : List Mb} {A : World} {v2 v3 v4 : Value}
theorem row_not {A : World} {N X : Nat} {e tt : TypeId} {size n : Nat} {v : Value} {xs : List Value} {c : Array Value} (h : A.ownsRow N e size v n xs) (hX : A.heap[X]? = some (.cells c tt (0, 0))) (he : e ≠ tt) : v.ownBlock ≠ some X := fun h2 => by
  obtain ⟨c2, hc, -⟩ := ownsRow_cells h h2
  rw [hX] at hc
  cases hc
  exact he rfl
theorem rows_not {A : World} {N : Nat} {e e' : TypeId} {size size' n n' : Nat} {v v' : Value} {xs xs' : List Value} (h : A.ownsRow N e size v n xs) (h' : A.ownsRow N e' size' v' n' xs') (he : e ≠ e') : ∀ j, v.ownBlock = some j → ¬ v'.ownBlock = some j := fun j h1 h2 => by
  obtain ⟨c, hc, -⟩ := ownsRow_cells h h1
  obtain ⟨c2, hc2, -⟩ := ownsRow_cells h' h2
  rw [hc] at hc2
  cases hc2
  exact he rfl
theorem PB.alloc (h : PB w X k t its prs rks A v2 v3 v4) (o : Obj) : PB w X k t its prs rks (A.alloc o) v2 v3 v4 :=
  ⟨h.ge, (heap_alloc_old (block_lt h.blk)).trans h.blk, h.r2.alloc _, h.r3.alloc _, h.r4.alloc _, h.below.alloc h.below.size _⟩
theorem PB.drew (h : PB w X k t its prs rks A v2 v3 v4) : PB w X k t its prs rks A.drew v2 v3 v4 := ⟨h.ge, h.blk, h.r2.drew, h.r3.drew, h.r4.drew, h.below.drew⟩
theorem PB.cells (h : PB w X k t its prs rks A v2 v3 v4) : A.cell? ⟨X, 2, none⟩ = some v2 ∧ A.cell? ⟨X, 3, none⟩ = some v3 ∧ A.cell? ⟨X, 4, none⟩ = some v4 ∧ ∀ j, A.frozen? ⟨X, j, none⟩ = false :=
  ⟨cell_of_row _ _ 2 _ _ _ h.blk, cell_of_row _ _ 3 _ _ _ h.blk, cell_of_row _ _ 4 _ _ _ h.blk, fun j => frozen_of_row A X j _ _ h.blk⟩
/-- A new row in the first field. -/
theorem PB.put2 (h : PB w X k t its prs rks A v2 v3 v4) {B : World} {v' : Value} {its' : List (List UInt8)} (hr : B.ownsRow w.heap.size 9 1 v' its'.length (its'.map txC)) (hc : Chg (fun j => v2.ownBlock = some j) A B) :
    PB w X k t its prs rks A v2 v3 v4 ∧ B.cell? ⟨X, 2, none⟩ = some v2 ∧ B.frozen? ⟨X, 2, none⟩ = false ∧ PB w X k t its' prs rks (B.setCell ⟨X, 2, none⟩ v') v' v3 v4 := by
  have hX : B.heap[X]? = some (.cells #[.int .i64 k, .string ⟨t.toArray⟩, v2, v3, v4] 31) := hc.heap h.blk (row_not h.r2 h.blk (by decide))
  have h3 := hc.ownsRow h.r3 fun j hj e => rows_not h.r3 h.r2 (by decide) j hj e
  have h4 := hc.ownsRow h.r4 fun j hj e => rows_not h.r4 h.r2 (by decide) j hj e
  have hs : Chg (fun j => j = X) B (B.setCell ⟨X, 2, none⟩ v') := Chg.setCell (S := fun j => j = X) (Chg.refl _ B) (p := ⟨X, 2, none⟩) (fun _ => rfl) _
  have hb : Below w.heap.size w B := h.below.trans (hc.below h.below.size fun j e => (ownsRow_cells h.r2 e).choose_spec.2)
  exact ⟨h, cell_of_row _ _ 2 _ _ _ hX, frozen_of_row B X 2 _ _ hX, h.ge, heapSetHere hX _, hs.ownsRow hr fun j hj e => row_not hr hX (by decide) (e ▸ hj), hs.ownsRow h3 fun j hj e => row_not h3 hX (by decide) (e ▸ hj), hs.ownsRow h4 fun j hj e => row_not h4 hX (by decide) (e ▸ hj), hb.trans (hs.below hb.size fun j e => e ▸ h.ge)⟩
theorem PB.put3 (h : PB w X k t its prs rks A v2 v3 v4) {B : World} {v' : Value} {prs' : List Fld} (hr : B.ownsRow w.heap.size 43 2 v' prs'.length (fdCells prs')) (hc : Chg (fun j => v3.ownBlock = some j) A B) :
    PB w X k t its prs rks A v2 v3 v4 ∧ B.cell? ⟨X, 3, none⟩ = some v3 ∧ B.frozen? ⟨X, 3, none⟩ = false ∧ PB w X k t its prs' rks (B.setCell ⟨X, 3, none⟩ v') v2 v' v4 := by
  have hX : B.heap[X]? = some (.cells #[.int .i64 k, .string ⟨t.toArray⟩, v2, v3, v4] 31) := hc.heap h.blk (row_not h.r3 h.blk (by decide))
  have h3 := hc.ownsRow h.r2 fun j hj e => rows_not h.r2 h.r3 (by decide) j hj e
  have h4 := hc.ownsRow h.r4 fun j hj e => rows_not h.r4 h.r3 (by decide) j hj e
  have hs : Chg (fun j => j = X) B (B.setCell ⟨X, 3, none⟩ v') := Chg.setCell (S := fun j => j = X) (Chg.refl _ B) (p := ⟨X, 3, none⟩) (fun _ => rfl) _
  have hb : Below w.heap.size w B := h.below.trans (hc.below h.below.size fun j e => (ownsRow_cells h.r3 e).choose_spec.2)
  exact ⟨h, cell_of_row _ _ 3 _ _ _ hX, frozen_of_row B X 3 _ _ hX, h.ge, heapSetHere hX _, hs.ownsRow h3 fun j hj e => row_not h3 hX (by decide) (e ▸ hj), hs.ownsRow hr fun j hj e => row_not hr hX (by decide) (e ▸ hj), hs.ownsRow h4 fun j hj e => row_not h4 hX (by decide) (e ▸ hj), hb.trans (hs.below hb.size fun j e => e ▸ h.ge)⟩
theorem PB.put4 (h : PB w X k t its prs rks A v2 v3 v4) {B : World} {v' : Value} {rks' : List Mb} (hr : B.ownsRow w.heap.size 46 2 v' rks'.length (rkCells rks')) (hc : Chg (fun j => v4.ownBlock = some j) A B) :
    PB w X k t its prs rks A v2 v3 v4 ∧ B.cell? ⟨X, 4, none⟩ = some v4 ∧ B.frozen? ⟨X, 4, none⟩ = false ∧ PB w X k t its prs rks' (B.setCell ⟨X, 4, none⟩ v') v2 v3 v' := by
  have hX : B.heap[X]? = some (.cells #[.int .i64 k, .string ⟨t.toArray⟩, v2, v3, v4] 31) := hc.heap h.blk (row_not h.r4 h.blk (by decide))
  have h3 := hc.ownsRow h.r2 fun j hj e => rows_not h.r2 h.r4 (by decide) j hj e
  have h4 := hc.ownsRow h.r3 fun j hj e => rows_not h.r3 h.r4 (by decide) j hj e
  have hs : Chg (fun j => j = X) B (B.setCell ⟨X, 4, none⟩ v') := Chg.setCell (S := fun j => j = X) (Chg.refl _ B) (p := ⟨X, 4, none⟩) (fun _ => rfl) _
  have hb : Below w.heap.size w B := h.below.trans (hc.below h.below.size fun j e => (ownsRow_cells h.r4 e).choose_spec.2)
  exact ⟨h, cell_of_row _ _ 4 _ _ _ hX, frozen_of_row B X 4 _ _ hX, h.ge, heapSetHere hX _, hs.ownsRow h3 fun j hj e => row_not h3 hX (by decide) (e ▸ hj), hs.ownsRow h4 fun j hj e => row_not h4 hX (by decide) (e ▸ hj), hs.ownsRow hr fun j hj e => row_not hr hX (by decide) (e ▸ hj), hb.trans (hs.below hb.size fun j e => e ▸ h.ge)⟩
theorem PB.add2 (h : PB w X k t its prs rks A v2 v3 v4) (s : List UInt8) (hb : (its.length + 1) * 16 ≤ 140737488355328) :
    ∃ g cap w1, (Builtin.append_ #[22, 22] 22 #[v2, .slice (some ⟨A.heap.size, 0, none⟩) 1 1]).run Tryz.prog (A.alloc (.cells #[.string ⟨s.toArray⟩] 9)).drew = .ok (.slice (some ⟨g, 0, none⟩) (its.length + 1) cap) w1 ∧
      w1.cell? ⟨X, 2, none⟩ = some v2 ∧ w1.frozen? ⟨X, 2, none⟩ = false ∧ PB w X k t (its ++ [s]) prs rks (w1.setCell ⟨X, 2, none⟩ (.slice (some ⟨g, 0, none⟩) (its.length + 1) cap)) (.slice (some ⟨g, 0, none⟩) (its.length + 1) cap) v3 v4 := by
  have hA := h.below.size
  have hrd : Rd (A.alloc (.cells #[.string ⟨s.toArray⟩] 9)).drew (some ⟨A.heap.size, 0, none⟩) [.string ⟨s.toArray⟩] := (Rd.new A #[.string ⟨s.toArray⟩] 9 (0, 0) (by intro u hu; simp at hu; subst hu; rfl)).drew
  obtain ⟨v', w1, hr, h1, h2, -, h4⟩ := run_append itemI 22 (w := (A.alloc (.cells #[.string ⟨s.toArray⟩] 9)).drew) w.heap.size (h.r2.alloc _).drew (ad := some ⟨A.heap.size, 0, none⟩) (m := 1) (c := 1) (news := [.string ⟨s.toArray⟩]) (by simp) rfl hrd hb (by simp [World.drew]; omega)
  obtain ⟨g, cap, rfl⟩ := ownsRow_succ h1
  have hc0 : Chg (fun j => v2.ownBlock = some j) A (A.alloc (.cells #[.string ⟨s.toArray⟩] 9)).drew := ((Chg.refl _ A).alloc _).drew
  have hc1 : Chg (fun j => v2.ownBlock = some j) A w1 := hc0.trans (Chg.of_grown (S := fun j => v2.ownBlock = some j) h2 fun j e => e) fun _ _ e => e
  obtain ⟨-, q1, q2, q3⟩ := h.put2 (its' := its ++ [s]) (by rw [List.length_append, List.length_singleton]; rw [List.map_append]; exact h1) hc1
  exact ⟨g, cap, w1, hr, q1, q2, q3⟩
theorem PB.add3 (h : PB w X k t its prs rks A v2 v3 v4) (x : Fld) (hb : (prs.length + 1) * 32 ≤ 140737488355328) :
    ∃ g cap w1, (Builtin.append_ #[23, 23] 23 #[v3, .slice (some ⟨A.heap.size, 0, none⟩) 1 1]).run Tryz.prog (A.alloc (.cells #[.string ⟨x.1.toArray⟩, .string ⟨x.2.toArray⟩] 43)).drew = .ok (.slice (some ⟨g, 0, none⟩) (prs.length + 1) cap) w1 ∧
      w1.cell? ⟨X, 3, none⟩ = some v3 ∧ w1.frozen? ⟨X, 3, none⟩ = false ∧ PB w X k t its (prs ++ [x]) rks (w1.setCell ⟨X, 3, none⟩ (.slice (some ⟨g, 0, none⟩) (prs.length + 1) cap)) v2 (.slice (some ⟨g, 0, none⟩) (prs.length + 1) cap) v4 := by
  have hA := h.below.size
  have hrd : Rd (A.alloc (.cells #[.string ⟨x.1.toArray⟩, .string ⟨x.2.toArray⟩] 43)).drew (some ⟨A.heap.size, 0, none⟩) [.string ⟨x.1.toArray⟩, .string ⟨x.2.toArray⟩] := (Rd.new A #[.string ⟨x.1.toArray⟩, .string ⟨x.2.toArray⟩] 43 (0, 0) (by intro u hu; simp at hu; rcases hu with rfl | rfl <;> rfl)).drew
  obtain ⟨v', w1, hr, h1, h2, -, h4⟩ := run_append pairI12 23 (w := (A.alloc (.cells #[.string ⟨x.1.toArray⟩, .string ⟨x.2.toArray⟩] 43)).drew) w.heap.size (h.r3.alloc _).drew (ad := some ⟨A.heap.size, 0, none⟩) (m := 1) (c := 1) (news := [.string ⟨x.1.toArray⟩, .string ⟨x.2.toArray⟩]) (by simp) rfl hrd hb (by simp [World.drew]; omega)
  obtain ⟨g, cap, rfl⟩ := ownsRow_succ h1
  have hc0 : Chg (fun j => v3.ownBlock = some j) A (A.alloc (.cells #[.string ⟨x.1.toArray⟩, .string ⟨x.2.toArray⟩] 43)).drew := ((Chg.refl _ A).alloc _).drew
  have hc1 : Chg (fun j => v3.ownBlock = some j) A w1 := hc0.trans (Chg.of_grown (S := fun j => v3.ownBlock = some j) h2 fun j e => e) fun _ _ e => e
  obtain ⟨-, q1, q2, q3⟩ := h.put3 (prs' := prs ++ [x]) (by rw [List.length_append, List.length_singleton]; rw [show fdCells (prs ++ [x]) = fdCells prs ++ fdC x by simp [fdCells]]; exact h1) hc1
  exact ⟨g, cap, w1, hr, q1, q2, q3⟩
theorem PB.add4 (h : PB w X k t its prs rks A v2 v3 v4) (x : Mb) (hb : (rks.length + 1) * 24 ≤ 140737488355328) :
    ∃ g cap w1, (Builtin.append_ #[29, 29] 29 #[v4, .slice (some ⟨A.heap.size, 0, none⟩) 1 1]).run Tryz.prog (A.alloc (.cells #[.string ⟨x.1.toArray⟩, .float .f64 x.2] 46)).drew = .ok (.slice (some ⟨g, 0, none⟩) (rks.length + 1) cap) w1 ∧
      w1.cell? ⟨X, 4, none⟩ = some v4 ∧ w1.frozen? ⟨X, 4, none⟩ = false ∧ PB w X k t its prs (rks ++ [x]) (w1.setCell ⟨X, 4, none⟩ (.slice (some ⟨g, 0, none⟩) (rks.length + 1) cap)) v2 v3 (.slice (some ⟨g, 0, none⟩) (rks.length + 1) cap) := by
  have hA := h.below.size
  have hrd : Rd (A.alloc (.cells #[.string ⟨x.1.toArray⟩, .float .f64 x.2] 46)).drew (some ⟨A.heap.size, 0, none⟩) [.string ⟨x.1.toArray⟩, .float .f64 x.2] := (Rd.new A #[.string ⟨x.1.toArray⟩, .float .f64 x.2] 46 (0, 0) (by intro u hu; simp at hu; rcases hu with rfl | rfl <;> rfl)).drew
  obtain ⟨v', w1, hr, h1, h2, -, h4⟩ := run_append rkdI12 29 (w := (A.alloc (.cells #[.string ⟨x.1.toArray⟩, .float .f64 x.2] 46)).drew) w.heap.size (h.r4.alloc _).drew (ad := some ⟨A.heap.size, 0, none⟩) (m := 1) (c := 1) (news := [.string ⟨x.1.toArray⟩, .float .f64 x.2]) (by simp) rfl hrd hb (by simp [World.drew]; omega)
  obtain ⟨g, cap, rfl⟩ := ownsRow_succ h1
  have hc0 : Chg (fun j => v4.ownBlock = some j) A (A.alloc (.cells #[.string ⟨x.1.toArray⟩, .float .f64 x.2] 46)).drew := ((Chg.refl _ A).alloc _).drew
  have hc1 : Chg (fun j => v4.ownBlock = some j) A w1 := hc0.trans (Chg.of_grown (S := fun j => v4.ownBlock = some j) h2 fun j e => e) fun _ _ e => e
  obtain ⟨-, q1, q2, q3⟩ := h.put4 (rks' := rks ++ [x]) (by rw [List.length_append, List.length_singleton]; rw [rkCells_append, show rkCells [x] = mbC x by simp [rkCells]]; exact h1) hc1
  exact ⟨g, cap, w1, hr, q1, q2, q3⟩
/-- What is told when the data is done. -/
theorem PB.told (h : PB w X k t its prs rks A v2 v3 v4) : ∃ a1 a2 a3 c1 c2 c3, v2 = .slice a1 its.length c1 ∧ v3 = .slice a2 prs.length c2 ∧ v4 = .slice a3 rks.length c3 ∧ PlainAt A ⟨k, t, its, prs, rks⟩ a1 a2 a3 ∧ ∀ x, (a1 = some x ∨ a2 = some x ∨ a3 = some x) → x.block ≠ X := by
  obtain ⟨a1, c1, rfl, q1⟩ := ownsRow_rd h.r2 (by intro u hu; obtain ⟨p, -, rfl⟩ := List.mem_map.1 hu; rfl)
  obtain ⟨a2, c2, rfl, q2⟩ := ownsRow_rd h.r3 (by
    intro u hu
    obtain ⟨p, -, hp⟩ := List.mem_flatMap.1 hu
    simp [fdC] at hp
    rcases hp with rfl | rfl <;> rfl)
  obtain ⟨a3, c3, rfl, q3⟩ := ownsRow_rd h.r4 (rkCells_one _)
  refine ⟨a1, a2, a3, c1, c2, c3, rfl, rfl, rfl, ⟨q1, q2, q3⟩, fun x hx e => ?_⟩
  rcases hx with rfl | rfl | rfl
  · exact row_not h.r2 h.blk (by decide) (e ▸ rfl)
  · exact row_not h.r3 h.blk (by decide) (e ▸ rfl)
  · exact row_not h.r4 h.blk (by decide) (e ▸ rfl)
end
end Go.Proofs.YtipehdbpbmnonaaGreat

/- The law's datum as plain data. -/
set_option linter.unusedVariables false
set_option linter.unusedSimpArgs false
namespace Pantry
open Go Go.RowKit
structure DD where
  kind : Int
  text : List UInt8
  items : List (List UInt8)
  pairs : List Fld
  ranks : List (List UInt8)
  scores : List Nat
def rankD (l : List (List UInt8)) (s : List Nat) : List Mb := l.zipIdx.map fun q => (q.1, s.getD q.2 4609434218613702656)
theorem rankD_length (l : List (List UInt8)) (s : List Nat) : (rankD l s).length = l.length := by simp [rankD]
theorem rankD_get (l : List (List UInt8)) (s : List Nat) (k : Nat) (x : List UInt8) (h : l[k]? = some x) : (rankD l s)[k]? = some (x, s.getD k 4609434218613702656) := by
  simp [rankD, List.getElem?_zipIdx, h]
def plainD (d : DD) : PD := ⟨d.kind, d.text, d.items, d.pairs, rankD d.ranks d.scores⟩
def u64L (l : List Nat) : List Value := l.map fun x : Nat => Value.int .u64 (x : Int)
end Pantry
namespace Go.Proofs.YtipehdbpbmnonaaGreat
open Go.RowKit Pantry

theorem frombits12 (n : Nat) (w : World) : (callFunc 39 #[.int .u64 (n : Int)]).run Tryz.prog w = .ok (.value (.float .f64 n)) w :=
  run_callFunc_extern (e := Extern.MathFloatBits.float64frombits) Tryz.func39 (by kernel_rfl) (by kernel_rfl) (by kernel_rfl) (by kernel_rfl) _ w
def Tryz.datumCells (d : DD) (a1 a2 a3 a4 : Option Addr) (c1 c2 c3 c4 : Nat) : Array Value :=
  #[.int .i64 d.kind, .string ⟨d.text.toArray⟩, .slice a1 d.items.length c1, .slice a2 d.pairs.length c2, .slice a3 d.ranks.length c3, .slice a4 d.scores.length c4]
structure DatumAt (w : World) (d : DD) (a1 a2 a3 a4 : Option Addr) (c1 c2 c3 c4 : Nat) : Prop where
  items : Rd w a1 (d.items.map txC)
  pairs : Rd w a2 (fdCells d.pairs)
  ranks : Rd w a3 (d.ranks.map txC)
  scores : Rd w a4 (u64L d.scores)
  nil : (a1 = none → c1 = 0) ∧ (a2 = none → c2 = 0)
  few : d.items.length ≤ 4294967296 ∧ d.pairs.length ≤ 4294967296 ∧ d.ranks.length ≤ 4294967296 ∧ d.scores.length ≤ 4294967296
theorem fdCells_length (l : List Fld) : (fdCells l).length = l.length * 2 := by
  induction l with
  | nil => rfl
  | cons p l ih => simp only [fdCells, List.flatMap_cons, List.length_append, List.length_cons] at *; rw [ih]; simp [fdC]; omega
theorem own_addr {w : World} {base : Nat} {e : TypeId} {size n : Nat} {v : Value} {xs : List Value} (h : w.ownsRow base e size v n xs) : ∃ a c, v = .slice a n c := by
  rcases h.2 with ⟨rfl, rfl⟩ | ⟨g, cap, cur, rfl, -⟩
  · exact ⟨none, 0, rfl⟩
  · exact ⟨_, _, rfl⟩
theorem six {w : World} {g : Nat} {c0 c1 c2 c3 c4 c5 : Value} {t : TypeId} (h : w.heap[g]? = some (.cells #[c0, c1, c2, c3, c4, c5] t)) :
    w.cell? ⟨g, 0, none⟩ = some c0 ∧ w.cell? ⟨g, 1, none⟩ = some c1 ∧ w.cell? ⟨g, 2, none⟩ = some c2 ∧ w.cell? ⟨g, 3, none⟩ = some c3 ∧ w.cell? ⟨g, 4, none⟩ = some c4 ∧ w.cell? ⟨g, 5, none⟩ = some c5 := by
  refine ⟨?_, ?_, ?_, ?_, ?_, ?_⟩ <;> rw [cell_of_row w g _ _ _ _ h] <;> rfl
attribute [-go_sem] Builtin.append_
set_option maxHeartbeats 8000000 in
theorem lplain_any (w : World) (d : DD) (a1 a2 a3 a4 : Option Addr) (c1 c2 c3 c4 : Nat) (hD : DatumAt w d a1 a2 a3 a4 c1 c2 c3 c4) :
    Calls Tryz.prog 9 #[.agg (Tryz.datumCells d a1 a2 a3 a4 c1 c2 c3 c4)] w (ToldPost (plainD d) w) := by
  obtain ⟨w1, hw1⟩ : ∃ W, w.alloc (.cells (Tryz.datumCells d a1 a2 a3 a4 c1 c2 c3 c4) 26) = W := ⟨_, rfl⟩
  obtain ⟨w2, hw2⟩ : ∃ W, w1.alloc (.cells #[.int .i64 0, .string ⟨#[]⟩, .slice none 0 0, .slice none 0 0, .slice none 0 0] 31) = W := ⟨_, rfl⟩
  have hs1 : w1.heap.size = w.heap.size + 1 := by rw [← hw1]; simp
  have hs2 : w2.heap.size = w.heap.size + 1 + 1 := by rw [← hw2]; simp [hs1]
  have hb2 : Below w.heap.size w w2 := by rw [← hw2, ← hw1]; exact ((Below.refl _ _).alloc (Nat.le_refl _) _).alloc (by simp) _
  have hDb : w2.heap[w.heap.size]? = some (.cells (Tryz.datumCells d a1 a2 a3 a4 c1 c2 c3 c4) 26) := by
    rw [← hw2, heap_alloc_old (by omega), ← hw1]
    exact heap_alloc_new w _
  have hRb : w2.heap[w.heap.size + 1]? = some (.cells #[.int .i64 0, .string ⟨#[]⟩, .slice none 0 0, .slice none 0 0, .slice none 0 0] 31) := by
    rw [← hs1, ← hw2]
    exact heap_alloc_new w1 _
  have hPB : PB w2 w2.heap.size d.kind d.text [] [] [] (w2.alloc (.cells #[.int .i64 d.kind, .string ⟨d.text.toArray⟩, .slice none 0 0, .slice none 0 0, .slice none 0 0] 31)) (.slice none 0 0) (.slice none 0 0) (.slice none 0 0) := by
    exact ⟨Nat.le_refl _, heap_alloc_new w2 _, World.ownsRow_nil _ _ _ _, World.ownsRow_nil _ _ _ _, World.ownsRow_nil _ _ _ _, (Below.refl _ _).alloc (Nat.le_refl _) _⟩
  have HD := Lib.hid hD
  have HDC : Hid (∀ A v2 v3 v4 its prs rks, PB w2 w2.heap.size d.kind d.text its prs rks A v2 v3 v4 →
      A.cell? ⟨w.heap.size, 2, none⟩ = some (.slice a1 d.items.length c1) ∧ A.cell? ⟨w.heap.size, 3, none⟩ = some (.slice a2 d.pairs.length c2) ∧ A.cell? ⟨w.heap.size, 4, none⟩ = some (.slice a3 d.ranks.length c3) ∧ A.cell? ⟨w.heap.size, 5, none⟩ = some (.slice a4 d.scores.length c4)) := Lib.hid fun A v2 v3 v4 its prs rks h => by
    have := (h.below.block w.heap.size (by omega)).trans hDb
    obtain ⟨-, -, q2, q3, q4, q5⟩ := six this
    exact ⟨q2, q3, q4, q5⟩
  obtain ⟨d0, d1, -⟩ := six hDb
  obtain ⟨f2, f3, f4, f5⟩ := HDC.out _ _ _ _ _ _ _ hPB
  obtain ⟨x2, x3, x4, xf⟩ := hPB.cells
  have HP := Lib.hid hPB
  have HB2 := Lib.hid hb2
  have HRb := Lib.hid hRb
  have HS1 := Lib.hid hs1
  have HS2 := Lib.hid hs2
  clear hPB hb2 hDb hRb hs1 hs2 hD
  unfold Tryz.datumCells at hw1 ⊢
  go_enter Tryz.func9, Tryz.ntmps9
  have HRI := Lib.hid (HD.out.items.below (HB2.out.trans (HP.out.below.mono HB2.out.size)))
  have HRP : Hid (∀ A, Below w2.heap.size w2 A → Rd A a2 (fdCells d.pairs)) := Lib.hid fun A hA => HD.out.pairs.below (HB2.out.trans (hA.mono HB2.out.size))
  have HN := Lib.hid HD.out.nil
  have HLI := Lib.hid (show (d.items.map txC).length = d.items.length * 1 by simp)
  have HLP := Lib.hid (fdCells_length d.pairs)
  obtain ⟨hfi, hfp, hfr, hfs⟩ := HD.out.few
  go_upto_region 2 with fail
  have HARM : Hid (∀ v' w5, w5.ownsRow w2.heap.size 9 1 v' (0 + d.items.length) ([] ++ d.items.map txC) → (w2.alloc (.cells #[.int .i64 d.kind, .string ⟨d.text.toArray⟩, .slice none 0 0, .slice none 0 0, .slice none 0 0] 31)).grownBy w5 (Value.slice none 0 0).ownBlock →
      ∃ i5 k5, v' = .slice i5 d.items.length k5 ∧ w5.cell? ⟨w2.heap.size, 2, none⟩ = some (.slice none 0 0) ∧ w5.frozen? ⟨w2.heap.size, 2, none⟩ = false ∧ PB w2 w2.heap.size d.kind d.text d.items [] [] (w5.setCell ⟨w2.heap.size, 2, none⟩ (.slice i5 d.items.length k5)) (.slice i5 d.items.length k5) (.slice none 0 0) (.slice none 0 0)) := Lib.hid (by
    intro v' w5 hown hg
    obtain ⟨i5, k5, rfl⟩ := own_addr hown
    rw [Nat.zero_add] at hown ⊢
    obtain ⟨-, hq1, hq2, hq3⟩ := HP.out.put2 (its' := d.items) (by simpa using hown) (Chg.of_grown hg fun j e => e)
    exact ⟨i5, k5, rfl, hq1, hq2, hq3⟩)
  have HARM2 : Hid (∀ A u2, PB w2 w2.heap.size d.kind d.text d.items [] [] A u2 (.slice none 0 0) (.slice none 0 0) → ∀ v' w6, w6.ownsRow w2.heap.size 43 2 v' (0 + d.pairs.length) ([] ++ fdCells d.pairs) → A.grownBy w6 (Value.slice none 0 0).ownBlock →
      ∃ i6 k6, v' = .slice i6 d.pairs.length k6 ∧ w6.cell? ⟨w2.heap.size, 3, none⟩ = some (.slice none 0 0) ∧ w6.frozen? ⟨w2.heap.size, 3, none⟩ = false ∧ PB w2 w2.heap.size d.kind d.text d.items d.pairs [] (w6.setCell ⟨w2.heap.size, 3, none⟩ (.slice i6 d.pairs.length k6)) u2 (.slice i6 d.pairs.length k6) (.slice none 0 0)) := Lib.hid (by
    intro A u2 hA v' w6 hown hg
    obtain ⟨i5, k5, rfl⟩ := own_addr hown
    rw [Nat.zero_add] at hown ⊢
    obtain ⟨-, hq1, hq2, hq3⟩ := hA.put3 (prs' := d.pairs) hown (Chg.of_grown hg fun j e => e)
    exact ⟨i5, k5, rfl, hq1, hq2, hq3⟩)
  go_wp2_with (first
    | (at_builtin
       refine wpl_append itemI rfl _ _ rfl w2.heap.size rfl HP.out.r2 (news := d.items.map txC) rfl HN.out.1 HLI.out HRI.out (by simp only [List.length_nil]; omega) (by simp) ?_
       intro v' w5 hown hg hv
       obtain ⟨i5, k5, rfl, hq1, hq2, hq3⟩ := HARM.out v' w5 hown hg
       obtain ⟨m2, m3, m4, m5⟩ := HDC.out _ _ _ _ _ _ _ hq3
       obtain ⟨n2, n3, n4, nf⟩ := hq3.cells
       have HP5 := Lib.hid hq3
       clear hown hg hq3 HRI HLI hv HARM HP)
    | (at_builtin
       refine wpl_append pairI12 rfl _ _ rfl w2.heap.size rfl HP5.out.r3 (news := fdCells d.pairs) rfl HN.out.2 HLP.out (HRP.out _ HP5.out.below) (by simp only [List.length_nil]; omega) HP5.out.below.size ?_
       intro v' w6 hown hg hv
       obtain ⟨i6, k6, rfl, hq4, hq5, hq6⟩ := HARM2.out _ _ HP5.out v' w6 hown hg
       obtain ⟨p2, p3, p4, p5⟩ := HDC.out _ _ _ _ _ _ _ hq6
       obtain ⟨o2, o3, o4, of_⟩ := hq6.cells
       have HP6 := Lib.hid hq6
       clear hown hg hq6 HP5 HRP HLP HARM2 hv))
  go_loopw [4] (fun i wr => ∃ (k : Nat) (u4 : Value), k ≤ d.ranks.length ∧ i = .int .i64 k ∧ PB w2 w2.heap.size d.kind d.text d.items d.pairs ((rankD d.ranks d.scores).take k) wr (.slice i5 d.items.length k5) (.slice i6 d.pairs.length k6) u4)
    (fun i _ => d.ranks.length - (intOf i).toNat)
  case atStart => exact ⟨0, _, Nat.zero_le _, rfl, HP6.out⟩
  case round =>
    obtain ⟨k, u4, hk, rfl, hP⟩ := hrel
    obtain ⟨e2, e3, e4, e5⟩ := HDC.out _ _ _ _ _ _ _ hP
    obtain ⟨y2, y3, y4, yf⟩ := hP.cells
    have hDA : DatumAt wr d a1 a2 a3 a4 c1 c2 c3 c4 := ⟨HD.out.items.below (HB2.out.trans (hP.below.mono HB2.out.size)), HD.out.pairs.below (HB2.out.trans (hP.below.mono HB2.out.size)), HD.out.ranks.below (HB2.out.trans (hP.below.mono HB2.out.size)), HD.out.scores.below (HB2.out.trans (hP.below.mono HB2.out.size)), HD.out.nil, HD.out.few⟩
    clear HP6 p2 p3 p4 p5 o2 o3 o4 of_ hq4 hq5 m2 m3 m4 m5 n2 n3 n4 nf hq1 hq2 d0 d1 f2 f3 f4 f5 x2 x3 x4 xf
    by_cases hlt : k < d.ranks.length
    · obtain ⟨s, hs⟩ : ∃ s, d.ranks[k]? = some s := ⟨_, List.getElem?_eq_getElem hlt⟩
      obtain ⟨x, rfl, hx⟩ := hDA.ranks.cell k (by simpa using hlt)
      have hx2 : wr.cell? (x.add k) = some (.string ⟨s.toArray⟩) := by
        rw [hx, List.getElem_map]
        obtain ⟨h1, e⟩ := List.getElem?_eq_some_iff.1 hs
        rw [e]; rfl
      have hlen : ((rankD d.ranks d.scores).take k).length = k := by rw [List.length_take, rankD_length]; omega
      have hget := rankD_get d.ranks d.scores k s hs
      have htk : (rankD d.ranks d.scores).take (k + 1) = (rankD d.ranks d.scores).take k ++ [(s, d.scores.getD k 4609434218613702656)] := by
        rw [List.take_add_one, hget]; rfl
      obtain ⟨f, hf⟩ : ∃ f, d.scores.getD k 4609434218613702656 = f := ⟨_, rfl⟩
      rw [hf] at htk
      obtain ⟨g, cap, w7, hr7, q1, q2, q3⟩ := hP.add4 (s, f) (by rw [hlen]; omega)
      rw [hlen] at hr7 q3
      rw [← htk] at q3
      have HQ := Lib.hid q3
      have hfb := frombits12
      have hx3 : (wr.alloc (.cells #[.string ⟨s.toArray⟩, .float .f64 f] 46)).cell? (x.add k) = some (.string ⟨s.toArray⟩) := ((hDA.ranks.alloc (.cells #[.string ⟨s.toArray⟩, .float .f64 f] 46)).cell k (by simpa using hlt)).elim fun y hy => by
        obtain ⟨hy1, hy2⟩ := hy
        cases hy1
        rw [hy2, List.getElem_map]
        obtain ⟨h1, e⟩ := List.getElem?_eq_some_iff.1 hs
        rw [e]; rfl
      have hPA := hP.alloc (.cells #[.string ⟨s.toArray⟩, .float .f64 f] 46)
      obtain ⟨-, -, e4a, e5a⟩ := HDC.out _ _ _ _ _ _ _ hPA
      obtain ⟨-, -, y4a, -⟩ := hPA.cells
      have hsc := hDA.scores
      replace hDA := Lib.hid hDA
      have hmx : Tryz.prog.follows .mixedOrders = true := by kernel_rfl
      clear hlen hget htk q3 hPA hx hs yf
      by_cases hsl : k < d.scores.length
      · obtain ⟨y, rfl, hy⟩ := hsc.cell k (by simpa [u64L] using hsl)
        have hy2 : wr.cell? (y.add k) = some (.int .u64 (f : Int)) := by
          rw [hy]
          have : d.scores[k] = f := by rw [← hf]; simp [List.getElem?_eq_getElem hsl]
          simp [u64L, this]
        clear hsc hy hf
        go_wp2_with fail
        go_region_with (fail)
        all_goals
          go_wp2_with fail
          go_roundw
          case rel => exact ⟨k + 1, _, by omega, by go_num, HQ.out⟩
          case measure => simp [intOf]; omega
      · have : f = 4609434218613702656 := by rw [← hf]; simp [List.getElem?_eq_none (Nat.le_of_not_lt hsl)]
        subst this
        clear hsc hf
        go_wp2_with fail
        go_region_with (fail)
        all_goals
          go_wp2_with fail
          go_roundw
          case rel => exact ⟨k + 1, _, by omega, by go_num, HQ.out⟩
          case measure => simp [intOf]; omega
    · obtain rfl : k = d.ranks.length := by omega
      rw [show (rankD d.ranks d.scores).take d.ranks.length = rankD d.ranks d.scores from by rw [List.take_of_length_le (by rw [rankD_length]; exact Nat.le_refl _)]] at hP
      have hl4 := rankD_length d.ranks d.scores
      obtain ⟨b1, b2, b3, l1, l2, l3, t1, t2, t3, hpl, hne⟩ := hP.told
      cases t1; cases t2; subst t3
      obtain ⟨z0, z1, z2, z3, z4⟩ := (fiveP hP.blk).1
      have hRw : wr.heap[w.heap.size + 1]? = some (.cells #[.int .i64 0, .string ⟨#[]⟩, .slice none 0 0, .slice none 0 0, .slice none 0 0] 31) := (hP.below.block (w.heap.size + 1) (by have := HS2.out; omega)).trans HRb.out
      rw [← HS1.out] at hRw
      obtain ⟨⟨g0, g1, g2, g3, g4⟩, gf⟩ := fiveP hRw
      have gz0 := gf 0; have gz1 := gf 1; have gz2 := gf 2; have gz3 := gf 3; have gz4 := gf 4
      have hrow := fill5_row hRw (.int .i64 d.kind) (.string ⟨d.text.toArray⟩) (.slice i5 d.items.length k5) (.slice i6 d.pairs.length k6) (.slice b3 d.ranks.length l3)
      have hPT : Hid (ToldPost (plainD d) w (.returned (.agg (Tryz.plainCells (plainD d) i5 i6 b3 k5 k6 l3))) (fill5 wr w1.heap.size (.int .i64 d.kind) (.string ⟨d.text.toArray⟩) (.slice i5 d.items.length k5) (.slice i6 d.pairs.length k6) (.slice b3 d.ranks.length l3))) := Lib.hid (by
        have hcR := fill5_chg wr w1.heap.size (.int .i64 d.kind) (.string ⟨d.text.toArray⟩) (.slice i5 d.items.length k5) (.slice i6 d.pairs.length k6) (.slice b3 d.ranks.length l3)
        have hbw : Below w.heap.size w wr := HB2.out.trans (hP.below.mono HB2.out.size)
        have hd1 := HS1.out
        refine ⟨i5, i6, b3, k5, k6, l3, rfl, ⟨hcR.rd hpl.items fun x hx e => ?_, hcR.rd hpl.pairs fun x hx e => ?_, hcR.rd hpl.ranks fun x hx e => ?_⟩, hbw.trans (hcR.below hbw.size fun k e => by omega)⟩
        · exact row_not (X := w1.heap.size) hP.r2 hRw (by decide) (by subst hx; exact congrArg some e)
        · exact row_not (X := w1.heap.size) hP.r3 hRw (by decide) (by subst hx; exact congrArg some e)
        · exact row_not (X := w1.heap.size) hP.r4 hRw (by decide) (by subst hx; exact congrArg some e))
      rw [hl4] at z4
      clear hP hpl hne hRw gf hk hlt hDA e2 e3 e5 y2 y3 y4 yf
      go_wp2_with fail
      obtain ⟨⟨g0, g1, g2, g3, g4⟩, -⟩ := fiveP hrow
      have hq := hPT.out
      unfold fill5 at hq g0 g1 g2 g3 g4
      rw [show Tryz.plainCells (plainD d) i5 i6 b3 k5 k6 l3 = #[.int .i64 d.kind, .string ⟨d.text.toArray⟩, .slice i5 d.items.length k5, .slice i6 d.pairs.length k6, .slice b3 d.ranks.length l3] from by simp [Tryz.plainCells, plainD, rankD_length]] at hq
      refine bodyPost_ret (v := .agg #[.int .i64 d.kind, .string ⟨d.text.toArray⟩, .slice i5 d.items.length k5, .slice i6 d.pairs.length k6, .slice b3 d.ranks.length l3]) ?_ rfl hq
      simp [results, Tryz.f9, go_sem, g0, g1, g2, g3, g4]
end Go.Proofs.YtipehdbpbmnonaaGreat
