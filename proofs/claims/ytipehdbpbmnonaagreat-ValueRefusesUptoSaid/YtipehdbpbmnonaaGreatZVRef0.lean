/- Plain data in a box, while it is turned into something that is refused. -/
import Derived.Test.YtipehdbpbmnonaaGreatZVDatumO
import Derived.Test.YtipehdbpbmnonaaGreatZVTurnP
import Derived.Test.YtipehdbpbmnonaaGreatZVBackW
import Derived.Test.YtipehdbpbmnonaaGreatZBytes
set_option linter.unusedVariables false
set_option linter.unusedSimpArgs false
namespace Go.Proofs.YtipehdbpbmnonaaGreat
open Go.RowKit Pantry

section
variable {w : World} {X : Nat} {k : Int} {t : List UInt8} {its : List (List UInt8)} {prs : List Fld} {rks : List Mb} {A B : World} {v2 v3 v4 : Value}
theorem PB.keep (h : PB w X k t its prs rks A v2 v3 v4) (hb : Below A.heap.size A B) : PB w X k t its prs rks B v2 v3 v4 := by
  have hc : Chg (fun _ => False) A B := Chg.of_below hb
  exact ⟨h.ge, hc.heap h.blk id, hc.ownsRow h.r2 fun _ _ e => e, hc.ownsRow h.r3 fun _ _ e => e, hc.ownsRow h.r4 fun _ _ e => e, h.below.trans (hb.mono h.below.size)⟩
theorem PB.setHead (h : PB w X k t its prs rks A v2 v3 v4) {j : Nat} {u : Value} {k' : Int} {t' : List UInt8} (hj : (#[.int .i64 k, .string ⟨t.toArray⟩, v2, v3, v4] : Array Value).setIfInBounds j u = #[.int .i64 k', .string ⟨t'.toArray⟩, v2, v3, v4]) : PB w X k' t' its prs rks (A.setCell ⟨X, j, none⟩ u) v2 v3 v4 := by
  have hs : Chg (fun i => i = X) A (A.setCell ⟨X, j, none⟩ u) := Chg.setCell (S := fun i => i = X) (Chg.refl _ A) (p := ⟨X, j, none⟩) (fun _ => rfl) _
  refine ⟨h.ge, by rw [heapSetHere h.blk, hj], hs.ownsRow h.r2 fun i hi e => row_not h.r2 h.blk (by decide) (e ▸ hi), hs.ownsRow h.r3 fun i hi e => row_not h.r3 h.blk (by decide) (e ▸ hi), hs.ownsRow h.r4 fun i hi e => row_not h.r4 h.blk (by decide) (e ▸ hi), h.below.trans (hs.below h.below.size fun i e => e ▸ h.ge)⟩
theorem PB.setKind (h : PB w X k t its prs rks A v2 v3 v4) (k' : Int) : PB w X k' t its prs rks (A.setCell ⟨X, 0, none⟩ (.int .i64 k')) v2 v3 v4 := h.setHead rfl
theorem PB.setText (h : PB w X k t its prs rks A v2 v3 v4) (t' : List UInt8) : PB w X k t' its prs rks (A.setCell ⟨X, 1, none⟩ (.string ⟨t'.toArray⟩)) v2 v3 v4 := h.setHead rfl
theorem PB.app2 (h : PB w X k t its prs rks A v2 v3 v4) {v' : Value} (x : List UInt8) {n : Nat} (hn : its.length = n) (hr : B.ownsRow w.heap.size 9 1 v' (n + 1) (its.map txC ++ (#[.string ⟨x.toArray⟩] : Array Value).toList)) (hg : A.grownBy B v2.ownBlock) :
    B.cell? ⟨X, 2, none⟩ = some v2 ∧ B.frozen? ⟨X, 2, none⟩ = false ∧ PB w X k t (its ++ [x]) prs rks (B.setCell ⟨X, 2, none⟩ v') v' v3 v4 :=
  (h.put2 (its' := its ++ [x]) (by rw [List.length_append, List.length_singleton, hn, List.map_append]; exact hr) (Chg.of_grown hg fun j e => e)).2
theorem PB.app3 (h : PB w X k t its prs rks A v2 v3 v4) {v' : Value} (x : Fld) {n : Nat} (hn : prs.length = n) (hr : B.ownsRow w.heap.size 43 2 v' (n + 1) (fdCells prs ++ (#[.string ⟨x.1.toArray⟩, .string ⟨x.2.toArray⟩] : Array Value).toList)) (hg : A.grownBy B v3.ownBlock) :
    B.cell? ⟨X, 3, none⟩ = some v3 ∧ B.frozen? ⟨X, 3, none⟩ = false ∧ PB w X k t its (prs ++ [x]) rks (B.setCell ⟨X, 3, none⟩ v') v2 v' v4 :=
  (h.put3 (prs' := prs ++ [x]) (by rw [List.length_append, List.length_singleton, hn, show fdCells (prs ++ [x]) = fdCells prs ++ fdC x by simp [fdCells]]; exact hr) (Chg.of_grown hg fun j e => e)).2
theorem PB.app4 (h : PB w X k t its prs rks A v2 v3 v4) {v' : Value} (x : Mb) {n : Nat} (hn : rks.length = n) (hr : B.ownsRow w.heap.size 46 2 v' (n + 1) (rkCells rks ++ (#[.string ⟨x.1.toArray⟩, .float .f64 x.2] : Array Value).toList)) (hg : A.grownBy B v4.ownBlock) :
    B.cell? ⟨X, 4, none⟩ = some v4 ∧ B.frozen? ⟨X, 4, none⟩ = false ∧ PB w X k t its prs (rks ++ [x]) (B.setCell ⟨X, 4, none⟩ v') v2 v3 v' :=
  (h.put4 (rks' := rks ++ [x]) (by rw [List.length_append, List.length_singleton, hn, rkCells_append, show rkCells [x] = mbC x by simp [rkCells]]; exact hr) (Chg.of_grown hg fun j e => e)).2
theorem PB.plain {b1 b2 b3 : Option Addr} {n2 n3 n4 e1 e2 e3 : Nat} (h : PB w X k t its prs rks A (.slice b1 n2 e1) (.slice b2 n3 e2) (.slice b3 n4 e3)) : PlainAt A ⟨k, t, its, prs, rks⟩ b1 b2 b3 := by
  obtain ⟨a1, a2, a3, c1, c2, c3, h1, h2, h3, hpl, -⟩ := h.told
  cases h1; cases h2; cases h3
  exact hpl
end
/-- How the switch ends: plain data that is refused, for the reason that is expected. -/
def RefEnd (w : World) (B9 : Nat) (z : Int) (A : World) : Prop :=
  ∃ q b1 b2 b3 e1 e2 e3, PlainAt A q b1 b2 b3 ∧ A.heap[B9]? = some (.cells (Tryz.plainCells q b1 b2 b3 e1 e2 e3) 31) ∧ Below w.heap.size w A ∧ wrongP q = z ∧ PlainBig q ∧ (z = 2 ∨ z = 3)
theorem RefEnd.of {w A : World} {X : Nat} {k : Int} {t : List UInt8} {its : List (List UInt8)} {prs : List Fld} {rks : List Mb} {v2 v3 v4 : Value} (h : PB w X k t its prs rks A v2 v3 v4) {z : Int} (hz : wrongP ⟨k, t, its, prs, rks⟩ = z) (hB : PlainBig ⟨k, t, its, prs, rks⟩) (h2 : z = 2 ∨ z = 3) : RefEnd w X z A := by
  obtain ⟨a1, a2, a3, c1, c2, c3, rfl, rfl, rfl, hpl, -⟩ := h.told
  exact ⟨⟨k, t, its, prs, rks⟩, a1, a2, a3, c1, c2, c3, hpl, h.blk, h.below, hz, hB, h2⟩
/-- The datum's plain data, laid in a box. -/
theorem PB.ofOwn {w W1 w4 : World} {p : PD} {a1 a2 a3 : Option Addr} {c1 c2 c3 : Nat} (hw : Below w.heap.size w W1) (hb : Below W1.heap.size W1 w4)
    (r2 : w4.ownsRow W1.heap.size 9 1 (.slice a1 p.items.length c1) p.items.length (p.items.map txC)) (r3 : w4.ownsRow W1.heap.size 43 2 (.slice a2 p.pairs.length c2) p.pairs.length (fdCells p.pairs)) (r4 : w4.ownsRow W1.heap.size 46 2 (.slice a3 p.ranks.length c3) p.ranks.length (rkCells p.ranks)) :
    PB w w4.heap.size p.kind p.text p.items p.pairs p.ranks (w4.alloc (.cells (Tryz.plainCells p a1 a2 a3 c1 c2 c3) 31)) (.slice a1 p.items.length c1) (.slice a2 p.pairs.length c2) (.slice a3 p.ranks.length c3) := by
  have hsz := hw.size
  have hb4 : Below w.heap.size w w4 := hw.trans (hb.mono hsz)
  exact ⟨hb4.size, heap_alloc_new w4 _, (ownsRow_base r2 hsz).alloc _, (ownsRow_base r3 hsz).alloc _, (ownsRow_base r4 hsz).alloc _, hb4.alloc hb4.size _⟩
theorem bytesInfo : (Tryz.prog.info? 5).map (fun i => (i.zero, i.size, i.bytes)) = some (some (.int .u8 0), 1, 1) := by kernel_rfl
def Tryz.longCells : Array Value := (List.replicate 1048577 (Value.int .u8 0)).toArray
theorem run_make_long (w : World) : (Instr.makeSlice 47 (.int .i64 1048577) (.int .i64 1048577)).run Tryz.prog w = .ok (.slice (some ⟨w.heap.size, 0, none⟩) 1048577 1048577) (w.alloc (.cells Tryz.longCells 5)) := by
  have hi := bytesInfo
  cases hq : Tryz.prog.info? 5 with
  | none => rw [hq] at hi; cases hi
  | some i =>
    rw [hq] at hi
    simp only [Option.map_some, Option.some.injEq, Prod.mk.injEq] at hi
    obtain ⟨h1, h2, h3⟩ := hi
    have hr := run_make (P := Tryz.prog) w 47 5 i (.int .u8 0) Tryz.underlying47 hq h1 .i64 .i64 1048577 1048577 (by omega) (Int.le_refl _) (by rw [h3]; omega) (by omega)
    rw [h2, show ((1048577 : Int)).toNat = 1048577 from rfl, Nat.mul_one] at hr
    rw [hr, show (Value.int .u8 0).cells = #[Value.int .u8 0] from rfl, madeCells_one]
    rfl
theorem long_rd (w : World) : Rd (w.alloc (.cells Tryz.longCells 5)) (some ⟨w.heap.size, 0, none⟩) (b8 (List.replicate 1048577 0)) := by
  have := Rd.new w Tryz.longCells 5 (0, 0) (by
    intro u hu
    unfold Tryz.longCells at hu
    rw [List.mem_toArray] at hu
    rw [List.eq_of_mem_replicate hu]; rfl)
  have e : Tryz.longCells.toList = b8 (List.replicate 1048577 0) := by
    unfold Tryz.longCells b8
    rw [List.map_replicate]; rfl
  rw [e] at this
  exact this
end Go.Proofs.YtipehdbpbmnonaaGreat

/- Nought by nought is no number. -/
set_option linter.unusedVariables false
set_option linter.unusedSimpArgs false
namespace Pantry
open Go Go.RowKit Ieee
theorem read0 : double.read 0 = .number false 0 (-1074) := by decide +kernel
theorem mul0 (x : Nat) : double.mul x 0 = none ∨ double.mul x 0 = some 0 ∨ double.mul x 0 = some (2 ^ 63) := by
  unfold Format.mul
  rw [read0]
  cases double.read x with
  | nan s t => exact .inl rfl
  | infinity s => exact .inl rfl
  | number s m i =>
    right
    have e : double.write (.number (s ^^ false) (m * 0) (i + -1074)) = if s then 2 ^ 63 else 0 := by
      show double.nearest (s ^^ false) (m * 0) (i + -1074) = _
      unfold Format.nearest
      rw [Nat.mul_zero, if_pos rfl]
      unfold Format.word
      have : double.signWeight = 2 ^ 63 := rfl
      rw [this]
      cases s <;> rfl
    show (some (double.write (.number (s ^^ false) (m * 0) (i + -1074)))) = some 0 ∨ (some (double.write (.number (s ^^ false) (m * 0) (i + -1074)))) = some (2 ^ 63)
    rw [e]
    cases s
    · exact .inl rfl
    · exact .inr rfl
theorem nodiv0 : double.div 0 0 = none := by decide +kernel
theorem nodiv63 : double.div (2 ^ 63) (2 ^ 63) = none := by decide +kernel
theorem nodiv_nan {y : Nat} (h : fnan y) : double.div y y = none := by
  unfold fnan at h
  unfold Format.div
  cases hy : double.read y with
  | nan s t => rfl
  | infinity s => rw [hy] at h; simp [Datum.isNaN] at h
  | number s m i => rw [hy] at h; simp [Datum.isNaN] at h
theorem nan_cut (t : Nat) : fnan ((t % 2) * 2 ^ 63 + 0x7ff0000000000000 + 1 + (t / 2) % (2 ^ 52 - 1)) := by
  have e1 : double.binade = 2 ^ 52 := rfl
  have e2 : double.signWeight = 2 ^ 63 := rfl
  have e3 : double.infRung = 2047 * 2 ^ 52 := rfl
  unfold fnan Format.read
  rw [e1, e2, e3]
  have hr : ((t % 2) * 2 ^ 63 + 0x7ff0000000000000 + 1 + (t / 2) % (2 ^ 52 - 1)) % 2 ^ 63 = 0x7ff0000000000000 + 1 + (t / 2) % (2 ^ 52 - 1) := by omega
  simp only [hr]
  rw [if_neg (by omega), if_neg (by omega), if_neg (by omega)]
  rfl
end Pantry
namespace Go.Proofs.YtipehdbpbmnonaaGreat
open Go.RowKit Pantry

theorem run_mul0 {P : Program} (w : World) (t : TypeId) (x : Nat) : ∃ y, Ieee.double.div y y = none ∧
    ((Go.binOp .mul t (.float .f64 x) (.float .f64 0)).run P w = .ok (.float .f64 y) w ∨ (Go.binOp .mul t (.float .f64 x) (.float .f64 0)).run P w = .ok (.float .f64 y) w.drew) := by
  rcases mul0 x with h | h | h
  · refine ⟨(Question.nanBits .f64 x 0).cut (w.tape w.drawn (.nanBits .f64 x 0)), nodiv_nan (nan_cut _), .inr ?_⟩
    have h' : FloatKind.f64.format.mul x 0 = none := h
    simp [Go.binOp, Op.floatArith, h']
    exact fun hf => nomatch (show false = true from hf)
  · refine ⟨0, nodiv0, .inl ?_⟩
    have h' : FloatKind.f64.format.mul x 0 = some 0 := h
    simp [Go.binOp, Op.floatArith, h']
  · refine ⟨2 ^ 63, nodiv63, .inl ?_⟩
    have h' : FloatKind.f64.format.mul x 0 = some (2 ^ 63) := h
    simp [Go.binOp, Op.floatArith, h']
theorem run_quo {P : Program} (w : World) (t : TypeId) (y : Nat) (h : Ieee.double.div y y = none) : ∃ z, fnan z ∧ (Go.binOp .quo t (.float .f64 y) (.float .f64 y)).run P w = .ok (.float .f64 z) w.drew := by
  have h' : FloatKind.f64.format.div y y = none := h
  refine ⟨(Question.nanBits .f64 y y).cut (w.tape w.drawn (.nanBits .f64 y y)), nan_cut _, ?_⟩
  simp [Go.binOp, Op.floatArith, h']
  exact fun hf => nomatch (show false = true from hf)
section
variable {w : World} {X : Nat} {k : Int} {t : List UInt8} {its : List (List UInt8)} {prs : List Fld} {A : World} {v2 v3 v4 : Value}
/-- The first score is written. -/
theorem PB.rank0 {x : Mb} {rs : List Mb} (h : PB w X k t its prs (x :: rs) A v2 v3 v4) : ∃ g cap, v4 = .slice (some ⟨g, 0, none⟩) (rs.length + 1) cap ∧ A.cell? ⟨g, 0, none⟩ = some (.string ⟨x.1.toArray⟩) ∧ A.cell? ⟨g, 1, none⟩ = some (.float .f64 x.2) ∧ A.frozen? ⟨g, 1, none⟩ = false ∧ g ≠ X ∧
    ∀ y, PB w X k t its prs ((x.1, y) :: rs) (A.setCell ⟨g, 1, none⟩ (.float .f64 y)) v2 v3 v4 := by
  rcases h.r4.2 with ⟨hv, h0⟩ | ⟨g, cap, cur, hv, hb, hg, hnc, hcm, hcs, htk⟩
  · exact absurd h0 (by simp [rkCells, mbC])
  · subst hv
    have hgX : g ≠ X := fun e => row_not h.r4 h.blk (by decide) (by rw [e]; rfl)
    have hcell : ∀ j u, (rkCells (x :: rs))[j]? = some u → A.cell? ⟨g, j, none⟩ = some u := fun j u hj => by
      have := h.r4.cells (g := g) rfl j u hj
      rwa [Addr.add_base] at this
    have hs : Chg (fun i => i = g) A (A.setCell ⟨g, 1, none⟩ (.float .f64 0)) := Chg.setCell (S := fun i => i = g) (Chg.refl _ A) (p := ⟨g, 1, none⟩) (fun _ => rfl) _
    refine ⟨g, cap, by simp, hcell 0 _ (by simp [rkCells, mbC]), hcell 1 _ (by simp [rkCells, mbC]), frozen_of_row A g 1 _ _ hg, hgX, fun y => ?_⟩
    have hs : Chg (fun i => i = g) A (A.setCell ⟨g, 1, none⟩ (.float .f64 y)) := Chg.setCell (S := fun i => i = g) (Chg.refl _ A) (p := ⟨g, 1, none⟩) (fun _ => rfl) _
    refine ⟨h.ge, hs.heap h.blk fun e => hgX e.symm, hs.ownsRow h.r2 fun i hi e => rows_not h.r2 h.r4 (by decide) i hi (by rw [e]; rfl), hs.ownsRow h.r3 fun i hi e => rows_not h.r3 h.r4 (by decide) i hi (by rw [e]; rfl), ⟨?_, .inr ⟨g, cap, cur.setIfInBounds 1 (.float .f64 y), by simp, hb, heapSetHere hg _, by simpa using hnc, hcm, by rw [Array.size_setIfInBounds]; exact hcs, ?_⟩⟩, h.below.trans (hs.below h.below.size fun i e => e ▸ hb)⟩
    · have := h.r4.1
      simpa [rkCells, mbC] using this
    · rw [Array.toList_setIfInBounds]
      have e : (cur.toList.set 1 (.float .f64 y)).take ((x :: rs).length * 2) = (cur.toList.take ((x :: rs).length * 2)).set 1 (.float .f64 y) := by
        rw [List.take_set]
      show (cur.toList.set 1 (.float .f64 y)).take ((x :: rs).length * 2) = _
      rw [e, htk]
      simp [rkCells, mbC]
end
end Go.Proofs.YtipehdbpbmnonaaGreat
