/- The place of a member; Rank. -/
import Derived.Test.YtbjfigegiffefaaRk
set_option linter.unusedVariables false
set_option linter.unusedSimpArgs false
namespace Go.Proofs.Ytbjfigegiffefaa
open Go.RowKit Pantry

def PlacePost (l : List Mb) (x : Mb) (w : World) (e : Ending) (w' : World) : Prop := ∃ i : Nat, e = .returned (.int .i64 i) ∧ AtPlace l x i ∧ Below w.heap.size w w'
set_option maxHeartbeats 4000000 in
set_option maxRecDepth 100000 in
theorem place_any (w : World) (r seed d : Nat) (D : Dc) (v : Value) (l : List Mb) (x : Mb) (h : RkAt w r seed d D v l) (hx : ¬ fnan x.2) :
    Calls Try.prog 34 #[.pointer (some ⟨r, 0, none⟩), .agg #[.string ⟨x.1.toArray⟩, .float .f64 x.2]] w (PlacePost l x w) := by
  obtain ⟨⟨h0, h1, h2, h3⟩, -⟩ := four h.head
  obtain ⟨a, c, rfl, hrd⟩ := h.slice
  have hf : l.length ≤ 268435456 := by have := h.good.few; omega
  have HG := Lib.hid h.good
  have HRD := Lib.hid hrd
  have hrl := block_lt h.head
  obtain ⟨n, hn⟩ : ∃ n, l.length = n := ⟨_, rfl⟩
  rw [hn] at h2 hf
  have HN := Lib.hid hn
  have HX := Lib.hid hx
  clear h h0 h1 h3 hrd hn hx
  go_enter Try.func34, Try.ntmps34
  go_wp2_with fail
  obtain ⟨w1, hw1⟩ : ∃ w1, w.alloc (.cells #[.string ⟨x.1.toArray⟩, .float .f64 x.2] 34) = w1 := ⟨_, rfl⟩
  rw [hw1]
  have HB1 := Lib.hid (show Below w.heap.size w w1 by rw [← hw1]; exact (Below.refl _ w).alloc (Nat.le_refl _) _)
  have hbx : w1.heap[w.heap.size]? = some (.cells #[.string ⟨x.1.toArray⟩, .float .f64 x.2] 34) := by rw [← hw1]; exact heap_alloc_new w _
  have HS0 : Hid (w1.drew.cell? ⟨r, 2, none⟩ = some (.slice a n c) ∧ w1.drew.cell? ⟨w.heap.size, 0, none⟩ = some (.string ⟨x.1.toArray⟩) ∧ w1.drew.cell? ⟨w.heap.size, 1, none⟩ = some (.float .f64 x.2)) := Lib.hid ⟨(World.cell?_of_block (w := w) (w' := w1.drew) (a := ⟨r, 2, none⟩) (HB1.out.block r hrl)).trans h2, row_cells hbx 0 _ rfl, row_cells hbx 1 _ rfl⟩
  have HO := Lib.hid (bsearch_any w1.drew a n c l x (HRD.out.below HB1.out.drew) HN.out hf HG.out.num HX.out HG.out.rises)
  clear hw1 hbx h2 hf hrl
  go_region_held (fun w' => w'.cell? ⟨r, 2, none⟩ = some (.slice a n c) ∧ w'.cell? ⟨w.heap.size, 0, none⟩ = some (.string ⟨x.1.toArray⟩) ∧ w'.cell? ⟨w.heap.size, 1, none⟩ = some (.float .f64 x.2))
    (first | exact HS0.out | exact HS2.out)
    (first | (go_at_call 56; refine HO.out.mono ?_; rintro e w2 ⟨i, ok, rfl, hat, hb2⟩
              have HAT := Lib.hid hat
              have HB2 := Lib.hid (HB1.out.drew.trans (hb2.mono HB1.out.size))
              have HS2 : Hid (w2.cell? ⟨r, 2, none⟩ = some (.slice a n c) ∧ w2.cell? ⟨w.heap.size, 0, none⟩ = some (.string ⟨x.1.toArray⟩) ∧ w2.cell? ⟨w.heap.size, 1, none⟩ = some (.float .f64 x.2)) := Lib.hid (by
                have keep : ∀ p u, w1.drew.cell? p = some u → w2.cell? p = some u := fun p u hp => (World.cell?_of_block (w := w1.drew) (hb2.block p.block (World.block_lt_of_cell? w1.drew _ hp))).trans hp
                exact ⟨keep _ _ HS0.out.1, keep _ _ HS0.out.2.1, keep _ _ HS0.out.2.2⟩)
              clear hat hb2 HO))
  all_goals
    go_wp2_with fail
    go_ret
    exact ⟨i, rfl, HAT.out, HB2.out⟩
/-- Some more memory has been taken. -/
theorem RkSame.below {w w1 w2 : World} {r seed d : Nat} {D : Dc} {v : Value} {l : List Mb} (h : RkSame r seed d D v l w w1) (hb : Below w1.heap.size w1 w2) : RkSame r seed d D v l w w2 := by
  obtain ⟨⟨D', h1, h2⟩, h3⟩ := h
  have hc : Chg (fun _ => False) w1 w2 := Chg.of_below hb
  exact ⟨⟨D', h1.keep hc fun _ _ e => e, h2⟩, h3.trans hc fun _ _ e => e.elim⟩
def RankPost (r seed d : Nat) (D : Dc) (v : Value) (l : List Mb) (key : List UInt8) (w : World) (e : Ending) (w' : World) : Prop :=
  ((∃ (i x : Nat), l[i]? = some (key, x) ∧ e = .returned (.tuple #[.int .i64 i, .bool true])) ∨ ((∀ p ∈ l, p.1 ≠ key) ∧ e = .returned (.tuple #[.int .i64 0, .bool false]))) ∧ RkSame r seed d D v l w w'
set_option maxHeartbeats 2000000 in
theorem rkRank_any (w : World) (r seed d : Nat) (D : Dc) (v : Value) (l : List Mb) (key : List UInt8) (h : RkAt w r seed d D v l) (hs : key.length ≤ 140737488351232) :
    Calls Try.prog 14 #[.pointer (some ⟨r, 0, none⟩), .string ⟨key.toArray⟩] w (RankPost r seed d D v l key w) := by
  have HS := Lib.hid (rkScore_any w r seed d D v l key h hs)
  have HG := Lib.hid h.good
  clear h
  go_enter Try.func14, Try.ntmps14
  go_wp2_with fail
  refine HS.out.mono ?_
  rintro e w1 ⟨hres, hsame⟩
  have HM := Lib.hid hsame
  rcases hres with ⟨x, hx, rfl⟩ | ⟨hx, rfl⟩
  · obtain ⟨⟨D', h1, -⟩, -⟩ := hsame
    have HP := Lib.hid (place_any w1 r seed d D' v l (key, x) h1 (HG.out.num _ hx))
    have HX := Lib.hid hx
    clear h1 hx HS
    go_wp2_with (go_at_call 34; refine HP.out.mono ?_; rintro e w2 ⟨i, rfl, hat, hb⟩
                 have HAT := Lib.hid hat
                 have HB := Lib.hid hb
                 clear hat hb)
    go_ret2
    refine ⟨.inl ⟨i, x, ?_, rfl⟩, HM.out.below HB.out⟩
    obtain ⟨j, hj, he⟩ := List.mem_iff_getElem.1 HX.out
    have hg : l[j]? = some (key, x) := by rw [List.getElem?_eq_getElem hj, he]
    rw [(HG.out.rises.place hg).uniq HAT.out] at hg
    exact hg
  · have HX := Lib.hid hx
    clear hx hsame HS
    go_wp2_with fail
    go_ret2
    exact ⟨.inr ⟨HX.out, rfl⟩, HM.out⟩
end Go.Proofs.Ytbjfigegiffefaa
