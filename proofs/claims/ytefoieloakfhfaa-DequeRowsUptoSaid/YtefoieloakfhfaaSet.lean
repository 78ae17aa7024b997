/- Set. -/
import Derived.Test.YtefoieloakfhfaaPop
namespace Pantry
/-- Set, on the chunks. -/
def setC (i : Nat) (s : Txt) (cs : List (List Txt)) : List (List Txt) :=
  match cs[(findC cs i).1]? with
  | none => cs
  | some c => cs.set (findC cs i).1 (c.set (findC cs i).2 s)
theorem chunk_set {c : List Txt} {p : Nat} {s : Txt} (hp : p < c.length) : (chunkL c).set p (txt s) = chunkL (c.set p s) := by
  unfold chunkL
  have h1 : p < (txts c).length := by rw [txts_length]; exact hp
  rw [List.append_assoc, List.set_append_left _ _ h1, List.length_set, ← List.append_assoc]
  simp [txts, List.map_set]
end Pantry
namespace Go.Proofs.Ytefoieloakfhfaa
open Go.RowKit Pantry

set_option maxHeartbeats 4000000 in
set_option maxRecDepth 100000 in
theorem set_in (w : World) (d : Nat) (v : Value) (gs : List Nat) (cs : List (List Txt)) (i : Nat) (s : Txt) (h : DeqAt w d v gs cs) (hf : Fits cs) (hi : i < total cs) (hs : s.length ≤ 1048576) :
    Calls Try.prog 47 #[.pointer (some ⟨d, 0, none⟩), .int .i64 i, .string ⟨s.toArray⟩] w (StayPost d v gs (setC i s cs) (.bool true) w) := by
  have hne : cs ≠ [] := by rintro rfl; simp [total] at hi
  have HLEN := Lib.hid (len_any w d v gs cs h)
  have hfind := find_any w d v gs cs i h hf hne (by have := hf.total; omega)
  obtain ⟨c, h1, h2, h3, h4⟩ := findC_spec hne (Nat.le_of_lt hi)
  have h5 := h4 hi
  clear h4
  unfold setC
  obtain ⟨⟨k, p⟩, hkp⟩ : ∃ q, findC cs i = q := ⟨_, rfl⟩
  rw [hkp] at h1 h2 h5 hfind ⊢
  simp only at h1 h2 h5 hfind ⊢
  rw [h1]
  simp only
  have HFIND := Lib.hid hfind
  have hc32 := hf.chunk c (List.mem_of_getElem? h1)
  obtain ⟨x, hx⟩ : ∃ x, c[p]? = some x := ⟨_, List.getElem?_eq_getElem h5⟩
  have hxl := hf.text c (List.mem_of_getElem? h1) x (List.mem_of_getElem? hx)
  obtain ⟨g, sb, cap, hg, hv, hkl, hnc, hcell, hch⟩ := h.at h1
  have hgd : g ≠ d := fun e => h.notd (by rw [← e]; exact List.mem_of_getElem? hg)
  have hdg : d ≠ g := fun e => hgd e.symm
  have htx := hch.text hx
  have hfz : w.frozen? ⟨g, p, none⟩ = false := frozen_of_row w g p _ _ hch
  obtain ⟨⟨d0, d1, d2⟩, df⟩ := three h.head
  have df2 := df 2
  have hT := total_set (c' := c.set p s) h1
  rw [List.length_set] at hT
  have hC : costOf (cs.set k (c.set p s)) + sumW c = costOf cs + sumW (c.set p s) := costOf_set (c' := c.set p s) h1
  have hW : sumW (c.set p s) + (16 + x.length) = sumW c + (16 + s.length) := by
    have := sum_set (f := fun y : Txt => 16 + y.length) (c' := s) hx
    simpa [sumW] using this
  have hcl := costOf_le hf.text
  have htot := hf.total
  have hrl := hf.rows
  have hsz := mk_size s
  have hsx := mk_size x
  subst hv
  obtain ⟨m, hm⟩ : ∃ m, cs.length = m := ⟨_, rfl⟩
  obtain ⟨N, hN⟩ : ∃ N, total cs = N := ⟨_, rfl⟩
  obtain ⟨C, hC2⟩ : ∃ C, costOf cs = C := ⟨_, rfl⟩
  have hge : sumW c ≤ C := by rw [← hC2]; exact costOf_ge h1
  rw [hm] at hkl hnc d0 hrl
  rw [hN] at d1 hi hT htot hcl HLEN
  rw [hC2] at d2 hC hcl
  have hCb : C ≤ 1048576 * 1048592 := Nat.le_trans hcl (Nat.mul_le_mul_right _ htot)
  have HT := Lib.hid (show total (cs.set k (c.set p s)) = N by omega)
  have HC := Lib.hid (show ((costOf (cs.set k (c.set p s)) : Nat) : Int) = (C : Int) + ((16 + (s.length : Int)) - (16 + (x.length : Int))) by omega)
  have HD := Lib.hid h
  have HG := Lib.hid hg
  have HCH := Lib.hid hch
  have HH := Lib.hid h.head
  have HM := Lib.hid hm
  have HN := Lib.hid hN
  have HC2 := Lib.hid hC2
  have HCS := Lib.hid (chunk_set (s := s) h5)
  have HEND := Lib.hid (show StayPost d (.slice (some ⟨sb, 0, none⟩) cs.length cap) gs (cs.set k (c.set p s)) (.bool true) w (.returned (.bool true))
      ((w.setCell ⟨d, 2, none⟩ (.int .i64 ((C : Int) + ((16 + (s.length : Int)) - (16 + (x.length : Int)))))).setCell ⟨g, p, none⟩ (.string ⟨s.toArray⟩)).drew from by
    have hU1 := (Upd.same h.head).setCell 2 (.int .i64 ((C : Int) + ((16 + (s.length : Int)) - (16 + (x.length : Int)))))
    have hch1 := (hU1.other g hgd).trans hch
    have hU2 := ((Upd.same hch1).setCell p (.string ⟨s.toArray⟩)).drew
    have hcg : Chg (fun j => j = d ∨ j = g) w _ := (hU1.chg.mono fun _ _ e => .inl e).trans hU2.chg fun _ _ e => .inr e
    refine ⟨rfl, DeqAt.turned h hg ?_ ?_ hcg, hcg.mono fun j _ e => ?_⟩
    · rw [hU2.here, ← HCS.out]
      congr 2
      apply Array.toList_inj.1
      simp [txt]
    · rw [hU2.other d hdg, hU1.here, HT.out, HC.out, hN]
      rfl
    · rcases e with rfl | rfl
      · exact .inl rfl
      · exact .inr (.inl (List.mem_of_getElem? hg)))
  clear h hf hx h1 h2 h3 hch hm hN hkp hne d1 hC2 hT hC hW hcl hge df hg hfind
  have hp32 : (p : Int) < 32 := by omega
  have hp2 : p < 32 := by omega
  have hi0 : ¬ (i : Int) < 0 := by omega
  have hit : (i : Int) < (N : Int) := by omega
  have hsl : ¬ (1048576 : Int) < (s.length : Int) := by omega
  have hw1 : IntKind.i64.wrap ((16 + (s.length : Int)) - (16 + (x.length : Int))) = (16 + (s.length : Int)) - (16 + (x.length : Int)) := by rw [IntKind.wrap_i64]; omega
  have hw2 : IntKind.i64.wrap ((C : Int) + ((16 + (s.length : Int)) - (16 + (x.length : Int)))) = (C : Int) + ((16 + (s.length : Int)) - (16 + (x.length : Int))) := by rw [IntKind.wrap_i64]; omega
  go_enter Try.func47, Try.ntmps47
  go_wp2_with (first
    | (go_at_call 16; refine HLEN.out.mono ?_; rintro e w' ⟨rfl, rfl⟩)
    | (go_at_call 36; refine HFIND.out.mono ?_; rintro e w' ⟨rfl, rfl⟩))
  go_region_with (go_at_call 57; refine (weight_any _ _ (by first | (rw [hsz]; omega) | (rw [hsx]; omega))).mono ?_; rintro e w' ⟨rfl, rfl⟩)
  all_goals
    go_wp2_with fail
    go_ret
    exact HEND.out
end Go.Proofs.Ytefoieloakfhfaa
