/- The document's answer for the deque: Insert, whole. -/
import Derived.Test.YtefoieloakfhfaaZRef9H
import Derived.Test.YtefoieloakfhfaaZRef9L
namespace Go.Proofs.Ytefoieloakfhfaa
open Go.RowKit Pantry

set_option maxHeartbeats 4000000 in
set_option maxRecDepth 100000 in
theorem rins_nil (w : World) (i : Int) (s : ByteArray) : Calls Try.prog 48 #[.pointer none, .int .i64 i, .string s] w fun e w' => e = .returned (.int .i64 1) ∧ w = w' := by
  go_enter Try.func48, Try.ntmps48
  go_wp2_with fail
  go_ret
  exact ⟨rfl, rfl⟩
set_option maxHeartbeats 4000000 in
set_option maxRecDepth 100000 in
theorem rins_arg (w : World) (m : Nat) (css : List (List Txt)) (i : Int) (s : ByteArray) (h : RefAt w m css) (hg : Fits css) (hi : i < 0 ∨ (total css : Int) < i) :
    Calls Try.prog 48 #[.pointer (some ⟨m, 0, none⟩), .int .i64 i, .string s] w fun e w' => e = .returned (.int .i64 3) ∧ Below w.heap.size w w' := by
  have HL := Lib.hid (rlen_or w _ css (.inr ⟨m, rfl, h⟩) hg.rows (Nat.le_trans hg.total (by omega)))
  obtain ⟨N, hN⟩ : ∃ N, total css = N := ⟨_, rfl⟩
  rw [hN] at HL hi
  clear hN h hg
  by_cases h0 : i < 0
  · clear hi
    go_enter Try.func48, Try.ntmps48
    go_wp2_with fail
    go_ret
    exact ⟨rfl, Below.refl _ _⟩
  · have hi2 : (N : Int) < i := by omega
    clear hi
    go_enter Try.func48, Try.ntmps48
    go_wp2_with (go_at_call 52; refine HL.out.mono ?_; clear HL; rintro e w1 ⟨rfl, hb1⟩; have HB1 := Lib.hid hb1; clear hb1)
    go_ret
    exact ⟨rfl, HB1.out⟩
set_option maxHeartbeats 4000000 in
set_option maxRecDepth 100000 in
theorem rins_no (w : World) (m : Nat) (css : List (List Txt)) (i : Int) (s : Txt) (h : RefAt w m css) (hg : Fits css) (hi : 0 ≤ i ∧ i ≤ (total css : Int)) (hs : s.length ≤ 281474976710656) (hc : (mayC s (total css) != 0) = true) :
    Calls Try.prog 48 #[.pointer (some ⟨m, 0, none⟩), .int .i64 i, .string ⟨s.toArray⟩] w fun e w' => e = .returned (.int .i64 (mayC s (total css))) ∧ Below w.heap.size w w' := by
  have HL := Lib.hid (rlen_or w _ css (.inr ⟨m, rfl, h⟩) hg.rows (Nat.le_trans hg.total (by omega)))
  obtain ⟨a, c, vs, ho⟩ := h.opened
  have HO := Lib.hid ho
  have HG := Lib.hid hg
  have HM := fun w1 (hb1 : Below w.heap.size w w1) => Lib.hid (rmay_any w1 m css s ⟨_, (HO.out.below hb1).head, a_ls (HO.out.below hb1)⟩ HG.out hs)
  obtain ⟨code, hcode⟩ : ∃ code, mayC s (total css) = code := ⟨_, rfl⟩
  rw [hcode] at HM hc ⊢
  obtain ⟨N, hN⟩ : ∃ N, total css = N := ⟨_, rfl⟩
  rw [hN] at HL hi
  obtain ⟨h0, h1⟩ := hi
  have h2 : ¬ i < 0 := by omega
  have h3 : ¬ (N : Int) < i := by omega
  clear hcode h hg hs hN ho h0 h1
  go_enter Try.func48, Try.ntmps48
  go_wp2_with (first
    | (go_at_call 52; refine HL.out.mono ?_; clear HL; rintro e w1 ⟨rfl, hb1⟩; have HB1 := Lib.hid hb1; have HM1 := HM _ hb1; clear hb1 HM)
    | (go_at_call 60; refine HM1.out.mono ?_; clear HM1; rintro e w2 ⟨rfl, hb2⟩; have HB2 := Lib.hid (HB1.out.trans (hb2.mono HB1.out.size)); clear hb2))
  go_ret
  exact ⟨rfl, HB2.out⟩
set_option maxHeartbeats 4000000 in
set_option maxRecDepth 100000 in
theorem rins_empty (w : World) (m : Nat) (s : Txt) (h : RefAt w m []) (hs : s.length ≤ 281474976710656) (hc : mayC s 0 = 0) :
    Calls Try.prog 48 #[.pointer (some ⟨m, 0, none⟩), .int .i64 0, .string ⟨s.toArray⟩] w (RefPost m [[s]] (.int .i64 0) w) := by
  have HL := Lib.hid (rlen_or w _ [] (.inr ⟨m, rfl, h⟩) (by simp) (by simp [total]))
  rw [show ((total [] : Nat) : Int) = 0 from rfl] at HL
  obtain ⟨a, c, vs, ho⟩ := h.opened
  have HO := Lib.hid ho
  have HM := fun w1 (hb1 : Below w.heap.size w w1) => Lib.hid (rmay_any w1 m [] s ⟨_, (HO.out.below hb1).head, a_ls (HO.out.below hb1)⟩ DGood.nil.toFits hs)
  rw [show total [] = 0 from rfl, hc] at HM
  clear h hs ho
  go_enter Try.func48, Try.ntmps48
  go_wp2_with (first
    | (go_at_call 52; refine HL.out.mono ?_; clear HL; rintro e w1 ⟨rfl, hb1⟩; have HB1 := Lib.hid hb1; have HM1 := HM _ hb1; clear hb1 HM)
    | (go_at_call 60; refine HM1.out.mono ?_; clear HM1; rintro e w2 ⟨rfl, hb2⟩
       have HB2 := Lib.hid (HB1.out.trans (hb2.mono HB1.out.size))
       have HP2 := Lib.hid (HO.out.below HB2.out)
       have hc2 : w2.cell? ⟨m, 0, none⟩ = some (.slice a 0 c) := HP2.out.cell
       have hb4 : Below w.heap.size w ((w2.alloc (.cells #[.string ⟨s.toArray⟩] 9)).alloc (.cells #[.slice (some ⟨w2.heap.size, 0, none⟩) 1 1] 22)) := (HB2.out.alloc HB2.out.size _).alloc (by have := HB2.out.size; simp; omega) _
       have hf4 := (HO.out.below hb4).frozen
       have hc4 : ((w2.alloc (.cells #[.string ⟨s.toArray⟩] 9)).alloc (.cells #[.slice (some ⟨w2.heap.size, 0, none⟩) 1 1] 22)).cell? ⟨m, 0, none⟩ = some (.slice a 0 c) := (HO.out.below hb4).cell
       have hT1 := tx_new w2 s
       have hT2 := hT1.keeps (T := fun _ => True) (KeepsT.alloc _ (.cells #[.slice (some ⟨w2.heap.size, 0, none⟩) 1 1] 22)) trivial
       have hO4 : ((w2.alloc (.cells #[.string ⟨s.toArray⟩] 9)).alloc (.cells #[.slice (some ⟨w2.heap.size, 0, none⟩) 1 1] 22)).ownsRow w.heap.size 22 1 (.slice (some ⟨w2.heap.size + 1, 0, none⟩) 1 1) 1 [.slice (some ⟨w2.heap.size, 0, none⟩) 1 1] := by
         refine ⟨rfl, .inr ⟨w2.heap.size + 1, 1, #[.slice (some ⟨w2.heap.size, 0, none⟩) 1 1], rfl, by have := HB2.out.size; omega, ?_, by omega, by unfold maxLen; omega, rfl, rfl⟩⟩
         have := heap_alloc_new (w2.alloc (.cells #[.string ⟨s.toArray⟩] 9)) (.cells #[.slice (some ⟨w2.heap.size, 0, none⟩) 1 1] 22)
         rw [World.size_alloc] at this
         exact this
       have HF := Lib.hid (ref_store HO.out.head hb4 hO4 ((TxAll.nil _).snoc hT2) rfl)
       clear hb2 hb4 hT1 hT2 hO4))
  go_ret
  exact ⟨rfl, HF.out.1, HF.out.2⟩
theorem rins_ok (w : World) (m : Nat) (css : List (List Txt)) (i : Nat) (s : Txt) (h : RefAt w m css) (hg : DGood css) (hs : s.length ≤ 281474976710656) (hc : mayC s (total css) = 0) (hi : i ≤ total css) :
    Calls Try.prog 48 #[.pointer (some ⟨m, 0, none⟩), .int .i64 i, .string ⟨s.toArray⟩] w (RefPost m (insC i s css) (.int .i64 0) w) := by
  by_cases hne : css = []
  · subst hne
    have : i = 0 := by simp [total] at hi; exact hi
    subst this
    simp only [insC, findC]
    exact rins_empty w m s h hs hc
  · obtain ⟨c, h1, h2, h3, h4⟩ := findC_spec hne hi
    unfold insC
    rw [h1]
    simp only
    obtain ⟨⟨k, p⟩, hkp⟩ : ∃ q, findC css i = q := ⟨_, rfl⟩
    rw [hkp] at h1 h2 ⊢
    simp only at h1 h2 ⊢
    have hcl := hg.chunk c (List.mem_of_getElem? h1)
    by_cases h32 : c.length = 32
    · rw [if_pos h32]
      by_cases hp : 16 ≤ p
      · rw [if_pos hp]
        exact rins_high w m css i s k p c h hg.toFits hs hc hi hkp h1 h2 h32 hp
      · rw [if_neg hp]
        exact rins_low w m css i s k p c h hg.toFits hs hc hi hkp h1 h2 h32 (by omega)
    · rw [if_neg h32]
      exact rins_room w m css i s k p c h hg.toFits hs hc hi hkp h1 h2 (by omega)
end Go.Proofs.Ytefoieloakfhfaa
