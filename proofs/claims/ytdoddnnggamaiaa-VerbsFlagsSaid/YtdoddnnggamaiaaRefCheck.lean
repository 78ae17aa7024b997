/- The document's Check. -/
import Derived.Test.YtdoddnnggamaiaaCheck
namespace Pantry.Verbs
theorem total_mono (l : List (List UInt8)) (k : Nat) : total (l.take k) ≤ total l := by
  have h : ∀ (m : List Nat) (a b : Nat), a ≤ b → a ≤ m.foldl (· + ·) b := by
    intro m
    induction m with
    | nil => intro a b h; exact h
    | cons x m ih => intro a b h; exact ih a (b + x) (by omega)
  have e : total l = ((l.drop k).map (·.length)).foldl (· + ·) (total (l.take k)) := by
    rw [total, total, ← List.foldl_append, ← List.map_append, List.take_append_drop]
  rw [e]
  exact h _ _ _ (Nat.le_refl _)
theorem longest_mono (l : List (List UInt8)) (k : Nat) : longest (l.take k) ≤ longest l := by
  have h : ∀ (m : List Nat) (a b : Nat), a ≤ b → a ≤ m.foldl max b := by
    intro m
    induction m with
    | nil => intro a b h; exact h
    | cons x m ih => intro a b h; exact ih a (max b x) (by omega)
  have e : longest l = ((l.drop k).map (·.length)).foldl max (longest (l.take k)) := by
    rw [longest, longest, ← List.foldl_append, ← List.map_append, List.take_append_drop]
  rw [e]
  exact h _ _ _ (Nat.le_refl _)
/-- The first k words are not too long. -/
def Fit (l : List (List UInt8)) (k : Nat) : Prop := longest (l.take k) ≤ 1048576 ∧ total (l.take k) ≤ 4194304
theorem Fit.zero (l : List (List UInt8)) : Fit l 0 := by simp [Fit, longest, total]
theorem Fit.step {l : List (List UInt8)} {k : Nat} {x : List UInt8} (h : Fit l k) (hx : l[k]? = some x) (h1 : x.length ≤ 1048576) (h2 : total (l.take k) + x.length ≤ 4194304) : Fit l (k + 1) := by
  unfold Fit at *
  rw [take_snoc hx, longest_snoc, total_snoc]
  omega
theorem Fit.whole {l : List (List UInt8)} (h : Fit l l.length) : tooLong l = false := by
  unfold Fit at h
  rw [List.take_length] at h
  rw [tooLong, decide_eq_false (by omega), decide_eq_false (by omega)]
  rfl
theorem unfit_word {l : List (List UInt8)} {k : Nat} {x : List UInt8} (hx : l[k]? = some x) (h1 : 1048576 < x.length) : tooLong l = true := by
  have := longest_mono l (k + 1)
  rw [take_snoc hx, longest_snoc] at this
  rw [tooLong, decide_eq_true (by omega)]
  rfl
theorem unfit_all {l : List (List UInt8)} {k : Nat} {x : List UInt8} (hx : l[k]? = some x) (h1 : 4194304 < total (l.take k) + x.length) : tooLong l = true := by
  have := total_mono l (k + 1)
  rw [take_snoc hx, total_snoc] at this
  rw [tooLong, decide_eq_true (show 4194304 < total l by omega), Bool.or_true]
end Pantry.Verbs
namespace Go.Proofs.Ytdoddnnggamaiaa
open Go.RowKit Pantry

set_option maxHeartbeats 4000000 in
theorem refCheck_any (a : Option Addr) (n c : Nat) (l : List (List UInt8)) (w : World) (h : WordsIn w a n l) (hn : n ≤ 140737488351232) :
    Calls Try.prog 25 #[.slice a n c] w (CheckPost l w) := by
  by_cases h0 : n = 0
  · subst h0
    obtain rfl : l = [] := List.eq_nil_of_length_eq_zero h.1
    go_enter Try.func25, Try.ntmps25
    go_wp2
    refine bodyPost_box w.heap.size _ _ _ _ _ _ _ Try.results25 rfl rfl rfl (heap_alloc_new w _) ⟨rfl, ?_⟩
    exact (Below.refl _ _).alloc (Nat.le_refl _) _
  · obtain ⟨x, y, hx, rfl, hcx, hxl⟩ := h.cell (k := 0) (by omega)
    obtain ⟨x', l', rfl⟩ : ∃ x' l', l = x' :: l' := by
      cases l with
      | nil => exact absurd h.1.symm h0
      | cons x' l' => exact ⟨x', l', rfl⟩
    simp at hx; subst hx
    by_cases h1 : 1024 < n
    · have HF := Lib.hid (show Verbs.check (x' :: l') = (Verbs.empty, 2) by
        rw [Verbs.check, if_pos (Or.inl (by rw [h.1]; exact h1))])
      clear h
      go_enter Try.func25, Try.ntmps25
      go_wp2
      refine bodyPost_box w.heap.size _ _ _ _ _ _ _ Try.results25 rfl rfl rfl (heap_alloc_new w _) ⟨by rw [HF.out]; rfl, ?_⟩
      exact (Below.refl _ _).alloc (Nat.le_refl _) _
    · have HW := Lib.hid h
      obtain ⟨l, hl⟩ : ∃ l, x' :: l' = l := ⟨_, rfl⟩
      have hlen : l.length = n := by rw [← hl]; exact h.1
      have HLN := Lib.hid hlen
      have HLL := Lib.hid hl
      clear hcx h hlen hl
      have hd : decide (1024 < (n : Int)) = false := decide_eq_false (by omega)
      have hc0 : ((n : Int) == 0) = false := by rw [beq_eq_false_iff_ne]; omega
      go_enter Try.func25, Try.ntmps25
      go_wp2
      obtain ⟨w1, hw1⟩ : ∃ w1, w.alloc (.cells #[.string ⟨#[]⟩, .int .i64 0, .int .i64 0, .int .i64 0, .int .i64 0, .int .i64 0] 29) = w1 := ⟨_, rfl⟩
      have hb1 : Below w.heap.size w w1 := by rw [← hw1]; exact (Below.refl _ _).alloc (Nat.le_refl _) _
      have hz1 : w1.heap.size = w.heap.size + 1 := by rw [← hw1]; simp
      have hbx : w1.heap[w.heap.size]? = some (.cells #[.string ⟨#[]⟩, .int .i64 0, .int .i64 0, .int .i64 0, .int .i64 0, .int .i64 0] 29) := by rw [← hw1]; exact heap_alloc_new w _
      rw [hw1]
      have HZ := Lib.hid hz1
      have HX1 := Lib.hid hbx
      have HW1 := Lib.hid (HW.out.below hb1)
      clear hw1 hz1 hbx
      go_loop [4, 5] (fun s i => ∃ k : Nat, k ≤ n ∧ i = .int .i64 k ∧ s = .int .i64 (Verbs.total (l.take k) : Nat) ∧ Verbs.Fit l k) (fun _ i => n - (intOf i).toNat)
      case atStart => exact ⟨0, by omega, rfl, rfl, Verbs.Fit.zero _⟩
      case round =>
        obtain ⟨k, hk, rfl, rfl, hfit⟩ := hrel
        have t1 := hfit.2
        by_cases hlt : k < n
        · obtain ⟨x, y2, hx, hy2, hcx, hxl⟩ := HW1.out.cell hlt
          cases hy2
          rw [HLL.out] at hx
          have HS1 := Lib.hid (show Verbs.total (l.take (k + 1)) = Verbs.total (l.take k) + x.length by rw [Verbs.take_snoc hx, Verbs.total_snoc])
          by_cases hbig : 1048576 < x.length ∨ 4194304 < Verbs.total (l.take k) + x.length
          · have htl : Verbs.tooLong l = true := by
              rcases hbig with hb | hb
              · exact Verbs.unfit_word hx hb
              · exact Verbs.unfit_all hx hb
            have HF := Lib.hid (show Verbs.check (x' :: l') = (Verbs.empty, 2) by
              rw [Verbs.check, if_pos (Or.inr (by rw [HLL.out]; exact htl))])
            obtain ⟨T, hT⟩ : ∃ T, Verbs.total (l.take k) = T := ⟨_, rfl⟩
            rw [hT] at t1 HS1 hbig ⊢
            obtain ⟨⟨d0, d1, d2, d3, d4, d5⟩, hfz⟩ := box6 HX1.out
            have z0 := hfz 0
            have z1 := hfz 1
            have z2 := hfz 2
            have z3 := hfz 3
            have z4 := hfz 4
            have z5 := hfz 5
            clear hfz hT hx htl
            by_cases hb : 1048576 < x.length
            all_goals
              have hbig2 : 1048576 < x.length ∨ 4194304 < T + x.length := hbig
              clear hbig
              go_wp2
              refine bodyPost_box w.heap.size _ _ _ _ _ _ _ Try.results25 rfl rfl rfl (box_set HX1.out _ _ _ _ _ _) ⟨by rw [HF.out]; rfl, ?_⟩
              exact below_box hb1 (Nat.le_refl _) _ _ _ _ _ _
          · have hs1 : x.length ≤ 1048576 := by omega
            have hs2 : Verbs.total (l.take k) + x.length ≤ 4194304 := by omega
            have hfit2 := hfit.step hx hs1 hs2
            obtain ⟨T, hT⟩ : ∃ T, Verbs.total (l.take k) = T := ⟨_, rfl⟩
            rw [hT] at t1 HS1 hs2 ⊢
            clear hT hx hbig
            go_wp2
            go_round
            case rel => exact ⟨k + 1, by omega, by go_num, by rw [HS1.out]; go_num, hfit2⟩
            case measure => simp [intOf]; omega
        · obtain rfl : k = n := by omega
          have HTL := Lib.hid (Verbs.Fit.whole (by rw [HLN.out]; exact hfit) : Verbs.tooLong l = false)
          obtain ⟨x2, y2, hx2, hy2, hc2, hl2⟩ := HW1.out.cell (k := 0) (by omega)
          cases hy2
          simp at hx2; subst hx2
          have hc3 : w1.cell? y = some (.string ⟨x'.toArray⟩) := by simpa [Addr.add] using hc2
          clear hc2 hfit t1
          go_wp2_with fail
          refine (refFind_any _ _ (by rw [mk_size]; exact hl2)).mono ?_
          rintro e w2 ⟨rfl, hb2⟩
          rw [show (⟨x'.toArray⟩ : ByteArray).data.toList = x' from rfl]
          have hz2 := hb2.size
          have hz3 : w.heap.size < w2.heap.size := by have := HZ.out; omega
          have hbw2 : Below w.heap.size w w2 := hb1.trans (hb2.mono hb1.size)
          have HX2 := Lib.hid ((hb2.block w.heap.size (by rw [HZ.out]; omega)).trans HX1.out)
          obtain ⟨⟨d0, d1, d2, d3, d4, d5⟩, hfz⟩ := box6 HX2.out
          have z0 := hfz 0
          have z1 := hfz 1
          have z2 := hfz 2
          have z3 := hfz 3
          have z4 := hfz 4
          have z5 := hfz 5
          clear hfz
          cases hq : Verbs.get Verbs.all (upL x') with
          | none =>
            have HF := Lib.hid (show Verbs.check (x' :: l') = (Verbs.empty, 180) by
              rw [Verbs.check, if_neg (by rw [HLL.out, HTL.out, HLN.out]; simp; omega), hq])
            simp only [Option.getD_none, Option.isSome_none]
            rw [rowAgg, rowCells, Verbs.empty]
            clear hq
            go_wp2
            refine bodyPost_box w.heap.size _ _ _ _ _ _ _ Try.results25 rfl rfl rfl ((Below.heap_alloc _ _ _ (by rw [size_box]; omega)).trans (box_set HX2.out _ _ _ _ _ _)) ⟨by rw [HF.out]; rfl, ?_⟩
            exact (below_box hbw2 (Nat.le_refl _) _ _ _ _ _ _).alloc (by rw [size_box]; omega) _
          | some r =>
            have hk := Verbs.keys_ok r (Verbs.get_mem hq).1
            obtain ⟨ha0, ha1, ha2, -⟩ := hk
            have HC := Lib.hid (show Verbs.check (x' :: l') = if 0 < r.arity ∧ (k : Int) ≠ r.arity ∨ (k : Int) < - r.arity then (Verbs.empty, 181) else (r, 0) by
              rw [Verbs.check, if_neg (by rw [HLL.out, HTL.out, HLN.out]; simp; omega), hq, HLL.out, HLN.out])
            simp only [Option.getD_some, Option.isSome_some]
            rw [rowAgg, rowCells]
            clear hq
            by_cases hpos : 0 < r.arity
            · by_cases hne : (k : Int) = r.arity
              · have ht : ((k : Int) != r.arity) = false := by rw [bne_eq_false_iff_eq]; exact hne
                have HF := Lib.hid (show Verbs.check (x' :: l') = (r, 0) by rw [HC.out, if_neg (by omega)])
                have hle : ¬ (k : Int) < - r.arity := by omega
                have hng : ¬ r.arity < 0 := by omega
                clear hne
                go_wp2
                refine bodyPost_box w.heap.size _ _ _ _ _ _ _ Try.results25 rfl rfl rfl ((Below.heap_alloc _ _ _ (by rw [size_box]; omega)).trans (box_set HX2.out _ _ _ _ _ _)) ⟨by rw [HF.out]; rfl, ?_⟩
                exact (below_box hbw2 (Nat.le_refl _) _ _ _ _ _ _).alloc (by rw [size_box]; omega) _
              · have ht : ((k : Int) != r.arity) = true := by rw [bne_iff_ne]; exact hne
                have HF := Lib.hid (show Verbs.check (x' :: l') = (Verbs.empty, 181) by rw [HC.out, if_pos (Or.inl ⟨hpos, hne⟩)])
                clear hne
                go_wp2
                refine bodyPost_box w.heap.size _ _ _ _ _ _ _ Try.results25 rfl rfl rfl ((Below.heap_alloc _ _ _ (by rw [size_box]; omega)).trans (box_set HX2.out _ _ _ _ _ _)) ⟨by rw [HF.out]; rfl, ?_⟩
                exact (below_box hbw2 (Nat.le_refl _) _ _ _ _ _ _).alloc (by rw [size_box]; omega) _
            · have hng : r.arity < 0 := by omega
              by_cases hlt2 : (k : Int) < - r.arity
              · have HF := Lib.hid (show Verbs.check (x' :: l') = (Verbs.empty, 181) by rw [HC.out, if_pos (Or.inr hlt2)])
                go_wp2
                refine bodyPost_box w.heap.size _ _ _ _ _ _ _ Try.results25 rfl rfl rfl ((Below.heap_alloc _ _ _ (by rw [size_box]; omega)).trans (box_set HX2.out _ _ _ _ _ _)) ⟨by rw [HF.out]; rfl, ?_⟩
                exact (below_box hbw2 (Nat.le_refl _) _ _ _ _ _ _).alloc (by rw [size_box]; omega) _
              · have HF := Lib.hid (show Verbs.check (x' :: l') = (r, 0) by rw [HC.out, if_neg (by omega)])
                go_wp2
                refine bodyPost_box w.heap.size _ _ _ _ _ _ _ Try.results25 rfl rfl rfl ((Below.heap_alloc _ _ _ (by rw [size_box]; omega)).trans (box_set HX2.out _ _ _ _ _ _)) ⟨by rw [HF.out]; rfl, ?_⟩
                exact (below_box hbw2 (Nat.le_refl _) _ _ _ _ _ _).alloc (by rw [size_box]; omega) _
end Go.Proofs.Ytdoddnnggamaiaa
