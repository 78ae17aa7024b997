/- The program's Check, and the document's. -/
import Derived.Test.YtdoddnnggamaiaaCheckSpec
import Derived.Test.YtdoddnnggamaiaaRefFind
import Derived.Test.YtdoddnnggamaiaaBox
namespace Go.Proofs.Ytdoddnnggamaiaa
open Go.RowKit Pantry

/-- Words that came in: each within reach. -/
def WordsIn (w : World) (a : Option Addr) (n : Nat) (l : List (List UInt8)) : Prop := l.length = n ∧ Rd w a (txts l) ∧ ∀ x ∈ l, x.length ≤ 140737488351232
theorem WordsIn.below {w w' : World} {a : Option Addr} {n : Nat} {l : List (List UInt8)} (h : WordsIn w a n l) (hb : Below w.heap.size w w') : WordsIn w' a n l := ⟨h.1, h.2.1.below hb, h.2.2⟩
theorem WordsIn.cell {w : World} {a : Option Addr} {n : Nat} {l : List (List UInt8)} (h : WordsIn w a n l) {k : Nat} (hk : k < n) : ∃ x y, l[k]? = some x ∧ a = some y ∧ w.cell? (y.add k) = some (.string ⟨x.toArray⟩) ∧ x.length ≤ 140737488351232 := by
  have hx := List.getElem?_eq_getElem (l := l) (i := k) (by rw [h.1]; exact hk)
  obtain ⟨y, hy, hc⟩ := txts_cell h.2.1 hx
  exact ⟨_, y, hx, hy, hc, h.2.2 _ (List.mem_of_getElem? hx)⟩
theorem ownsRow_drewN {w : World} {q : Nat} {B e size n : Nat} {v : Value} {xs : List Value} (h : w.ownsRow B e size v n xs) : (w.drewN q).ownsRow B e size v n xs := h
theorem below_drewN' {B : Nat} {a w : World} {q : Nat} (h : Below B a w) : Below B a (w.drewN q) := ⟨h.os, h.tape, h.output, h.size, h.block⟩
theorem mk_size (x : List UInt8) : (⟨x.toArray⟩ : ByteArray).size = x.length := by simp [ByteArray.size]

set_option maxHeartbeats 1000000 in
theorem tooLong_any (a : Option Addr) (n c : Nat) (l : List (List UInt8)) (w : World) (h : WordsIn w a n l) (hn : n ≤ 1024) :
    Calls Try.prog 36 #[.slice a n c] w (QRet w (.bool (Verbs.tooLong l))) := by
  have HW := Lib.hid h
  have HT := Lib.hid (fun k => Verbs.total_le h.2.2 k)
  have HM := Lib.hid (fun k => Verbs.longest_le h.2.2 k)
  clear h
  go_enter Try.func36, Try.ntmps36
  go_wp2
  go_loop [3, 4, 9] (fun s m i => ∃ k : Nat, k ≤ n ∧ i = .int .i64 k ∧ s = .int .i64 (Verbs.total (l.take k) : Nat) ∧ m = .int .i64 (Verbs.longest (l.take k) : Nat)) (fun _ _ i => n - (intOf i).toNat)
  case atStart => exact ⟨0, by omega, rfl, rfl, rfl⟩
  case round =>
    obtain ⟨k, hk, rfl, rfl, rfl⟩ := hrel
    have t1 := HT.out k
    have m1 := HM.out k
    by_cases hlt : k < n
    · obtain ⟨x, y, hx, rfl, hcx, hxl⟩ := HW.out.cell hlt
      have HS1 := Lib.hid (show Verbs.total (l.take (k + 1)) = Verbs.total (l.take k) + x.length by rw [Verbs.take_snoc hx, Verbs.total_snoc])
      have HS2 := Lib.hid (show Verbs.longest (l.take (k + 1)) = max (Verbs.longest (l.take k)) x.length by rw [Verbs.take_snoc hx, Verbs.longest_snoc])
      clear hx
      obtain ⟨T, hT⟩ : ∃ T, Verbs.total (l.take k) = T := ⟨_, rfl⟩
      obtain ⟨M, hM⟩ : ∃ M, Verbs.longest (l.take k) = M := ⟨_, rfl⟩
      rw [hT] at t1 HS1 ⊢
      rw [hM] at m1 HS2 ⊢
      clear hT hM
      have t2 : T ≤ 1024 * 140737488351232 := Nat.le_trans t1 (Nat.mul_le_mul_right _ (by omega))
      clear t1
      go_wp2
      go_round
      case rel => exact ⟨k + 1, by omega, by go_num, by rw [HS1.out]; go_num, by rw [HS2.out]; exact congrArg (Value.int .i64) (by omega)⟩
      case measure => simp [intOf]; omega
    · obtain rfl : k = n := by omega
      have hall : l.take k = l := List.take_of_length_le (by rw [HW.out.1]; exact Nat.le_refl _)
      rw [hall] at t1 m1 ⊢
      clear hall
      by_cases hM : 1048576 < Verbs.longest l
      · have HF := Lib.hid (show Verbs.tooLong l = true by rw [Verbs.tooLong, decide_eq_true hM, Bool.true_or])
        obtain ⟨M, hM'⟩ : ∃ M, Verbs.longest l = M := ⟨_, rfl⟩
        rw [hM'] at hM m1 ⊢
        clear hM'
        go_wp2
        go_ret
        exact QRet.same (by rw [HF.out]; rfl)
      · by_cases hT : 4194304 < Verbs.total l
        · have HF := Lib.hid (show Verbs.tooLong l = true by rw [Verbs.tooLong, decide_eq_true hT, Bool.or_true])
          obtain ⟨M, hM'⟩ : ∃ M, Verbs.longest l = M := ⟨_, rfl⟩
          obtain ⟨T, hT'⟩ : ∃ T, Verbs.total l = T := ⟨_, rfl⟩
          rw [hM'] at hM m1 ⊢
          rw [hT'] at hT t1 ⊢
          clear hM' hT'
          go_wp2
          go_ret
          exact QRet.same (by rw [HF.out]; exact ret_bool (by simp; omega))
        · have HF := Lib.hid (show Verbs.tooLong l = false by rw [Verbs.tooLong, decide_eq_false hM, decide_eq_false hT]; rfl)
          obtain ⟨M, hM'⟩ : ∃ M, Verbs.longest l = M := ⟨_, rfl⟩
          obtain ⟨T, hT'⟩ : ∃ T, Verbs.total l = T := ⟨_, rfl⟩
          rw [hM'] at hM m1 ⊢
          rw [hT'] at hT t1 ⊢
          clear hM' hT'
          go_wp2
          go_ret
          exact QRet.same (by rw [HF.out]; exact ret_bool (by simp; omega))

/-- What Check returns. -/
def CheckPost (l : List (List UInt8)) (w : World) (e : Ending) (w' : World) : Prop :=
  e = .returned (.tuple #[rowAgg (Verbs.check l).1, .int .i64 (Verbs.check l).2]) ∧ Below w.heap.size w w'

set_option maxHeartbeats 2000000 in
theorem check_any (a : Option Addr) (n c : Nat) (l : List (List UInt8)) (w : World) (h : WordsIn w a n l) (hn : n ≤ 140737488351232) :
    Calls Try.prog 24 #[.slice a n c] w (CheckPost l w) := by
  by_cases h0 : n = 0
  · subst h0
    obtain rfl : l = [] := List.eq_nil_of_length_eq_zero h.1
    go_enter Try.func24, Try.ntmps24
    go_wp2
    refine bodyPost_ret (v := .tuple #[rowAgg Verbs.empty, .int .i64 3]) (by simp [results, Try.results24, go_sem, rowAgg, rowCells, Verbs.empty]) rfl ⟨rfl, ?_⟩
    exact (Below.refl _ _).alloc (Nat.le_refl _) _
  · obtain ⟨x, y, hx, rfl, hcx, hxl⟩ := h.cell (k := 0) (by omega)
    obtain ⟨x', l', rfl⟩ : ∃ x' l', l = x' :: l' := by
      cases l with
      | nil => exact absurd h.1.symm h0
      | cons x' l' => exact ⟨x', l', rfl⟩
    simp at hx; subst hx
    by_cases h1 : 1024 < n
    · have HF := Lib.hid (show Verbs.check (x' :: l') = (Verbs.empty, 2) by
        rw [Verbs.check, if_pos (Or.inl (by rw [h.1]; exact h1))])
      clear h
      go_enter Try.func24, Try.ntmps24
      go_wp2
      refine bodyPost_ret (v := .tuple #[rowAgg Verbs.empty, .int .i64 2]) (by simp [results, Try.results24, go_sem, rowAgg, rowCells, Verbs.empty]) rfl ⟨by rw [HF.out], ?_⟩
      exact (Below.refl _ _).alloc (Nat.le_refl _) _
    · have HW := Lib.hid h
      have hcx0 := hcx
      go_enter Try.func24, Try.ntmps24
      go_wp2_with fail
      refine (tooLong_any _ n c _ _ (HW.out.below ((Below.refl _ _).alloc (Nat.le_refl _) _)) (by omega)).mono ?_
      rintro e w1 ⟨rfl, q, rfl⟩
      obtain ⟨w1, hw1⟩ : ∃ w1, (w.alloc (.cells #[.string ⟨#[]⟩, .int .i64 0, .int .i64 0, .int .i64 0, .int .i64 0, .int .i64 0] 29)).drewN q = w1 := ⟨_, rfl⟩
      have hb1 : Below w.heap.size w w1 := by rw [← hw1]; exact below_drewN' ((Below.refl _ _).alloc (Nat.le_refl _) _)
      have hz1 : w1.heap.size = w.heap.size + 1 := by rw [← hw1]; show (w.alloc _).heap.size = _; simp
      have hbx : w1.heap[w.heap.size]? = some (.cells #[.string ⟨#[]⟩, .int .i64 0, .int .i64 0, .int .i64 0, .int .i64 0, .int .i64 0] 29) := by rw [← hw1]; exact heap_alloc_new w _
      rw [hw1]
      have HZ := Lib.hid hz1
      clear hw1 hz1
      have HW1 := Lib.hid (HW.out.below hb1)
      obtain ⟨x2, y2, hx2, hy2, hc2, hl2⟩ := HW1.out.cell (k := 0) (by omega)
      simp at hx2 hy2; subst hx2; subst hy2
      cases htl : Verbs.tooLong (x' :: l') with
      | true =>
        have HF := Lib.hid (show Verbs.check (x' :: l') = (Verbs.empty, 2) by
          rw [Verbs.check, if_pos (Or.inr htl)])
        obtain ⟨⟨d0, d1, d2, d3, d4, d5⟩, hfz⟩ := box6 hbx
        have z0 := hfz 0
        have z1 := hfz 1
        have z2 := hfz 2
        have z3 := hfz 3
        have z4 := hfz 4
        have z5 := hfz 5
        clear htl hfz hbx
        go_wp2
        refine bodyPost_ret (v := .tuple #[rowAgg Verbs.empty, .int .i64 2]) (by simp [results, Try.results24, go_sem, d0, d1, d2, d3, d4, d5, rowAgg, rowCells, Verbs.empty]) rfl ⟨by rw [HF.out], ?_⟩
        exact (((((hb1.setCell (Nat.le_refl _) _).setCell (Nat.le_refl _) _).setCell (Nat.le_refl _) _).setCell (Nat.le_refl _) _).setCell (Nat.le_refl _) _).setCell (Nat.le_refl _) _
      | false =>
        have HTL := Lib.hid htl
        have hc3 : w1.cell? y = some (.string ⟨x'.toArray⟩) := by simpa [Addr.add] using hc2
        clear htl hc2 hcx hcx0
        go_wp2_with fail
        refine (find_any _ _ (by rw [mk_size]; exact hl2)).mono ?_
        rintro e w2 ⟨rfl, hb2⟩
        rw [show (⟨x'.toArray⟩ : ByteArray).data.toList = x' from rfl]
        have hz2 := hb2.size
        have hz3 : w.heap.size < w2.heap.size := by have := HZ.out; omega
        have hbw2 : Below w.heap.size w w2 := hb1.trans (hb2.mono hb1.size)
        have hbx2 := (hb2.block w.heap.size (by rw [HZ.out]; omega)).trans hbx
        have HX2 := Lib.hid hbx2
        clear hbx hbx2
        have hb3 : ∀ o, Below w.heap.size w (w2.alloc o) := fun o => hbw2.alloc (by omega) o
        obtain ⟨⟨d0, d1, d2, d3, d4, d5⟩, hfz⟩ := box6 HX2.out
        have z0 := hfz 0
        have z1 := hfz 1
        have z2 := hfz 2
        have z3 := hfz 3
        have z4 := hfz 4
        have z5 := hfz 5
        clear hfz
        cases hq : Verbs.get Verbs.all (upL x') with
        | none =>
          have HF := Lib.hid (show Verbs.check (x' :: l') = (Verbs.empty, 180) by
            rw [Verbs.check, if_neg (by rw [HTL.out, HW.out.1]; simp; omega), hq])
          simp only [Option.getD_none, Option.isSome_none]
          rw [rowAgg, rowCells, Verbs.empty]
          clear hq
          go_wp2
          refine bodyPost_box w.heap.size _ _ _ _ _ _ _ Try.results24 rfl rfl rfl ((Below.heap_alloc _ _ _ (by rw [size_box]; omega)).trans (box_set HX2.out _ _ _ _ _ _)) ⟨by rw [HF.out]; rfl, ?_⟩
          exact (below_box hbw2 (Nat.le_refl _) _ _ _ _ _ _).alloc (by rw [size_box]; omega) _
        | some r =>
          have hk := Verbs.keys_ok r (Verbs.get_mem hq).1
          obtain ⟨ha0, ha1, ha2, -⟩ := hk
          have HC := Lib.hid (show Verbs.check (x' :: l') = if 0 < r.arity ∧ (n : Int) ≠ r.arity ∨ (n : Int) < - r.arity then (Verbs.empty, 181) else (r, 0) by
            rw [Verbs.check, if_neg (by rw [HTL.out, HW.out.1]; simp; omega), hq, HW.out.1])
          simp only [Option.getD_some, Option.isSome_some]
          rw [rowAgg, rowCells]
          clear hq
          by_cases hpos : 0 < r.arity
          · by_cases hne : (n : Int) = r.arity
            · have ht : ((n : Int) != r.arity) = false := by rw [bne_eq_false_iff_eq]; exact hne
              have HF := Lib.hid (show Verbs.check (x' :: l') = (r, 0) by rw [HC.out, if_neg (by omega)])
              have hle : ¬ (n : Int) < - r.arity := by omega
              clear hne
              go_wp2
              refine bodyPost_box w.heap.size _ _ _ _ _ _ _ Try.results24 rfl rfl rfl ((Below.heap_alloc _ _ _ (by rw [size_box]; omega)).trans (box_set HX2.out _ _ _ _ _ _)) ⟨by rw [HF.out]; rfl, ?_⟩
              exact (below_box hbw2 (Nat.le_refl _) _ _ _ _ _ _).alloc (by rw [size_box]; omega) _
            · have ht : ((n : Int) != r.arity) = true := by rw [bne_iff_ne]; exact hne
              have HF := Lib.hid (show Verbs.check (x' :: l') = (Verbs.empty, 181) by rw [HC.out, if_pos (Or.inl ⟨hpos, hne⟩)])
              clear hne
              go_wp2
              refine bodyPost_box w.heap.size _ _ _ _ _ _ _ Try.results24 rfl rfl rfl ((Below.heap_alloc _ _ _ (by rw [size_box]; omega)).trans (box_set HX2.out _ _ _ _ _ _)) ⟨by rw [HF.out]; rfl, ?_⟩
              exact (below_box hbw2 (Nat.le_refl _) _ _ _ _ _ _).alloc (by rw [size_box]; omega) _
          · by_cases hlt : (n : Int) < - r.arity
            · have HF := Lib.hid (show Verbs.check (x' :: l') = (Verbs.empty, 181) by rw [HC.out, if_pos (Or.inr hlt)])
              go_wp2
              refine bodyPost_box w.heap.size _ _ _ _ _ _ _ Try.results24 rfl rfl rfl ((Below.heap_alloc _ _ _ (by rw [size_box]; omega)).trans (box_set HX2.out _ _ _ _ _ _)) ⟨by rw [HF.out]; rfl, ?_⟩
              exact (below_box hbw2 (Nat.le_refl _) _ _ _ _ _ _).alloc (by rw [size_box]; omega) _
            · have HF := Lib.hid (show Verbs.check (x' :: l') = (r, 0) by rw [HC.out, if_neg (by omega)])
              go_wp2
              refine bodyPost_box w.heap.size _ _ _ _ _ _ _ Try.results24 rfl rfl rfl ((Below.heap_alloc _ _ _ (by rw [size_box]; omega)).trans (box_set HX2.out _ _ _ _ _ _)) ⟨by rw [HF.out]; rfl, ?_⟩
              exact (below_box hbw2 (Nat.le_refl _) _ _ _ _ _ _).alloc (by rw [size_box]; omega) _
end Go.Proofs.Ytdoddnnggamaiaa
