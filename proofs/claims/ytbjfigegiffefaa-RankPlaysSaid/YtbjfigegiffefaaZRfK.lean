/- Two ranks beside the answer's two: what a step and a copy leave. -/
import Derived.Test.YtbjfigegiffefaaZRfJ0
import Derived.Test.YtbjfigegiffefaaZRfJ5
set_option linter.unusedVariables false
set_option linter.unusedSimpArgs false
namespace Go.Proofs.Ytbjfigegiffefaa
open Go.RowKit Pantry

theorem plays_any (w : World) (r m : Nat) (Z : Nat → Prop) (l : List Mb) (o : Stp) (h : Hf w r m Z l) (hok : o.Ok) :
    Calls Try.prog 31 #[.pointer (some ⟨r, 0, none⟩), .pointer (some ⟨m, 0, none⟩), .agg o.cells.toArray] w (PlayPost r m Z w) := by
  by_cases h0 : o.act = 0
  · exact play0 w r m Z l o h hok h0
  by_cases h1 : o.act = 1
  · exact play1 w r m Z l o h hok h1
  by_cases h2 : o.act = 2
  · exact play2 w r m Z l o h hok h2
  by_cases h3 : o.act = 3
  · exact play3 w r m Z l o h hok h3
  by_cases h4 : o.act = 4
  · exact play4 w r m Z l o h hok h4
  by_cases h5 : o.act = 5
  · exact play5 w r m Z l o h hok h5
  exact play6 w r m Z l o h hok h0 h1 h2 h3 h4 h5
/-- The law's state: two ranks in the one array, the answer's in the other. -/
structure PS (w : World) (A B : Nat) (tA tB : TypeId) (wr : World) (r0 m0 r1 m1 : Nat) (Z0 Z1 : Nat → Prop) (l0 l1 : List Mb) : Prop where
  a : wr.heap[A]? = some (.cells #[.pointer (some ⟨r0, 0, none⟩), .pointer (some ⟨r1, 0, none⟩)] tA)
  b : wr.heap[B]? = some (.cells #[.pointer (some ⟨m0, 0, none⟩), .pointer (some ⟨m1, 0, none⟩)] tB)
  h0 : Hf wr r0 m0 Z0 l0
  h1 : Hf wr r1 m1 Z1 l1
  apart : ∀ k, Z0 k → ¬ Z1 k
  fr : ∀ k, (Z0 k ∨ Z1 k) → k ≠ A ∧ k ≠ B ∧ w.heap.size ≤ k
  ab : A ≠ B ∧ w.heap.size ≤ A ∧ w.heap.size ≤ B
  under : Below w.heap.size w wr
section
variable {w wr w' : World} {A B r0 m0 r1 m1 : Nat} {tA tB : TypeId} {Z0 Z1 : Nat → Prop} {l0 l1 : List Mb}
theorem PS.below (h : PS w A B tA tB wr r0 m0 r1 m1 Z0 Z1 l0 l1) (hb : Below wr.heap.size wr w') : PS w A B tA tB w' r0 m0 r1 m1 Z0 Z1 l0 l1 :=
  ⟨(hb.block _ (block_lt h.a)).trans h.a, (hb.block _ (block_lt h.b)).trans h.b, h.h0.below hb, h.h1.below hb, h.apart, h.fr, h.ab, h.under.trans (hb.mono h.under.size)⟩
theorem PS.step0 (h : PS w A B tA tB wr r0 m0 r1 m1 Z0 Z1 l0 l1) {l' : List Mb} (ht : HfTo r0 m0 Z0 l' wr w') : ∃ Z', PS w A B tA tB w' r0 m0 r1 m1 Z' Z1 l' l1 := by
  obtain ⟨⟨Z', q1, q2⟩, q3⟩ := ht
  refine ⟨Z', q3.heap h.a (fun hk => (h.fr A (.inl hk)).1 rfl), q3.heap h.b (fun hk => (h.fr B (.inl hk)).2.1 rfl), q1, h.h1.chg q3 fun k hk h0 => h.apart k h0 hk, fun k hk h1 => ?_, fun k hk => ?_, h.ab, h.under.trans (q3.below h.under.size fun k hk => (h.fr k (.inl hk)).2.2)⟩
  · rcases q2 k hk with hh | hh
    · exact h.apart k hh h1
    · have := h.h1.lt k h1; omega
  · rcases hk with hk | hk
    · rcases q2 k hk with hh | hh
      · exact h.fr k (.inl hh)
      · have h2 := block_lt h.a
        have h3 := block_lt h.b
        exact ⟨by omega, by omega, Nat.le_trans h.under.size hh⟩
    · exact h.fr k (.inr hk)
theorem PS.step1 (h : PS w A B tA tB wr r0 m0 r1 m1 Z0 Z1 l0 l1) {l' : List Mb} (ht : HfTo r1 m1 Z1 l' wr w') : ∃ Z', PS w A B tA tB w' r0 m0 r1 m1 Z0 Z' l0 l' := by
  obtain ⟨⟨Z', q1, q2⟩, q3⟩ := ht
  refine ⟨Z', q3.heap h.a (fun hk => (h.fr A (.inr hk)).1 rfl), q3.heap h.b (fun hk => (h.fr B (.inr hk)).2.1 rfl), h.h0.chg q3 fun k hk h1 => h.apart k hk h1, q1, fun k hk h1 => ?_, fun k hk => ?_, h.ab, h.under.trans (q3.below h.under.size fun k hk => (h.fr k (.inr hk)).2.2)⟩
  · rcases q2 k h1 with hh | hh
    · exact h.apart k hk hh
    · have := h.h0.lt k hk; omega
  · rcases hk with hk | hk
    · exact h.fr k (.inl hk)
    · rcases q2 k hk with hh | hh
      · exact h.fr k (.inr hh)
      · have h2 := block_lt h.a
        have h3 := block_lt h.b
        exact ⟨by omega, by omega, Nat.le_trans h.under.size hh⟩
end
/-- A copy of the one, put into the arrays. -/
theorem copy_core {wr w1 w3 : World} {A B i j r' m' : Nat} {S' : Nat → Prop} {v' : Value} {M l : List Mb} (hA : A < wr.heap.size) (hB : B < wr.heap.size) (hM : M.Perm l)
    (hr : Rk w1 r' S' l) (hb1 : Below wr.heap.size wr w1) (hS : ∀ k, S' k → wr.heap.size ≤ k)
    (hm : Rf w3 m' v' M) (hb3 : Below (w1.setCell ⟨A, i, none⟩ (.pointer (some ⟨r', 0, none⟩))).heap.size (w1.setCell ⟨A, i, none⟩ (.pointer (some ⟨r', 0, none⟩))) w3) (hm' : w1.heap.size ≤ m') (hv' : ∀ k, v'.ownBlock = some k → w1.heap.size ≤ k) :
    ∃ Z', Hf (w3.setCell ⟨B, j, none⟩ (.pointer (some ⟨m', 0, none⟩))) r' m' Z' l ∧ (∀ k, Z' k → wr.heap.size ≤ k) ∧ Chg (fun k => k = A ∨ k = B) wr (w3.setCell ⟨B, j, none⟩ (.pointer (some ⟨m', 0, none⟩))) := by
  have hs12 : (w1.setCell ⟨A, i, none⟩ (.pointer (some ⟨r', 0, none⟩))).heap.size = w1.heap.size := by simp
  have c1 : Chg (fun k => k = A) w1 (w1.setCell ⟨A, i, none⟩ (.pointer (some ⟨r', 0, none⟩))) := (Chg.refl (fun k => k = A) w1).setCell (p := ⟨A, i, none⟩) (fun _ => rfl) _
  have c3 : Chg (fun k => k = A) w1 w3 := c1.trans (Chg.of_below (S := fun _ => False) hb3) fun _ _ e => e.elim
  have c4 : Chg (fun k => k = B) w3 (w3.setCell ⟨B, j, none⟩ (.pointer (some ⟨m', 0, none⟩))) := (Chg.refl (fun k => k = B) w3).setCell (p := ⟨B, j, none⟩) (fun _ => rfl) _
  have k4 : Rk (w3.setCell ⟨B, j, none⟩ (.pointer (some ⟨m', 0, none⟩))) r' S' l := (hr.chg c3 fun k hk e => by have := hS k hk; omega).chg c4 fun k hk e => by have := hS k hk; omega
  have hs1 := hb1.size
  have f4 : Rf (w3.setCell ⟨B, j, none⟩ (.pointer (some ⟨m', 0, none⟩))) m' v' M := hm.chg c4 (by omega) fun k hk e => by have := hv' k hk; omega
  refine ⟨fun k => S' k ∨ k = m' ∨ v'.ownBlock = some k, ⟨⟨S', v', M, k4, f4, hM, ?_, fun k hk => hk⟩, fun k hk => hk.elim (k4.lt k) (f4.lt k)⟩, ?_, ?_⟩
  · rintro k hk (rfl | hv)
    · have := hr.lt _ hk; omega
    · have := hr.lt k hk; have := hv' k hv; omega
  · rintro k (hk | rfl | hk)
    · exact hS k hk
    · omega
    · have := hv' k hk; omega
  · exact ((Chg.of_below (S := fun k => k = A ∨ k = B) hb1).trans c3 fun k _ hk => .inl hk).trans c4 fun k _ hk => .inr hk
theorem PS.copy0 {w wr : World} {A B r0 m0 r1 m1 : Nat} {tA tB : TypeId} {Z0 Z1 : Nat → Prop} {l0 l1 : List Mb} (h : PS w A B tA tB wr r0 m0 r1 m1 Z0 Z1 l0 l1) {w1 w3 : World} {r' m' : Nat} {S' : Nat → Prop} {v' : Value} {M : List Mb} (hM : M.Perm l0)
    (hr : Rk w1 r' S' l0) (hb1 : Below wr.heap.size wr w1) (hS : ∀ k, S' k → wr.heap.size ≤ k)
    (hm : Rf w3 m' v' M) (hb3 : Below (w1.setCell ⟨A, 1, none⟩ (.pointer (some ⟨r', 0, none⟩))).heap.size (w1.setCell ⟨A, 1, none⟩ (.pointer (some ⟨r', 0, none⟩))) w3) (hm' : w1.heap.size ≤ m') (hv' : ∀ k, v'.ownBlock = some k → w1.heap.size ≤ k) :
    ∃ Z', PS w A B tA tB (w3.setCell ⟨B, 1, none⟩ (.pointer (some ⟨m', 0, none⟩))) r0 m0 r' m' Z0 Z' l0 l0 := by
  obtain ⟨Z', q1, q2, q3⟩ := copy_core (i := 1) (j := 1) (block_lt h.a) (block_lt h.b) hM hr hb1 hS hm hb3 hm' hv'
  have hA1 := (hb1.block A (block_lt h.a)).trans h.a
  have hB1 := (hb1.block B (block_lt h.b)).trans h.b
  have hA2 := heapSetHere (j := 1) hA1 (.pointer (some ⟨r', 0, none⟩))
  have hB2 := (heapSetOther (w := w1) (p := ⟨A, 1, none⟩) (v := .pointer (some ⟨r', 0, none⟩)) (fun e => h.ab.1 e.symm)).trans hB1
  have hA3 := (hb3.block A (block_lt hA2)).trans hA2
  have hB3 := (hb3.block B (block_lt hB2)).trans hB2
  refine ⟨Z', ⟨(heapSetOther (p := ⟨B, 1, none⟩) h.ab.1).trans hA3, heapSetHere hB3 _, h.h0.chg q3 (fun k hk e => by have := h.fr k (.inl hk); omega), q1, fun k hk h1 => by have := h.h0.lt k hk; have := q2 k h1; omega, fun k hk => ?_, h.ab, h.under.trans (q3.below h.under.size ?_)⟩⟩
  · rcases hk with hk | hk
    · exact h.fr k (.inl hk)
    · have h1 := q2 k hk; have h2 := block_lt h.a; have h3 := block_lt h.b; exact ⟨by omega, by omega, Nat.le_trans h.under.size h1⟩
  · rintro k (rfl | rfl)
    · exact h.ab.2.1
    · exact h.ab.2.2
theorem PS.copy1 {w wr : World} {A B r0 m0 r1 m1 : Nat} {tA tB : TypeId} {Z0 Z1 : Nat → Prop} {l0 l1 : List Mb} (h : PS w A B tA tB wr r0 m0 r1 m1 Z0 Z1 l0 l1) {w1 w3 : World} {r' m' : Nat} {S' : Nat → Prop} {v' : Value} {M : List Mb} (hM : M.Perm l1)
    (hr : Rk w1 r' S' l1) (hb1 : Below wr.heap.size wr w1) (hS : ∀ k, S' k → wr.heap.size ≤ k)
    (hm : Rf w3 m' v' M) (hb3 : Below (w1.setCell ⟨A, 0, none⟩ (.pointer (some ⟨r', 0, none⟩))).heap.size (w1.setCell ⟨A, 0, none⟩ (.pointer (some ⟨r', 0, none⟩))) w3) (hm' : w1.heap.size ≤ m') (hv' : ∀ k, v'.ownBlock = some k → w1.heap.size ≤ k) :
    ∃ Z', PS w A B tA tB (w3.setCell ⟨B, 0, none⟩ (.pointer (some ⟨m', 0, none⟩))) r' m' r1 m1 Z' Z1 l1 l1 := by
  obtain ⟨Z', q1, q2, q3⟩ := copy_core (i := 0) (j := 0) (block_lt h.a) (block_lt h.b) hM hr hb1 hS hm hb3 hm' hv'
  have hA1 := (hb1.block A (block_lt h.a)).trans h.a
  have hB1 := (hb1.block B (block_lt h.b)).trans h.b
  have hA2 := heapSetHere (j := 0) hA1 (.pointer (some ⟨r', 0, none⟩))
  have hB2 := (heapSetOther (w := w1) (p := ⟨A, 0, none⟩) (v := .pointer (some ⟨r', 0, none⟩)) (fun e => h.ab.1 e.symm)).trans hB1
  have hA3 := (hb3.block A (block_lt hA2)).trans hA2
  have hB3 := (hb3.block B (block_lt hB2)).trans hB2
  refine ⟨Z', ⟨(heapSetOther (p := ⟨B, 0, none⟩) h.ab.1).trans hA3, heapSetHere hB3 _, q1, h.h1.chg q3 (fun k hk e => by have := h.fr k (.inr hk); omega), fun k hk h1 => by have := h.h1.lt k h1; have := q2 k hk; omega, fun k hk => ?_, h.ab, h.under.trans (q3.below h.under.size ?_)⟩⟩
  · rcases hk with hk | hk
    · have h1 := q2 k hk; have h2 := block_lt h.a; have h3 := block_lt h.b; exact ⟨by omega, by omega, Nat.le_trans h.under.size h1⟩
    · exact h.fr k (.inr hk)
  · rintro k (rfl | rfl)
    · exact h.ab.2.1
    · exact h.ab.2.2
theorem PS.init {w w1 w2 w3 w4 : World} {r0 r1 : Nat} {S0 S1 : Nat → Prop} {tA tB : TypeId} (hr0 : Rk w1 r0 S0 []) (hb1 : Below w.heap.size w w1) (hS0 : ∀ k, S0 k → w.heap.size ≤ k) (hr1 : Rk w2 r1 S1 []) (hb2 : Below w1.heap.size w1 w2) (hS1 : ∀ k, S1 k → w1.heap.size ≤ k)
    (hm0 : Rf w3 (w2.alloc (.cells #[.pointer (some ⟨r0, 0, none⟩), .pointer (some ⟨r1, 0, none⟩)] tA)).heap.size (.slice none 0 0) []) (hb3 : Below (w2.alloc (.cells #[.pointer (some ⟨r0, 0, none⟩), .pointer (some ⟨r1, 0, none⟩)] tA)).heap.size (w2.alloc (.cells #[.pointer (some ⟨r0, 0, none⟩), .pointer (some ⟨r1, 0, none⟩)] tA)) w3)
    (hm1 : Rf w4 w3.heap.size (.slice none 0 0) []) (hb4 : Below w3.heap.size w3 w4) :
    ∃ Z0 Z1, PS w w2.heap.size w4.heap.size tA tB (w4.alloc (.cells #[.pointer (some ⟨w2.heap.size + 1, 0, none⟩), .pointer (some ⟨w3.heap.size, 0, none⟩)] tB)) r0 (w2.heap.size + 1) r1 w3.heap.size Z0 Z1 [] [] := by
  have hsA : (w2.alloc (.cells #[.pointer (some ⟨r0, 0, none⟩), .pointer (some ⟨r1, 0, none⟩)] tA)).heap.size = w2.heap.size + 1 := by simp
  rw [hsA] at hm0
  obtain ⟨wA, hwA⟩ : ∃ wA, w2.alloc (.cells #[.pointer (some ⟨r0, 0, none⟩), .pointer (some ⟨r1, 0, none⟩)] tA) = wA := ⟨_, rfl⟩
  have hbA : Below w2.heap.size w2 wA := by rw [← hwA]; exact (Below.refl _ w2).alloc (Nat.le_refl _) _
  have hxA : wA.heap[w2.heap.size]? = some (.cells #[.pointer (some ⟨r0, 0, none⟩), .pointer (some ⟨r1, 0, none⟩)] tA) := by rw [← hwA]; exact heap_alloc_new w2 _
  rw [hwA] at hb3 hsA
  obtain ⟨w5, hw5⟩ : ∃ w5, w4.alloc (.cells #[.pointer (some ⟨w2.heap.size + 1, 0, none⟩), .pointer (some ⟨w3.heap.size, 0, none⟩)] tB) = w5 := ⟨_, rfl⟩
  have hb5 : Below w4.heap.size w4 w5 := by rw [← hw5]; exact (Below.refl _ w4).alloc (Nat.le_refl _) _
  have hx5 : w5.heap[w4.heap.size]? = some (.cells #[.pointer (some ⟨w2.heap.size + 1, 0, none⟩), .pointer (some ⟨w3.heap.size, 0, none⟩)] tB) := by rw [← hw5]; exact heap_alloc_new w4 _
  have s3 := hb3.size
  have s4 := hb4.size
  have s45 := block_lt hx5
  have b35 : Below w3.heap.size w3 w5 := hb4.trans (hb5.mono s4)
  have bA5 : Below wA.heap.size wA w5 := hb3.trans (b35.mono s3)
  have b25 : Below w2.heap.size w2 w5 := hbA.trans (bA5.mono hbA.size)
  have b15 : Below w1.heap.size w1 w5 := hb2.trans (b25.mono hb2.size)
  have l3 := block_lt hm0.head
  have l4 := block_lt hm1.head
  have a1 := hb1.size
  have a2 := hb2.size
  have a15 := b15.size
  have a25 := b25.size
  rw [hw5]
  refine ⟨fun k => S0 k ∨ k = w2.heap.size + 1, fun k => S1 k ∨ k = w3.heap.size, ⟨(bA5.block _ (block_lt hxA)).trans hxA, hx5, ⟨⟨S0, _, [], hr0.below b15, hm0.below b35, List.Perm.refl _, fun k hk e => ?_, fun k hk => ?_⟩, fun k hk => ?_⟩, ⟨⟨S1, _, [], hr1.below b25, hm1.below hb5, List.Perm.refl _, fun k hk e => ?_, fun k hk => ?_⟩, fun k hk => ?_⟩, fun k hk h1 => ?_, fun k hk => ?_, ⟨by omega, ?_, ?_⟩, hb1.trans (b15.mono hb1.size)⟩⟩
  · have := hr0.lt k hk
    have := hb2.size
    rcases e with e | e
    · omega
    · cases e
  · rcases hk with hk | hk | hk
    · exact .inl hk
    · exact .inr hk
    · cases hk
  · rcases hk with hk | hk
    · exact Nat.lt_of_lt_of_le (hr0.lt k hk) b15.size
    · omega
  · have := hr1.lt k hk
    rcases e with e | e
    · omega
    · cases e
  · rcases hk with hk | hk | hk
    · exact .inl hk
    · exact .inr hk
    · cases hk
  · have := block_lt hm1.head
    rcases hk with hk | hk
    · exact Nat.lt_of_lt_of_le (hr1.lt k hk) b25.size
    · omega
  · have a2 := hb2.size
    rcases hk with hk | hk <;> rcases h1 with h1 | h1
    · have := hr0.lt k hk; have := hS1 k h1; omega
    · have := hr0.lt k hk; omega
    · have := hr1.lt k h1; omega
    · omega
  · have a1 := hb1.size
    have a2 := hb2.size
    rcases hk with (hk | hk) | (hk | hk)
    · have := hr0.lt k hk; exact ⟨by omega, by omega, hS0 k hk⟩
    · exact ⟨by omega, by omega, by omega⟩
    · have := hr1.lt k hk; exact ⟨by omega, by omega, Nat.le_trans a1 (hS1 k hk)⟩
    · exact ⟨by omega, by omega, by omega⟩
  · have := hb1.size; have := hb2.size; omega
  · have := hb1.size; have := hb2.size; omega
end Go.Proofs.Ytbjfigegiffefaa
