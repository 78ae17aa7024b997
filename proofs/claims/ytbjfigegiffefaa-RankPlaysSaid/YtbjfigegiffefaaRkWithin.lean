/- Within of ranks. -/
import Derived.Test.YtbjfigegiffefaaRkCount
import Derived.Lib.MinMax
import Derived.Laws.Externs
set_option linter.unusedVariables false
set_option linter.unusedSimpArgs false
namespace Pantry
open Go Go.RowKit
def ninfB : Nat := 18442240474082181120
end Pantry
namespace Go.Proofs.Ytbjfigegiffefaa
open Go.RowKit Pantry

theorem frombits (n : Int) (w : World) : (callFunc 23 #[.int .u64 n]).run Try.prog w = .ok (.value (.float .f64 n.toNat)) w :=
  run_callFunc_extern (e := Extern.MathFloatBits.float64frombits) Try.func23 (by kernel_rfl) (by kernel_rfl) (by kernel_rfl) (by kernel_rfl) _ w
theorem tobits (b : Nat) (w : World) : (callFunc 36 #[.float .f64 b]).run Try.prog w = .ok (.value (.int .u64 b)) w :=
  run_callFunc_extern (e := Extern.MathFloatBits.float64bits) Try.func36 (by kernel_rfl) (by kernel_rfl) (by kernel_rfl) (by kernel_rfl) _ w
theorem ninf_any (w : World) : Calls Try.prog 26 #[.int .i64 (-1)] w fun e w' => e = .returned (.float .f64 ninfB) ∧ w = w' := by
  have h1 := frombits
  go_enter Try.func26, Try.ntmps26
  go_wp2
  go_ret
  exact ⟨rfl, rfl⟩
theorem two {w : World} {g : Nat} {c0 c1 : Value} {t : TypeId} (h : w.heap[g]? = some (.cells #[c0, c1] t)) : (w.cell? ⟨g, 0, none⟩ = some c0 ∧ w.cell? ⟨g, 1, none⟩ = some c1) ∧ ∀ j, w.frozen? ⟨g, j, none⟩ = false := by
  refine ⟨⟨?_, ?_⟩, fun j => frozen_of_row w g j _ _ h⟩ <;> rw [cell_of_row w g _ _ _ _ h] <;> rfl
theorem tests1 (p q : Nat) (a : Nat) (oa : Bool) (w : World) (hp : w.heap[p]? = some (.cells #[.float .f64 ninfB, .bool false] 58)) (hq : w.heap[q]? = some (.cells #[.float .f64 a, .bool oa] 58)) :
    Tests 43 #[.pointer (some ⟨p, 0, none⟩), .pointer (some ⟨q, 0, none⟩)] (fun x => withinF x ninfB false a (!oa)) w := by
  intro W x hb
  obtain ⟨⟨p0, p1⟩, -⟩ := two ((hb.block _ (block_lt hp)).trans hp)
  obtain ⟨⟨q0, q1⟩, -⟩ := two ((hb.block _ (block_lt hq)).trans hq)
  clear hb hp hq
  obtain ⟨N, hN⟩ : ∃ N, ninfB = N := ⟨_, rfl⟩
  rw [hN] at p0 ⊢
  have HC : ∀ o, (!oa) = o → Hid (Calls Try.prog 25 #[.float .f64 x, .agg #[.float .f64 N, .bool false], .agg #[.float .f64 a, .bool o]] W (QPost W (.bool (withinF x N false a o)))) := fun o ho => Lib.hid (within_any W x N false a o)
  clear hN
  cases oa
  · have HC1 := HC true rfl
    clear HC
    go_enter Try.func43, Try.ntmps43
    go_wp2_with (go_at_call 25; refine HC1.out.mono ?_; rintro e w2 ⟨rfl, hb2⟩; have HB2 := Lib.hid hb2; clear hb2)
    go_ret
    exact ⟨rfl, HB2.out⟩
  · have HC1 := HC false rfl
    clear HC
    go_enter Try.func43, Try.ntmps43
    go_wp2_with (go_at_call 25; refine HC1.out.mono ?_; rintro e w2 ⟨rfl, hb2⟩; have HB2 := Lib.hid hb2; clear hb2)
    go_ret
    exact ⟨rfl, HB2.out⟩
theorem tests2 (p q : Nat) (a : Nat) (oa : Bool) (w : World) (hp : w.heap[p]? = some (.cells #[.float .f64 ninfB, .bool false] 58)) (hq : w.heap[q]? = some (.cells #[.float .f64 a, .bool oa] 58)) :
    Tests 44 #[.pointer (some ⟨p, 0, none⟩), .pointer (some ⟨q, 0, none⟩)] (fun x => withinF x ninfB false a oa) w := by
  intro W x hb
  obtain ⟨⟨p0, p1⟩, -⟩ := two ((hb.block _ (block_lt hp)).trans hp)
  obtain ⟨⟨q0, q1⟩, -⟩ := two ((hb.block _ (block_lt hq)).trans hq)
  clear hb hp hq
  obtain ⟨N, hN⟩ : ∃ N, ninfB = N := ⟨_, rfl⟩
  rw [hN] at p0 ⊢
  have HC1 := Lib.hid (within_any W x N false a oa)
  clear hN
  go_enter Try.func44, Try.ntmps44
  go_wp2_with (go_at_call 25; refine HC1.out.mono ?_; rintro e w2 ⟨rfl, hb2⟩; have HB2 := Lib.hid hb2; clear hb2)
  go_ret
  exact ⟨rfl, HB2.out⟩
def CountPost (l : List Mb) (P : Nat → Bool) (w : World) (e : Ending) (w' : World) : Prop := ∃ i : Nat, e = .returned (.int .i64 i) ∧ Upto l P i ∧ Below w.heap.size w w'
theorem count_any (w : World) (r seed d : Nat) (D : Dc) (v : Value) (l : List Mb) (F : Nat) (caps : Array Value) (P : Nat → Bool) (h : RkAt w r seed d D v l) (hP : Falls l P)
    (hc : ∀ W b, Below w.heap.size w W → W.heap[b]? = some (.cells #[.func (.func F) #[] caps] 82) → CTests b P W) :
    Calls Try.prog 42 #[.pointer (some ⟨r, 0, none⟩), .func (.func F) #[] caps] w (CountPost l P w) := by
  obtain ⟨⟨h0, h1, h2, h3⟩, -⟩ := four h.head
  obtain ⟨a, c, rfl, hrd⟩ := h.slice
  have hf : l.length ≤ 268435456 := by have := h.good.few; omega
  have hrl := block_lt h.head
  obtain ⟨n, hn⟩ : ∃ n, l.length = n := ⟨_, rfl⟩
  rw [hn] at h2 hf
  obtain ⟨w1, hw1⟩ : ∃ w1, w.alloc (.cells #[.func (.func F) #[] caps] 82) = w1 := ⟨_, rfl⟩
  have hB1 : Below w.heap.size w w1 := by rw [← hw1]; exact (Below.refl _ w).alloc (Nat.le_refl _) _
  have hb1 : w1.heap[w.heap.size]? = some (.cells #[.func (.func F) #[] caps] 82) := by rw [← hw1]; exact heap_alloc_new w _
  have h2' : w1.cell? ⟨r, 2, none⟩ = some (.slice a n c) := (World.cell?_of_block (w := w) (w' := w1) (a := ⟨r, 2, none⟩) (hB1.block r hrl)).trans h2
  have HB1 := Lib.hid hB1
  have HC := Lib.hid (bsearchN_any w1 a n c w.heap.size l P (hrd.below hB1) hn hf hP (hc w1 _ hB1 hb1))
  clear h h0 h1 h2 h3 hrd hrl hn hB1 hb1 hc
  go_enter Try.func42, Try.ntmps42
  go_wp2_with (go_at_call 64; refine HC.out.mono ?_; rintro e w2 ⟨i, ok, rfl, hu, hb2⟩
               have HB2 := Lib.hid (HB1.out.trans (hb2.mono HB1.out.size))
               have HU := Lib.hid hu
               clear hb2 hu HC)
  go_ret
  exact ⟨i, rfl, HU.out, HB2.out⟩
end Go.Proofs.Ytbjfigegiffefaa
