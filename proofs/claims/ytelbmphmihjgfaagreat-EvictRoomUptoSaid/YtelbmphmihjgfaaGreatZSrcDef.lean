/- draw.Source: numbers drawn from a list. -/
import Derived.Test.YtelbmphmihjgfaaGreatZDHash
import Derived.Test.YtelbmphmihjgfaaGreatZMem
import Derived.Test.YtelbmphmihjgfaaGreatZEDTab
set_option linter.unusedVariables false
set_option linter.unusedSimpArgs false
namespace Go.Proofs.YtelbmphmihjgfaaGreat.DEnt
open Go.RowKit Pantry Go.Maps

/-- A source from which these numbers are left. -/
structure SrcAt (w : World) (r : Nat) (D : List Nat) : Prop where
  ex : ∃ p cap, w.heap[r]? = some (.cells #[.slice p D.length cap] 95) ∧ D.length ≤ cap ∧ cap ≤ 9223372036854775807 ∧
    (D ≠ [] → ∃ b o c, p = some ⟨b, o, none⟩ ∧ w.heap[b]? = some (.cells c 22) ∧ ∀ i x, D[i]? = some x → c[o + i]? = some (.int .u64 (x : Nat)))
theorem SrcAt.keep {w w' : World} {r : Nat} {D : List Nat} (h : SrcAt w r D) {S : Nat → Prop} (hc : Chg S w w') (hS : ∀ k c t, w.heap[k]? = some (.cells c t) → t = 95 ∨ t = 22 → ¬ S k) : SrcAt w' r D := by
  obtain ⟨p, cap, h1, h2, h3, h4⟩ := h.ex
  refine ⟨p, cap, hc.heap h1 (hS _ _ _ h1 (.inl rfl)), h2, h3, fun hne => ?_⟩
  obtain ⟨b, o, c, e1, e2, e3⟩ := h4 hne
  exact ⟨b, o, c, e1, hc.heap e2 (hS _ _ _ e2 (.inr rfl)), e3⟩
theorem SrcAt.below {w w' : World} {r : Nat} {D : List Nat} (h : SrcAt w r D) (hb : Below w.heap.size w w') : SrcAt w' r D := h.keep (S := fun _ => False) (Chg.of_below hb) fun _ _ _ _ _ e => e
theorem SrcAt.lt {w : World} {r : Nat} {D : List Nat} (h : SrcAt w r D) : r < w.heap.size := by
  obtain ⟨p, cap, h1, -⟩ := h.ex
  exact block_lt h1
theorem SrcAt.head {w : World} {r : Nat} {D : List Nat} (h : SrcAt w r D) : ∃ c, w.heap[r]? = some (.cells c 95) := by
  obtain ⟨p, cap, h1, -⟩ := h.ex
  exact ⟨_, h1⟩
section
variable {w : World} {r : Nat} {D : List Nat}
theorem left_any (h : SrcAt w r D) : Calls Tryz.prog 91 #[.pointer (some ⟨r, 0, none⟩)] w fun e w' => e = .returned (.int .i64 (D.length : Nat)) ∧ w = w' := by
  obtain ⟨p, cap, h1, h2, h3, -⟩ := h.ex
  have c0 : w.cell? ⟨r, 0, none⟩ = some (.slice p D.length cap) := cell_of_row w r 0 _ _ _ h1
  clear h h1
  go_enter Tryz.func91, Tryz.ntmps91
  go_wp2_with fail
  go_ret
  exact ⟨rfl, rfl⟩
def NextPost (r : Nat) (D : List Nat) (w : World) (e : Ending) (w' : World) : Prop := e = .returned (.int .u64 ((D.headD 0 : Nat) : Int)) ∧ SrcAt w' r D.tail ∧ Chg (fun k => k = r) w w'
set_option maxHeartbeats 1000000 in
theorem next_any (h : SrcAt w r D) : Calls Tryz.prog 70 #[.pointer (some ⟨r, 0, none⟩)] w (NextPost r D w) := by
  have HL := Lib.hid (left_any h)
  have H := Lib.hid h
  obtain ⟨p, cap, h1, h2, h3, h4⟩ := h.ex
  have c0 : w.cell? ⟨r, 0, none⟩ = some (.slice p D.length cap) := cell_of_row w r 0 _ _ _ h1
  have f0 : w.frozen? ⟨r, 0, none⟩ = false := frozen_of_row w r 0 _ _ h1
  cases D with
  | nil =>
    clear h h1 h4
    go_enter Tryz.func70, Tryz.ntmps70
    go_wp2_with (go_at_call 91; refine HL.out.mono ?_; rintro e w' ⟨rfl, rfl⟩)
    go_ret
    exact ⟨rfl, H.out, Chg.refl _ _⟩
  | cons x D =>
    obtain ⟨b, o, c, rfl, e2, e3⟩ := h4 (by simp)
    have c1 : w.cell? ⟨b, o, none⟩ = some (.int .u64 (x : Nat)) := by rw [cell_of_row w b o _ _ _ e2]; exact e3 0 x rfl
    have HEND : Hid (∀ q, (q = ⟨b, o + 1, none⟩ ∨ D = []) → NextPost r (x :: D) w (.returned (.int .u64 (x : Nat))) (w.setCell ⟨r, 0, none⟩ (.slice (some q) D.length (cap - 1)))) := Lib.hid (by
      intro q hq
      have hc : Chg (fun k => k = r) w (w.setCell ⟨r, 0, none⟩ (.slice (some q) D.length (cap - 1))) := Chg.setCell (S := fun k => k = r) (Chg.refl _ w) (p := ⟨r, 0, none⟩) (fun _ => rfl) _
      refine ⟨rfl, ⟨some q, cap - 1, by rw [heapSetHere h1]; rfl, ?_, by omega, fun hne => ?_⟩, hc⟩
      · simp at h2; simp; omega
      · rcases hq with rfl | hq
        · refine ⟨b, o + 1, c, rfl, hc.heap e2 (types_ne e2 h1 (by decide)), fun i y hy => ?_⟩
          have := e3 (i + 1) y (by simpa using hy)
          rw [show o + 1 + i = o + (i + 1) by omega]; exact this
        · exact absurd hq hne)
    obtain ⟨n, hn⟩ : ∃ n, D.length = n := ⟨_, rfl⟩
    have hD : n = 0 → D = [] := fun h0 => List.eq_nil_of_length_eq_zero (by rw [hn, h0])
    rw [List.length_cons, hn] at h2 c0 HL
    rw [hn] at HEND
    have HD := Lib.hid hD
    have hz1 : IntKind.i64.wrap ((n : Int) + 1) = (n : Int) + 1 := by rw [IntKind.wrap_i64]; omega
    clear h h1 h4 e2 e3 hn hD
    have hn0 : ¬ n + 1 = 0 := by omega
    obtain rfl | hb2 : cap = 1 ∨ ¬ cap = 1 := Decidable.em _
    · have hn1 : n = 0 := by omega
      obtain rfl : D = [] := HD.out hn1
      subst hn1
      clear HD
      go_enter Tryz.func70, Tryz.ntmps70
      go_wp2_with (go_at_call 91; refine HL.out.mono ?_; rintro e w' ⟨rfl, rfl⟩)
      go_ret
      exact HEND.out _ (by simp)
    · go_enter Tryz.func70, Tryz.ntmps70
      go_wp2_with (go_at_call 91; refine HL.out.mono ?_; rintro e w' ⟨rfl, rfl⟩)
      go_ret
      exact HEND.out _ (.inl rfl)
end
end Go.Proofs.YtelbmphmihjgfaaGreat.DEnt

/- draw.New. -/
set_option linter.unusedVariables false
set_option linter.unusedSimpArgs false
namespace Go.Proofs.YtelbmphmihjgfaaGreat.DEnt
open Go.RowKit Pantry Go.Maps

def u64R (l : List Nat) : List Value := l.map fun n : Nat => Value.int .u64 (n : Int)
theorem u64R_one (l : List Nat) : ∀ u ∈ u64R l, u.oneCell' = true := by
  intro u hu
  obtain ⟨n, -, rfl⟩ := List.mem_map.1 hu
  rfl
theorem u64I : ElemT Tryz.prog 25 22 1 8 (.int .u64 0) := ⟨Tryz.underlying25, by kernel_rfl, rfl, by omega, by omega⟩
def RClonePost (l : List Nat) (w : World) (e : Ending) (w' : World) : Prop := ∃ v, e = .returned v ∧ w'.ownsRow w.heap.size 22 1 v l.length (u64R l) ∧ Below w.heap.size w w'
set_option maxHeartbeats 1000000 in
theorem rclone_any (w : World) (a : Option Addr) (n c : Nat) (l : List Nat) (hl : l.length = n) (hr : Rd w a (u64R l)) (hn : n ≤ 17592186044416) : Calls Tryz.prog 33 #[.slice a n c] w (RClonePost l w) := by
  have hnl := fun (w : World) (a : Option Addr) (n c : Nat) => Lib.run_eql_slice_nil (P := Tryz.prog) w 25 22 a n c 0 0 Tryz.underlying25
  cases a with
  | none =>
    have h0 : l = [] := by
      cases l with
      | nil => rfl
      | cons x l =>
        obtain ⟨-, y, hy, -⟩ := hr 0 (.int .u64 (x : Int)) rfl
        cases hy
    subst h0
    obtain rfl : n = 0 := by simpa using hl.symm
    have hO : w.ownsRow w.heap.size 22 1 (.slice none 0 0) ([] : List Nat).length (u64R []) := World.ownsRow_nil _ _ _ _
    clear hl hr hn
    go_enter Tryz.func33, Tryz.ntmps33
    go_wp2_with fail
    go_ret
    exact ⟨_, rfl, hO, Below.refl _ _⟩
  | some ad =>
    obtain ⟨w1, hw1⟩ : ∃ w1, w.alloc (.cells #[] 22) = w1 := ⟨_, rfl⟩
    have hB1 : Below w.heap.size w w1 := by rw [← hw1]; exact (Below.refl _ w).alloc (Nat.le_refl _) _
    have HO : Hid (w1.ownsRow w.heap.size 22 1 (.slice (some ⟨w.heap.size, 0, none⟩) 0 0) 0 []) := Lib.hid ⟨rfl, .inr ⟨w.heap.size, 0, #[], rfl, Nat.le_refl _, by rw [← hw1]; exact heap_alloc_new w _, Nat.le_refl _, by unfold maxLen; omega, rfl, rfl⟩⟩
    have HR := Lib.hid (hr.below hB1)
    have HL : Hid ((u64R l).length = n * 1) := Lib.hid (by simp [u64R, hl])
    have HLL := Lib.hid hl
    have HB1 := Lib.hid hB1
    clear hr hB1 hl
    go_enter Tryz.func33, Tryz.ntmps33
    go_wp2_with (at_builtin; refine wpl_append u64I rfl _ _ rfl w.heap.size rfl HO.out (ad := some ad) (m := n) (c := c) (news := u64R l) rfl (fun h => by cases h) HL.out HR.out (by omega) HB1.out.size ?_
                 intro v' w' hr hgr hk
                 have HR := Lib.hid hr
                 have HG := Lib.hid hgr
                 clear hr hgr hk)
    go_ret
    exact ⟨v', rfl, by have := HR.out; rw [HLL.out]; rwa [Nat.zero_add, List.nil_append] at this, HB1.out.grown HG.out HB1.out.size (fun k hk => by cases hk; exact Nat.le_refl _)⟩
def RNewPost (l : List Nat) (w : World) (e : Ending) (w' : World) : Prop := ∃ r, e = .returned (.pointer (some ⟨r, 0, none⟩)) ∧ SrcAt w' r l ∧ w.heap.size ≤ r ∧ Below w.heap.size w w'
theorem newSrc {w0 w : World} {v : Value} {l : List Nat} (hb : Below w0.heap.size w0 w) (h : w.ownsRow w0.heap.size 22 1 v l.length (u64R l)) (hl : l.length ≤ 17592186044416) : RNewPost l w0 (.returned (.pointer (some ⟨w.heap.size, 0, none⟩))) (w.alloc (.cells #[v] 95)) := by
  refine ⟨_, rfl, ⟨?_⟩, hb.size, hb.alloc hb.size _⟩
  have hnew := heap_alloc_new w (.cells #[v] 95)
  rcases h.2 with ⟨rfl, h0⟩ | ⟨g, cap, cur, rfl, hbg, hg, hnc, hcm, hcs, htk⟩
  · refine ⟨none, 0, by rw [hnew, h0], by omega, by omega, fun hne => absurd (List.eq_nil_of_length_eq_zero h0) hne⟩
  · have hold := (Below.refl w.heap.size w).alloc (Nat.le_refl _) (.cells #[.slice (some ⟨g, 0, none⟩) l.length cap] 95)
    unfold maxLen at hcm
    refine ⟨_, cap, hnew, hnc, hcm, fun _ => ⟨g, 0, cur, rfl, (hold.block g (block_lt hg)).trans hg, fun i x hi => ?_⟩⟩
    · have hi2 : i < l.length := (List.getElem?_eq_some_iff.1 hi).1
      have : (cur.toList.take (l.length * 1))[i]? = (u64R l)[i]? := by rw [htk]
      rw [List.getElem?_take, if_pos (by omega)] at this
      rw [Nat.zero_add, ← Array.getElem?_toList, this, u64R, List.getElem?_map, hi]
      rfl
theorem rnew_any (w : World) (a : Option Addr) (n c : Nat) (l : List Nat) (hl : l.length = n) (hr : Rd w a (u64R l)) (hn : n ≤ 17592186044416) : Calls Tryz.prog 10 #[.slice a n c] w (RNewPost l w) := by
  have HC := Lib.hid (rclone_any w a n c l hl hr hn)
  have HN : Hid (l.length ≤ 17592186044416) := Lib.hid (by omega)
  clear hl hr hn
  go_enter Tryz.func10, Tryz.ntmps10
  go_wp2_with (go_at_call 33; refine HC.out.mono ?_; rintro e w1 ⟨v, rfl, hrow, hb⟩
               obtain ⟨pa, cc, rfl, -⟩ := ownsRow_rd hrow (u64R_one l)
               have HE := Lib.hid (newSrc hb hrow HN.out)
               clear hrow hb)
  go_ret
  exact HE.out
end Go.Proofs.YtelbmphmihjgfaaGreat.DEnt
