
/- Range of ranks. -/
import Derived.Test.YteiklgbjjmlmaaaGreatZRkSet2
import Derived.Lib.MinMax
import Derived.Test.YteiklgbjjmlmaaaGreatZDHash
set_option linter.unusedVariables false
set_option linter.unusedSimpArgs false
namespace Pantry
open Go Go.RowKit
/-- The members at places from one number up to another. -/
def segR (l : List Mb) (x y : Int) : List Mb := (l.take (min y l.length).toNat).drop (max x 0).toNat
end Pantry
namespace Go.Proofs.YteiklgbjjmlmaaaGreat
open Go.RowKit Pantry

/-- A list of members in memory of its own. -/
structure MbsAt (w : World) (B : Nat) (v : Value) (l : List Mb) : Prop where
  row : w.ownsRow B 54 2 v l.length (rkCells l)
def MbsPost (l : List Mb) (w : World) (e : Ending) (w' : World) : Prop := ∃ v, e = .returned v ∧ MbsAt w' w.heap.size v l ∧ Below w.heap.size w w'
set_option maxHeartbeats 2000000 in
theorem rkRange_any (w : World) (r seed d : Nat) (D : Dc) (v : Value) (l : List Mb) (x y : Int) (h : RkAt w r seed d D v l) :
    Calls Tryz.prog 248 #[.pointer (some ⟨r, 0, none⟩), .int .i64 x, .int .i64 y] w (MbsPost (segR l x y) w) := by
  have HL := Lib.hid (rkLen_any w r seed d D v l h)
  obtain ⟨⟨-, -, h2, -⟩, -⟩ := four h.head
  obtain ⟨n, hn⟩ : ∃ n, l.length = n := ⟨_, rfl⟩
  have hf := h.good.few
  rw [hn] at HL hf
  have HN := Lib.hid hn
  by_cases hlt : max x 0 < min y (n : Int)
  · obtain ⟨A, hA⟩ : ∃ A : Nat, max x 0 = (A : Int) := ⟨(max x 0).toNat, by omega⟩
    obtain ⟨B, hB⟩ : ∃ B : Nat, min y (n : Int) = (B : Int) := ⟨(min y (n : Int)).toNat, by omega⟩
    have hAB : A < B := by omega
    have hBn : B ≤ n := by omega
    have hrow := h.row
    rw [hn] at hrow
    rcases hrow.2 with ⟨hv, hn0⟩ | ⟨g, cap, cur, rfl, hb, hg, hnc, hcm, hcs, htake⟩
    · omega
    have hsg : segR l x y = (l.take B).drop A := by unfold segR; rw [hA, hn, hB]; rfl
    rw [hsg]
    have hlen : ((l.take B).drop A).length = B - A := by rw [List.length_drop, List.length_take]; omega
    have hrd : Rd w (some ⟨g, A * 2, none⟩) (rkCells ((l.take B).drop A)) := by
      obtain ⟨a, c, hv, hrd⟩ := ownsRow_rd hrow (rkCells_one l)
      cases hv
      intro j u hj
      have hj2 : (rkCells l)[A * 2 + j]? = some u := by
        rw [← rkCells_drop, ← rkCells_take, List.getElem?_drop, List.getElem?_take] at hj
        split at hj
        · exact hj
        · cases hj
      obtain ⟨q1, y, hy, q2⟩ := hrd _ _ hj2
      cases hy
      refine ⟨q1, _, rfl, ?_⟩
      have e1 : (⟨g, 0, none⟩ : Addr).add (A * 2 + j) = (⟨g, A * 2, none⟩ : Addr).add j := by
        rw [Addr.add_base]; cases j <;> simp [Addr.add]
      rw [← e1]; exact q2
    obtain ⟨L, hL⟩ : ∃ L, (l.take B).drop A = L := ⟨_, rfl⟩
    rw [hL] at hlen hrd ⊢
    have HRD := Lib.hid hrd
    have HLEN := Lib.hid hlen
    have HT := Lib.hid (Tryz.rowTR)
    have hAc : A < cap := by omega
    have hBc : B ≤ cap := by omega
    have hle : A ≤ B := by omega
    have hge : decide ((B : Int) ≤ (A : Int)) = false := by simp; omega
    have hge2 : decide (B ≤ A) = false := by simp; omega
    clear h hn hsg hrow hb hg hnc hcs htake hlen hrd hL hlt
    go_enter Tryz.func248, Tryz.ntmps248
    go_wp2_with (first
      | (go_at_call 247; refine HL.out.mono ?_; rintro e w1 ⟨rfl, rfl⟩)
      | (at_builtin; refine wpl_append HT.out rfl _ _ rfl w.heap.size (n := 0) (xs := []) rfl ⟨rfl, .inl ⟨rfl, rfl⟩⟩ (c := cap - A) (m := B - A) (ad := some ⟨g, A * 2, none⟩) (news := rkCells L) rfl (fun h => by cases h) (by rw [rkCells_length, HLEN.out]) HRD.out (by omega) (Nat.le_refl _) ?_
         intro v' w' hr hgr hk
         have HR := Lib.hid hr
         have HG := Lib.hid hgr
         clear hr hgr hk))
    go_ret
    exact ⟨v', rfl, ⟨by have := HR.out; rw [Nat.zero_add, ← HLEN.out] at this; exact this⟩, (Below.refl _ _).grown HG.out (Nat.le_refl _) (fun k hk => by cases hk)⟩
  · have hle : min y (n : Int) ≤ max x 0 := by omega
    have hge : decide (min y (n : Int) ≤ max x 0) = true := by simp; omega
    have hseg : segR l x y = [] := by
      unfold segR
      rw [hn]
      refine List.eq_nil_of_length_eq_zero ?_
      rw [List.length_drop, List.length_take]
      omega
    rw [hseg]
    clear h h2 hn hlt hseg
    go_enter Tryz.func248, Tryz.ntmps248
    go_wp2_with (first
      | (go_at_call 247; refine HL.out.mono ?_; rintro e w1 ⟨rfl, rfl⟩))
    go_ret
    exact ⟨_, rfl, ⟨rfl, .inl ⟨rfl, rfl⟩⟩, Below.refl _ _⟩
end Go.Proofs.YteiklgbjjmlmaaaGreat


/- A dict without entries, plainly. -/
namespace Pantry
open Go Go.RowKit
theorem placed_nil (seed : Nat) : Placed seed [] := fun i c x hi => by simp at hi
/-- A dict without entries. -/
def Dc.zero (seed : Nat) : Dc := ⟨seed, 0, [], 0, [], 0⟩
theorem Dc.zero_wf {seed : Nat} (h : seed < 18446744073709551616) : (Dc.zero seed).Wf :=
  ⟨h, List.nodup_nil, List.nodup_nil, (fun e he => by cases he), Nat.zero_le _, placed_nil _, placed_nil _, fun i c hi => absurd hi (Nat.not_lt_zero i), fun _ => rfl, fun hh => absurd rfl hh⟩
end Pantry


/- New of ranks; whether a score lies within two bounds. -/
set_option linter.unusedVariables false
set_option linter.unusedSimpArgs false
namespace Go.Proofs.YteiklgbjjmlmaaaGreat
open Go.RowKit Pantry

theorem dNew_any (w : World) (seed : Nat) : Calls Tryz.prog 92 #[.int .u64 seed] w fun e w' => e = .returned (.pointer (some ⟨w.heap.size, 0, none⟩)) ∧ w' = w.alloc (.cells #[.int .u64 seed, .slice none 0 0, .slice none 0 0, .int .i64 0, .int .i64 0] 210) := by
  go_enter Tryz.func92, Tryz.ntmps92
  go_wp2_with fail
  go_ret
  exact ⟨rfl, rfl⟩
def NewPost (seed : Nat) (w : World) (e : Ending) (w' : World) : Prop :=
  ∃ r d D, e = .returned (.pointer (some ⟨r, 0, none⟩)) ∧ RkAt w' r seed d D (.slice none 0 0) [] ∧ Below w.heap.size w w' ∧ ∀ k, RFoot r d D (.slice none 0 0) k → w.heap.size ≤ k
theorem rkNew_any (w : World) (seed : Nat) (hs : seed < 18446744073709551616) : Calls Tryz.prog 70 #[.int .u64 seed] w (NewPost seed w) := by
  go_enter Tryz.func70, Tryz.ntmps70
  go_wp2_with (go_at_call 92; refine (dNew_any _ _).mono ?_; rintro e w1 ⟨rfl, rfl⟩)
  go_ret
  refine ⟨w.heap.size + 1, w.heap.size, Dc.zero seed, by simp, ⟨?_, ⟨?_, ?_, ?_, ?_, ?_, ?_⟩, Dc.zero_wf hs, ⟨rfl, .inl ⟨rfl, rfl⟩⟩, List.Perm.refl _, ⟨List.Pairwise.nil, ?_, ?_, Nat.zero_le _⟩⟩, ?_, ?_⟩
  · have := heap_alloc_new (w.alloc (.cells #[.int .u64 seed, .slice none 0 0, .slice none 0 0, .int .i64 0, .int .i64 0] 210)) (.cells #[.int .u64 seed, .pointer (some ⟨w.heap.size, 0, none⟩), .slice none 0 0, .int .i64 0] 167)
    simpa [rkCost] using this
  · rw [heap_alloc_old (by simp)]
    exact heap_alloc_new w _
  · exact ⟨fun h => absurd rfl h, fun h => absurd rfl h, Nat.zero_le _⟩
  · exact ⟨fun h => absurd rfl h, fun h => absurd rfl h, Nat.zero_le _⟩
  · intro c hc; cases hc
  · intro c hc; cases hc
  · intro h; exact absurd rfl h
  · intro p hp; cases hp
  · intro p hp; cases hp
  · exact ((Below.refl _ _).alloc (Nat.le_refl _) _).alloc (by simp) _
  · rintro k (rfl | (rfl | ⟨h, -⟩ | ⟨h, -⟩ | ⟨e, he, -⟩) | hk)
    · omega
    · omega
    · exact absurd rfl h
    · exact absurd rfl h
    · cases he
    · cases hk
end Go.Proofs.YteiklgbjjmlmaaaGreat


/- Ranks by a handle: the members, and a set of blocks in which they lie. -/
set_option linter.unusedVariables false
set_option linter.unusedSimpArgs false
namespace Pantry
open Go Go.RowKit
end Pantry
namespace Go.Proofs.YteiklgbjjmlmaaaGreat
open Go.RowKit Pantry

structure Rk (w : World) (r : Nat) (S : Nat → Prop) (l : List Mb) : Prop where
  at_ : ∃ seed d D v, seed < 18446744073709551616 ∧ RkAt w r seed d D v l ∧ ∀ k, RFoot r d D v k → S k
  lt : ∀ k, S k → k < w.heap.size
structure RkTo (r : Nat) (S : Nat → Prop) (l' : List Mb) (w w' : World) : Prop where
  ex : ∃ S', Rk w' r S' l' ∧ ∀ k, S' k → S k ∨ w.heap.size ≤ k
  chg : Chg S w w'
structure RkQ (r : Nat) (S : Nat → Prop) (l : List Mb) (w w' : World) : Prop where
  at_ : Rk w' r S l
  chg : Chg S w w'
theorem Rk.good {w : World} {r : Nat} {S : Nat → Prop} {l : List Mb} (h : Rk w r S l) : RkGood l := by
  obtain ⟨seed, d, D, v, -, h1, -⟩ := h.at_
  exact h1.good
theorem Rk.chg {w w' : World} {r : Nat} {S T : Nat → Prop} {l : List Mb} (h : Rk w r S l) (hc : Chg T w w') (hT : ∀ k, S k → ¬ T k) : Rk w' r S l := by
  obtain ⟨⟨seed, d, D, v, hs, h1, h2⟩, h3⟩ := h
  exact ⟨⟨seed, d, D, v, hs, h1.keep hc fun k hk => hT k (h2 k hk), h2⟩, fun k hk => Nat.lt_of_lt_of_le (h3 k hk) hc.size⟩
theorem Rk.below {w w' : World} {r : Nat} {S : Nat → Prop} {l : List Mb} (h : Rk w r S l) (hb : Below w.heap.size w w') : Rk w' r S l :=
  h.chg (T := fun _ => False) (Chg.of_below hb) fun _ _ e => e
theorem ROp.to {w w' : World} {r seed d : Nat} {D : Dc} {v : Value} {l' : List Mb} {S : Nat → Prop} (h : ROp r seed d D v l' w w') (hs : seed < 18446744073709551616) (hS : ∀ k, RFoot r d D v k → S k) (hl : ∀ k, S k → k < w.heap.size) : RkTo r S l' w w' := by
  obtain ⟨⟨D', v', h1, h2⟩, h3⟩ := h
  refine ⟨⟨fun k => (S k ∨ w.heap.size ≤ k) ∧ k < w'.heap.size, ⟨⟨seed, d, D', v', hs, h1, fun k hk => ⟨(h2 k hk).imp (hS k) id, h1.lt k hk⟩⟩, fun k hk => hk.2⟩, fun k hk => hk.1⟩, h3.mono fun k _ hk => hS k hk⟩
def SetTo (r : Nat) (S : Nat → Prop) (l : List Mb) (key : List UInt8) (x : Nat) (w : World) (e : Ending) (w' : World) : Prop :=
  ∃ l' new code, SetC l key x l' new code ∧ e = .returned (.tuple #[.bool new, .int .i64 code]) ∧ RkTo r S l' w w'
theorem Rk.set {w : World} {r : Nat} {S : Nat → Prop} {l : List Mb} (h : Rk w r S l) (key : List UInt8) (x : Nat) (hs : key.length ≤ 140737488351232) :
    Calls Tryz.prog 71 #[.pointer (some ⟨r, 0, none⟩), .string ⟨key.toArray⟩, .float .f64 x] w (SetTo r S l key x w) := by
  obtain ⟨⟨seed, d, D, v, hd, h1, h2⟩, h3⟩ := h
  refine (rkSet_any w r seed d D v l key x h1 hs).mono ?_
  rintro e w' ⟨l', new, code, q1, q2, q3⟩
  exact ⟨l', new, code, q1, q2, q3.to hd h2 h3⟩
theorem Rk.len {w : World} {r : Nat} {S : Nat → Prop} {l : List Mb} (h : Rk w r S l) : Calls Tryz.prog 247 #[.pointer (some ⟨r, 0, none⟩)] w fun e w' => e = .returned (.int .i64 (l.length : Nat)) ∧ w = w' := by
  obtain ⟨⟨seed, d, D, v, hd, h1, h2⟩, h3⟩ := h
  exact rkLen_any w r seed d D v l h1
theorem Rk.range {w : World} {r : Nat} {S : Nat → Prop} {l : List Mb} (h : Rk w r S l) (x y : Int) : Calls Tryz.prog 248 #[.pointer (some ⟨r, 0, none⟩), .int .i64 x, .int .i64 y] w (MbsPost (segR l x y) w) := by
  obtain ⟨⟨seed, d, D, v, hd, h1, h2⟩, h3⟩ := h
  exact rkRange_any w r seed d D v l x y h1
/-- New ranks, beside all that was there. -/
def RkMade (l : List Mb) (w : World) (e : Ending) (w' : World) : Prop := ∃ r S, e = .returned (.pointer (some ⟨r, 0, none⟩)) ∧ Rk w' r S l ∧ Below w.heap.size w w' ∧ ∀ k, S k → w.heap.size ≤ k
theorem Rk.new (w : World) (seed : Nat) (hd : seed < 18446744073709551616) : Calls Tryz.prog 70 #[.int .u64 seed] w (RkMade [] w) := by
  refine (rkNew_any w seed hd).mono ?_
  rintro e w' ⟨r2, d2, D2, q1, q2, q3, q4⟩
  exact ⟨r2, fun k => w.heap.size ≤ k ∧ k < w'.heap.size, q1, ⟨⟨seed, d2, D2, _, hd, q2, fun k hk => ⟨q4 k hk, q2.lt k hk⟩⟩, fun k hk => hk.2⟩, q3, fun k hk => hk.1⟩
end Go.Proofs.YteiklgbjjmlmaaaGreat
