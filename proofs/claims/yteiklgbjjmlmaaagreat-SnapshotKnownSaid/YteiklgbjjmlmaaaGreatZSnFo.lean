
/- snapshot.follows. -/
import Derived.Test.YteiklgbjjmlmaaaGreatZSnEq
import Derived.Test.YteiklgbjjmlmaaaGreatRows
import Derived.Test.YteiklgbjjmlmaaaGreatZSnBuf
import Derived.Test.YteiklgbjjmlmaaaGreatZSnVal
import Derived.WalkKit
import Derived.WalkSpells
import Derived.WalkLawsBesides
import Derived.Lib.Hide
set_option linter.unusedVariables false
set_option linter.unusedSimpArgs false
namespace Go.Proofs.YteiklgbjjmlmaaaGreat
open Go.RowKit Pantry

/-- A stored key as cells. -/
def seC (x : SE) (a1 a2 a3 : Option Addr) (c1 c2 c3 : Nat) : List Value :=
  [.string ⟨x.key.toArray⟩, .int .i64 x.val.kind, .string ⟨x.val.text.toArray⟩, .slice a1 x.val.items.length c1, .slice a2 x.val.pairs.length c2, .slice a3 x.val.ranks.length c3, .int .i64 x.dl]
/-- The key at this address. -/
def SEAt (w : World) (p : Addr) (x : SE) : Prop := ∃ a1 a2 a3 c1 c2 c3, (∀ j u, (seC x a1 a2 a3 c1 c2 c3)[j]? = some u → w.cell? (p.add j) = some u) ∧ PlainAt w x.val a1 a2 a3
/-- A row of stored keys, read. -/
def SRow (w : World) (a : Option Addr) (l : List SE) : Prop := ∀ (i : Nat) (x : SE), l[i]? = some x → ∃ p, a = some p ∧ SEAt w (p.add (i * 7)) x
theorem SEAt.below {w w' : World} {p : Addr} {x : SE} (h : SEAt w p x) (hb : Below w.heap.size w w') : SEAt w' p x := by
  obtain ⟨a1, a2, a3, c1, c2, c3, h1, h2⟩ := h
  refine ⟨a1, a2, a3, c1, c2, c3, fun j u hu => ?_, h2.below hb⟩
  have h0 := h1 j u hu
  exact (hb.cell (p := p.add j) (World.block_lt_of_cell? _ _ h0)).trans h0
theorem SRow.below {w w' : World} {a : Option Addr} {l : List SE} (h : SRow w a l) (hb : Below w.heap.size w w') : SRow w' a l := fun i x hx => by
  obtain ⟨p, hp, hs⟩ := h i x hx
  exact ⟨p, hp, hs.below hb⟩
theorem SRow.take {w : World} {a : Option Addr} {l : List SE} (h : SRow w a l) (n : Nat) : SRow w a (l.take n) := fun i x hx => by
  rw [List.getElem?_take] at hx
  split at hx
  · exact h i x hx
  · cases hx
theorem follows_eq (acc : List SE) (x : SE) : followsP acc x = ((match acc.getLast? with | none => true | some y => Op.bytesLess y.key x.key) && (decide (x.key.length ≤ 1048576) && (decide (0 ≤ x.dl) && (decide (x.dl ≤ 9007199254740992) && rightP x.val)))) := by
  unfold followsP
  cases acc.getLast? with
  | none => simp [Bool.and_assoc]
  | some y => simp only [bytesLess_iff, Bool.and_assoc]
set_option maxRecDepth 100000 in
set_option maxHeartbeats 8000000 in
theorem follows_any (w : World) (a : Option Addr) (n c : Nat) (acc : List SE) (hn : acc.length = n) (hn2 : n < 9223372036854775808) (hr : SRow w a acc) (x : SE) (a1 a2 a3 : Option Addr) (c1 c2 c3 : Nat) (hP : PlainAt w x.val a1 a2 a3) (hB : PlainBig x.val) (hk : x.key.length < 9223372036854775808) :
    Calls Tryz.prog 31 #[.slice a n c, .agg (seC x a1 a2 a3 c1 c2 c3).toArray] w (SamePost (followsP acc x) w) := by
  rw [follows_eq]
  obtain ⟨ky, p, dl⟩ := x
  simp only [seC] at *
  obtain ⟨W0, hW0⟩ : ∃ W, w.alloc (.cells #[.string ⟨ky.toArray⟩, .int .i64 p.kind, .string ⟨p.text.toArray⟩, .slice a1 p.items.length c1, .slice a2 p.pairs.length c2, .slice a3 p.ranks.length c3, .int .i64 dl] 51) = W := ⟨_, rfl⟩
  have hb0 : Below w.heap.size w W0 := by rw [← hW0]; exact (Below.refl _ _).alloc (Nat.le_refl _) _
  have hX : W0.heap[w.heap.size]? = some (.cells #[.string ⟨ky.toArray⟩, .int .i64 p.kind, .string ⟨p.text.toArray⟩, .slice a1 p.items.length c1, .slice a2 p.pairs.length c2, .slice a3 p.ranks.length c3, .int .i64 dl] 51) := by rw [← hW0]; exact heap_alloc_new w _
  have x0 := cell_of_row W0 w.heap.size 0 _ _ _ hX
  have x1 := cell_of_row W0 w.heap.size 1 _ _ _ hX
  have x2 := cell_of_row W0 w.heap.size 2 _ _ _ hX
  have x3 := cell_of_row W0 w.heap.size 3 _ _ _ hX
  have x4 := cell_of_row W0 w.heap.size 4 _ _ _ hX
  have x5 := cell_of_row W0 w.heap.size 5 _ _ _ hX
  have x6 := cell_of_row W0 w.heap.size 6 _ _ _ hX
  have HR0 := Lib.hid (right_any W0.drew p a1 a2 a3 c1 c2 c3 (hP.below (hb0.drew)) hB)
  have HB0 := Lib.hid hb0
  have HBD : ∀ q, Hid (Below w.heap.size w (W0.drewN q)) := fun q => Lib.hid ⟨hb0.os, hb0.tape, hb0.output, hb0.size, hb0.block⟩
  simp only [Tryz.plainCells] at HR0
  -- the key ahead
  obtain ⟨fb, hfb⟩ : ∃ fb, (match acc.getLast? with | none => true | some y => Op.bytesLess y.key ky) = fb := ⟨_, rfl⟩
  rw [hfb]
  have hcase : (n = 0 ∧ fb = true) ∨ (0 < n ∧ ∃ z lk, a = some z ∧ W0.cell? (z.add ((n - 1) * 7)) = some (.string ⟨lk.toArray⟩) ∧ Op.bytesLess lk ky = fb) := by
    cases hl : acc.getLast? with
    | none =>
      rw [List.getLast?_eq_none_iff] at hl
      subst hl
      exact .inl ⟨by simpa using hn.symm, by rw [← hfb]; rfl⟩
    | some y =>
      have hne : 0 < acc.length := by
        cases acc with
        | nil => simp at hl
        | cons _ _ => simp
      rw [List.getLast?_eq_getElem?, hn] at hl
      obtain ⟨z, hz, b1, b2, b3, d1, d2, d3, hcl, -⟩ := hr _ _ hl
      have h0 := hcl 0 _ rfl
      refine .inr ⟨by omega, z, y.key, hz, (hb0.cell (p := z.add ((n - 1) * 7)) (World.block_lt_of_cell? _ _ h0)).trans h0, ?_⟩
      rw [← hfb, List.getLast?_eq_getElem?, hn, hl]
  have HXB := Lib.hid hX
  have hs0 : W0.heap.size = w.heap.size + 1 := by rw [← hW0]; simp
  have hmx : Tryz.prog.follows .mixedOrders = true := by kernel_rfl
  clear hfb hr hn hX hb0 hP hB
  generalize rightP p = rp at HR0 ⊢
  rcases hcase with ⟨rfl, rfl⟩ | ⟨hn0, z, lk, rfl, hcl, hlb⟩
  · skip
    by_cases hlen : ky.length ≤ 1048576
    · have hl1 : decide ((ky.length : Int) ≤ 1048576) = true := by simp; omega
      have hl2 : (ky.length : Int) ≤ 1048576 := by omega
      by_cases hd0 : 0 ≤ dl
      · by_cases hdm : dl ≤ 9007199254740992
        · rw [show (true && (decide (ky.length ≤ 1048576) && (decide (0 ≤ dl) && (decide (dl ≤ 9007199254740992) && rp)))) = rp by simp [hlen, hd0, hdm]]
          have HS : Hid (∀ w', Below W0.heap.size W0 w' → (w'.cell? ⟨w.heap.size, 0, none⟩ = some (.string ⟨ky.toArray⟩) ∧ w'.cell? ⟨w.heap.size, 1, none⟩ = some (.int .i64 p.kind) ∧ w'.cell? ⟨w.heap.size, 2, none⟩ = some (.string ⟨p.text.toArray⟩) ∧ w'.cell? ⟨w.heap.size, 3, none⟩ = some (.slice a1 p.items.length c1) ∧ w'.cell? ⟨w.heap.size, 4, none⟩ = some (.slice a2 p.pairs.length c2) ∧ w'.cell? ⟨w.heap.size, 5, none⟩ = some (.slice a3 p.ranks.length c3) ∧ w'.cell? ⟨w.heap.size, 6, none⟩ = some (.int .i64 dl) ∧ True)) := Lib.hid fun w' hw' => by
            have h := (hw'.block _ (by omega)).trans HXB.out
            exact ⟨cell_of_row w' _ 0 _ _ _ h, cell_of_row w' _ 1 _ _ _ h, cell_of_row w' _ 2 _ _ _ h, cell_of_row w' _ 3 _ _ _ h, cell_of_row w' _ 4 _ _ _ h, cell_of_row w' _ 5 _ _ _ h, cell_of_row w' _ 6 _ _ _ h, trivial⟩
          go_enter Tryz.func31, Tryz.ntmps31
          go_upto_region 1 with fail
          refine wp_region_held_drew (S := fun w' => w'.cell? ⟨w.heap.size, 0, none⟩ = some (.string ⟨ky.toArray⟩) ∧ w'.cell? ⟨w.heap.size, 1, none⟩ = some (.int .i64 p.kind) ∧ w'.cell? ⟨w.heap.size, 2, none⟩ = some (.string ⟨p.text.toArray⟩) ∧ w'.cell? ⟨w.heap.size, 3, none⟩ = some (.slice a1 p.items.length c1) ∧ w'.cell? ⟨w.heap.size, 4, none⟩ = some (.slice a2 p.pairs.length c2) ∧ w'.cell? ⟨w.heap.size, 5, none⟩ = some (.slice a3 p.ranks.length c3) ∧ w'.cell? ⟨w.heap.size, 6, none⟩ = some (.int .i64 dl) ∧ True) hmx (HS.out _ ((Below.refl _ W0).drew)) (fun hHeld => ?_)
          simp only [List.size_toArray, List.length_cons, List.length_nil, Nat.zero_add, Nat.reduceAdd]
          refine wpAnyH_take (i := 0) (v := ?vv0) rfl (by kernel_rfl) (by kernel_rfl) (by kernel_rfl) (fun _ _ _ h => h) (Or.inl ⟨by rfl, ?hy0⟩) hHeld ?rest0
          case hy0 =>
            intro W hSw
            obtain ⟨s0, s1, s2, s3, s4, s5, s6, s7⟩ := hSw
            go_simp
            all_goals with_reducible rfl
          try simp only [Act.put, List.setIfInBounds_toArray, List.set_cons_zero, List.set_cons_succ, List.getElem_toArray, List.getElem_cons_zero, List.getElem_cons_succ]
          refine wpAnyH_take (i := 1) (v := ?vv1) rfl (by kernel_rfl) (by kernel_rfl) (by kernel_rfl) (fun _ _ _ h => h) (Or.inl ⟨by rfl, ?hy1⟩) hHeld ?rest1
          case hy1 =>
            intro W hSw
            obtain ⟨s0, s1, s2, s3, s4, s5, s6, s7⟩ := hSw
            go_simp
            all_goals with_reducible rfl
          try simp only [Act.put, List.setIfInBounds_toArray, List.set_cons_zero, List.set_cons_succ, List.getElem_toArray, List.getElem_cons_zero, List.getElem_cons_succ]
          refine wpAnyH_take (i := 2) (v := ?vv2) rfl (by kernel_rfl) (by kernel_rfl) (by kernel_rfl) (fun _ _ _ h => h) (Or.inl ⟨by rfl, ?hy2⟩) hHeld ?rest2
          case hy2 =>
            intro W hSw
            obtain ⟨s0, s1, s2, s3, s4, s5, s6, s7⟩ := hSw
            go_simp
            all_goals with_reducible rfl
          try simp only [Act.put, List.setIfInBounds_toArray, List.set_cons_zero, List.set_cons_succ, List.getElem_toArray, List.getElem_cons_zero, List.getElem_cons_succ]
          refine wpAnyH_take (i := 3) (v := ?vv3) rfl (by kernel_rfl) (by kernel_rfl) (by kernel_rfl) (fun _ _ _ h => h) (Or.inl ⟨by rfl, ?hy3⟩) hHeld ?rest3
          case hy3 =>
            intro W hSw
            obtain ⟨s0, s1, s2, s3, s4, s5, s6, s7⟩ := hSw
            go_simp
            all_goals with_reducible rfl
          try simp only [Act.put, List.setIfInBounds_toArray, List.set_cons_zero, List.set_cons_succ, List.getElem_toArray, List.getElem_cons_zero, List.getElem_cons_succ]
          refine wpAnyH_take (i := 4) (v := undef) rfl (by kernel_rfl) (by kernel_rfl) (by kernel_rfl) (fun _ _ _ h => h) (Or.inr ⟨by rfl, rfl⟩) hHeld ?_
          try simp only [Act.put, List.setIfInBounds_toArray, List.set_cons_zero, List.set_cons_succ, List.getElem_toArray, List.getElem_cons_zero, List.getElem_cons_succ]
          refine wpAnyH_take (i := 5) (v := undef) rfl (by kernel_rfl) (by kernel_rfl) (by kernel_rfl) (fun _ _ _ h => h) (Or.inr ⟨by rfl, rfl⟩) hHeld ?_
          try simp only [Act.put, List.setIfInBounds_toArray, List.set_cons_zero, List.set_cons_succ, List.getElem_toArray, List.getElem_cons_zero, List.getElem_cons_succ]
          refine wpAnyH_take (i := 6) (v := undef) rfl (by kernel_rfl) (by kernel_rfl) (by kernel_rfl) (fun _ _ _ h => h) (Or.inr ⟨by rfl, rfl⟩) hHeld ?_
          try simp only [Act.put, List.setIfInBounds_toArray, List.set_cons_zero, List.set_cons_succ, List.getElem_toArray, List.getElem_cons_zero, List.getElem_cons_succ]
          refine wpAnyH_take (i := 7) (v := undef) rfl (by kernel_rfl) (by kernel_rfl) (by kernel_rfl) (fun _ _ _ h => h) (Or.inr ⟨by rfl, rfl⟩) hHeld ?_
          try simp only [Act.put, List.setIfInBounds_toArray, List.set_cons_zero, List.set_cons_succ, List.getElem_toArray, List.getElem_cons_zero, List.getElem_cons_succ]
          refine wpAnyH_take (i := 8) (v := undef) rfl (by kernel_rfl) (by kernel_rfl) (by kernel_rfl) (fun _ _ _ h => h) (Or.inr ⟨by rfl, rfl⟩) hHeld ?_
          try simp only [Act.put, List.setIfInBounds_toArray, List.set_cons_zero, List.set_cons_succ, List.getElem_toArray, List.getElem_cons_zero, List.getElem_cons_succ]
          refine wpAnyH_take (i := 9) (v := undef) rfl (by kernel_rfl) (by kernel_rfl) (by kernel_rfl) (fun _ _ _ h => h) (Or.inr ⟨by rfl, rfl⟩) hHeld ?_
          try simp only [Act.put, List.setIfInBounds_toArray, List.set_cons_zero, List.set_cons_succ, List.getElem_toArray, List.getElem_cons_zero, List.getElem_cons_succ]
          refine wpAnyH_take (i := 10) (v := undef) rfl (by kernel_rfl) (by kernel_rfl) (by kernel_rfl) (fun _ _ _ h => h) (Or.inr ⟨by rfl, rfl⟩) hHeld ?_
          try simp only [Act.put, List.setIfInBounds_toArray, List.set_cons_zero, List.set_cons_succ, List.getElem_toArray, List.getElem_cons_zero, List.getElem_cons_succ]
          refine wpAnyH_take (i := 11) (v := undef) rfl (by kernel_rfl) (by kernel_rfl) (by kernel_rfl) (fun _ _ _ h => h) (Or.inr ⟨by rfl, rfl⟩) hHeld ?_
          try simp only [Act.put, List.setIfInBounds_toArray, List.set_cons_zero, List.set_cons_succ, List.getElem_toArray, List.getElem_cons_zero, List.getElem_cons_succ]
          refine wpAnyH_take (i := 12) (v := undef) rfl (by kernel_rfl) (by kernel_rfl) (by kernel_rfl) (fun _ _ _ h => h) (Or.inr ⟨by rfl, rfl⟩) hHeld ?_
          try simp only [Act.put, List.setIfInBounds_toArray, List.set_cons_zero, List.set_cons_succ, List.getElem_toArray, List.getElem_cons_zero, List.getElem_cons_succ]
          refine wpAnyH_take (i := 13) (v := undef) rfl (by kernel_rfl) (by kernel_rfl) (by kernel_rfl) (fun _ _ _ h => h) (Or.inr ⟨by rfl, rfl⟩) hHeld ?_
          try simp only [Act.put, List.setIfInBounds_toArray, List.set_cons_zero, List.set_cons_succ, List.getElem_toArray, List.getElem_cons_zero, List.getElem_cons_succ]
          refine wpAnyH_take (i := 14) (v := ?vv14) rfl (by kernel_rfl) (by kernel_rfl) (by kernel_rfl) (fun _ _ _ h => h) (Or.inl ⟨by rfl, ?hy14⟩) hHeld ?rest14
          case hy14 =>
            intro W hSw
            obtain ⟨s0, s1, s2, s3, s4, s5, s6, s7⟩ := hSw
            go_simp
            all_goals with_reducible rfl
          try simp only [Act.put, List.setIfInBounds_toArray, List.set_cons_zero, List.set_cons_succ, List.getElem_toArray, List.getElem_cons_zero, List.getElem_cons_succ]
          refine wpAnyH_take (i := 15) (v := ?vv15) rfl (by kernel_rfl) (by kernel_rfl) (by kernel_rfl) (fun _ _ _ h => h) (Or.inl ⟨by rfl, ?hy15⟩) hHeld ?rest15
          case hy15 =>
            intro W hSw
            obtain ⟨s0, s1, s2, s3, s4, s5, s6, s7⟩ := hSw
            go_simp
            all_goals with_reducible rfl
          try simp only [Act.put, List.setIfInBounds_toArray, List.set_cons_zero, List.set_cons_succ, List.getElem_toArray, List.getElem_cons_zero, List.getElem_cons_succ]
          refine wpAnyH_take (i := 16) (v := ?vv16) rfl (by kernel_rfl) (by kernel_rfl) (by kernel_rfl) (fun _ _ _ h => h) (Or.inl ⟨by rfl, ?hy16⟩) hHeld ?rest16
          case hy16 =>
            intro W hSw
            obtain ⟨s0, s1, s2, s3, s4, s5, s6, s7⟩ := hSw
            go_simp
            all_goals with_reducible rfl
          try simp only [Act.put, List.setIfInBounds_toArray, List.set_cons_zero, List.set_cons_succ, List.getElem_toArray, List.getElem_cons_zero, List.getElem_cons_succ]
          refine wpAnyH_take (i := 17) (v := ?vv17) rfl (by kernel_rfl) (by kernel_rfl) (by kernel_rfl) (fun _ _ _ h => h) (Or.inl ⟨by rfl, ?hy17⟩) hHeld ?rest17
          case hy17 =>
            intro W hSw
            obtain ⟨s0, s1, s2, s3, s4, s5, s6, s7⟩ := hSw
            go_simp
            all_goals with_reducible rfl
          try simp only [Act.put, List.setIfInBounds_toArray, List.set_cons_zero, List.set_cons_succ, List.getElem_toArray, List.getElem_cons_zero, List.getElem_cons_succ]
          refine wpAnyH_take (i := 18) (v := ?vv18) rfl (by kernel_rfl) (by kernel_rfl) (by kernel_rfl) (fun _ _ _ h => h) (Or.inl ⟨by rfl, ?hy18⟩) hHeld ?rest18
          case hy18 =>
            intro W hSw
            obtain ⟨s0, s1, s2, s3, s4, s5, s6, s7⟩ := hSw
            go_simp
            all_goals with_reducible rfl
          try simp only [Act.put, List.setIfInBounds_toArray, List.set_cons_zero, List.set_cons_succ, List.getElem_toArray, List.getElem_cons_zero, List.getElem_cons_succ]
          refine wpAnyH_take (i := 19) (v := ?vv19) rfl (by kernel_rfl) (by kernel_rfl) (by kernel_rfl) (fun _ _ _ h => h) (Or.inl ⟨by rfl, ?hy19⟩) hHeld ?rest19
          case hy19 =>
            intro W hSw
            obtain ⟨s0, s1, s2, s3, s4, s5, s6, s7⟩ := hSw
            go_simp
            all_goals with_reducible rfl
          try simp only [Act.put, List.setIfInBounds_toArray, List.set_cons_zero, List.set_cons_succ, List.getElem_toArray, List.getElem_cons_zero, List.getElem_cons_succ]
          refine wpAnyH_take (i := 20) (v := ?vv20) rfl (by kernel_rfl) (by kernel_rfl) (by kernel_rfl) (fun _ _ _ h => h) (Or.inl ⟨by rfl, ?hy20⟩) hHeld ?rest20
          case hy20 =>
            intro W hSw
            obtain ⟨s0, s1, s2, s3, s4, s5, s6, s7⟩ := hSw
            go_simp
            all_goals with_reducible rfl
          try simp only [Act.put, List.setIfInBounds_toArray, List.set_cons_zero, List.set_cons_succ, List.getElem_toArray, List.getElem_cons_zero, List.getElem_cons_succ]
          refine wpAnyH_take (i := 21) (v := ?vv21) rfl (by kernel_rfl) (by kernel_rfl) (by kernel_rfl) (fun _ _ _ h => h) (Or.inl ⟨by rfl, ?hy21⟩) hHeld ?rest21
          case hy21 =>
            intro W hSw
            obtain ⟨s0, s1, s2, s3, s4, s5, s6, s7⟩ := hSw
            go_simp
            all_goals with_reducible rfl
          try simp only [Act.put, List.setIfInBounds_toArray, List.set_cons_zero, List.set_cons_succ, List.getElem_toArray, List.getElem_cons_zero, List.getElem_cons_succ]
          refine wpAnyH_take (i := 22) (v := ?vv22) rfl (by kernel_rfl) (by kernel_rfl) (by kernel_rfl) (fun _ _ _ h => h) (Or.inl ⟨by rfl, ?hy22⟩) hHeld ?rest22
          case hy22 =>
            intro W hSw
            obtain ⟨s0, s1, s2, s3, s4, s5, s6, s7⟩ := hSw
            go_simp
            all_goals with_reducible rfl
          try simp only [Act.put, List.setIfInBounds_toArray, List.set_cons_zero, List.set_cons_succ, List.getElem_toArray, List.getElem_cons_zero, List.getElem_cons_succ]
          refine wpAnyH_take (i := 23) (v := ?vv23) rfl (by kernel_rfl) (by kernel_rfl) (by kernel_rfl) (fun _ _ _ h => h) (Or.inl ⟨by rfl, ?hy23⟩) hHeld ?rest23
          case hy23 =>
            intro W hSw
            obtain ⟨s0, s1, s2, s3, s4, s5, s6, s7⟩ := hSw
            go_simp
            all_goals with_reducible rfl
          try simp only [Act.put, List.setIfInBounds_toArray, List.set_cons_zero, List.set_cons_succ, List.getElem_toArray, List.getElem_cons_zero, List.getElem_cons_succ]
          refine wpAnyH_take (i := 24) (v := ?vv24) rfl (by kernel_rfl) (by kernel_rfl) (by kernel_rfl) (fun _ _ _ h => h) (Or.inl ⟨by rfl, ?hy24⟩) hHeld ?rest24
          case hy24 =>
            intro W hSw
            obtain ⟨s0, s1, s2, s3, s4, s5, s6, s7⟩ := hSw
            go_simp
            all_goals with_reducible rfl
          try simp only [Act.put, List.setIfInBounds_toArray, List.set_cons_zero, List.set_cons_succ, List.getElem_toArray, List.getElem_cons_zero, List.getElem_cons_succ]
          refine wpAnyH_take (i := 25) (v := ?vv25) rfl (by kernel_rfl) (by kernel_rfl) (by kernel_rfl) (fun _ _ _ h => h) (Or.inl ⟨by rfl, ?hy25⟩) hHeld ?rest25
          case hy25 =>
            intro W hSw
            obtain ⟨s0, s1, s2, s3, s4, s5, s6, s7⟩ := hSw
            go_simp
            all_goals with_reducible rfl
          try simp only [Act.put, List.setIfInBounds_toArray, List.set_cons_zero, List.set_cons_succ, List.getElem_toArray, List.getElem_cons_zero, List.getElem_cons_succ]
          refine wpAnyH_take (i := 26) (v := ?vv26) rfl (by kernel_rfl) (by kernel_rfl) (by kernel_rfl) (fun _ _ _ h => h) (Or.inl ⟨by rfl, ?hy26⟩) hHeld ?rest26
          case hy26 =>
            intro W hSw
            obtain ⟨s0, s1, s2, s3, s4, s5, s6, s7⟩ := hSw
            go_simp
            all_goals with_reducible rfl
          try simp only [Act.put, List.setIfInBounds_toArray, List.set_cons_zero, List.set_cons_succ, List.getElem_toArray, List.getElem_cons_zero, List.getElem_cons_succ]
          refine wpAnyH_take (i := 27) (v := ?vv27) rfl (by kernel_rfl) (by kernel_rfl) (by kernel_rfl) (fun _ _ _ h => h) (Or.inl ⟨by rfl, ?hy27⟩) hHeld ?rest27
          case hy27 =>
            intro W hSw
            obtain ⟨s0, s1, s2, s3, s4, s5, s6, s7⟩ := hSw
            go_simp
            all_goals with_reducible rfl
          try simp only [Act.put, List.setIfInBounds_toArray, List.set_cons_zero, List.set_cons_succ, List.getElem_toArray, List.getElem_cons_zero, List.getElem_cons_succ]
          refine wpAnyH_take (i := 28) (v := ?vv28) rfl (by kernel_rfl) (by kernel_rfl) (by kernel_rfl) (fun _ _ _ h => h) (Or.inl ⟨by rfl, ?hy28⟩) hHeld ?rest28
          case hy28 =>
            intro W hSw
            obtain ⟨s0, s1, s2, s3, s4, s5, s6, s7⟩ := hSw
            go_simp
            all_goals with_reducible rfl
          try simp only [Act.put, List.setIfInBounds_toArray, List.set_cons_zero, List.set_cons_succ, List.getElem_toArray, List.getElem_cons_zero, List.getElem_cons_succ]
          refine wpAnyH_take (i := 29) (v := ?vv29) rfl (by kernel_rfl) (by kernel_rfl) (by kernel_rfl) (fun _ _ _ h => h) (Or.inl ⟨by rfl, ?hy29⟩) hHeld ?rest29
          case hy29 =>
            intro W hSw
            obtain ⟨s0, s1, s2, s3, s4, s5, s6, s7⟩ := hSw
            go_simp
            all_goals with_reducible rfl
          try simp only [Act.put, List.setIfInBounds_toArray, List.set_cons_zero, List.set_cons_succ, List.getElem_toArray, List.getElem_cons_zero, List.getElem_cons_succ]
          refine wpAnyH_take (i := 30) (v := ?vv30) rfl (by kernel_rfl) (by kernel_rfl) (by kernel_rfl) (fun _ _ _ h => h) (Or.inl ⟨by rfl, ?hy30⟩) hHeld ?rest30
          case hy30 =>
            intro W hSw
            obtain ⟨s0, s1, s2, s3, s4, s5, s6, s7⟩ := hSw
            go_simp
            all_goals with_reducible rfl
          try simp only [Act.put, List.setIfInBounds_toArray, List.set_cons_zero, List.set_cons_succ, List.getElem_toArray, List.getElem_cons_zero, List.getElem_cons_succ]
          refine wpAnyH_take (i := 31) (v := ?vv31) rfl (by kernel_rfl) (by kernel_rfl) (by kernel_rfl) (fun _ _ _ h => h) (Or.inl ⟨by rfl, ?hy31⟩) hHeld ?rest31
          case hy31 =>
            intro W hSw
            obtain ⟨s0, s1, s2, s3, s4, s5, s6, s7⟩ := hSw
            go_simp
            all_goals with_reducible rfl
          try simp only [Act.put, List.setIfInBounds_toArray, List.set_cons_zero, List.set_cons_succ, List.getElem_toArray, List.getElem_cons_zero, List.getElem_cons_succ]
          refine wpAnyH_take (i := 32) (v := ?vv32) rfl (by kernel_rfl) (by kernel_rfl) (by kernel_rfl) (fun _ _ _ h => h) (Or.inl ⟨by rfl, ?hy32⟩) hHeld ?rest32
          case hy32 =>
            intro W hSw
            obtain ⟨s0, s1, s2, s3, s4, s5, s6, s7⟩ := hSw
            go_simp
            all_goals with_reducible rfl
          try simp only [Act.put, List.setIfInBounds_toArray, List.set_cons_zero, List.set_cons_succ, List.getElem_toArray, List.getElem_cons_zero, List.getElem_cons_succ]
          refine wpAnyH_take (i := 33) (v := ?vv33) rfl (by kernel_rfl) (by kernel_rfl) (by kernel_rfl) (fun _ _ _ h => h) (Or.inl ⟨by rfl, ?hy33⟩) hHeld ?rest33
          case hy33 =>
            intro W hSw
            obtain ⟨s0, s1, s2, s3, s4, s5, s6, s7⟩ := hSw
            go_simp
            all_goals with_reducible rfl
          try simp only [Act.put, List.setIfInBounds_toArray, List.set_cons_zero, List.set_cons_succ, List.getElem_toArray, List.getElem_cons_zero, List.getElem_cons_succ]
          refine wpAnyH_ready (rs := [34]) (by kernel_rfl) (by simp) ?_
          refine AllReadyH.cons rfl (fun K hK => ?_) AllReadyH.nil
          go_simp
          refine HR0.out.mono ?_
          rintro e w2 ⟨rfl, hb2⟩
          have HB2 := Lib.hid (HB0.out.drew.trans (hb2.mono HB0.out.size))
          have hS2 := (HS.out w2) (((Below.refl _ W0).drew).trans (hb2.mono (Nat.le_refl _)))
          clear hb2
          go_wp2_with fail
          refine hK.out _ _ hS2 (fun hHeld => ?_)
          clear hK K
          try simp only [Act.put, List.setIfInBounds_toArray, List.set_cons_zero, List.set_cons_succ, List.getElem_toArray, List.getElem_cons_zero, List.getElem_cons_succ]
          refine wpAnyH_take (i := 35) (v := ?vv35) rfl (by kernel_rfl) (by kernel_rfl) (by kernel_rfl) (fun _ _ _ h => h) (Or.inl ⟨by rfl, ?hy35⟩) hHeld ?rest35
          case hy35 =>
            intro W hSw
            obtain ⟨s0, s1, s2, s3, s4, s5, s6, s7⟩ := hSw
            go_simp
            all_goals with_reducible rfl
          try simp only [Act.put, List.setIfInBounds_toArray, List.set_cons_zero, List.set_cons_succ, List.getElem_toArray, List.getElem_cons_zero, List.getElem_cons_succ]
          refine wpAnyH_take (i := 36) (v := ?vv36) rfl (by kernel_rfl) (by kernel_rfl) (by kernel_rfl) (fun _ _ _ h => h) (Or.inl ⟨by rfl, ?hy36⟩) hHeld ?rest36
          case hy36 =>
            intro W hSw
            obtain ⟨s0, s1, s2, s3, s4, s5, s6, s7⟩ := hSw
            go_simp
            all_goals with_reducible rfl
          try simp only [Act.put, List.setIfInBounds_toArray, List.set_cons_zero, List.set_cons_succ, List.getElem_toArray, List.getElem_cons_zero, List.getElem_cons_succ]
          refine wpAnyH_done (by kernel_rfl) ?_ _
          go_wp2_with fail
          go_ret
          exact ⟨rfl, HB2.out⟩
        · rw [show (true && (decide (ky.length ≤ 1048576) && (decide (0 ≤ dl) && (decide (dl ≤ 9007199254740992) && rp)))) = false by simp [hdm]]
          have hdm2 : decide (dl ≤ 9007199254740992) = false := decide_eq_false hdm
          go_enter Tryz.func31, Tryz.ntmps31
          go_upto_region 1 with fail
          go_quiet (fail)
          go_wp2_with fail
          go_ret
          exact ⟨rfl, (HBD _).out⟩
      · rw [show (true && (decide (ky.length ≤ 1048576) && (decide (0 ≤ dl) && (decide (dl ≤ 9007199254740992) && rp)))) = false by simp [hd0]]
        have hd2 : decide (0 ≤ dl) = false := decide_eq_false hd0
        go_enter Tryz.func31, Tryz.ntmps31
        go_upto_region 1 with fail
        go_quiet (fail)
        go_wp2_with fail
        go_ret
        exact ⟨rfl, (HBD _).out⟩
    · rw [show (true && (decide (ky.length ≤ 1048576) && (decide (0 ≤ dl) && (decide (dl ≤ 9007199254740992) && rp)))) = false by simp [hlen]]
      have hl1 : decide ((ky.length : Int) ≤ 1048576) = false := decide_eq_false (by omega)
      have hl2 : decide (ky.length ≤ 1048576) = false := decide_eq_false hlen
      go_enter Tryz.func31, Tryz.ntmps31
      go_upto_region 1 with fail
      go_quiet (fail)
      go_wp2_with fail
      go_ret
      exact ⟨rfl, (HBD _).out⟩
  · obtain ⟨m, rfl⟩ : ∃ m, n = m + 1 := ⟨n - 1, by omega⟩
    rw [Nat.add_sub_cancel] at hcl
    have hnz : (((m + 1 : Nat) : Int) == 0) = false := by simp; omega
    have hw1 : IntKind.i64.wrap (((m + 1 : Nat) : Int) - 1) = (m : Int) := by rw [IntKind.wrap_i64]; omega
    have hm0 : (0 : Int) ≤ (m : Int) := by omega
    have hm1 : (m : Int) < ((m + 1 : Nat) : Int) := by omega
    have HCL := Lib.hid hcl
    obtain ⟨k, hk1⟩ : ∃ k, m + 1 = k := ⟨_, rfl⟩
    rw [hk1] at hnz hw1 hm1 ⊢
    have hkk : (k : Int) - 1 = (m : Int) := by omega
    have hw2 : IntKind.i64.wrap (m : Int) = (m : Int) := by rw [IntKind.wrap_i64]; omega
    clear hw1
    clear hk1 hn0 hn2
    cases fb with
    | false =>
      rw [Bool.false_and]
      go_enter Tryz.func31, Tryz.ntmps31
      go_upto_region 1 with fail
      go_quiet (fail)
      go_wp2_with fail
      go_ret
      exact ⟨rfl, (HBD _).out⟩
    | true =>
      by_cases hlen : ky.length ≤ 1048576
      · have hl1 : decide ((ky.length : Int) ≤ 1048576) = true := by simp; omega
        have hl2 : (ky.length : Int) ≤ 1048576 := by omega
        by_cases hd0 : 0 ≤ dl
        · by_cases hdm : dl ≤ 9007199254740992
          · rw [show (true && (decide (ky.length ≤ 1048576) && (decide (0 ≤ dl) && (decide (dl ≤ 9007199254740992) && rp)))) = rp by simp [hlen, hd0, hdm]]
            have HS : Hid (∀ w', Below W0.heap.size W0 w' → (w'.cell? ⟨w.heap.size, 0, none⟩ = some (.string ⟨ky.toArray⟩) ∧ w'.cell? ⟨w.heap.size, 1, none⟩ = some (.int .i64 p.kind) ∧ w'.cell? ⟨w.heap.size, 2, none⟩ = some (.string ⟨p.text.toArray⟩) ∧ w'.cell? ⟨w.heap.size, 3, none⟩ = some (.slice a1 p.items.length c1) ∧ w'.cell? ⟨w.heap.size, 4, none⟩ = some (.slice a2 p.pairs.length c2) ∧ w'.cell? ⟨w.heap.size, 5, none⟩ = some (.slice a3 p.ranks.length c3) ∧ w'.cell? ⟨w.heap.size, 6, none⟩ = some (.int .i64 dl) ∧ w'.cell? (z.add (m * 7)) = some (.string ⟨lk.toArray⟩))) := Lib.hid fun w' hw' => by
              have h := (hw'.block _ (by omega)).trans HXB.out
              exact ⟨cell_of_row w' _ 0 _ _ _ h, cell_of_row w' _ 1 _ _ _ h, cell_of_row w' _ 2 _ _ _ h, cell_of_row w' _ 3 _ _ _ h, cell_of_row w' _ 4 _ _ _ h, cell_of_row w' _ 5 _ _ _ h, cell_of_row w' _ 6 _ _ _ h, (hw'.cell (p := z.add (m * 7)) (World.block_lt_of_cell? _ _ HCL.out)).trans HCL.out⟩
            go_enter Tryz.func31, Tryz.ntmps31
            go_upto_region 1 with fail
            refine wp_region_held_drew (S := fun w' => w'.cell? ⟨w.heap.size, 0, none⟩ = some (.string ⟨ky.toArray⟩) ∧ w'.cell? ⟨w.heap.size, 1, none⟩ = some (.int .i64 p.kind) ∧ w'.cell? ⟨w.heap.size, 2, none⟩ = some (.string ⟨p.text.toArray⟩) ∧ w'.cell? ⟨w.heap.size, 3, none⟩ = some (.slice a1 p.items.length c1) ∧ w'.cell? ⟨w.heap.size, 4, none⟩ = some (.slice a2 p.pairs.length c2) ∧ w'.cell? ⟨w.heap.size, 5, none⟩ = some (.slice a3 p.ranks.length c3) ∧ w'.cell? ⟨w.heap.size, 6, none⟩ = some (.int .i64 dl) ∧ w'.cell? (z.add (m * 7)) = some (.string ⟨lk.toArray⟩)) hmx (HS.out _ ((Below.refl _ W0).drew)) (fun hHeld => ?_)
            simp only [List.size_toArray, List.length_cons, List.length_nil, Nat.zero_add, Nat.reduceAdd]
            refine wpAnyH_take (i := 0) (v := ?vv100) rfl (by kernel_rfl) (by kernel_rfl) (by kernel_rfl) (fun _ _ _ h => h) (Or.inl ⟨by rfl, ?hy100⟩) hHeld ?rest100
            case hy100 =>
              intro W hSw
              obtain ⟨s0, s1, s2, s3, s4, s5, s6, s7⟩ := hSw
              go_simp
              all_goals with_reducible rfl
            try simp only [Act.put, List.setIfInBounds_toArray, List.set_cons_zero, List.set_cons_succ, List.getElem_toArray, List.getElem_cons_zero, List.getElem_cons_succ]
            refine wpAnyH_take (i := 1) (v := ?vv101) rfl (by kernel_rfl) (by kernel_rfl) (by kernel_rfl) (fun _ _ _ h => h) (Or.inl ⟨by rfl, ?hy101⟩) hHeld ?rest101
            case hy101 =>
              intro W hSw
              obtain ⟨s0, s1, s2, s3, s4, s5, s6, s7⟩ := hSw
              go_simp
              all_goals with_reducible rfl
            try simp only [Act.put, List.setIfInBounds_toArray, List.set_cons_zero, List.set_cons_succ, List.getElem_toArray, List.getElem_cons_zero, List.getElem_cons_succ]
            refine wpAnyH_take (i := 2) (v := ?vv102) rfl (by kernel_rfl) (by kernel_rfl) (by kernel_rfl) (fun _ _ _ h => h) (Or.inl ⟨by rfl, ?hy102⟩) hHeld ?rest102
            case hy102 =>
              intro W hSw
              obtain ⟨s0, s1, s2, s3, s4, s5, s6, s7⟩ := hSw
              go_simp
              all_goals with_reducible rfl
            try simp only [Act.put, List.setIfInBounds_toArray, List.set_cons_zero, List.set_cons_succ, List.getElem_toArray, List.getElem_cons_zero, List.getElem_cons_succ]
            refine wpAnyH_take (i := 3) (v := ?vv103) rfl (by kernel_rfl) (by kernel_rfl) (by kernel_rfl) (fun _ _ _ h => h) (Or.inl ⟨by rfl, ?hy103⟩) hHeld ?rest103
            case hy103 =>
              intro W hSw
              obtain ⟨s0, s1, s2, s3, s4, s5, s6, s7⟩ := hSw
              go_simp
              all_goals with_reducible rfl
            try simp only [Act.put, List.setIfInBounds_toArray, List.set_cons_zero, List.set_cons_succ, List.getElem_toArray, List.getElem_cons_zero, List.getElem_cons_succ]
            refine wpAnyH_take (i := 4) (v := ?vv104) rfl (by kernel_rfl) (by kernel_rfl) (by kernel_rfl) (fun _ _ _ h => h) (Or.inl ⟨by rfl, ?hy104⟩) hHeld ?rest104
            case hy104 =>
              intro W hSw
              obtain ⟨s0, s1, s2, s3, s4, s5, s6, s7⟩ := hSw
              go_simp
              all_goals with_reducible rfl
            try simp only [Act.put, List.setIfInBounds_toArray, List.set_cons_zero, List.set_cons_succ, List.getElem_toArray, List.getElem_cons_zero, List.getElem_cons_succ]
            refine wpAnyH_take (i := 5) (v := ?vv105) rfl (by kernel_rfl) (by kernel_rfl) (by kernel_rfl) (fun _ _ _ h => h) (Or.inl ⟨by rfl, ?hy105⟩) hHeld ?rest105
            case hy105 =>
              intro W hSw
              obtain ⟨s0, s1, s2, s3, s4, s5, s6, s7⟩ := hSw
              go_simp
              all_goals with_reducible rfl
            try simp only [Act.put, List.setIfInBounds_toArray, List.set_cons_zero, List.set_cons_succ, List.getElem_toArray, List.getElem_cons_zero, List.getElem_cons_succ]
            refine wpAnyH_take (i := 6) (v := ?vv106) rfl (by kernel_rfl) (by kernel_rfl) (by kernel_rfl) (fun _ _ _ h => h) (Or.inl ⟨by rfl, ?hy106⟩) hHeld ?rest106
            case hy106 =>
              intro W hSw
              obtain ⟨s0, s1, s2, s3, s4, s5, s6, s7⟩ := hSw
              go_simp
              all_goals with_reducible rfl
            try simp only [Act.put, List.setIfInBounds_toArray, List.set_cons_zero, List.set_cons_succ, List.getElem_toArray, List.getElem_cons_zero, List.getElem_cons_succ]
            refine wpAnyH_take (i := 7) (v := ?vv107) rfl (by kernel_rfl) (by kernel_rfl) (by kernel_rfl) (fun _ _ _ h => h) (Or.inl ⟨by rfl, ?hy107⟩) hHeld ?rest107
            case hy107 =>
              intro W hSw
              obtain ⟨s0, s1, s2, s3, s4, s5, s6, s7⟩ := hSw
              go_simp
              all_goals with_reducible rfl
            try simp only [Act.put, List.setIfInBounds_toArray, List.set_cons_zero, List.set_cons_succ, List.getElem_toArray, List.getElem_cons_zero, List.getElem_cons_succ]
            refine wpAnyH_take (i := 8) (v := ?vv108) rfl (by kernel_rfl) (by kernel_rfl) (by kernel_rfl) (fun _ _ _ h => h) (Or.inl ⟨by rfl, ?hy108⟩) hHeld ?rest108
            case hy108 =>
              intro W hSw
              obtain ⟨s0, s1, s2, s3, s4, s5, s6, s7⟩ := hSw
              go_simp
              all_goals with_reducible rfl
            try simp only [Act.put, List.setIfInBounds_toArray, List.set_cons_zero, List.set_cons_succ, List.getElem_toArray, List.getElem_cons_zero, List.getElem_cons_succ]
            refine wpAnyH_take (i := 9) (v := ?vv109) rfl (by kernel_rfl) (by kernel_rfl) (by kernel_rfl) (fun _ _ _ h => h) (Or.inl ⟨by rfl, ?hy109⟩) hHeld ?rest109
            case hy109 =>
              intro W hSw
              obtain ⟨s0, s1, s2, s3, s4, s5, s6, s7⟩ := hSw
              go_simp
              all_goals with_reducible rfl
            try simp only [Act.put, List.setIfInBounds_toArray, List.set_cons_zero, List.set_cons_succ, List.getElem_toArray, List.getElem_cons_zero, List.getElem_cons_succ]
            refine wpAnyH_take (i := 10) (v := ?vv110) rfl (by kernel_rfl) (by kernel_rfl) (by kernel_rfl) (fun _ _ _ h => h) (Or.inl ⟨by rfl, ?hy110⟩) hHeld ?rest110
            case hy110 =>
              intro W hSw
              obtain ⟨s0, s1, s2, s3, s4, s5, s6, s7⟩ := hSw
              go_simp
              all_goals with_reducible rfl
            try simp only [Act.put, List.setIfInBounds_toArray, List.set_cons_zero, List.set_cons_succ, List.getElem_toArray, List.getElem_cons_zero, List.getElem_cons_succ]
            refine wpAnyH_take (i := 11) (v := ?vv111) rfl (by kernel_rfl) (by kernel_rfl) (by kernel_rfl) (fun _ _ _ h => h) (Or.inl ⟨by rfl, ?hy111⟩) hHeld ?rest111
            case hy111 =>
              intro W hSw
              obtain ⟨s0, s1, s2, s3, s4, s5, s6, s7⟩ := hSw
              go_simp
              all_goals with_reducible rfl
            try simp only [Act.put, List.setIfInBounds_toArray, List.set_cons_zero, List.set_cons_succ, List.getElem_toArray, List.getElem_cons_zero, List.getElem_cons_succ]
            refine wpAnyH_take (i := 12) (v := ?vv112) rfl (by kernel_rfl) (by kernel_rfl) (by kernel_rfl) (fun _ _ _ h => h) (Or.inl ⟨by rfl, ?hy112⟩) hHeld ?rest112
            case hy112 =>
              intro W hSw
              obtain ⟨s0, s1, s2, s3, s4, s5, s6, s7⟩ := hSw
              go_simp
              all_goals with_reducible rfl
            try simp only [Act.put, List.setIfInBounds_toArray, List.set_cons_zero, List.set_cons_succ, List.getElem_toArray, List.getElem_cons_zero, List.getElem_cons_succ]
            refine wpAnyH_take (i := 13) (v := ?vv113) rfl (by kernel_rfl) (by kernel_rfl) (by kernel_rfl) (fun _ _ _ h => h) (Or.inl ⟨by rfl, ?hy113⟩) hHeld ?rest113
            case hy113 =>
              intro W hSw
              obtain ⟨s0, s1, s2, s3, s4, s5, s6, s7⟩ := hSw
              go_simp
              all_goals with_reducible rfl
            try simp only [Act.put, List.setIfInBounds_toArray, List.set_cons_zero, List.set_cons_succ, List.getElem_toArray, List.getElem_cons_zero, List.getElem_cons_succ]
            refine wpAnyH_take (i := 14) (v := ?vv114) rfl (by kernel_rfl) (by kernel_rfl) (by kernel_rfl) (fun _ _ _ h => h) (Or.inl ⟨by rfl, ?hy114⟩) hHeld ?rest114
            case hy114 =>
              intro W hSw
              obtain ⟨s0, s1, s2, s3, s4, s5, s6, s7⟩ := hSw
              go_simp
              all_goals with_reducible rfl
            try simp only [Act.put, List.setIfInBounds_toArray, List.set_cons_zero, List.set_cons_succ, List.getElem_toArray, List.getElem_cons_zero, List.getElem_cons_succ]
            refine wpAnyH_take (i := 15) (v := ?vv115) rfl (by kernel_rfl) (by kernel_rfl) (by kernel_rfl) (fun _ _ _ h => h) (Or.inl ⟨by rfl, ?hy115⟩) hHeld ?rest115
            case hy115 =>
              intro W hSw
              obtain ⟨s0, s1, s2, s3, s4, s5, s6, s7⟩ := hSw
              go_simp
              all_goals with_reducible rfl
            try simp only [Act.put, List.setIfInBounds_toArray, List.set_cons_zero, List.set_cons_succ, List.getElem_toArray, List.getElem_cons_zero, List.getElem_cons_succ]
            refine wpAnyH_take (i := 16) (v := ?vv116) rfl (by kernel_rfl) (by kernel_rfl) (by kernel_rfl) (fun _ _ _ h => h) (Or.inl ⟨by rfl, ?hy116⟩) hHeld ?rest116
            case hy116 =>
              intro W hSw
              obtain ⟨s0, s1, s2, s3, s4, s5, s6, s7⟩ := hSw
              go_simp
              all_goals with_reducible rfl
            try simp only [Act.put, List.setIfInBounds_toArray, List.set_cons_zero, List.set_cons_succ, List.getElem_toArray, List.getElem_cons_zero, List.getElem_cons_succ]
            refine wpAnyH_take (i := 17) (v := ?vv117) rfl (by kernel_rfl) (by kernel_rfl) (by kernel_rfl) (fun _ _ _ h => h) (Or.inl ⟨by rfl, ?hy117⟩) hHeld ?rest117
            case hy117 =>
              intro W hSw
              obtain ⟨s0, s1, s2, s3, s4, s5, s6, s7⟩ := hSw
              go_simp
              all_goals with_reducible rfl
            try simp only [Act.put, List.setIfInBounds_toArray, List.set_cons_zero, List.set_cons_succ, List.getElem_toArray, List.getElem_cons_zero, List.getElem_cons_succ]
            refine wpAnyH_take (i := 18) (v := ?vv118) rfl (by kernel_rfl) (by kernel_rfl) (by kernel_rfl) (fun _ _ _ h => h) (Or.inl ⟨by rfl, ?hy118⟩) hHeld ?rest118
            case hy118 =>
              intro W hSw
              obtain ⟨s0, s1, s2, s3, s4, s5, s6, s7⟩ := hSw
              go_simp
              all_goals with_reducible rfl
            try simp only [Act.put, List.setIfInBounds_toArray, List.set_cons_zero, List.set_cons_succ, List.getElem_toArray, List.getElem_cons_zero, List.getElem_cons_succ]
            refine wpAnyH_take (i := 19) (v := ?vv119) rfl (by kernel_rfl) (by kernel_rfl) (by kernel_rfl) (fun _ _ _ h => h) (Or.inl ⟨by rfl, ?hy119⟩) hHeld ?rest119
            case hy119 =>
              intro W hSw
              obtain ⟨s0, s1, s2, s3, s4, s5, s6, s7⟩ := hSw
              go_simp
              all_goals with_reducible rfl
            try simp only [Act.put, List.setIfInBounds_toArray, List.set_cons_zero, List.set_cons_succ, List.getElem_toArray, List.getElem_cons_zero, List.getElem_cons_succ]
            refine wpAnyH_take (i := 20) (v := ?vv120) rfl (by kernel_rfl) (by kernel_rfl) (by kernel_rfl) (fun _ _ _ h => h) (Or.inl ⟨by rfl, ?hy120⟩) hHeld ?rest120
            case hy120 =>
              intro W hSw
              obtain ⟨s0, s1, s2, s3, s4, s5, s6, s7⟩ := hSw
              go_simp
              all_goals with_reducible rfl
            try simp only [Act.put, List.setIfInBounds_toArray, List.set_cons_zero, List.set_cons_succ, List.getElem_toArray, List.getElem_cons_zero, List.getElem_cons_succ]
            refine wpAnyH_take (i := 21) (v := ?vv121) rfl (by kernel_rfl) (by kernel_rfl) (by kernel_rfl) (fun _ _ _ h => h) (Or.inl ⟨by rfl, ?hy121⟩) hHeld ?rest121
            case hy121 =>
              intro W hSw
              obtain ⟨s0, s1, s2, s3, s4, s5, s6, s7⟩ := hSw
              go_simp
              all_goals with_reducible rfl
            try simp only [Act.put, List.setIfInBounds_toArray, List.set_cons_zero, List.set_cons_succ, List.getElem_toArray, List.getElem_cons_zero, List.getElem_cons_succ]
            refine wpAnyH_take (i := 22) (v := ?vv122) rfl (by kernel_rfl) (by kernel_rfl) (by kernel_rfl) (fun _ _ _ h => h) (Or.inl ⟨by rfl, ?hy122⟩) hHeld ?rest122
            case hy122 =>
              intro W hSw
              obtain ⟨s0, s1, s2, s3, s4, s5, s6, s7⟩ := hSw
              go_simp
              all_goals with_reducible rfl
            try simp only [Act.put, List.setIfInBounds_toArray, List.set_cons_zero, List.set_cons_succ, List.getElem_toArray, List.getElem_cons_zero, List.getElem_cons_succ]
            refine wpAnyH_take (i := 23) (v := ?vv123) rfl (by kernel_rfl) (by kernel_rfl) (by kernel_rfl) (fun _ _ _ h => h) (Or.inl ⟨by rfl, ?hy123⟩) hHeld ?rest123
            case hy123 =>
              intro W hSw
              obtain ⟨s0, s1, s2, s3, s4, s5, s6, s7⟩ := hSw
              go_simp
              all_goals with_reducible rfl
            try simp only [Act.put, List.setIfInBounds_toArray, List.set_cons_zero, List.set_cons_succ, List.getElem_toArray, List.getElem_cons_zero, List.getElem_cons_succ]
            refine wpAnyH_take (i := 24) (v := ?vv124) rfl (by kernel_rfl) (by kernel_rfl) (by kernel_rfl) (fun _ _ _ h => h) (Or.inl ⟨by rfl, ?hy124⟩) hHeld ?rest124
            case hy124 =>
              intro W hSw
              obtain ⟨s0, s1, s2, s3, s4, s5, s6, s7⟩ := hSw
              go_simp
              all_goals with_reducible rfl
            try simp only [Act.put, List.setIfInBounds_toArray, List.set_cons_zero, List.set_cons_succ, List.getElem_toArray, List.getElem_cons_zero, List.getElem_cons_succ]
            refine wpAnyH_take (i := 25) (v := ?vv125) rfl (by kernel_rfl) (by kernel_rfl) (by kernel_rfl) (fun _ _ _ h => h) (Or.inl ⟨by rfl, ?hy125⟩) hHeld ?rest125
            case hy125 =>
              intro W hSw
              obtain ⟨s0, s1, s2, s3, s4, s5, s6, s7⟩ := hSw
              go_simp
              all_goals with_reducible rfl
            try simp only [Act.put, List.setIfInBounds_toArray, List.set_cons_zero, List.set_cons_succ, List.getElem_toArray, List.getElem_cons_zero, List.getElem_cons_succ]
            refine wpAnyH_take (i := 26) (v := ?vv126) rfl (by kernel_rfl) (by kernel_rfl) (by kernel_rfl) (fun _ _ _ h => h) (Or.inl ⟨by rfl, ?hy126⟩) hHeld ?rest126
            case hy126 =>
              intro W hSw
              obtain ⟨s0, s1, s2, s3, s4, s5, s6, s7⟩ := hSw
              go_simp
              all_goals with_reducible rfl
            try simp only [Act.put, List.setIfInBounds_toArray, List.set_cons_zero, List.set_cons_succ, List.getElem_toArray, List.getElem_cons_zero, List.getElem_cons_succ]
            refine wpAnyH_take (i := 27) (v := ?vv127) rfl (by kernel_rfl) (by kernel_rfl) (by kernel_rfl) (fun _ _ _ h => h) (Or.inl ⟨by rfl, ?hy127⟩) hHeld ?rest127
            case hy127 =>
              intro W hSw
              obtain ⟨s0, s1, s2, s3, s4, s5, s6, s7⟩ := hSw
              go_simp
              all_goals with_reducible rfl
            try simp only [Act.put, List.setIfInBounds_toArray, List.set_cons_zero, List.set_cons_succ, List.getElem_toArray, List.getElem_cons_zero, List.getElem_cons_succ]
            refine wpAnyH_take (i := 28) (v := ?vv128) rfl (by kernel_rfl) (by kernel_rfl) (by kernel_rfl) (fun _ _ _ h => h) (Or.inl ⟨by rfl, ?hy128⟩) hHeld ?rest128
            case hy128 =>
              intro W hSw
              obtain ⟨s0, s1, s2, s3, s4, s5, s6, s7⟩ := hSw
              go_simp
              all_goals with_reducible rfl
            try simp only [Act.put, List.setIfInBounds_toArray, List.set_cons_zero, List.set_cons_succ, List.getElem_toArray, List.getElem_cons_zero, List.getElem_cons_succ]
            refine wpAnyH_take (i := 29) (v := ?vv129) rfl (by kernel_rfl) (by kernel_rfl) (by kernel_rfl) (fun _ _ _ h => h) (Or.inl ⟨by rfl, ?hy129⟩) hHeld ?rest129
            case hy129 =>
              intro W hSw
              obtain ⟨s0, s1, s2, s3, s4, s5, s6, s7⟩ := hSw
              go_simp
              all_goals with_reducible rfl
            try simp only [Act.put, List.setIfInBounds_toArray, List.set_cons_zero, List.set_cons_succ, List.getElem_toArray, List.getElem_cons_zero, List.getElem_cons_succ]
            refine wpAnyH_take (i := 30) (v := ?vv130) rfl (by kernel_rfl) (by kernel_rfl) (by kernel_rfl) (fun _ _ _ h => h) (Or.inl ⟨by rfl, ?hy130⟩) hHeld ?rest130
            case hy130 =>
              intro W hSw
              obtain ⟨s0, s1, s2, s3, s4, s5, s6, s7⟩ := hSw
              go_simp
              all_goals with_reducible rfl
            try simp only [Act.put, List.setIfInBounds_toArray, List.set_cons_zero, List.set_cons_succ, List.getElem_toArray, List.getElem_cons_zero, List.getElem_cons_succ]
            refine wpAnyH_take (i := 31) (v := ?vv131) rfl (by kernel_rfl) (by kernel_rfl) (by kernel_rfl) (fun _ _ _ h => h) (Or.inl ⟨by rfl, ?hy131⟩) hHeld ?rest131
            case hy131 =>
              intro W hSw
              obtain ⟨s0, s1, s2, s3, s4, s5, s6, s7⟩ := hSw
              go_simp
              all_goals with_reducible rfl
            try simp only [Act.put, List.setIfInBounds_toArray, List.set_cons_zero, List.set_cons_succ, List.getElem_toArray, List.getElem_cons_zero, List.getElem_cons_succ]
            refine wpAnyH_take (i := 32) (v := ?vv132) rfl (by kernel_rfl) (by kernel_rfl) (by kernel_rfl) (fun _ _ _ h => h) (Or.inl ⟨by rfl, ?hy132⟩) hHeld ?rest132
            case hy132 =>
              intro W hSw
              obtain ⟨s0, s1, s2, s3, s4, s5, s6, s7⟩ := hSw
              go_simp
              all_goals with_reducible rfl
            try simp only [Act.put, List.setIfInBounds_toArray, List.set_cons_zero, List.set_cons_succ, List.getElem_toArray, List.getElem_cons_zero, List.getElem_cons_succ]
            refine wpAnyH_take (i := 33) (v := ?vv133) rfl (by kernel_rfl) (by kernel_rfl) (by kernel_rfl) (fun _ _ _ h => h) (Or.inl ⟨by rfl, ?hy133⟩) hHeld ?rest133
            case hy133 =>
              intro W hSw
              obtain ⟨s0, s1, s2, s3, s4, s5, s6, s7⟩ := hSw
              go_simp
              all_goals with_reducible rfl
            try simp only [Act.put, List.setIfInBounds_toArray, List.set_cons_zero, List.set_cons_succ, List.getElem_toArray, List.getElem_cons_zero, List.getElem_cons_succ]
            refine wpAnyH_ready (rs := [34]) (by kernel_rfl) (by simp) ?_
            refine AllReadyH.cons rfl (fun K hK => ?_) AllReadyH.nil
            go_simp
            refine HR0.out.mono ?_
            rintro e w2 ⟨rfl, hb2⟩
            have HB2 := Lib.hid (HB0.out.drew.trans (hb2.mono HB0.out.size))
            have hS2 := (HS.out w2) (((Below.refl _ W0).drew).trans (hb2.mono (Nat.le_refl _)))
            clear hb2
            go_wp2_with fail
            refine hK.out _ _ hS2 (fun hHeld => ?_)
            clear hK K
            try simp only [Act.put, List.setIfInBounds_toArray, List.set_cons_zero, List.set_cons_succ, List.getElem_toArray, List.getElem_cons_zero, List.getElem_cons_succ]
            refine wpAnyH_take (i := 35) (v := ?vv135) rfl (by kernel_rfl) (by kernel_rfl) (by kernel_rfl) (fun _ _ _ h => h) (Or.inl ⟨by rfl, ?hy135⟩) hHeld ?rest135
            case hy135 =>
              intro W hSw
              obtain ⟨s0, s1, s2, s3, s4, s5, s6, s7⟩ := hSw
              go_simp
              all_goals with_reducible rfl
            try simp only [Act.put, List.setIfInBounds_toArray, List.set_cons_zero, List.set_cons_succ, List.getElem_toArray, List.getElem_cons_zero, List.getElem_cons_succ]
            refine wpAnyH_take (i := 36) (v := ?vv136) rfl (by kernel_rfl) (by kernel_rfl) (by kernel_rfl) (fun _ _ _ h => h) (Or.inl ⟨by rfl, ?hy136⟩) hHeld ?rest136
            case hy136 =>
              intro W hSw
              obtain ⟨s0, s1, s2, s3, s4, s5, s6, s7⟩ := hSw
              go_simp
              all_goals with_reducible rfl
            try simp only [Act.put, List.setIfInBounds_toArray, List.set_cons_zero, List.set_cons_succ, List.getElem_toArray, List.getElem_cons_zero, List.getElem_cons_succ]
            refine wpAnyH_done (by kernel_rfl) ?_ _
            go_wp2_with fail
            go_ret
            exact ⟨rfl, HB2.out⟩
          · rw [show (true && (decide (ky.length ≤ 1048576) && (decide (0 ≤ dl) && (decide (dl ≤ 9007199254740992) && rp)))) = false by simp [hdm]]
            have hdm2 : decide (dl ≤ 9007199254740992) = false := decide_eq_false hdm
            go_enter Tryz.func31, Tryz.ntmps31
            go_upto_region 1 with fail
            go_quiet (fail)
            go_wp2_with fail
            go_ret
            exact ⟨rfl, (HBD _).out⟩
        · rw [show (true && (decide (ky.length ≤ 1048576) && (decide (0 ≤ dl) && (decide (dl ≤ 9007199254740992) && rp)))) = false by simp [hd0]]
          have hd2 : decide (0 ≤ dl) = false := decide_eq_false hd0
          go_enter Tryz.func31, Tryz.ntmps31
          go_upto_region 1 with fail
          go_quiet (fail)
          go_wp2_with fail
          go_ret
          exact ⟨rfl, (HBD _).out⟩
      · rw [show (true && (decide (ky.length ≤ 1048576) && (decide (0 ≤ dl) && (decide (dl ≤ 9007199254740992) && rp)))) = false by simp [hlen]]
        have hl1 : decide ((ky.length : Int) ≤ 1048576) = false := decide_eq_false (by omega)
        have hl2 : decide (ky.length ≤ 1048576) = false := decide_eq_false hlen
        go_enter Tryz.func31, Tryz.ntmps31
        go_upto_region 1 with fail
        go_quiet (fail)
        go_wp2_with fail
        go_ret
        exact ⟨rfl, (HBD _).out⟩
end Go.Proofs.YteiklgbjjmlmaaaGreat


/- snapshot.Sum: what it answers. -/
set_option linter.unusedVariables false
namespace Go.Proofs.YteiklgbjjmlmaaaGreat
open Go.RowKit Pantry

set_option maxHeartbeats 400000 in
theorem impSum_any (a : Option Addr) (len cap : Nat) (l : List Nat) (w : World)
   (hl : l.length = len) (hm : len ≤ 9223372036854775807)
   (hc : ∀ i, i < len → ∃ x, a = some x ∧ w.cell? (x.add i) = some (.int .u8 (l.getD i 0 : Nat)))
   (hz : ∀ i ∈ l, i < 256) :
    Calls Tryz.prog 24 #[.slice a len cap] w fun e w' => e = .returned (.int .u64 (Crc.sum l : Nat)) ∧ w = w' := by
  have HL := Lib.hid hl
  clear hl
  go_enter Tryz.func24, Tryz.ntmps24
  go_wp2
  go_loop [3, 9] (fun r i => ∃ k : Nat, k ≤ len ∧ i = .int .i64 k ∧ r = .int .u64 (Crc.run (l.take k) : Nat)) (fun _ i => len - (intOf i).toNat)
  case atStart => exact ⟨0, Nat.zero_le _, rfl, rfl⟩
  case round =>
    obtain ⟨k, hk, rfl, rfl⟩ := hrel
    by_cases hlt : k < len
    · obtain ⟨x, rfl, hcell⟩ := hc k hlt
      obtain ⟨c, hcc⟩ : ∃ c, l.getD k 0 = c := ⟨_, rfl⟩
      rw [hcc] at hcell
      have hkl : k < l.length := by rw [HL.out]; exact hlt
      have hgd : l.getD k 0 = l[k] := by simp [hkl]
      have hcl : c < 256 := hz c (by rw [← hcc, hgd]; exact List.getElem_mem hkl)
      have hslt : Crc.run (l.take k) < Crc.top := Crc.run_lt _ fun c hc => hz c (List.mem_of_mem_take hc)
      have hnext : Crc.iter 8 (Crc.run (l.take k) ^^^ c) = Crc.run (l.take (k + 1)) := by
        rw [← hcc, hgd, List.take_succ_eq_append_getElem hkl, Crc.run_snoc, Crc.byte]
      obtain ⟨s, hs⟩ : ∃ s, Crc.run (l.take k) = s := ⟨_, rfl⟩
      rw [hs] at hnext hslt ⊢
      have hx : bits BinOp.xor IntKind.u64 (s : Int) (c : Int) = ((s ^^^ c : Nat) : Int) :=
        Crc.xor_int hslt (Nat.lt_trans hcl (by decide))
      have hlo : s ^^^ c < Crc.top := Crc.xor_lt hslt (Nat.lt_trans hcl (by decide))
      obtain ⟨m, hm'⟩ : ∃ m, s ^^^ c = m := ⟨_, rfl⟩
      rw [hm'] at hx hnext hlo
      have HN := Lib.hid hnext
      have HX := Lib.hid hx
      clear hs hc hcc hgd hm' hnext hx
      go_wp2
      go_loop [3, 17] (fun r i => ∃ j : Nat, j ≤ 8 ∧ i = .int .i64 j ∧ r = .int .u64 (Crc.iter j m : Nat)) (fun _ i => 8 - (intOf i).toNat)
      case atStart => exact ⟨0, Nat.zero_le _, rfl, by rw [HX.out]; rfl⟩
      case round =>
        obtain ⟨j, hj, rfl, rfl⟩ := hrel
        have hil := Crc.iter_lt hlo j
        obtain ⟨n, hn⟩ : ∃ n, Crc.iter j m = n := ⟨_, rfl⟩
        have hb : Crc.iter (j + 1) m = Crc.bit n := by rw [← hn]; rfl
        rw [hn] at hil ⊢
        have HB := Lib.hid hb
        have HJ := Lib.hid hn
        clear hb hn
        by_cases hlt : j < 8
        · go_wp2
          all_goals
            go_round
            case rel => exact ⟨j + 1, by omega, by go_num, by rw [HB.out]; exact Crc.int_u64 (by first | exact Crc.low_one hil ‹_› | exact Crc.low_zero hil ‹_›)⟩
            case measure => simp [intOf]; omega
        · obtain rfl : j = 8 := by omega
          go_wp2
          go_round
          case rel => exact ⟨k + 1, by omega, by go_num, by rw [← HN.out, HJ.out]⟩
          case measure => simp [intOf]; omega
    · go_wp2
      go_ret
      exact ⟨by rw [List.take_of_length_le (by rw [HL.out]; omega), Crc.flip_int (Crc.run_lt _ hz)]; rfl, rfl⟩

/-- The sum of a row of bytes. -/
theorem sum_any (a : Option Addr) (n c : Nat) (l : List UInt8) (w : World) (hl : l.length = n) (hm : n ≤ 9223372036854775807) (hr : Rd w a (b8 l)) :
    Calls Tryz.prog 24 #[.slice a n c] w fun e w' => e = .returned (.int .u64 (sumB l : Nat)) ∧ w = w' := by
  refine impSum_any a n c (l.map UInt8.toNat) w (by rw [List.length_map, hl]) hm (fun i hi => ?_) (fun i hi => ?_)
  · obtain ⟨-, x, hx, hc⟩ := hr i (.int .u8 ((l.map UInt8.toNat).getD i 0 : Nat)) (by
      simp [b8, List.getElem?_eq_getElem (show i < l.length by omega)])
    exact ⟨x, hx, hc⟩
  · obtain ⟨x, -, rfl⟩ := List.mem_map.1 hi
    exact x.toNat_lt
end Go.Proofs.YteiklgbjjmlmaaaGreat
