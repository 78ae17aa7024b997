/- A chunk of a deque: put and cut. -/
import Derived.Test.YtefoieloakfhfaaZDel
import Derived.Test.YtefoieloakfhfaaZSplit
namespace Pantry
open Go Go.RowKit
/-- From w to w' block g has become o, and nothing else has changed. -/
structure Upd (g : Nat) (o : Obj) (w w' : World) : Prop where
  os : w'.os = w.os
  tape : w'.tape = w.tape
  output : w'.output = w.output
  size : w'.heap.size = w.heap.size
  here : w'.heap[g]? = some o
  other : ∀ k, k ≠ g → w'.heap[k]? = w.heap[k]?
theorem Upd.chg {g : Nat} {o : Obj} {w w' : World} (h : Upd g o w w') : Chg (fun k => k = g) w w' := ⟨h.os, h.tape, h.output, Nat.le_of_eq h.size.symm, fun k _ hk => h.other k hk⟩
theorem Upd.same {g : Nat} {o : Obj} {w : World} (h : w.heap[g]? = some o) : Upd g o w w := ⟨rfl, rfl, rfl, rfl, h, fun _ _ => rfl⟩
theorem Upd.drew {g : Nat} {o : Obj} {w w' : World} (h : Upd g o w w') : Upd g o w w'.drew := ⟨h.os, h.tape, h.output, h.size, h.here, h.other⟩
theorem Upd.setRow {g : Nat} {c : Array Value} {e : TypeId} {fr : Nat × Nat} {w w' : World} (h : Upd g (.cells c e fr) w w') (d : Array Value) : Upd g (.cells d e fr) w (w'.setRow g d) :=
  ⟨h.os, h.tape, h.output, by simpa [World.setRow] using h.size, setRow_heap w' g _ _ _ _ h.here, fun k hk => (setRow_other w' g k _ hk).trans (h.other k hk)⟩
theorem Upd.setCell {g : Nat} {c : Array Value} {e : TypeId} {w w' : World} (h : Upd g (.cells c e) w w') (j : Nat) (u : Value) : Upd g (.cells (c.setIfInBounds j u) e) w (w'.setCell ⟨g, j, none⟩ u) :=
  ⟨h.os, h.tape, h.output, by simpa using h.size, heap_setCell_same w' g j _ _ u h.here, fun k hk => (Below.heap_setCell w' ⟨g, j, none⟩ u k hk).trans (h.other k hk)⟩
/-- The cells of a chunk that has the texts c. -/
def chunkL (c : List (List UInt8)) : List Value := txts c ++ List.replicate (32 - c.length) (.string ⟨#[]⟩) ++ [.int .i64 (c.length : Int)]
theorem chunkL_length {c : List (List UInt8)} (h : c.length ≤ 32) : (chunkL c).length = 33 := by simp [chunkL, txts_length]; omega
theorem chunkL_one (c : List (List UInt8)) : ∀ u ∈ chunkL c, u.oneCell' = true := by
  intro u hu
  simp only [chunkL, List.mem_append, List.mem_replicate, List.mem_singleton] at hu
  rcases hu with (hu | ⟨_, rfl⟩) | rfl
  · exact txts_one c u hu
  · rfl
  · rfl
theorem chunkL_n {c : List (List UInt8)} (h : c.length ≤ 32) : (chunkL c)[32]? = some (.int .i64 (c.length : Int)) := by
  unfold chunkL
  rw [List.getElem?_append_right (by simp [txts_length]; omega)]
  have : 32 - (txts c ++ List.replicate (32 - c.length) (Value.string ⟨#[]⟩)).length = 0 := by simp [txts_length]; omega
  rw [this]; rfl
theorem chunkL_text {c : List (List UInt8)} {p : Nat} {x : List UInt8} (h : c[p]? = some x) : (chunkL c)[p]? = some (txt x) := by
  have hp := (List.getElem?_eq_some_iff.1 h).1
  unfold chunkL
  rw [List.append_assoc, List.getElem?_append_left (by rw [txts_length]; exact hp), txts_get, h]
  rfl
theorem chunkL_some {c : List (List UInt8)} (h : c.length ≤ 32) {p : Nat} (hp : p < 33) : ∃ u, (chunkL c)[p]? = some u := ⟨_, List.getElem?_eq_getElem (by rw [chunkL_length h]; exact hp)⟩
/-- A text put in: what the cells become. -/
theorem chunk_put {c : List (List UInt8)} {p : Nat} {s : List UInt8} (hc : c.length < 32) (hp : p ≤ c.length) :
    ((splice (chunkL c) (p + 1) (txts (c.drop p))).set p (txt s)).set 32 (.int .i64 ((c.length : Int) + 1)) = chunkL (c.take p ++ [s] ++ c.drop p) := by
  have hl : (chunkL c).length = 33 := chunkL_length (by omega)
  apply List.ext_getElem?
  intro j
  have hlen : (c.take p ++ [s] ++ c.drop p).length = c.length + 1 := by simp; omega
  have hd : (txts (c.drop p)).length = c.length - p := by rw [txts_length, List.length_drop]
  have hs : (splice (chunkL c) (p + 1) (txts (c.drop p))).length = 33 := by rw [length_splice _ _ _ (by omega), hl]
  by_cases h32 : j = 32
  · subst h32
    rw [List.getElem?_set_self (by rw [List.length_set, hs]; omega), chunkL_n (by omega), hlen]
    rfl
  · rw [List.getElem?_set_ne (by omega)]
    by_cases hjp : j = p
    · subst hjp
      rw [List.getElem?_set_self (by rw [hs]; omega)]
      refine (chunkL_text ?_).symm
      rw [List.append_assoc, List.getElem?_append_right (by rw [List.length_take]; omega), List.length_take, Nat.min_eq_left hp, Nat.sub_self]
      rfl
    · rw [List.getElem?_set_ne (by omega)]
      unfold splice
      by_cases hj33 : 33 ≤ j
      · rw [List.getElem?_eq_none (by simp; omega), List.getElem?_eq_none (by rw [chunkL_length (by omega)]; omega)]
      · by_cases hlt : j < p
        · rw [List.getElem?_append_left (by rw [List.length_take]; omega), List.getElem?_take, if_pos (by omega)]
          obtain ⟨x, hx⟩ : ∃ x, c[j]? = some x := ⟨_, List.getElem?_eq_getElem (by omega)⟩
          rw [chunkL_text hx]
          refine (chunkL_text ?_).symm
          rw [List.append_assoc, List.getElem?_append_left (by rw [List.length_take]; omega), List.getElem?_take, if_pos hlt, hx]
        · rw [List.getElem?_append_right (by rw [List.length_take]; omega), List.length_take, Nat.min_eq_left (by omega)]
          by_cases hin : j ≤ c.length
          · rw [List.getElem?_append_left (by omega), txts_get, List.getElem?_drop]
            obtain ⟨x, hx⟩ : ∃ x, c[p + (j - (p + 1))]? = some x := ⟨_, List.getElem?_eq_getElem (by omega)⟩
            rw [hx]
            refine (chunkL_text ?_).symm
            rw [List.getElem?_append_right (by simp; omega)]
            simp only [List.length_append, List.length_take, List.length_singleton, Nat.min_eq_left hp]
            rw [List.getElem?_drop, hx]
          · rw [List.getElem?_append_right (by omega), List.getElem?_drop, hd]
            have e : p + 1 + (c.length - p) + (j - (p + 1) - (c.length - p)) = j := by omega
            rw [e]
            unfold chunkL
            rw [List.getElem?_append_left (by simp [txts_length]; omega), List.getElem?_append_right (by rw [txts_length]; omega), List.getElem?_append_left (by simp [txts_length]; omega), List.getElem?_append_right (by rw [txts_length]; omega)]
            rw [List.getElem?_replicate, List.getElem?_replicate, if_pos (by rw [txts_length]; omega), if_pos (by rw [txts_length]; omega)]
/-- Texts taken out: what the cells become. -/
theorem chunk_cut {c : List (List UInt8)} {a k2 k1 : Nat} (hc : c.length ≤ 32) (hn : c.length = a + k2 + k1) :
    (splice (splice (chunkL c) a (txts (c.drop (a + k2)))) (k1 + a) (List.replicate k2 (.string ⟨#[]⟩))).set 32 (.int .i64 ((k1 : Int) + a)) = chunkL (c.take a ++ c.drop (a + k2)) := by
  have hl : (chunkL c).length = 33 := chunkL_length hc
  have hd : (txts (c.drop (a + k2))).length = k1 := by rw [txts_length, List.length_drop]; omega
  have hs : (splice (chunkL c) a (txts (c.drop (a + k2)))).length = 33 := by rw [length_splice _ _ _ (by omega), hl]
  have hs2 : (splice (splice (chunkL c) a (txts (c.drop (a + k2)))) (k1 + a) (List.replicate k2 (Value.string ⟨#[]⟩))).length = 33 := by rw [length_splice _ _ _ (by rw [hs]; simp; omega), hs]
  have hlen : (c.take a ++ c.drop (a + k2)).length = k1 + a := by simp; omega
  apply List.ext_getElem?
  intro j
  by_cases h32 : j = 32
  · subst h32
    rw [List.getElem?_set_self (by rw [hs2]; omega), chunkL_n (by omega), hlen]
    rfl
  · rw [List.getElem?_set_ne (by omega)]
    by_cases hj33 : 33 ≤ j
    · rw [List.getElem?_eq_none (by omega), List.getElem?_eq_none (by rw [chunkL_length (by omega)]; omega)]
    · have h1 : (splice (chunkL c) a (txts (c.drop (a + k2))))[j]? = if j < k1 + a then ((c.take a ++ c.drop (a + k2))[j]?).map txt else (chunkL c)[j]? := by
        unfold splice
        by_cases hja : j < a
        · rw [List.getElem?_append_left (by rw [List.length_take]; omega), List.getElem?_take, if_pos hja, if_pos (by omega), List.getElem?_append_left (by rw [List.length_take]; omega), List.getElem?_take, if_pos hja]
          obtain ⟨x, hx⟩ : ∃ x, c[j]? = some x := ⟨_, List.getElem?_eq_getElem (by omega)⟩
          rw [chunkL_text hx, hx]; rfl
        · rw [List.getElem?_append_right (by rw [List.length_take]; omega), List.length_take, Nat.min_eq_left (by omega)]
          by_cases hjk : j < k1 + a
          · rw [List.getElem?_append_left (by omega), if_pos hjk, txts_get, List.getElem?_append_right (by rw [List.length_take]; omega), List.length_take, Nat.min_eq_left (by omega)]
          · rw [List.getElem?_append_right (by omega), if_neg hjk, List.getElem?_drop, hd]
            congr 1; omega
      by_cases hjk : j < k1 + a
      · unfold splice at h1 ⊢
        rw [List.getElem?_append_left (by rw [List.length_take]; unfold splice at hs; omega), List.getElem?_take, if_pos hjk, h1, if_pos hjk]
        obtain ⟨x, hx⟩ : ∃ x, (c.take a ++ c.drop (a + k2))[j]? = some x := ⟨_, List.getElem?_eq_getElem (by omega)⟩
        rw [hx, chunkL_text hx]; rfl
      · have hR : (chunkL (c.take a ++ c.drop (a + k2)))[j]? = some (.string ⟨#[]⟩) := by
          unfold chunkL
          rw [hlen, List.getElem?_append_left (by simp only [List.length_append, txts_length, hlen, List.length_replicate]; omega), List.getElem?_append_right (by rw [txts_length, hlen]; omega), txts_length, hlen, List.getElem?_replicate, if_pos (by omega)]
        rw [hR]
        generalize splice (chunkL c) a (txts (c.drop (a + k2))) = S at h1 hs hs2 ⊢
        unfold splice
        rw [List.getElem?_append_right (by rw [List.length_take]; omega), List.length_take, Nat.min_eq_left (by omega)]
        by_cases hjn : j < c.length
        · rw [List.getElem?_append_left (by simp; omega), List.getElem?_replicate, if_pos (by omega)]
        · rw [List.getElem?_append_right (by simp; omega), List.length_replicate, List.getElem?_drop]
          rw [show k1 + a + k2 + (j - (k1 + a) - k2) = j by omega, h1, if_neg hjk]
          unfold chunkL
          rw [List.getElem?_append_left (by simp [txts_length]; omega), List.getElem?_append_right (by rw [txts_length]; omega), txts_length, List.getElem?_replicate, if_pos (by omega)]
end Pantry
namespace Go.Proofs.Ytefoieloakfhfaa
open Go.RowKit Pantry
/-- Block g is a chunk that has the texts c. -/
def ChunkAt (w : World) (g : Nat) (c : List (List UInt8)) : Prop := w.heap[g]? = some (.cells (chunkL c).toArray 66)
theorem strSize : (Try.prog.info? 9).map (·.size) = some 1 := by kernel_rfl

/-- Nothing is returned, and block g is now a chunk that has the texts c. -/
def ChunkPost (g : Nat) (c : List (List UInt8)) (w : World) (e : Ending) (w' : World) : Prop := e = .returned (.tuple #[]) ∧ Upd g (.cells (chunkL c).toArray 66) w w'

set_option maxHeartbeats 4000000 in
set_option maxRecDepth 100000 in
theorem put_any (w : World) (g p : Nat) (s : List UInt8) (c : List (List UInt8)) (h : ChunkAt w g c) (hc : c.length < 32) (hp : p ≤ c.length) :
    Calls Try.prog 56 #[.pointer (some ⟨g, 0, none⟩), .int .i64 p, .string ⟨s.toArray⟩] w (ChunkPost g (c.take p ++ [s] ++ c.drop p) w) := by
  obtain ⟨c2, hc2⟩ : ∃ c2, c.take p ++ [s] ++ c.drop p = c2 := ⟨_, rfl⟩
  rw [hc2]
  have HC2 := Lib.hid hc2
  have hl : (chunkL c).length = 33 := chunkL_length (by omega)
  have hput := chunk_put (s := s) hc hp
  rw [hc2] at hput
  have HPUT := Lib.hid hput
  clear hput hc2
  obtain ⟨n, hn⟩ : ∃ n, c.length = n := ⟨_, rfl⟩
  have hd : (txts (c.drop p)).length = n - p := by rw [txts_length, List.length_drop, hn]
  have hcn : w.cell? ⟨g, 32, none⟩ = some (.int .i64 n) := by
    rw [cell_of_row w g 32 _ _ _ h, ← Array.getElem?_toList]
    rw [List.toList_toArray, chunkL_n (by omega), hn]
  have hcp : ∀ ty dc sc, (Builtin.copy_ #[22, 22] ty #[.slice (some ⟨g, p + 1, none⟩) (n - p) dc, .slice (some ⟨g, p, none⟩) (n - p) sc]).run Try.prog w.drew = .ok (goInt (Nat.min (n - p) (n - p))) (w.drew.setRow g (splice (chunkL c) (p + 1) (txts (c.drop p))).toArray) := fun ty dc sc =>
    run_copy_gen w.drew 22 22 ty 9 g (p + 1) _ dc ⟨g, p, none⟩ _ sc (chunkL c) 66 (txts (c.drop p)) 1 Try.underlying22 strSize h (by rw [hd]; simp)
      (fun j v hj => by
        rw [Addr.add_lit]
        show w.cell? _ = _
        rw [cell_of_row w g _ _ _ _ h, ← Array.getElem?_toList, List.toList_toArray]
        rw [txts_get, List.getElem?_drop] at hj
        cases hx : c[p + j]? with
        | none => rw [hx] at hj; cases hj
        | some x => rw [hx] at hj; cases hj; exact chunkL_text hx)
      (by rw [hd, hl]; omega) (txts_one _)
  by_cases hpn : p = n
  · have hcell : ∀ j, j < 33 → w.cell? ⟨g, j, none⟩ = (chunkL c)[j]? := fun j _ => by rw [cell_of_row w g j _ _ _ h, ← Array.getElem?_toList, List.toList_toArray]
    obtain ⟨u0, hu0⟩ := chunkL_some (c := c) (by omega) (p := p) (by omega)
    have kp : w.cell? ⟨g, p, none⟩ = some u0 := (hcell p (by omega)).trans hu0
    have f32 : w.frozen? ⟨g, 32, none⟩ = false := frozen_of_row w g 32 _ _ h
    have fp : w.frozen? ⟨g, p, none⟩ = false := frozen_of_row w g p _ _ h
    have HU2 := Lib.hid (((Upd.same h).setCell p (.string ⟨s.toArray⟩)).setCell 32 (.int .i64 ((n : Int) + 1))).drew
    have HE := Lib.hid (show (((chunkL c).toArray.setIfInBounds p (.string ⟨s.toArray⟩)).setIfInBounds 32 (.int .i64 ((n : Int) + 1))) = (chunkL c2).toArray by
      rw [← HPUT.out, hn]
      have e : splice (chunkL c) (p + 1) (txts (c.drop p)) = chunkL c := by
        rw [List.drop_eq_nil_of_le (by omega)]; simp [splice, txts]
      rw [e]
      apply Array.toList_inj.1
      simp [txt])
    clear hl hd h hcell hu0 hcp
    rw [hn] at hc hp
    clear hn
    subst hpn
    have hp32 : ¬ p = 32 := by omega
    have h32p : ¬ 32 = p := by omega
    have hw1 : IntKind.i64.wrap ((p : Int) + 1) = (p : Int) + 1 := by rw [IntKind.wrap_i64]; omega
    have hb1 : (0 : Int) ≤ (p : Int) + 1 := by omega
    have hb3 : (p : Int) + 1 ≤ 32 := by omega
    have hb5 : (p : Int) ≤ 32 := by omega
    have ht1 : ((p : Int) + 1).toNat = p + 1 := by omega
    have hp31 : (p : Int) < 32 := by omega
    have hcz := fun (ty : TypeId) (a b : Option Addr) (dc sc : Nat) => run_copy_zero (P := Try.prog) w.drew 22 22 ty 9 a b 0 dc 0 sc 1 Try.underlying22 strSize rfl
    obtain rfl | hp30 : p = 31 ∨ ¬ p = 31 := Decidable.em _
    all_goals
      go_enter Try.func56, Try.ntmps56
      go_wp2_with fail
      go_region
      all_goals
        go_wp2_with fail
        go_end0
        exact ⟨rfl, by rw [← HE.out]; exact HU2.out⟩
  have hpl : p < n := by omega
  obtain ⟨L1, hL1⟩ : ∃ L1, splice (chunkL c) (p + 1) (txts (c.drop p)) = L1 := ⟨_, rfl⟩
  have hs : L1.length = 33 := by rw [← hL1, length_splice _ _ _ (by omega), hl]
  have h32 : L1[32]? = some (.int .i64 n) := by
    rw [← hL1]
    unfold splice
    rw [List.getElem?_append_right (by rw [List.length_take]; omega), List.getElem?_append_right (by rw [List.length_take]; omega), List.getElem?_drop, List.length_take, hd]
    rw [show p + 1 + (n - p) + (32 - min (p + 1) (chunkL c).length - (n - p)) = 32 by omega, chunkL_n (by omega), hn]
  rw [hL1] at hcp HPUT
  obtain ⟨W1, hW1⟩ : ∃ W1, w.drew.setRow g L1.toArray = W1 := ⟨_, rfl⟩
  have hU1 : Upd g (.cells L1.toArray 66) w W1 := by rw [← hW1]; exact (Upd.same h).drew.setRow _
  rw [hW1] at hcp
  have k32 : W1.cell? ⟨g, 32, none⟩ = some (.int .i64 n) := by rw [cell_of_row W1 g 32 _ _ _ hU1.here, ← Array.getElem?_toList, List.toList_toArray, h32]
  obtain ⟨u0, kp⟩ : ∃ u, W1.cell? ⟨g, p, none⟩ = some u := by
    rw [cell_of_row W1 g p _ _ _ hU1.here, ← Array.getElem?_toList, List.toList_toArray]
    exact ⟨_, List.getElem?_eq_getElem (by omega)⟩
  have f32 : W1.frozen? ⟨g, 32, none⟩ = false := frozen_of_row W1 g 32 _ _ hU1.here
  have fp : W1.frozen? ⟨g, p, none⟩ = false := frozen_of_row W1 g p _ _ hU1.here
  have HU2 := Lib.hid ((hU1.setCell p (.string ⟨s.toArray⟩)).setCell 32 (.int .i64 ((n : Int) + 1)))
  have HE := Lib.hid (show ((L1.toArray.setIfInBounds p (.string ⟨s.toArray⟩)).setIfInBounds 32 (.int .i64 ((n : Int) + 1))) = (chunkL c2).toArray by
    rw [← HPUT.out, hn]
    apply Array.toList_inj.1
    simp [txt])
  clear hL1 hW1 hU1 hs h32 hl hd h
  rw [hn] at hc hp
  clear hn hpn
  have hp32 : ¬ p = 32 := by omega
  have hp30 : ¬ p = 31 := by omega
  have h32p : ¬ 32 = p := by omega
  have hw1 : IntKind.i64.wrap ((p : Int) + 1) = (p : Int) + 1 := by rw [IntKind.wrap_i64]; omega
  have hw2 : IntKind.i64.wrap ((n : Int) + 1) = (n : Int) + 1 := by rw [IntKind.wrap_i64]; omega
  have hb1 : (0 : Int) ≤ (p : Int) + 1 := by omega
  have hb2 : (p : Int) + 1 ≤ (n : Int) + 1 := by omega
  have hb3 : (n : Int) + 1 ≤ 32 := by omega
  have hb4 : (p : Int) ≤ (n : Int) := by omega
  have hb5 : (n : Int) ≤ 32 := by omega
  have ht1 : ((p : Int) + 1).toNat = p + 1 := by omega
  have ht2 : ((n : Int) + 1).toNat = n + 1 := by omega
  have hp31 : (p : Int) < 32 := by omega
  go_enter Try.func56, Try.ntmps56
  go_wp2_with fail
  go_region_law (refine step_copy_run rfl _ _ 22 22 rfl (.slice (some ⟨g, p + 1, none⟩) (n - p) (32 - (p + 1))) (.slice (some ⟨g, p, none⟩) (n - p) (32 - p)) (by simp [Act.eval, Act.put]) (by simp [Act.eval, Act.put]) (hcp _ _ _) ?_)
  all_goals
    go_wp2_with fail
    go_end0
    exact ⟨rfl, by rw [← HE.out]; exact HU2.out⟩

theorem strZero (w : World) : (zeroValue 9).run Try.prog w = .ok (.string ⟨#[]⟩) w := by kernel_rfl
theorem is32 (a : Nat) : ((32 = a) = True ∧ (a = 32) = True) ∨ (¬ 32 = a ∧ ¬ a = 32) := by
  by_cases h : a = 32
  · exact .inl ⟨eq_true h.symm, eq_true h⟩
  · exact .inr ⟨fun e => h e.symm, h⟩
set_option maxHeartbeats 8000000 in
set_option maxRecDepth 100000 in
theorem cut_any (w : World) (g a t : Nat) (c : List (List UInt8)) (h : ChunkAt w g c) (hc : c.length ≤ 32) (hat : a ≤ t) (htn : t ≤ c.length) :
    Calls Try.prog 37 #[.pointer (some ⟨g, 0, none⟩), .int .i64 a, .int .i64 t] w (ChunkPost g (c.take a ++ c.drop t) w) := by
  obtain ⟨n, hn⟩ : ∃ n, c.length = n := ⟨_, rfl⟩
  obtain ⟨l, hl0⟩ : ∃ l, n - t + a = l := ⟨_, rfl⟩
  have hput := chunk_cut (c := c) (a := a) (k2 := t - a) (k1 := n - t) hc (by omega)
  rw [show a + (t - a) = t by omega, hl0, show t - a = n - l by omega, show ((n - t : Nat) : Int) + (a : Int) = (l : Int) by omega] at hput
  obtain ⟨c2, hc2⟩ : ∃ c2, c.take a ++ c.drop t = c2 := ⟨_, rfl⟩
  rw [hc2] at hput ⊢
  rw [hn] at hc htn
  have hl : (chunkL c).length = 33 := chunkL_length (by omega)
  have hd : (txts (c.drop t)).length = n - t := by rw [txts_length, List.length_drop, hn]
  have hcn : w.cell? ⟨g, 32, none⟩ = some (.int .i64 n) := by
    rw [cell_of_row w g 32 _ _ _ h, ← Array.getElem?_toList]
    rw [List.toList_toArray, chunkL_n (by omega), hn]
  obtain ⟨L1, hL1⟩ : ∃ L1, splice (chunkL c) a (txts (c.drop t)) = L1 := ⟨_, rfl⟩
  have hs : L1.length = 33 := by rw [← hL1, length_splice _ _ _ (by omega), hl]
  have h32 : L1[32]? = some (.int .i64 n) := by
    rw [← hL1]
    unfold splice
    rw [List.getElem?_append_right (by rw [List.length_take]; omega), List.getElem?_append_right (by rw [List.length_take]; omega), List.getElem?_drop, List.length_take, hd]
    rw [show a + (n - t) + (32 - min a (chunkL c).length - (n - t)) = 32 by omega, chunkL_n (by omega), hn]
  rw [hL1] at hput
  obtain ⟨W1, hU1, hcp⟩ : ∃ W1, Upd g (.cells L1.toArray 66) w W1 ∧ ∀ ty (A B : Option Addr) dc sc, (t < n → A = some ⟨g, a, none⟩ ∧ B = some ⟨g, t, none⟩) → (Builtin.copy_ #[22, 22] ty #[.slice A (32 - a) dc, .slice B (n - t) sc]).run Try.prog w.drew = .ok (goInt (n - t : Nat)) W1 := by
    by_cases hk : t = n
    · have e : L1 = chunkL c := by rw [← hL1, List.drop_eq_nil_of_le (by omega)]; simp [splice, txts]
      refine ⟨w.drew, by rw [e]; exact (Upd.same h).drew, fun ty A B dc sc _ => ?_⟩
      rw [show n - t = 0 by omega]
      exact run_copy_zero (P := Try.prog) w.drew 22 22 ty 9 _ _ _ dc 0 sc 1 Try.underlying22 strSize (Nat.zero_min _)
    · refine ⟨w.drew.setRow g L1.toArray, (Upd.same h).drew.setRow _, fun ty A B dc sc had => ?_⟩
      obtain ⟨rfl, rfl⟩ := had (by omega)
      have hr := run_copy_gen (P := Try.prog) w.drew 22 22 ty 9 g a (32 - a) dc ⟨g, t, none⟩ (n - t) sc (chunkL c) 66 (txts (c.drop t)) 1 Try.underlying22 strSize h (by rw [hd]; simp only [Nat.min_def]; split <;> omega)
        (fun j v hj => by
          rw [Addr.add_lit]
          show w.cell? _ = _
          rw [cell_of_row w g _ _ _ _ h, ← Array.getElem?_toList, List.toList_toArray]
          rw [txts_get, List.getElem?_drop] at hj
          cases hx : c[t + j]? with
          | none => rw [hx] at hj; cases hj
          | some x => rw [hx] at hj; cases hj; exact chunkL_text hx)
        (by rw [hd, hl]; omega) (txts_one _)
      rw [hr, hL1]
      congr 2
      have : Nat.min (n - t) (32 - a) = n - t := Nat.min_eq_left (by omega)
      rw [this]
  obtain ⟨L2, hL2⟩ : ∃ L2, splice L1 l (List.replicate (n - l) (Value.string ⟨#[]⟩)) = L2 := ⟨_, rfl⟩
  have hs2 : L2.length = 33 := by rw [← hL2, length_splice _ _ _ (by rw [hs]; simp; omega), hs]
  rw [hL2] at hput
  obtain ⟨W2, hU2, hclr⟩ : ∃ W2, Upd g (.cells L2.toArray 66) w W2 ∧ ∀ ty (A : Option Addr) dc, (l < n → A = some ⟨g, l, none⟩) → (Builtin.clear_ #[22] ty #[.slice A (n - l) dc]).run Try.prog W1.drew = .ok (.tuple #[]) W2 := by
    by_cases hk : l < n
    · refine ⟨W1.drew.setRow g L2.toArray, hU1.drew.setRow _, fun ty A dc had => ?_⟩
      rw [had hk, ← hL2]
      exact run_clear_gen W1.drew 22 ty 9 g l (n - l) dc L1 66 (.string ⟨#[]⟩) Try.underlying22 (strZero _) rfl rfl hU1.here (by rw [hs]; omega)
    · have e : L2 = L1 := by rw [← hL2, show n - l = 0 by omega]; simp [splice]
      refine ⟨W1.drew, by rw [e]; exact hU1.drew, fun ty A dc _ => ?_⟩
      rw [show n - l = 0 by omega]
      cases A <;> simp [Builtin.clear_, run_underlying Try.underlying22]
  have k32 : W1.cell? ⟨g, 32, none⟩ = some (.int .i64 n) := by rw [cell_of_row W1 g 32 _ _ _ hU1.here, ← Array.getElem?_toList, List.toList_toArray, h32]
  obtain ⟨u0, k2c⟩ : ∃ u, W2.cell? ⟨g, 32, none⟩ = some u := by
    rw [cell_of_row W2 g 32 _ _ _ hU2.here, ← Array.getElem?_toList, List.toList_toArray]
    exact ⟨_, List.getElem?_eq_getElem (by omega)⟩
  have f32 : W2.frozen? ⟨g, 32, none⟩ = false := frozen_of_row W2 g 32 _ _ hU2.here
  have HU3 := Lib.hid (hU2.setCell 32 (.int .i64 (l : Int)))
  have HE := Lib.hid (show (L2.toArray.setIfInBounds 32 (.int .i64 (l : Int))) = (chunkL c2).toArray by
    rw [← hput]
    apply Array.toList_inj.1
    simp)
  have hb0 : (a : Int) ≤ 32 := by omega
  have hb1 : (a : Int) ≤ (t : Int) := by omega
  have hb2 : (t : Int) ≤ (n : Int) := by omega
  have hb3 : (n : Int) ≤ 32 := by omega
  have hb4 : (l : Int) ≤ (n : Int) := by omega
  have hw1 : ((n - t : Nat) : Int) + (a : Int) = (l : Int) := by omega
  have hw2 : IntKind.i64.wrap (l : Int) = (l : Int) := by rw [IntKind.wrap_i64]; omega
  have HNL := Lib.hid hl0
  have HN := Lib.hid hn
  clear hL1 hL2 hU1 hU2 hs hs2 h32 hl hd h hput hc2 hn hl0
  have hcp1 : (∀ ty (A B : Option Addr) dc sc, (Builtin.copy_ #[22, 22] ty #[.slice A (32 - a) dc, .slice B (n - t) sc]).run Try.prog w.drew = .ok (goInt (n - t : Nat)) W1) ∨ (¬ 32 = a ∧ ¬ 32 = t ∧ ¬ a = 32 ∧ ¬ t = 32 ∧ ∀ ty dc sc, (Builtin.copy_ #[22, 22] ty #[.slice (some ⟨g, a, none⟩) (32 - a) dc, .slice (some ⟨g, t, none⟩) (n - t) sc]).run Try.prog w.drew = .ok (goInt (n - t : Nat)) W1) := by
    by_cases hk : t < n
    · exact .inr ⟨by omega, by omega, by omega, by omega, fun ty dc sc => hcp ty _ _ dc sc fun _ => ⟨rfl, rfl⟩⟩
    · exact .inl fun ty A B dc sc => hcp ty A B dc sc fun h => absurd h hk
  have hcl1 : (∀ ty (A : Option Addr) dc, (Builtin.clear_ #[22] ty #[.slice A (n - l) dc]).run Try.prog W1.drew = .ok (.tuple #[]) W2) ∨ (¬ 32 = l ∧ ¬ l = 32 ∧ ∀ ty dc, (Builtin.clear_ #[22] ty #[.slice (some ⟨g, l, none⟩) (n - l) dc]).run Try.prog W1.drew = .ok (.tuple #[]) W2) := by
    by_cases hk : l < n
    · exact .inr ⟨by omega, by omega, fun ty dc => hclr ty _ dc fun _ => rfl⟩
    · exact .inl fun ty A dc => hclr ty A dc fun h => absurd h hk
  clear hcp hclr hc hat htn
  obtain ⟨n1, n3⟩ | ⟨n1, n3⟩ := is32 a
  all_goals
    obtain ⟨n2, n4⟩ | ⟨n2, n4⟩ := is32 t
    all_goals
      obtain ⟨m1, m2⟩ | ⟨m1, m2⟩ := is32 l
      all_goals
        rcases hcp1 with hcp1 | ⟨o1, o2, -, -, hcp1⟩
        all_goals first | exact absurd (of_eq_true n1) o1 | exact absurd (of_eq_true n2) o2 | skip
        all_goals
          rcases hcl1 with hcl1 | ⟨o3, -, hcl1⟩
          all_goals first | exact absurd (of_eq_true m1) o3 | skip
          all_goals
            go_enter Try.func37, Try.ntmps37
            go_wp2_with fail
            go_region
            all_goals
              go_wp2_with fail
              go_region
              all_goals
                go_wp2_with fail
                go_end0
                exact ⟨rfl, by rw [← HE.out]; exact HU3.out⟩
end Go.Proofs.Ytefoieloakfhfaa
