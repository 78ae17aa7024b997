
/- A chunk of a deque: put and cut. -/
import Derived.Test.YteiklgbjjmlmaaaGreatZIns
import Derived.Test.YteiklgbjjmlmaaaGreatZBytes
import Derived.Deep.RegionWith
import Derived.BigRegion
import Derived.BigQuiet
namespace Pantry
open Go Go.RowKit
/-- From w to w' block g has become o, and nothing else has changed. -/
structure Upd (g : Nat) (o : Obj) (w w' : World) : Prop where
  os : w'.os = w.os
  tape : w'.tape = w.tape
  output : w'.output = w.output
  size : w'.heap.size = w.heap.size
  here : w'.heap[g]? = some o
  other : ∀ k, k ≠ g → w'.heap[k]? = w.heap[k]?
theorem Upd.chg {g : Nat} {o : Obj} {w w' : World} (h : Upd g o w w') : Chg (fun k => k = g) w w' := ⟨h.os, h.tape, h.output, Nat.le_of_eq h.size.symm, fun k _ hk => h.other k hk⟩
theorem Upd.same {g : Nat} {o : Obj} {w : World} (h : w.heap[g]? = some o) : Upd g o w w := ⟨rfl, rfl, rfl, rfl, h, fun _ _ => rfl⟩
theorem Upd.drew {g : Nat} {o : Obj} {w w' : World} (h : Upd g o w w') : Upd g o w w'.drew := ⟨h.os, h.tape, h.output, h.size, h.here, h.other⟩
theorem Upd.setRow {g : Nat} {c : Array Value} {e : TypeId} {fr : Nat × Nat} {w w' : World} (h : Upd g (.cells c e fr) w w') (d : Array Value) : Upd g (.cells d e fr) w (w'.setRow g d) :=
  ⟨h.os, h.tape, h.output, by simpa [World.setRow] using h.size, setRow_heap w' g _ _ _ _ h.here, fun k hk => (setRow_other w' g k _ hk).trans (h.other k hk)⟩
theorem Upd.setCell {g : Nat} {c : Array Value} {e : TypeId} {w w' : World} (h : Upd g (.cells c e) w w') (j : Nat) (u : Value) : Upd g (.cells (c.setIfInBounds j u) e) w (w'.setCell ⟨g, j, none⟩ u) :=
  ⟨h.os, h.tape, h.output, by simpa using h.size, heap_setCell_same w' g j _ _ u h.here, fun k hk => (Below.heap_setCell w' ⟨g, j, none⟩ u k hk).trans (h.other k hk)⟩
/-- The cells of a chunk that has the texts c. -/
def chunkL (c : List (List UInt8)) : List Value := txts c ++ List.replicate (32 - c.length) (.string ⟨#[]⟩) ++ [.int .i64 (c.length : Int)]
theorem chunkL_length {c : List (List UInt8)} (h : c.length ≤ 32) : (chunkL c).length = 33 := by simp [chunkL, txts_length]; omega
theorem chunkL_one (c : List (List UInt8)) : ∀ u ∈ chunkL c, u.oneCell' = true := by
  intro u hu
  simp only [chunkL, List.mem_append, List.mem_replicate, List.mem_singleton] at hu
  rcases hu with (hu | ⟨_, rfl⟩) | rfl
  · exact txts_one c u hu
  · rfl
  · rfl
theorem chunkL_n {c : List (List UInt8)} (h : c.length ≤ 32) : (chunkL c)[32]? = some (.int .i64 (c.length : Int)) := by
  unfold chunkL
  rw [List.getElem?_append_right (by simp [txts_length]; omega)]
  have : 32 - (txts c ++ List.replicate (32 - c.length) (Value.string ⟨#[]⟩)).length = 0 := by simp [txts_length]; omega
  rw [this]; rfl
theorem chunkL_text {c : List (List UInt8)} {p : Nat} {x : List UInt8} (h : c[p]? = some x) : (chunkL c)[p]? = some (txt x) := by
  have hp := (List.getElem?_eq_some_iff.1 h).1
  unfold chunkL
  rw [List.append_assoc, List.getElem?_append_left (by rw [txts_length]; exact hp), txts_get, h]
  rfl
theorem chunkL_some {c : List (List UInt8)} (h : c.length ≤ 32) {p : Nat} (hp : p < 33) : ∃ u, (chunkL c)[p]? = some u := ⟨_, List.getElem?_eq_getElem (by rw [chunkL_length h]; exact hp)⟩
/-- A text put in: what the cells become. -/
theorem chunk_put {c : List (List UInt8)} {p : Nat} {s : List UInt8} (hc : c.length < 32) (hp : p ≤ c.length) :
    ((splice (chunkL c) (p + 1) (txts (c.drop p))).set p (txt s)).set 32 (.int .i64 ((c.length : Int) + 1)) = chunkL (c.take p ++ [s] ++ c.drop p) := by
  have hl : (chunkL c).length = 33 := chunkL_length (by omega)
  apply List.ext_getElem?
  intro j
  have hlen : (c.take p ++ [s] ++ c.drop p).length = c.length + 1 := by simp; omega
  have hd : (txts (c.drop p)).length = c.length - p := by rw [txts_length, List.length_drop]
  have hs : (splice (chunkL c) (p + 1) (txts (c.drop p))).length = 33 := by rw [length_splice _ _ _ (by omega), hl]
  by_cases h32 : j = 32
  · subst h32
    rw [List.getElem?_set_self (by rw [List.length_set, hs]; omega), chunkL_n (by omega), hlen]
    rfl
  · rw [List.getElem?_set_ne (by omega)]
    by_cases hjp : j = p
    · subst hjp
      rw [List.getElem?_set_self (by rw [hs]; omega)]
      refine (chunkL_text ?_).symm
      rw [List.append_assoc, List.getElem?_append_right (by rw [List.length_take]; omega), List.length_take, Nat.min_eq_left hp, Nat.sub_self]
      rfl
    · rw [List.getElem?_set_ne (by omega)]
      unfold splice
      by_cases hj33 : 33 ≤ j
      · rw [List.getElem?_eq_none (by simp; omega), List.getElem?_eq_none (by rw [chunkL_length (by omega)]; omega)]
      · by_cases hlt : j < p
        · rw [List.getElem?_append_left (by rw [List.length_take]; omega), List.getElem?_take, if_pos (by omega)]
          obtain ⟨x, hx⟩ : ∃ x, c[j]? = some x := ⟨_, List.getElem?_eq_getElem (by omega)⟩
          rw [chunkL_text hx]
          refine (chunkL_text ?_).symm
          rw [List.append_assoc, List.getElem?_append_left (by rw [List.length_take]; omega), List.getElem?_take, if_pos hlt, hx]
        · rw [List.getElem?_append_right (by rw [List.length_take]; omega), List.length_take, Nat.min_eq_left (by omega)]
          by_cases hin : j ≤ c.length
          · rw [List.getElem?_append_left (by omega), txts_get, List.getElem?_drop]
            obtain ⟨x, hx⟩ : ∃ x, c[p + (j - (p + 1))]? = some x := ⟨_, List.getElem?_eq_getElem (by omega)⟩
            rw [hx]
            refine (chunkL_text ?_).symm
            rw [List.getElem?_append_right (by simp; omega)]
            simp only [List.length_append, List.length_take, List.length_singleton, Nat.min_eq_left hp]
            rw [List.getElem?_drop, hx]
          · rw [List.getElem?_append_right (by omega), List.getElem?_drop, hd]
            have e : p + 1 + (c.length - p) + (j - (p + 1) - (c.length - p)) = j := by omega
            rw [e]
            unfold chunkL
            rw [List.getElem?_append_left (by simp [txts_length]; omega), List.getElem?_append_right (by rw [txts_length]; omega), List.getElem?_append_left (by simp [txts_length]; omega), List.getElem?_append_right (by rw [txts_length]; omega)]
            rw [List.getElem?_replicate, List.getElem?_replicate, if_pos (by rw [txts_length]; omega), if_pos (by rw [txts_length]; omega)]
end Pantry
namespace Go.Proofs.YteiklgbjjmlmaaaGreat
open Go.RowKit Pantry
/-- Block g is a chunk that has the texts c. -/
def ChunkAt (w : World) (g : Nat) (c : List (List UInt8)) : Prop := w.heap[g]? = some (.cells (chunkL c).toArray 139)
theorem strSize : (Tryz.prog.info? 9).map (·.size) = some 1 := by kernel_rfl

/-- Nothing is returned, and block g is now a chunk that has the texts c. -/
def ChunkPost (g : Nat) (c : List (List UInt8)) (w : World) (e : Ending) (w' : World) : Prop := e = .returned (.tuple #[]) ∧ Upd g (.cells (chunkL c).toArray 139) w w'

set_option maxHeartbeats 4000000 in
set_option maxRecDepth 100000 in
theorem put_any (w : World) (g p : Nat) (s : List UInt8) (c : List (List UInt8)) (h : ChunkAt w g c) (hc : c.length < 32) (hp : p ≤ c.length) :
    Calls Tryz.prog 106 #[.pointer (some ⟨g, 0, none⟩), .int .i64 p, .string ⟨s.toArray⟩] w (ChunkPost g (c.take p ++ [s] ++ c.drop p) w) := by
  obtain ⟨c2, hc2⟩ : ∃ c2, c.take p ++ [s] ++ c.drop p = c2 := ⟨_, rfl⟩
  rw [hc2]
  have HC2 := Lib.hid hc2
  have hl : (chunkL c).length = 33 := chunkL_length (by omega)
  have hput := chunk_put (s := s) hc hp
  rw [hc2] at hput
  have HPUT := Lib.hid hput
  clear hput hc2
  obtain ⟨n, hn⟩ : ∃ n, c.length = n := ⟨_, rfl⟩
  have hd : (txts (c.drop p)).length = n - p := by rw [txts_length, List.length_drop, hn]
  have hcn : w.cell? ⟨g, 32, none⟩ = some (.int .i64 n) := by
    rw [cell_of_row w g 32 _ _ _ h, ← Array.getElem?_toList]
    rw [List.toList_toArray, chunkL_n (by omega), hn]
  have hcp : ∀ ty dc sc, (Builtin.copy_ #[45, 45] ty #[.slice (some ⟨g, p + 1, none⟩) (n - p) dc, .slice (some ⟨g, p, none⟩) (n - p) sc]).run Tryz.prog w.drew = .ok (goInt (Nat.min (n - p) (n - p))) (w.drew.setRow g (splice (chunkL c) (p + 1) (txts (c.drop p))).toArray) := fun ty dc sc =>
    run_copy_gen w.drew 45 45 ty 9 g (p + 1) _ dc ⟨g, p, none⟩ _ sc (chunkL c) 139 (txts (c.drop p)) 1 Tryz.underlying45 strSize h (by rw [hd]; simp)
      (fun j v hj => by
        rw [Addr.add_lit]
        show w.cell? _ = _
        rw [cell_of_row w g _ _ _ _ h, ← Array.getElem?_toList, List.toList_toArray]
        rw [txts_get, List.getElem?_drop] at hj
        cases hx : c[p + j]? with
        | none => rw [hx] at hj; cases hj
        | some x => rw [hx] at hj; cases hj; exact chunkL_text hx)
      (by rw [hd, hl]; omega) (txts_one _)
  by_cases hpn : p = n
  · have hcell : ∀ j, j < 33 → w.cell? ⟨g, j, none⟩ = (chunkL c)[j]? := fun j _ => by rw [cell_of_row w g j _ _ _ h, ← Array.getElem?_toList, List.toList_toArray]
    obtain ⟨u0, hu0⟩ := chunkL_some (c := c) (by omega) (p := p) (by omega)
    have kp : w.cell? ⟨g, p, none⟩ = some u0 := (hcell p (by omega)).trans hu0
    have f32 : w.frozen? ⟨g, 32, none⟩ = false := frozen_of_row w g 32 _ _ h
    have fp : w.frozen? ⟨g, p, none⟩ = false := frozen_of_row w g p _ _ h
    have HU2 := Lib.hid (((Upd.same h).setCell p (.string ⟨s.toArray⟩)).setCell 32 (.int .i64 ((n : Int) + 1))).drew
    have HE := Lib.hid (show (((chunkL c).toArray.setIfInBounds p (.string ⟨s.toArray⟩)).setIfInBounds 32 (.int .i64 ((n : Int) + 1))) = (chunkL c2).toArray by
      rw [← HPUT.out, hn]
      have e : splice (chunkL c) (p + 1) (txts (c.drop p)) = chunkL c := by
        rw [List.drop_eq_nil_of_le (by omega)]; simp [splice, txts]
      rw [e]
      apply Array.toList_inj.1
      simp [txt])
    clear hl hd h hcell hu0 hcp
    rw [hn] at hc hp
    clear hn
    subst hpn
    have hp32 : ¬ p = 32 := by omega
    have h32p : ¬ 32 = p := by omega
    have hw1 : IntKind.i64.wrap ((p : Int) + 1) = (p : Int) + 1 := by rw [IntKind.wrap_i64]; omega
    have hb1 : (0 : Int) ≤ (p : Int) + 1 := by omega
    have hb3 : (p : Int) + 1 ≤ 32 := by omega
    have hb5 : (p : Int) ≤ 32 := by omega
    have ht1 : ((p : Int) + 1).toNat = p + 1 := by omega
    have hp31 : (p : Int) < 32 := by omega
    have hcz := fun (ty : TypeId) (a b : Option Addr) (dc sc : Nat) => run_copy_zero (P := Tryz.prog) w.drew 45 45 ty 9 a b 0 dc 0 sc 1 Tryz.underlying45 strSize rfl
    obtain rfl | hp30 : p = 31 ∨ ¬ p = 31 := Decidable.em _
    all_goals
      go_enter Tryz.func106, Tryz.ntmps106
      go_wp2_with fail
      go_region
      all_goals
        go_wp2_with fail
        go_end0
        exact ⟨rfl, by rw [← HE.out]; exact HU2.out⟩
  have hpl : p < n := by omega
  obtain ⟨L1, hL1⟩ : ∃ L1, splice (chunkL c) (p + 1) (txts (c.drop p)) = L1 := ⟨_, rfl⟩
  have hs : L1.length = 33 := by rw [← hL1, length_splice _ _ _ (by omega), hl]
  have h32 : L1[32]? = some (.int .i64 n) := by
    rw [← hL1]
    unfold splice
    rw [List.getElem?_append_right (by rw [List.length_take]; omega), List.getElem?_append_right (by rw [List.length_take]; omega), List.getElem?_drop, List.length_take, hd]
    rw [show p + 1 + (n - p) + (32 - min (p + 1) (chunkL c).length - (n - p)) = 32 by omega, chunkL_n (by omega), hn]
  rw [hL1] at hcp HPUT
  obtain ⟨W1, hW1⟩ : ∃ W1, w.drew.setRow g L1.toArray = W1 := ⟨_, rfl⟩
  have hU1 : Upd g (.cells L1.toArray 139) w W1 := by rw [← hW1]; exact (Upd.same h).drew.setRow _
  rw [hW1] at hcp
  have k32 : W1.cell? ⟨g, 32, none⟩ = some (.int .i64 n) := by rw [cell_of_row W1 g 32 _ _ _ hU1.here, ← Array.getElem?_toList, List.toList_toArray, h32]
  obtain ⟨u0, kp⟩ : ∃ u, W1.cell? ⟨g, p, none⟩ = some u := by
    rw [cell_of_row W1 g p _ _ _ hU1.here, ← Array.getElem?_toList, List.toList_toArray]
    exact ⟨_, List.getElem?_eq_getElem (by omega)⟩
  have f32 : W1.frozen? ⟨g, 32, none⟩ = false := frozen_of_row W1 g 32 _ _ hU1.here
  have fp : W1.frozen? ⟨g, p, none⟩ = false := frozen_of_row W1 g p _ _ hU1.here
  have HU2 := Lib.hid ((hU1.setCell p (.string ⟨s.toArray⟩)).setCell 32 (.int .i64 ((n : Int) + 1)))
  have HE := Lib.hid (show ((L1.toArray.setIfInBounds p (.string ⟨s.toArray⟩)).setIfInBounds 32 (.int .i64 ((n : Int) + 1))) = (chunkL c2).toArray by
    rw [← HPUT.out, hn]
    apply Array.toList_inj.1
    simp [txt])
  clear hL1 hW1 hU1 hs h32 hl hd h
  rw [hn] at hc hp
  clear hn hpn
  have hp32 : ¬ p = 32 := by omega
  have hp30 : ¬ p = 31 := by omega
  have h32p : ¬ 32 = p := by omega
  have hw1 : IntKind.i64.wrap ((p : Int) + 1) = (p : Int) + 1 := by rw [IntKind.wrap_i64]; omega
  have hw2 : IntKind.i64.wrap ((n : Int) + 1) = (n : Int) + 1 := by rw [IntKind.wrap_i64]; omega
  have hb1 : (0 : Int) ≤ (p : Int) + 1 := by omega
  have hb2 : (p : Int) + 1 ≤ (n : Int) + 1 := by omega
  have hb3 : (n : Int) + 1 ≤ 32 := by omega
  have hb4 : (p : Int) ≤ (n : Int) := by omega
  have hb5 : (n : Int) ≤ 32 := by omega
  have ht1 : ((p : Int) + 1).toNat = p + 1 := by omega
  have ht2 : ((n : Int) + 1).toNat = n + 1 := by omega
  have hp31 : (p : Int) < 32 := by omega
  go_enter Tryz.func106, Tryz.ntmps106
  go_wp2_with fail
  go_region_law (refine step_copy_run rfl _ _ 45 45 rfl (.slice (some ⟨g, p + 1, none⟩) (n - p) (32 - (p + 1))) (.slice (some ⟨g, p, none⟩) (n - p) (32 - p)) (by simp [Act.eval, Act.put]) (by simp [Act.eval, Act.put]) (hcp _ _ _) ?_)
  all_goals
    go_wp2_with fail
    go_end0
    exact ⟨rfl, by rw [← HE.out]; exact HU2.out⟩

end Go.Proofs.YteiklgbjjmlmaaaGreat


/- A deque in memory; lay. -/
namespace Pantry
open Go Go.RowKit
abbrev Txt := List UInt8
/-- What a text costs, and a row of chunks; how many texts it has. -/
def costOf (cs : List (List Txt)) : Nat := ((cs.map fun c => (c.map fun x => 16 + x.length).sum)).sum
def total (cs : List (List Txt)) : Nat := (cs.map (·.length)).sum
/-- Few enough, and none too long. -/
structure Fits (cs : List (List Txt)) : Prop where
  chunk : ∀ c ∈ cs, c.length ≤ 32
  text : ∀ c ∈ cs, ∀ x ∈ c, x.length ≤ 1048576
  total : total cs ≤ 1048576
  rows : cs.length ≤ 1048577
theorem costOf_le {cs : List (List Txt)} (h : ∀ c ∈ cs, ∀ x ∈ c, x.length ≤ 1048576) : costOf cs ≤ total cs * 1048592 := by
  induction cs with
  | nil => simp [costOf, total]
  | cons c cs ih =>
    have h1 : ∀ l : List Txt, (∀ x ∈ l, x.length ≤ 1048576) → (l.map fun x => 16 + x.length).sum ≤ l.length * 1048592 := by
      intro l
      induction l with
      | nil => intro _; simp
      | cons x l ih2 =>
        intro hl
        have a := ih2 fun y hy => hl y (List.mem_cons_of_mem _ hy)
        have b := hl x List.mem_cons_self
        simp only [List.map_cons, List.sum_cons, List.length_cons]
        omega
    have a := ih fun c hc => h c (List.mem_cons_of_mem _ hc)
    have b := h1 c (h c List.mem_cons_self)
    simp only [costOf, total, List.map_cons, List.sum_cons] at a ⊢
    rw [Nat.add_mul]
    omega
theorem sum_set {α : Type} {f : α → Nat} {l : List α} {k : Nat} {c c' : α} (h : l[k]? = some c) : ((l.set k c').map f).sum + f c = (l.map f).sum + f c' := by
  induction l generalizing k with
  | nil => simp at h
  | cons x l ih =>
    cases k with
    | zero => simp at h; subst h; simp; omega
    | succ k =>
      have := ih (k := k) (by simpa using h)
      simp only [List.set_cons_succ, List.map_cons, List.sum_cons]
      omega
theorem nodup_injQ {l : List Nat} (h : l.Nodup) {i j g : Nat} (hi : l[i]? = some g) (hj : l[j]? = some g) : i = j := by
  obtain ⟨a, ha⟩ := List.getElem?_eq_some_iff.1 hi
  obtain ⟨b, hb⟩ := List.getElem?_eq_some_iff.1 hj
  have hp := List.pairwise_iff_getElem.1 h
  rcases Nat.lt_trichotomy i j with h1 | h1 | h1
  · exact absurd (ha.trans hb.symm) (hp i j a b h1)
  · exact h1
  · exact absurd (hb.trans ha.symm) (hp j i b a h1)
theorem total_set {cs : List (List Txt)} {k : Nat} {c c' : List Txt} (h : cs[k]? = some c) : total (cs.set k c') + c.length = total cs + c'.length := sum_set (f := fun c : List Txt => c.length) h
theorem costOf_set {cs : List (List Txt)} {k : Nat} {c c' : List Txt} (h : cs[k]? = some c) : costOf (cs.set k c') + (c.map fun x => 16 + x.length).sum = costOf cs + (c'.map fun x => 16 + x.length).sum := sum_set (f := fun c : List Txt => (c.map fun x : Txt => 16 + x.length).sum) (c' := c') h
/-- A text put into a chunk. -/
def insAt (c : List Txt) (p : Nat) (s : Txt) : List Txt := c.take p ++ [s] ++ c.drop p
theorem insAt_length {c : List Txt} {p : Nat} (h : p ≤ c.length) (s : Txt) : (insAt c p s).length = c.length + 1 := by simp [insAt]; omega
theorem insAt_cost {c : List Txt} {p : Nat} (s : Txt) : ((insAt c p s).map fun x => 16 + x.length).sum = (c.map fun x => 16 + x.length).sum + (16 + s.length) := by
  have e : (c.map fun x => 16 + x.length).sum = ((c.take p).map fun x => 16 + x.length).sum + ((c.drop p).map fun x => 16 + x.length).sum := by
    rw [← List.sum_append, ← List.map_append, List.take_append_drop]
  rw [e]
  simp [insAt]; omega
end Pantry
namespace Go.Proofs.YteiklgbjjmlmaaaGreat
open Go.RowKit Pantry

def ptr (g : Nat) : Value := .pointer (some ⟨g, 0, none⟩)
/-- Block d is a deque whose chunks are cs: they lie in the blocks gs, and pointers to them in the row v. -/
structure DeqAt (w : World) (d : Nat) (v : Value) (gs : List Nat) (cs : List (List Txt)) : Prop where
  head : w.heap[d]? = some (.cells #[v, .int .i64 (total cs : Nat), .int .i64 (costOf cs : Nat)] 135)
  row : w.ownsRow 0 140 1 v cs.length (gs.map ptr)
  chunk : ∀ (i g : Nat) (c : List Txt), gs[i]? = some g → cs[i]? = some c → ChunkAt w g c
  nodup : gs.Nodup
  notd : d ∉ gs
  rowd : v.ownBlock ≠ some d
  rowg : ∀ k, v.ownBlock = some k → k ∉ gs
/-- The blocks that it takes. -/
def Foot (d : Nat) (v : Value) (gs : List Nat) (k : Nat) : Prop := k = d ∨ k ∈ gs ∨ v.ownBlock = some k
theorem DeqAt.len {w : World} {d : Nat} {v : Value} {gs : List Nat} {cs : List (List Txt)} (h : DeqAt w d v gs cs) : gs.length = cs.length := by
  have := h.row.1; simpa using this
theorem DeqAt.chg {w w' : World} {d : Nat} {v : Value} {gs : List Nat} {cs : List (List Txt)} {S : Nat → Prop} (h : DeqAt w d v gs cs) (hc : Chg S w w') (hS : ∀ k, Foot d v gs k → ¬ S k) : DeqAt w' d v gs cs :=
  ⟨hc.heap h.head (hS d (.inl rfl)), Chg.ownsRow h.row hc fun k hk => hS k (.inr (.inr hk)), fun i g c hg hc' => hc.heap (h.chunk i g c hg hc') (hS g (.inr (.inl (List.mem_of_getElem? hg)))), h.nodup, h.notd, h.rowd, h.rowg⟩
theorem DeqAt.lt {w : World} {d : Nat} {v : Value} {gs : List Nat} {cs : List (List Txt)} (h : DeqAt w d v gs cs) : ∀ k, Foot d v gs k → k < w.heap.size := by
  intro k hk
  rcases hk with rfl | hk | hk
  · exact block_lt h.head
  · obtain ⟨i, hi, rfl⟩ := List.mem_iff_getElem.1 hk
    have hl := h.len
    exact block_lt (h.chunk i _ _ (List.getElem?_eq_getElem hi) (List.getElem?_eq_getElem (by omega)))
  · exact (h.row.lt k hk).2
theorem threeQ {w : World} {g : Nat} {c0 c1 c2 : Value} {t : TypeId} (h : w.heap[g]? = some (.cells #[c0, c1, c2] t)) :
    (w.cell? ⟨g, 0, none⟩ = some c0 ∧ w.cell? ⟨g, 1, none⟩ = some c1 ∧ w.cell? ⟨g, 2, none⟩ = some c2) ∧ ∀ j, w.frozen? ⟨g, j, none⟩ = false := by
  refine ⟨⟨?_, ?_, ?_⟩, fun j => frozen_of_row w g j _ _ h⟩ <;> rw [cell_of_row w g _ _ _ _ h] <;> rfl
/-- The row's own block, and the pointer at a place. -/
theorem DeqAt.at {w : World} {d : Nat} {v : Value} {gs : List Nat} {cs : List (List Txt)} (h : DeqAt w d v gs cs) {k : Nat} {c : List Txt} (hk : cs[k]? = some c) :
    ∃ g sb cap, gs[k]? = some g ∧ v = .slice (some ⟨sb, 0, none⟩) cs.length cap ∧ k < cs.length ∧ cs.length ≤ cap ∧ w.cell? ⟨sb, k, none⟩ = some (.pointer (some ⟨g, 0, none⟩)) ∧ ChunkAt w g c := by
  have hkl := (List.getElem?_eq_some_iff.1 hk).1
  have hl := h.len
  obtain ⟨g, hg⟩ : ∃ g, gs[k]? = some g := ⟨_, List.getElem?_eq_getElem (by omega)⟩
  rcases h.row.2 with ⟨_, h0⟩ | ⟨sb, cap, cur, rfl, _, hb, hnc, _, _, _⟩
  · omega
  · refine ⟨g, sb, cap, hg, rfl, hkl, hnc, ?_, h.chunk k g c hg hk⟩
    rw [h.row.cellAt k (by omega), List.getElem?_map, hg]
    rfl
theorem ChunkAt.n {w : World} {g : Nat} {c : List Txt} (h : ChunkAt w g c) (hc : c.length ≤ 32) : w.cell? ⟨g, 32, none⟩ = some (.int .i64 (c.length : Nat)) := by
  rw [cell_of_row w g 32 _ _ _ h, ← Array.getElem?_toList, List.toList_toArray, chunkL_n hc]
theorem ChunkAt.text {w : World} {g : Nat} {c : List Txt} (h : ChunkAt w g c) {p : Nat} {x : Txt} (hp : c[p]? = some x) : w.cell? ⟨g, p, none⟩ = some (.string ⟨x.toArray⟩) := by
  rw [cell_of_row w g p _ _ _ h, ← Array.getElem?_toList, List.toList_toArray, chunkL_text hp]; rfl

theorem mk_size (x : List UInt8) : (⟨x.toArray⟩ : ByteArray).size = x.length := by simp [ByteArray.size]
theorem weight_any (s : ByteArray) (w : World) (hs : s.size ≤ 140737488351232) : Calls Tryz.prog 107 #[.string s] w fun e w' => e = .returned (.int .i64 (16 + (s.size : Int))) ∧ w = w' := by
  go_enter Tryz.func107, Tryz.ntmps107
  go_wp2
  go_ret
  exact ⟨rfl, rfl⟩

/-- One chunk has been changed, then the head. -/
theorem DeqAt.changed {w w1 w2 : World} {d : Nat} {v : Value} {gs : List Nat} {cs : List (List Txt)} (h : DeqAt w d v gs cs) {k g : Nat} {c' : List Txt} (hg : gs[k]? = some g)
    (h1 : Upd g (.cells (chunkL c').toArray 139) w w1) (h2 : Upd d (.cells #[v, .int .i64 (total (cs.set k c') : Nat), .int .i64 (costOf (cs.set k c') : Nat)] 135) w1 w2) :
    DeqAt w2 d v gs (cs.set k c') := by
  have hgd : g ≠ d := fun e => h.notd (by rw [← e]; exact List.mem_of_getElem? hg)
  refine ⟨h2.here, ?_, ?_, h.nodup, h.notd, h.rowd, h.rowg⟩
  · rw [List.length_set]
    refine Chg.ownsRow (Chg.ownsRow h.row h1.chg fun j hj e => ?_) h2.chg fun j hj e => ?_
    · subst e; exact h.rowg _ hj (List.mem_of_getElem? hg)
    · subst e; exact h.rowd hj
  · intro i gi c hi hc
    have hgi : gi ≠ d := fun e => h.notd (by rw [← e]; exact List.mem_of_getElem? hi)
    rw [List.getElem?_set] at hc
    unfold ChunkAt
    rw [h2.other gi hgi]
    by_cases hik : k = i
    · subst hik
      rw [hg] at hi; cases hi
      rw [if_pos rfl] at hc
      split at hc
      · cases hc; exact h1.here
      · cases hc
    · rw [if_neg hik] at hc
      have hne : gi ≠ g := fun e => hik (nodup_injQ h.nodup hg (by rw [hi, e]))
      rw [h1.other gi hne]
      exact h.chunk i gi c hi hc

/-- What a change leaves: the head's block, the row and the chunks stay where they are. -/
def StayPost (d : Nat) (v : Value) (gs : List Nat) (cs' : List (List Txt)) (r : Value) (w : World) (e : Ending) (w' : World) : Prop := e = .returned r ∧ DeqAt w' d v gs cs' ∧ Chg (Foot d v gs) w w'

set_option maxHeartbeats 4000000 in
set_option maxRecDepth 100000 in
theorem lay_any (w : World) (d : Nat) (v : Value) (gs : List Nat) (cs : List (List Txt)) (k p : Nat) (c : List Txt) (s : Txt) (h : DeqAt w d v gs cs) (hk : cs[k]? = some c) (hc : c.length < 32) (hp : p ≤ c.length) (hf : Fits cs) (ht : total cs < 1048576) (hs : s.length ≤ 1048576) :
    Calls Tryz.prog 82 #[.pointer (some ⟨d, 0, none⟩), .int .i64 k, .int .i64 p, .string ⟨s.toArray⟩] w (StayPost d v gs (cs.set k (insAt c p s)) (.tuple #[]) w) := by
  obtain ⟨g, sb, cap, hg, hv, hkl, hnc, hcell, hch⟩ := h.at hk
  obtain ⟨⟨d0, d1, d2⟩, df⟩ := threeQ h.head
  have hgd : g ≠ d := fun e => h.notd (by rw [← e]; exact List.mem_of_getElem? hg)
  have hT := total_set (c' := insAt c p s) hk
  have hC := costOf_set (c' := insAt c p s) hk
  rw [insAt_length hp] at hT
  rw [insAt_cost] at hC
  have hcl := costOf_le hf.text
  have hrl := hf.rows
  subst hv
  obtain ⟨m, hm⟩ : ∃ m, cs.length = m := ⟨_, rfl⟩
  obtain ⟨N, hN⟩ : ∃ N, total cs = N := ⟨_, rfl⟩
  obtain ⟨C, hC2⟩ : ∃ C, costOf cs = C := ⟨_, rfl⟩
  rw [hm] at hkl hnc hrl
  rw [hN] at d1 ht hT hcl
  rw [hC2] at d2 hC hcl
  have HT := Lib.hid (show ((total (cs.set k (insAt c p s)) : Nat) : Int) = (N : Int) + 1 by omega)
  have HC := Lib.hid (show ((costOf (cs.set k (insAt c p s)) : Nat) : Int) = (C : Int) + (16 + (s.length : Int)) by omega)
  have HD := Lib.hid h
  have HCH := Lib.hid hch
  have HG := Lib.hid hg
  have HH := Lib.hid h.head
  have HM := Lib.hid hm
  have HN := Lib.hid hN
  have HC2 := Lib.hid hC2
  rw [hm] at d0
  clear hT hC h hch hg hk hf hm hN hC2 df
  have hCb : C ≤ 1048576 * 1048592 := Nat.le_trans hcl (Nat.mul_le_mul_right _ (by omega))
  clear hcl
  have hw1 : IntKind.i64.wrap ((C : Int) + (16 + (s.length : Int))) = (C : Int) + (16 + (s.length : Int)) := by rw [IntKind.wrap_i64]; omega
  have hki : (k : Int) < (m : Int) := by omega
  have hk0 : (0 : Int) ≤ (k : Int) := by omega
  go_enter Tryz.func82, Tryz.ntmps82
  go_wp2_with fail
  refine (put_any _ g p s c HCH.out hc hp).mono ?_
  rintro e w1 ⟨rfl, hU⟩
  have hd1 : w1.heap[d]? = some (.cells #[.slice (some ⟨sb, 0, none⟩) m cap, .int .i64 (N : Nat), .int .i64 (C : Nat)] 135) := by
    rw [hU.other d (fun e => hgd e.symm), HH.out, HM.out, HN.out, HC2.out]
  obtain ⟨⟨e0, e1, e2⟩, ef⟩ := threeQ hd1
  have ef1 := ef 1
  have ef2 := ef 2
  have HU := Lib.hid hU
  have HD1 := Lib.hid hd1
  clear hU hd1 ef d0 d1 d2 hcell
  go_wp2_with fail
  go_region_with (go_at_call 107; refine (weight_any _ _ (by rw [mk_size]; omega)).mono ?_; rintro e w' ⟨rfl, rfl⟩)
  all_goals
    go_end0
    have hU2 := (((Upd.same HD1.out).setCell 1 (.int .i64 ((N : Int) + 1))).setCell 2 (.int .i64 ((C : Int) + (16 + (s.length : Int))))).drew
    refine ⟨rfl, DeqAt.changed HD.out HG.out HU.out (by rw [HM.out, HT.out, HC.out]; exact hU2), ?_⟩
    refine (HU.out.chg.mono fun j _ e => ?_).trans (hU2.chg) fun j _ e => .inl e
    subst e; exact .inr (.inl (List.mem_of_getElem? HG.out))
end Go.Proofs.YteiklgbjjmlmaaaGreat


/- Where a place lies in a deque: find, At, Len. -/
namespace Pantry
open Go Go.RowKit
end Pantry
namespace Go.Proofs.YteiklgbjjmlmaaaGreat
open Go.RowKit Pantry

theorem len_any (w : World) (d : Nat) (v : Value) (gs : List Nat) (cs : List (List Txt)) (h : DeqAt w d v gs cs) :
    Calls Tryz.prog 175 #[.pointer (some ⟨d, 0, none⟩)] w fun e w' => e = .returned (.int .i64 (total cs : Nat)) ∧ w = w' := by
  obtain ⟨⟨d0, d1, d2⟩, -⟩ := threeQ h.head
  clear h
  go_enter Tryz.func175, Tryz.ntmps175
  go_wp2_with fail
  go_ret
  exact ⟨rfl, rfl⟩
end Go.Proofs.YteiklgbjjmlmaaaGreat


/- The text at a place: At; a deque that is none. -/
namespace Pantry
open Go Go.RowKit
theorem flatten_length (cs : List (List Txt)) : cs.flatten.length = total cs := by simp [total]
end Pantry
namespace Go.Proofs.YteiklgbjjmlmaaaGreat
open Go.RowKit Pantry

theorem new_any (w : World) : Calls Tryz.prog 61 #[] w fun e w' => e = .returned (.pointer (some ⟨w.heap.size, 0, none⟩)) ∧ w' = w.alloc (.cells #[.slice none 0 0, .int .i64 0, .int .i64 0] 135) := by
  go_enter Tryz.func61, Tryz.ntmps61
  go_wp2_with fail
  go_ret
  exact ⟨rfl, rfl⟩
theorem new_deq (w : World) : DeqAt (w.alloc (.cells #[.slice none 0 0, .int .i64 0, .int .i64 0] 135)) w.heap.size (.slice none 0 0) [] [] :=
  ⟨heap_alloc_new w _, World.ownsRow_nil _ _ _ _, fun i g c h => by simp at h, List.nodup_nil, by simp, by simp [Value.ownBlock], by simp⟩
end Go.Proofs.YteiklgbjjmlmaaaGreat
