
/- What Of makes, while it is being made: a deque, a record, a flock, ranks, beside all that was there. -/
import Derived.Test.YteiklgbjjmlmaaaGreatZVHeld
import Derived.Test.YteiklgbjjmlmaaaGreatZVWrong
set_option linter.unusedVariables false
set_option linter.unusedSimpArgs false
namespace Go.Proofs.YteiklgbjjmlmaaaGreat
open Go.RowKit Pantry

structure MadeL (W0 W : World) (d : Nat) (xs : List Txt) : Prop where
  held : ∃ v gs cs, DeqAt W d v gs cs ∧ DGood cs ∧ cs.flatten = xs ∧ ∀ k, Foot d v gs k → W0.heap.size ≤ k
  below : Below W0.heap.size W0 W
theorem total_flatten (cs : List (List Txt)) : total cs = cs.flatten.length := by simp [total, List.length_flatten]
theorem MadeL.new (W0 : World) : Calls Tryz.prog 61 #[] W0 fun e W => e = .returned (.pointer (some ⟨W0.heap.size, 0, none⟩)) ∧ MadeL W0 W W0.heap.size [] := by
  refine (new_any W0).mono ?_
  rintro e W ⟨rfl, rfl⟩
  have hb : Below W0.heap.size W0 (W0.alloc (.cells #[.slice none 0 0, .int .i64 0, .int .i64 0] 135)) := (Below.refl _ _).alloc (Nat.le_refl _) _
  refine ⟨rfl, ⟨_, _, _, new_deq W0, DGood.nil, rfl, ?_⟩, hb⟩
  intro k hk
  simp [Foot, Value.ownBlock] at hk
  omega
theorem MadeL.push {W0 W : World} {d : Nat} {xs : List Txt} (h : MadeL W0 W d xs) (s : Txt) (hs : s.length ≤ 1048576) (hx : xs.length < 1048576) :
    Calls Tryz.prog 62 #[.pointer (some ⟨d, 0, none⟩), .bool false, .string ⟨s.toArray⟩] W fun e W' => e = .returned (.int .i64 0) ∧ MadeL W0 W' d (xs ++ [s]) := by
  obtain ⟨⟨v, gs, cs, h1, h2, h3, h4⟩, h5⟩ := h
  have ht : total cs < 1048576 := by rw [total_flatten, h3]; exact hx
  refine (push_ok W d v gs cs false s h1 h2 hs ht).mono ?_
  rintro e W' ⟨v', gs', rfl, q1, q2, q3⟩
  refine ⟨rfl, ⟨v', gs', _, q1, h2.push false hs ht, ?_, fun k hk => ?_⟩, h5.trans (q2.below h5.size h4)⟩
  · rw [push_row, h3]; rfl
  · rcases q3 k hk with hk | hk
    · exact h4 k hk
    · exact Nat.le_trans h5.size hk
structure MadeR (W0 W : World) (r : Nat) (xs : List Fld) : Prop where
  held : ∃ seed d D l, DStr.RecAt W r seed d D l ∧ l.Perm xs ∧ ∀ k, DStr.RecFoot r d D k → W0.heap.size ≤ k
  below : Below W0.heap.size W0 W
theorem MadeR.new (W0 : World) (seed : Nat) (hs : seed < 18446744073709551616) : Calls Tryz.prog 64 #[.int .u64 seed] W0 fun e W => ∃ r, e = .returned (.pointer (some ⟨r, 0, none⟩)) ∧ MadeR W0 W r [] := by
  refine (DStr.rNew_any W0 seed hs).mono ?_
  rintro e W ⟨r, d, D, rfl, q1, q2, q3⟩
  exact ⟨r, rfl, ⟨seed, d, D, [], q1, List.Perm.refl _, q3⟩, q2⟩
theorem MadeR.alloc {W0 W : World} {r : Nat} {xs : List Fld} (h : MadeR W0 W r xs) (o : Obj) : MadeR W0 (W.alloc o) r xs := by
  obtain ⟨⟨seed, d, D, l, q1, q2, q3⟩, q4⟩ := h
  exact ⟨⟨seed, d, D, l, q1.keep (S := fun _ => False) ((Chg.refl _ _).alloc _) fun _ _ e => e, q2, q3⟩, q4.alloc q4.size _⟩
theorem MadeR.set {W0 W : World} {r : Nat} {xs : List Fld} (h : MadeR W0 W r xs) (x : Fld) (h1 : x.1.length ≤ 1048576) (h2 : x.2.length ≤ 1048576) (hx : xs.length < 1048576) (hn : x.1 ∉ xs.map (·.1)) :
    Calls Tryz.prog 65 #[.pointer (some ⟨r, 0, none⟩), .string ⟨x.1.toArray⟩, .string ⟨x.2.toArray⟩] W fun e W' => e = .returned (.tuple #[.bool true, .int .i64 0]) ∧ MadeR W0 W' r (xs ++ [x]) := by
  obtain ⟨⟨seed, d, D, l, q1, q2, q3⟩, q4⟩ := h
  have hs : setR l x.1 x.2 = ((x.1, x.2) :: l, true, 0) := by
    unfold setR
    rw [if_neg (by omega)]
    have : recHas l x.1 = none := by
      unfold recHas
      rw [Option.map_eq_none_iff, List.find?_eq_none]
      intro p hp
      have : p.1 ∈ xs.map (·.1) := List.mem_map.2 ⟨p, q2.mem_iff.1 hp, rfl⟩
      simp
      exact fun e => hn (e ▸ this)
    rw [this]
    simp only
    rw [if_neg (by rw [q2.length_eq]; omega)]
  refine (DStr.rSet_any W r seed d D l x.1 x.2 q1 (by omega) (by omega)).mono ?_
  rintro e W' ⟨rfl, ⟨D', r1, r2⟩, r3⟩
  rw [hs] at r1 ⊢
  refine ⟨rfl, ⟨seed, d, D', _, r1, (q2.cons x).trans (List.perm_append_singleton x xs).symm, fun k hk => ?_⟩, q4.trans (r3.below q4.size q3)⟩
  rcases r2 k hk with hk | hk
  · exact q3 k hk
  · exact Nat.le_trans q4.size hk
structure MadeF (W0 W : World) (r : Nat) (xs : List (List UInt8)) : Prop where
  held : ∃ seed d D l, DUnit.FlkAt W r seed d D l ∧ l.Perm xs ∧ ∀ k, DUnit.FlkFoot r d D k → W0.heap.size ≤ k
  below : Below W0.heap.size W0 W
theorem MadeF.new (W0 : World) (seed : Nat) (hs : seed < 18446744073709551616) : Calls Tryz.prog 67 #[.int .u64 seed] W0 fun e W => ∃ r, e = .returned (.pointer (some ⟨r, 0, none⟩)) ∧ MadeF W0 W r [] := by
  refine (DUnit.fNew_any W0 seed hs).mono ?_
  rintro e W ⟨r, d, D, rfl, q1, q2, q3⟩
  exact ⟨r, rfl, ⟨seed, d, D, [], q1, List.Perm.refl _, q3⟩, q2⟩
theorem MadeF.add {W0 W : World} {r : Nat} {xs : List (List UInt8)} (h : MadeF W0 W r xs) (x : List UInt8) (h1 : x.length ≤ 1048576) (hx : xs.length < 1048576) (hn : x ∉ xs) :
    Calls Tryz.prog 68 #[.pointer (some ⟨r, 0, none⟩), .string ⟨x.toArray⟩] W fun e W' => e = .returned (.tuple #[.bool true, .int .i64 0]) ∧ MadeF W0 W' r (xs ++ [x]) := by
  obtain ⟨⟨seed, d, D, l, q1, q2, q3⟩, q4⟩ := h
  have hs : addF l x = (x :: l, true, 0) := by
    unfold addF
    rw [if_neg (by omega), if_neg (fun hm => hn (q2.mem_iff.1 hm)), if_neg (by rw [q2.length_eq]; omega)]
  refine (DUnit.fAdd_any W r seed d D l x q1 (by omega)).mono ?_
  rintro e W' ⟨rfl, ⟨D', r1, r2⟩, r3⟩
  rw [hs] at r1 ⊢
  refine ⟨rfl, ⟨seed, d, D', _, r1, (q2.cons x).trans (List.perm_append_singleton x xs).symm, fun k hk => ?_⟩, q4.trans (r3.below q4.size q3)⟩
  rcases r2 k hk with hk | hk
  · exact q3 k hk
  · exact Nat.le_trans q4.size hk
structure MadeK (W0 W : World) (r : Nat) (xs : List Mb) : Prop where
  held : ∃ S l, Rk W r S l ∧ l.Perm xs ∧ ∀ k, S k → W0.heap.size ≤ k
  below : Below W0.heap.size W0 W
theorem MadeK.new (W0 : World) (seed : Nat) (hs : seed < 18446744073709551616) : Calls Tryz.prog 70 #[.int .u64 seed] W0 fun e W => ∃ r, e = .returned (.pointer (some ⟨r, 0, none⟩)) ∧ MadeK W0 W r [] := by
  refine (Rk.new W0 seed hs).mono ?_
  rintro e W ⟨r, S, rfl, q1, q2, q3⟩
  exact ⟨r, rfl, ⟨S, [], q1, List.Perm.refl _, q3⟩, q2⟩
theorem setC_new {l l' : List Mb} {key : List UInt8} {x : Nat} {new : Bool} {code : Int} (h : SetC l key x l' new code) (hk : ∀ p ∈ l, p.1 ≠ key) (ht : key.length ≤ 1048576) (hx : ¬ fnan x) (hf : l.length < 1048576) : new = true ∧ code = 0 ∧ l'.Perm ((key, x) :: l) := by
  cases h with
  | long h => omega
  | nan h hx' => exact absurd hx' hx
  | full h hx' hk' hf' => omega
  | same h hx' y hy he => exact absurd rfl (hk _ hy)
  | moved h hx' i y j hy he hj => exact absurd rfl (hk _ (List.mem_of_getElem? hy))
  | fresh h hx' hk' hf' j hj => exact ⟨rfl, rfl, ins_perm l j _⟩
theorem MadeK.alloc {W0 W : World} {r : Nat} {xs : List Mb} (h : MadeK W0 W r xs) (o : Obj) : MadeK W0 (W.alloc o) r xs := by
  obtain ⟨⟨S, l, q1, q2, q3⟩, q4⟩ := h
  exact ⟨⟨S, l, q1.below ((Below.refl _ _).alloc (Nat.le_refl _) _), q2, q3⟩, q4.alloc q4.size _⟩
theorem MadeK.set {W0 W : World} {r : Nat} {xs : List Mb} (h : MadeK W0 W r xs) (x : Mb) (h1 : x.1.length ≤ 1048576) (h2 : ¬ fnan x.2) (hx : xs.length < 1048576) (hn : x.1 ∉ xs.map (·.1)) :
    Calls Tryz.prog 71 #[.pointer (some ⟨r, 0, none⟩), .string ⟨x.1.toArray⟩, .float .f64 x.2] W fun e W' => e = .returned (.tuple #[.bool true, .int .i64 0]) ∧ MadeK W0 W' r (xs ++ [x]) := by
  obtain ⟨⟨S, l, q1, q2, q3⟩, q4⟩ := h
  refine (q1.set x.1 x.2 (by omega)).mono ?_
  rintro e W' ⟨l', new, code, r1, rfl, ⟨S', r2, r3⟩, r4⟩
  obtain ⟨rfl, rfl, hp⟩ := setC_new r1 (fun p hp e => hn (e ▸ List.mem_map.2 ⟨p, q2.mem_iff.1 hp, rfl⟩)) h1 h2 (by rw [q2.length_eq]; exact hx)
  refine ⟨rfl, ⟨S', l', r2, hp.trans ((q2.cons x).trans (List.perm_append_singleton x xs).symm), fun k hk => ?_⟩, q4.trans (r4.below q4.size q3)⟩
  rcases r3 k hk with hk | hk
  · exact q3 k hk
  · exact Nat.le_trans q4.size hk
end Go.Proofs.YteiklgbjjmlmaaaGreat


/- The value that plain data tells: Of. -/
set_option linter.unusedVariables false
set_option linter.unusedSimpArgs false
namespace Pantry
open Go Go.RowKit
theorem longT_ge (m : Int) (l : List (List UInt8)) : m ≤ longT m l ∧ ∀ s ∈ l, (s.length : Int) ≤ longT m l := by
  induction l generalizing m with
  | nil => exact ⟨Int.le_refl _, by simp⟩
  | cons x l ih =>
    obtain ⟨h1, h2⟩ := ih (max m (x.length : Int))
    change m ≤ longT (max m (x.length : Int)) l ∧ ∀ s ∈ x :: l, (s.length : Int) ≤ longT (max m (x.length : Int)) l
    refine ⟨by omega, fun s hs => ?_⟩
    rcases List.mem_cons.1 hs with rfl | hs
    · omega
    · exact h2 s hs
theorem longF_ge (m : Int) (l : List Fld) : m ≤ longF m l ∧ ∀ s ∈ l, (s.1.length : Int) ≤ longF m l ∧ (s.2.length : Int) ≤ longF m l := by
  induction l generalizing m with
  | nil => exact ⟨Int.le_refl _, by simp⟩
  | cons x l ih =>
    obtain ⟨h1, h2⟩ := ih (max m (max (x.1.length : Int) (x.2.length : Int)))
    change m ≤ longF (max m (max (x.1.length : Int) (x.2.length : Int))) l ∧ ∀ s ∈ x :: l, (s.1.length : Int) ≤ longF (max m (max (x.1.length : Int) (x.2.length : Int))) l ∧ (s.2.length : Int) ≤ longF (max m (max (x.1.length : Int) (x.2.length : Int))) l
    refine ⟨by omega, fun s hs => ?_⟩
    rcases List.mem_cons.1 hs with rfl | hs
    · omega
    · exact h2 s hs
theorem longM_ge (m : Int) (l : List Mb) : m ≤ longM m l ∧ ∀ s ∈ l, (s.1.length : Int) ≤ longM m l := by
  induction l generalizing m with
  | nil => exact ⟨Int.le_refl _, by simp⟩
  | cons x l ih =>
    obtain ⟨h1, h2⟩ := ih (max m (x.1.length : Int))
    change m ≤ longM (max m (x.1.length : Int)) l ∧ ∀ s ∈ x :: l, (s.1.length : Int) ≤ longM (max m (x.1.length : Int)) l
    refine ⟨by omega, fun s hs => ?_⟩
    rcases List.mem_cons.1 hs with rfl | hs
    · omega
    · exact h2 s hs
/-- Plain data that makes a value. -/
structure Fine (p : PD) : Prop where
  kind : 1 ≤ p.kind ∧ p.kind ≤ 5
  text : p.text.length ≤ 1048576
  items : ∀ s ∈ p.items, s.length ≤ 1048576
  flds : ∀ x ∈ p.pairs, x.1.length ≤ 1048576 ∧ x.2.length ≤ 1048576
  mems : ∀ x ∈ p.ranks, x.1.length ≤ 1048576
  few : p.items.length ≤ 1048576 ∧ p.pairs.length ≤ 1048576 ∧ p.ranks.length ≤ 1048576
  names : (namesP p).Nodup
  num : ∀ x ∈ p.ranks, ¬ fnan x.2
  noText : p.kind ≠ 1 → p.text = []
  noItems : p.kind ≠ 2 → p.kind ≠ 4 → p.items = []
  noPairs : p.kind ≠ 3 → p.pairs = []
  noRanks : p.kind ≠ 5 → p.ranks = []
theorem wrongP_zero {p : PD} (h : wrongP p = 0) : Fine p := by
  unfold wrongP at h
  split at h
  · omega
  · rename_i h1
    split at h
    · omega
    · rename_i h2
      split at h
      · omega
      · rename_i h3
        split at h
        · omega
        · rename_i h4
          simp only [not_or, Bool.not_eq_false] at h1
          obtain ⟨k1, k2, b1, b2, b3, b4⟩ := h1
          obtain ⟨t1, t2⟩ := longM_ge (longF (longT p.text.length p.items) p.pairs) p.ranks
          obtain ⟨t3, t4⟩ := longF_ge (longT p.text.length p.items) p.pairs
          obtain ⟨t5, t6⟩ := longT_ge p.text.length p.items
          change ¬ 1048576 < longM (longF (longT p.text.length p.items) p.pairs) p.ranks at h3
          unfold mostP at h4
          simp only [twiceP, Bool.or_eq_true, not_or, Bool.not_eq_true] at h2
          refine ⟨by omega, by omega, fun s hs => ?_, fun x hx => ?_, fun x hx => ?_, by omega, ?_, fun x hx hn => ?_, fun hk => ?_, fun hk hk2 => ?_, fun hk => ?_, fun hk => ?_⟩
          · have := t6 s hs; omega
          · have := t4 x hx; omega
          · have := t2 x hx; omega
          · simpa [dupB] using h2.1
          · have h5 := h2.2
            unfold nanB at h5
            rw [List.any_eq_false] at h5
            exact h5 x hx (by simpa using hn)
          · simp only [belT, Bool.or_eq_true, decide_eq_true_eq] at b1
            rcases b1 with e | e
            · exact absurd e.symm hk
            · exact List.length_eq_zero_iff.1 e
          · simp only [belI, Bool.or_eq_true, decide_eq_true_eq] at b2
            rcases b2 with (e | e) | e
            · exact absurd e.symm hk
            · exact absurd e.symm hk2
            · exact List.length_eq_zero_iff.1 e
          · simp only [belF, Bool.or_eq_true, decide_eq_true_eq] at b3
            rcases b3 with e | e
            · exact absurd e.symm hk
            · exact List.length_eq_zero_iff.1 e
          · simp only [belR, Bool.or_eq_true, decide_eq_true_eq] at b4
            rcases b4 with e | e
            · exact absurd e.symm hk
            · exact List.length_eq_zero_iff.1 e
/-- What plain data is told as, once it is a value. -/
inductive Canon (p : PD) : PD → Prop
  | text (h : p.kind = 1) : Canon p ⟨1, p.text, [], [], []⟩
  | list (h : p.kind = 2) : Canon p ⟨2, [], p.items, [], []⟩
  | record (h : p.kind = 3) : Canon p ⟨3, [], [], sortK p.pairs, []⟩
  | flock (h : p.kind = 4) : Canon p ⟨4, [], sortT p.items, [], []⟩
  | ranks (l : List Mb) (h : p.kind = 5) (hl : l.Perm p.ranks) (hr : Rises l) : Canon p ⟨5, [], [], [], l⟩
theorem nodup_next {α : Type} {l : List α} {k : Nat} {x : α} (hn : l.Nodup) (h : l[k]? = some x) : x ∉ l.take k := by
  intro hm
  obtain ⟨i, hi⟩ := List.mem_iff_getElem?.1 hm
  have hik : i < k := by
    have := (List.getElem?_eq_some_iff.1 hi).1
    rw [List.length_take] at this
    omega
  rw [List.getElem?_take_of_lt hik] at hi
  obtain ⟨h1, e1⟩ := List.getElem?_eq_some_iff.1 hi
  obtain ⟨h2, e2⟩ := List.getElem?_eq_some_iff.1 h
  exact (List.pairwise_iff_getElem.1 hn) i k h1 h2 hik (e1.trans e2.symm)
end Pantry
namespace Go.Proofs.YteiklgbjjmlmaaaGreat
open Go.RowKit Pantry

def OfPost (p : PD) (w : World) (e : Ending) (w' : World) : Prop :=
  ∃ v q, e = .returned (.tuple #[.pointer (some ⟨v, 0, none⟩), .int .i64 0]) ∧ Canon p q ∧ ValIs w' v q ∧ Below w.heap.size w w'
theorem PlainAt.below {w w' : World} {p : PD} {a1 a2 a3 : Option Addr} (h : PlainAt w p a1 a2 a3) (hb : Below w.heap.size w w') : PlainAt w' p a1 a2 a3 := ⟨h.items.below hb, h.pairs.below hb, h.ranks.below hb⟩
theorem mkText (w : World) (s : List UInt8) : Calls Tryz.prog 60 #[.string ⟨s.toArray⟩] w fun e w' => e = .returned (.pointer (some ⟨w.heap.size, 0, none⟩)) ∧ w' = w.alloc (.cells #[.iface 132 (.string ⟨s.toArray⟩)] 122) := by
  go_enter Tryz.func60, Tryz.ntmps60
  go_wp2_with fail
  go_ret
  exact ⟨rfl, rfl⟩
theorem mkVList (w : World) (d : Nat) : Calls Tryz.prog 63 #[.pointer (some ⟨d, 0, none⟩)] w fun e w' => e = .returned (.pointer (some ⟨w.heap.size, 0, none⟩)) ∧ w' = w.alloc (.cells #[.iface 144 (.agg #[.pointer (some ⟨d, 0, none⟩)])] 122) := by
  go_enter Tryz.func63, Tryz.ntmps63
  go_wp2_with fail
  go_ret
  exact ⟨rfl, rfl⟩
theorem mkVRecord (w : World) (d : Nat) : Calls Tryz.prog 66 #[.pointer (some ⟨d, 0, none⟩)] w fun e w' => e = .returned (.pointer (some ⟨w.heap.size, 0, none⟩)) ∧ w' = w.alloc (.cells #[.iface 154 (.agg #[.pointer (some ⟨d, 0, none⟩)])] 122) := by
  go_enter Tryz.func66, Tryz.ntmps66
  go_wp2_with fail
  go_ret
  exact ⟨rfl, rfl⟩
theorem mkVFlock (w : World) (d : Nat) : Calls Tryz.prog 69 #[.pointer (some ⟨d, 0, none⟩)] w fun e w' => e = .returned (.pointer (some ⟨w.heap.size, 0, none⟩)) ∧ w' = w.alloc (.cells #[.iface 163 (.agg #[.pointer (some ⟨d, 0, none⟩)])] 122) := by
  go_enter Tryz.func69, Tryz.ntmps69
  go_wp2_with fail
  go_ret
  exact ⟨rfl, rfl⟩
theorem mkVRanks (w : World) (d : Nat) : Calls Tryz.prog 72 #[.pointer (some ⟨d, 0, none⟩)] w fun e w' => e = .returned (.pointer (some ⟨w.heap.size, 0, none⟩)) ∧ w' = w.alloc (.cells #[.iface 174 (.agg #[.pointer (some ⟨d, 0, none⟩)])] 122) := by
  go_enter Tryz.func72, Tryz.ntmps72
  go_wp2_with fail
  go_ret
  exact ⟨rfl, rfl⟩

set_option maxHeartbeats 2000000 in
theorem of_wrong (w : World) (p : PD) (a1 a2 a3 : Option Addr) (c1 c2 c3 seed : Nat) (hP : PlainAt w p a1 a2 a3) (hB : PlainBig p) (hz : wrongP p ≠ 0) :
    Calls Tryz.prog 49 #[.agg (Tryz.plainCells p a1 a2 a3 c1 c2 c3), .int .u64 seed] w fun e w' => e = .returned (.tuple #[.pointer none, .int .i64 (wrongP p)]) ∧ Below w.heap.size w w' := by
  obtain ⟨W0, hW0⟩ : ∃ W, w.alloc (.cells (Tryz.plainCells p a1 a2 a3 c1 c2 c3) 49) = W := ⟨_, rfl⟩
  have H0 := Lib.hid (OnBox.start w p a1 a2 a3 c1 c2 c3)
  rw [hW0] at H0
  have HW := Lib.hid (wrong_any W0 p a1 a2 a3 c1 c2 c3 (hP.below H0.out.2.1) hB)
  have k0 := H0.out.kind
  obtain ⟨g1, g2, g3, g4⟩ := H0.out.fields
  replace hP := Lib.hid hP
  have hz' : (wrongP p == 0) = false := by simp [hz]
  have hz'' : (!(wrongP p == 0)) = true := by simp [hz]
  generalize wrongP p = z at *
  unfold Tryz.plainCells at hW0 HW ⊢
  go_enter Tryz.func49, Tryz.ntmps49
  go_wp2_with (first
    | (go_at_call 59
       refine HW.out.mono ?_
       rintro e w1 ⟨rfl, hb1⟩
       have HO1 := H0.out.to hb1
       have k1 := HO1.kind
       obtain ⟨f1, f2, f3, f4⟩ := HO1.fields
       replace HO1 := Lib.hid HO1
       clear HW hb1))
  go_ret2
  exact ⟨rfl, HO1.out.2.1⟩
set_option maxHeartbeats 2000000 in
theorem of_text (w : World) (p : PD) (a1 a2 a3 : Option Addr) (c1 c2 c3 seed : Nat) (hP : PlainAt w p a1 a2 a3) (hB : PlainBig p) (hz : wrongP p = 0) (hk : p.kind = 1) :
    Calls Tryz.prog 49 #[.agg (Tryz.plainCells p a1 a2 a3 c1 c2 c3), .int .u64 seed] w (OfPost p w) := by
  obtain ⟨W0, hW0⟩ : ∃ W, w.alloc (.cells (Tryz.plainCells p a1 a2 a3 c1 c2 c3) 49) = W := ⟨_, rfl⟩
  have H0 := Lib.hid (OnBox.start w p a1 a2 a3 c1 c2 c3)
  rw [hW0] at H0
  have HW := Lib.hid (wrong_any W0 p a1 a2 a3 c1 c2 c3 (hP.below H0.out.2.1) hB)
  have k0 := H0.out.kind
  obtain ⟨g1, g2, g3, g4⟩ := H0.out.fields
  replace hP := Lib.hid hP
  rw [hz] at HW
  have HK := Lib.hid hk
  have hkk : ∀ W, OnBox w p a1 a2 a3 c1 c2 c3 W → W.cell? ⟨w.heap.size, 0, none⟩ = some (.int .i64 1) := fun W h => by rw [h.kind, hk]
  replace hkk := Lib.hid hkk
  unfold Tryz.plainCells at hW0 HW ⊢
  rw [hk] at hW0 HW k0 ⊢
  go_enter Tryz.func49, Tryz.ntmps49
  go_wp2_with (first
    | (go_at_call 59
       refine HW.out.mono ?_
       rintro e w1 ⟨rfl, hb1⟩
       have HO1 := H0.out.to hb1
       have k1 := hkk.out _ HO1
       obtain ⟨f1, f2, f3, f4⟩ := HO1.fields
       replace HO1 := Lib.hid HO1
       clear HW hb1)
    | (go_at_call 60
       refine (mkText _ _).mono ?_
       rintro e w2 ⟨rfl, rfl⟩))
  go_ret2
  exact ⟨_, _, rfl, .text HK.out, .text _ (heap_alloc_new _ _), HO1.out.2.1.alloc HO1.out.2.1.size _⟩
set_option maxHeartbeats 8000000 in
theorem of_list (w : World) (p : PD) (a1 a2 a3 : Option Addr) (c1 c2 c3 seed : Nat) (hs : seed < 18446744073709551616) (hP : PlainAt w p a1 a2 a3) (hB : PlainBig p) (hz : wrongP p = 0) (hk : p.kind = 2) :
    Calls Tryz.prog 49 #[.agg (Tryz.plainCells p a1 a2 a3 c1 c2 c3), .int .u64 seed] w (OfPost p w) := by
  have hF := wrongP_zero hz
  obtain ⟨W0, hW0⟩ : ∃ W, w.alloc (.cells (Tryz.plainCells p a1 a2 a3 c1 c2 c3) 49) = W := ⟨_, rfl⟩
  have H0 := Lib.hid (OnBox.start w p a1 a2 a3 c1 c2 c3)
  rw [hW0] at H0
  have HW := Lib.hid (wrong_any W0 p a1 a2 a3 c1 c2 c3 (hP.below H0.out.2.1) hB)
  have k0 := H0.out.kind
  obtain ⟨g1, g2, g3, g4⟩ := H0.out.fields
  replace hP := Lib.hid hP
  rw [hz] at HW
  have HK := Lib.hid hk
  have hkk : ∀ W, OnBox w p a1 a2 a3 c1 c2 c3 W → W.cell? ⟨w.heap.size, 0, none⟩ = some (.int .i64 2) := fun W h => by rw [h.kind, hk]
  replace hkk := Lib.hid hkk
  replace hF := Lib.hid hF
  have HNEW := fun W => Lib.hid (MadeL.new W)
  unfold Tryz.plainCells at hW0 HW ⊢
  rw [hk] at hW0 HW k0 ⊢
  go_enter Tryz.func49, Tryz.ntmps49
  go_wp2_with (first
    | (go_at_call 59
       refine HW.out.mono ?_
       rintro e w1 ⟨rfl, hb1⟩
       have HO1 := H0.out.to hb1
       have k1 := hkk.out _ HO1
       obtain ⟨f1, f2, f3, f4⟩ := HO1.fields
       replace HO1 := Lib.hid HO1
       clear HW hb1)
    | (go_at_call 61
       refine (HNEW _).out.mono ?_
       rintro e w2 ⟨rfl, HM⟩
       have HO2 := HO1.out.to HM.below
       obtain ⟨f12, f22, f32, f42⟩ := HO2.fields
       clear HO2
       replace HM := Lib.hid HM))
  go_loopw [37] (fun i wr => ∃ k : Nat, k ≤ p.items.length ∧ i = .int .i64 k ∧ MadeL w1 wr w1.heap.size (p.items.take k))
    (fun i _ => p.items.length - (intOf i).toNat)
  case atStart => exact ⟨0, Nat.zero_le _, rfl, HM.out⟩
  case round =>
    obtain ⟨k, hk, rfl, hM⟩ := hrel
    have hbi := hF.out.few
    by_cases hlt : k < p.items.length
    · have hwr := HO1.out.2.1.trans (hM.below.mono HO1.out.2.1.size)
      have hRd : Rd wr a1 (p.items.map txC) := hP.out.items.below hwr
      obtain ⟨x, hx⟩ : ∃ x, p.items[k]? = some x := ⟨_, List.getElem?_eq_getElem hlt⟩
      have hget := Lib.hid (show p.items.take (k + 1) = p.items.take k ++ [x] from by rw [take_succ_get _ _ hlt]; simp [List.getElem?_eq_getElem hlt] at hx; rw [hx])
      have hmem := List.mem_of_getElem? hx
      have hC := hM.push x (hF.out.items x hmem) (by rw [List.length_take]; omega)
      have HC := Lib.hid hC
      clear hC
      obtain ⟨y, hy, hcx⟩ := hRd.cell k (by simpa using hlt)
      rw [List.getElem_map] at hcx
      have hxe : p.items[k] = x := by simp [List.getElem?_eq_getElem hlt] at hx; exact hx
      rw [hxe] at hcx
      change wr.cell? (y.add k) = some (.string ⟨x.toArray⟩) at hcx
      subst hy
      clear hxe
      replace hM := Lib.hid hM
      clear hRd hx hwr hmem
      go_wp2_with (first
        | (go_at_call 62; refine HC.out.mono ?_; rintro e W2 ⟨rfl, HN⟩; replace HN := Lib.hid HN; clear HC))
      go_roundw
      case rel => exact ⟨k + 1, by omega, by go_num, by rw [hget.out]; exact HN.out⟩
      case measure => simp [intOf]; omega
    · obtain rfl : k = p.items.length := by omega
      rw [List.take_length] at hM
      replace hM := Lib.hid hM
      go_wp2_with (go_at_call 63; refine (mkVList _ _).mono ?_; rintro e W3 ⟨rfl, rfl⟩)
      go_ret2
      have hb := hM.out.below
      obtain ⟨hd, -⟩ := hM.out
      obtain ⟨v, gs, cs, q1, q2, q3, q4⟩ := hd
      have hB0 := HO1.out.2.1
      have hb3 := hB0.trans (hb.mono hB0.size)
      refine ⟨_, _, rfl, .list HK.out, ?_, hb3.alloc hb3.size _⟩
      rw [← q3]
      exact .list _ v gs cs (heap_alloc_new _ _) (q1.chg (S := fun _ => False) ((Chg.refl _ _).alloc _) fun _ _ e => e) q2
set_option maxHeartbeats 8000000 in
theorem of_flock (w : World) (p : PD) (a1 a2 a3 : Option Addr) (c1 c2 c3 seed : Nat) (hs : seed < 18446744073709551616) (hP : PlainAt w p a1 a2 a3) (hB : PlainBig p) (hz : wrongP p = 0) (hk : p.kind = 4) :
    Calls Tryz.prog 49 #[.agg (Tryz.plainCells p a1 a2 a3 c1 c2 c3), .int .u64 seed] w (OfPost p w) := by
  have hF := wrongP_zero hz
  obtain ⟨W0, hW0⟩ : ∃ W, w.alloc (.cells (Tryz.plainCells p a1 a2 a3 c1 c2 c3) 49) = W := ⟨_, rfl⟩
  have H0 := Lib.hid (OnBox.start w p a1 a2 a3 c1 c2 c3)
  rw [hW0] at H0
  have HW := Lib.hid (wrong_any W0 p a1 a2 a3 c1 c2 c3 (hP.below H0.out.2.1) hB)
  have k0 := H0.out.kind
  obtain ⟨g1, g2, g3, g4⟩ := H0.out.fields
  replace hP := Lib.hid hP
  rw [hz] at HW
  have HK := Lib.hid hk
  have hkk : ∀ W, OnBox w p a1 a2 a3 c1 c2 c3 W → W.cell? ⟨w.heap.size, 0, none⟩ = some (.int .i64 4) := fun W h => by rw [h.kind, hk]
  replace hkk := Lib.hid hkk
  replace hF := Lib.hid hF
  have HNEW := fun W => Lib.hid (MadeF.new W seed hs)
  unfold Tryz.plainCells at hW0 HW ⊢
  rw [hk] at hW0 HW k0 ⊢
  go_enter Tryz.func49, Tryz.ntmps49
  go_wp2_with (first
    | (go_at_call 59
       refine HW.out.mono ?_
       rintro e w1 ⟨rfl, hb1⟩
       have HO1 := H0.out.to hb1
       have k1 := hkk.out _ HO1
       obtain ⟨f1, f2, f3, f4⟩ := HO1.fields
       replace HO1 := Lib.hid HO1
       clear HW hb1)
    | (go_at_call 67
       refine (HNEW _).out.mono ?_
       rintro e w2 ⟨r, rfl, HM⟩
       have HO2 := HO1.out.to HM.below
       obtain ⟨f12, f22, f32, f42⟩ := HO2.fields
       clear HO2
       replace HM := Lib.hid HM))
  go_loopw [74] (fun i wr => ∃ k : Nat, k ≤ p.items.length ∧ i = .int .i64 k ∧ MadeF w1 wr r (p.items.take k))
    (fun i _ => p.items.length - (intOf i).toNat)
  case atStart => exact ⟨0, Nat.zero_le _, rfl, HM.out⟩
  case round =>
    obtain ⟨k, hk, rfl, hM⟩ := hrel
    have hbi := hF.out.few
    by_cases hlt : k < p.items.length
    · have hwr := HO1.out.2.1.trans (hM.below.mono HO1.out.2.1.size)
      have hRd : Rd wr a1 (p.items.map txC) := hP.out.items.below hwr
      obtain ⟨x, hx⟩ : ∃ x, p.items[k]? = some x := ⟨_, List.getElem?_eq_getElem hlt⟩
      have hget := Lib.hid (show p.items.take (k + 1) = p.items.take k ++ [x] from by rw [take_succ_get _ _ hlt]; simp [List.getElem?_eq_getElem hlt] at hx; rw [hx])
      have hmem := List.mem_of_getElem? hx
      have hnd : p.items.Nodup := by
        have := hF.out.names
        unfold namesP namesT at this
        rw [if_pos HK.out, List.take_length, List.append_assoc] at this
        exact (List.nodup_append.1 this).1
      have hC := hM.add x (hF.out.items x hmem) (by rw [List.length_take]; omega) (nodup_next hnd hx)
      have HC := Lib.hid hC
      clear hC hnd
      obtain ⟨y, hy, hcx⟩ := hRd.cell k (by simpa using hlt)
      rw [List.getElem_map] at hcx
      have hxe : p.items[k] = x := by simp [List.getElem?_eq_getElem hlt] at hx; exact hx
      rw [hxe] at hcx
      change wr.cell? (y.add k) = some (.string ⟨x.toArray⟩) at hcx
      subst hy
      clear hxe
      replace hM := Lib.hid hM
      clear hRd hx hwr hmem
      go_wp2_with (first
        | (go_at_call 68; refine HC.out.mono ?_; rintro e W2 ⟨rfl, HN⟩; replace HN := Lib.hid HN; clear HC))
      go_roundw
      case rel => exact ⟨k + 1, by omega, by go_num, by rw [hget.out]; exact HN.out⟩
      case measure => simp [intOf]; omega
    · obtain rfl : k = p.items.length := by omega
      rw [List.take_length] at hM
      replace hM := Lib.hid hM
      go_wp2_with (go_at_call 69; refine (mkVFlock _ _).mono ?_; rintro e W3 ⟨rfl, rfl⟩)
      go_ret2
      have hb := hM.out.below
      obtain ⟨hd, -⟩ := hM.out
      obtain ⟨sd, d, D, l, q1, q2, q3⟩ := hd
      have hB0 := HO1.out.2.1
      have hb3 := hB0.trans (hb.mono hB0.size)
      refine ⟨_, _, rfl, .flock HK.out, ?_, hb3.alloc hb3.size _⟩
      rw [sortT_congr q2.symm q1.good.keys]
      exact .flock r sd d D l (heap_alloc_new _ _) (q1.keep (S := fun _ => False) ((Chg.refl _ _).alloc _) fun _ _ e => e)
set_option maxHeartbeats 8000000 in
theorem of_record (w : World) (p : PD) (a1 a2 a3 : Option Addr) (c1 c2 c3 seed : Nat) (hs : seed < 18446744073709551616) (hP : PlainAt w p a1 a2 a3) (hB : PlainBig p) (hz : wrongP p = 0) (hk : p.kind = 3) :
    Calls Tryz.prog 49 #[.agg (Tryz.plainCells p a1 a2 a3 c1 c2 c3), .int .u64 seed] w (OfPost p w) := by
  have hF := wrongP_zero hz
  obtain ⟨W0, hW0⟩ : ∃ W, w.alloc (.cells (Tryz.plainCells p a1 a2 a3 c1 c2 c3) 49) = W := ⟨_, rfl⟩
  have H0 := Lib.hid (OnBox.start w p a1 a2 a3 c1 c2 c3)
  rw [hW0] at H0
  have HW := Lib.hid (wrong_any W0 p a1 a2 a3 c1 c2 c3 (hP.below H0.out.2.1) hB)
  have k0 := H0.out.kind
  obtain ⟨g1, g2, g3, g4⟩ := H0.out.fields
  replace hP := Lib.hid hP
  rw [hz] at HW
  have HK := Lib.hid hk
  have hkk : ∀ W, OnBox w p a1 a2 a3 c1 c2 c3 W → W.cell? ⟨w.heap.size, 0, none⟩ = some (.int .i64 3) := fun W h => by rw [h.kind, hk]
  replace hkk := Lib.hid hkk
  replace hF := Lib.hid hF
  have HNEW := fun W => Lib.hid (MadeR.new W seed hs)
  unfold Tryz.plainCells at hW0 HW ⊢
  rw [hk] at hW0 HW k0 ⊢
  go_enter Tryz.func49, Tryz.ntmps49
  go_wp2_with (first
    | (go_at_call 59
       refine HW.out.mono ?_
       rintro e w1 ⟨rfl, hb1⟩
       have HO1 := H0.out.to hb1
       have k1 := hkk.out _ HO1
       obtain ⟨f1, f2, f3, f4⟩ := HO1.fields
       replace HO1 := Lib.hid HO1
       clear HW hb1)
    | (go_at_call 64
       refine (HNEW _).out.mono ?_
       rintro e w2 ⟨r, rfl, HM⟩
       have HO2 := HO1.out.to HM.below
       obtain ⟨f12, f22, f32, f42⟩ := HO2.fields
       clear HO2
       replace HM := Lib.hid HM))
  go_loopw [54] (fun i wr => ∃ k : Nat, k ≤ p.pairs.length ∧ i = .int .i64 k ∧ MadeR w1 wr r (p.pairs.take k))
    (fun i _ => p.pairs.length - (intOf i).toNat)
  case atStart => exact ⟨0, Nat.zero_le _, rfl, HM.out⟩
  case round =>
    obtain ⟨k, hk, rfl, hM⟩ := hrel
    have hbi := hF.out.few
    by_cases hlt : k < p.pairs.length
    · have hwr := HO1.out.2.1.trans (hM.below.mono HO1.out.2.1.size)
      have hRd : Rd wr a2 (fdCells p.pairs) := hP.out.pairs.below hwr
      obtain ⟨x, hx⟩ : ∃ x, p.pairs[k]? = some x := ⟨_, List.getElem?_eq_getElem hlt⟩
      have hget := Lib.hid (show p.pairs.take (k + 1) = p.pairs.take k ++ [x] from by rw [take_succ_get _ _ hlt]; simp [List.getElem?_eq_getElem hlt] at hx; rw [hx])
      have hmem := List.mem_of_getElem? hx
      have hnd : (p.pairs.map (·.1)).Nodup := by
        have := hF.out.names
        unfold namesP at this
        rw [List.append_assoc] at this
        exact (List.nodup_append.1 (List.nodup_append.1 this).2.1).1
      have hnx : x.1 ∉ (p.pairs.take k).map (·.1) := by
        rw [List.map_take]
        exact nodup_next hnd (by rw [List.getElem?_map, hx]; rfl)
      have hC := (hM.alloc (.cells #[.string ⟨x.1.toArray⟩, .string ⟨x.2.toArray⟩] 71)).set x (hF.out.flds x hmem).1 (hF.out.flds x hmem).2 (by rw [List.length_take]; omega) hnx
      have HC := Lib.hid hC
      clear hC hnd hnx
      obtain ⟨y, rfl, hcl⟩ := fd_cells hRd hx
      have HCL := Lib.hid (show ∀ j u, ([.string ⟨x.1.toArray⟩, .string ⟨x.2.toArray⟩] : List Value)[j]? = some u → wr.cell? ((y.add (k * 2)).add j) = some u from hcl)
      have HSZ := Lib.hid (show (Tryz.prog.info? 71).map (·.size) = some 2 by kernel_rfl)
      clear hcl
      replace hM := Lib.hid hM
      clear hRd hx hwr hmem
      go_wp2_with (first
        | (refine wpl_load_at rfl 71 _ rfl (y.add (k * 2)) rfl _ _ HCL.out Tryz.underlying71 rfl HSZ.out ?_; clear HCL)
        | (go_at_call 65; refine HC.out.mono ?_; rintro e W2 ⟨rfl, HN⟩; replace HN := Lib.hid HN; clear HC))
      go_roundw
      case rel => exact ⟨k + 1, by omega, by go_num, by rw [hget.out]; exact HN.out⟩
      case measure => simp [intOf]; omega
    · obtain rfl : k = p.pairs.length := by omega
      rw [List.take_length] at hM
      replace hM := Lib.hid hM
      go_wp2_with (go_at_call 66; refine (mkVRecord _ _).mono ?_; rintro e W3 ⟨rfl, rfl⟩)
      go_ret2
      have hb := hM.out.below
      obtain ⟨hd, -⟩ := hM.out
      obtain ⟨sd, d, D, l, q1, q2, q3⟩ := hd
      have hB0 := HO1.out.2.1
      have hb3 := hB0.trans (hb.mono hB0.size)
      refine ⟨_, _, rfl, .record HK.out, ?_, hb3.alloc hb3.size _⟩
      rw [sortK_congr q2.symm q1.good.keys]
      exact .record r sd d D l (heap_alloc_new _ _) (q1.keep (S := fun _ => False) ((Chg.refl _ _).alloc _) fun _ _ e => e)
set_option maxHeartbeats 8000000 in
theorem of_ranks (w : World) (p : PD) (a1 a2 a3 : Option Addr) (c1 c2 c3 seed : Nat) (hs : seed < 18446744073709551616) (hP : PlainAt w p a1 a2 a3) (hB : PlainBig p) (hz : wrongP p = 0) (hk : p.kind = 5) :
    Calls Tryz.prog 49 #[.agg (Tryz.plainCells p a1 a2 a3 c1 c2 c3), .int .u64 seed] w (OfPost p w) := by
  have hF := wrongP_zero hz
  obtain ⟨W0, hW0⟩ : ∃ W, w.alloc (.cells (Tryz.plainCells p a1 a2 a3 c1 c2 c3) 49) = W := ⟨_, rfl⟩
  have H0 := Lib.hid (OnBox.start w p a1 a2 a3 c1 c2 c3)
  rw [hW0] at H0
  have HW := Lib.hid (wrong_any W0 p a1 a2 a3 c1 c2 c3 (hP.below H0.out.2.1) hB)
  have k0 := H0.out.kind
  obtain ⟨g1, g2, g3, g4⟩ := H0.out.fields
  replace hP := Lib.hid hP
  rw [hz] at HW
  have HK := Lib.hid hk
  have hkk : ∀ W, OnBox w p a1 a2 a3 c1 c2 c3 W → W.cell? ⟨w.heap.size, 0, none⟩ = some (.int .i64 5) := fun W h => by rw [h.kind, hk]
  replace hkk := Lib.hid hkk
  replace hF := Lib.hid hF
  have HNEW := fun W => Lib.hid (MadeK.new W seed hs)
  unfold Tryz.plainCells at hW0 HW ⊢
  rw [hk] at hW0 HW k0 ⊢
  go_enter Tryz.func49, Tryz.ntmps49
  go_wp2_with (first
    | (go_at_call 59
       refine HW.out.mono ?_
       rintro e w1 ⟨rfl, hb1⟩
       have HO1 := H0.out.to hb1
       have k1 := hkk.out _ HO1
       obtain ⟨f1, f2, f3, f4⟩ := HO1.fields
       replace HO1 := Lib.hid HO1
       clear HW hb1)
    | (go_at_call 70
       refine (HNEW _).out.mono ?_
       rintro e w2 ⟨r, rfl, HM⟩
       have HO2 := HO1.out.to HM.below
       obtain ⟨f12, f22, f32, f42⟩ := HO2.fields
       clear HO2
       replace HM := Lib.hid HM))
  go_loopw [89] (fun i wr => ∃ k : Nat, k ≤ p.ranks.length ∧ i = .int .i64 k ∧ MadeK w1 wr r (p.ranks.take k))
    (fun i _ => p.ranks.length - (intOf i).toNat)
  case atStart => exact ⟨0, Nat.zero_le _, rfl, HM.out⟩
  case round =>
    obtain ⟨k, hk, rfl, hM⟩ := hrel
    have hbi := hF.out.few
    by_cases hlt : k < p.ranks.length
    · have hwr := HO1.out.2.1.trans (hM.below.mono HO1.out.2.1.size)
      have hRd : Rd wr a3 (rkCells p.ranks) := hP.out.ranks.below hwr
      obtain ⟨x, hx⟩ : ∃ x, p.ranks[k]? = some x := ⟨_, List.getElem?_eq_getElem hlt⟩
      have hget := Lib.hid (show p.ranks.take (k + 1) = p.ranks.take k ++ [x] from by rw [take_succ_get _ _ hlt]; simp [List.getElem?_eq_getElem hlt] at hx; rw [hx])
      have hmem := List.mem_of_getElem? hx
      have hnd : (p.ranks.map (·.1)).Nodup := by
        have := hF.out.names
        unfold namesP at this
        exact (List.nodup_append.1 this).2.1
      have hnx : x.1 ∉ (p.ranks.take k).map (·.1) := by
        rw [List.map_take]
        exact nodup_next hnd (by rw [List.getElem?_map, hx]; rfl)
      have hC := (hM.alloc (.cells #[.string ⟨x.1.toArray⟩, .float .f64 x.2] 54)).set x (hF.out.mems x hmem) (hF.out.num x hmem) (by rw [List.length_take]; omega) hnx
      have HC := Lib.hid hC
      clear hC hnd hnx
      obtain ⟨y, rfl, hcl⟩ := rk_cells hRd hx
      have HCL := Lib.hid (show ∀ j u, ([.string ⟨x.1.toArray⟩, .float .f64 x.2] : List Value)[j]? = some u → wr.cell? ((y.add (k * 2)).add j) = some u from fun j u hj => by rw [Addr.add_add]; exact hcl j u hj)
      have HSZ := Lib.hid (show (Tryz.prog.info? 54).map (·.size) = some 2 by kernel_rfl)
      clear hcl
      replace hM := Lib.hid hM
      clear hRd hx hwr hmem
      go_wp2_with (first
        | (refine wpl_load_at rfl 54 _ rfl (y.add (k * 2)) rfl _ _ HCL.out Tryz.underlying54 rfl HSZ.out ?_; clear HCL)
        | (go_at_call 71; refine HC.out.mono ?_; rintro e W2 ⟨rfl, HN⟩; replace HN := Lib.hid HN; clear HC))
      go_roundw
      case rel => exact ⟨k + 1, by omega, by go_num, by rw [hget.out]; exact HN.out⟩
      case measure => simp [intOf]; omega
    · obtain rfl : k = p.ranks.length := by omega
      rw [List.take_length] at hM
      replace hM := Lib.hid hM
      go_wp2_with (go_at_call 72; refine (mkVRanks _ _).mono ?_; rintro e W3 ⟨rfl, rfl⟩)
      go_ret2
      have hb := hM.out.below
      obtain ⟨hd, -⟩ := hM.out
      obtain ⟨S, l, q1, q2, q3⟩ := hd
      have hB0 := HO1.out.2.1
      have hb3 := hB0.trans (hb.mono hB0.size)
      exact ⟨_, _, rfl, .ranks l HK.out q2 q1.good.rises, .ranks r S l (heap_alloc_new _ _) (q1.below ((Below.refl _ _).alloc (Nat.le_refl _) _)), hb3.alloc hb3.size _⟩
theorem of_any (w : World) (p : PD) (a1 a2 a3 : Option Addr) (c1 c2 c3 seed : Nat) (hs : seed < 18446744073709551616) (hP : PlainAt w p a1 a2 a3) (hB : PlainBig p) (hz : wrongP p = 0) :
    Calls Tryz.prog 49 #[.agg (Tryz.plainCells p a1 a2 a3 c1 c2 c3), .int .u64 seed] w (OfPost p w) := by
  have hk := (wrongP_zero hz).kind
  rcases (show p.kind = 1 ∨ p.kind = 2 ∨ p.kind = 3 ∨ p.kind = 4 ∨ p.kind = 5 by omega) with h | h | h | h | h
  · exact of_text w p a1 a2 a3 c1 c2 c3 seed hP hB hz h
  · exact of_list w p a1 a2 a3 c1 c2 c3 seed hs hP hB hz h
  · exact of_record w p a1 a2 a3 c1 c2 c3 seed hs hP hB hz h
  · exact of_flock w p a1 a2 a3 c1 c2 c3 seed hs hP hB hz h
  · exact of_ranks w p a1 a2 a3 c1 c2 c3 seed hs hP hB hz h
end Go.Proofs.YteiklgbjjmlmaaaGreat
