
/- A list told as plain data: what Each goes through, put behind one another in a field. -/
import Derived.Test.YteiklgbjjmlmaaaGreatZVKind
import Derived.Test.YteiklgbjjmlmaaaGreatZEach1
import Derived.Test.YteiklgbjjmlmaaaGreatZIter
import Derived.Sort.LoopGhostIn
import Derived.Sort.CutIn
set_option linter.unusedVariables false
set_option linter.unusedSimpArgs false
namespace Go.Proofs.YteiklgbjjmlmaaaGreat
open Go.RowKit Pantry

attribute [local go_sem] Oper.semAt_some
attribute [-go_sem] Builtin.append_
theorem itemI : ElemT Tryz.prog 45 9 1 16 (.string ⟨#[]⟩) := ⟨Tryz.underlying45, by kernel_rfl, rfl, by omega, by omega⟩
theorem txts_one2 (l : List Txt) (x : Txt) : txts (l ++ [x]) = txts l ++ [.string ⟨x.toArray⟩] := by simp [txts, txt]
/-- While the list is being told. -/
structure LSt (w : World) (X : Nat) (k : Int) (n : Nat) (xs : List Value) (A : World) (v : Value) : Prop where
  blk : A.heap[X]? = some (.cells #[.int .i64 k, .string ⟨#[]⟩, v, .slice none 0 0, .slice none 0 0] 49)
  row : A.ownsRow w.heap.size 9 1 v n xs
  bx : Boxed A (w.heap.size + 1) 125 (.pointer (some ⟨X, 0, none⟩))
  chg : Chg (fun k => k = X) w A
theorem LSt.apart {w : World} {X : Nat} {k : Int} {n : Nat} {xs : List Value} {A : World} {v : Value} (h : LSt w X k n xs A v) : v.ownBlock ≠ some X := fun e => by
  obtain ⟨c, hc, -⟩ := ownsRow_cells h.row e
  rw [h.blk] at hc
  cases hc
theorem lst_own {β : Type} {B : Nat} {w : World} {X : Nat} {k : Int} (hX : X < w.heap.size) (hB : w.heap.size ≤ B) (n : β → Nat) (xs : β → List Value) : OwnFrom B (fun (s : β) A => ∃ v, LSt w X k (n s) (xs s) A v) := by
  rintro s Y Z row ⟨v, h⟩ hg hrow
  have hne : ∀ {j : Nat} {c : Array Value} {t : TypeId} {fr : Nat × Nat}, Y.heap[j]? = some (.cells c t fr) → some j ≠ row := fun {j c t fr} hj e => by
    obtain ⟨-, o, ho, hc⟩ := hrow j e.symm
    rw [hj] at ho; cases ho; cases hc
  have hc : Chg (fun j => row = some j) Y Z := Chg.of_grown hg fun j e => e
  refine ⟨v, ⟨hc.heap h.blk fun e => hne h.blk e.symm, hc.ownsRow h.row fun j hj e => ?_, hc.heap h.bx fun e => hne h.bx e.symm, h.chg.trans hc fun j hj e => ?_⟩⟩
  · obtain ⟨c, hcc, -⟩ := ownsRow_cells h.row hj
    exact hne hcc e.symm
  · have := (hrow j e).1
    omega
theorem LSt.add {w : World} {X : Nat} {k : Int} {n : Nat} {xs : List Value} {A : World} {v : Value} (h : LSt w X k n xs A v) (hX : X < w.heap.size) (s : List UInt8) (hb : (n + 1) * 16 ≤ 140737488355328) :
    ∃ g cap w1, (Builtin.append_ #[45, 45] 45 #[v, .slice (some ⟨A.heap.size, 0, none⟩) 1 1]).run Tryz.prog (A.alloc (.cells #[.string ⟨s.toArray⟩] 9)).drew = .ok (.slice (some ⟨g, 0, none⟩) (n + 1) cap) w1 ∧
      w1.cell? ⟨w.heap.size + 1, 0, none⟩ = some (.pointer (some ⟨X, 0, none⟩)) ∧ w1.cell? ⟨X, 2, none⟩ = some v ∧ w1.frozen? ⟨X, 2, none⟩ = false ∧
      LSt w X k (n + 1) (xs ++ [.string ⟨s.toArray⟩]) (w1.setCell ⟨X, 2, none⟩ (.slice (some ⟨g, 0, none⟩) (n + 1) cap)) (.slice (some ⟨g, 0, none⟩) (n + 1) cap) ∧
      Chg (fun k => k = X ∨ v.ownBlock = some k) A (w1.setCell ⟨X, 2, none⟩ (.slice (some ⟨g, 0, none⟩) (n + 1) cap)) := by
  have hA := h.chg.size
  have hrd : Rd (A.alloc (.cells #[.string ⟨s.toArray⟩] 9)).drew (some ⟨A.heap.size, 0, none⟩) [.string ⟨s.toArray⟩] := (Rd.new A #[.string ⟨s.toArray⟩] 9 (0, 0) (by intro u hu; simp at hu; subst hu; rfl)).drew
  obtain ⟨v', w1, hr, h1, h2, -, h4⟩ := run_append itemI 45 (w := (A.alloc (.cells #[.string ⟨s.toArray⟩] 9)).drew) w.heap.size (h.row.alloc _).drew (ad := some ⟨A.heap.size, 0, none⟩) (m := 1) (c := 1) (news := [.string ⟨s.toArray⟩]) (by simp) rfl hrd hb (by simp [World.drew]; omega)
  obtain ⟨g, cap, rfl⟩ := ownsRow_succ h1
  have hc0 : Chg (fun j => v.ownBlock = some j) A (A.alloc (.cells #[.string ⟨s.toArray⟩] 9)).drew := ((Chg.refl _ A).alloc _).drew
  have hc1 : Chg (fun j => v.ownBlock = some j) A w1 := hc0.trans (Chg.of_grown (S := fun j => v.ownBlock = some j) h2 fun j e => e) fun _ _ e => e
  have hX1 := hc1.heap h.blk h.apart
  have hbx1 : Boxed w1 (w.heap.size + 1) 125 (.pointer (some ⟨X, 0, none⟩)) := hc1.heap h.bx fun e => by
    obtain ⟨c, hc, -⟩ := ownsRow_cells h.row e
    rw [show A.heap[_]? = _ from h.bx] at hc
    cases hc
  have hc2 : Chg (fun j => j = X) w1 (w1.setCell ⟨X, 2, none⟩ (.slice (some ⟨g, 0, none⟩) (n + 1) cap)) := Chg.setCell (S := fun j => j = X) (Chg.refl _ w1) (p := ⟨X, 2, none⟩) (fun _ => rfl) _
  have hown : ∀ j, v.ownBlock = some j → w.heap.size ≤ j := fun j e => (ownsRow_cells h.row e).choose_spec.2
  refine ⟨g, cap, w1, hr, hbx1.cell, cell_of_row _ _ 2 _ _ _ hX1, frozen_of_row w1 X 2 _ _ hX1, ⟨heapSetHere hX1 _, hc2.ownsRow h1 fun j hj e => ?_, hc2.heap hbx1 (by omega), ?_⟩, (hc1.mono fun j _ e => .inr e).trans hc2 fun _ _ e => .inl e⟩
  · subst e
    obtain ⟨c, hc, -⟩ := ownsRow_cells h1 hj
    rw [hX1] at hc
    cases hc
  · refine (h.chg.trans (hc1.mono (T := fun j => j = X ∨ w.heap.size ≤ j) fun j _ e => .inr (hown j e)) fun j hj e => ?_).trans hc2 fun j _ e => e
    rcases e with e | e
    · exact e
    · omega
set_option maxRecDepth 100000 in
set_option maxHeartbeats 8000000 in
theorem plain2 (w : World) (X : Nat) (k : Int) (d : Nat) (v : Value) (gs : List Nat) (cs : List (List Txt)) (h : DeqAt w d v gs cs) (hg : DGood cs) (hX : w.heap[X]? = some (.cells (Tryz.kindCells k) 49)) :
    Calls Tryz.prog 174 #[.agg #[.pointer (some ⟨d, 0, none⟩)], .pointer (some ⟨X, 0, none⟩)] w (PlPost ⟨k, [], cs.flatten, [], []⟩ X w) := by
  refine (callsIn_wide (n := 4)).1 ?_
  have hmx : Tryz.prog.follows .mixedOrders = true := by kernel_rfl
  have HE := fun W => Lib.hid (each_any W (some ⟨d, 0, none⟩))
  have HF := Lib.hid hg.toFits
  have HD := Lib.hid h
  have HX := Lib.hid hX
  have hXl := block_lt hX
  have htl := hg.total
  rw [← flatten_length] at htl
  clear hg h hX
  refine callsIn_of_wp_marks Tryz.func174 rfl trivial ?_ rfl
  simp only [Tryz.ntmps174, List.size_toArray, List.length_cons, List.length_nil, Nat.reduceAdd, Nat.reduceSub, Array.replicate_succ, Array.replicate_zero, List.push_toArray, List.append_toArray, List.nil_append, List.cons_append]
  gi_wp2_with fail
  refine ⟨trivial, (callsIn_wide.2 (HE _).out).mono ?_⟩
  rintro e w' ⟨rfl, rfl⟩
  gi_wp2_with fail
  obtain ⟨W0, hW0⟩ : ∃ W0, (((w.alloc (.cells #[.pointer (some ⟨d, 0, none⟩)] 144)).alloc (.cells #[.pointer (some ⟨X, 0, none⟩)] 125)).alloc (.cells #[.pointer (some ⟨d, 0, none⟩)] 102)) = W0 := ⟨_, rfl⟩
  have hB0 : Below w.heap.size w W0 := by
    rw [← hW0]
    exact (((Below.refl _ w).alloc (Nat.le_refl _) _).alloc (by simp) _).alloc (by simp; omega) _
  have hb1 : Boxed W0 (w.heap.size + 1) 125 (.pointer (some ⟨X, 0, none⟩)) := by
    have := Boxed.new (w.alloc (.cells #[.pointer (some ⟨d, 0, none⟩)] 144)) 125 (.pointer (some ⟨X, 0, none⟩))
    rw [World.size_alloc] at this
    rw [← hW0]; exact this.alloc _
  have hb3 : Boxed W0 (w.heap.size + 1 + 1) 102 (.pointer (some ⟨d, 0, none⟩)) := by
    have := Boxed.new ((w.alloc (.cells #[.pointer (some ⟨d, 0, none⟩)] 144)).alloc (.cells #[.pointer (some ⟨X, 0, none⟩)] 125)) 102 (.pointer (some ⟨d, 0, none⟩))
    rw [World.size_alloc, World.size_alloc] at this
    rw [← hW0]; exact this
  have hs0 : W0.heap.size = w.heap.size + 1 + 1 + 1 := by rw [← hW0]; simp
  have hd0 : DeqOr W0 (some ⟨d, 0, none⟩) cs := .inr ⟨d, v, gs, rfl, HD.out.chg (Chg.of_below (S := fun _ => False) hB0) fun _ _ e => e⟩
  have hL0 : LSt w X k 0 [] W0 (.slice none 0 0) := ⟨(hB0.block X hXl).trans HX.out, World.ownsRow_nil _ _ _ _, hb1, Chg.of_below hB0⟩
  rw [hW0]
  refine wpIn_rangeFunc_ownG rfl (by omega) (gf := 177) (lb := #[.pointer (some ⟨w.heap.size + 1 + 1, 0, none⟩)]) rfl trivial (enters_of Tryz.func177 (by kernel_rfl) rfl)
    (each_stops 3 (by omega) (w.heap.size + 1 + 1) (some ⟨d, 0, none⟩) cs W0 (KeepsT dqT) (fun d v gs A => DeqAt A d v gs cs) (fun W _ => holdsT cs W) hb3.cell hd0 HF.out) (fun h k => h.trans k) (fun W l o o' _ h1 h2 _ => KeepsT.putObj o' h1 h2) (Below.refl _ _) (fun _ => rfl)
    (fun pre W => ∃ v, LSt w X k pre.length (txts (pre.map Prod.snd)) W v)
    (fun _ _ _ => False)
    (lst_own hXl (by omega) (fun pre : List (Nat × Txt) => pre.length) (fun pre => txts (pre.map Prod.snd)))
    (fun _ _ _ _ _ h _ _ => h)
    ⟨_, hL0⟩
    (fun x => { tmps := #[.agg #[.pointer (some ⟨d, 0, none⟩)], .pointer (some ⟨X, 0, none⟩), .pointer (some ⟨w.heap.size, 0, none⟩), .pointer (some ⟨w.heap.size + 1, 0, none⟩), undef, .string ⟨x.2.toArray⟩, .pointer (some ⟨w.heap.size, 0, none⟩), .pointer (some ⟨d, 0, none⟩), .func (.func 177) #[] #[.pointer (some ⟨w.heap.size + 1 + 1, 0, none⟩)], .int .i64 x.1, .string ⟨x.2.toArray⟩, undef, undef, undef, undef, undef, undef, undef, undef, undef, undef], defers := [] }) ?assign ?body ?done ?stop
  case assign =>
    intro l x W K hK
    simp only [encs2]
    gi_wp2
    exact hK
  case body =>
    rintro l pre ⟨i, s⟩ A ⟨u, hL⟩ hlt
    obtain ⟨q, hq⟩ : ∃ q, pre.length = q := ⟨_, rfl⟩
    rw [hq] at hL hlt
    obtain ⟨g, cap, w1, hr1, hbw, hk1, hf1, hL1, hcg⟩ := hL.add hXl s (by omega)
    have hbx := hL.bx.cell
    have hX2 : A.cell? ⟨X, 2, none⟩ = some u := cell_of_row _ _ 2 _ _ _ hL.blk
    have hX2' : (A.alloc (.cells #[.string ⟨s.toArray⟩] 9)).cell? ⟨X, 2, none⟩ = some u := cell_of_row _ _ 2 _ _ _ ((heap_alloc_old (block_lt hL.blk)).trans hL.blk)
    have hbx' := (hL.bx.alloc (.cells #[.string ⟨s.toArray⟩] 9)).cell
    have HL := Lib.hid hL
    have HL1 := Lib.hid hL1
    have HCG := Lib.hid hcg
    have HQ := Lib.hid hq
    clear hL hL1 hcg hq hlt
    gi_wp2_with fail
    refine wpIn_mono (Q := fun x a' w' => x = Exit.normal ∧ ∃ a'', a' = a'' ∧ w' = w1.setCell ⟨X, 2, none⟩ (.slice (some ⟨g, 0, none⟩) (q + 1) cap)) ?first2 ?rest2
    case first2 =>
      clear HE HF HD HX hd0 hL0 hb1 hb3 hB0 hW0
      gi_region_with_o (fail)
      all_goals exact ⟨rfl, _, rfl, rfl⟩
    case rest2 =>
      rintro x a' w' ⟨rfl, a'', rfl, rfl⟩
      have hS : ∀ j, (j = X ∨ u.ownBlock = some j) → ∃ c t fr, A.heap[j]? = some (Obj.cells c t fr) ∧ ¬ dqT t := by
        rintro j (rfl | e)
        · exact ⟨_, _, _, HL.out.blk, by unfold dqT; decide⟩
        · obtain ⟨c, hc, -⟩ := ownsRow_cells HL.out.row e
          exact ⟨_, _, _, hc, by unfold dqT; decide⟩
      have hko : KeepsOthers A (w1.setCell ⟨X, 2, none⟩ (.slice (some ⟨g, 0, none⟩) (q + 1) cap)) := HCG.out.others fun j hj => by
        obtain ⟨c, t, fr, h1, -⟩ := hS j hj
        exact ⟨c, t, fr, h1⟩
      have hkt : KeepsT dqT A (w1.setCell ⟨X, 2, none⟩ (.slice (some ⟨g, 0, none⟩) (q + 1) cap)) := fun j c t fr ht hj =>
        (HCG.out.block j (Array.getElem?_eq_some_iff.1 hj).1 fun e => by
          obtain ⟨c2, t2, fr2, h1, h2⟩ := hS j e
          rw [hj] at h1
          cases h1
          exact h2 ht).trans hj
      refine ⟨hko.from _, hkt, .slice (some ⟨g, 0, none⟩) (q + 1) cap, ?_⟩
      rw [List.map_append, List.map_singleton, txts_one2, List.length_append, List.length_singleton, HQ.out]
      exact HL1.out
  case done =>
    rintro D ys W hD rfl ⟨u, hL⟩ hK
    rw [placed_length, placed_texts] at hL
    obtain ⟨a, c, rfl, hrd⟩ := ownsRow_rd hL.row (txts_one _)
    have hP : Hid (PlPost ⟨k, [], cs.flatten, [], []⟩ X w (.returned (.tuple #[])) (W.putObj D (.deferred none))) := Lib.hid (by
      have hc : Chg (fun j => j = D) W (W.putObj D (.deferred none)) := Chg.of_grown (grownBy_putObj' W D _) fun j e => by cases e; rfl
      have hXD : X ≠ D := by omega
      refine ⟨rfl, a, none, none, c, 0, 0, hc.heap hL.blk hXD, ⟨?_, Rd.nil _ _, Rd.nil _ _⟩, hL.chg.trans hc fun j hj e => by omega, by
        rintro x (h | h | h)
        · exact ownsRow_addr hL.row h
        · cases h
        · cases h⟩
      have hr2 := ownsRow_putObj hL.row (.deferred none) hK rfl
      obtain ⟨a2, c2, e2, hrd2⟩ := ownsRow_rd hr2 (txts_one _)
      cases e2
      exact hrd2)
    clear hL hrd
    gi_wp2_with fail
    refine ⟨by simp, .inl ⟨_, _, rfl, run_takeDeferred hK, ?_⟩⟩
    exact ⟨.tuple #[], by simp [results, Tryz.f174, go_sem], hP.out⟩
  case stop =>
    rintro D c pre W hD hSp h _
    exact absurd h id
end Go.Proofs.YteiklgbjjmlmaaaGreat
