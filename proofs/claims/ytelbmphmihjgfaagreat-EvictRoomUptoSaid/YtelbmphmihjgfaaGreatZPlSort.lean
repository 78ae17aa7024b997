/- pool.sooner; a row of candidates, sorted. -/
import Derived.Test.YtelbmphmihjgfaaGreatZPlDel
import Derived.Deep.RegionHeld3
set_option linter.unusedVariables false
set_option linter.unusedSimpArgs false
namespace Go.Proofs.YtelbmphmihjgfaaGreat.DEnt
open Go.RowKit Pantry Go.Maps Go.Sort

theorem isNaNU_any (w : World) (a : Int) : Calls Tryz.prog 145 #[.int .u64 a] w fun e w' => e = .returned (.bool false) ∧ w' = w := by
  go_enter Tryz.func145, Tryz.ntmps145
  go_wp2_with fail
  go_ret
  exact ⟨by simp, rfl⟩
set_option maxHeartbeats 1000000 in
theorem cmpU_any (w : World) (a b : Int) : Calls Tryz.prog 123 #[.int .u64 a, .int .u64 b] w fun e w' => e = .returned (.int .i64 (cmpI a b)) ∧ w' = w := by
  have HN := fun W x => Lib.hid (isNaNU_any W x)
  rcases cmpI_cases a b with ⟨h, e⟩ | ⟨h, e⟩ | ⟨h, e⟩
  · rw [e]
    clear e
    go_enter Tryz.func123, Tryz.ntmps123
    go_wp2_with (go_at_call 145; refine (HN _ _).out.mono ?_; rintro e w' ⟨rfl, rfl⟩)
    go_ret
    exact ⟨rfl, rfl⟩
  · rw [e]
    clear e
    have h2 : ¬ a < b := by omega
    go_enter Tryz.func123, Tryz.ntmps123
    go_wp2_with (go_at_call 145; refine (HN _ _).out.mono ?_; rintro e w' ⟨rfl, rfl⟩)
    go_ret
    exact ⟨rfl, rfl⟩
  · rw [e]
    subst h
    clear e
    go_enter Tryz.func123, Tryz.ntmps123
    go_wp2_with (go_at_call 145; refine (HN _ _).out.mono ?_; rintro e w' ⟨rfl, rfl⟩)
    go_ret
    exact ⟨rfl, rfl⟩
set_option maxHeartbeats 4000000 in
theorem sooner_any (x y : Cand) (W : World) :
    Calls Tryz.prog 88 #[.agg (candC x).toArray, .agg (candC y).toArray] W fun e w' => e = .returned (.int .i64 (cmpC x y)) ∧ ∃ q os', w' = Sort.grow (W.drewN q) os' := by
  have hmx : Tryz.prog.follows .mixedOrders = true := by kernel_rfl
  have HI := fun W' => Lib.hid (cmpU_any W' x.rank y.rank)
  have HS := fun W' => Lib.hid (cmpS_any W' x.key y.key)
  have HO := fun W' g h0 h1 => Lib.hid (or_any W' g (cmpI x.rank y.rank) (Lib.compareBytes x.key y.key) h0 h1)
  obtain ⟨c, hc⟩ : ∃ c, cmpC x y = c := ⟨_, rfl⟩
  have hc2 : cmpOr (cmpI x.rank y.rank) (Lib.compareBytes x.key y.key) = c := hc
  rw [hc]
  simp only [hc2] at HO
  clear hc hc2
  generalize cmpI x.rank y.rank = r1 at HI HO
  generalize Lib.compareBytes x.key y.key = r2 at HS HO
  obtain ⟨xk, xa⟩ := x
  obtain ⟨yk, ya⟩ := y
  simp only [candC] at *
  have HK : Hid (∀ W', Below (W.heap.size + 2) ((W.alloc (.cells #[.string ⟨xk.toArray⟩, .int .u64 xa] 50)).alloc (.cells #[.string ⟨yk.toArray⟩, .int .u64 ya] 50)) W' →
      W'.cell? ⟨W.heap.size, 0, none⟩ = some (.string ⟨xk.toArray⟩) ∧ W'.cell? ⟨W.heap.size, 1, none⟩ = some (.int .u64 xa) ∧ W'.cell? ⟨W.heap.size + 1, 0, none⟩ = some (.string ⟨yk.toArray⟩) ∧ W'.cell? ⟨W.heap.size + 1, 1, none⟩ = some (.int .u64 ya)) := Lib.hid (by
    intro W' hb
    obtain ⟨e0, e1, s2⟩ := two_new W (.cells #[.string ⟨xk.toArray⟩, .int .u64 xa] 50) (.cells #[.string ⟨yk.toArray⟩, .int .u64 ya] 50)
    rw [← s2] at hb
    exact ⟨(box2 e0 hb).1, (box2 e0 hb).2, (box2 e1 hb).1, (box2 e1 hb).2⟩)
  go_enter Tryz.func88, Tryz.ntmps88
  go_wp2_with fail
  go_region_held3 (fun W' => W'.cell? ⟨W.heap.size, 0, none⟩ = some (.string ⟨xk.toArray⟩) ∧ W'.cell? ⟨W.heap.size, 1, none⟩ = some (.int .u64 xa) ∧ W'.cell? ⟨W.heap.size + 1, 0, none⟩ = some (.string ⟨yk.toArray⟩) ∧ W'.cell? ⟨W.heap.size + 1, 1, none⟩ = some (.int .u64 ya))
    (exact HK.out _ (by repeat (first | exact Below.refl _ _ | refine Below.drew ?_ | refine Below.alloc ?_ (by first | exact Nat.le_refl _ | (simp only [World.size_alloc, heap_drew]; omega)) _)))
    (first
      | (go_at_call 123; refine (HI _).out.mono ?_; rintro e w1 ⟨rfl, rfl⟩)
      | (go_at_call 40; refine (HS _).out.mono ?_; rintro e w1 ⟨rfl, rfl⟩)
      | (go_at_call 38; refine (HO _ _ (temp2 _ _ _ _ _ _).1 (temp2 _ _ _ _ _ _).2).out.mono ?_; rintro e w1 ⟨rfl, rfl⟩))
  all_goals (go_wp2_with fail)
  all_goals go_ret
  all_goals exact ⟨rfl, 1, _, by rw [Sort.alloc_eq_grow, Sort.alloc_eq_grow, Sort.alloc_eq_grow, Sort.grow_grow, Sort.grow_grow]; rfl⟩
theorem sortCands_any (w : World) (base n : Nat) (v : Value) (l : List Cand) (hl : l.length = n) (hn : n ≤ 268435456) (h : w.ownsRow base 50 2 v n (l.flatMap candC)) :
    Calls Tryz.prog 87 #[v, .func (.func 88) #[] #[]] w fun r w' => r = .returned (.tuple #[]) ∧ ∃ l' : List Cand, l'.Perm l ∧ l'.Pairwise (fun x y => ¬ cmpC y x < 0) ∧ w'.ownsRow base 50 2 v n (l'.flatMap candC) ∧ w.grownBy w' v.ownBlock := by
  have eg : ∀ args w, (callFunc 88 args).run Tryz.prog w = .ok (.enter 88 args) w := enters_of Tryz.func88 (by kernel_rfl) rfl
  refine (sortF_row Tryz.sortCand 2 (by omega) Tryz.isAgg50 Tryz.sizeOf50 candC candC_len candC_one cmpC swoC 88 #[] w base 50 n v l hl hn eg ?_ h).mono ?_
  · intro blk cap hv m os dk hdk x y
    exact sooner_any x y _
  · rintro r w' ⟨rfl, l', hp, hs, hr, hg⟩
    exact ⟨rfl, l', hp, hs.imp fun {a b} e => by simpa [ltOf] using e, hr, hg⟩
end Go.Proofs.YtelbmphmihjgfaaGreat.DEnt

/- A pool while Offer works on it. -/
set_option linter.unusedVariables false
set_option linter.unusedSimpArgs false
namespace Go.Proofs.YtelbmphmihjgfaaGreat.DEnt
open Go.RowKit Pantry Go.Maps Go.Sort

/-- A pool in the midst of a call that began at w0. -/
structure PlTmp (w0 : World) (G : Nat → Prop) (p most : Nat) (v : Value) (R : List Cand) (w : World) : Prop where
  head : w.heap[p]? = some (.cells #[.int .i64 most, v] 77)
  row : w.ownsRow 0 50 2 v R.length (R.flatMap candC)
  chg : Chg G w0 w
  foot : ∀ k, PlF p v k → G k ∨ w0.heap.size ≤ k
section
variable {w0 w w' : World} {G : Nat → Prop} {p most : Nat} {v : Value} {R : List Cand}
theorem PlTmp.of (h : PlTo p G most R w0 w) : ∃ v, PlTmp w0 G p most v R w := by
  obtain ⟨⟨G', h1, h2⟩, hc⟩ := h
  obtain ⟨v, h3, h4⟩ := h1.ex
  exact ⟨v, h3.head, h3.row, hc, fun k hk => h2 k ((h4 k).2 hk)⟩
theorem PlTmp.to (h : PlTmp w0 G p most v R w) (hok : PoolOk R) (hr : 1 ≤ most ∧ most ≤ 16) (hl : R.length ≤ most) : PlTo p G most R w0 w :=
  ⟨⟨_, ⟨v, ⟨h.head, h.row, hok, hr, hl⟩, fun _ => Iff.rfl⟩, h.foot⟩, h.chg⟩
theorem PlTmp.below (h : PlTmp w0 G p most v R w) (hb : Below w.heap.size w w') : PlTmp w0 G p most v R w' :=
  ⟨(hb.block p (block_lt h.head)).trans h.head, ownsRow_belowAll h.row hb, h.chg.trans (T := fun _ => False) (Chg.of_below hb) fun _ _ e => e.elim, h.foot⟩
theorem PlTmp.apart (h : PlTmp w0 G p most v R w) : ∀ k, v.ownBlock = some k → p ≠ k := fun k hk e => by
  subst e
  obtain ⟨c, hcc, -⟩ := ownsRow_cells h.row hk
  exact types_ne hcc h.head (by decide) rfl
/-- The row has been written. -/
theorem PlTmp.sorted (h : PlTmp w0 G p most v R w) {R' : List Cand} (hg : w.grownBy w' v.ownBlock) (hl : R'.length = R.length) (hr : w'.ownsRow 0 50 2 v R.length (R'.flatMap candC)) : PlTmp w0 G p most v R' w' := by
  have hc : Chg (fun k => v.ownBlock = some k) w w' := Chg.of_grown hg fun k hk => hk
  refine ⟨hc.heap h.head fun e => h.apart p e rfl, by rw [hl]; exact hr, h.chg.trans hc fun j hj e => ?_, h.foot⟩
  rcases h.foot j (.inr e) with h1 | h1
  · exact h1
  · omega
/-- Another row has been set. -/
theorem PlTmp.setRow (h : PlTmp w0 G p most v R w) {v' : Value} {R' : List Cand} (hg : w.grownBy w' v.ownBlock) (hr : w'.ownsRow 0 50 2 v' R'.length (R'.flatMap candC)) (hv : ∀ k, v'.ownBlock = some k → v.ownBlock = some k ∨ w.heap.size ≤ k) :
    w'.cell? ⟨p, 1, none⟩ = some v ∧ w'.frozen? ⟨p, 1, none⟩ = false ∧ PlTmp w0 G p most v' R' (w'.setCell ⟨p, 1, none⟩ v') := by
  have hc : Chg (fun k => v.ownBlock = some k) w w' := Chg.of_grown hg fun k hk => hk
  have hp : w'.heap[p]? = some (.cells #[.int .i64 most, v] 77) := hc.heap h.head fun e => h.apart p e rfl
  have hGp : ∀ j, j < w0.heap.size → PlF p v j → G j := fun j hj e => by
    rcases h.foot j e with h1 | h1
    · exact h1
    · omega
  refine ⟨(two_cells hp).2.1, (two_cells hp).2.2 1, by rw [heapSetHere hp]; rfl, ?_, ?_, ?_⟩
  · refine Chg.ownsRow (S := fun k => k = p) hr (Chg.setCell (S := fun k => k = p) (Chg.refl _ w') (p := ⟨p, 1, none⟩) (fun _ => rfl) _) fun k hk e => ?_
    subst e
    obtain ⟨c, hcc, -⟩ := ownsRow_cells hr hk
    exact types_ne hcc hp (by decide) rfl
  · exact (h.chg.trans hc fun j hj e => hGp j hj (.inr e)).setCell (p := ⟨p, 1, none⟩) (fun hl => hGp p hl (.inl rfl)) _
  · rintro k (rfl | hk)
    · exact h.foot _ (.inl rfl)
    · rcases hv k hk with h1 | h1
      · exact h.foot k (.inr h1)
      · exact .inr (Nat.le_trans h.chg.size h1)
theorem PlTmp.append (h : PlTmp w0 G p most v R w) (hl : R.length ≤ 1024) (c : Cand) (ty : TypeId) : ∃ g cap w4,
    (Builtin.append_ #[43, 43] ty #[v, .slice (some ⟨w.heap.size, 0, none⟩) 1 1]).run Tryz.prog (w.alloc (.cells #[.string ⟨c.key.toArray⟩, .int .u64 c.rank] 50)).drew = .ok (.slice (some ⟨g, 0, none⟩) (R.length + 1) cap) w4 ∧ w4.cell? ⟨p, 1, none⟩ = some v ∧ w4.frozen? ⟨p, 1, none⟩ = false ∧
    PlTmp w0 G p most (.slice (some ⟨g, 0, none⟩) (R.length + 1) cap) (R ++ [c]) (w4.setCell ⟨p, 1, none⟩ (.slice (some ⟨g, 0, none⟩) (R.length + 1) cap)) := by
  obtain ⟨A, hA⟩ : ∃ A, (w.alloc (.cells #[.string ⟨c.key.toArray⟩, .int .u64 c.rank] 50)).drew = A := ⟨_, rfl⟩
  have hbA : Below w.heap.size w A := by rw [← hA]; exact ((Below.refl _ _).alloc (Nat.le_refl _) _).drew
  have hsA : A.heap.size = w.heap.size + 1 := by rw [← hA]; simp [World.drew]
  have hrd : Rd A (some ⟨w.heap.size, 0, none⟩) (candC c) := by rw [← hA]; exact (Rd.new w #[.string ⟨c.key.toArray⟩, .int .u64 c.rank] 50 (0, 0) (by intro u hu; simp at hu; rcases hu with rfl | rfl <;> rfl)).drew
  have hA' := h.below hbA
  obtain ⟨v', w1, hrun, g1, g2, -, g4⟩ := run_append candI ty (w := A) 0 hA'.row (ad := some ⟨w.heap.size, 0, none⟩) (m := 1) (c := 1) (news := candC c) (by simp) rfl hrd (by omega) (Nat.zero_le _)
  obtain ⟨g, cap, rfl⟩ := ownsRow_succ g1
  rw [hA]
  have hf : (R ++ [c]).flatMap candC = R.flatMap candC ++ candC c := by simp
  have hR : w1.ownsRow 0 50 2 (.slice (some ⟨g, 0, none⟩) (R.length + 1) cap) (R ++ [c]).length ((R ++ [c]).flatMap candC) := by
    rw [hf, List.length_append, List.length_singleton]; exact g1
  obtain ⟨q1, q2, q3⟩ := hA'.setRow (R' := R ++ [c]) g2 hR g4
  exact ⟨g, cap, w1, hrun, q1, q2, q3⟩
theorem PlTmp.cut {g cap n : Nat} (h : PlTmp w0 G p most (.slice (some ⟨g, 0, none⟩) n cap) R w) (hn : R.length = n) {m : Nat} (hm : m ≤ n) : PlTmp w0 G p most (.slice (some ⟨g, 0, none⟩) m cap) (R.take m) (w.setCell ⟨p, 1, none⟩ (.slice (some ⟨g, 0, none⟩) m cap)) := by
  have hr := h.row
  rw [hn] at hr
  have hcut : w.ownsRow 0 50 2 (.slice (some ⟨g, 0, none⟩) m cap) (R.take m).length ((R.take m).flatMap candC) := by
    rcases hr.2 with ⟨hv, -⟩ | ⟨g', cap', cur, hv, hb, hg, hnc, hcm, hcs, htk⟩
    · cases hv
    · cases hv
      have hl : (R.take m).length = m := by rw [List.length_take]; omega
      rw [hl]
      refine ⟨by rw [candsC_len, hl], .inr ⟨g, cap, cur, rfl, Nat.zero_le _, hg, by omega, hcm, hcs, ?_⟩⟩
      rw [candsC_take, ← htk, List.take_take]
      congr 1; omega
  exact (h.setRow (R' := R.take m) ⟨rfl, rfl, rfl, Nat.le_refl _, fun _ _ _ => rfl⟩ hcut fun k hk => .inl hk).2.2
theorem PlTmp.at {g cap n : Nat} (h : PlTmp w0 G p most (.slice (some ⟨g, 0, none⟩) n cap) R w) {j : Nat} {c : Cand} (hj : R[j]? = some c) : w.cell? ⟨g, j * 2, none⟩ = some (.string ⟨c.key.toArray⟩) ∧ w.cell? ⟨g, j * 2 + 1, none⟩ = some (.int .u64 c.rank) := by
  obtain ⟨q0, q1⟩ := candsC_get hj
  have g0 := h.row.cells (g := g) rfl _ _ q0
  have g1 := h.row.cells (g := g) rfl _ _ q1
  rw [Addr.add_base] at g0 g1
  exact ⟨g0, g1⟩
end
end Go.Proofs.YtelbmphmihjgfaaGreat.DEnt
