/- slices.Delete of one element, at a pool's row. -/
import Derived.Test.YtelbmphmihjgfaaGreatZPlPure
set_option linter.unusedVariables false
set_option linter.unusedSimpArgs false
namespace Go.Proofs.YtelbmphmihjgfaaGreat.DEnt
open Go.RowKit Pantry Go.Maps Go.Sort

theorem grownBy_sameC (w : World) (row : Option Nat) : w.grownBy w row := ⟨rfl, rfl, rfl, Nat.le_refl _, fun _ _ _ => rfl⟩
theorem grownBy_drewC {w w0 : World} {row : Option Nat} (h : w0.grownBy w row) : w0.grownBy w.drew row := ⟨h.os, h.tape, h.output, h.size, h.block⟩
theorem grownBy_setRowC {w w0 : World} {g : Nat} {c : Array Value} (h : w0.grownBy w (some g)) : w0.grownBy (w.setRow g c) (some g) :=
  ⟨h.os, h.tape, h.output, by simpa [World.setRow] using h.size, fun k hk hne => (setRow_other w g k c (fun e => hne (by rw [e]))).trans (h.block k hk hne)⟩
def RowPostC (base e size : Nat) (w : World) (v : Value) (n : Nat) (ys : List Value) (x : Ending) (w' : World) : Prop :=
  ∃ v', x = .returned v' ∧ w'.ownsRow base e size v' n ys ∧ w.grownBy w' v.ownBlock ∧ ∀ k, v'.ownBlock = some k → v.ownBlock = some k ∨ w.heap.size ≤ k
set_option maxHeartbeats 4000000 in
set_option maxRecDepth 100000 in
theorem deleteC_any (w : World) (base i n : Nat) (v : Value) (xs : List Value) (hown : w.ownsRow base 50 2 v (n + 1) xs) (hi : i ≤ n) (h1 : ∀ x ∈ xs, x.oneCell' = true) :
    Calls Tryz.prog 71 #[v, .int .i64 i, .int .i64 ((i : Int) + 1)] w fun e w' => RowPostC base 50 2 w v n (xs.take (i * 2) ++ xs.drop ((i + 1) * 2)) e w' := by
  rcases hown.2 with ⟨rfl, h0⟩ | ⟨g, cap, cur, rfl, hbg, hg, hnc, hcm, hcs, htake⟩
  · omega
  · have hxl : xs.length = (n + 1) * 2 := by have := hown.1; omega
    have hg' : w.heap[g]? = some (.cells cur.toList.toArray 50) := by simpa using hg
    have hcl : cur.toList.length = cap * 2 := by simpa using hcs
    obtain ⟨i0, hi0, hz0, hzs, hzb⟩ := info_parts candI.info
    by_cases hin : i = n
    · subst hin
      have hclr : ∀ ty c, (Builtin.clear_ #[43] ty #[.slice (some ⟨g, i * 2, none⟩) 1 c]).run Tryz.prog w.drew = .ok (.tuple #[]) (w.drew.setRow g (splice cur.toList (i * 2) zC).toArray) := fun ty c =>
        run_clear_c w.drew ty g (i * 2) c _ hg' (by rw [hcl]; omega)
      have HT := Lib.hid (show (splice cur.toList (i * 2) zC).take (i * 2) = xs.take (i * 2) ++ xs.drop ((i + 1) * 2) by
        rw [List.drop_eq_nil_of_le (by omega), List.append_nil, ← htake]
        unfold splice
        rw [List.take_append_of_le_length (by rw [List.length_take]; omega), List.take_take, List.take_take]
        congr 1; omega)
      have HL := Lib.hid (show (splice cur.toList (i * 2) zC).length = cap * 2 by rw [length_splice _ _ _ (by rw [hcl]; simp [zC]; omega), hcl])
      have HG := Lib.hid hg'
      have HXL := Lib.hid hxl
      clear hg hg' hcl hcs htake hxl hown h1
      unfold maxLen at hcm
      have hz2 : ¬ ((i : Int) = (i : Int) + 1) := by omega
      have hw1 : IntKind.i64.wrap ((i : Int) + 1) = (i : Int) + 1 := by rw [IntKind.wrap_i64]; omega
      have hb1 : (0 : Int) ≤ (i : Int) + 1 := by omega
      have htn : ((i : Int) + 1).toNat = i + 1 := by omega
      have hb4 : ¬ (cap = i) := by omega
      have hb8 : i ≤ cap := by omega
      have hb9 : (i : Int) ≤ (i : Int) + 1 := by omega
      obtain rfl | hb2 : cap = i + 1 ∨ ¬ cap = i + 1 := Decidable.em _
      all_goals
        go_enter Tryz.func71, Tryz.ntmps71
        go_wp2_with fail
        go_region
        all_goals
          go_wp2_with (refine wpl_clear_run _ rfl _ 43 rfl _ rfl (hclr _ _) ?_)
          go_ret
          refine ⟨_, rfl, ⟨?_, .inr ⟨g, _, _, rfl, hbg, setRow_heap w.drew g _ _ _ _ HG.out, by omega, by unfold maxLen; omega, ?_, HT.out⟩⟩, grownBy_setRowC (grownBy_drewC (grownBy_sameC w _)), fun k hk => .inl hk⟩
          · have := HXL.out; simp; omega
          · rw [List.size_toArray, HL.out]
    have hilt : i < n := by omega
    have hdl : (xs.drop ((i + 1) * 2)).length = (n - i) * 2 := by rw [List.length_drop, hxl]; omega
    have hap : ∀ ty (ad : Addr) c, (i < n → ad = ⟨g, (i + 1) * 2, none⟩) → (Builtin.append_ #[43, 43] ty #[.slice (some ⟨g, 0, none⟩) i cap, .slice (some ad) (n - i) c]).run Tryz.prog w.drew = .ok (.slice (some ⟨g, 0, none⟩) n cap) (w.drew.setRow g (splice cur.toList (i * 2) (xs.drop ((i + 1) * 2))).toArray) := by
      intro ty ad c had
      have h := run_append_room (P := Tryz.prog) (w := w.drew) 43 ty 50 i0 Tryz.underlying43 hi0 g i cap cur hg ad (n - i) c (xs.drop ((i + 1) * 2)) (by rw [hdl, hzs])
        (fun j u hj => by
          have hj2 : j < (n - i) * 2 := by rw [← hdl]; exact (List.getElem?_eq_some_iff.1 hj).1
          rw [had (by omega), Addr.add_lit]
          show w.cell? _ = _
          rw [cell_of_row w g _ _ _ _ hg, ← Array.getElem?_toList]
          rw [← htake, List.getElem?_drop, List.getElem?_take] at hj
          split at hj
          · exact hj
          · cases hj)
        (fun u hu => h1 u (List.mem_of_mem_drop hu)) (by omega) (by rw [hzs, hdl]; have : cur.size = cap * 2 := by simpa using hcs
                                                                    omega)
      rw [show i + (n - i) = n by omega, hzs] at h
      rw [h]
      simp [splice]
    obtain ⟨W1, hW1⟩ : ∃ W1, w.drew.setRow g (splice cur.toList (i * 2) (xs.drop ((i + 1) * 2))).toArray = W1 := ⟨_, rfl⟩
    have hl1 : (splice cur.toList (i * 2) (xs.drop ((i + 1) * 2))).length = cap * 2 := by rw [length_splice _ _ _ (by omega), hcl]
    have hg1 : W1.heap[g]? = some (.cells (splice cur.toList (i * 2) (xs.drop ((i + 1) * 2))).toArray 50) := by rw [← hW1]; exact setRow_heap w.drew g _ _ _ _ hg
    have hgr : w.grownBy W1 (some g) := by rw [← hW1]; exact grownBy_setRowC (grownBy_drewC (grownBy_sameC w _))
    have hclr : ∀ ty c, (Builtin.clear_ #[43] ty #[.slice (some ⟨g, n * 2, none⟩) 1 c]).run Tryz.prog W1 = .ok (.tuple #[]) (W1.setRow g (splice (splice cur.toList (i * 2) (xs.drop ((i + 1) * 2))) (n * 2) zC).toArray) := fun ty c =>
      run_clear_c W1 ty g (n * 2) c _ hg1 (by rw [hl1]; omega)
    have HT := Lib.hid (del_room (L := cur.toList) (xs := xs) (z := zC) (n := n) (i := i) (s := 2) (by simpa using htake) (by omega) hi)
    have HG1 := Lib.hid hg1
    have HL1 := Lib.hid hl1
    have HGR := Lib.hid hgr
    have HXL := Lib.hid hxl
    rw [hW1] at hap
    clear hW1 hl1 hg1 hgr hdl hg hg' hcl hcs htake hxl hown h1
    unfold maxLen at hcm
    have hz2 : ¬ ((i : Int) = (i : Int) + 1) := by omega
    have hw1 : IntKind.i64.wrap ((i : Int) + 1) = (i : Int) + 1 := by rw [IntKind.wrap_i64]; omega
    have hb1 : (0 : Int) ≤ (i : Int) + 1 := by omega
    have htn : ((i : Int) + 1).toNat = i + 1 := by omega
    have hb3 : (i : Int) ≤ (n : Int) + 1 := by omega
    have hb5 : (i : Int) + 1 ≤ (n : Int) + 1 := by omega
    have hb4 : ¬ (cap = i) := by omega
    have hb6 : ¬ (cap = n) := by omega
    have hb8 : i ≤ cap := by omega
    have hb9 : (i : Int) ≤ (i : Int) + 1 := by omega
    have hb2 : ¬ cap = i + 1 := by omega
    go_enter Tryz.func71, Tryz.ntmps71
    go_wp2_with fail
    go_region_law (refine step_append_run rfl _ _ 43 43 rfl (.slice (some ⟨g, 0, none⟩) i cap) (.slice (some ⟨g, (i + 1) * 2, none⟩) (n - i) (cap - (i + 1))) (by simp [Act.eval, Act.put]) (by simp [Act.eval, Act.put]) (hap _ ⟨g, (i + 1) * 2, none⟩ _ (fun _ => rfl)) ?_)
    go_wp2_with (refine wpl_clear_run _ rfl _ 43 rfl _ rfl (hclr _ _) ?_)
    go_ret
    refine ⟨_, rfl, ⟨?_, .inr ⟨g, cap, _, rfl, hbg, setRow_heap W1 g _ _ _ _ HG1.out, by omega, by unfold maxLen; omega, ?_, ?_⟩⟩, grownBy_setRowC HGR.out, fun k hk => .inl hk⟩
    · have := HXL.out; simp; omega
    · rw [List.size_toArray, length_splice _ _ _ (by rw [HL1.out]; simp [zC]; omega), HL1.out]
    · have h := HT.out
      simpa using h
end Go.Proofs.YtelbmphmihjgfaaGreat.DEnt

/- A pool: New, Take, Candidates. -/
set_option linter.unusedVariables false
set_option linter.unusedSimpArgs false
namespace Pantry
def takeC : List Cand → List Cand
  | [] => []
  | _ :: l => l
end Pantry
namespace Go.Proofs.YtelbmphmihjgfaaGreat.DEnt
open Go.RowKit Pantry Go.Maps Go.Sort

def TakeRes : List Cand → Ending
  | [] => .returned (.tuple #[.agg #[.string ⟨#[]⟩, .int .u64 0], .bool false])
  | c :: _ => .returned (.tuple #[.agg #[.string ⟨c.key.toArray⟩, .int .u64 c.rank], .bool true])
theorem PlAt.keep {w w' : World} {p most : Nat} {v : Value} {P : List Cand} (h : PlAt w p most v P) {S : Nat → Prop} (hc : Chg S w w') (hS : ∀ k, PlF p v k → ¬ S k) : PlAt w' p most v P :=
  ⟨hc.heap h.head (hS p (.inl rfl)), Chg.ownsRow h.row hc fun k hk => hS k (.inr hk), h.ok, h.room, h.len⟩
theorem PlAt.reset {w w2 : World} {p most : Nat} {v v' : Value} {P Q : List Cand} (hv : PlAt w p most v P) {S : Nat → Prop} (hc : Chg S w w2) (hS : ∀ k, S k → v.ownBlock = some k)
    (hr : w2.ownsRow 0 50 2 v' Q.length (Q.flatMap candC)) (hQ : PoolOk Q) (hl : Q.length ≤ most) : w2.heap[p]? = some (.cells #[.int .i64 most, v] 77) ∧ PlAt (w2.setCell ⟨p, 1, none⟩ v') p most v' Q := by
  have hp2 : w2.heap[p]? = some (.cells #[.int .i64 most, v] 77) := hc.heap hv.head fun e => by
    obtain ⟨c, hcc, -⟩ := ownsRow_cells hv.row (hS p e)
    exact types_ne hcc hv.head (by decide) rfl
  refine ⟨hp2, by rw [heapSetHere hp2]; rfl, ?_, hQ, hv.room, hl⟩
  refine Chg.ownsRow (S := fun k => k = p) hr (Chg.setCell (S := fun k => k = p) (Chg.refl _ w2) (p := ⟨p, 1, none⟩) (fun _ => rfl) _) fun k hk e => ?_
  subst e
  obtain ⟨c, hcc, -⟩ := ownsRow_cells hr hk
  exact types_ne hcc hp2 (by decide) rfl
section
variable {w : World} {p most : Nat} {G : Nat → Prop} {P : List Cand}
set_option maxHeartbeats 2000000 in
theorem pTake (h : PlH w p G most P) : Calls Tryz.prog 31 #[.pointer (some ⟨p, 0, none⟩)] w fun r w' => r = TakeRes P ∧ PlTo p G most (takeC P) w w' := by
  obtain ⟨v, h1, h2⟩ := h.ex
  have hlen := h1.len
  have hroom := h1.room
  cases P with
  | nil =>
    have hnew := fun o => (Below.refl w.heap.size w).alloc (Nat.le_refl _) o
    have HFIN : Hid (∀ o, PlTo p G most [] w (w.alloc o)) := Lib.hid fun o => ⟨⟨G, h.below (hnew o), fun k hk => .inl hk⟩, Chg.of_below (hnew o)⟩
    obtain ⟨pv, cv, rfl, -⟩ := ownsRow_rd h1.row (candsC_one [])
    obtain ⟨-, c1, -⟩ := two_cells h1.head
    have c1' : (w.alloc (.cells #[.string ⟨#[]⟩, .int .u64 0] 50)).cell? ⟨p, 1, none⟩ = some (.slice pv 0 cv) := ((hnew _).cell (p := ⟨p, 1, none⟩) (block_lt h1.head)).trans c1
    clear h h1 h2 hnew c1
    go_enter Tryz.func31, Tryz.ntmps31
    go_wp2_with fail
    refine bodyPost_ret (v := .tuple #[.agg #[.string ⟨#[]⟩, .int .u64 0], .bool false]) ?_ rfl ?_
    · simp [results, Tryz.results31, go_sem]
    · exact ⟨rfl, HFIN.out _⟩
  | cons c Q =>
    have hnew := fun o => (Below.refl w.heap.size w).alloc (Nat.le_refl _) o
    obtain ⟨g, cap, hv, e0, e1⟩ : ∃ g cap, v = .slice (some ⟨g, 0, none⟩) (Q.length + 1) cap ∧ w.cell? ⟨g, 0, none⟩ = some (.string ⟨c.key.toArray⟩) ∧ w.cell? ⟨g, 1, none⟩ = some (.int .u64 c.rank) := by
      rcases h1.row.2 with ⟨_, h0⟩ | ⟨g, cap, cur, hv, _, hg, _, _, _, htk⟩
      · simp at h0
      · have q0 := h1.row.cells (g := g) (by rw [hv]; rfl) 0 (.string ⟨c.key.toArray⟩) rfl
        have q1 := h1.row.cells (g := g) (by rw [hv]; rfl) 1 (.int .u64 c.rank) rfl
        rw [Addr.add_base] at q0 q1
        exact ⟨g, cap, hv, q0, q1⟩
    have hgl : g < w.heap.size := World.block_lt_of_cell? w _ e0
    obtain ⟨w2, hw2⟩ : ∃ w2, (w.alloc (.cells #[.string ⟨#[]⟩, .int .u64 0] 50)).alloc (.cells #[.string ⟨c.key.toArray⟩, .int .u64 c.rank] 50) = w2 := ⟨_, rfl⟩
    obtain ⟨a0, a1, a2⟩ := two_new w (.cells #[.string ⟨#[]⟩, .int .u64 0] 50) (.cells #[.string ⟨c.key.toArray⟩, .int .u64 c.rank] 50)
    rw [hw2] at a0 a1 a2
    have hb2 : Below w.heap.size w w2 := by rw [← hw2]; exact (hnew _).alloc (by simp) _
    have hat2 : PlAt w2 p most v (c :: Q) := h1.keep (S := fun _ => False) (Chg.of_below hb2) fun _ _ e => e
    have hD : Calls Tryz.prog 71 #[v, .int .i64 0, .int .i64 1] w2 fun e w' => RowPostC 0 50 2 w2 v Q.length (Q.flatMap candC) e w' := by
      have := deleteC_any w2 0 0 Q.length v _ hat2.row (Nat.zero_le _) (candsC_one _)
      simpa [candC] using this
    have hbl : ∀ k, v.ownBlock = some k → k < w.heap.size := fun k hk => by rw [hv] at hk; cases hk; exact hgl
    have HFIN : Hid (∀ w3 v', w3.ownsRow 0 50 2 v' Q.length (Q.flatMap candC) → w2.grownBy w3 v.ownBlock → (∀ k, v'.ownBlock = some k → v.ownBlock = some k ∨ w2.heap.size ≤ k) →
        w3.heap[p]? = some (.cells #[.int .i64 most, v] 77) ∧ w3.heap[w.heap.size]? = some (.cells #[.string ⟨#[]⟩, .int .u64 0] 50) ∧ w3.heap[w.heap.size + 1]? = some (.cells #[.string ⟨c.key.toArray⟩, .int .u64 c.rank] 50) ∧
        ∀ x y, PlTo p G most Q w (((w3.setCell ⟨p, 1, none⟩ v').setCell ⟨w.heap.size, 0, none⟩ x).setCell ⟨w.heap.size, 1, none⟩ y)) := Lib.hid (by
      intro w3 v' hr hg hb
      have hc : Chg (fun k => v.ownBlock = some k) w2 w3 := Chg.of_grown hg fun k hk => hk
      obtain ⟨q1, q2⟩ := hat2.reset (v' := v') hc (fun k hk => hk) hr (h1.ok.sublist (List.sublist_cons_self c Q)) (by simp at hlen; omega)
      refine ⟨q1, hc.heap a0 fun e => absurd (hbl _ e) (by omega), hc.heap a1 fun e => absurd (hbl _ e) (by omega), fun x y => ?_⟩
      have hpl : p < w.heap.size := block_lt h1.head
      have hc2 : Chg (fun k => k = w.heap.size) (w3.setCell ⟨p, 1, none⟩ v') (((w3.setCell ⟨p, 1, none⟩ v').setCell ⟨w.heap.size, 0, none⟩ x).setCell ⟨w.heap.size, 1, none⟩ y) :=
        ((Chg.refl (fun k => k = w.heap.size) _).setCell (p := ⟨w.heap.size, 0, none⟩) (fun _ => rfl) _).setCell (p := ⟨w.heap.size, 1, none⟩) (fun _ => rfl) _
      refine ⟨⟨PlF p v', ⟨v', q2.keep hc2 ?_, fun k => Iff.rfl⟩, ?_⟩, ?_⟩
      · rintro k (rfl | hk) e
        · omega
        · rcases hb k hk with h3 | h3
          · have := hbl k h3; omega
          · omega
      · rintro k (rfl | hk)
        · exact .inl ((h2 _).2 (.inl rfl))
        · rcases hb k hk with h3 | h3
          · exact .inl ((h2 k).2 (.inr h3))
          · exact .inr (by omega)
      · have hc3 : Chg G w w3 := (Chg.of_below (S := G) hb2).trans hc fun j _ e => (h2 j).2 (.inr e)
        have hc4 := hc3.setCell (p := ⟨p, 1, none⟩) (fun _ => (h2 p).2 (.inl rfl)) v'
        exact (hc4.setCell (p := ⟨w.heap.size, 0, none⟩) (fun hl => absurd hl (Nat.lt_irrefl _)) x).setCell (p := ⟨w.heap.size, 1, none⟩) (fun hl => absurd hl (Nat.lt_irrefl _)) y)
    obtain ⟨-, c1, -⟩ := two_cells hat2.head
    have c1w := (two_cells h1.head).2.1
    have c1a : (w.alloc (.cells #[.string ⟨#[]⟩, .int .u64 0] 50)).cell? ⟨p, 1, none⟩ = some v := ((hnew _).cell (p := ⟨p, 1, none⟩) (block_lt h1.head)).trans c1w
    have e0a : (w.alloc (.cells #[.string ⟨#[]⟩, .int .u64 0] 50)).cell? ⟨g, 0, none⟩ = some (.string ⟨c.key.toArray⟩) := ((hnew _).cell (p := ⟨g, 0, none⟩) hgl).trans e0
    have e1a : (w.alloc (.cells #[.string ⟨#[]⟩, .int .u64 0] 50)).cell? ⟨g, 1, none⟩ = some (.int .u64 c.rank) := ((hnew _).cell (p := ⟨g, 1, none⟩) hgl).trans e1
    have HD := Lib.hid hD
    obtain ⟨n, hn⟩ : ∃ n, Q.length = n := ⟨_, rfl⟩
    simp only [takeC, TakeRes]
    simp only [List.length_cons] at hlen
    rw [hn] at hv HD HFIN hlen
    subst hv
    have hn0 : ¬ n + 1 = 0 := by omega
    have hpl : p < w.heap.size := block_lt h1.head
    have hpn : ¬ p = w.heap.size := by omega
    have hpn2 : ¬ w.heap.size = p := by omega
    have hpn3 : ¬ w.heap.size + 1 = p := by omega
    have hz1 : IntKind.i64.wrap ((n : Int) + 1) = (n : Int) + 1 := by rw [IntKind.wrap_i64]; omega
    clear h h1 h2 hnew e0 e1 hgl a0 a1 a2 hb2 hat2 hD hbl c1w hn
    subst hw2
    go_enter Tryz.func31, Tryz.ntmps31
    go_wp2_with (go_at_call 71; refine HD.out.mono ?_; rintro e w3 ⟨v', rfl, hr, hg, hb⟩
                 obtain ⟨f1, f2, f3, f4⟩ := HFIN.out w3 v' hr hg hb
                 obtain ⟨pv', cv', rfl, -⟩ := ownsRow_rd hr (candsC_one Q)
                 obtain ⟨-, d1, d2⟩ := two_cells f1
                 have d21 := d2 1
                 obtain ⟨x0, x1, x2⟩ := two_cells f2
                 have x20 := x2 0
                 have x21 := x2 1
                 obtain ⟨y0, y1, -⟩ := two_cells f3
                 have F4 := Lib.hid f4
                 clear hr hg hb f1 f2 f3 f4 d2 x2)
    refine bodyPost_ret (v := .tuple #[.agg #[.string ⟨c.key.toArray⟩, .int .u64 c.rank], .bool true]) ?_ rfl ?_
    · simp [results, Tryz.results31, go_sem, x0, x1, x20, x21, hpn, hpn2]
    · exact ⟨rfl, F4.out _ _⟩
end
end Go.Proofs.YtelbmphmihjgfaaGreat.DEnt

/- A pool: New, Candidates. -/
set_option linter.unusedVariables false
set_option linter.unusedSimpArgs false
namespace Go.Proofs.YtelbmphmihjgfaaGreat.DEnt
open Go.RowKit Pantry Go.Maps Go.Sort

def PCandsPost (P : List Cand) (w : World) (e : Ending) (w' : World) : Prop := ∃ v, e = .returned v ∧ w'.ownsRow w.heap.size 50 2 v P.length (P.flatMap candC) ∧ Below w.heap.size w w'
set_option maxHeartbeats 2000000 in
theorem pClone_any (w : World) (v : Value) (P : List Cand) (h : w.ownsRow 0 50 2 v P.length (P.flatMap candC)) (hf : P.length ≤ 1024) : Calls Tryz.prog 42 #[v] w (PCandsPost P w) := by
  rcases h.2 with ⟨rfl, hn0⟩ | ⟨g, cap, cur, rfl, hb, hg, hnc, hcm, hcs, htake⟩
  · obtain rfl : P = [] := List.eq_nil_of_length_eq_zero hn0
    clear h hf hn0
    have hO : w.ownsRow w.heap.size 50 2 (.slice none 0 0) ([] : List Cand).length (([] : List Cand).flatMap candC) := World.ownsRow_nil _ _ _ _
    have hnl := fun (w : World) (a : Option Addr) (n c : Nat) => Lib.run_eql_slice_nil (P := Tryz.prog) w 43 50 a n c 0 0 Tryz.underlying43
    go_enter Tryz.func42, Tryz.ntmps42
    go_wp2_with fail
    go_ret
    exact ⟨_, rfl, hO, Below.refl _ _⟩
  · obtain ⟨a, c, hv, hrd⟩ := ownsRow_rd h (candsC_one P)
    cases hv
    obtain ⟨w1, hw1⟩ : ∃ w1, w.alloc (.cells #[] 50) = w1 := ⟨_, rfl⟩
    have hB1 : Below w.heap.size w w1 := by rw [← hw1]; exact (Below.refl _ w).alloc (Nat.le_refl _) _
    have HO : Hid (w1.ownsRow w.heap.size 50 2 (.slice (some ⟨w.heap.size, 0, none⟩) 0 0) 0 []) := Lib.hid ⟨rfl, .inr ⟨w.heap.size, 0, #[], rfl, Nat.le_refl _, by rw [← hw1]; exact heap_alloc_new w _, Nat.le_refl _, by unfold maxLen; omega, rfl, rfl⟩⟩
    have HR := Lib.hid (hrd.below hB1)
    have HL := Lib.hid h.1
    have HB1 := Lib.hid hB1
    unfold PCandsPost
    obtain ⟨n, hn⟩ : ∃ n, P.length = n := ⟨_, rfl⟩
    rw [hn] at HL hf ⊢
    clear h hb hg hcm hcs htake hrd hB1 hn
    have hnl := fun (w : World) (a : Option Addr) (n c : Nat) => Lib.run_eql_slice_nil (P := Tryz.prog) w 43 50 a n c 0 0 Tryz.underlying43
    go_enter Tryz.func42, Tryz.ntmps42
    go_wp2_with (at_builtin; refine wpl_append candI rfl _ _ rfl w.heap.size rfl HO.out (ad := some ⟨g, 0, none⟩) (m := n) (c := cap) (news := P.flatMap candC) rfl (fun h => by cases h) HL.out HR.out (by omega) HB1.out.size ?_
                 intro v' w' hr hgr hk
                 have HR := Lib.hid hr
                 have HG := Lib.hid hgr
                 clear hr hgr hk)
    go_ret
    exact ⟨v', rfl, by have := HR.out; rwa [Nat.zero_add, List.nil_append] at this, HB1.out.grown HG.out HB1.out.size (fun k hk => by cases hk; exact Nat.le_refl _)⟩
theorem pCands {w : World} {p most : Nat} {G : Nat → Prop} {P : List Cand} (h : PlH w p G most P) : Calls Tryz.prog 14 #[.pointer (some ⟨p, 0, none⟩)] w (PCandsPost P w) := by
  obtain ⟨v, h1, -⟩ := h.ex
  have hlen := h1.len
  have hroom := h1.room
  obtain ⟨-, c1, -⟩ := two_cells h1.head
  have HC := Lib.hid (pClone_any w v P h1.row (by omega))
  clear h h1
  go_enter Tryz.func14, Tryz.ntmps14
  go_wp2_with (go_at_call 42; refine HC.out.mono ?_; rintro e w1 ⟨v', rfl, hr, hb⟩
               have HR := Lib.hid hr
               have HB := Lib.hid hb
               clear hr hb)
  go_ret
  exact ⟨v', rfl, HR.out, HB.out⟩
def PNewPost (most : Int) (w : World) (e : Ending) (w' : World) : Prop :=
  ((most < 1 ∨ 16 < most) ∧ e = .returned (.tuple #[.pointer none, .int .i64 3]) ∧ w = w') ∨ ((1 ≤ most ∧ most ≤ 16) ∧ ∃ p G, e = .returned (.tuple #[.pointer (some ⟨p, 0, none⟩), .int .i64 0]) ∧ PlH w' p G most.toNat [] ∧ (∀ k, G k → w.heap.size ≤ k) ∧ Below w.heap.size w w')
theorem newPl (w : World) (n : Nat) (h : 1 ≤ n ∧ n ≤ 16) : PlH (w.alloc (.cells #[.int .i64 n, .slice none 0 0] 77)) w.heap.size (PlF w.heap.size (.slice none 0 0)) n [] :=
  ⟨_, ⟨heap_alloc_new w _, World.ownsRow_nil _ _ _ _, PoolOk.nil, h, Nat.zero_le _⟩, fun _ => Iff.rfl⟩
theorem pNew_any (w : World) (most : Int) : Calls Tryz.prog 7 #[.int .i64 most] w (PNewPost most w) := by
  by_cases h1 : most < 1
  · have HE : Hid (PNewPost most w (.returned (.tuple #[.pointer none, .int .i64 3])) w) := Lib.hid (.inl ⟨.inl h1, rfl, rfl⟩)
    go_enter Tryz.func7, Tryz.ntmps7
    go_wp2_with fail
    go_ret2
    exact HE.out
  · by_cases h2 : 16 < most
    · have HE : Hid (PNewPost most w (.returned (.tuple #[.pointer none, .int .i64 3])) w) := Lib.hid (.inl ⟨.inr h2, rfl, rfl⟩)
      have h1' : decide (most < 1) = false := decide_eq_false h1
      go_enter Tryz.func7, Tryz.ntmps7
      go_wp2_with fail
      go_ret2
      exact HE.out
    · obtain ⟨n, rfl⟩ := Int.eq_ofNat_of_zero_le (show 0 ≤ most by omega)
      have HE : Hid (PNewPost n w (.returned (.tuple #[.pointer (some ⟨w.heap.size, 0, none⟩), .int .i64 0])) (w.alloc (.cells #[.int .i64 n, .slice none 0 0] 77))) := Lib.hid (.inr ⟨by omega, _, _, rfl, newPl w n (by omega), (fun k hk => by
        rcases hk with rfl | hk
        · exact Nat.le_refl _
        · cases hk), (Below.refl _ _).alloc (Nat.le_refl _) _⟩)
      have h1' : decide ((n : Int) < 1) = false := decide_eq_false h1
      have h2' : decide (16 < (n : Int)) = false := decide_eq_false h2
      go_enter Tryz.func7, Tryz.ntmps7
      go_wp2_with fail
      go_ret2
      exact HE.out
end Go.Proofs.YtelbmphmihjgfaaGreat.DEnt
