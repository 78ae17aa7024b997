/- slices.Delete of one element, at a row of members with scores. -/
import Derived.Test.YtbjfigegiffefaaInsR
set_option linter.unusedVariables false
set_option linter.unusedSimpArgs false
namespace Go.Proofs.Ytbjfigegiffefaa
open Go.RowKit Pantry

theorem elZero (w : World) : (zeroValue 34).run Try.prog w = .ok zRk w := by kernel_rfl

def zL : List Value := [.string ⟨#[]⟩, .float .f64 0]
theorem run_clear_rk (w : World) (ty : TypeId) (g o c : Nat) (cur : List Value) (hg : w.heap[g]? = some (.cells cur.toArray 34)) (hfit : o + 2 ≤ cur.length) :
    (Builtin.clear_ #[29] ty #[.slice (some ⟨g, o, none⟩) 1 c]).run Try.prog w = .ok (.tuple #[]) (w.setRow g (splice cur o zL).toArray) := by
  have hz := elZero w
  have hst := run_storeCells_at Try.prog g o 34 zL 0 cur.toArray w hg (by simpa [zL] using hfit) (by simp [zL, Value.oneCell'])
  have hzc : (Builtin.zeroCells zRk.cells 1).toList = zL := by
    rw [show zRk.cells = #[.string ⟨#[]⟩, .float .f64 0] from rfl]
    apply List.ext_getElem?
    intro j
    match j with
    | 0 => simp [Builtin.zeroCells, zL]
    | 1 => simp [Builtin.zeroCells, zL]
    | j + 2 => simp [Builtin.zeroCells, zL]
  simp [Builtin.clear_, run_underlying Try.underlying29, hz, hzc, hst, splice]

set_option maxHeartbeats 4000000 in
set_option maxRecDepth 100000 in
theorem delete_any (w : World) (base i n : Nat) (v : Value) (xs : List Value) (hown : w.ownsRow base 34 2 v (n + 1) xs) (hi : i ≤ n) (h1 : ∀ x ∈ xs, x.oneCell' = true) :
    Calls Try.prog 54 #[v, .int .i64 i, .int .i64 ((i : Int) + 1)] w fun e w' => RowPost base 34 2 w v n (xs.take (i * 2) ++ xs.drop ((i + 1) * 2)) e w' := by
  rcases hown.2 with ⟨rfl, h0⟩ | ⟨g, cap, cur, rfl, hbg, hg, hnc, hcm, hcs, htake⟩
  · omega
  · have hxl : xs.length = (n + 1) * 2 := by have := hown.1; omega
    have hg' : w.heap[g]? = some (.cells cur.toList.toArray 34) := by simpa using hg
    have hcl : cur.toList.length = cap * 2 := by simpa using hcs
    obtain ⟨i0, hi0, hz0, hzs, hzb⟩ := info_parts Try.rowT.info
    by_cases hin : i = n
    · subst hin
      have hclr : ∀ ty c, (Builtin.clear_ #[29] ty #[.slice (some ⟨g, i * 2, none⟩) 1 c]).run Try.prog w.drew = .ok (.tuple #[]) (w.drew.setRow g (splice cur.toList (i * 2) zL).toArray) := fun ty c =>
        run_clear_rk w.drew ty g (i * 2) c _ hg' (by rw [hcl]; omega)
      have HT := Lib.hid (show (splice cur.toList (i * 2) zL).take (i * 2) = xs.take (i * 2) ++ xs.drop ((i + 1) * 2) by
        rw [List.drop_eq_nil_of_le (by omega), List.append_nil, ← htake]
        unfold splice
        rw [List.take_append_of_le_length (by rw [List.length_take]; omega), List.take_take, List.take_take]
        congr 1; omega)
      have HL := Lib.hid (show (splice cur.toList (i * 2) zL).length = cap * 2 by rw [length_splice _ _ _ (by rw [hcl]; simp [zL]; omega), hcl])
      have HG := Lib.hid hg'
      have HXL := Lib.hid hxl
      clear hg hg' hcl hcs htake hxl hown h1
      unfold maxLen at hcm
      have hz2 : ¬ ((i : Int) = (i : Int) + 1) := by omega
      have hw1 : IntKind.i64.wrap ((i : Int) + 1) = (i : Int) + 1 := by rw [IntKind.wrap_i64]; omega
      have hb1 : (0 : Int) ≤ (i : Int) + 1 := by omega
      have htn : ((i : Int) + 1).toNat = i + 1 := by omega
      have hb4 : ¬ (cap = i) := by omega
      have hb8 : i ≤ cap := by omega
      have hb9 : (i : Int) ≤ (i : Int) + 1 := by omega
      obtain rfl | hb2 : cap = i + 1 ∨ ¬ cap = i + 1 := Decidable.em _
      all_goals
        go_enter Try.func54, Try.ntmps54
        go_wp2_with fail
        go_region
        all_goals
          go_wp2_with (refine wpl_clear_run _ rfl _ 29 rfl _ rfl (hclr _ _) ?_)
          go_ret
          refine ⟨_, rfl, ⟨?_, .inr ⟨g, _, _, rfl, hbg, setRow_heap w.drew g _ _ _ _ HG.out, by omega, by unfold maxLen; omega, ?_, HT.out⟩⟩, grownBy_setRow (grownBy_drew (grownBy_same w _)), fun k hk => .inl hk⟩
          · have := HXL.out; simp; omega
          · rw [List.size_toArray, HL.out]
    have hilt : i < n := by omega
    have hdl : (xs.drop ((i + 1) * 2)).length = (n - i) * 2 := by rw [List.length_drop, hxl]; omega
    have hap : ∀ ty (ad : Addr) c, (i < n → ad = ⟨g, (i + 1) * 2, none⟩) → (Builtin.append_ #[29, 29] ty #[.slice (some ⟨g, 0, none⟩) i cap, .slice (some ad) (n - i) c]).run Try.prog w.drew = .ok (.slice (some ⟨g, 0, none⟩) n cap) (w.drew.setRow g (splice cur.toList (i * 2) (xs.drop ((i + 1) * 2))).toArray) := by
      intro ty ad c had
      have h := run_append_room (P := Try.prog) (w := w.drew) 29 ty 34 i0 Try.underlying29 hi0 g i cap cur hg ad (n - i) c (xs.drop ((i + 1) * 2)) (by rw [hdl, hzs])
        (fun j u hj => by
          have hj2 : j < (n - i) * 2 := by rw [← hdl]; exact (List.getElem?_eq_some_iff.1 hj).1
          rw [had (by omega), Addr.add_lit]
          show w.cell? _ = _
          rw [cell_of_row w g _ _ _ _ hg, ← Array.getElem?_toList]
          rw [← htake, List.getElem?_drop, List.getElem?_take] at hj
          split at hj
          · exact hj
          · cases hj)
        (fun u hu => h1 u (List.mem_of_mem_drop hu)) (by omega) (by rw [hzs, hdl]; have : cur.size = cap * 2 := by simpa using hcs
                                                                    omega)
      rw [show i + (n - i) = n by omega, hzs] at h
      rw [h]
      simp [splice]
    obtain ⟨W1, hW1⟩ : ∃ W1, w.drew.setRow g (splice cur.toList (i * 2) (xs.drop ((i + 1) * 2))).toArray = W1 := ⟨_, rfl⟩
    have hl1 : (splice cur.toList (i * 2) (xs.drop ((i + 1) * 2))).length = cap * 2 := by rw [length_splice _ _ _ (by omega), hcl]
    have hg1 : W1.heap[g]? = some (.cells (splice cur.toList (i * 2) (xs.drop ((i + 1) * 2))).toArray 34) := by rw [← hW1]; exact setRow_heap w.drew g _ _ _ _ hg
    have hgr : w.grownBy W1 (some g) := by rw [← hW1]; exact grownBy_setRow (grownBy_drew (grownBy_same w _))
    have hclr : ∀ ty c, (Builtin.clear_ #[29] ty #[.slice (some ⟨g, n * 2, none⟩) 1 c]).run Try.prog W1 = .ok (.tuple #[]) (W1.setRow g (splice (splice cur.toList (i * 2) (xs.drop ((i + 1) * 2))) (n * 2) zL).toArray) := fun ty c =>
      run_clear_rk W1 ty g (n * 2) c _ hg1 (by rw [hl1]; omega)
    have HT := Lib.hid (del_room (L := cur.toList) (xs := xs) (z := zL) (n := n) (i := i) (s := 2) (by simpa using htake) (by omega) hi)
    have HG1 := Lib.hid hg1
    have HL1 := Lib.hid hl1
    have HGR := Lib.hid hgr
    have HXL := Lib.hid hxl
    rw [hW1] at hap
    clear hW1 hl1 hg1 hgr hdl hg hg' hcl hcs htake hxl hown h1
    unfold maxLen at hcm
    have hz2 : ¬ ((i : Int) = (i : Int) + 1) := by omega
    have hw1 : IntKind.i64.wrap ((i : Int) + 1) = (i : Int) + 1 := by rw [IntKind.wrap_i64]; omega
    have hb1 : (0 : Int) ≤ (i : Int) + 1 := by omega
    have htn : ((i : Int) + 1).toNat = i + 1 := by omega
    have hb3 : (i : Int) ≤ (n : Int) + 1 := by omega
    have hb5 : (i : Int) + 1 ≤ (n : Int) + 1 := by omega
    have hb4 : ¬ (cap = i) := by omega
    have hb6 : ¬ (cap = n) := by omega
    have hb8 : i ≤ cap := by omega
    have hb9 : (i : Int) ≤ (i : Int) + 1 := by omega
    have hb2 : ¬ cap = i + 1 := by omega
    go_enter Try.func54, Try.ntmps54
    go_wp2_with fail
    go_region_law (refine step_append_run rfl _ _ 29 29 rfl (.slice (some ⟨g, 0, none⟩) i cap) (.slice (some ⟨g, (i + 1) * 2, none⟩) (n - i) (cap - (i + 1))) (by simp [Act.eval, Act.put]) (by simp [Act.eval, Act.put]) (hap _ ⟨g, (i + 1) * 2, none⟩ _ (fun _ => rfl)) ?_)
    go_wp2_with (refine wpl_clear_run _ rfl _ 29 rfl _ rfl (hclr _ _) ?_)
    go_ret
    refine ⟨_, rfl, ⟨?_, .inr ⟨g, cap, _, rfl, hbg, setRow_heap W1 g _ _ _ _ HG1.out, by omega, by unfold maxLen; omega, ?_, ?_⟩⟩, grownBy_setRow HGR.out, fun k hk => .inl hk⟩
    · have := HXL.out; simp; omega
    · rw [List.size_toArray, length_splice _ _ _ (by rw [HL1.out]; simp [zL]; omega), HL1.out]
    · have h := HT.out
      simpa using h
end Go.Proofs.Ytbjfigegiffefaa
