
/- A value told as plain data. -/
import Derived.Test.YteiklgbjjmlmaaaGreatZVKind
import Derived.Test.YteiklgbjjmlmaaaGreatZVList
set_option linter.unusedVariables false
set_option linter.unusedSimpArgs false
namespace Go.Proofs.YteiklgbjjmlmaaaGreat
open Go.RowKit Pantry

theorem plain_any {w : World} {v : Nat} {p : PD} (h : ValIs w v p) (X : Nat) (hX : w.heap[X]? = some (.cells (Tryz.kindCells p.kind) 49)) :
    ∃ T x f y, w.cell? ⟨v, 0, none⟩ = some (.iface T x) ∧ (∀ n W, (method (n + 1) T x "pantry/value.plain").run Tryz.prog W = .ok (f, y) W) ∧ Calls Tryz.prog f #[y, .pointer (some ⟨X, 0, none⟩)] w (PlPost p X w) ∧ ∀ args W, (callFunc f args).run Tryz.prog W = .ok (.enter f args) W := by
  cases h with
  | text s h => exact ⟨_, _, _, _, cell_of_row w v 0 _ _ _ h, fun n W => m_plain1 n _ W, plain1 w X 1 s hX, enters_of Tryz.func168 (by kernel_rfl) rfl⟩
  | list d x gs cs h hd hg => exact ⟨_, _, _, _, cell_of_row w v 0 _ _ _ h, fun n W => m_plain2 n _ W, plain2 w X 2 d x gs cs hd hg hX, enters_of Tryz.func174 (by kernel_rfl) rfl⟩
  | record r sd d D l h hr => exact ⟨_, _, _, _, cell_of_row w v 0 _ _ _ h, fun n W => m_plain3 n _ W, plain3 w X 3 r sd d D l hr hX, enters_of Tryz.func184 (by kernel_rfl) rfl⟩
  | flock r sd d D l h hr => exact ⟨_, _, _, _, cell_of_row w v 0 _ _ _ h, fun n W => m_plain4 n _ W, plain4 w X 4 r sd d D l hr hX, enters_of Tryz.func220 (by kernel_rfl) rfl⟩
  | ranks r S l h hr => exact ⟨_, _, _, _, cell_of_row w v 0 _ _ _ h, fun n W => m_plain5 n _ W, plain5 w X 5 r S l hr hX, enters_of Tryz.func246 (by kernel_rfl) rfl⟩
def ToldPost (p : PD) (w : World) (e : Ending) (w' : World) : Prop :=
  ∃ a1 a2 a3 c1 c2 c3, e = .returned (.agg (Tryz.plainCells p a1 a2 a3 c1 c2 c3)) ∧ PlainAt w' p a1 a2 a3 ∧ Below w.heap.size w w'
theorem fiveP {w : World} {g : Nat} {c0 c1 c2 c3 c4 : Value} {t : TypeId} (h : w.heap[g]? = some (.cells #[c0, c1, c2, c3, c4] t)) :
    (w.cell? ⟨g, 0, none⟩ = some c0 ∧ w.cell? ⟨g, 1, none⟩ = some c1 ∧ w.cell? ⟨g, 2, none⟩ = some c2 ∧ w.cell? ⟨g, 3, none⟩ = some c3 ∧ w.cell? ⟨g, 4, none⟩ = some c4) ∧ ∀ j, w.frozen? ⟨g, j, none⟩ = false := by
  refine ⟨⟨?_, ?_, ?_, ?_, ?_⟩, fun j => frozen_of_row w g j _ _ h⟩ <;> rw [cell_of_row w g _ _ _ _ h] <;> rfl
def fill5 (w : World) (g : Nat) (c0 c1 c2 c3 c4 : Value) : World := ((((w.setCell ⟨g, 0, none⟩ c0).setCell ⟨g, 1, none⟩ c1).setCell ⟨g, 2, none⟩ c2).setCell ⟨g, 3, none⟩ c3).setCell ⟨g, 4, none⟩ c4
theorem fill5_chg (w : World) (g : Nat) (c0 c1 c2 c3 c4 : Value) : Chg (fun k => k = g) w (fill5 w g c0 c1 c2 c3 c4) := by
  have h : ∀ (w : World) (j : Nat) (u : Value), Chg (fun k => k = g) w (w.setCell ⟨g, j, none⟩ u) := fun w j u => Chg.setCell (S := fun k => k = g) (Chg.refl _ w) (p := ⟨g, j, none⟩) (fun _ => rfl) _
  have t : ∀ {a b c : World}, Chg (fun k => k = g) a b → Chg (fun k => k = g) b c → Chg (fun k => k = g) a c := fun h k => h.trans k fun _ _ e => e
  exact t (t (t (t (h _ _ _) (h _ _ _)) (h _ _ _)) (h _ _ _)) (h _ _ _)
theorem fill5_row {w : World} {g : Nat} {d0 d1 d2 d3 d4 : Value} {t : TypeId} (h : w.heap[g]? = some (.cells #[d0, d1, d2, d3, d4] t)) (c0 c1 c2 c3 c4 : Value) : (fill5 w g c0 c1 c2 c3 c4).heap[g]? = some (.cells #[c0, c1, c2, c3, c4] t) :=
  heapSetHere (heapSetHere (heapSetHere (heapSetHere (heapSetHere h c0) c1) c2) c3) c4
set_option maxRecDepth 100000 in
set_option maxHeartbeats 8000000 in
theorem told_any {w : World} {v : Nat} {p : PD} (h : ValIs w v p) : Calls Tryz.prog 51 #[.pointer (some ⟨v, 0, none⟩)] w (ToldPost p w) := by
  have hvl := h.lt
  obtain ⟨W1, hW1⟩ : ∃ W, (w.alloc (.cells #[.int .i64 0, .string ⟨#[]⟩, .slice none 0 0, .slice none 0 0, .slice none 0 0] 49)).alloc (.cells #[.int .i64 0, .string ⟨#[]⟩, .slice none 0 0, .slice none 0 0, .slice none 0 0] 49) = W := ⟨_, rfl⟩
  have hb1 : Below w.heap.size w W1 := by rw [← hW1]; exact ((Below.refl _ _).alloc (Nat.le_refl _) _).alloc (by simp) _
  have hR1 : W1.heap[w.heap.size]? = some (.cells (Tryz.kindCells 0) 49) := by rw [← hW1, heap_alloc_old (by simp)]; exact heap_alloc_new w _
  have hX1 : W1.heap[w.heap.size + 1]? = some (.cells (Tryz.kindCells 0) 49) := by
    have := heap_alloc_new (w.alloc (.cells #[.int .i64 0, .string ⟨#[]⟩, .slice none 0 0, .slice none 0 0, .slice none 0 0] 49)) (.cells #[.int .i64 0, .string ⟨#[]⟩, .slice none 0 0, .slice none 0 0, .slice none 0 0] 49)
    rw [World.size_alloc] at this
    rw [← hW1]; exact this
  have hs1 : W1.heap.size = w.heap.size + 2 := by rw [← hW1]; simp
  have HK := Lib.hid (kind_any (h.below hb1))
  have HNEXT : Hid (∀ w2, Below W1.heap.size W1 w2 → ∃ T x f y, (w2.setCell ⟨w.heap.size + 1, 0, none⟩ (.int .i64 p.kind)).cell? ⟨v, 0, none⟩ = some (.iface T x) ∧ (∀ n W, (method (n + 1) T x "pantry/value.plain").run Tryz.prog W = .ok (f, y) W) ∧
      (∀ args W, (callFunc f args).run Tryz.prog W = .ok (.enter f args) W) ∧ w2.frozen? ⟨w.heap.size + 1, 0, none⟩ = false ∧ w2.cell? ⟨w.heap.size + 1, 0, none⟩ = some (.int .i64 0) ∧
      Calls Tryz.prog f #[y, .pointer (some ⟨w.heap.size + 1, 0, none⟩)] (w2.setCell ⟨w.heap.size + 1, 0, none⟩ (.int .i64 p.kind)) (fun e w4 => e = .returned (.tuple #[]) ∧ ∃ a1 a2 a3 c1 c2 c3,
        w4.heap[w.heap.size + 1]? = some (.cells (Tryz.plainCells p a1 a2 a3 c1 c2 c3) 49) ∧ PlainAt w4 p a1 a2 a3 ∧ Below w.heap.size w w4 ∧ w4.heap[w.heap.size]? = some (.cells (Tryz.kindCells 0) 49) ∧
        ToldPost p w (.returned (.agg (Tryz.plainCells p a1 a2 a3 c1 c2 c3))) (fill5 w4 w.heap.size (.int .i64 p.kind) (.string ⟨p.text.toArray⟩) (.slice a1 p.items.length c1) (.slice a2 p.pairs.length c2) (.slice a3 p.ranks.length c3)))) := Lib.hid (by
    intro w2 hb2
    have hX2 : w2.heap[w.heap.size + 1]? = some (.cells (Tryz.kindCells 0) 49) := (hb2.block _ (by omega)).trans hX1
    have hR2 : w2.heap[w.heap.size]? = some (.cells (Tryz.kindCells 0) 49) := (hb2.block _ (by omega)).trans hR1
    have hb02 : Below w.heap.size w w2 := hb1.trans (hb2.mono hb1.size)
    have hc3 : Chg (fun k => k = w.heap.size + 1) w2 (w2.setCell ⟨w.heap.size + 1, 0, none⟩ (.int .i64 p.kind)) := Chg.setCell (S := fun k => k = w.heap.size + 1) (Chg.refl _ w2) (p := ⟨w.heap.size + 1, 0, none⟩) (fun _ => rfl) _
    have hb3 : Below w.heap.size w (w2.setCell ⟨w.heap.size + 1, 0, none⟩ (.int .i64 p.kind)) := hb02.setCell (p := ⟨w.heap.size + 1, 0, none⟩) (by simp) _
    have hR3 := hc3.heap hR2 (by omega)
    have hX3 : (w2.setCell ⟨w.heap.size + 1, 0, none⟩ (.int .i64 p.kind)).heap[w.heap.size + 1]? = some (.cells (Tryz.kindCells p.kind) 49) := heapSetHere hX2 _
    obtain ⟨T, x, f, y, q1, q2, q3, q6⟩ := plain_any (h.below hb3) (w.heap.size + 1) hX3
    refine ⟨T, x, f, y, q1, q2, q6, frozen_of_row w2 _ 0 _ _ hX2, cell_of_row w2 _ 0 _ _ _ hX2, q3.mono ?_⟩
    rintro e w4 ⟨rfl, a1, a2, a3, c1, c2, c3, r1, r2, r3, r4⟩
    have hb4 : Below w.heap.size w w4 := hb3.trans (r3.below (Nat.le_trans (Nat.le_refl _) hb3.size) (fun k e => by omega))
    have hR4 := r3.heap hR3 (by omega)
    refine ⟨rfl, a1, a2, a3, c1, c2, c3, r1, r2, hb4, hR4, a1, a2, a3, c1, c2, c3, rfl, ?_, ?_⟩
    · have hcR := fill5_chg w4 w.heap.size (.int .i64 p.kind) (.string ⟨p.text.toArray⟩) (.slice a1 p.items.length c1) (.slice a2 p.pairs.length c2) (.slice a3 p.ranks.length c3)
      have hs2 := hb2.size
      have hsz : (w2.setCell ⟨w.heap.size + 1, 0, none⟩ (.int .i64 p.kind)).heap.size = w2.heap.size := by simp
      rw [hsz] at r4
      exact ⟨hcR.rd r2.items (fun x hx e => by have := r4 x (.inl hx); omega), hcR.rd r2.pairs (fun x hx e => by have := r4 x (.inr (.inl hx)); omega), hcR.rd r2.ranks (fun x hx e => by have := r4 x (.inr (.inr hx)); omega)⟩
    · exact hb4.trans ((fill5_chg w4 w.heap.size _ _ _ _ _).below hb4.size (fun k e => by omega)))
  have HS5 := Lib.hid (show (Tryz.prog.info? 49).map (·.size) = some 5 by kernel_rfl)
  clear h hb1 hR1 hX1 hs1
  go_enter Tryz.func51, Tryz.ntmps51
  go_wp2_with (first
    | (go_at_call 73
       refine HK.out.mono ?_
       rintro e w2 ⟨rfl, hb2⟩
       obtain ⟨T, x, f, y, q1, q2, q6, q3, q4, q5⟩ := HNEXT.out w2 hb2
       replace q5 := Lib.hid q5
       clear HK HNEXT hb2))
  refine q5.out.mono ?_
  rintro e w4 ⟨rfl, a1, a2, a3, c1, c2, c3, r1, r2, r3, r4, r5⟩
  obtain ⟨⟨d0, d1, d2, d3, d4⟩, -⟩ := fiveP r1
  obtain ⟨⟨k0, k1, k2, k3, k4⟩, kf⟩ := fiveP r4
  have z0 := kf 0; have z1 := kf 1; have z2 := kf 2; have z3 := kf 3; have z4 := kf 4
  have HR := Lib.hid r4
  have HP := Lib.hid r5
  clear r1 r2 r3 r4 r5 q5 q1 q2 q6 q3 q4 kf
  go_wp2_with fail
  have hrow := fill5_row HR.out (.int .i64 p.kind) (.string ⟨p.text.toArray⟩) (.slice a1 p.items.length c1) (.slice a2 p.pairs.length c2) (.slice a3 p.ranks.length c3)
  obtain ⟨⟨g0, g1, g2, g3, g4⟩, -⟩ := fiveP hrow
  have hq := HP.out
  unfold fill5 at hq g0 g1 g2 g3 g4
  unfold Tryz.plainCells at hq
  refine bodyPost_ret (v := .agg #[.int .i64 p.kind, .string ⟨p.text.toArray⟩, .slice a1 p.items.length c1, .slice a2 p.pairs.length c2, .slice a3 p.ranks.length c3]) ?_ rfl hq
  simp [results, Tryz.f51, go_sem, g0, g1, g2, g3, g4]
end Go.Proofs.YteiklgbjjmlmaaaGreat
