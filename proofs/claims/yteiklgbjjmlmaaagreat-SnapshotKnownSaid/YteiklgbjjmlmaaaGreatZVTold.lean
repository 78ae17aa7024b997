
/- What a value is told as makes the same value again: the plain law. -/
import Derived.Test.YteiklgbjjmlmaaaGreatZVMake
import Derived.Test.YteiklgbjjmlmaaaGreatZVKind
import Derived.Test.YteiklgbjjmlmaaaGreatZVList
set_option linter.unusedVariables false
set_option linter.unusedSimpArgs false
namespace Pantry
open Go Go.RowKit
theorem wrongP_cases (p : PD) : wrongP p = 0 ∨ wrongP p = 2 ∨ wrongP p = 3 ∨ wrongP p = 4 := by
  unfold wrongP
  split
  · simp
  · split
    · simp
    · split
      · simp
      · split <;> simp
theorem Canon.fine {p q : PD} (h : Fine p) (hc : Canon p q) : Fine q := by
  have hfew := h.few
  cases hc with
  | text hk => exact ⟨by simp, h.text, by simp, by simp, by simp, by simp, by simp [namesP, namesT], by simp, by simp, by simp, by simp, by simp⟩
  | list hk => exact ⟨by simp, by simp, h.items, by simp, by simp, by simp; omega, by simp [namesP, namesT], by simp, by simp, by simp, by simp, by simp⟩
  | record hk =>
    have hn : (p.pairs.map (·.1)).Nodup := by
      have := h.names
      unfold namesP at this
      rw [List.append_assoc] at this
      exact (List.nodup_append.1 (List.nodup_append.1 this).2.1).1
    refine ⟨by simp, by simp, by simp, fun x hx => h.flds x ((sortK_perm p.pairs).mem_iff.1 hx), by simp, ?_, ?_, by simp, by simp, by simp, by simp, by simp⟩
    · have := (sortK_perm p.pairs).length_eq
      simp; omega
    · simp only [namesP, namesT, List.take_nil, List.map_nil, List.append_nil]
      rw [if_neg (by decide), List.nil_append]
      exact ((sortK_perm p.pairs).map (·.1)).nodup_iff.2 hn
  | flock hk =>
    have hn : p.items.Nodup := by
      have := h.names
      unfold namesP namesT at this
      rw [if_pos hk, List.take_length, List.append_assoc] at this
      exact (List.nodup_append.1 this).1
    refine ⟨by simp, by simp, fun s hs => h.items s ((sortT_perm p.items).mem_iff.1 hs), by simp, by simp, ?_, ?_, by simp, by simp, by simp, by simp, by simp⟩
    · have := (sortT_perm p.items).length_eq
      simp; omega
    · simp only [namesP, namesT, List.map_nil, List.append_nil, List.take_length]
      simp only [if_true]
      exact (sortT_perm p.items).nodup_iff.2 hn
  | ranks l hk hl hr =>
    have hn : (p.ranks.map (·.1)).Nodup := by
      have := h.names
      unfold namesP at this
      exact (List.nodup_append.1 this).2.1
    refine ⟨by simp, by simp, by simp, by simp, fun x hx => h.mems x (hl.mem_iff.1 hx), ?_, ?_, fun x hx => h.num x (hl.mem_iff.1 hx), by simp, by simp, by simp, by simp⟩
    · have := hl.length_eq
      simp; omega
    · simp only [namesP, namesT, List.take_nil, List.map_nil, List.nil_append]
      rw [if_neg (by decide), List.nil_append]
      exact (hl.map (·.1)).nodup_iff.2 hn
theorem ranks_unique {l l' : List Mb} (h : l.Perm l') (h1 : Rises l) (h2 : Rises l') : l = l' :=
  rising_unique (R := fun a b : Mb => cmpR a b < 0) (fun a => cmpR_irrefl a) (fun h1 h2 => cmpR_trans h1 h2) h h1 h2
theorem Fine.pairKeys {p : PD} (h : Fine p) : (p.pairs.map (·.1)).Nodup := by
  have := h.names
  unfold namesP at this
  rw [List.append_assoc] at this
  exact (List.nodup_append.1 (List.nodup_append.1 this).2.1).1
theorem Fine.itemKeys {p : PD} (h : Fine p) (hk : p.kind = 4) : p.items.Nodup := by
  have := h.names
  unfold namesP namesT at this
  rw [if_pos hk, List.take_length, List.append_assoc] at this
  exact (List.nodup_append.1 this).1
end Pantry
namespace Go.Proofs.YteiklgbjjmlmaaaGreat
open Pantry
theorem Fine.big {p : PD} (h : Fine p) : PlainBig p :=
  ⟨by have := h.text; omega, by have := h.few; omega, by have := h.few; omega, by have := h.few; omega, fun s hs => by have := h.items s hs; omega, fun x hx => by have := h.flds x hx; omega, fun x hx => by have := h.flds x hx; omega, fun x hx => by have := h.mems x hx; omega⟩
end Go.Proofs.YteiklgbjjmlmaaaGreat


/- A value told as plain data. -/
set_option linter.unusedVariables false
set_option linter.unusedSimpArgs false
namespace Go.Proofs.YteiklgbjjmlmaaaGreat
open Go.RowKit Pantry

theorem plain_any {w : World} {v : Nat} {p : PD} (h : ValIs w v p) (X : Nat) (hX : w.heap[X]? = some (.cells (Tryz.kindCells p.kind) 49)) :
    ∃ T x f y, w.cell? ⟨v, 0, none⟩ = some (.iface T x) ∧ (∀ n W, (method (n + 1) T x "pantry/value.plain").run Tryz.prog W = .ok (f, y) W) ∧ Calls Tryz.prog f #[y, .pointer (some ⟨X, 0, none⟩)] w (PlPost p X w) ∧ ∀ args W, (callFunc f args).run Tryz.prog W = .ok (.enter f args) W := by
  cases h with
  | text s h => exact ⟨_, _, _, _, cell_of_row w v 0 _ _ _ h, fun n W => m_plain1 n _ W, plain1 w X 1 s hX, enters_of Tryz.func168 (by kernel_rfl) rfl⟩
  | list d x gs cs h hd hg => exact ⟨_, _, _, _, cell_of_row w v 0 _ _ _ h, fun n W => m_plain2 n _ W, plain2 w X 2 d x gs cs hd hg hX, enters_of Tryz.func174 (by kernel_rfl) rfl⟩
  | record r sd d D l h hr => exact ⟨_, _, _, _, cell_of_row w v 0 _ _ _ h, fun n W => m_plain3 n _ W, plain3 w X 3 r sd d D l hr hX, enters_of Tryz.func184 (by kernel_rfl) rfl⟩
  | flock r sd d D l h hr => exact ⟨_, _, _, _, cell_of_row w v 0 _ _ _ h, fun n W => m_plain4 n _ W, plain4 w X 4 r sd d D l hr hX, enters_of Tryz.func220 (by kernel_rfl) rfl⟩
  | ranks r S l h hr => exact ⟨_, _, _, _, cell_of_row w v 0 _ _ _ h, fun n W => m_plain5 n _ W, plain5 w X 5 r S l hr hX, enters_of Tryz.func246 (by kernel_rfl) rfl⟩
def ToldPost (p : PD) (w : World) (e : Ending) (w' : World) : Prop :=
  ∃ a1 a2 a3 c1 c2 c3, e = .returned (.agg (Tryz.plainCells p a1 a2 a3 c1 c2 c3)) ∧ PlainAt w' p a1 a2 a3 ∧ Below w.heap.size w w'
/-- The same, and the rows are new. -/
def ToldNew (p : PD) (w : World) (e : Ending) (w' : World) : Prop :=
  ∃ a1 a2 a3 c1 c2 c3, e = .returned (.agg (Tryz.plainCells p a1 a2 a3 c1 c2 c3)) ∧ PlainAt w' p a1 a2 a3 ∧ Below w.heap.size w w' ∧ ∀ x, (a1 = some x ∨ a2 = some x ∨ a3 = some x) → w.heap.size ≤ x.block
theorem fiveP {w : World} {g : Nat} {c0 c1 c2 c3 c4 : Value} {t : TypeId} (h : w.heap[g]? = some (.cells #[c0, c1, c2, c3, c4] t)) :
    (w.cell? ⟨g, 0, none⟩ = some c0 ∧ w.cell? ⟨g, 1, none⟩ = some c1 ∧ w.cell? ⟨g, 2, none⟩ = some c2 ∧ w.cell? ⟨g, 3, none⟩ = some c3 ∧ w.cell? ⟨g, 4, none⟩ = some c4) ∧ ∀ j, w.frozen? ⟨g, j, none⟩ = false := by
  refine ⟨⟨?_, ?_, ?_, ?_, ?_⟩, fun j => frozen_of_row w g j _ _ h⟩ <;> rw [cell_of_row w g _ _ _ _ h] <;> rfl
def fill5 (w : World) (g : Nat) (c0 c1 c2 c3 c4 : Value) : World := ((((w.setCell ⟨g, 0, none⟩ c0).setCell ⟨g, 1, none⟩ c1).setCell ⟨g, 2, none⟩ c2).setCell ⟨g, 3, none⟩ c3).setCell ⟨g, 4, none⟩ c4
theorem fill5_chg (w : World) (g : Nat) (c0 c1 c2 c3 c4 : Value) : Chg (fun k => k = g) w (fill5 w g c0 c1 c2 c3 c4) := by
  have h : ∀ (w : World) (j : Nat) (u : Value), Chg (fun k => k = g) w (w.setCell ⟨g, j, none⟩ u) := fun w j u => Chg.setCell (S := fun k => k = g) (Chg.refl _ w) (p := ⟨g, j, none⟩) (fun _ => rfl) _
  have t : ∀ {a b c : World}, Chg (fun k => k = g) a b → Chg (fun k => k = g) b c → Chg (fun k => k = g) a c := fun h k => h.trans k fun _ _ e => e
  exact t (t (t (t (h _ _ _) (h _ _ _)) (h _ _ _)) (h _ _ _)) (h _ _ _)
theorem fill5_row {w : World} {g : Nat} {d0 d1 d2 d3 d4 : Value} {t : TypeId} (h : w.heap[g]? = some (.cells #[d0, d1, d2, d3, d4] t)) (c0 c1 c2 c3 c4 : Value) : (fill5 w g c0 c1 c2 c3 c4).heap[g]? = some (.cells #[c0, c1, c2, c3, c4] t) :=
  heapSetHere (heapSetHere (heapSetHere (heapSetHere (heapSetHere h c0) c1) c2) c3) c4
set_option maxRecDepth 100000 in
set_option maxHeartbeats 8000000 in
theorem told_new {w : World} {v : Nat} {p : PD} (h : ValIs w v p) : Calls Tryz.prog 51 #[.pointer (some ⟨v, 0, none⟩)] w (ToldNew p w) := by
  have hvl := h.lt
  obtain ⟨W1, hW1⟩ : ∃ W, (w.alloc (.cells #[.int .i64 0, .string ⟨#[]⟩, .slice none 0 0, .slice none 0 0, .slice none 0 0] 49)).alloc (.cells #[.int .i64 0, .string ⟨#[]⟩, .slice none 0 0, .slice none 0 0, .slice none 0 0] 49) = W := ⟨_, rfl⟩
  have hb1 : Below w.heap.size w W1 := by rw [← hW1]; exact ((Below.refl _ _).alloc (Nat.le_refl _) _).alloc (by simp) _
  have hR1 : W1.heap[w.heap.size]? = some (.cells (Tryz.kindCells 0) 49) := by rw [← hW1, heap_alloc_old (by simp)]; exact heap_alloc_new w _
  have hX1 : W1.heap[w.heap.size + 1]? = some (.cells (Tryz.kindCells 0) 49) := by
    have := heap_alloc_new (w.alloc (.cells #[.int .i64 0, .string ⟨#[]⟩, .slice none 0 0, .slice none 0 0, .slice none 0 0] 49)) (.cells #[.int .i64 0, .string ⟨#[]⟩, .slice none 0 0, .slice none 0 0, .slice none 0 0] 49)
    rw [World.size_alloc] at this
    rw [← hW1]; exact this
  have hs1 : W1.heap.size = w.heap.size + 2 := by rw [← hW1]; simp
  have HK := Lib.hid (kind_any (h.below hb1))
  have HNEXT : Hid (∀ w2, Below W1.heap.size W1 w2 → ∃ T x f y, (w2.setCell ⟨w.heap.size + 1, 0, none⟩ (.int .i64 p.kind)).cell? ⟨v, 0, none⟩ = some (.iface T x) ∧ (∀ n W, (method (n + 1) T x "pantry/value.plain").run Tryz.prog W = .ok (f, y) W) ∧
      (∀ args W, (callFunc f args).run Tryz.prog W = .ok (.enter f args) W) ∧ w2.frozen? ⟨w.heap.size + 1, 0, none⟩ = false ∧ w2.cell? ⟨w.heap.size + 1, 0, none⟩ = some (.int .i64 0) ∧
      Calls Tryz.prog f #[y, .pointer (some ⟨w.heap.size + 1, 0, none⟩)] (w2.setCell ⟨w.heap.size + 1, 0, none⟩ (.int .i64 p.kind)) (fun e w4 => e = .returned (.tuple #[]) ∧ ∃ a1 a2 a3 c1 c2 c3,
        w4.heap[w.heap.size + 1]? = some (.cells (Tryz.plainCells p a1 a2 a3 c1 c2 c3) 49) ∧ PlainAt w4 p a1 a2 a3 ∧ Below w.heap.size w w4 ∧ w4.heap[w.heap.size]? = some (.cells (Tryz.kindCells 0) 49) ∧
        ToldNew p w (.returned (.agg (Tryz.plainCells p a1 a2 a3 c1 c2 c3))) (fill5 w4 w.heap.size (.int .i64 p.kind) (.string ⟨p.text.toArray⟩) (.slice a1 p.items.length c1) (.slice a2 p.pairs.length c2) (.slice a3 p.ranks.length c3)))) := Lib.hid (by
    intro w2 hb2
    have hX2 : w2.heap[w.heap.size + 1]? = some (.cells (Tryz.kindCells 0) 49) := (hb2.block _ (by omega)).trans hX1
    have hR2 : w2.heap[w.heap.size]? = some (.cells (Tryz.kindCells 0) 49) := (hb2.block _ (by omega)).trans hR1
    have hb02 : Below w.heap.size w w2 := hb1.trans (hb2.mono hb1.size)
    have hc3 : Chg (fun k => k = w.heap.size + 1) w2 (w2.setCell ⟨w.heap.size + 1, 0, none⟩ (.int .i64 p.kind)) := Chg.setCell (S := fun k => k = w.heap.size + 1) (Chg.refl _ w2) (p := ⟨w.heap.size + 1, 0, none⟩) (fun _ => rfl) _
    have hb3 : Below w.heap.size w (w2.setCell ⟨w.heap.size + 1, 0, none⟩ (.int .i64 p.kind)) := hb02.setCell (p := ⟨w.heap.size + 1, 0, none⟩) (by simp) _
    have hR3 := hc3.heap hR2 (by omega)
    have hX3 : (w2.setCell ⟨w.heap.size + 1, 0, none⟩ (.int .i64 p.kind)).heap[w.heap.size + 1]? = some (.cells (Tryz.kindCells p.kind) 49) := heapSetHere hX2 _
    obtain ⟨T, x, f, y, q1, q2, q3, q6⟩ := plain_any (h.below hb3) (w.heap.size + 1) hX3
    refine ⟨T, x, f, y, q1, q2, q6, frozen_of_row w2 _ 0 _ _ hX2, cell_of_row w2 _ 0 _ _ _ hX2, q3.mono ?_⟩
    rintro e w4 ⟨rfl, a1, a2, a3, c1, c2, c3, r1, r2, r3, r4⟩
    have hb4 : Below w.heap.size w w4 := hb3.trans (r3.below (Nat.le_trans (Nat.le_refl _) hb3.size) (fun k e => by omega))
    have hR4 := r3.heap hR3 (by omega)
    refine ⟨rfl, a1, a2, a3, c1, c2, c3, r1, r2, hb4, hR4, a1, a2, a3, c1, c2, c3, rfl, ?_, ?_, ?_⟩
    · have hcR := fill5_chg w4 w.heap.size (.int .i64 p.kind) (.string ⟨p.text.toArray⟩) (.slice a1 p.items.length c1) (.slice a2 p.pairs.length c2) (.slice a3 p.ranks.length c3)
      have hs2 := hb2.size
      have hsz : (w2.setCell ⟨w.heap.size + 1, 0, none⟩ (.int .i64 p.kind)).heap.size = w2.heap.size := by simp
      rw [hsz] at r4
      exact ⟨hcR.rd r2.items (fun x hx e => by have := r4 x (.inl hx); omega), hcR.rd r2.pairs (fun x hx e => by have := r4 x (.inr (.inl hx)); omega), hcR.rd r2.ranks (fun x hx e => by have := r4 x (.inr (.inr hx)); omega)⟩
    · exact hb4.trans ((fill5_chg w4 w.heap.size _ _ _ _ _).below hb4.size (fun k e => by omega))
    · intro x hx
      have h1 := r4 x hx
      have h2 := hb3.size
      omega)
  have HS5 := Lib.hid (show (Tryz.prog.info? 49).map (·.size) = some 5 by kernel_rfl)
  clear h hb1 hR1 hX1 hs1
  go_enter Tryz.func51, Tryz.ntmps51
  go_wp2_with (first
    | (go_at_call 73
       refine HK.out.mono ?_
       rintro e w2 ⟨rfl, hb2⟩
       obtain ⟨T, x, f, y, q1, q2, q6, q3, q4, q5⟩ := HNEXT.out w2 hb2
       replace q5 := Lib.hid q5
       clear HK HNEXT hb2))
  refine q5.out.mono ?_
  rintro e w4 ⟨rfl, a1, a2, a3, c1, c2, c3, r1, r2, r3, r4, r5⟩
  obtain ⟨⟨d0, d1, d2, d3, d4⟩, -⟩ := fiveP r1
  obtain ⟨⟨k0, k1, k2, k3, k4⟩, kf⟩ := fiveP r4
  have z0 := kf 0; have z1 := kf 1; have z2 := kf 2; have z3 := kf 3; have z4 := kf 4
  have HR := Lib.hid r4
  have HP := Lib.hid r5
  clear r1 r2 r3 r4 r5 q5 q1 q2 q6 q3 q4 kf
  go_wp2_with fail
  have hrow := fill5_row HR.out (.int .i64 p.kind) (.string ⟨p.text.toArray⟩) (.slice a1 p.items.length c1) (.slice a2 p.pairs.length c2) (.slice a3 p.ranks.length c3)
  obtain ⟨⟨g0, g1, g2, g3, g4⟩, -⟩ := fiveP hrow
  have hq := HP.out
  unfold fill5 at hq g0 g1 g2 g3 g4
  unfold Tryz.plainCells at hq
  refine bodyPost_ret (v := .agg #[.int .i64 p.kind, .string ⟨p.text.toArray⟩, .slice a1 p.items.length c1, .slice a2 p.pairs.length c2, .slice a3 p.ranks.length c3]) ?_ rfl hq
  simp [results, Tryz.f51, go_sem, g0, g1, g2, g3, g4]
theorem told_any {w : World} {v : Nat} {p : PD} (h : ValIs w v p) : Calls Tryz.prog 51 #[.pointer (some ⟨v, 0, none⟩)] w (ToldPost p w) :=
  (told_new h).mono fun e w' ⟨a1, a2, a3, c1, c2, c3, h1, h2, h3, _⟩ => ⟨a1, a2, a3, c1, c2, c3, h1, h2, h3⟩
end Go.Proofs.YteiklgbjjmlmaaaGreat
