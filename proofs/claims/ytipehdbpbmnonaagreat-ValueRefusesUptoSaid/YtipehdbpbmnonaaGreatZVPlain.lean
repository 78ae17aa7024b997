/- A value told as plain data: text, record, flock, ranks. -/
import Derived.Test.YtipehdbpbmnonaaGreatZVMake
import Derived.Test.YtipehdbpbmnonaaGreatZVKind
import Derived.Deep.RegionHeld3
set_option linter.unusedVariables false
set_option linter.unusedSimpArgs false
namespace Go.Proofs.YtipehdbpbmnonaaGreat
open Go.RowKit Pantry

theorem m_plain1 (n : Nat) (s : ByteArray) (w : World) : (method (n + 1) 98 (.string s) "pantry/value.plain").run Tryz.prog w = .ok (240, .string s) w := by kernel_rfl
theorem m_plain2 (n d : Nat) (w : World) : (method (n + 1) 106 (.agg #[.pointer (some ⟨d, 0, none⟩)]) "pantry/value.plain").run Tryz.prog w = .ok (244, .agg #[.pointer (some ⟨d, 0, none⟩)]) w := by kernel_rfl
theorem m_plain3 (n d : Nat) (w : World) : (method (n + 1) 109 (.agg #[.pointer (some ⟨d, 0, none⟩)]) "pantry/value.plain").run Tryz.prog w = .ok (251, .agg #[.pointer (some ⟨d, 0, none⟩)]) w := by kernel_rfl
theorem m_plain4 (n d : Nat) (w : World) : (method (n + 1) 112 (.agg #[.pointer (some ⟨d, 0, none⟩)]) "pantry/value.plain").run Tryz.prog w = .ok (280, .agg #[.pointer (some ⟨d, 0, none⟩)]) w := by kernel_rfl
theorem m_plain5 (n d : Nat) (w : World) : (method (n + 1) 115 (.agg #[.pointer (some ⟨d, 0, none⟩)]) "pantry/value.plain").run Tryz.prog w = .ok (305, .agg #[.pointer (some ⟨d, 0, none⟩)]) w := by kernel_rfl
abbrev Tryz.kindCells (k : Int) : Array Value := #[.int .i64 k, .string ⟨#[]⟩, .slice none 0 0, .slice none 0 0, .slice none 0 0]
/-- The plain data in block X is filled in. -/
def PlPost (p : PD) (X : Nat) (w : World) (e : Ending) (w' : World) : Prop :=
  e = .returned (.tuple #[]) ∧ ∃ a1 a2 a3 c1 c2 c3, w'.heap[X]? = some (.cells (Tryz.plainCells p a1 a2 a3 c1 c2 c3) 31) ∧ PlainAt w' p a1 a2 a3 ∧ Chg (fun k => k = X) w w' ∧ ∀ x, (a1 = some x ∨ a2 = some x ∨ a3 = some x) → w.heap.size ≤ x.block
theorem ownsRow_addr {w : World} {base : Nat} {e : TypeId} {size n c k : Nat} {a : Option Addr} {xs : List Value} (h : w.ownsRow base e size (.slice a n c) k xs) {x : Addr} (hx : a = some x) : base ≤ x.block := by
  subst hx
  rcases h.2 with ⟨hv, -⟩ | ⟨g, cap, cur, hv, hb, -⟩
  · cases hv
  · cases hv
    exact hb
theorem plain1 (w : World) (X : Nat) (k : Int) (s : List UInt8) (hX : w.heap[X]? = some (.cells (Tryz.kindCells k) 31)) : Calls Tryz.prog 240 #[.string ⟨s.toArray⟩, .pointer (some ⟨X, 0, none⟩)] w (PlPost ⟨k, s, [], [], []⟩ X w) := by
  have HP : Hid (PlPost ⟨k, s, [], [], []⟩ X w (.returned (.tuple #[])) (w.setCell ⟨X, 1, none⟩ (.string ⟨s.toArray⟩))) := Lib.hid ⟨rfl, none, none, none, 0, 0, 0, heapSetHere hX _, ⟨Rd.nil _ _, Rd.nil _ _, Rd.nil _ _⟩, Chg.setCell (S := fun k => k = X) (Chg.refl _ w) (p := ⟨X, 1, none⟩) (fun _ => rfl) _, by rintro x (h | h | h) <;> cases h⟩
  have f1 : w.frozen? ⟨X, 1, none⟩ = false := frozen_of_row w X 1 _ _ hX
  have c1 : w.cell? ⟨X, 1, none⟩ = some (.string ⟨#[]⟩) := cell_of_row w X 1 _ _ _ hX
  go_enter Tryz.func240, Tryz.ntmps240
  go_wp2_with fail
  go_end0
  exact HP.out
set_option maxHeartbeats 2000000 in
theorem plain3 (w : World) (X : Nat) (k : Int) (r seed d : Nat) (D : Dc) (l : List Fld) (h : DStr.RecAt w r seed d D l) (hX : w.heap[X]? = some (.cells (Tryz.kindCells k) 31)) :
    Calls Tryz.prog 251 #[.agg #[.pointer (some ⟨r, 0, none⟩)], .pointer (some ⟨X, 0, none⟩)] w (PlPost ⟨k, [], [], sortK l, []⟩ X w) := by
  have hb1 : Below w.heap.size w (w.alloc (.cells #[.pointer (some ⟨r, 0, none⟩)] 109)) := (Below.refl _ _).alloc (Nat.le_refl _) _
  have HC := Lib.hid (DStr.rPairs_any _ r seed d D l (h.keep (S := fun _ => False) (Chg.of_below hb1) fun _ _ e => e))
  have HE : Hid (∀ e w2, DStr.PairsPost l (w.alloc (.cells #[.pointer (some ⟨r, 0, none⟩)] 109)) e w2 → ∃ a c, e = .returned (.slice a l.length c) ∧ PlPost ⟨k, [], [], sortK l, []⟩ X w (.returned (.tuple #[])) (w2.setCell ⟨X, 3, none⟩ (.slice a l.length c)) ∧ w2.frozen? ⟨X, 3, none⟩ = false ∧ w2.cell? ⟨X, 3, none⟩ = some (.slice none 0 0)) := Lib.hid (by
    rintro e w2 ⟨v, rfl, q1, q2⟩
    obtain ⟨a, c, rfl, hrd⟩ := ownsRow_rd q1 (by
      intro u hu
      obtain ⟨p, -, hp⟩ := List.mem_flatMap.1 hu
      simp [fdC] at hp
      rcases hp with rfl | rfl <;> rfl)
    have hB := hb1.trans (q2.mono hb1.size)
    have hX2 : w2.heap[X]? = some (.cells (Tryz.kindCells k) 31) := (hB.block X (block_lt hX)).trans hX
    refine ⟨a, c, rfl, ⟨rfl, none, a, none, 0, c, 0, ?_, ⟨Rd.nil _ _, ?_, Rd.nil _ _⟩, Chg.setCell (S := fun k => k = X) (Chg.of_below hB) (p := ⟨X, 3, none⟩) (fun _ => rfl) _, by
      rintro x (h | h | h)
      · cases h
      · exact Nat.le_trans (Nat.le_succ _) (by have := ownsRow_addr q1 h; simpa using this)
      · cases h⟩, frozen_of_row w2 X 3 _ _ hX2, cell_of_row w2 X 3 _ _ _ hX2⟩
    · have := heapSetHere hX2 (j := 3) (.slice a l.length c)
      rw [this]
      simp [Tryz.plainCells, Tryz.kindCells, (sortK_perm l).length_eq]
    · have hc : Chg (fun k => k = X) w2 (w2.setCell ⟨X, 3, none⟩ (.slice a l.length c)) := Chg.setCell (S := fun k => k = X) (Chg.refl _ w2) (p := ⟨X, 3, none⟩) (fun _ => rfl) _
      exact Chg.rd hrd hc (fun x hx e => by
        subst hx
        have hv := q1.2
        rcases hv with ⟨hv, -⟩ | ⟨g, cap, cur, hv, hb, hg, -⟩
        · cases hv
        · cases hv
          have := block_lt hX
          have h2 : w.heap.size + 1 ≤ g := by simpa using hb
          simp at e
          omega))
  clear h hX hb1
  go_enter Tryz.func251, Tryz.ntmps251
  go_wp2_with (go_at_call 253; refine HC.out.mono ?_; intro e w2 hp; obtain ⟨a, c, rfl, hq, hf, hc⟩ := HE.out e w2 hp; have HQ := Lib.hid hq; clear hq hp HE HC)
  go_end0
  exact HQ.out
set_option maxHeartbeats 2000000 in
theorem plain4 (w : World) (X : Nat) (k : Int) (r seed d : Nat) (D : Dc) (l : List (List UInt8)) (h : DUnit.FlkAt w r seed d D l) (hX : w.heap[X]? = some (.cells (Tryz.kindCells k) 31)) :
    Calls Tryz.prog 280 #[.agg #[.pointer (some ⟨r, 0, none⟩)], .pointer (some ⟨X, 0, none⟩)] w (PlPost ⟨k, [], sortT l, [], []⟩ X w) := by
  have hb1 : Below w.heap.size w (w.alloc (.cells #[.pointer (some ⟨r, 0, none⟩)] 112)) := (Below.refl _ _).alloc (Nat.le_refl _) _
  have HC := Lib.hid (DUnit.fMem_any _ r seed d D l (h.keep (S := fun _ => False) (Chg.of_below hb1) fun _ _ e => e))
  have HE : Hid (∀ e w2, DUnit.MemPost l (w.alloc (.cells #[.pointer (some ⟨r, 0, none⟩)] 112)) e w2 → ∃ a c, e = .returned (.slice a l.length c) ∧ PlPost ⟨k, [], sortT l, [], []⟩ X w (.returned (.tuple #[])) (w2.setCell ⟨X, 2, none⟩ (.slice a l.length c)) ∧ w2.frozen? ⟨X, 2, none⟩ = false ∧ w2.cell? ⟨X, 2, none⟩ = some (.slice none 0 0)) := Lib.hid (by
    rintro e w2 ⟨v, rfl, q1, q2⟩
    obtain ⟨a, c, rfl, hrd⟩ := ownsRow_rd q1 (by
      intro u hu
      obtain ⟨p, -, rfl⟩ := List.mem_map.1 hu
      rfl)
    have hB := hb1.trans (q2.mono hb1.size)
    have hX2 : w2.heap[X]? = some (.cells (Tryz.kindCells k) 31) := (hB.block X (block_lt hX)).trans hX
    refine ⟨a, c, rfl, ⟨rfl, a, none, none, c, 0, 0, ?_, ⟨?_, Rd.nil _ _, Rd.nil _ _⟩, Chg.setCell (S := fun k => k = X) (Chg.of_below hB) (p := ⟨X, 2, none⟩) (fun _ => rfl) _, by
      rintro x (h | h | h)
      · exact Nat.le_trans (Nat.le_succ _) (by have := ownsRow_addr q1 h; simpa using this)
      · cases h
      · cases h⟩, frozen_of_row w2 X 2 _ _ hX2, cell_of_row w2 X 2 _ _ _ hX2⟩
    · have := heapSetHere hX2 (j := 2) (.slice a l.length c)
      rw [this]
      simp [Tryz.plainCells, Tryz.kindCells, (sortT_perm l).length_eq]
    · have hc : Chg (fun k => k = X) w2 (w2.setCell ⟨X, 2, none⟩ (.slice a l.length c)) := Chg.setCell (S := fun k => k = X) (Chg.refl _ w2) (p := ⟨X, 2, none⟩) (fun _ => rfl) _
      exact Chg.rd hrd hc (fun x hx e => by
        subst hx
        have hv := q1.2
        rcases hv with ⟨hv, -⟩ | ⟨g, cap, cur, hv, hb, hg, -⟩
        · cases hv
        · cases hv
          have := block_lt hX
          have h2 : w.heap.size + 1 ≤ g := by simpa using hb
          simp at e
          omega))
  clear h hX hb1
  go_enter Tryz.func280, Tryz.ntmps280
  go_wp2_with (go_at_call 282; refine HC.out.mono ?_; intro e w2 hp; obtain ⟨a, c, rfl, hq, hf, hc⟩ := HE.out e w2 hp; have HQ := Lib.hid hq; clear hq hp HE HC)
  go_end0
  exact HQ.out
set_option maxHeartbeats 4000000 in
theorem plain5 (w : World) (X : Nat) (k : Int) (r : Nat) (S : Nat → Prop) (l : List Mb) (h : Rk w r S l) (hX : w.heap[X]? = some (.cells (Tryz.kindCells k) 31)) :
    Calls Tryz.prog 305 #[.agg #[.pointer (some ⟨r, 0, none⟩)], .pointer (some ⟨X, 0, none⟩)] w (PlPost ⟨k, [], [], [], l⟩ X w) := by
  have hb1 : Below w.heap.size w (w.alloc (.cells #[.pointer (some ⟨r, 0, none⟩)] 115)) := (Below.refl _ _).alloc (Nat.le_refl _) _
  have hl : segR l 0 l.length = l := by simp [segR]
  have HL := Lib.hid (Rk.len ((h.below hb1).below (Below.refl _ _).drew))
  have HC := Lib.hid (Rk.range ((h.below hb1).below (Below.refl _ _).drew) 0 l.length)
  rw [hl] at HC
  obtain ⟨n, hn⟩ : ∃ n, l.length = n := ⟨_, rfl⟩
  rw [hn] at HL HC
  have HE : Hid (∀ e w2, MbsPost l (w.alloc (.cells #[.pointer (some ⟨r, 0, none⟩)] 115)).drew e w2 → ∃ a c, e = .returned (.slice a n c) ∧ PlPost ⟨k, [], [], [], l⟩ X w (.returned (.tuple #[])) (w2.setCell ⟨X, 4, none⟩ (.slice a n c)) ∧ w2.frozen? ⟨X, 4, none⟩ = false ∧ w2.cell? ⟨X, 4, none⟩ = some (.slice none 0 0)) := Lib.hid (by
    rintro e w2 ⟨v, rfl, q1, q2⟩
    replace q1 := q1.row
    rw [hn] at q1
    obtain ⟨a, c, rfl, hrd⟩ := ownsRow_rd q1 (rkCells_one l)
    have hB := hb1.drew.trans (q2.mono hb1.drew.size)
    have hX2 : w2.heap[X]? = some (.cells (Tryz.kindCells k) 31) := (hB.block X (block_lt hX)).trans hX
    refine ⟨a, c, rfl, ⟨rfl, none, none, a, 0, 0, c, ?_, ⟨Rd.nil _ _, Rd.nil _ _, ?_⟩, Chg.setCell (S := fun k => k = X) (Chg.of_below hB) (p := ⟨X, 4, none⟩) (fun _ => rfl) _, by
      rintro x (h | h | h)
      · cases h
      · cases h
      · exact Nat.le_trans (Nat.le_succ _) (by have := ownsRow_addr q1 h; simpa using this)⟩, frozen_of_row w2 X 4 _ _ hX2, cell_of_row w2 X 4 _ _ _ hX2⟩
    · have := heapSetHere hX2 (j := 4) (.slice a n c)
      rw [this]
      simp [Tryz.plainCells, Tryz.kindCells, hn]
    · have hc : Chg (fun k => k = X) w2 (w2.setCell ⟨X, 4, none⟩ (.slice a n c)) := Chg.setCell (S := fun k => k = X) (Chg.refl _ w2) (p := ⟨X, 4, none⟩) (fun _ => rfl) _
      exact Chg.rd hrd hc (fun x hx e => by
        subst hx
        have hv := q1.2
        rcases hv with ⟨hv, -⟩ | ⟨g, cap, cur, hv, hb, hg, -⟩
        · cases hv
        · cases hv
          have := block_lt hX
          have h2 : w.heap.size + 1 ≤ g := by simpa using hb
          simp at e
          omega))
  clear h hX hb1 hl hn
  go_enter Tryz.func305, Tryz.ntmps305
  go_wp2_with fail
  go_region_with (first
    | (go_at_call 119; refine HL.out.mono ?_; rintro e w2 ⟨rfl, rfl⟩; clear HL)
    | (go_at_call 307; refine HC.out.mono ?_; intro e w2 hp; obtain ⟨a, c, rfl, hq, hf, hc⟩ := HE.out e w2 hp; have HQ := Lib.hid hq; clear hq hp HE HC))
  all_goals
    go_wp2_with fail
    go_end0
    exact HQ.out
end Go.Proofs.YtipehdbpbmnonaaGreat
