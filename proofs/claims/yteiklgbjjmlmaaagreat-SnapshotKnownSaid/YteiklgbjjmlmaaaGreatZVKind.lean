
/- What a value tells of itself: its kind, whether it is empty, what it costs. -/
import Derived.Test.YteiklgbjjmlmaaaGreatZVHeld
import Derived.Test.YteiklgbjjmlmaaaGreatZVMake
import Derived.Deep.RegionHeld3
set_option linter.unusedVariables false
set_option linter.unusedSimpArgs false
namespace Pantry
open Go Go.RowKit
end Pantry
namespace Go.Proofs.YteiklgbjjmlmaaaGreat
open Go.RowKit Pantry

theorem m_kind1 (n : Nat) (s : ByteArray) (w : World) : (method (n + 1) 132 (.string s) "pantry/value.kind").run Tryz.prog w = .ok (167, .string s) w := by kernel_rfl
theorem m_kind2 (n : Nat) (d : Nat) (w : World) : (method (n + 1) 144 (.agg #[.pointer (some ⟨d, 0, none⟩)]) "pantry/value.kind").run Tryz.prog w = .ok (173, .agg #[.pointer (some ⟨d, 0, none⟩)]) w := by kernel_rfl
theorem m_kind3 (n : Nat) (d : Nat) (w : World) : (method (n + 1) 154 (.agg #[.pointer (some ⟨d, 0, none⟩)]) "pantry/value.kind").run Tryz.prog w = .ok (183, .agg #[.pointer (some ⟨d, 0, none⟩)]) w := by kernel_rfl
theorem m_kind4 (n : Nat) (d : Nat) (w : World) : (method (n + 1) 163 (.agg #[.pointer (some ⟨d, 0, none⟩)]) "pantry/value.kind").run Tryz.prog w = .ok (219, .agg #[.pointer (some ⟨d, 0, none⟩)]) w := by kernel_rfl
theorem m_kind5 (n : Nat) (d : Nat) (w : World) : (method (n + 1) 174 (.agg #[.pointer (some ⟨d, 0, none⟩)]) "pantry/value.kind").run Tryz.prog w = .ok (245, .agg #[.pointer (some ⟨d, 0, none⟩)]) w := by kernel_rfl
theorem m_empty1 (n : Nat) (s : ByteArray) (w : World) : (method (n + 1) 132 (.string s) "pantry/value.empty").run Tryz.prog w = .ok (166, .string s) w := by kernel_rfl
theorem m_empty2 (n : Nat) (d : Nat) (w : World) : (method (n + 1) 144 (.agg #[.pointer (some ⟨d, 0, none⟩)]) "pantry/value.empty").run Tryz.prog w = .ok (172, .agg #[.pointer (some ⟨d, 0, none⟩)]) w := by kernel_rfl
theorem m_empty3 (n : Nat) (d : Nat) (w : World) : (method (n + 1) 154 (.agg #[.pointer (some ⟨d, 0, none⟩)]) "pantry/value.empty").run Tryz.prog w = .ok (182, .agg #[.pointer (some ⟨d, 0, none⟩)]) w := by kernel_rfl
theorem m_empty4 (n : Nat) (d : Nat) (w : World) : (method (n + 1) 163 (.agg #[.pointer (some ⟨d, 0, none⟩)]) "pantry/value.empty").run Tryz.prog w = .ok (218, .agg #[.pointer (some ⟨d, 0, none⟩)]) w := by kernel_rfl
theorem m_empty5 (n : Nat) (d : Nat) (w : World) : (method (n + 1) 174 (.agg #[.pointer (some ⟨d, 0, none⟩)]) "pantry/value.empty").run Tryz.prog w = .ok (244, .agg #[.pointer (some ⟨d, 0, none⟩)]) w := by kernel_rfl
theorem kind1 (w : World) (s : ByteArray) : Calls Tryz.prog 167 #[.string s] w (QPost w (.int .i64 1)) := by
  go_enter Tryz.func167, Tryz.ntmps167
  go_wp2_with fail
  go_ret
  exact ⟨rfl, by first | exact Below.refl _ _ | exact (Below.refl _ _).alloc (Nat.le_refl _) _⟩
theorem kind2 (w : World) (d : Nat) : Calls Tryz.prog 173 #[.agg #[.pointer (some ⟨d, 0, none⟩)]] w (QPost w (.int .i64 2)) := by
  go_enter Tryz.func173, Tryz.ntmps173
  go_wp2_with fail
  go_ret
  exact ⟨rfl, by first | exact Below.refl _ _ | exact (Below.refl _ _).alloc (Nat.le_refl _) _⟩
theorem kind3 (w : World) (d : Nat) : Calls Tryz.prog 183 #[.agg #[.pointer (some ⟨d, 0, none⟩)]] w (QPost w (.int .i64 3)) := by
  go_enter Tryz.func183, Tryz.ntmps183
  go_wp2_with fail
  go_ret
  exact ⟨rfl, by first | exact Below.refl _ _ | exact (Below.refl _ _).alloc (Nat.le_refl _) _⟩
theorem kind4 (w : World) (d : Nat) : Calls Tryz.prog 219 #[.agg #[.pointer (some ⟨d, 0, none⟩)]] w (QPost w (.int .i64 4)) := by
  go_enter Tryz.func219, Tryz.ntmps219
  go_wp2_with fail
  go_ret
  exact ⟨rfl, by first | exact Below.refl _ _ | exact (Below.refl _ _).alloc (Nat.le_refl _) _⟩
theorem kind5 (w : World) (d : Nat) : Calls Tryz.prog 245 #[.agg #[.pointer (some ⟨d, 0, none⟩)]] w (QPost w (.int .i64 5)) := by
  go_enter Tryz.func245, Tryz.ntmps245
  go_wp2_with fail
  go_ret
  exact ⟨rfl, by first | exact Below.refl _ _ | exact (Below.refl _ _).alloc (Nat.le_refl _) _⟩
theorem empty1 (w : World) (s : ByteArray) : Calls Tryz.prog 166 #[.string s] w (QPost w (.bool false)) := by
  go_enter Tryz.func166, Tryz.ntmps166
  go_wp2_with fail
  go_ret
  exact ⟨rfl, by first | exact Below.refl _ _ | exact (Below.refl _ _).alloc (Nat.le_refl _) _⟩
theorem empty2 (w : World) (d n : Nat) (hl : ∀ W, Below w.heap.size w W → Calls Tryz.prog 175 #[.pointer (some ⟨d, 0, none⟩)] W fun e w' => e = .returned (.int .i64 (n : Nat)) ∧ W = w') :
    Calls Tryz.prog 172 #[.agg #[.pointer (some ⟨d, 0, none⟩)]] w (QPost w (.bool (decide (n = 0)))) := by
  have hm0 : ((n : Int) == 0) = decide (n = 0) := by
    by_cases h : n = 0
    · subst h; rfl
    · simp [h]
  obtain ⟨m, hm⟩ : ∃ m, decide (n = 0) = m := ⟨_, rfl⟩
  rw [hm] at hm0 ⊢
  have HL := fun o => Lib.hid (hl (w.alloc o) ((Below.refl _ _).alloc (Nat.le_refl _) _))
  clear hl hm
  go_enter Tryz.func172, Tryz.ntmps172
  go_wp2_with (go_at_call 175; refine (HL _).out.mono ?_; rintro e w' ⟨rfl, rfl⟩)
  go_ret
  exact ⟨rfl, (Below.refl _ _).alloc (Nat.le_refl _) _⟩
theorem empty3 (w : World) (d n : Nat) (hl : ∀ W, Below w.heap.size w W → Calls Tryz.prog 185 #[.pointer (some ⟨d, 0, none⟩)] W fun e w' => e = .returned (.int .i64 (n : Nat)) ∧ W = w') :
    Calls Tryz.prog 182 #[.agg #[.pointer (some ⟨d, 0, none⟩)]] w (QPost w (.bool (decide (n = 0)))) := by
  have hm0 : ((n : Int) == 0) = decide (n = 0) := by
    by_cases h : n = 0
    · subst h; rfl
    · simp [h]
  obtain ⟨m, hm⟩ : ∃ m, decide (n = 0) = m := ⟨_, rfl⟩
  rw [hm] at hm0 ⊢
  have HL := fun o => Lib.hid (hl (w.alloc o) ((Below.refl _ _).alloc (Nat.le_refl _) _))
  clear hl hm
  go_enter Tryz.func182, Tryz.ntmps182
  go_wp2_with (go_at_call 185; refine (HL _).out.mono ?_; rintro e w' ⟨rfl, rfl⟩)
  go_ret
  exact ⟨rfl, (Below.refl _ _).alloc (Nat.le_refl _) _⟩
theorem empty4 (w : World) (d n : Nat) (hl : ∀ W, Below w.heap.size w W → Calls Tryz.prog 90 #[.pointer (some ⟨d, 0, none⟩)] W fun e w' => e = .returned (.int .i64 (n : Nat)) ∧ W = w') :
    Calls Tryz.prog 218 #[.agg #[.pointer (some ⟨d, 0, none⟩)]] w (QPost w (.bool (decide (n = 0)))) := by
  have hm0 : ((n : Int) == 0) = decide (n = 0) := by
    by_cases h : n = 0
    · subst h; rfl
    · simp [h]
  obtain ⟨m, hm⟩ : ∃ m, decide (n = 0) = m := ⟨_, rfl⟩
  rw [hm] at hm0 ⊢
  have HL := fun o => Lib.hid (hl (w.alloc o) ((Below.refl _ _).alloc (Nat.le_refl _) _))
  clear hl hm
  go_enter Tryz.func218, Tryz.ntmps218
  go_wp2_with (go_at_call 90; refine (HL _).out.mono ?_; rintro e w' ⟨rfl, rfl⟩)
  go_ret
  exact ⟨rfl, (Below.refl _ _).alloc (Nat.le_refl _) _⟩
theorem empty5 (w : World) (d n : Nat) (hl : ∀ W, Below w.heap.size w W → Calls Tryz.prog 247 #[.pointer (some ⟨d, 0, none⟩)] W fun e w' => e = .returned (.int .i64 (n : Nat)) ∧ W = w') :
    Calls Tryz.prog 244 #[.agg #[.pointer (some ⟨d, 0, none⟩)]] w (QPost w (.bool (decide (n = 0)))) := by
  have hm0 : ((n : Int) == 0) = decide (n = 0) := by
    by_cases h : n = 0
    · subst h; rfl
    · simp [h]
  obtain ⟨m, hm⟩ : ∃ m, decide (n = 0) = m := ⟨_, rfl⟩
  rw [hm] at hm0 ⊢
  have HL := fun o => Lib.hid (hl (w.alloc o) ((Below.refl _ _).alloc (Nat.le_refl _) _))
  clear hl hm
  go_enter Tryz.func244, Tryz.ntmps244
  go_wp2_with (go_at_call 247; refine (HL _).out.mono ?_; rintro e w' ⟨rfl, rfl⟩)
  go_ret
  exact ⟨rfl, (Below.refl _ _).alloc (Nat.le_refl _) _⟩
set_option maxHeartbeats 4000000 in
theorem kind_any {w : World} {v : Nat} {p : PD} (h : ValIs w v p) : Calls Tryz.prog 73 #[.pointer (some ⟨v, 0, none⟩)] w (QPost w (.int .i64 p.kind)) := by
  cases h with
  | text s h =>
    have c0 : w.cell? ⟨v, 0, none⟩ = some (.iface 132 (.string ⟨s.toArray⟩)) := cell_of_row w v 0 _ _ _ h
    have hm := m_kind1
    have HC := Lib.hid (kind1 w ⟨s.toArray⟩)
    clear h
    go_enter Tryz.func73, Tryz.ntmps73
    go_wp2_with (go_at_call 167; refine HC.out.mono ?_; rintro e w' ⟨rfl, hb⟩)
    go_ret
    exact ⟨rfl, hb⟩
  | list d x gs cs h hd hg =>
    have c0 : w.cell? ⟨v, 0, none⟩ = some (.iface 144 (.agg #[.pointer (some ⟨d, 0, none⟩)])) := cell_of_row w v 0 _ _ _ h
    have hm := m_kind2
    have HC := Lib.hid (kind2 w d)
    clear h hd hg
    go_enter Tryz.func73, Tryz.ntmps73
    go_wp2_with (go_at_call 173; refine HC.out.mono ?_; rintro e w' ⟨rfl, hb⟩)
    go_ret
    exact ⟨rfl, hb⟩
  | record d sd dd D l h hr =>
    have c0 : w.cell? ⟨v, 0, none⟩ = some (.iface 154 (.agg #[.pointer (some ⟨d, 0, none⟩)])) := cell_of_row w v 0 _ _ _ h
    have hm := m_kind3
    have HC := Lib.hid (kind3 w d)
    clear h hr
    go_enter Tryz.func73, Tryz.ntmps73
    go_wp2_with (go_at_call 183; refine HC.out.mono ?_; rintro e w' ⟨rfl, hb⟩)
    go_ret
    exact ⟨rfl, hb⟩
  | flock d sd dd D l h hr =>
    have c0 : w.cell? ⟨v, 0, none⟩ = some (.iface 163 (.agg #[.pointer (some ⟨d, 0, none⟩)])) := cell_of_row w v 0 _ _ _ h
    have hm := m_kind4
    have HC := Lib.hid (kind4 w d)
    clear h hr
    go_enter Tryz.func73, Tryz.ntmps73
    go_wp2_with (go_at_call 219; refine HC.out.mono ?_; rintro e w' ⟨rfl, hb⟩)
    go_ret
    exact ⟨rfl, hb⟩
  | ranks d S l h hr =>
    have c0 : w.cell? ⟨v, 0, none⟩ = some (.iface 174 (.agg #[.pointer (some ⟨d, 0, none⟩)])) := cell_of_row w v 0 _ _ _ h
    have hm := m_kind5
    have HC := Lib.hid (kind5 w d)
    clear h hr
    go_enter Tryz.func73, Tryz.ntmps73
    go_wp2_with (go_at_call 245; refine HC.out.mono ?_; rintro e w' ⟨rfl, hb⟩)
    go_ret
    exact ⟨rfl, hb⟩
set_option maxHeartbeats 4000000 in
theorem empty_any {w : World} {v : Nat} {p : PD} (h : ValIs w v p) : Calls Tryz.prog 50 #[.pointer (some ⟨v, 0, none⟩)] w (QPost w (.bool (emptyP p))) := by
  cases h with
  | text s h =>
    rw [show emptyP ⟨1, s, [], [], []⟩ = false from by simp [emptyP]]
    have c0 : w.cell? ⟨v, 0, none⟩ = some (.iface 132 (.string ⟨s.toArray⟩)) := cell_of_row w v 0 _ _ _ h
    have hm := m_empty1
    have HC := Lib.hid (empty1 w ⟨s.toArray⟩)
    clear h
    go_enter Tryz.func50, Tryz.ntmps50
    go_wp2_with (go_at_call 166; refine HC.out.mono ?_; rintro e w' ⟨rfl, hb⟩)
    go_ret
    exact ⟨rfl, hb⟩
  | list d x gs cs h hd hg =>
    rw [show emptyP ⟨2, [], cs.flatten, [], []⟩ = decide (total cs = 0) from by unfold emptyP; simp [total]; rfl]
    obtain ⟨u, hu⟩ : ∃ u, decide (total cs = 0) = u := ⟨_, rfl⟩
    have HE := empty2 w d (total cs) (fun W hb => len_any W d x gs cs (hd.chg (S := fun _ => False) (Chg.of_below hb) fun _ _ e => e))
    rw [hu] at HE ⊢
    clear hu
    have c0 : w.cell? ⟨v, 0, none⟩ = some (.iface 144 (.agg #[.pointer (some ⟨d, 0, none⟩)])) := cell_of_row w v 0 _ _ _ h
    have hm := m_empty2
    have HC := Lib.hid (HE)
    clear HE h hd hg
    go_enter Tryz.func50, Tryz.ntmps50
    go_wp2_with (go_at_call 172; refine HC.out.mono ?_; rintro e w' ⟨rfl, hb⟩)
    go_ret
    exact ⟨rfl, hb⟩
  | record d sd dd D l h hr =>
    rw [show emptyP ⟨3, [], [], sortK l, []⟩ = decide (l.length = 0) from by unfold emptyP; simp [(sortK_perm l).length_eq]]
    obtain ⟨u, hu⟩ : ∃ u, decide (l.length = 0) = u := ⟨_, rfl⟩
    have HE := empty3 w d (l.length) (fun W hb => DStr.rLen_any W d sd dd D l (hr.keep (S := fun _ => False) (Chg.of_below hb) fun _ _ e => e))
    rw [hu] at HE ⊢
    clear hu
    have c0 : w.cell? ⟨v, 0, none⟩ = some (.iface 154 (.agg #[.pointer (some ⟨d, 0, none⟩)])) := cell_of_row w v 0 _ _ _ h
    have hm := m_empty3
    have HC := Lib.hid (HE)
    clear HE h hr
    go_enter Tryz.func50, Tryz.ntmps50
    go_wp2_with (go_at_call 182; refine HC.out.mono ?_; rintro e w' ⟨rfl, hb⟩)
    go_ret
    exact ⟨rfl, hb⟩
  | flock d sd dd D l h hr =>
    rw [show emptyP ⟨4, [], sortT l, [], []⟩ = decide (l.length = 0) from by unfold emptyP; simp [(sortT_perm l).length_eq]]
    obtain ⟨u, hu⟩ : ∃ u, decide (l.length = 0) = u := ⟨_, rfl⟩
    have HE := empty4 w d (l.length) (fun W hb => DUnit.fLen_any W d sd dd D l (hr.keep (S := fun _ => False) (Chg.of_below hb) fun _ _ e => e))
    rw [hu] at HE ⊢
    clear hu
    have c0 : w.cell? ⟨v, 0, none⟩ = some (.iface 163 (.agg #[.pointer (some ⟨d, 0, none⟩)])) := cell_of_row w v 0 _ _ _ h
    have hm := m_empty4
    have HC := Lib.hid (HE)
    clear HE h hr
    go_enter Tryz.func50, Tryz.ntmps50
    go_wp2_with (go_at_call 218; refine HC.out.mono ?_; rintro e w' ⟨rfl, hb⟩)
    go_ret
    exact ⟨rfl, hb⟩
  | ranks d S l h hr =>
    rw [show emptyP ⟨5, [], [], [], l⟩ = decide (l.length = 0) from by unfold emptyP; simp []]
    obtain ⟨u, hu⟩ : ∃ u, decide (l.length = 0) = u := ⟨_, rfl⟩
    have HE := empty5 w d (l.length) (fun W hb => (hr.below hb).len)
    rw [hu] at HE ⊢
    clear hu
    have c0 : w.cell? ⟨v, 0, none⟩ = some (.iface 174 (.agg #[.pointer (some ⟨d, 0, none⟩)])) := cell_of_row w v 0 _ _ _ h
    have hm := m_empty5
    have HC := Lib.hid (HE)
    clear HE h hr
    go_enter Tryz.func50, Tryz.ntmps50
    go_wp2_with (go_at_call 244; refine HC.out.mono ?_; rintro e w' ⟨rfl, hb⟩)
    go_ret
    exact ⟨rfl, hb⟩
end Go.Proofs.YteiklgbjjmlmaaaGreat


/- A value told as plain data: text, record, flock, ranks. -/
set_option linter.unusedVariables false
set_option linter.unusedSimpArgs false
namespace Go.Proofs.YteiklgbjjmlmaaaGreat
open Go.RowKit Pantry

theorem m_plain1 (n : Nat) (s : ByteArray) (w : World) : (method (n + 1) 132 (.string s) "pantry/value.plain").run Tryz.prog w = .ok (168, .string s) w := by kernel_rfl
theorem m_plain2 (n d : Nat) (w : World) : (method (n + 1) 144 (.agg #[.pointer (some ⟨d, 0, none⟩)]) "pantry/value.plain").run Tryz.prog w = .ok (174, .agg #[.pointer (some ⟨d, 0, none⟩)]) w := by kernel_rfl
theorem m_plain3 (n d : Nat) (w : World) : (method (n + 1) 154 (.agg #[.pointer (some ⟨d, 0, none⟩)]) "pantry/value.plain").run Tryz.prog w = .ok (184, .agg #[.pointer (some ⟨d, 0, none⟩)]) w := by kernel_rfl
theorem m_plain4 (n d : Nat) (w : World) : (method (n + 1) 163 (.agg #[.pointer (some ⟨d, 0, none⟩)]) "pantry/value.plain").run Tryz.prog w = .ok (220, .agg #[.pointer (some ⟨d, 0, none⟩)]) w := by kernel_rfl
theorem m_plain5 (n d : Nat) (w : World) : (method (n + 1) 174 (.agg #[.pointer (some ⟨d, 0, none⟩)]) "pantry/value.plain").run Tryz.prog w = .ok (246, .agg #[.pointer (some ⟨d, 0, none⟩)]) w := by kernel_rfl
abbrev Tryz.kindCells (k : Int) : Array Value := #[.int .i64 k, .string ⟨#[]⟩, .slice none 0 0, .slice none 0 0, .slice none 0 0]
/-- The plain data in block X is filled in. -/
def PlPost (p : PD) (X : Nat) (w : World) (e : Ending) (w' : World) : Prop :=
  e = .returned (.tuple #[]) ∧ ∃ a1 a2 a3 c1 c2 c3, w'.heap[X]? = some (.cells (Tryz.plainCells p a1 a2 a3 c1 c2 c3) 49) ∧ PlainAt w' p a1 a2 a3 ∧ Chg (fun k => k = X) w w' ∧ ∀ x, (a1 = some x ∨ a2 = some x ∨ a3 = some x) → w.heap.size ≤ x.block
theorem ownsRow_addr {w : World} {base : Nat} {e : TypeId} {size n c k : Nat} {a : Option Addr} {xs : List Value} (h : w.ownsRow base e size (.slice a n c) k xs) {x : Addr} (hx : a = some x) : base ≤ x.block := by
  subst hx
  rcases h.2 with ⟨hv, -⟩ | ⟨g, cap, cur, hv, hb, -⟩
  · cases hv
  · cases hv
    exact hb
theorem plain1 (w : World) (X : Nat) (k : Int) (s : List UInt8) (hX : w.heap[X]? = some (.cells (Tryz.kindCells k) 49)) : Calls Tryz.prog 168 #[.string ⟨s.toArray⟩, .pointer (some ⟨X, 0, none⟩)] w (PlPost ⟨k, s, [], [], []⟩ X w) := by
  have HP : Hid (PlPost ⟨k, s, [], [], []⟩ X w (.returned (.tuple #[])) (w.setCell ⟨X, 1, none⟩ (.string ⟨s.toArray⟩))) := Lib.hid ⟨rfl, none, none, none, 0, 0, 0, heapSetHere hX _, ⟨Rd.nil _ _, Rd.nil _ _, Rd.nil _ _⟩, Chg.setCell (S := fun k => k = X) (Chg.refl _ w) (p := ⟨X, 1, none⟩) (fun _ => rfl) _, by rintro x (h | h | h) <;> cases h⟩
  have f1 : w.frozen? ⟨X, 1, none⟩ = false := frozen_of_row w X 1 _ _ hX
  have c1 : w.cell? ⟨X, 1, none⟩ = some (.string ⟨#[]⟩) := cell_of_row w X 1 _ _ _ hX
  go_enter Tryz.func168, Tryz.ntmps168
  go_wp2_with fail
  go_end0
  exact HP.out
set_option maxHeartbeats 2000000 in
theorem plain3 (w : World) (X : Nat) (k : Int) (r seed d : Nat) (D : Dc) (l : List Fld) (h : DStr.RecAt w r seed d D l) (hX : w.heap[X]? = some (.cells (Tryz.kindCells k) 49)) :
    Calls Tryz.prog 184 #[.agg #[.pointer (some ⟨r, 0, none⟩)], .pointer (some ⟨X, 0, none⟩)] w (PlPost ⟨k, [], [], sortK l, []⟩ X w) := by
  have hb1 : Below w.heap.size w (w.alloc (.cells #[.pointer (some ⟨r, 0, none⟩)] 154)) := (Below.refl _ _).alloc (Nat.le_refl _) _
  have HC := Lib.hid (DStr.rPairs_any _ r seed d D l (h.keep (S := fun _ => False) (Chg.of_below hb1) fun _ _ e => e))
  have HE : Hid (∀ e w2, DStr.PairsPost l (w.alloc (.cells #[.pointer (some ⟨r, 0, none⟩)] 154)) e w2 → ∃ a c, e = .returned (.slice a l.length c) ∧ PlPost ⟨k, [], [], sortK l, []⟩ X w (.returned (.tuple #[])) (w2.setCell ⟨X, 3, none⟩ (.slice a l.length c)) ∧ w2.frozen? ⟨X, 3, none⟩ = false ∧ w2.cell? ⟨X, 3, none⟩ = some (.slice none 0 0)) := Lib.hid (by
    rintro e w2 ⟨v, rfl, q1, q2⟩
    obtain ⟨a, c, rfl, hrd⟩ := ownsRow_rd q1 (by
      intro u hu
      obtain ⟨p, -, hp⟩ := List.mem_flatMap.1 hu
      simp [fdC] at hp
      rcases hp with rfl | rfl <;> rfl)
    have hB := hb1.trans (q2.mono hb1.size)
    have hX2 : w2.heap[X]? = some (.cells (Tryz.kindCells k) 49) := (hB.block X (block_lt hX)).trans hX
    refine ⟨a, c, rfl, ⟨rfl, none, a, none, 0, c, 0, ?_, ⟨Rd.nil _ _, ?_, Rd.nil _ _⟩, Chg.setCell (S := fun k => k = X) (Chg.of_below hB) (p := ⟨X, 3, none⟩) (fun _ => rfl) _, by
      rintro x (h | h | h)
      · cases h
      · exact Nat.le_trans (Nat.le_succ _) (by have := ownsRow_addr q1 h; simpa using this)
      · cases h⟩, frozen_of_row w2 X 3 _ _ hX2, cell_of_row w2 X 3 _ _ _ hX2⟩
    · have := heapSetHere hX2 (j := 3) (.slice a l.length c)
      rw [this]
      simp [Tryz.plainCells, Tryz.kindCells, (sortK_perm l).length_eq]
    · have hc : Chg (fun k => k = X) w2 (w2.setCell ⟨X, 3, none⟩ (.slice a l.length c)) := Chg.setCell (S := fun k => k = X) (Chg.refl _ w2) (p := ⟨X, 3, none⟩) (fun _ => rfl) _
      exact Chg.rd hrd hc (fun x hx e => by
        subst hx
        have hv := q1.2
        rcases hv with ⟨hv, -⟩ | ⟨g, cap, cur, hv, hb, hg, -⟩
        · cases hv
        · cases hv
          have := block_lt hX
          have h2 : w.heap.size + 1 ≤ g := by simpa using hb
          simp at e
          omega))
  clear h hX hb1
  go_enter Tryz.func184, Tryz.ntmps184
  go_wp2_with (go_at_call 186; refine HC.out.mono ?_; intro e w2 hp; obtain ⟨a, c, rfl, hq, hf, hc⟩ := HE.out e w2 hp; have HQ := Lib.hid hq; clear hq hp HE HC)
  go_end0
  exact HQ.out
set_option maxHeartbeats 2000000 in
theorem plain4 (w : World) (X : Nat) (k : Int) (r seed d : Nat) (D : Dc) (l : List (List UInt8)) (h : DUnit.FlkAt w r seed d D l) (hX : w.heap[X]? = some (.cells (Tryz.kindCells k) 49)) :
    Calls Tryz.prog 220 #[.agg #[.pointer (some ⟨r, 0, none⟩)], .pointer (some ⟨X, 0, none⟩)] w (PlPost ⟨k, [], sortT l, [], []⟩ X w) := by
  have hb1 : Below w.heap.size w (w.alloc (.cells #[.pointer (some ⟨r, 0, none⟩)] 163)) := (Below.refl _ _).alloc (Nat.le_refl _) _
  have HC := Lib.hid (DUnit.fMem_any _ r seed d D l (h.keep (S := fun _ => False) (Chg.of_below hb1) fun _ _ e => e))
  have HE : Hid (∀ e w2, DUnit.MemPost l (w.alloc (.cells #[.pointer (some ⟨r, 0, none⟩)] 163)) e w2 → ∃ a c, e = .returned (.slice a l.length c) ∧ PlPost ⟨k, [], sortT l, [], []⟩ X w (.returned (.tuple #[])) (w2.setCell ⟨X, 2, none⟩ (.slice a l.length c)) ∧ w2.frozen? ⟨X, 2, none⟩ = false ∧ w2.cell? ⟨X, 2, none⟩ = some (.slice none 0 0)) := Lib.hid (by
    rintro e w2 ⟨v, rfl, q1, q2⟩
    obtain ⟨a, c, rfl, hrd⟩ := ownsRow_rd q1 (by
      intro u hu
      obtain ⟨p, -, rfl⟩ := List.mem_map.1 hu
      rfl)
    have hB := hb1.trans (q2.mono hb1.size)
    have hX2 : w2.heap[X]? = some (.cells (Tryz.kindCells k) 49) := (hB.block X (block_lt hX)).trans hX
    refine ⟨a, c, rfl, ⟨rfl, a, none, none, c, 0, 0, ?_, ⟨?_, Rd.nil _ _, Rd.nil _ _⟩, Chg.setCell (S := fun k => k = X) (Chg.of_below hB) (p := ⟨X, 2, none⟩) (fun _ => rfl) _, by
      rintro x (h | h | h)
      · exact Nat.le_trans (Nat.le_succ _) (by have := ownsRow_addr q1 h; simpa using this)
      · cases h
      · cases h⟩, frozen_of_row w2 X 2 _ _ hX2, cell_of_row w2 X 2 _ _ _ hX2⟩
    · have := heapSetHere hX2 (j := 2) (.slice a l.length c)
      rw [this]
      simp [Tryz.plainCells, Tryz.kindCells, (sortT_perm l).length_eq]
    · have hc : Chg (fun k => k = X) w2 (w2.setCell ⟨X, 2, none⟩ (.slice a l.length c)) := Chg.setCell (S := fun k => k = X) (Chg.refl _ w2) (p := ⟨X, 2, none⟩) (fun _ => rfl) _
      exact Chg.rd hrd hc (fun x hx e => by
        subst hx
        have hv := q1.2
        rcases hv with ⟨hv, -⟩ | ⟨g, cap, cur, hv, hb, hg, -⟩
        · cases hv
        · cases hv
          have := block_lt hX
          have h2 : w.heap.size + 1 ≤ g := by simpa using hb
          simp at e
          omega))
  clear h hX hb1
  go_enter Tryz.func220, Tryz.ntmps220
  go_wp2_with (go_at_call 221; refine HC.out.mono ?_; intro e w2 hp; obtain ⟨a, c, rfl, hq, hf, hc⟩ := HE.out e w2 hp; have HQ := Lib.hid hq; clear hq hp HE HC)
  go_end0
  exact HQ.out
set_option maxHeartbeats 4000000 in
theorem plain5 (w : World) (X : Nat) (k : Int) (r : Nat) (S : Nat → Prop) (l : List Mb) (h : Rk w r S l) (hX : w.heap[X]? = some (.cells (Tryz.kindCells k) 49)) :
    Calls Tryz.prog 246 #[.agg #[.pointer (some ⟨r, 0, none⟩)], .pointer (some ⟨X, 0, none⟩)] w (PlPost ⟨k, [], [], [], l⟩ X w) := by
  have hb1 : Below w.heap.size w (w.alloc (.cells #[.pointer (some ⟨r, 0, none⟩)] 174)) := (Below.refl _ _).alloc (Nat.le_refl _) _
  have hl : segR l 0 l.length = l := by simp [segR]
  have HL := Lib.hid (Rk.len ((h.below hb1).below (Below.refl _ _).drew))
  have HC := Lib.hid (Rk.range ((h.below hb1).below (Below.refl _ _).drew) 0 l.length)
  rw [hl] at HC
  obtain ⟨n, hn⟩ : ∃ n, l.length = n := ⟨_, rfl⟩
  rw [hn] at HL HC
  have HE : Hid (∀ e w2, MbsPost l (w.alloc (.cells #[.pointer (some ⟨r, 0, none⟩)] 174)).drew e w2 → ∃ a c, e = .returned (.slice a n c) ∧ PlPost ⟨k, [], [], [], l⟩ X w (.returned (.tuple #[])) (w2.setCell ⟨X, 4, none⟩ (.slice a n c)) ∧ w2.frozen? ⟨X, 4, none⟩ = false ∧ w2.cell? ⟨X, 4, none⟩ = some (.slice none 0 0)) := Lib.hid (by
    rintro e w2 ⟨v, rfl, q1, q2⟩
    replace q1 := q1.row
    rw [hn] at q1
    obtain ⟨a, c, rfl, hrd⟩ := ownsRow_rd q1 (rkCells_one l)
    have hB := hb1.drew.trans (q2.mono hb1.drew.size)
    have hX2 : w2.heap[X]? = some (.cells (Tryz.kindCells k) 49) := (hB.block X (block_lt hX)).trans hX
    refine ⟨a, c, rfl, ⟨rfl, none, none, a, 0, 0, c, ?_, ⟨Rd.nil _ _, Rd.nil _ _, ?_⟩, Chg.setCell (S := fun k => k = X) (Chg.of_below hB) (p := ⟨X, 4, none⟩) (fun _ => rfl) _, by
      rintro x (h | h | h)
      · cases h
      · cases h
      · exact Nat.le_trans (Nat.le_succ _) (by have := ownsRow_addr q1 h; simpa using this)⟩, frozen_of_row w2 X 4 _ _ hX2, cell_of_row w2 X 4 _ _ _ hX2⟩
    · have := heapSetHere hX2 (j := 4) (.slice a n c)
      rw [this]
      simp [Tryz.plainCells, Tryz.kindCells, hn]
    · have hc : Chg (fun k => k = X) w2 (w2.setCell ⟨X, 4, none⟩ (.slice a n c)) := Chg.setCell (S := fun k => k = X) (Chg.refl _ w2) (p := ⟨X, 4, none⟩) (fun _ => rfl) _
      exact Chg.rd hrd hc (fun x hx e => by
        subst hx
        have hv := q1.2
        rcases hv with ⟨hv, -⟩ | ⟨g, cap, cur, hv, hb, hg, -⟩
        · cases hv
        · cases hv
          have := block_lt hX
          have h2 : w.heap.size + 1 ≤ g := by simpa using hb
          simp at e
          omega))
  clear h hX hb1 hl hn
  go_enter Tryz.func246, Tryz.ntmps246
  go_wp2_with fail
  go_region_with (first
    | (go_at_call 247; refine HL.out.mono ?_; rintro e w2 ⟨rfl, rfl⟩; clear HL)
    | (go_at_call 248; refine HC.out.mono ?_; intro e w2 hp; obtain ⟨a, c, rfl, hq, hf, hc⟩ := HE.out e w2 hp; have HQ := Lib.hid hq; clear hq hp HE HC))
  all_goals
    go_wp2_with fail
    go_end0
    exact HQ.out
end Go.Proofs.YteiklgbjjmlmaaaGreat
