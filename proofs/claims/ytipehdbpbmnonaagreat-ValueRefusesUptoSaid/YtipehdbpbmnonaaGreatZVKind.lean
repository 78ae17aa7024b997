/- What a value tells of itself: its kind, whether it is empty, what it costs. -/
import Derived.Test.YtipehdbpbmnonaaGreatZVHeld
set_option linter.unusedVariables false
set_option linter.unusedSimpArgs false
namespace Pantry
open Go Go.RowKit
theorem recCost_perm {l m : List Fld} (h : l.Perm m) : recCost l = recCost m := (h.map _).sum_nat
theorem flkCost_perm {l m : List (List UInt8)} (h : l.Perm m) : flkCost l = flkCost m := (h.map _).sum_nat
end Pantry
namespace Go.Proofs.YtipehdbpbmnonaaGreat
open Go.RowKit Pantry

theorem total_flat2 (cs : List (List Txt)) : total cs = cs.flatten.length := by simp [total, List.length_flatten]

theorem m_kind1 (n : Nat) (s : ByteArray) (w : World) : (method (n + 1) 98 (.string s) "pantry/value.kind").run Tryz.prog w = .ok (239, .string s) w := by kernel_rfl
theorem m_kind2 (n : Nat) (d : Nat) (w : World) : (method (n + 1) 106 (.agg #[.pointer (some ⟨d, 0, none⟩)]) "pantry/value.kind").run Tryz.prog w = .ok (243, .agg #[.pointer (some ⟨d, 0, none⟩)]) w := by kernel_rfl
theorem m_kind3 (n : Nat) (d : Nat) (w : World) : (method (n + 1) 109 (.agg #[.pointer (some ⟨d, 0, none⟩)]) "pantry/value.kind").run Tryz.prog w = .ok (250, .agg #[.pointer (some ⟨d, 0, none⟩)]) w := by kernel_rfl
theorem m_kind4 (n : Nat) (d : Nat) (w : World) : (method (n + 1) 112 (.agg #[.pointer (some ⟨d, 0, none⟩)]) "pantry/value.kind").run Tryz.prog w = .ok (279, .agg #[.pointer (some ⟨d, 0, none⟩)]) w := by kernel_rfl
theorem m_kind5 (n : Nat) (d : Nat) (w : World) : (method (n + 1) 115 (.agg #[.pointer (some ⟨d, 0, none⟩)]) "pantry/value.kind").run Tryz.prog w = .ok (304, .agg #[.pointer (some ⟨d, 0, none⟩)]) w := by kernel_rfl
theorem m_empty1 (n : Nat) (s : ByteArray) (w : World) : (method (n + 1) 98 (.string s) "pantry/value.empty").run Tryz.prog w = .ok (238, .string s) w := by kernel_rfl
theorem m_empty2 (n : Nat) (d : Nat) (w : World) : (method (n + 1) 106 (.agg #[.pointer (some ⟨d, 0, none⟩)]) "pantry/value.empty").run Tryz.prog w = .ok (242, .agg #[.pointer (some ⟨d, 0, none⟩)]) w := by kernel_rfl
theorem m_empty3 (n : Nat) (d : Nat) (w : World) : (method (n + 1) 109 (.agg #[.pointer (some ⟨d, 0, none⟩)]) "pantry/value.empty").run Tryz.prog w = .ok (249, .agg #[.pointer (some ⟨d, 0, none⟩)]) w := by kernel_rfl
theorem m_empty4 (n : Nat) (d : Nat) (w : World) : (method (n + 1) 112 (.agg #[.pointer (some ⟨d, 0, none⟩)]) "pantry/value.empty").run Tryz.prog w = .ok (278, .agg #[.pointer (some ⟨d, 0, none⟩)]) w := by kernel_rfl
theorem m_empty5 (n : Nat) (d : Nat) (w : World) : (method (n + 1) 115 (.agg #[.pointer (some ⟨d, 0, none⟩)]) "pantry/value.empty").run Tryz.prog w = .ok (303, .agg #[.pointer (some ⟨d, 0, none⟩)]) w := by kernel_rfl
theorem m_cost1 (n : Nat) (s : ByteArray) (w : World) : (method (n + 1) 98 (.string s) "Cost").run Tryz.prog w = .ok (236, .string s) w := by kernel_rfl
theorem m_cost2 (n : Nat) (d : Nat) (w : World) : (method (n + 1) 106 (.agg #[.pointer (some ⟨d, 0, none⟩)]) "Cost").run Tryz.prog w = .ok (231, .pointer (some ⟨d, 0, none⟩)) w := by kernel_rfl
theorem m_cost3 (n : Nat) (d : Nat) (w : World) : (method (n + 1) 109 (.agg #[.pointer (some ⟨d, 0, none⟩)]) "Cost").run Tryz.prog w = .ok (233, .pointer (some ⟨d, 0, none⟩)) w := by kernel_rfl
theorem m_cost4 (n : Nat) (d : Nat) (w : World) : (method (n + 1) 112 (.agg #[.pointer (some ⟨d, 0, none⟩)]) "Cost").run Tryz.prog w = .ok (234, .pointer (some ⟨d, 0, none⟩)) w := by kernel_rfl
theorem m_cost5 (n : Nat) (d : Nat) (w : World) : (method (n + 1) 115 (.agg #[.pointer (some ⟨d, 0, none⟩)]) "Cost").run Tryz.prog w = .ok (235, .pointer (some ⟨d, 0, none⟩)) w := by kernel_rfl
theorem costOf_text (cs : List (List Txt)) : costOf cs = textCost cs.flatten := by
  induction cs with
  | nil => rfl
  | cons c cs ih =>
    simp only [costOf, textCost, List.map_cons, List.sum_cons, List.flatten_cons, List.map_append, List.sum_append] at *
    rw [ih]
theorem kind1 (w : World) (s : ByteArray) : Calls Tryz.prog 239 #[.string s] w (QPost w (.int .i64 1)) := by
  go_enter Tryz.func239, Tryz.ntmps239
  go_wp2_with fail
  go_ret
  exact ⟨rfl, by first | exact Below.refl _ _ | exact (Below.refl _ _).alloc (Nat.le_refl _) _⟩
theorem kind2 (w : World) (d : Nat) : Calls Tryz.prog 243 #[.agg #[.pointer (some ⟨d, 0, none⟩)]] w (QPost w (.int .i64 2)) := by
  go_enter Tryz.func243, Tryz.ntmps243
  go_wp2_with fail
  go_ret
  exact ⟨rfl, by first | exact Below.refl _ _ | exact (Below.refl _ _).alloc (Nat.le_refl _) _⟩
theorem kind3 (w : World) (d : Nat) : Calls Tryz.prog 250 #[.agg #[.pointer (some ⟨d, 0, none⟩)]] w (QPost w (.int .i64 3)) := by
  go_enter Tryz.func250, Tryz.ntmps250
  go_wp2_with fail
  go_ret
  exact ⟨rfl, by first | exact Below.refl _ _ | exact (Below.refl _ _).alloc (Nat.le_refl _) _⟩
theorem kind4 (w : World) (d : Nat) : Calls Tryz.prog 279 #[.agg #[.pointer (some ⟨d, 0, none⟩)]] w (QPost w (.int .i64 4)) := by
  go_enter Tryz.func279, Tryz.ntmps279
  go_wp2_with fail
  go_ret
  exact ⟨rfl, by first | exact Below.refl _ _ | exact (Below.refl _ _).alloc (Nat.le_refl _) _⟩
theorem kind5 (w : World) (d : Nat) : Calls Tryz.prog 304 #[.agg #[.pointer (some ⟨d, 0, none⟩)]] w (QPost w (.int .i64 5)) := by
  go_enter Tryz.func304, Tryz.ntmps304
  go_wp2_with fail
  go_ret
  exact ⟨rfl, by first | exact Below.refl _ _ | exact (Below.refl _ _).alloc (Nat.le_refl _) _⟩
theorem empty1 (w : World) (s : ByteArray) : Calls Tryz.prog 238 #[.string s] w (QPost w (.bool false)) := by
  go_enter Tryz.func238, Tryz.ntmps238
  go_wp2_with fail
  go_ret
  exact ⟨rfl, by first | exact Below.refl _ _ | exact (Below.refl _ _).alloc (Nat.le_refl _) _⟩
theorem cost1 (w : World) (s : List UInt8) : Calls Tryz.prog 236 #[.string ⟨s.toArray⟩] w (QPost w (.int .i64 (s.length : Nat))) := by
  go_enter Tryz.func236, Tryz.ntmps236
  go_wp2_with fail
  go_ret
  exact ⟨by simp, Below.refl _ _⟩
theorem empty2 (w : World) (d n : Nat) (hl : ∀ W, Below w.heap.size w W → Calls Tryz.prog 117 #[.pointer (some ⟨d, 0, none⟩)] W fun e w' => e = .returned (.int .i64 (n : Nat)) ∧ W = w') :
    Calls Tryz.prog 242 #[.agg #[.pointer (some ⟨d, 0, none⟩)]] w (QPost w (.bool (decide (n = 0)))) := by
  have hm0 : ((n : Int) == 0) = decide (n = 0) := by
    by_cases h : n = 0
    · subst h; rfl
    · simp [h]
  obtain ⟨m, hm⟩ : ∃ m, decide (n = 0) = m := ⟨_, rfl⟩
  rw [hm] at hm0 ⊢
  have HL := fun o => Lib.hid (hl (w.alloc o) ((Below.refl _ _).alloc (Nat.le_refl _) _))
  clear hl hm
  go_enter Tryz.func242, Tryz.ntmps242
  go_wp2_with (go_at_call 117; refine (HL _).out.mono ?_; rintro e w' ⟨rfl, rfl⟩)
  go_ret
  exact ⟨rfl, (Below.refl _ _).alloc (Nat.le_refl _) _⟩
theorem empty3 (w : World) (d n : Nat) (hl : ∀ W, Below w.heap.size w W → Calls Tryz.prog 118 #[.pointer (some ⟨d, 0, none⟩)] W fun e w' => e = .returned (.int .i64 (n : Nat)) ∧ W = w') :
    Calls Tryz.prog 249 #[.agg #[.pointer (some ⟨d, 0, none⟩)]] w (QPost w (.bool (decide (n = 0)))) := by
  have hm0 : ((n : Int) == 0) = decide (n = 0) := by
    by_cases h : n = 0
    · subst h; rfl
    · simp [h]
  obtain ⟨m, hm⟩ : ∃ m, decide (n = 0) = m := ⟨_, rfl⟩
  rw [hm] at hm0 ⊢
  have HL := fun o => Lib.hid (hl (w.alloc o) ((Below.refl _ _).alloc (Nat.le_refl _) _))
  clear hl hm
  go_enter Tryz.func249, Tryz.ntmps249
  go_wp2_with (go_at_call 118; refine (HL _).out.mono ?_; rintro e w' ⟨rfl, rfl⟩)
  go_ret
  exact ⟨rfl, (Below.refl _ _).alloc (Nat.le_refl _) _⟩
theorem empty4 (w : World) (d n : Nat) (hl : ∀ W, Below w.heap.size w W → Calls Tryz.prog 102 #[.pointer (some ⟨d, 0, none⟩)] W fun e w' => e = .returned (.int .i64 (n : Nat)) ∧ W = w') :
    Calls Tryz.prog 278 #[.agg #[.pointer (some ⟨d, 0, none⟩)]] w (QPost w (.bool (decide (n = 0)))) := by
  have hm0 : ((n : Int) == 0) = decide (n = 0) := by
    by_cases h : n = 0
    · subst h; rfl
    · simp [h]
  obtain ⟨m, hm⟩ : ∃ m, decide (n = 0) = m := ⟨_, rfl⟩
  rw [hm] at hm0 ⊢
  have HL := fun o => Lib.hid (hl (w.alloc o) ((Below.refl _ _).alloc (Nat.le_refl _) _))
  clear hl hm
  go_enter Tryz.func278, Tryz.ntmps278
  go_wp2_with (go_at_call 102; refine (HL _).out.mono ?_; rintro e w' ⟨rfl, rfl⟩)
  go_ret
  exact ⟨rfl, (Below.refl _ _).alloc (Nat.le_refl _) _⟩
theorem empty5 (w : World) (d n : Nat) (hl : ∀ W, Below w.heap.size w W → Calls Tryz.prog 119 #[.pointer (some ⟨d, 0, none⟩)] W fun e w' => e = .returned (.int .i64 (n : Nat)) ∧ W = w') :
    Calls Tryz.prog 303 #[.agg #[.pointer (some ⟨d, 0, none⟩)]] w (QPost w (.bool (decide (n = 0)))) := by
  have hm0 : ((n : Int) == 0) = decide (n = 0) := by
    by_cases h : n = 0
    · subst h; rfl
    · simp [h]
  obtain ⟨m, hm⟩ : ∃ m, decide (n = 0) = m := ⟨_, rfl⟩
  rw [hm] at hm0 ⊢
  have HL := fun o => Lib.hid (hl (w.alloc o) ((Below.refl _ _).alloc (Nat.le_refl _) _))
  clear hl hm
  go_enter Tryz.func303, Tryz.ntmps303
  go_wp2_with (go_at_call 119; refine (HL _).out.mono ?_; rintro e w' ⟨rfl, rfl⟩)
  go_ret
  exact ⟨rfl, (Below.refl _ _).alloc (Nat.le_refl _) _⟩
set_option maxHeartbeats 4000000 in
theorem kind_any {w : World} {v : Nat} {p : PD} (h : ValIs w v p) : Calls Tryz.prog 34 #[.pointer (some ⟨v, 0, none⟩)] w (QPost w (.int .i64 p.kind)) := by
  cases h with
  | text s h =>
    have c0 : w.cell? ⟨v, 0, none⟩ = some (.iface 98 (.string ⟨s.toArray⟩)) := cell_of_row w v 0 _ _ _ h
    have hm := m_kind1
    have HC := Lib.hid (kind1 w ⟨s.toArray⟩)
    clear h
    go_enter Tryz.func34, Tryz.ntmps34
    go_wp2_with (go_at_call 239; refine HC.out.mono ?_; rintro e w' ⟨rfl, hb⟩)
    go_ret
    exact ⟨rfl, hb⟩
  | list d x gs cs h hd hg =>
    have c0 : w.cell? ⟨v, 0, none⟩ = some (.iface 106 (.agg #[.pointer (some ⟨d, 0, none⟩)])) := cell_of_row w v 0 _ _ _ h
    have hm := m_kind2
    have HC := Lib.hid (kind2 w d)
    clear h hd hg
    go_enter Tryz.func34, Tryz.ntmps34
    go_wp2_with (go_at_call 243; refine HC.out.mono ?_; rintro e w' ⟨rfl, hb⟩)
    go_ret
    exact ⟨rfl, hb⟩
  | record d sd dd D l h hr =>
    have c0 : w.cell? ⟨v, 0, none⟩ = some (.iface 109 (.agg #[.pointer (some ⟨d, 0, none⟩)])) := cell_of_row w v 0 _ _ _ h
    have hm := m_kind3
    have HC := Lib.hid (kind3 w d)
    clear h hr
    go_enter Tryz.func34, Tryz.ntmps34
    go_wp2_with (go_at_call 250; refine HC.out.mono ?_; rintro e w' ⟨rfl, hb⟩)
    go_ret
    exact ⟨rfl, hb⟩
  | flock d sd dd D l h hr =>
    have c0 : w.cell? ⟨v, 0, none⟩ = some (.iface 112 (.agg #[.pointer (some ⟨d, 0, none⟩)])) := cell_of_row w v 0 _ _ _ h
    have hm := m_kind4
    have HC := Lib.hid (kind4 w d)
    clear h hr
    go_enter Tryz.func34, Tryz.ntmps34
    go_wp2_with (go_at_call 279; refine HC.out.mono ?_; rintro e w' ⟨rfl, hb⟩)
    go_ret
    exact ⟨rfl, hb⟩
  | ranks d S l h hr =>
    have c0 : w.cell? ⟨v, 0, none⟩ = some (.iface 115 (.agg #[.pointer (some ⟨d, 0, none⟩)])) := cell_of_row w v 0 _ _ _ h
    have hm := m_kind5
    have HC := Lib.hid (kind5 w d)
    clear h hr
    go_enter Tryz.func34, Tryz.ntmps34
    go_wp2_with (go_at_call 304; refine HC.out.mono ?_; rintro e w' ⟨rfl, hb⟩)
    go_ret
    exact ⟨rfl, hb⟩
set_option maxHeartbeats 4000000 in
theorem empty_any {w : World} {v : Nat} {p : PD} (h : ValIs w v p) : Calls Tryz.prog 17 #[.pointer (some ⟨v, 0, none⟩)] w (QPost w (.bool (emptyP p))) := by
  cases h with
  | text s h =>
    rw [show emptyP ⟨1, s, [], [], []⟩ = false from by simp [emptyP]]
    have c0 : w.cell? ⟨v, 0, none⟩ = some (.iface 98 (.string ⟨s.toArray⟩)) := cell_of_row w v 0 _ _ _ h
    have hm := m_empty1
    have HC := Lib.hid (empty1 w ⟨s.toArray⟩)
    clear h
    go_enter Tryz.func17, Tryz.ntmps17
    go_wp2_with (go_at_call 238; refine HC.out.mono ?_; rintro e w' ⟨rfl, hb⟩)
    go_ret
    exact ⟨rfl, hb⟩
  | list d x gs cs h hd hg =>
    rw [show emptyP ⟨2, [], cs.flatten, [], []⟩ = decide (total cs = 0) from by unfold emptyP; simp [total]; rfl]
    obtain ⟨u, hu⟩ : ∃ u, decide (total cs = 0) = u := ⟨_, rfl⟩
    have HE := empty2 w d (total cs) (fun W hb => len_any W d x gs cs (hd.chg (S := fun _ => False) (Chg.of_below hb) fun _ _ e => e))
    rw [hu] at HE ⊢
    clear hu
    have c0 : w.cell? ⟨v, 0, none⟩ = some (.iface 106 (.agg #[.pointer (some ⟨d, 0, none⟩)])) := cell_of_row w v 0 _ _ _ h
    have hm := m_empty2
    have HC := Lib.hid (HE)
    clear HE h hd hg
    go_enter Tryz.func17, Tryz.ntmps17
    go_wp2_with (go_at_call 242; refine HC.out.mono ?_; rintro e w' ⟨rfl, hb⟩)
    go_ret
    exact ⟨rfl, hb⟩
  | record d sd dd D l h hr =>
    rw [show emptyP ⟨3, [], [], sortK l, []⟩ = decide (l.length = 0) from by unfold emptyP; simp [(sortK_perm l).length_eq]]
    obtain ⟨u, hu⟩ : ∃ u, decide (l.length = 0) = u := ⟨_, rfl⟩
    have HE := empty3 w d (l.length) (fun W hb => DStr.rLen_any W d sd dd D l (hr.keep (S := fun _ => False) (Chg.of_below hb) fun _ _ e => e))
    rw [hu] at HE ⊢
    clear hu
    have c0 : w.cell? ⟨v, 0, none⟩ = some (.iface 109 (.agg #[.pointer (some ⟨d, 0, none⟩)])) := cell_of_row w v 0 _ _ _ h
    have hm := m_empty3
    have HC := Lib.hid (HE)
    clear HE h hr
    go_enter Tryz.func17, Tryz.ntmps17
    go_wp2_with (go_at_call 249; refine HC.out.mono ?_; rintro e w' ⟨rfl, hb⟩)
    go_ret
    exact ⟨rfl, hb⟩
  | flock d sd dd D l h hr =>
    rw [show emptyP ⟨4, [], sortT l, [], []⟩ = decide (l.length = 0) from by unfold emptyP; simp [(sortT_perm l).length_eq]]
    obtain ⟨u, hu⟩ : ∃ u, decide (l.length = 0) = u := ⟨_, rfl⟩
    have HE := empty4 w d (l.length) (fun W hb => DUnit.fLen_any W d sd dd D l (hr.keep (S := fun _ => False) (Chg.of_below hb) fun _ _ e => e))
    rw [hu] at HE ⊢
    clear hu
    have c0 : w.cell? ⟨v, 0, none⟩ = some (.iface 112 (.agg #[.pointer (some ⟨d, 0, none⟩)])) := cell_of_row w v 0 _ _ _ h
    have hm := m_empty4
    have HC := Lib.hid (HE)
    clear HE h hr
    go_enter Tryz.func17, Tryz.ntmps17
    go_wp2_with (go_at_call 278; refine HC.out.mono ?_; rintro e w' ⟨rfl, hb⟩)
    go_ret
    exact ⟨rfl, hb⟩
  | ranks d S l h hr =>
    rw [show emptyP ⟨5, [], [], [], l⟩ = decide (l.length = 0) from by unfold emptyP; simp []]
    obtain ⟨u, hu⟩ : ∃ u, decide (l.length = 0) = u := ⟨_, rfl⟩
    have HE := empty5 w d (l.length) (fun W hb => (hr.below hb).len)
    rw [hu] at HE ⊢
    clear hu
    have c0 : w.cell? ⟨v, 0, none⟩ = some (.iface 115 (.agg #[.pointer (some ⟨d, 0, none⟩)])) := cell_of_row w v 0 _ _ _ h
    have hm := m_empty5
    have HC := Lib.hid (HE)
    clear HE h hr
    go_enter Tryz.func17, Tryz.ntmps17
    go_wp2_with (go_at_call 303; refine HC.out.mono ?_; rintro e w' ⟨rfl, hb⟩)
    go_ret
    exact ⟨rfl, hb⟩
set_option maxHeartbeats 4000000 in
theorem vcost_any {w : World} {v : Nat} {p : PD} (h : ValIs w v p) : Calls Tryz.prog 15 #[.pointer (some ⟨v, 0, none⟩)] w (QPost w (.int .i64 (costP p : Nat))) := by
  cases h with
  | text s h =>
    rw [show costP ⟨1, s, [], [], []⟩ = s.length from rfl]
    have HE : Calls Tryz.prog 236 #[.string ⟨s.toArray⟩] w (QPost w (.int .i64 (s.length : Nat))) := cost1 w s
    obtain ⟨u, hu⟩ : ∃ u, s.length = u := ⟨_, rfl⟩
    rw [hu] at HE ⊢
    clear hu
    have c0 : w.cell? ⟨v, 0, none⟩ = some (.iface 98 (.string ⟨s.toArray⟩)) := cell_of_row w v 0 _ _ _ h
    have hm := m_cost1
    have HC := Lib.hid (HE)
    clear HE h
    go_enter Tryz.func15, Tryz.ntmps15
    go_wp2_with (go_at_call 236; refine HC.out.mono ?_; rintro e w' ⟨rfl, hb⟩)
    go_ret
    exact ⟨rfl, hb⟩
  | list d x gs cs h hd hg =>
    rw [show costP ⟨2, [], cs.flatten, [], []⟩ = costOf cs from by rw [costOf_text]; rfl]
    have HE : Calls Tryz.prog 231 #[.pointer (some ⟨d, 0, none⟩)] w (QPost w (.int .i64 (costOf cs : Nat))) := (cost_any w d x gs cs hd).mono (fun e w2 ⟨h1, h2⟩ => ⟨h1, h2 ▸ Below.refl _ _⟩)
    obtain ⟨u, hu⟩ : ∃ u, costOf cs = u := ⟨_, rfl⟩
    rw [hu] at HE ⊢
    clear hu
    have c0 : w.cell? ⟨v, 0, none⟩ = some (.iface 106 (.agg #[.pointer (some ⟨d, 0, none⟩)])) := cell_of_row w v 0 _ _ _ h
    have hm := m_cost2
    have HC := Lib.hid (HE)
    clear HE h hd hg
    go_enter Tryz.func15, Tryz.ntmps15
    go_wp2_with (go_at_call 231; refine HC.out.mono ?_; rintro e w' ⟨rfl, hb⟩)
    go_ret
    exact ⟨rfl, hb⟩
  | record d sd dd D l h hr =>
    rw [show costP ⟨3, [], [], sortK l, []⟩ = recCost l from by show recCost (sortK l) = _; exact recCost_perm (sortK_perm l)]
    have HE : Calls Tryz.prog 233 #[.pointer (some ⟨d, 0, none⟩)] w (QPost w (.int .i64 (recCost l : Nat))) := (DStr.rCost_any w d sd dd D l hr).mono (fun e w2 ⟨h1, h2⟩ => ⟨h1, h2 ▸ Below.refl _ _⟩)
    obtain ⟨u, hu⟩ : ∃ u, recCost l = u := ⟨_, rfl⟩
    rw [hu] at HE ⊢
    clear hu
    have c0 : w.cell? ⟨v, 0, none⟩ = some (.iface 109 (.agg #[.pointer (some ⟨d, 0, none⟩)])) := cell_of_row w v 0 _ _ _ h
    have hm := m_cost3
    have HC := Lib.hid (HE)
    clear HE h hr
    go_enter Tryz.func15, Tryz.ntmps15
    go_wp2_with (go_at_call 233; refine HC.out.mono ?_; rintro e w' ⟨rfl, hb⟩)
    go_ret
    exact ⟨rfl, hb⟩
  | flock d sd dd D l h hr =>
    rw [show costP ⟨4, [], sortT l, [], []⟩ = flkCost l from by show flkCost (sortT l) = _; exact flkCost_perm (sortT_perm l)]
    have HE : Calls Tryz.prog 234 #[.pointer (some ⟨d, 0, none⟩)] w (QPost w (.int .i64 (flkCost l : Nat))) := (DUnit.fCost_any w d sd dd D l hr).mono (fun e w2 ⟨h1, h2⟩ => ⟨h1, h2 ▸ Below.refl _ _⟩)
    obtain ⟨u, hu⟩ : ∃ u, flkCost l = u := ⟨_, rfl⟩
    rw [hu] at HE ⊢
    clear hu
    have c0 : w.cell? ⟨v, 0, none⟩ = some (.iface 112 (.agg #[.pointer (some ⟨d, 0, none⟩)])) := cell_of_row w v 0 _ _ _ h
    have hm := m_cost4
    have HC := Lib.hid (HE)
    clear HE h hr
    go_enter Tryz.func15, Tryz.ntmps15
    go_wp2_with (go_at_call 234; refine HC.out.mono ?_; rintro e w' ⟨rfl, hb⟩)
    go_ret
    exact ⟨rfl, hb⟩
  | ranks d S l h hr =>
    rw [show costP ⟨5, [], [], [], l⟩ = rkCost l from rfl]
    have HE : Calls Tryz.prog 235 #[.pointer (some ⟨d, 0, none⟩)] w (QPost w (.int .i64 (rkCost l : Nat))) := hr.cost.mono (fun e w2 ⟨h1, h2⟩ => ⟨h1, h2 ▸ Below.refl _ _⟩)
    obtain ⟨u, hu⟩ : ∃ u, rkCost l = u := ⟨_, rfl⟩
    rw [hu] at HE ⊢
    clear hu
    have c0 : w.cell? ⟨v, 0, none⟩ = some (.iface 115 (.agg #[.pointer (some ⟨d, 0, none⟩)])) := cell_of_row w v 0 _ _ _ h
    have hm := m_cost5
    have HC := Lib.hid (HE)
    clear HE h hr
    go_enter Tryz.func15, Tryz.ntmps15
    go_wp2_with (go_at_call 235; refine HC.out.mono ?_; rintro e w' ⟨rfl, hb⟩)
    go_ret
    exact ⟨rfl, hb⟩
end Go.Proofs.YtipehdbpbmnonaaGreat
