/- ValueNone: no value. A closed statement. -/
import Derived.Test.YtfinndpopdbfiaaGreatRows
import Derived.WalkKit
import Derived.WalkSpells
import Derived.WalkLawsBesides
import Derived.Laws.Externs
import Derived.Lib.Hide
import Derived.ProofKit
namespace Go.Proofs.YtfinndpopdbfiaaGreat.valueNone
open Go.RowKit
open Go.ChangeShapes Go.WideShapes Go.ChangeAt

theorem in_nil (w : World) : Calls Tryz.prog 17 #[.pointer none] w fun e w' => e = .returned .nilIface ∧ w = w' := by
  go_enter Tryz.func17, Tryz.ntmps17
  go_wp2
  go_ret
  exact ⟨rfl, rfl⟩
theorem as50 (w : World) : (Instr.typeAssert .nilIface 53 50 true).run Tryz.prog w = .ok (.tuple #[.string ⟨#[]⟩, .bool false]) w := by kernel_rfl
theorem as56 (w : World) : (Instr.typeAssert .nilIface 53 56 true).run Tryz.prog w = .ok (.tuple #[.agg #[.pointer none], .bool false]) w := by kernel_rfl
theorem as59 (w : World) : (Instr.typeAssert .nilIface 53 59 true).run Tryz.prog w = .ok (.tuple #[.agg #[.pointer none], .bool false]) w := by kernel_rfl
theorem as62 (w : World) : (Instr.typeAssert .nilIface 53 62 true).run Tryz.prog w = .ok (.tuple #[.agg #[.pointer none], .bool false]) w := by kernel_rfl
theorem as65 (w : World) : (Instr.typeAssert .nilIface 53 65 true).run Tryz.prog w = .ok (.tuple #[.agg #[.pointer none], .bool false]) w := by kernel_rfl

theorem asText (w : World) : Calls Tryz.prog 4 #[.pointer none] w fun e w' => e = .returned (.tuple #[.string ⟨#[]⟩, .bool false]) ∧ w = w' := by
  have h1 := as50
  go_enter Tryz.func4, Tryz.ntmps4
  go_wp2_with (go_at_call 17; refine (in_nil _).mono ?_; rintro e w' ⟨rfl, rfl⟩)
  go_ret2
  exact ⟨rfl, rfl⟩
theorem asList (w : World) : Calls Tryz.prog 5 #[.pointer none] w fun e w' => e = .returned (.tuple #[.pointer none, .bool false]) ∧ Below w.heap.size w w' := by
  have h1 := as56
  go_enter Tryz.func5, Tryz.ntmps5
  go_wp2_with (go_at_call 17; refine (in_nil _).mono ?_; rintro e w' ⟨rfl, rfl⟩)
  go_ret2
  exact ⟨rfl, (Below.refl _ _).alloc (Nat.le_refl _) _⟩
theorem asRecord (w : World) : Calls Tryz.prog 6 #[.pointer none] w fun e w' => e = .returned (.tuple #[.pointer none, .bool false]) ∧ Below w.heap.size w w' := by
  have h1 := as59
  go_enter Tryz.func6, Tryz.ntmps6
  go_wp2_with (go_at_call 17; refine (in_nil _).mono ?_; rintro e w' ⟨rfl, rfl⟩)
  go_ret2
  exact ⟨rfl, (Below.refl _ _).alloc (Nat.le_refl _) _⟩
theorem asFlock (w : World) : Calls Tryz.prog 7 #[.pointer none] w fun e w' => e = .returned (.tuple #[.pointer none, .bool false]) ∧ Below w.heap.size w w' := by
  have h1 := as62
  go_enter Tryz.func7, Tryz.ntmps7
  go_wp2_with (go_at_call 17; refine (in_nil _).mono ?_; rintro e w' ⟨rfl, rfl⟩)
  go_ret2
  exact ⟨rfl, (Below.refl _ _).alloc (Nat.le_refl _) _⟩
theorem asRanks (w : World) : Calls Tryz.prog 8 #[.pointer none] w fun e w' => e = .returned (.tuple #[.pointer none, .bool false]) ∧ Below w.heap.size w w' := by
  have h1 := as65
  go_enter Tryz.func8, Tryz.ntmps8
  go_wp2_with (go_at_call 17; refine (in_nil _).mono ?_; rintro e w' ⟨rfl, rfl⟩)
  go_ret2
  exact ⟨rfl, (Below.refl _ _).alloc (Nat.le_refl _) _⟩
theorem kind_nil (w : World) : Calls Tryz.prog 9 #[.pointer none] w fun e w' => e = .returned (.int .i64 0) ∧ w = w' := by
  go_enter Tryz.func9, Tryz.ntmps9
  go_wp2
  go_ret
  exact ⟨rfl, rfl⟩
theorem empty_nil (w : World) : Calls Tryz.prog 10 #[.pointer none] w fun e w' => e = .returned (.bool false) ∧ w = w' := by
  go_enter Tryz.func10, Tryz.ntmps10
  go_wp2
  go_ret
  exact ⟨rfl, rfl⟩
theorem cost_nil (w : World) : Calls Tryz.prog 11 #[.pointer none] w fun e w' => e = .returned (.int .i64 0) ∧ w = w' := by
  go_enter Tryz.func11, Tryz.ntmps11
  go_wp2
  go_ret
  exact ⟨rfl, rfl⟩
theorem copy_nil (w : World) : Calls Tryz.prog 12 #[.pointer none] w fun e w' => e = .returned (.pointer none) ∧ w = w' := by
  go_enter Tryz.func12, Tryz.ntmps12
  go_wp2
  go_ret
  exact ⟨rfl, rfl⟩
theorem plain_nil (w : World) : Calls Tryz.prog 14 #[.pointer none] w fun e w' => e = .returned (.agg #[.int .i64 0, .string ⟨#[]⟩, .slice none 0 0, .slice none 0 0, .slice none 0 0]) ∧ Below w.heap.size w w' := by
  go_enter Tryz.func14, Tryz.ntmps14
  go_wp2
  exact bodyPost_ret (v := .agg #[.int .i64 0, .string ⟨#[]⟩, .slice none 0 0, .slice none 0 0, .slice none 0 0]) (by simp [results, Tryz.results14, go_sem]) rfl ⟨rfl, ((Below.refl _ _).alloc (Nat.le_refl _) _).alloc (by simp) _⟩
theorem text_any (w : World) : Calls Tryz.prog 15 #[.string ⟨#[]⟩] w fun e w' => e = .returned (.pointer (some ⟨w.heap.size, 0, none⟩)) ∧ w' = w.alloc (.cells #[.iface 50 (.string ⟨#[]⟩)] 68) := by
  go_enter Tryz.func15, Tryz.ntmps15
  go_wp2
  go_ret
  exact ⟨rfl, rfl⟩
theorem new_any (w : World) : Calls Tryz.prog 20 #[] w fun e w' => e = .returned (.pointer (some ⟨w.heap.size, 0, none⟩)) ∧ w' = w.alloc (.cells #[.slice none 0 0, .int .i64 0, .int .i64 0] 83) := by
  go_enter Tryz.func20, Tryz.ntmps20
  go_wp2
  go_ret
  exact ⟨rfl, rfl⟩
theorem list_any (w : World) : Calls Tryz.prog 16 #[.pointer none] w fun e w' => e = .returned (.pointer (some ⟨w.heap.size + 1, 0, none⟩)) ∧ w' = (w.alloc (.cells #[.slice none 0 0, .int .i64 0, .int .i64 0] 83)).alloc (.cells #[.iface 56 (.agg #[.pointer (some ⟨w.heap.size, 0, none⟩)])] 68) := by
  go_enter Tryz.func16, Tryz.ntmps16
  go_wp2_with (go_at_call 20; refine (new_any _).mono ?_; rintro e w' ⟨rfl, rfl⟩)
  go_ret
  exact ⟨rfl, rfl⟩
theorem m_kind (w : World) : (method 336 50 (.string ⟨#[]⟩) "pantry/value.kind").run Tryz.prog w = .ok (45, .string ⟨#[]⟩) w := by kernel_rfl
theorem m_empty (w : World) : (method 336 50 (.string ⟨#[]⟩) "pantry/value.empty").run Tryz.prog w = .ok (44, .string ⟨#[]⟩) w := by kernel_rfl
theorem m_emptyl (d : Nat) (w : World) : (method 336 56 (.agg #[.pointer (some ⟨d, 0, none⟩)]) "pantry/value.empty").run Tryz.prog w = .ok (48, .agg #[.pointer (some ⟨d, 0, none⟩)]) w := by kernel_rfl
theorem tkind (w : World) : Calls Tryz.prog 45 #[.string ⟨#[]⟩] w fun e w' => e = .returned (.int .i64 1) ∧ w = w' := by
  go_enter Tryz.func45, Tryz.ntmps45
  go_wp2
  go_ret
  exact ⟨rfl, rfl⟩
theorem tempty (w : World) : Calls Tryz.prog 44 #[.string ⟨#[]⟩] w fun e w' => e = .returned (.bool false) ∧ w = w' := by
  go_enter Tryz.func44, Tryz.ntmps44
  go_wp2
  go_ret
  exact ⟨rfl, rfl⟩
theorem len_any (d : Nat) (w : World) (h1 : w.cell? ⟨d, 1, none⟩ = some (.int .i64 0)) : Calls Tryz.prog 52 #[.pointer (some ⟨d, 0, none⟩)] w fun e w' => e = .returned (.int .i64 0) ∧ w = w' := by
  go_enter Tryz.func52, Tryz.ntmps52
  go_wp2
  go_ret
  exact ⟨rfl, rfl⟩
theorem lempty (d : Nat) (w : World) (h1 : w.cell? ⟨d, 1, none⟩ = some (.int .i64 0)) : Calls Tryz.prog 48 #[.agg #[.pointer (some ⟨d, 0, none⟩)]] w fun e w' => e = .returned (.bool true) ∧ Below w.heap.size w w' := by
  have h2 := cell_later ((Below.refl w.heap.size w).alloc (Nat.le_refl _) (.cells #[.pointer (some ⟨d, 0, none⟩)] 56)) h1
  go_enter Tryz.func48, Tryz.ntmps48
  go_wp2_with (go_at_call 52; refine (len_any d _ h2).mono ?_; rintro e w' ⟨rfl, rfl⟩)
  go_ret
  exact ⟨rfl, (Below.refl _ _).alloc (Nat.le_refl _) _⟩
theorem kind_text (a : Nat) (w : World) (h : w.cell? ⟨a, 0, none⟩ = some (.iface 50 (.string ⟨#[]⟩))) : Calls Tryz.prog 9 #[.pointer (some ⟨a, 0, none⟩)] w fun e w' => e = .returned (.int .i64 1) ∧ w = w' := by
  have hm := m_kind
  go_enter Tryz.func9, Tryz.ntmps9
  go_wp2_with (go_at_call 45; refine (tkind _).mono ?_; rintro e w' ⟨rfl, rfl⟩)
  go_ret
  exact ⟨rfl, rfl⟩
theorem empty_text (a : Nat) (w : World) (h : w.cell? ⟨a, 0, none⟩ = some (.iface 50 (.string ⟨#[]⟩))) : Calls Tryz.prog 10 #[.pointer (some ⟨a, 0, none⟩)] w fun e w' => e = .returned (.bool false) ∧ w = w' := by
  have hm := m_empty
  go_enter Tryz.func10, Tryz.ntmps10
  go_wp2_with (go_at_call 44; refine (tempty _).mono ?_; rintro e w' ⟨rfl, rfl⟩)
  go_ret
  exact ⟨rfl, rfl⟩
theorem empty_list (a d : Nat) (w : World) (h : w.cell? ⟨a, 0, none⟩ = some (.iface 56 (.agg #[.pointer (some ⟨d, 0, none⟩)]))) (h1 : w.cell? ⟨d, 1, none⟩ = some (.int .i64 0)) : Calls Tryz.prog 10 #[.pointer (some ⟨a, 0, none⟩)] w fun e w' => e = .returned (.bool true) ∧ Below w.heap.size w w' := by
  have hm := m_emptyl
  go_enter Tryz.func10, Tryz.ntmps10
  go_wp2_with (go_at_call 48; refine (lempty d _ h1).mono ?_; rintro e w' ⟨rfl, hb⟩)
  go_ret
  exact ⟨rfl, hb⟩
theorem texts_nil (w : World) : Calls Tryz.prog 18 #[.slice none 0 0, .slice none 0 0] w fun e w' => e = .returned (.bool true) ∧ w = w' := by
  go_enter Tryz.func18, Tryz.ntmps18
  go_wp2_with fail
  go_loop [5] (fun i => i = .int .i64 0) (fun _ => 0)
  case atStart => rfl
  case round =>
    subst hrel
    go_wp2_with fail
    go_ret
    exact ⟨rfl, rfl⟩
abbrev zeroP : Value := .agg #[.int .i64 0, .string ⟨#[]⟩, .slice none 0 0, .slice none 0 0, .slice none 0 0]
theorem zero_any (w : World) : Calls Tryz.prog 13 #[.agg #[.int .i64 0, .string ⟨#[]⟩, .slice none 0 0, .slice none 0 0, .slice none 0 0], .agg #[.int .i64 0, .string ⟨#[]⟩, .slice none 0 0, .slice none 0 0, .slice none 0 0]] w fun e w' => e = .returned (.bool true) ∧ Below w.heap.size w w' := by
  go_enter Tryz.func13, Tryz.ntmps13
  go_wp2_with (go_at_call 18; refine (texts_nil _).mono ?_; rintro e w' ⟨rfl, rfl⟩)
  go_loop [5] (fun i => i = .int .i64 0) (fun _ => 0)
  case atStart => rfl
  case round =>
    subst hrel
    go_wp2_with fail
    go_loop [6] (fun i => i = .int .i64 0) (fun _ => 0)
    case atStart => rfl
    case round =>
      subst hrel
      go_wp2_with fail
      go_ret
      exact ⟨rfl, ((Below.refl _ _).alloc (Nat.le_refl _) _).alloc (by simp) _⟩

theorem below_step {A W V : World} (h2 : Below W.heap.size W V) (h1 : Below A.heap.size A W) : Below A.heap.size A V := h1.trans (h2.mono h1.size)

set_option maxHeartbeats 4000000 in
set_option maxRecDepth 100000 in
theorem walk (w : World) : Calls Tryz.prog 3 #[] w fun e w' => e = .returned (.bool true) ∧ Below w.heap.size w w' := by
  go_enter Tryz.func3, Tryz.ntmps3
  go_wp2_with (first
    | (go_at_call 4; refine (asText _).mono ?_; rintro e w' ⟨rfl, rfl⟩)
    | (go_at_call 5; refine (asList _).mono ?_; rintro e w1 ⟨rfl, hb1⟩)
    | (go_at_call 6; refine (asRecord _).mono ?_; rintro e w2 ⟨rfl, hb2⟩)
    | (go_at_call 7; refine (asFlock _).mono ?_; rintro e w3 ⟨rfl, hb3⟩)
    | (go_at_call 8; refine (asRanks _).mono ?_; rintro e w4 ⟨rfl, hb4⟩))
  have HB := Lib.hid (below_step hb4 (below_step hb3 (below_step hb2 hb1)))
  clear hb1 hb2 hb3 hb4
  refine (kind_nil _).mono ?_
  rintro e w' ⟨rfl, rfl⟩
  go_wp2_with (first
    | (go_at_call 10; refine (empty_nil _).mono ?_; rintro e w' ⟨rfl, rfl⟩)
    | (go_at_call 11; refine (cost_nil _).mono ?_; rintro e w' ⟨rfl, rfl⟩)
    | (go_at_call 12; refine (copy_nil _).mono ?_; rintro e w' ⟨rfl, rfl⟩)
    | (go_at_call 14; refine (plain_nil _).mono ?_; rintro e w5 ⟨rfl, hb5⟩)
    | (go_at_call 13; refine (zero_any _).mono ?_; rintro e w6 ⟨rfl, hb6⟩)
    | (go_at_call 15; refine (text_any _).mono ?_; rintro e w' ⟨rfl, rfl⟩))
  have HB6 := Lib.hid (below_step hb6 (below_step hb5 HB.out))
  clear hb5 hb6
  refine (kind_text _ _ (cell_of_row _ _ 0 _ _ _ (heap_alloc_new w6 _))).mono ?_
  rintro e w' ⟨rfl, rfl⟩
  go_wp2_with (go_at_call 15; refine (text_any _).mono ?_; rintro e w' ⟨rfl, rfl⟩)
  obtain ⟨w7, hw7⟩ : ∃ x, w6.alloc (.cells #[.iface 50 (.string ⟨#[]⟩)] 68) = x := ⟨_, rfl⟩
  have HB7 := Lib.hid (show Below w.heap.size w w7 by rw [← hw7]; exact HB6.out.alloc HB6.out.size _)
  have hs7 : w6.heap.size + 1 = w7.heap.size := by rw [← hw7]; simp
  rw [hw7, hs7]
  clear hw7 hs7
  refine (empty_text _ _ (cell_of_row _ _ 0 _ _ _ (heap_alloc_new w7 _))).mono ?_
  rintro e w' ⟨rfl, rfl⟩
  go_wp2_with (go_at_call 16; refine (list_any _).mono ?_; rintro e w' ⟨rfl, rfl⟩)
  obtain ⟨w8, hw8⟩ : ∃ x, w7.alloc (.cells #[.iface 50 (.string ⟨#[]⟩)] 68) = x := ⟨_, rfl⟩
  have HB8 := Lib.hid (show Below w.heap.size w w8 by rw [← hw8]; exact HB7.out.alloc HB7.out.size _)
  have hs8 : w7.heap.size + 1 = w8.heap.size := by rw [← hw8]; simp
  rw [hw8, hs8]
  clear hw8 hs8
  obtain ⟨w9, hw9⟩ : ∃ x, w8.alloc (.cells #[.slice none 0 0, .int .i64 0, .int .i64 0] 83) = x := ⟨_, rfl⟩
  have HB9 := Lib.hid (show Below w.heap.size w w9 by rw [← hw9]; exact HB8.out.alloc HB8.out.size _)
  have hs9 : w8.heap.size + 1 = w9.heap.size := by rw [← hw9]; simp
  have hc9 : w9.cell? ⟨w8.heap.size, 1, none⟩ = some (.int .i64 0) := by rw [← hw9]; exact cell_of_row _ _ 1 _ _ _ (heap_alloc_new w8 _)
  rw [hw9, hs9]
  clear hw9 hs9
  have hc10 := cell_later ((Below.refl w9.heap.size w9).alloc (Nat.le_refl _) (.cells #[.iface 56 (.agg #[.pointer (some ⟨w8.heap.size, 0, none⟩)])] 68)) hc9
  have HC := Lib.hid hc10
  clear hc9 hc10
  refine (empty_list _ w8.heap.size _ (cell_of_row _ _ 0 _ _ _ (heap_alloc_new w9 _)) HC.out).mono ?_
  rintro e w10 ⟨rfl, hb10⟩
  have HB10 := Lib.hid (below_step hb10 (HB9.out.alloc HB9.out.size _))
  clear hb10
  go_wp2_with fail
  go_ret
  exact ⟨rfl, HB10.out⟩
set_option linter.unusedVariables false

theorem own : ownKnob Tryz.prog.godebug = none := by kernel_rfl
theorem laidOut : laidOutB Tryz.prog = true := by kernel_rfl

set_option maxRecDepth 100000 in
theorem lifted (os : Os) (started : os.Started) (H : Type) (enc : TypeId × Value → H) :
    ReturnsInHanded {} Tryz.checked os 3 .any (Rows.valueNoneSpec.pre6 enc Tryz.prog Tryz.f3 Rows.valueNoneRow.domain false) (Rows.valueNoneSpec.post enc Tryz.prog Tryz.f3 false true false false) := by
  refine returnsInHanded_of_change_sized (C := Tryz.checked) own started (by kernel_rfl) Tryz.func3
    (ChangeSpec.witness6 (enc := enc) (C := Tryz.checked) false ⟨#[], #[], []⟩ 8 (by kernel_rfl) (by kernel_rfl) (by kernel_rfl) (by kernel_rfl)) ?_
  intro W base args ds gs before hval0 hW hcnd hsz _
  have hW' := hW
  obtain ⟨p, q, hA0, hV, rfl, hfz, hnd⟩ := hW
  have hA : DataW.TrodAll enc Tryz.prog W 0 (fun _ => true) true Tryz.f3.params.toList args.toList ds p := hA0
  rw [Tryz.params3] at hA
  obtain ⟨hargs, rfl, rfl⟩ := trodAll_nil hA
  obtain rfl : args = #[] := by cases args; simp_all
  obtain ⟨rfl, rfl⟩ := trodVars_none hV
  clear hA0 hval0 hsz
  refine (walk W).mono fun e W' ⟨he, bel⟩ => ?_
  subst he
  exact ⟨_, rfl, _, _, _, [], _, [], hW', trodAll_mk1 (shut_bool Tryz.underlying4 _), trodAll_mk0, rfl, bel.frame _, fun h => by cases h⟩

theorem over : Rows.valueNoneRow.holds Tryz.pinned (OpenSpec.ofChange Rows.valueNoneSpec) :=
  OpenClaim.holds_of_wide 3 Tryz.f3 rfl rfl rfl rfl rfl rfl rfl ⟨rfl, rfl, rfl, rfl, rfl⟩ rfl rfl rfl rfl rfl (by kernel_rfl) Tryz.func3 (by kernel_rfl)
    (of_decide_eq_true (by kernel_rfl)) (by unfold Func.isWrapper; first | (rw [if_pos (by decide +kernel)]; kernel_rfl) | (rw [if_neg (by decide +kernel)]; exact ⟨rfl, rfl⟩))
    (fun os started H enc _ => lifted os started H enc)

theorem proved : Rows.ValueNoneSaid := over
#print axioms proved

end Go.Proofs.YtfinndpopdbfiaaGreat.valueNone
