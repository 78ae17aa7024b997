
import Derived.Test.YteiklgbjjmlmaaaGreatZSnOut
import Derived.Test.YteiklgbjjmlmaaaGreatZOpenWords
import Derived.Test.YteiklgbjjmlmaaaGreatChecked
import Derived.Test.YteiklgbjjmlmaaaGreatRows

namespace Go.Proofs.YteiklgbjjmlmaaaGreat.snapshotKnown
open Go Go.Proofs Go.Proofs.YteiklgbjjmlmaaaGreat Go.RowKit Go.ChangeShapes Go.WideShapes Go.ChangeAt Pantry

theorem walk (w : World) : Calls Tryz.prog 8 #[] w (SamePost true w) := known_any w
set_option linter.unusedVariables false

theorem own : ownKnob Tryz.prog.godebug = none := by kernel_rfl
set_option maxRecDepth 100000 in
theorem lifted (os : Os) (started : os.Started) (H : Type) (enc : TypeId × Value → H) :
    ReturnsInHanded {} Tryz.checked os 8 .any (Rows.snapshotKnownSpec.pre6 enc Tryz.prog Tryz.f8 Rows.snapshotKnownRow.domain false) (Rows.snapshotKnownSpec.post enc Tryz.prog Tryz.f8 false true false false) := by
  refine returnsInHanded_of_change_sized (C := Tryz.checked) own started (by kernel_rfl) Tryz.func8
    (ChangeSpec.witness6 (enc := enc) (C := Tryz.checked) false ⟨#[], #[], []⟩ 8 (by kernel_rfl) (by kernel_rfl) (by kernel_rfl) (by kernel_rfl)) ?_
  intro W base args ds gs before hval0 hW hcnd hsz _
  have hW' := hW
  obtain ⟨p, q, hA0, hV, rfl, hfz, hnd⟩ := hW
  have hA : DataW.TrodAll enc Tryz.prog W 0 (fun _ => true) true Tryz.f8.params.toList args.toList ds p := hA0
  rw [Tryz.params8] at hA
  obtain ⟨hargs, rfl, rfl⟩ := trodAll_nil hA
  obtain rfl : args = #[] := by cases args; simp_all
  obtain ⟨rfl, rfl⟩ := trodVars_none hV
  clear hA0 hval0 hsz
  refine (walk W).mono fun e W' ⟨he, bel⟩ => ?_
  subst he
  exact ⟨_, rfl, _, _, _, [], _, [], hW', trodAll_mk1 (shut_bool Tryz.underlying4 _), trodAll_mk0, rfl, bel.frame _, fun h => by cases h⟩

theorem over : Rows.snapshotKnownRow.holds Tryz.pinned (OpenSpec.ofChange Rows.snapshotKnownSpec) :=
  OpenClaim.holds_of_wide 8 Tryz.f8 rfl rfl rfl rfl rfl rfl rfl ⟨rfl, rfl, rfl, rfl, rfl⟩ rfl rfl rfl rfl rfl (by kernel_rfl) Tryz.func8 (by kernel_rfl)
    (of_decide_eq_true (by kernel_rfl)) (by unfold Func.isWrapper; first | (rw [if_pos (by decide +kernel)]; kernel_rfl) | (rw [if_neg (by decide +kernel)]; exact ⟨rfl, rfl⟩))
    (fun os started H enc _ => lifted os started H enc)

theorem proved : Rows.SnapshotKnownSaid := over
#print axioms proved

end Go.Proofs.YteiklgbjjmlmaaaGreat.snapshotKnown
