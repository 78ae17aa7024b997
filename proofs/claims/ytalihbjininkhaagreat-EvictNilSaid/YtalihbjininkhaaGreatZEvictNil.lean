/- Any config, any draws: where the space, the pool or the source is missing, Round does nothing and Enforce answers ErrNil; and a space that is too full loses its only key. -/
import Derived.Test.YtalihbjininkhaaGreatZOpenCfg
import Derived.Test.YtalihbjininkhaaGreatZOpenWords
import Derived.Test.YtalihbjininkhaaGreatChecked
import Derived.Test.YtalihbjininkhaaGreatRows
import Derived.Deep.Slices
namespace Go.Proofs.YtalihbjininkhaaGreat.evictNil
open Go Go.Proofs Go.Proofs.YtalihbjininkhaaGreat Go.Proofs.YtalihbjininkhaaGreat.DEnt Go.RowKit Go.ChangeShapes Go.WideShapes Go.ChangeAt Pantry
set_option linter.unusedVariables false

theorem own : ownKnob Tryz.prog.godebug = none := by kernel_rfl
theorem laidOut : laidOutB Tryz.prog = true := by kernel_rfl

set_option maxRecDepth 100000 in
theorem lifted (os : Os) (started : os.Started) (H : Type) (enc : TypeId × Value → H) :
    ReturnsInHanded {} Tryz.checked os 3 .any (Rows.evictNilSpec.pre6 enc Tryz.prog Tryz.f3 Rows.evictNilRow.domain false) (Rows.evictNilSpec.post enc Tryz.prog Tryz.f3 false true false false) := by
  refine returnsInHanded_of_change_sized (C := Tryz.checked) own started (by kernel_rfl) Tryz.func3
    (ChangeSpec.witness6 (enc := enc) (C := Tryz.checked) false ⟨#[], #[.int .i64 0, .agg #[.int .u64 0, .int .i64 0, .int .i64 0, .int .i64 0], .slice none 0 0], []⟩ 8 (by kernel_rfl) (by kernel_rfl) (by kernel_rfl) (by kernel_rfl)) ?_
  intro W base args ds gs before hval0 hW hcnd hsz _
  have hval : ∀ (j : Nat) t v, Tryz.f3.params[j]? = some t → args[j]? = some v → Value.okWide Tryz.prog W .any base t v := hval0
  have hW' := hW
  obtain ⟨p, q, hA0, hV, rfl, hfz, hnd⟩ := hW
  have hA : DataW.TrodAll enc Tryz.prog W 0 (fun _ => true) true Tryz.f3.params.toList args.toList ds p := hA0
  rw [Tryz.params3] at hA hval hsz
  obtain ⟨v0, vs0, d0, ds0, p0, q0, hargs, rfl, rfl, h0, r0⟩ := trodAll_cons hA
  obtain ⟨v1, vs1, d1, ds1, p1, q1, rfl, rfl, rfl, h1, r1⟩ := trodAll_cons r0
  obtain ⟨v2, vs2, d2, ds2, p2, q2, rfl, rfl, rfl, h2, r2⟩ := trodAll_cons r1
  obtain ⟨rfl, rfl, rfl⟩ := trodAll_nil r2
  obtain rfl : args = #[v0, v1, v2] := by cases args; simp_all
  obtain ⟨rfl, rfl⟩ := trodVars_none hV
  obtain ⟨n0, rfl, -, -, hw0⟩ := open_int Tryz.underlying3 (hval 0 3 v0 rfl rfl) h0
  have hn0 := wf_i64 hw0
  obtain ⟨cs1, rfl, -⟩ := okWide_struct Tryz.underlying24 (hval 1 24 v1 rfl rfl)
  obtain ⟨a2, len2, cap2, rfl⟩ := okWide_slice Tryz.underlying25 (hval 2 25 v2 rfl rfl)
  have k0 := h0
  have lt0 : ∀ x ∈ p0, x.block < W.heap.size := by obtain ⟨m, hm⟩ := k0; exact DataW.trod_lt m _ _ _ hm
  have k1 := h1
  have lt1 : ∀ x ∈ p1, x.block < W.heap.size := by obtain ⟨m, hm⟩ := k1; exact DataW.trod_lt m _ _ _ hm
  have k2 := h2
  have lt2 : ∀ x ∈ p2, x.block < W.heap.size := by obtain ⟨m, hm⟩ := k2; exact DataW.trod_lt m _ _ _ hm
  obtain ⟨c1, hcs1, hok1⟩ : ∃ c : Cfg, cs1.toList = cfgL c ∧ CfgOk c := by
    obtain ⟨fuel, hf⟩ := h1
    exact open_cfg hf
  have hcv1 : cs1 = (cfgL c1).toArray := by
    have := congrArg List.toArray hcs1
    simpa using this
  subst hcv1
  obtain ⟨l2, hl2, hr2, hn2, hx2⟩ : ∃ l : List Nat, l.length = len2 ∧ Rd W a2 (u64R l) ∧ len2 ≤ 17592186044416 ∧ ∀ x ∈ l, x < 18446744073709551616 := by
    obtain ⟨fuel, hf⟩ := h2
    exact open_u64s hf (reach_arg (j := 2) hsz rfl rfl)
  clear hA0 hval0 hsz
  refine (eNil_any W n0 c1 a2 len2 cap2 l2 hok1.seed hok1.most hl2 hr2 hn2).mono fun e W' ⟨he, bel⟩ => ?_
  subst he
  exact ⟨_, rfl, _, _, _, [], _, [], hW', trodAll_mk1 (shut_bool Tryz.underlying4 _), (trodAll_cons_mk (Below.trod laidOut (by kernel_rfl) (of_decide_eq_true (by kernel_rfl)) k0 bel lt0) (trodAll_cons_mk (Below.trod laidOut (by kernel_rfl) (of_decide_eq_true (by kernel_rfl)) k1 bel lt1) (trodAll_cons_mk (Below.trod laidOut (by kernel_rfl) (of_decide_eq_true (by kernel_rfl)) k2 bel lt2) trodAll_mk0))), rfl, bel.frame _, fun h => by cases h⟩

theorem and_mk {a b : Bool} (h : a = true) (k : b = true) : (a && b) = true := by rw [h, k]; rfl
set_option maxHeartbeats 4000000 in
theorem facts : joinedFacts Tryz.pinned.checked.prog 3 Tryz.f3 Rows.evictNilSpec Rows.evictNilRow = true := by
  unfold joinedFacts
  repeat' with_reducible apply and_mk
  all_goals (as_aux_lemma => kernel_rfl)
theorem hinst : Tryz.f3.isInstance Tryz.pinned.checked.prog Rows.evictNilRow.origin Rows.evictNilRow.targs := of_decide_eq_true (by kernel_rfl)
theorem hwrap : Tryz.f3.isWrapper Tryz.pinned.checked.prog Rows.evictNilRow.wrapper Rows.evictNilRow.mainSum := by
  unfold Func.isWrapper
  first | (rw [if_pos (by decide +kernel)]; kernel_rfl) | (rw [if_neg (by decide +kernel)]; exact ⟨rfl, rfl⟩)
theorem hname : Tryz.pinned.checked.prog.funcNamed Rows.evictNilRow.func = some 3 := by kernel_rfl
theorem over : Rows.evictNilRow.holds Tryz.pinned (OpenSpec.ofChange Rows.evictNilSpec) :=
  OpenClaim.holds_of_wide 3 Tryz.f3 rfl rfl rfl rfl rfl rfl rfl ⟨rfl, rfl, rfl, rfl, rfl⟩ rfl rfl rfl rfl rfl hname Tryz.func3 facts hinst hwrap
    (fun os started H enc _ => lifted os started H enc)

theorem proved : Rows.EvictNilSaid := over
#print axioms proved
end Go.Proofs.YtalihbjininkhaaGreat.evictNil
