/- VerbsFinds: for every name Find tells what the document's table tells, and Upper what the document's Upper does; the name stays. No condition. -/
import Derived.Test.YtdoddnnggamaiaaRefFind
import Derived.Test.YtdoddnnggamaiaaOpen
namespace Go.Proofs.Ytdoddnnggamaiaa.verbsFinds
open Go.ChangeShapes Go.WideShapes Go.ChangeAt Go.RowKit Pantry
open Go.ChangeMaps (open_string shut_string)
def getS : ByteArray := ⟨#[103, 101, 116]⟩
set_option maxHeartbeats 1000000 in
theorem walk (s : ByteArray) (w : World) (hs : s.size ≤ 140737488351232) :
    Calls Try.prog 4 #[.string s] w fun e w' => e = .returned (.bool true) ∧ Below w.heap.size w w' := by
  have hgr : ∃ r, Verbs.get Verbs.all (upL getS.data.toList) = some r ∧ r.arity = 2 := ⟨_, rfl, rfl⟩
  obtain ⟨r2, hr2, ha2⟩ := hgr
  have HR2 := Lib.hid hr2
  have HA2 := Lib.hid ha2
  clear hr2 ha2
  obtain ⟨q, hq⟩ : ∃ q, Verbs.get Verbs.all (upL s.data.toList) = q := ⟨_, rfl⟩
  obtain ⟨r, hr⟩ : ∃ r, q.getD Verbs.empty = r := ⟨_, rfl⟩
  have HQ := Lib.hid hq
  have HR := Lib.hid hr
  clear hq hr
  go_enter Try.func4, Try.ntmps4
  go_wp2_with fail
  refine (find_any s w hs).mono ?_
  rintro e w1 ⟨rfl, hb1⟩
  rw [HQ.out, HR.out, rowAgg, rowCells]
  go_wp2_with fail
  refine (refFind_any s _ hs).mono ?_
  rintro e w2 ⟨rfl, hb2⟩
  rw [HQ.out, HR.out, rowAgg, rowCells]
  go_wp2_with fail
  refine (find_any getS _ (by decide)).mono ?_
  rintro e w3 ⟨rfl, hb3⟩
  rw [HR2.out]
  simp only [Option.getD_some, Option.isSome_some]
  rw [rowAgg, rowCells, HA2.out]
  have hz1 := hb1.size
  have hz2 := hb2.size
  have hz3 := hb3.size
  simp only [World.size_alloc] at hz2 hz3 hb2 hb3
  have x1 : ∀ o, (w3.alloc o).heap[w1.heap.size]? = some (.cells #[.string ⟨r.name.toArray⟩, .int .i64 r.arity, .int .i64 r.flags, .int .i64 r.first, .int .i64 r.last, .int .i64 r.jump] 29) := fun o =>
    (Below.heap_alloc w3 o w1.heap.size (by omega)).trans ((hb3.block _ (by omega)).trans ((Below.heap_alloc w2 _ _ (by omega)).trans ((hb2.block _ (by omega)).trans (heap_alloc_new w1 _))))
  have x2 : ∀ o, (w3.alloc o).heap[w2.heap.size]? = some (.cells #[.string ⟨r.name.toArray⟩, .int .i64 r.arity, .int .i64 r.flags, .int .i64 r.first, .int .i64 r.last, .int .i64 r.jump] 29) := fun o =>
    (Below.heap_alloc w3 o w2.heap.size (by omega)).trans ((hb3.block _ (by omega)).trans (heap_alloc_new w2 _))
  have c0 := fun o => (box6 (x1 o)).1.1
  have c1 := fun o => (box6 (x1 o)).1.2.1
  have c2 := fun o => (box6 (x1 o)).1.2.2.1
  have c3 := fun o => (box6 (x1 o)).1.2.2.2.1
  have c4 := fun o => (box6 (x1 o)).1.2.2.2.2.1
  have c5 := fun o => (box6 (x1 o)).1.2.2.2.2.2
  have d0 := fun o => (box6 (x2 o)).1.1
  have d1 := fun o => (box6 (x2 o)).1.2.1
  have d2 := fun o => (box6 (x2 o)).1.2.2.1
  have d3 := fun o => (box6 (x2 o)).1.2.2.2.1
  have d4 := fun o => (box6 (x2 o)).1.2.2.2.2.1
  have d5 := fun o => (box6 (x2 o)).1.2.2.2.2.2
  clear x1 x2
  go_wp2_with fail
  refine (upper_any s _ hs).mono ?_
  rintro e w4 ⟨rfl, hb4⟩
  go_wp2_with fail
  refine (refUpper_any s _ hs).mono ?_
  rintro e w5 ⟨rfl, hb5⟩
  have hz4 := hb4.size
  have hz5 := hb5.size
  simp only [World.size_alloc] at hz4 hb4
  have x3 := (hb5.block w3.heap.size (by omega)).trans ((hb4.block _ (by omega)).trans (heap_alloc_new w3 _))
  obtain ⟨⟨e0, e1, e2, e3, e4, e5⟩, -⟩ := box6 x3
  clear x3
  go_wp2
  go_ret
  refine ⟨rfl, ?_⟩
  exact hb1.trans ((((Below.refl _ _).alloc (Nat.le_refl _) _).trans (hb2.mono (by omega))).mono (by omega) |>.trans
    ((((Below.refl _ _).alloc (Nat.le_refl _) _).trans (hb3.mono (by omega))).mono (by omega) |>.trans
    ((((Below.refl _ _).alloc (Nat.le_refl _) _).trans (hb4.mono (by omega))).mono (by omega) |>.trans (hb5.mono (by omega)))))
set_option linter.unusedVariables false

theorem own : ownKnob Try.prog.godebug = none := by kernel_rfl
theorem laidOut : laidOutB Try.prog = true := by kernel_rfl

set_option maxRecDepth 100000 in
theorem lifted (os : Os) (started : os.Started) (H : Type) (enc : TypeId × Value → H) :
    ReturnsInHanded {} Try.checked os 4 .any (Rows.verbsFindsSpec.pre6 enc Try.prog Try.f4 Rows.verbsFindsRow.domain false) (Rows.verbsFindsSpec.post enc Try.prog Try.f4 false true false false) := by
  refine returnsInHanded_of_change_sized (C := Try.checked) own started (by kernel_rfl) Try.func4
    (ChangeSpec.witness6 (enc := enc) (C := Try.checked) false ⟨#[], #[.string ByteArray.empty], []⟩ 8 (by kernel_rfl) (by kernel_rfl) (by kernel_rfl) (by kernel_rfl)) ?_
  intro W base args ds gs before hval0 hW hcnd hsz _
  have hval : ∀ (j : Nat) t v, Try.f4.params[j]? = some t → args[j]? = some v → Value.okWide Try.prog W .any base t v := hval0
  have hW' := hW
  obtain ⟨p, q, hA0, hV, rfl, hfz, hnd⟩ := hW
  have hA : DataW.TrodAll enc Try.prog W 0 (fun _ => true) true Try.f4.params.toList args.toList ds p := hA0
  rw [Try.params4] at hA hval hsz
  obtain ⟨v0, vs0, d0, ds0, p0, q0, hargs, rfl, rfl, h0, r0⟩ := trodAll_cons hA
  obtain ⟨rfl, rfl, rfl⟩ := trodAll_nil r0
  obtain rfl : args = #[v0] := by cases args; simp_all
  obtain ⟨rfl, rfl⟩ := trodVars_none hV
  have k0 := h0
  have lt0 : ∀ x ∈ p0, x.block < W.heap.size := by obtain ⟨m, hm⟩ := k0; exact DataW.trod_lt m _ _ _ hm
  obtain ⟨s, rfl, rfl, rfl, hs⟩ := open_string Try.underlying9 (hval 0 9 v0 rfl rfl) h0
  have hm : s.size ≤ 140737488351232 := by
    have := sized_string hsz (j := 0) rfl rfl
    unfold reachBytes at this
    simpa using this
  clear hA0 hval0 hsz
  refine (walk s W hm).mono fun e W' ⟨he, bel⟩ => ?_
  subst he
  exact ⟨_, rfl, _, _, _, [], _, [], hW', trodAll_mk1 (shut_bool Try.underlying4 _), (trodAll_cons_mk (Below.trod laidOut (by kernel_rfl) (of_decide_eq_true (by kernel_rfl)) k0 bel lt0) trodAll_mk0), rfl, bel.frame _, fun h => by cases h⟩

theorem over : Rows.verbsFindsRow.holds Try.pinned (OpenSpec.ofChange Rows.verbsFindsSpec) :=
  OpenClaim.holds_of_wide 4 Try.f4 rfl rfl rfl rfl rfl rfl rfl ⟨rfl, rfl, rfl, rfl, rfl⟩ rfl rfl rfl rfl rfl (by kernel_rfl) Try.func4 (by kernel_rfl)
    (of_decide_eq_true (by kernel_rfl)) (by unfold Func.isWrapper; first | (rw [if_pos (by decide +kernel)]; kernel_rfl) | (rw [if_neg (by decide +kernel)]; exact ⟨rfl, rfl⟩))
    (fun os started H enc _ => lifted os started H enc)

theorem proved : Rows.VerbsFindsSaid := over
#print axioms proved
end Go.Proofs.Ytdoddnnggamaiaa.verbsFinds
