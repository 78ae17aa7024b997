/- SnapshotSums: for every slice of bytes the program's sum is the document's, and the bytes stay as they were. No condition. -/
import Derived.Test.YtdoddnnggamaiaaLent
namespace Go.Proofs.Ytdoddnnggamaiaa.snapshotSums
open Go.ChangeShapes Go.WideShapes Go.ChangeAt Go.RowKit Pantry
open Go.ChangeMaps (open_string shut_string)
set_option linter.unusedVariables false

theorem own : ownKnob Try.prog.godebug = none := by kernel_rfl
theorem laidOut : laidOutB Try.prog = true := by kernel_rfl

theorem cells_of {w : World} {a : Option Addr} {l : List Nat} {len : Nat} (hl : l.length = len) (h : Rd w a (u8s l)) :
    ∀ i, i < len → ∃ x, a = some x ∧ w.cell? (x.add i) = some (.int .u8 (l.getD i 0 : Nat)) := fun i hi => u8s_cell h i (by omega)

set_option maxHeartbeats 400000 in
theorem walk (a : Option Addr) (len cap : Nat) (l : List Nat) (w : World)
   (hl : l.length = len) (hm : len ≤ 140737488351232) (hnil : a = none → cap = 0) (hz : ∀ c ∈ l, c < 256) (hr : Rd w a (u8s l)) :
    Calls Try.prog 3 #[.slice a len cap] w fun e w' => e = .returned (.bool true) ∧ Below w.heap.size w w' := by
  have HL := Lib.hid hl
  have HZ := Lib.hid hz
  have HN := Lib.hid hnil
  have HR := Lib.hid hr
  clear hl hz hnil hr
  go_enter Try.func3, Try.ntmps3
  go_wp2_with fail
  refine (lent_any a len cap l w HL.out hm HN.out HR.out).mono ?_
  rintro e w1 ⟨g, c, rfl, hown, hb⟩
  have HR1 := Lib.hid (HR.out.below hb)
  have hr2 : Rd w1 (some ⟨g, 0, none⟩) (u8s l) := by
    obtain ⟨a', c', hv, hr⟩ := ownsRow_rd hown (u8s_one _)
    obtain ⟨rfl, -, rfl⟩ := Value.slice.inj hv
    have := hr.take len
    rwa [← u8s_take, List.take_left' HL.out] at this
  have HR2 := Lib.hid hr2
  clear hr2
  have HO := Lib.hid hown
  clear hown
  go_wp2_with fail
  refine (refSum_any a len cap l w1 HL.out (by omega) (cells_of HL.out HR1.out) HZ.out).mono ?_
  rintro e w' ⟨rfl, rfl⟩
  go_wp2_with fail
  refine (impSum_any (some ⟨g, 0, none⟩) len c l w1 HL.out (by omega) (cells_of HL.out HR2.out) HZ.out).mono ?_
  rintro e w' ⟨rfl, rfl⟩
  go_wp2_with fail
  refine (kept_any g a len c cap l w1 _ HL.out hm HO.out HR1.out).mono ?_
  rintro e w' hq
  have hb2 := hq.below
  obtain ⟨rfl, -⟩ := hq
  go_wp2
  go_ret
  exact ⟨rfl, hb.trans (hb2.mono hb.size)⟩

/-! ### THE ROW's STEP -/
set_option maxRecDepth 100000 in
theorem lifted (os : Os) (started : os.Started) (H : Type) (enc : TypeId × Value → H) :
    ReturnsInHanded {} Try.checked os 3 .any (Rows.snapshotSumsSpec.pre6 enc Try.prog Try.f3 Rows.snapshotSumsRow.domain false) (Rows.snapshotSumsSpec.post enc Try.prog Try.f3 false true false false) := by
  refine returnsInHanded_of_change_sized (C := Try.checked) own started (by kernel_rfl) Try.func3
    (ChangeSpec.witness6 (enc := enc) (C := Try.checked) false ⟨#[], #[.slice none 0 0], []⟩ 8 (by kernel_rfl) (by kernel_rfl) (by kernel_rfl) (by kernel_rfl)) ?_
  intro W base args ds gs before hval0 hW hcnd hsz _
  have hval : ∀ (j : Nat) t v, Try.f3.params[j]? = some t → args[j]? = some v → Value.okWide Try.prog W .any base t v := hval0
  have hW' := hW
  obtain ⟨p, q, hA0, hV, rfl, hfz, hnd⟩ := hW
  have hA : DataW.TrodAll enc Try.prog W 0 (fun _ => true) true Try.f3.params.toList args.toList ds p := hA0
  rw [Try.params3] at hA hval hsz
  obtain ⟨v0, vs0, d0, ds0, p0, q0, hargs, rfl, rfl, h0, r0⟩ := trodAll_cons hA
  obtain ⟨rfl, rfl, rfl⟩ := trodAll_nil r0
  obtain rfl : args = #[v0] := by cases args; simp_all
  obtain ⟨rfl, rfl⟩ := trodVars_none hV
  obtain ⟨a0, len0, cap0, rfl⟩ := okWide_slice Try.underlying22 (hval 0 22 v0 rfl rfl)
  have k0 := h0
  have lt0 : ∀ x ∈ p0, x.block < W.heap.size := by obtain ⟨m, hm⟩ := k0; exact DataW.trod_lt m _ _ _ hm
  obtain ⟨l, hl, hz, hnil, hr, hlc, hcm, hd⟩ : ∃ l : List Nat, l.length = len0 ∧ (∀ c ∈ l, c < 256) ∧ (a0 = none → cap0 = 0) ∧ Rd W a0 (u8s l) ∧ len0 ≤ cap0 ∧ cap0 ≤ 9223372036854775807 ∧
      (d0 = .nil ∧ l = [] ∨ ∃ zs sp, d0 = .slice zs sp ∧ zs.length = len0) := by
    obtain ⟨fuel, hf⟩ := h0
    exact open_bytes Try.underlying22 Try.underlying5 (by kernel_rfl) hf
  have hm : len0 ≤ 140737488351232 := by
    rcases hd with ⟨_, rfl⟩ | ⟨zs, sp, rfl, hzs⟩
    · simp at hl; omega
    · have := sized_slice hsz (j := 0) rfl rfl Try.underlying22
      have hb : Try.checked.prog.bytesOf 5 = 1 := by kernel_rfl
      rw [hb] at this
      unfold reachBytes at this
      omega
  clear hA0 hval0 hsz hd
  refine (walk a0 len0 cap0 l W hl hm hnil hz hr).mono fun e W' ⟨he, bel⟩ => ?_
  subst he
  exact ⟨_, rfl, _, _, _, [], _, [], hW', trodAll_mk1 (shut_bool Try.underlying4 _), (trodAll_cons_mk (Below.trod laidOut (by kernel_rfl) (of_decide_eq_true (by kernel_rfl)) k0 bel lt0) trodAll_mk0), rfl, bel.frame _, fun h => by cases h⟩

theorem over : Rows.snapshotSumsRow.holds Try.pinned (OpenSpec.ofChange Rows.snapshotSumsSpec) :=
  OpenClaim.holds_of_wide 3 Try.f3 rfl rfl rfl rfl rfl rfl rfl ⟨rfl, rfl, rfl, rfl, rfl⟩ rfl rfl rfl rfl rfl (by kernel_rfl) Try.func3 (by kernel_rfl)
    (of_decide_eq_true (by kernel_rfl)) (by unfold Func.isWrapper; first | (rw [if_pos (by decide +kernel)]; kernel_rfl) | (rw [if_neg (by decide +kernel)]; exact ⟨rfl, rfl⟩))
    (fun os started H enc _ => lifted os started H enc)

theorem proved : Rows.SnapshotSumsSaid := over
#print axioms proved
end Go.Proofs.Ytdoddnnggamaiaa.snapshotSums
