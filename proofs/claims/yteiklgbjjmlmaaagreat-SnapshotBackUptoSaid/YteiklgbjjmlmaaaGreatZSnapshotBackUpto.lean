
/- SnapshotBack: keys that may be saved are loaded as they were saved, and the time; what is loaded is saved as the same bytes. Condition: arguments of at most 1048576 parts in all. -/
import Derived.Test.YteiklgbjjmlmaaaGreatZSnGr
import Derived.Test.YteiklgbjjmlmaaaGreatZOpenWords
import Derived.Test.YteiklgbjjmlmaaaGreatChecked
import Derived.Test.YteiklgbjjmlmaaaGreatRows
import Derived.Deep.Slices
import Derived.Deep.CondSized
import Derived.JoinedCond
namespace Go.Proofs.YteiklgbjjmlmaaaGreat.snapshotBack
open Go Go.Proofs Go.Proofs.YteiklgbjjmlmaaaGreat Go.RowKit Go.ChangeShapes Go.WideShapes Go.ChangeAt Pantry
set_option linter.unusedVariables false

theorem own : ownKnob Tryz.prog.godebug = none := by kernel_rfl
theorem laidOut : laidOutB Tryz.prog = true := by kernel_rfl

theorem bulk_pos {H : Type} (d : DataW H) : 1 ≤ Rows.uptoBulk d := by
  cases d with
  | lit l => cases l <;> simp [Rows.uptoBulk]
  | _ => first | (simp [Rows.uptoBulk]; done) | (rw [Rows.uptoBulk]; omega)
theorem bulk_len {H : Type} : ∀ (l : List (DataW H)), l.length ≤ Rows.uptoBulkAll l
  | [] => Nat.zero_le _
  | d :: l => by
    have h1 := bulk_len l
    have h2 := bulk_pos d
    simp only [Rows.uptoBulkAll, List.length_cons]
    omega
theorem bulk_mem {H : Type} {d : DataW H} : ∀ {l : List (DataW H)}, d ∈ l → Rows.uptoBulk d ≤ Rows.uptoBulkAll l
  | x :: l, h => by
    simp only [Rows.uptoBulkAll]
    rcases List.mem_cons.1 h with rfl | h
    · omega
    · have := bulk_mem h
      omega
theorem bulk_any {H : Type} {d : DataW H} {l : List (DataW H)} (h : Rows.uptoSmall H l = true) (hd : d ∈ l) : Rows.uptoBulk d ≤ 1048576 :=
  Nat.le_trans (bulk_mem hd) (of_decide_eq_true h)
set_option maxRecDepth 100000 in
theorem lifted (os : Os) (started : os.Started) (H : Type) (enc : TypeId × Value → H) (F : Stop.Interp) :
    ReturnsInHanded {} Tryz.checked os 5 .any ((Rows.OpenSpec.upto Rows.snapshotBackSpec).pre6 enc Tryz.prog Tryz.f5 Rows.snapshotBackUptoRow.domain false) (((Rows.OpenSpec.upto Rows.snapshotBackSpec).at F).post enc Tryz.prog Tryz.f5 false true false false) := by
  refine returnsInHanded_of_cond_sized (C := Tryz.checked) (s := Rows.OpenSpec.upto Rows.snapshotBackSpec) (k := Rows.uptoSmall) rfl own started (by kernel_rfl) Tryz.func5
    (OpenSpec.witness (enc := enc) (C := Tryz.checked) (s := Rows.OpenSpec.upto Rows.snapshotBackSpec) (k := Rows.uptoSmall) rfl false ⟨#[], #[.int .i64 0, .slice none 0 0], []⟩ 8 (by kernel_rfl) (by kernel_rfl) (by kernel_rfl)
      (x := ([.lit (.int .i64 0), .nil], [], [])) (by kernel_rfl) rfl (by kernel_rfl)) ?_
  intro W base args ds gs before hval0 hW hcnd hk hsz _
  have hval : ∀ (j : Nat) t v, Tryz.f5.params[j]? = some t → args[j]? = some v → Value.okWide Tryz.prog W .any base t v := hval0
  have hW' := hW
  obtain ⟨p, q, hA0, hV, rfl, hfz, hnd⟩ := hW
  have hA : DataW.TrodAll enc Tryz.prog W 0 (fun _ => true) true Tryz.f5.params.toList args.toList ds p := hA0
  rw [Tryz.params5] at hA hval hsz
  obtain ⟨v0, vs0, d0, ds0, p0, q0, hargs, rfl, rfl, h0, r0⟩ := trodAll_cons hA
  obtain ⟨v1, vs1, d1, ds1, p1, q1, rfl, rfl, rfl, h1, r1⟩ := trodAll_cons r0
  obtain ⟨rfl, rfl, rfl⟩ := trodAll_nil r1
  obtain rfl : args = #[v0, v1] := by cases args; simp_all
  obtain ⟨rfl, rfl⟩ := trodVars_none hV
  obtain ⟨n0, rfl, -, -, hw0⟩ := open_int Tryz.underlying2 (hval 0 2 v0 rfl rfl) h0
  have hn0 := wf_i64_29 hw0
  obtain ⟨a1, len1, cap1, rfl⟩ := okWide_slice Tryz.underlying22 (hval 1 22 v1 rfl rfl)
  have k0 := h0
  have lt0 : ∀ x ∈ p0, x.block < W.heap.size := by obtain ⟨m, hm⟩ := k0; exact DataW.trod_lt m _ _ _ hm
  have k1 := h1
  have lt1 : ∀ x ∈ p1, x.block < W.heap.size := by obtain ⟨m, hm⟩ := k1; exact DataW.trod_lt m _ _ _ hm
  obtain ⟨l1, hl1, hr1, hs1, -, -⟩ : ∃ l : List SE, l.length = len1 ∧ SRow W a1 l ∧ (∀ x ∈ l, SArg x) ∧ len1 ≤ 1172812402926 ∧ len1 ≤ cap1 := by
    obtain ⟨fuel, hf⟩ := h1
    exact open_stored hf (reach_arg (j := 1) hsz rfl rfl)
  have hn1 : len1 ≤ 1048576 := by
    obtain ⟨fuel, hf⟩ := k1
    rcases slice_len29 Tryz.underlying22 hf with h0 | ⟨es, rs, hd, hlen⟩
    · rw [h0]; exact Nat.zero_le _
    · have q1 := bulk_len es
      have q2 := bulk_any hk (d := d1) (by simp)
      simp only at hd
      rw [hd] at q2
      simp only [Rows.uptoBulk] at q2
      omega
  clear hA0 hval0 hsz
  refine (back_any W n0 hn0 a1 len1 cap1 l1 hl1 hn1 hr1 (fun x hx => (hs1 x hx).big) (fun x hx => (hs1 x hx).key) (fun x hx => (hs1 x hx).dl) (fun x hx => (hs1 x hx).bits)).mono fun e W' ⟨he, bel⟩ => ?_
  subst he
  exact ⟨_, rfl, _, _, _, [], _, [], hW', trodAll_mk1 (shut_bool Tryz.underlying4 _), (trodAll_cons_mk (Below.trod laidOut (by kernel_rfl) (of_decide_eq_true (by kernel_rfl)) k0 bel lt0) (trodAll_cons_mk (Below.trod laidOut (by kernel_rfl) (of_decide_eq_true (by kernel_rfl)) k1 bel lt1) trodAll_mk0)), rfl, bel.frame _, fun h => by cases h⟩

theorem over : Rows.snapshotBackUptoRow.holds Tryz.pinned (Rows.OpenSpec.upto Rows.snapshotBackSpec) :=
  OpenClaim.holds_of_cond 5 Tryz.f5 rfl rfl rfl rfl rfl rfl rfl ⟨rfl, rfl, rfl, rfl, rfl⟩ rfl rfl rfl rfl rfl (by kernel_rfl) Tryz.func5 (by kernel_rfl)
    (of_decide_eq_true (by kernel_rfl)) (by unfold Func.isWrapper; first | (rw [if_pos (by decide +kernel)]; kernel_rfl) | (rw [if_neg (by decide +kernel)]; exact ⟨rfl, rfl⟩))
    (fun os started H enc _ F => lifted os started H enc F)

theorem proved : Rows.SnapshotBackUptoSaid := over
#print axioms proved
end Go.Proofs.YteiklgbjjmlmaaaGreat.snapshotBack
