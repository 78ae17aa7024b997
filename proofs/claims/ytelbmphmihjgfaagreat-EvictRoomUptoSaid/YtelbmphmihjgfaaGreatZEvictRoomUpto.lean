/- Any config, any pool, any draws, any script of up to 1048576 steps and draws: behind Enforce there is room, or ErrFull and nothing that could go; who went was past, or evicted and could be; all others are as they were. -/
import Derived.Test.YtelbmphmihjgfaaGreatZEwRoom
import Derived.Test.YtelbmphmihjgfaaGreatZOpenCfg
import Derived.Test.YtelbmphmihjgfaaGreatZOpenWords
import Derived.Test.YtelbmphmihjgfaaGreatChecked
import Derived.Test.YtelbmphmihjgfaaGreatRows
import Derived.Deep.Slices
import Derived.Deep.CondSized
import Derived.JoinedCond
namespace Go.Proofs.YtelbmphmihjgfaaGreat.evictRoom
open Go Go.Proofs Go.Proofs.YtelbmphmihjgfaaGreat Go.Proofs.YtelbmphmihjgfaaGreat.DEnt Go.RowKit Go.ChangeShapes Go.WideShapes Go.ChangeAt Pantry
set_option linter.unusedVariables false

theorem own : ownKnob Tryz.prog.godebug = none := by kernel_rfl
theorem laidOut : laidOutB Tryz.prog = true := by kernel_rfl

theorem bulk_pos {H : Type} (d : DataW H) : 1 ≤ Rows.uptoBulk d := by
  cases d with
  | lit l => cases l <;> simp [Rows.uptoBulk]
  | _ => first | (simp [Rows.uptoBulk]; done) | (rw [Rows.uptoBulk]; omega)
theorem bulk_len {H : Type} : ∀ (l : List (DataW H)), l.length ≤ Rows.uptoBulkAll l
  | [] => Nat.zero_le _
  | d :: l => by
    have h1 := bulk_len l
    have h2 := bulk_pos d
    simp only [Rows.uptoBulkAll, List.length_cons]
    omega
theorem bulk_mem {H : Type} {d : DataW H} : ∀ {l : List (DataW H)}, d ∈ l → Rows.uptoBulk d ≤ Rows.uptoBulkAll l
  | x :: l, h => by
    simp only [Rows.uptoBulkAll]
    rcases List.mem_cons.1 h with rfl | h
    · omega
    · have := bulk_mem h
      omega
theorem bulk_any {H : Type} {d : DataW H} {l : List (DataW H)} (h : Rows.uptoSmall H l = true) (hd : d ∈ l) : Rows.uptoBulk d ≤ 1048576 :=
  Nat.le_trans (bulk_mem hd) (of_decide_eq_true h)
set_option maxRecDepth 100000 in
theorem lifted (os : Os) (started : os.Started) (H : Type) (enc : TypeId × Value → H) (F : Stop.Interp) :
    ReturnsInHanded {} Tryz.checked os 4 .any ((Rows.OpenSpec.upto Rows.evictRoomSpec).pre6 enc Tryz.prog Tryz.f4 Rows.evictRoomUptoRow.domain false) (((Rows.OpenSpec.upto Rows.evictRoomSpec).at F).post enc Tryz.prog Tryz.f4 false true false false) := by
  refine returnsInHanded_of_cond_sized (C := Tryz.checked) (s := Rows.OpenSpec.upto Rows.evictRoomSpec) (k := Rows.uptoSmall) rfl own started (by kernel_rfl) Tryz.func4
    (OpenSpec.witness (enc := enc) (C := Tryz.checked) (s := Rows.OpenSpec.upto Rows.evictRoomSpec) (k := Rows.uptoSmall) rfl false ⟨#[], #[.agg #[.int .u64 0, .int .i64 0, .int .i64 0, .int .i64 0], .int .i64 0, .slice none 0 0, .slice none 0 0], []⟩ 8 (by kernel_rfl) (by kernel_rfl) (by kernel_rfl)
      (x := ([.agg [.lit (.int .u64 0), .lit (.int .i64 0), .lit (.int .i64 0), .lit (.int .i64 0)], .lit (.int .i64 0), .nil, .nil], [], [])) (by kernel_rfl) rfl (by kernel_rfl)) ?_
  intro W base args ds gs before hval0 hW hcnd hk hsz _
  have hval : ∀ (j : Nat) t v, Tryz.f4.params[j]? = some t → args[j]? = some v → Value.okWide Tryz.prog W .any base t v := hval0
  have hW' := hW
  obtain ⟨p, q, hA0, hV, rfl, hfz, hnd⟩ := hW
  have hA : DataW.TrodAll enc Tryz.prog W 0 (fun _ => true) true Tryz.f4.params.toList args.toList ds p := hA0
  rw [Tryz.params4] at hA hval hsz
  obtain ⟨v0, vs0, d0, ds0, p0, q0, hargs, rfl, rfl, h0, r0⟩ := trodAll_cons hA
  obtain ⟨v1, vs1, d1, ds1, p1, q1, rfl, rfl, rfl, h1, r1⟩ := trodAll_cons r0
  obtain ⟨v2, vs2, d2, ds2, p2, q2, rfl, rfl, rfl, h2, r2⟩ := trodAll_cons r1
  obtain ⟨v3, vs3, d3, ds3, p3, q3, rfl, rfl, rfl, h3, r3⟩ := trodAll_cons r2
  obtain ⟨rfl, rfl, rfl⟩ := trodAll_nil r3
  obtain rfl : args = #[v0, v1, v2, v3] := by cases args; simp_all
  obtain ⟨rfl, rfl⟩ := trodVars_none hV
  obtain ⟨cs0, rfl, -⟩ := okWide_struct Tryz.underlying24 (hval 0 24 v0 rfl rfl)
  obtain ⟨n1, rfl, -, -, hw1⟩ := open_int Tryz.underlying3 (hval 1 3 v1 rfl rfl) h1
  have hn1 := wf_i64 hw1
  obtain ⟨a2, len2, cap2, rfl⟩ := okWide_slice Tryz.underlying25 (hval 2 25 v2 rfl rfl)
  obtain ⟨a3, len3, cap3, rfl⟩ := okWide_slice Tryz.underlying26 (hval 3 26 v3 rfl rfl)
  have k0 := h0
  have lt0 : ∀ x ∈ p0, x.block < W.heap.size := by obtain ⟨m, hm⟩ := k0; exact DataW.trod_lt m _ _ _ hm
  have k1 := h1
  have lt1 : ∀ x ∈ p1, x.block < W.heap.size := by obtain ⟨m, hm⟩ := k1; exact DataW.trod_lt m _ _ _ hm
  have k2 := h2
  have lt2 : ∀ x ∈ p2, x.block < W.heap.size := by obtain ⟨m, hm⟩ := k2; exact DataW.trod_lt m _ _ _ hm
  have k3 := h3
  have lt3 : ∀ x ∈ p3, x.block < W.heap.size := by obtain ⟨m, hm⟩ := k3; exact DataW.trod_lt m _ _ _ hm
  obtain ⟨c0, hcs0, hok0⟩ : ∃ c : Cfg, cs0.toList = cfgL c ∧ CfgOk c := by
    obtain ⟨fuel, hf⟩ := h0
    exact open_cfg hf
  have hcv0 : cs0 = (cfgL c0).toArray := by
    have := congrArg List.toArray hcs0
    simpa using this
  subst hcv0
  obtain ⟨l2, hl2, hr2, hn2, hx2⟩ : ∃ l : List Nat, l.length = len2 ∧ Rd W a2 (u64R l) ∧ len2 ≤ 17592186044416 ∧ ∀ x ∈ l, x < 18446744073709551616 := by
    obtain ⟨fuel, hf⟩ := h2
    exact open_u64s hf (reach_arg (j := 2) hsz rfl rfl)
  obtain ⟨⟨l3, hl3⟩, hn3⟩ : (∃ l : List LSt, ScrAt W a3 len3 l) ∧ len3 ≤ 1048576 := by
    obtain ⟨fuel, hf⟩ := h3
    obtain ⟨g1, g2⟩ := open_steps hf (reach_arg (j := 3) hsz rfl rfl)
    refine ⟨g1, ?_⟩
    rcases g2 with h0 | ⟨es, rs, hd, hlen⟩
    · rw [h0]; exact Nat.zero_le _
    · have q1 := bulk_len es
      have q2 := bulk_any hk (d := d3) (by simp)
      rw [hd] at q2
      simp only [Rows.uptoBulk] at q2
      omega
  clear hA0 hval0 hsz
  refine (room_any W c0 hok0 n1 a2 len2 cap2 l2 hl2 hr2 hn2 hx2 a3 len3 cap3 l3 hl3 hn3).mono fun e W' ⟨he, bel⟩ => ?_
  subst he
  exact ⟨_, rfl, _, _, _, [], _, [], hW', trodAll_mk1 (shut_bool Tryz.underlying4 _), (trodAll_cons_mk (Below.trod laidOut (by kernel_rfl) (of_decide_eq_true (by kernel_rfl)) k0 bel lt0) (trodAll_cons_mk (Below.trod laidOut (by kernel_rfl) (of_decide_eq_true (by kernel_rfl)) k1 bel lt1) (trodAll_cons_mk (Below.trod laidOut (by kernel_rfl) (of_decide_eq_true (by kernel_rfl)) k2 bel lt2) (trodAll_cons_mk (Below.trod laidOut (by kernel_rfl) (of_decide_eq_true (by kernel_rfl)) k3 bel lt3) trodAll_mk0)))), rfl, bel.frame _, fun h => by cases h⟩

theorem and_mk {a b : Bool} (h : a = true) (k : b = true) : (a && b) = true := by rw [h, k]; rfl
set_option maxHeartbeats 4000000 in
theorem facts : joinedFacts Tryz.pinned.checked.prog 4 Tryz.f4 (Rows.OpenSpec.upto Rows.evictRoomSpec).bare Rows.evictRoomUptoRow = true := by
  unfold joinedFacts
  repeat' with_reducible apply and_mk
  all_goals (as_aux_lemma => kernel_rfl)
theorem hinst : Tryz.f4.isInstance Tryz.pinned.checked.prog Rows.evictRoomUptoRow.origin Rows.evictRoomUptoRow.targs := of_decide_eq_true (by kernel_rfl)
theorem hwrap : Tryz.f4.isWrapper Tryz.pinned.checked.prog Rows.evictRoomUptoRow.wrapper Rows.evictRoomUptoRow.mainSum := by
  unfold Func.isWrapper
  first | (rw [if_pos (by decide +kernel)]; kernel_rfl) | (rw [if_neg (by decide +kernel)]; exact ⟨rfl, rfl⟩)
theorem hname : Tryz.pinned.checked.prog.funcNamed Rows.evictRoomUptoRow.func = some 4 := by kernel_rfl
theorem over : Rows.evictRoomUptoRow.holds Tryz.pinned (Rows.OpenSpec.upto Rows.evictRoomSpec) :=
  OpenClaim.holds_of_cond 4 Tryz.f4 rfl rfl rfl rfl rfl rfl rfl ⟨rfl, rfl, rfl, rfl, rfl⟩ rfl rfl rfl rfl rfl hname Tryz.func4 facts hinst hwrap
    (fun os started H enc _ F => lifted os started H enc F)

theorem proved : Rows.EvictRoomUptoSaid := over
#print axioms proved
end Go.Proofs.YtelbmphmihjgfaaGreat.evictRoom
