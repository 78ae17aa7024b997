/- Any datum, any seed: the order of names changes nothing, a list's order is kept. -/
import Derived.Test.YtipehdbpbmnonaaGreatZVOrdN
import Derived.Test.YtipehdbpbmnonaaGreatZOpenWords
import Derived.Test.YtipehdbpbmnonaaGreatChecked
import Derived.Test.YtipehdbpbmnonaaGreatRows
import Derived.Deep.Slices
import Derived.Deep.CondSized
import Derived.JoinedCond
namespace Go.Proofs.YtipehdbpbmnonaaGreat.valueOrder
open Go Go.Proofs Go.Proofs.YtipehdbpbmnonaaGreat Go.RowKit Go.ChangeShapes Go.WideShapes Go.ChangeAt Pantry
set_option linter.unusedVariables false

theorem own : ownKnob Tryz.prog.godebug = none := by kernel_rfl
theorem laidOut : laidOutB Tryz.prog = true := by kernel_rfl

theorem bulk_pos {H : Type} (d : DataW H) : 1 ≤ Rows.uptoBulk d := by
  cases d with
  | lit l => cases l <;> simp [Rows.uptoBulk]
  | _ => first | (simp [Rows.uptoBulk]; done) | (rw [Rows.uptoBulk]; omega)
theorem bulk_len {H : Type} : ∀ (l : List (DataW H)), l.length ≤ Rows.uptoBulkAll l
  | [] => Nat.zero_le _
  | d :: l => by
    have h1 := bulk_len l
    have h2 := bulk_pos d
    simp only [Rows.uptoBulkAll, List.length_cons]
    omega
theorem bulk_mem {H : Type} {d : DataW H} : ∀ {l : List (DataW H)}, d ∈ l → Rows.uptoBulk d ≤ Rows.uptoBulkAll l
  | x :: l, h => by
    simp only [Rows.uptoBulkAll]
    rcases List.mem_cons.1 h with rfl | h
    · omega
    · have := bulk_mem h
      omega
theorem bulk_first {H : Type} {d : DataW H} {l : List (DataW H)} (h : Rows.uptoSmall H (d :: l) = true) : Rows.uptoBulk d ≤ 1048576 := by
  have h' : Rows.uptoBulkAll (d :: l) ≤ 1048576 := of_decide_eq_true h
  have e : Rows.uptoBulkAll (d :: l) = Rows.uptoBulk d + Rows.uptoBulkAll l := by rw [Rows.uptoBulkAll]
  omega
set_option maxRecDepth 100000 in
theorem lifted (os : Os) (started : os.Started) (H : Type) (enc : TypeId × Value → H) (F : Stop.Interp) :
    ReturnsInHanded {} Tryz.checked os 3 .any ((Rows.OpenSpec.upto Rows.valueOrderSpec).pre6 enc Tryz.prog Tryz.f3 Rows.valueOrderUptoRow.domain false) (((Rows.OpenSpec.upto Rows.valueOrderSpec).at F).post enc Tryz.prog Tryz.f3 false true false false) := by
  refine returnsInHanded_of_cond_sized (C := Tryz.checked) (s := Rows.OpenSpec.upto Rows.valueOrderSpec) (k := Rows.uptoSmall) rfl own started (by kernel_rfl) Tryz.func3
    (OpenSpec.witness (enc := enc) (C := Tryz.checked) (s := Rows.OpenSpec.upto Rows.valueOrderSpec) (k := Rows.uptoSmall) rfl false ⟨#[], #[.agg #[.int .i64 0, .string ⟨#[]⟩, .slice none 0 0, .slice none 0 0, .slice none 0 0, .slice none 0 0], .int .u64 0], []⟩ 8 (by kernel_rfl) (by kernel_rfl) (by kernel_rfl)
      (x := ([.agg [.lit (.int .i64 0), .lit (.string []), .nil, .nil, .nil, .nil], .lit (.int .u64 0)], [], [])) (by kernel_rfl) rfl (by kernel_rfl)) ?_
  intro W base args ds gs before hval0 hW hcnd hk hsz _
  have hval : ∀ (j : Nat) t v, Tryz.f3.params[j]? = some t → args[j]? = some v → Value.okWide Tryz.prog W .any base t v := hval0
  have hW' := hW
  obtain ⟨p, q, hA0, hV, rfl, hfz, hnd⟩ := hW
  have hA : DataW.TrodAll enc Tryz.prog W 0 (fun _ => true) true Tryz.f3.params.toList args.toList ds p := hA0
  rw [Tryz.params3] at hA hval hsz
  obtain ⟨v0, vs0, d0, ds0, p0, q0, hargs, rfl, rfl, h0, r0⟩ := trodAll_cons hA
  obtain ⟨v1, vs1, d1, ds1, p1, q1, rfl, rfl, rfl, h1, r1⟩ := trodAll_cons r0
  obtain ⟨rfl, rfl, rfl⟩ := trodAll_nil r1
  obtain rfl : args = #[v0, v1] := by cases args; simp_all
  obtain ⟨rfl, rfl⟩ := trodVars_none hV
  obtain ⟨cs0, rfl, -⟩ := okWide_struct Tryz.underlying26 (hval 0 26 v0 rfl rfl)
  obtain ⟨n1, rfl, -, -, hw1⟩ := open_int Tryz.underlying27 (hval 1 27 v1 rfl rfl) h1
  obtain ⟨m1, rfl⟩ := Int.eq_ofNat_of_zero_le (wf_u64_12 hw1).1
  have hm1 : m1 < 18446744073709551616 := by have := (wf_u64_12 hw1).2; omega
  have k0 := h0
  have lt0 : ∀ x ∈ p0, x.block < W.heap.size := by obtain ⟨m, hm⟩ := k0; exact DataW.trod_lt m _ _ _ hm
  have k1 := h1
  have lt1 : ∀ x ∈ p1, x.block < W.heap.size := by obtain ⟨m, hm⟩ := k1; exact DataW.trod_lt m _ _ _ hm
  obtain ⟨dd, a1, a2, a3, a4, c1, c2, c3, c4, hcs, -, i1, i2, i3, i4, z1, z2, t1, t2, t3, t4, parts, hpd, hparts⟩ : ∃ (d : DD) (a1 a2 a3 a4 : Option Addr) (c1 c2 c3 c4 : Nat), cs0.toList = (Tryz.datumCells d a1 a2 a3 a4 c1 c2 c3 c4).toList ∧ isI64' d.kind ∧
      Rd W a1 (d.items.map txC) ∧ Rd W a2 (fdCells d.pairs) ∧ Rd W a3 (d.ranks.map txC) ∧ Rd W a4 (u64L d.scores) ∧ (a1 = none → c1 = 0) ∧ (a2 = none → c2 = 0) ∧
      d.text.length ≤ 140737488351232 ∧ (∀ s ∈ d.items, s.length ≤ 140737488351232) ∧ (∀ x ∈ d.pairs, x.1.length ≤ 140737488351232 ∧ x.2.length ≤ 140737488351232) ∧ (∀ s ∈ d.ranks, s.length ≤ 140737488351232) ∧
      ∃ parts, d0 = .agg parts ∧ ∀ m, m = d.items.length ∨ m = d.pairs.length ∨ m = d.ranks.length ∨ m = d.scores.length → m = 0 ∨ ∃ es rs, (DataW.slice es rs : DataW H) ∈ parts ∧ es.length = m := by
    obtain ⟨fuel, hf⟩ := h0
    exact open_datum hf (reach_arg (j := 0) hsz rfl rfl)
  have hc0 : cs0 = Tryz.datumCells dd a1 a2 a3 a4 c1 c2 c3 c4 := by
    have := congrArg List.toArray hcs
    simpa using this
  have hfew : ∀ m, m = dd.items.length ∨ m = dd.pairs.length ∨ m = dd.ranks.length ∨ m = dd.scores.length → m ≤ 1048576 := fun m hm => by
    have hbulk := bulk_first hk
    rcases hparts m hm with rfl | ⟨es, rs, h1, h2⟩
    · omega
    · have q1 := bulk_len es
      have q2 := bulk_mem h1
      rw [hpd] at hbulk
      simp only [Rows.uptoBulk] at hbulk q2
      omega
  have hDat : DatumAt W dd a1 a2 a3 a4 c1 c2 c3 c4 := ⟨i1, i2, i3, i4, ⟨z1, z2⟩, by have := hfew _ (.inl rfl); omega, by have := hfew _ (.inr (.inl rfl)); omega, by have := hfew _ (.inr (.inr (.inl rfl))); omega, by have := hfew _ (.inr (.inr (.inr rfl))); omega⟩
  have hBig : PlainBig (plainD dd) := ⟨by show dd.text.length < _; omega, by have := hfew _ (.inl rfl); show dd.items.length < _; omega, by have := hfew _ (.inr (.inl rfl)); show dd.pairs.length < _; omega, by have := hfew _ (.inr (.inr (.inl rfl))); show (rankD dd.ranks dd.scores).length < _; rw [rankD_length]; omega, fun s hs => by have := t2 s hs; omega, fun x hx => by have := t3 x hx; omega, fun x hx => by have := t3 x hx; omega, fun x hx => by
    have hx2 : x ∈ rankD dd.ranks dd.scores := hx
    unfold rankD at hx2
    obtain ⟨y, hy, rfl⟩ := List.mem_map.1 hx2
    have := t4 y.1 (List.fst_mem_of_mem_zipIdx hy)
    show y.1.length < _
    omega⟩
  subst hc0
  clear hA0 hval0 hsz
  refine (vorder_any W dd a1 a2 a3 a4 c1 c2 c3 c4 m1 hm1 hDat hBig).mono fun e W' ⟨he, bel⟩ => ?_
  subst he
  exact ⟨_, rfl, _, _, _, [], _, [], hW', trodAll_mk1 (shut_bool Tryz.underlying4 _), (trodAll_cons_mk (Below.trod laidOut (by kernel_rfl) (of_decide_eq_true (by kernel_rfl)) k0 bel lt0) (trodAll_cons_mk (Below.trod laidOut (by kernel_rfl) (of_decide_eq_true (by kernel_rfl)) k1 bel lt1) trodAll_mk0)), rfl, bel.frame _, fun h => by cases h⟩

theorem over : Rows.valueOrderUptoRow.holds Tryz.pinned (Rows.OpenSpec.upto Rows.valueOrderSpec) :=
  OpenClaim.holds_of_cond 3 Tryz.f3 rfl rfl rfl rfl rfl rfl rfl ⟨rfl, rfl, rfl, rfl, rfl⟩ rfl rfl rfl rfl rfl (by kernel_rfl) Tryz.func3 (by kernel_rfl)
    (of_decide_eq_true (by kernel_rfl)) (by unfold Func.isWrapper; first | (rw [if_pos (by decide +kernel)]; kernel_rfl) | (rw [if_neg (by decide +kernel)]; exact ⟨rfl, rfl⟩))
    (fun os started H enc _ F => lifted os started H enc F)

theorem proved : Rows.ValueOrderUptoSaid := over
#print axioms proved
end Go.Proofs.YtipehdbpbmnonaaGreat.valueOrder
