/- VerbsChecks: for every words Check tells the document's row and error, Keys the document's keys; the words stay, and what is told is memory of its own. No condition. -/
import Derived.Test.YtdoddnnggamaiaaOpenWords
import Derived.Test.YtdoddnnggamaiaaVerbsNames
namespace Go.Proofs.Ytdoddnnggamaiaa.verbsChecks
open Go.RowKit Pantry
open Go.ChangeShapes Go.WideShapes Go.ChangeAt

def mark : List UInt8 := [109, 97, 114, 107]
def kram : List UInt8 := [107, 114, 97, 109]

theorem keysMset : Verbs.keys [[109, 115, 101, 116], [97], [49], [98], [50]] = [[97], [98]] := by decide +kernel

set_option maxHeartbeats 4000000 in
set_option maxRecDepth 100000 in
theorem walk (a : Option Addr) (n c : Nat) (l : List (List UInt8)) (w : World) (h : WordsIn w a n l) (hn : n ≤ 8796093021952) (hnil : a = none → c = 0) :
    Calls Try.prog 6 #[.slice a n c] w fun e w' => e = .returned (.bool true) ∧ Below w.heap.size w w' := by
  have HW := Lib.hid h
  have HNL := Lib.hid hnil
  have HLN := Lib.hid h.1
  clear h hnil
  have tok1 : True := trivial
  have H0 := Lib.hid (World.ownsRow_made (base := w.heap.size) (e := 9) (size := 1) w #[] 0 (Nat.le_refl _) (by decide) rfl)
  go_enter Try.func6, Try.ntmps6
  go_wp2_with (first
    | (at_builtin; have _t := tok1; refine wpl_append Try.textsT rfl _ _ rfl w.heap.size rfl H0.out rfl HNL.out (by rw [txts_length, HLN.out]; omega) (HW.out.2.1.alloc _) (by omega) (by simp) ?_; intro v1 w1 hown1 hg1 hf1; clear tok1; have hz1 : w.heap.size + 1 ≤ w1.heap.size := (by have := hg1.size; simpa using this))
    | (at_builtin; have _t := hown1; (refine wpl_append (n := 0 + n) (m := 2) Try.textsT rfl _ _ rfl w.heap.size rfl (hown1.alloc _) rfl (by simp) rfl (Rd.new w1 #[.string ⟨mark.toArray⟩, .string ⟨kram.toArray⟩] 9 (0, 0) (by simp [Value.oneCell'])) (by omega) (by rw [World.size_alloc]; omega) ?_); intro v2 w2 hown2 hg2 hf2; clear hown1; obtain ⟨g, c2, rfl, hgb, hgl, hgc⟩ := own_some hown2 (by omega))
    | fail)
  have hg2b := grownBy_alloc_first hg2
  have hb2 : Below w.heap.size w w2 := by
    have h1 : Below w.heap.size w w1 := grownBy_below ((Below.refl _ _).alloc (Nat.le_refl _) _) hg1 (by rintro k ⟨⟩; exact Nat.le_refl _) (Nat.le_refl _)
    refine grownBy_below h1 hg2b (fun k hk => ?_) (Nat.le_refl _)
    rcases hf1 k hk with h | h
    · cases h; exact Nat.le_refl _
    · simp at h; omega
  simp only [Nat.zero_add, List.nil_append] at hown2 hgc
  have hrx : Rd w2 (some ⟨g, 0, none⟩) (txts l) := by
    obtain ⟨a', c', hv, hr⟩ := ownsRow_rd hown2 (by
      intro u hu
      rcases List.mem_append.1 hu with h | h
      · exact txts_one _ u h
      · exact Rd.one (Rd.new w1 #[.string ⟨mark.toArray⟩, .string ⟨kram.toArray⟩] 9 (0, 0) (by simp [Value.oneCell'])) u h)
    obtain ⟨rfl, -, rfl⟩ := Value.slice.inj hv
    have := hr.take n
    rwa [List.take_left' (by rw [txts_length, HLN.out])] at this
  have hmk : w2.cell? ⟨g, n, none⟩ = some (.string ⟨mark.toArray⟩) := by
    have := hown2.cells rfl n (.string ⟨mark.toArray⟩) (by rw [List.getElem?_append_right (by rw [txts_length, HLN.out]; exact Nat.le_refl _), txts_length, HLN.out, Nat.sub_self]; rfl)
    rwa [Addr.add_base] at this
  have hkr : w2.cell? ⟨g, n + 1, none⟩ = some (.string ⟨kram.toArray⟩) := by
    have := hown2.cells rfl (n + 1) (.string ⟨kram.toArray⟩) (by rw [List.getElem?_append_right (by rw [txts_length, HLN.out]; omega), txts_length, HLN.out, show n + 1 - n = 1 by omega]; rfl)
    rwa [Addr.add_base] at this
  have HX := Lib.hid (show WordsIn w2 (some ⟨g, 0, none⟩) n l from ⟨HLN.out, hrx, HW.out.2.2⟩)
  have HWD := Lib.hid (HW.out.below hb2)
  have HMK := Lib.hid hmk
  have HKR := Lib.hid hkr
  have HB2 := Lib.hid hb2
  clear hown2 hg2 hf2 hg2b hb2 hrx hmk hkr hg1 hf1 hz1 H0
  obtain ⟨⟨r, code⟩, hrc⟩ : ∃ p, Verbs.check l = p := ⟨_, rfl⟩
  obtain ⟨K, hK⟩ : ∃ K, Verbs.keys l = K := ⟨_, rfl⟩
  have hKl : K.length ≤ 1099511627776 := by
    rw [← hK]
    unfold Verbs.keys
    split
    · simp
    · rename_i hx
      have hz : (Verbs.check l).2 = 0 := Classical.byContradiction fun h => hx (Or.inl h)
      have hf : (Verbs.check l).1.first ≠ 0 := fun h => hx (Or.inr h)
      obtain ⟨b1, b2, b3, b4, b5, b6⟩ := Verbs.key_bounds hz hf
      have hl2 := (Verbs.check_ok hz).2.1
      rw [List.length_map, List.length_range, Verbs.keyCount, b1]
      rcases b2 with b2 | b2 <;> rw [b2] <;> omega
  have HRC := Lib.hid hrc
  have HK := Lib.hid hK
  have HKL := Lib.hid hKl
  clear hrc hK hKl
  refine (check_any _ n c2 l _ HX.out (by omega)).mono ?_
  rintro e w3 ⟨rfl, hb3⟩
  rw [HRC.out, rowAgg, rowCells]
  have hz3 := hb3.size
  go_wp2_with fail
  refine (refCheck_any a n c l _ (HWD.out.below (hb3.alloc hz3 _)) (by omega)).mono ?_
  rintro e w4 ⟨rfl, hb4⟩
  rw [HRC.out, rowAgg, rowCells]
  have hz4 := hb4.size
  rw [World.size_alloc] at hb4 hz4
  have hb4' : Below w2.heap.size w2 w4 := (hb3.alloc hz3 _).trans (hb4.mono (by omega))
  go_wp2_with fail
  refine (keys_any _ n c2 l _ (HX.out.below (hb4'.alloc (by omega) _)) (by omega)).mono ?_
  rintro e w5 ⟨va, rfl, hoa, hb5⟩
  rw [HK.out, World.size_alloc] at hoa
  have hz5 := hb5.size
  rw [World.size_alloc] at hb5 hz5
  have hb5' : Below w2.heap.size w2 w5 := (hb4'.alloc (by omega) _).trans (hb5.mono (by omega))
  go_wp2_with fail
  refine (keys_any _ n c2 l _ (HX.out.below hb5') (by omega)).mono ?_
  rintro e w6 ⟨vb, rfl, hob, hb6⟩
  rw [HK.out] at hob
  have hz6 := hb6.size
  have hb6' : Below w2.heap.size w2 w6 := hb5'.trans (hb6.mono (by omega))
  go_wp2_with fail
  refine (refKeys_any _ n c l _ (HWD.out.below hb6') (by omega)).mono ?_
  rintro e w7 ⟨vk, rfl, hok, hb7⟩
  rw [HK.out] at hok
  have hz7 := hb7.size
  have hb7' : Below w2.heap.size w2 w7 := hb6'.trans (hb7.mono (by omega))
  have x1 : w7.heap[w3.heap.size]? = some (.cells #[.string ⟨r.name.toArray⟩, .int .i64 r.arity, .int .i64 r.flags, .int .i64 r.first, .int .i64 r.last, .int .i64 r.jump] 29) :=
    (hb7.block _ (by omega)).trans ((hb6.block _ (by omega)).trans ((hb5.block _ (by omega)).trans ((Below.heap_alloc w4 _ _ (by omega)).trans ((hb4.block _ (by omega)).trans (heap_alloc_new w3 _)))))
  have x2 : w7.heap[w4.heap.size]? = some (.cells #[.string ⟨r.name.toArray⟩, .int .i64 r.arity, .int .i64 r.flags, .int .i64 r.first, .int .i64 r.last, .int .i64 r.jump] 29) :=
    (hb7.block _ (by omega)).trans ((hb6.block _ (by omega)).trans ((hb5.block _ (by omega)).trans (heap_alloc_new w4 _)))
  obtain ⟨⟨c0, c1, c2', c3, c4, c5⟩, -⟩ := box6 x1
  obtain ⟨⟨d0, d1, d2, d3, d4, d5⟩, -⟩ := box6 x2
  have l5 := fun k hk => hoa.lt k hk
  have l6 := fun k hk => hob.lt k hk
  have l7 := fun k hk => hok.lt k hk
  have oa := ownsRow_belowAll (ownsRow_belowAll hoa hb6) hb7
  have ob := ownsRow_belowAll hob hb7
  have OA := Lib.hid oa
  have OB := Lib.hid ob
  have OK := Lib.hid hok
  have L5 := Lib.hid l5
  have L6 := Lib.hid l6
  have L7 := Lib.hid l7
  have HB7 := Lib.hid hb7'
  clear x1 x2 hoa hob hok oa ob l5 l6 l7 hb3 hb4 hb5 hb6 hb7 hb4' hb5' hb6' hb7'
  go_wp2_with fail
  have m1 : w7.cell? ⟨g, n, none⟩ = some (.string ⟨#[109, 97, 114, 107]⟩) := (HB7.out.cell (p := ⟨g, n, none⟩) hgl).trans HMK.out
  have m2 : w7.cell? ⟨g, n + 1, none⟩ = some (.string ⟨#[107, 114, 97, 109]⟩) := (HB7.out.cell (p := ⟨g, n + 1, none⟩) hgl).trans HKR.out
  refine (same_own OA.out OK.out HKL.out).mono ?_
  rintro e w' ⟨rfl, q1, rfl⟩
  rw [decide_eq_true rfl]
  go_wp2_with fail
  refine (same_own (ownsRow_drewN OB.out) (ownsRow_drewN OK.out) HKL.out).mono ?_
  rintro e w' ⟨rfl, q2, rfl⟩
  rw [decide_eq_true rfl]
  go_wp2_with fail
  refine (same_any (some ⟨g, 0, none⟩) a n n c2 c l l _ HLN.out HLN.out (by omega) ((HX.out.below HB7.out).2.1.drewN) ((HWD.out.below HB7.out).2.1.drewN)).mono ?_
  rintro e w' ⟨rfl, q3, rfl⟩
  rw [decide_eq_true rfl]
  go_wp2_with fail
  refine (spoil_any va K.length K _ (w4.heap.size + 1) (by have := HKL.out; omega) (ownsRow_drewN OA.out) (by show w4.heap.size + 1 ≤ w7.heap.size; omega)).mono ?_
  rintro e w8 ⟨rfl, hg8⟩
  have hg8' : w7.grownBy w8 va.ownBlock := ⟨hg8.os, hg8.tape, hg8.output, hg8.size, hg8.block⟩
  have hz8 := hg8'.size
  have OB2 := Lib.hid (ownsRow_grown OB.out hg8' (fun b hb => fun e => by have h1 := L6.out b hb; have h2 := L5.out b e; omega))
  have OK2 := Lib.hid (ownsRow_grown OK.out hg8' (fun b hb => fun e => by have h1 := L7.out b hb; have h2 := L5.out b e; omega))
  have HB8 := Lib.hid (show Below w2.heap.size w2 w8 from grownBy_below HB7.out hg8' (fun k hk => by have h2 := L5.out k hk; omega) (Nat.le_refl _))
  clear hg8 hg8' OA OB OK HB7 m1 m2 c0 c1 c2' c3 c4 c5 d0 d1 d2 d3 d4 d5
  go_wp2_with fail
  refine (same_own OB2.out OK2.out HKL.out).mono ?_
  rintro e w' ⟨rfl, q4, rfl⟩
  rw [decide_eq_true rfl]
  go_wp2_with fail
  refine (same_any (some ⟨g, 0, none⟩) a n n c2 c l l _ HLN.out HLN.out (by omega) ((HX.out.below HB8.out).2.1.drewN) ((HWD.out.below HB8.out).2.1.drewN)).mono ?_
  rintro e w' ⟨rfl, q5, rfl⟩
  rw [decide_eq_true rfl]
  go_wp2_with fail
  refine (spoil_any vb K.length K _ w5.heap.size (by have := HKL.out; omega) (ownsRow_drewN OB2.out) (by show w5.heap.size ≤ w8.heap.size; omega)).mono ?_
  rintro e w9 ⟨rfl, hg9⟩
  have hg9' : w8.grownBy w9 vb.ownBlock := ⟨hg9.os, hg9.tape, hg9.output, hg9.size, hg9.block⟩
  have hz9 := hg9'.size
  have OK3 := Lib.hid (ownsRow_grown OK2.out hg9' (fun b hb => fun e => by have h1 := L7.out b hb; have h2 := L6.out b e; omega))
  have HB9 := Lib.hid (show Below w2.heap.size w2 w9 from grownBy_below HB8.out hg9' (fun k hk => by have h2 := L6.out k hk; omega) (Nat.le_refl _))
  clear hg9 hg9' OB2 OK2 HB8
  go_wp2_with fail
  refine (keys_any _ n c2 l _ (HX.out.below HB9.out) (by omega)).mono ?_
  rintro e w10 ⟨vc, rfl, hoc, hb10⟩
  rw [HK.out] at hoc
  have hz10 := hb10.size
  have OK4 := Lib.hid (ownsRow_belowAll OK3.out hb10)
  have OC := Lib.hid hoc
  have HB10 := Lib.hid (HB9.out.trans (hb10.mono (by omega)))
  clear hb10 hoc OK3 HB9
  go_wp2_with fail
  refine (same_own OC.out OK4.out HKL.out).mono ?_
  rintro e w' ⟨rfl, q6, rfl⟩
  rw [decide_eq_true rfl]
  go_wp2_with fail
  refine (same_any (some ⟨g, 0, none⟩) a n n c2 c l l _ HLN.out HLN.out (by omega) ((HX.out.below HB10.out).2.1.drewN) ((HWD.out.below HB10.out).2.1.drewN)).mono ?_
  rintro e w' ⟨rfl, q7, rfl⟩
  rw [decide_eq_true rfl]
  go_wp2_with fail
  refine (keys_any _ 5 5 [[109, 115, 101, 116], [97], [49], [98], [50]] _ (words_new (w10.drewN (q6 + q7)) [[109, 115, 101, 116], [97], [49], [98], [50]] (by decide)) (by omega)).mono ?_
  rintro e w11 ⟨vd, rfl, hod, hb11⟩
  rw [keysMset] at hod
  have hz11 := hb11.size
  have OD := Lib.hid hod
  have HB11 := Lib.hid (show Below w2.heap.size w2 w11 from ((below_drewN' HB10.out).alloc (by show w2.heap.size ≤ w10.heap.size; omega) _).trans (hb11.mono (by simp; show w2.heap.size ≤ w10.heap.size + 1; omega)))
  clear hb11 hod HB10
  go_wp2_with fail
  obtain ⟨ad, cd, rfl, hrd⟩ := ownsRow_rd OD.out (txts_one _)
  refine (same_any ad _ 2 2 cd 2 [[97], [98]] [[97], [98]] _ rfl rfl (by omega) (hrd.alloc _) (words_new w11 [[97], [98]] (by decide)).2.1).mono ?_
  rintro e w' ⟨rfl, q8, rfl⟩
  rw [decide_eq_true rfl]
  go_wp2
  go_ret
  refine ⟨rfl, HB2.out.trans ((below_drewN' (HB11.out.alloc ?_ _)).mono ?_)⟩
  · have := HB11.out.size; exact this
  · exact HB2.out.size
set_option linter.unusedVariables false

theorem own : ownKnob Try.prog.godebug = none := by kernel_rfl
theorem laidOut : laidOutB Try.prog = true := by kernel_rfl

set_option maxRecDepth 100000 in
theorem lifted (os : Os) (started : os.Started) (H : Type) (enc : TypeId × Value → H) :
    ReturnsInHanded {} Try.checked os 6 .any (Rows.verbsChecksSpec.pre6 enc Try.prog Try.f6 Rows.verbsChecksRow.domain false) (Rows.verbsChecksSpec.post enc Try.prog Try.f6 false true false false) := by
  refine returnsInHanded_of_change_sized (C := Try.checked) own started (by kernel_rfl) Try.func6
    (ChangeSpec.witness6 (enc := enc) (C := Try.checked) false ⟨#[], #[.slice none 0 0], []⟩ 8 (by kernel_rfl) (by kernel_rfl) (by kernel_rfl) (by kernel_rfl)) ?_
  intro W base args ds gs before hval0 hW hcnd hsz _
  have hval : ∀ (j : Nat) t v, Try.f6.params[j]? = some t → args[j]? = some v → Value.okWide Try.prog W .any base t v := hval0
  have hW' := hW
  obtain ⟨p, q, hA0, hV, rfl, hfz, hnd⟩ := hW
  have hA : DataW.TrodAll enc Try.prog W 0 (fun _ => true) true Try.f6.params.toList args.toList ds p := hA0
  rw [Try.params6] at hA hval hsz
  obtain ⟨v0, vs0, d0, ds0, p0, q0, hargs, rfl, rfl, h0, r0⟩ := trodAll_cons hA
  obtain ⟨rfl, rfl, rfl⟩ := trodAll_nil r0
  obtain rfl : args = #[v0] := by cases args; simp_all
  obtain ⟨rfl, rfl⟩ := trodVars_none hV
  obtain ⟨a0, len0, cap0, rfl⟩ := okWide_slice Try.underlying34 (hval 0 34 v0 rfl rfl)
  have k0 := h0
  have lt0 : ∀ x ∈ p0, x.block < W.heap.size := by obtain ⟨m, hm⟩ := k0; exact DataW.trod_lt m _ _ _ hm
  obtain ⟨l, hl, hr, hlx, hm, hnil⟩ : ∃ l : List (List UInt8), l.length = len0 ∧ Rd W a0 (txts l) ∧ (∀ x ∈ l, x.length ≤ 140737488351232) ∧ len0 ≤ 8796093021952 ∧ (a0 = none → cap0 = 0) := by
    obtain ⟨fuel, hf⟩ := h0
    exact open_words Try.underlying34 Try.underlying9 (by kernel_rfl) (by kernel_rfl) hf (reach_arg (j := 0) hsz rfl rfl)
  clear hA0 hval0 hsz
  refine (walk a0 len0 cap0 l W ⟨hl, hr, hlx⟩ hm hnil).mono fun e W' ⟨he, bel⟩ => ?_
  subst he
  exact ⟨_, rfl, _, _, _, [], _, [], hW', trodAll_mk1 (shut_bool Try.underlying4 _), (trodAll_cons_mk (Below.trod laidOut (by kernel_rfl) (of_decide_eq_true (by kernel_rfl)) k0 bel lt0) trodAll_mk0), rfl, bel.frame _, fun h => by cases h⟩

theorem over : Rows.verbsChecksRow.holds Try.pinned (OpenSpec.ofChange Rows.verbsChecksSpec) :=
  OpenClaim.holds_of_wide 6 Try.f6 rfl rfl rfl rfl rfl rfl rfl ⟨rfl, rfl, rfl, rfl, rfl⟩ rfl rfl rfl rfl rfl (by kernel_rfl) Try.func6 (by kernel_rfl)
    (of_decide_eq_true (by kernel_rfl)) (by unfold Func.isWrapper; first | (rw [if_pos (by decide +kernel)]; kernel_rfl) | (rw [if_neg (by decide +kernel)]; exact ⟨rfl, rfl⟩))
    (fun os started H enc _ => lifted os started H enc)

theorem proved : Rows.VerbsChecksSaid := over
#print axioms proved

end Go.Proofs.Ytdoddnnggamaiaa.verbsChecks
