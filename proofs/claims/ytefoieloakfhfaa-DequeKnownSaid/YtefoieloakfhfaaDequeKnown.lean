/- The chapter's examples: what chunks there are after pushes, puts in and trims; what is told of no deque. (A closed statement.) -/
import Derived.Test.YtefoieloakfhfaaFilled
import Derived.Test.YtefoieloakfhfaaOpenWords
import Derived.Test.YtefoieloakfhfaaChecked
import Derived.Test.YtefoieloakfhfaaRows
namespace Go.Proofs.Ytefoieloakfhfaa.dequeKnown
open Go Go.Proofs Go.Proofs.Ytefoieloakfhfaa Go.RowKit Go.ChangeShapes Go.WideShapes Go.ChangeAt Pantry

attribute [local go_sem] Oper.semAt_some

theorem k1 : sizesL (fillC 33) = [32, 1] := by decide +kernel
theorem k2 : sizesL (pushC true [120] (fillC 33)) = [1, 32, 1] := by decide +kernel
theorem k3 : sizesL (insC 16 [120] (fillC 32)) = [16, 17] := by decide +kernel
theorem k4 : (insC 16 [120] (fillC 32)).flatten[16]? = some [120] := by decide +kernel
theorem k5 : (insC 16 [120] (fillC 32)).flatten[17]? = some [16] := by decide +kernel
theorem k6 : sizesL (insC 15 [120] (fillC 32)) = [17, 16] := by decide +kernel
theorem k7 : sizesL (insC 32 [120] (fillC 32)) = [16, 17] := by decide +kernel
theorem k8 : (insC 32 [120] (fillC 32)).flatten[32]? = some [120] := by decide +kernel
theorem k9 : sizesL (insC 32 [120] (fillC 33)) = [32, 2] := by decide +kernel
theorem k10 : sizesL (insC 33 [120] (fillC 33)) = [32, 2] := by decide +kernel
theorem k11 : sizesL (trimC 30 34 (fillC 40)) = [2, 2] := by decide +kernel
theorem k12 : trimC 5 5 (trimC 30 34 (fillC 40)) = [] := by decide +kernel
theorem k13 : insC 0 [] [] = [[[]]] := by decide +kernel
theorem k14 : costOf (pushC false [97, 98, 99] [[[]]]) = 35 := by decide +kernel

/-- What Chunks hands back is what is looked for. -/
theorem told {w : World} {base : Nat} {v : Value} {l : List Nat} (h : w.ownsRow base 3 1 v l.length (intsL l)) (us : Array Value) (hu : us = (intsL l).toArray) (m c : Nat) (hm : m = l.length) (hl : l.length ≤ 100) :
    Calls Try.prog 25 #[v, .slice (some ⟨w.heap.size, 0, none⟩) m c] (w.alloc (.cells us 3)) fun e w' => e = .returned (.bool true) ∧ Chg (fun _ => False) w w' := by
  obtain ⟨a, k, rfl, -⟩ := intsRd h
  subst hu hm
  have h2 := Rd.new w (intsL l).toArray 3 (0, 0) (by simpa using intsL_one l)
  refine (ints_any _ _ l.length l.length _ _ l l _ rfl rfl (by omega) (rdOf (h.alloc _) (intsL_one _)) (by simpa using h2)).mono ?_
  rintro e w' ⟨rfl, q, rfl⟩
  exact ⟨by rw [decide_eq_true rfl], ((Chg.refl _ _).alloc _).drewN⟩
/-- A range over a function that takes neither place nor text. -/
theorem range_skip {α : Type} {F : Fence} {n : Nat} {P : Program} {g : Operand} {ps : Array Tmp} {body : Code} {Q : Exit → Act → World → Prop} {a : Act} {w : World}
    (hro : F.round = none) (h1 : 1 ≤ n) {gf : Nat} {lb : Array Value} (hg : a.eval g = .func (.func gf) #[] lb) (hFg : F.fn gf) (eg : ∀ args w, (callFunc gf args).run P w = .ok (.enter gf args) w)
    {encs : α → Array Value} {Kp : World → World → Prop} {S Sp : List α → Prop} {N : Nat} {w0 : World} (hseq : SeqStopsK F (n - 1) P gf lb encs Kp S Sp N w0)
    (hKt : ∀ {A B C : World}, Kp A B → Kp B C → Kp A C) (hKb : ∀ (W : World) (l : Nat) (o o' : Obj), w.heap.size ≤ l → W.heap[l]? = some o → o.isCells = false → o.isWalk = false → Kp W (W.putObj l o')) (hb0 : Below w0.heap.size w0 w) (hps : ∀ x, (encs x).size = ps.size)
    (I : List α → World → Prop) (Ix : Code → List α → World → Prop) (hI : OwnFrom w.heap.size I) (hIx : ∀ c, OwnFrom w.heap.size (Ix c)) (h0 : I [] w)
    (hbody : ∀ (l : Nat) (pre : List α) (x : α) (W : World), I pre W → pre.length < N → body.wpIn (F.inRound l) (n - 1 - 1) P (ownPostG w.heap.size Kp I Ix (pre ++ [x]) W) { tmps := (ps.zip (encs x)).foldl (fun t (p, v) => t.setIfInBounds p v) a.tmps, defers := [] } W)
    (hdone : ∀ (D : Nat) (xs : List α) (W : World), w.heap.size ≤ D → S xs → I xs W → W.heap[D]? = some (.deferred (some [])) → Q .normal { a with defers := { target := .collected D, args := #[] } :: a.defers } W)
    (hstop : ∀ (D : Nat) (c : Code) (pre : List α) (W : World), w.heap.size ≤ D → Sp pre → Ix c pre W → W.heap[D]? = some (.deferred (some [])) → c.wpIn F n P Q { a with defers := { target := .collected D, args := #[] } :: a.defers } W) :
    (Code.rangeFunc g ps .skip body).wpIn F n P Q a w :=
  wpIn_rangeFunc_ownG hro h1 hg hFg eg hseq hKt hKb hb0 hps I Ix hI hIx h0 (fun x => { tmps := (ps.zip (encs x)).foldl (fun t (p, v) => t.setIfInBounds p v) a.tmps, defers := [] })
    (fun _ _ _ _ hK => wpIn_skip hK) hbody hdone hstop
theorem callWide {n : Nat} {f : Nat} {args : Array Value} {w : World} {R : Ending → World → Prop} (h : Calls Try.prog f args w R) : Fence.wide.fn f ∧ CallsIn Fence.wide n Try.prog f args w R := ⟨trivial, callsIn_wide.2 h⟩

set_option maxHeartbeats 8000000 in
set_option maxRecDepth 100000 in
theorem walk (w : World) : Calls Try.prog 6 #[] w (OkPost w) := by
  have HW := fun W => Lib.hid (wakes_any W)
  refine (callsIn_wide (n := 3)).1 ?_
  refine callsIn_of_wp_marks Try.func6 rfl trivial ?_ rfl
  simp only [Try.ntmps6, List.size_toArray, List.length_nil, Nat.reduceSub, Array.replicate_succ, Array.replicate_zero, List.push_toArray, List.append_toArray, List.nil_append, List.cons_append]
  gi_wp2_with fail
  refine ⟨trivial, (callsIn_wide.2 (HW _).out).mono ?_⟩
  rintro e w1 ⟨rfl, hb1⟩
  have HB1 := Lib.hid hb1
  clear hb1
  gi_wp2_with fail
  refine ⟨trivial, (callsIn_wide.2 (filled_any 33 (by decide) _)).mono ?_⟩
  rintro e w2 ⟨d2, rfl, -, h2⟩
  have H2 := Lib.hid h2
  clear h2
  gi_wp2_with fail
  refine ⟨trivial, (callsIn_wide.2 (H2.out.chunks)).mono ?_⟩
  rintro e w3 ⟨v3, rfl, o3, b3⟩
  rw [k1] at o3
  have H3 := Lib.hid (H2.out.quiet (Chg.of_below b3))
  clear b3
  gi_wp2_with fail
  refine ⟨trivial, (callsIn_wide.2 (told o3 _ rfl _ _ rfl (by decide))).mono ?_⟩
  rintro e w4 ⟨rfl, c4⟩
  have H4 := Lib.hid (H3.out.quiet c4)
  clear c4 o3
  gi_wp2_with fail
  refine ⟨trivial, (callsIn_wide.2 (H4.out.push true (s := [120]) (by decide) (by rw [fillC_total]; decide))).mono ?_⟩
  rintro e w5 ⟨rfl, h5, -⟩
  have H5 := Lib.hid h5
  clear h5
  gi_wp2_with fail
  refine ⟨trivial, (callsIn_wide.2 (H5.out.chunks)).mono ?_⟩
  rintro e w6 ⟨v6, rfl, o6, b6⟩
  rw [k2] at o6
  have H6 := Lib.hid (H5.out.quiet (Chg.of_below b6))
  clear b6
  gi_wp2_with fail
  refine ⟨trivial, (callsIn_wide.2 (told o6 _ rfl _ _ rfl (by decide))).mono ?_⟩
  rintro e w7 ⟨rfl, c7⟩
  have H7 := Lib.hid (H6.out.quiet c7)
  clear c7 o6
  gi_wp2_with fail
  refine ⟨trivial, (callsIn_wide.2 (H7.out.len)).mono ?_⟩
  rintro e w8 ⟨rfl, rfl⟩
  rw [show ((total (pushC true [120] (fillC 33)) : Nat) : Int) = 34 by rw [total_push, fillC_total]; rfl]
  have HB9 := Lib.hid (HB1.out.trans (H7.out.below.mono HB1.out.size))
  gi_wp2_with fail
  refine ⟨trivial, (callsIn_wide.2 (filled_any 32 (by decide) _)).mono ?_⟩
  rintro e w10 ⟨d10, rfl, -, h10⟩
  have H10 := Lib.hid h10
  clear h10
  gi_wp2_with fail
  refine ⟨trivial, (callsIn_wide.2 (H10.out.ins (i := 16) (by rw [fillC_total]; decide) (s := [120]) (by decide) (by rw [fillC_total]; decide))).mono ?_⟩
  rintro e w11 ⟨rfl, h11, -⟩
  have H11 := Lib.hid h11
  clear h11
  gi_wp2_with fail
  refine ⟨trivial, (callsIn_wide.2 (H11.out.chunks)).mono ?_⟩
  rintro e w12 ⟨v12, rfl, o12, b12⟩
  rw [k3] at o12
  have H12 := Lib.hid (H11.out.quiet (Chg.of_below b12))
  clear b12
  gi_wp2_with fail
  refine ⟨trivial, (callsIn_wide.2 (told o12 _ rfl _ _ rfl (by decide))).mono ?_⟩
  rintro e w13 ⟨rfl, c13⟩
  have H13 := Lib.hid (H12.out.quiet c13)
  clear c13 o12
  gi_wp2_with fail
  refine ⟨trivial, (callsIn_wide.2 (H13.out.at_ k4)).mono ?_⟩
  rintro e w14 ⟨rfl, rfl⟩
  gi_wp2_with fail
  refine ⟨trivial, (callsIn_wide.2 (H13.out.at_ k5)).mono ?_⟩
  rintro e w15 ⟨rfl, rfl⟩
  have HB16 := Lib.hid (HB9.out.trans (H13.out.below.mono HB9.out.size))
  gi_wp2_with fail
  refine ⟨trivial, (callsIn_wide.2 (filled_any 32 (by decide) _)).mono ?_⟩
  rintro e w17 ⟨d17, rfl, -, h17⟩
  have H17 := Lib.hid h17
  clear h17
  gi_wp2_with fail
  refine ⟨trivial, (callsIn_wide.2 (filled_any 32 (by decide) _)).mono ?_⟩
  rintro e w18 ⟨d18, rfl, -, h18⟩
  have H18 := Lib.hid h18
  clear h18
  have H18b := Lib.hid (Dq2.of H17.out H18.out)
  gi_wp2_with fail
  refine ⟨trivial, (callsIn_wide.2 (H18b.out.ins (i := 15) (by rw [fillC_total]; decide) (s := [120]) (by decide) (by rw [fillC_total]; decide))).mono ?_⟩
  rintro e w19 ⟨rfl, h19, -⟩
  have H19 := Lib.hid h19
  clear h19
  gi_wp2_with fail
  refine ⟨trivial, (callsIn_wide.2 (H19.out.fst.chunks)).mono ?_⟩
  rintro e w20 ⟨v20, rfl, o20, b20⟩
  rw [k6] at o20
  have H20 := Lib.hid (H19.out.quiet (Chg.of_below b20))
  clear b20
  gi_wp2_with fail
  refine ⟨trivial, (callsIn_wide.2 (told o20 _ rfl _ _ rfl (by decide))).mono ?_⟩
  rintro e w21 ⟨rfl, c21⟩
  have H21 := Lib.hid (H20.out.quiet c21)
  clear c21 o20
  gi_wp2_with fail
  refine ⟨trivial, (callsIn_wide.2 (Dq2Post.swap (H21.out.swap.ins (i := 32) (by rw [fillC_total]; decide) (s := [120]) (by decide) (by rw [fillC_total]; decide)))).mono ?_⟩
  rintro e w22 ⟨rfl, h22, -⟩
  have H22 := Lib.hid h22
  clear h22
  gi_wp2_with fail
  refine ⟨trivial, (callsIn_wide.2 (H22.out.snd.chunks)).mono ?_⟩
  rintro e w23 ⟨v23, rfl, o23, b23⟩
  rw [k7] at o23
  have H23 := Lib.hid (H22.out.quiet (Chg.of_below b23))
  clear b23
  gi_wp2_with fail
  refine ⟨trivial, (callsIn_wide.2 (told o23 _ rfl _ _ rfl (by decide))).mono ?_⟩
  rintro e w24 ⟨rfl, c24⟩
  have H24 := Lib.hid (H23.out.quiet c24)
  clear c24 o23
  gi_wp2_with fail
  refine ⟨trivial, (callsIn_wide.2 (H24.out.snd.at_ k8)).mono ?_⟩
  rintro e w25 ⟨rfl, rfl⟩
  have HB26 := Lib.hid (HB16.out.trans (H24.out.fst.below.mono HB16.out.size))
  gi_wp2_with fail
  refine ⟨trivial, (callsIn_wide.2 (filled_any 33 (by decide) _)).mono ?_⟩
  rintro e w27 ⟨d27, rfl, -, h27⟩
  have H27 := Lib.hid h27
  clear h27
  gi_wp2_with fail
  refine ⟨trivial, (callsIn_wide.2 (filled_any 33 (by decide) _)).mono ?_⟩
  rintro e w28 ⟨d28, rfl, -, h28⟩
  have H28 := Lib.hid h28
  clear h28
  have H28b := Lib.hid (Dq2.of H27.out H28.out)
  gi_wp2_with fail
  refine ⟨trivial, (callsIn_wide.2 (H28b.out.ins (i := 32) (by rw [fillC_total]; decide) (s := [120]) (by decide) (by rw [fillC_total]; decide))).mono ?_⟩
  rintro e w29 ⟨rfl, h29, -⟩
  have H29 := Lib.hid h29
  clear h29
  gi_wp2_with fail
  refine ⟨trivial, (callsIn_wide.2 (H29.out.fst.chunks)).mono ?_⟩
  rintro e w30 ⟨v30, rfl, o30, b30⟩
  rw [k9] at o30
  have H30 := Lib.hid (H29.out.quiet (Chg.of_below b30))
  clear b30
  gi_wp2_with fail
  refine ⟨trivial, (callsIn_wide.2 (told o30 _ rfl _ _ rfl (by decide))).mono ?_⟩
  rintro e w31 ⟨rfl, c31⟩
  have H31 := Lib.hid (H30.out.quiet c31)
  clear c31 o30
  gi_wp2_with fail
  refine ⟨trivial, (callsIn_wide.2 (Dq2Post.swap (H31.out.swap.ins (i := 33) (by rw [fillC_total]; decide) (s := [120]) (by decide) (by rw [fillC_total]; decide)))).mono ?_⟩
  rintro e w32 ⟨rfl, h32, -⟩
  have H32 := Lib.hid h32
  clear h32
  gi_wp2_with fail
  refine ⟨trivial, (callsIn_wide.2 (H32.out.snd.chunks)).mono ?_⟩
  rintro e w33 ⟨v33, rfl, o33, b33⟩
  rw [k10] at o33
  have H33 := Lib.hid (H32.out.quiet (Chg.of_below b33))
  clear b33
  gi_wp2_with fail
  refine ⟨trivial, (callsIn_wide.2 (told o33 _ rfl _ _ rfl (by decide))).mono ?_⟩
  rintro e w34 ⟨rfl, c34⟩
  have H34 := Lib.hid (H33.out.quiet c34)
  clear c34 o33
  have HB35 := Lib.hid (HB26.out.trans (H34.out.fst.below.mono HB26.out.size))
  gi_wp2_with fail
  refine ⟨trivial, (callsIn_wide.2 (filled_any 40 (by decide) _)).mono ?_⟩
  rintro e w36 ⟨d36, rfl, -, h36⟩
  have H36 := Lib.hid h36
  clear h36
  gi_wp2_with fail
  refine ⟨trivial, (callsIn_wide.2 (H36.out.trim 30 34)).mono ?_⟩
  rintro e w37 ⟨rfl, h37, -⟩
  have H37 := Lib.hid h37
  clear h37
  gi_wp2_with fail
  refine ⟨trivial, (callsIn_wide.2 (H37.out.chunks)).mono ?_⟩
  rintro e w38 ⟨v38, rfl, o38, b38⟩
  rw [k11] at o38
  have H38 := Lib.hid (H37.out.quiet (Chg.of_below b38))
  clear b38
  gi_wp2_with fail
  refine ⟨trivial, (callsIn_wide.2 (told o38 _ rfl _ _ rfl (by decide))).mono ?_⟩
  rintro e w39 ⟨rfl, c39⟩
  have H39 := Lib.hid (H38.out.quiet c39)
  clear c39 o38
  gi_wp2_with fail
  refine ⟨trivial, (callsIn_wide.2 (H39.out.trim 5 5)).mono ?_⟩
  rintro e w40 ⟨rfl, h40, -⟩
  have H40 := Lib.hid h40
  clear h40
  rw [k12] at H40
  gi_wp2_with fail
  refine ⟨trivial, (callsIn_wide.2 (H40.out.chunks)).mono ?_⟩
  rintro e w41 ⟨v41, rfl, o41, b41⟩
  obtain ⟨a41, c41, rfl, -⟩ := intsRd o41
  rw [show (sizesL []).length = 0 from rfl]
  have H41 := Lib.hid (H40.out.quiet (Chg.of_below b41))
  clear b41 o41
  gi_wp2_with fail
  refine ⟨trivial, (callsIn_wide.2 (H41.out.insArg (i := -1) (by decide) ⟨#[120]⟩)).mono ?_⟩
  rintro e w42 ⟨rfl, rfl⟩
  gi_wp2_with fail
  refine ⟨trivial, (callsIn_wide.2 (H41.out.insArg (i := 1) (by decide) ⟨#[120]⟩)).mono ?_⟩
  rintro e w43 ⟨rfl, rfl⟩
  gi_wp2_with fail
  refine ⟨trivial, (callsIn_wide.2 (H41.out.ins (i := 0) (by decide) (s := []) (by decide) (by decide))).mono ?_⟩
  rintro e w44 ⟨rfl, h44, -⟩
  have H44 := Lib.hid h44
  clear h44
  rw [k13] at H44
  gi_wp2_with fail
  refine ⟨trivial, (callsIn_wide.2 (H44.out.push false (s := [97, 98, 99]) (by decide) (by decide))).mono ?_⟩
  rintro e w45 ⟨rfl, h45, -⟩
  have H45 := Lib.hid h45
  clear h45
  gi_wp2_with fail
  refine ⟨trivial, (callsIn_wide.2 (H45.out.cost)).mono ?_⟩
  rintro e w46 ⟨rfl, rfl⟩
  rw [k14]
  have HB47 := Lib.hid (HB35.out.trans (H45.out.below.mono HB35.out.size))
  gi_wp2_with fail
  refine ⟨trivial, (callsIn_wide.2 (trim_nil _ _ _)).mono ?_⟩
  rintro e w48 ⟨rfl, rfl⟩
  gi_wp2_with fail
  refine ⟨trivial, (callsIn_wide.2 (each_any _ _)).mono ?_⟩
  rintro e w49 ⟨rfl, rfl⟩
  have hnf : ∀ (b : Nat) (W : World), Sem.run Try.prog (binOp BinOp.eql 52 (.func (.func 41) #[] #[.pointer (some ⟨b, 0, none⟩)]) Value.nilFunc) W = .ok (.bool false) W := fun b W => rfl
  gi_wp2_with fail
  have hbx : Boxed (w.alloc (.cells #[.bool false] 4)) w.heap.size 4 (.bool false) := Boxed.new w _ _
  have hcw : Below (w.alloc (.cells #[.bool false] 4)).heap.size (w.alloc (.cells #[.bool false] 4)) (w45.alloc (.cells #[.pointer none] 24)) := HB47.out.alloc HB47.out.size _
  have hbx2 : Boxed (w45.alloc (.cells #[.pointer none] 24)) w.heap.size 4 (.bool false) := (hcw.block _ hbx.lt).trans hbx
  have hbp : Boxed (w45.alloc (.cells #[.pointer none] 24)) w45.heap.size 24 (.pointer none) := Boxed.new w45 _ _
  have hbw : Below w.heap.size w (w45.alloc (.cells #[.pointer none] 24)) := ((Below.refl _ w).alloc (Nat.le_refl _) _).trans (hcw.mono (by simp))
  have hszw : w.heap.size + 1 ≤ w45.heap.size := by have := HB47.out.size; simpa using this
  obtain ⟨WL, hWL⟩ : ∃ WL, w45.alloc (.cells #[.pointer none] 24) = WL := ⟨_, rfl⟩
  have hszl : WL.heap.size = w45.heap.size + 1 := by rw [← hWL]; simp
  rw [hWL] at hbx2 hbp hbw ⊢
  clear hcw hbx hWL
  refine range_skip rfl (by omega) (gf := 41) (lb := #[.pointer (some ⟨w45.heap.size, 0, none⟩)]) rfl trivial (enters_of Try.func41 (by kernel_rfl) rfl)
    (each_stops 2 (by omega) w45.heap.size none [] WL (KeepsT dqT) (fun d v gs A => DeqAt A d v gs []) (fun W _ => holdsT [] W) hbp.cell (.inl ⟨rfl, rfl⟩) DGood.nil.toFits) (fun h k => h.trans k) (fun W l o o' _ h1 h2 _ => KeepsT.putObj o' h1 h2) (Below.refl _ _) (fun _ => rfl)
    (fun pre W => Boxed W w.heap.size 4 (.bool false) ∧ Below w.heap.size w W) (fun c pre _ => c = .ret ∧ pre ≠ [])
    (OwnFrom.and (Own.from (boxed_own _ _ _) _) (ownFrom_below (Nat.le_refl _) (by omega))) (fun c => ownFrom_pure _ (fun pre => c = .ret ∧ pre ≠ [])) ⟨hbx2, hbw⟩ ?body ?done ?stop
  case body =>
    rintro l pre ⟨i, s⟩ W ⟨hbH, hB⟩ hlt
    exact absurd hlt (Nat.not_lt_zero _)
  case done =>
    rintro D ys W hD rfl ⟨hbH, hB⟩ hK
    have hbH' := hbH.cell
    have hbHf := hbH.frozen
    gi_wp2_with fail
    refine ⟨trivial, (callsIn_wide.2 (push_nil _ _ _)).mono ?_⟩
    rintro e w51 ⟨rfl, rfl⟩
    gi_wp2_with fail
    refine ⟨trivial, (callsIn_wide.2 (ins_nil _ _ _)).mono ?_⟩
    rintro e w52 ⟨rfl, rfl⟩
    gi_wp2_with fail
    refine ⟨trivial, (callsIn_wide.2 (len_nil _)).mono ?_⟩
    rintro e w53 ⟨rfl, rfl⟩
    gi_wp2_with fail
    refine ⟨trivial, (callsIn_wide.2 (cost_nil _)).mono ?_⟩
    rintro e w54 ⟨rfl, rfl⟩
    gi_wp2_with fail
    have hK' := (KeepsOthers.setCell W ⟨w.heap.size, 0, none⟩ (.bool true)).same D _ hK rfl
    have hx0 := cell_kept (hbH.set (.bool true)).cell (grownBy_putObj' _ D (.deferred none)) (fun r e => by cases e; exact ⟨_, hK', rfl⟩)
    refine ⟨by simp, .inl ⟨_, _, rfl, run_takeDeferred hK', ?_⟩⟩
    refine ⟨.bool true, ?_, rfl, ?_⟩
    · simp [results, Try.f6, go_sem, hx0]
    · exact (hB.setCell (p := ⟨w.heap.size, 0, none⟩) (Nat.le_refl _) _).trans (belowK_b (w := WL) (by omega) _ D _ _ hD hK' rfl rfl)
  case stop =>
    rintro D c pre W hD hSp ⟨rfl, hn⟩ _
    exact absurd (List.prefix_nil.1 hSp) hn
set_option linter.unusedVariables false

theorem own : ownKnob Try.prog.godebug = none := by kernel_rfl
theorem laidOut : laidOutB Try.prog = true := by kernel_rfl

set_option maxRecDepth 100000 in
theorem lifted (os : Os) (started : os.Started) (H : Type) (enc : TypeId × Value → H) :
    ReturnsInHanded {} Try.checked os 6 .any (Rows.dequeKnownSpec.pre6 enc Try.prog Try.f6 Rows.dequeKnownRow.domain false) (Rows.dequeKnownSpec.post enc Try.prog Try.f6 false true false false) := by
  refine returnsInHanded_of_change_sized (C := Try.checked) own started (by kernel_rfl) Try.func6
    (ChangeSpec.witness6 (enc := enc) (C := Try.checked) false ⟨#[], #[], []⟩ 8 (by kernel_rfl) (by kernel_rfl) (by kernel_rfl) (by kernel_rfl)) ?_
  intro W base args ds gs before hval0 hW hcnd hsz _
  have hW' := hW
  obtain ⟨p, q, hA0, hV, rfl, hfz, hnd⟩ := hW
  have hA : DataW.TrodAll enc Try.prog W 0 (fun _ => true) true Try.f6.params.toList args.toList ds p := hA0
  rw [Try.params6] at hA
  obtain ⟨hargs, rfl, rfl⟩ := trodAll_nil hA
  obtain rfl : args = #[] := by cases args; simp_all
  obtain ⟨rfl, rfl⟩ := trodVars_none hV
  clear hA0 hval0 hsz
  refine (walk W).mono fun e W' ⟨he, bel⟩ => ?_
  subst he
  exact ⟨_, rfl, _, _, _, [], _, [], hW', trodAll_mk1 (shut_bool Try.underlying4 _), trodAll_mk0, rfl, bel.frame _, fun h => by cases h⟩

theorem over : Rows.dequeKnownRow.holds Try.pinned (OpenSpec.ofChange Rows.dequeKnownSpec) :=
  OpenClaim.holds_of_wide 6 Try.f6 rfl rfl rfl rfl rfl rfl rfl ⟨rfl, rfl, rfl, rfl, rfl⟩ rfl rfl rfl rfl rfl (by kernel_rfl) Try.func6 (by kernel_rfl)
    (of_decide_eq_true (by kernel_rfl)) (by unfold Func.isWrapper; first | (rw [if_pos (by decide +kernel)]; kernel_rfl) | (rw [if_neg (by decide +kernel)]; exact ⟨rfl, rfl⟩))
    (fun os started H enc _ => lifted os started H enc)

theorem proved : Rows.DequeKnownSaid := over
#print axioms proved

end Go.Proofs.Ytefoieloakfhfaa.dequeKnown
