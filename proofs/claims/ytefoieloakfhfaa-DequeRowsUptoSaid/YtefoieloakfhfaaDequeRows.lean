/- Whatever is done to a deque, it is the row to which the same is done: every text at its place, the chunks' numbers even. -/
import Derived.Test.YtefoieloakfhfaaOpenOps
import Derived.Deep.CutRange
import Derived.Deep.RegionHeld3
import Derived.Lib.MinMax
import Derived.Test.YtefoieloakfhfaaChecked
import Derived.Test.YtefoieloakfhfaaRows
namespace Go.Proofs.Ytefoieloakfhfaa
open Go.RowKit Pantry
theorem Dq.removeOut {w0 w : World} {d : Nat} {cs : List (List Txt)} (h : Dq w0 w d cs) {i : Int} (hi : i < 0 ∨ (total cs : Int) ≤ i) :
    Calls Try.prog 18 #[.pointer (some ⟨d, 0, none⟩), .int .i64 i] w fun e w' => e = .returned (.bool false) ∧ w = w' :=
  h.stay fun v gs hd => remove_out w d v gs cs i hd hi
theorem Dq.atOut {w0 w : World} {d : Nat} {cs : List (List Txt)} (h : Dq w0 w d cs) {i : Int} (hi : i < 0 ∨ (total cs : Int) ≤ i) :
    Calls Try.prog 23 #[.pointer (some ⟨d, 0, none⟩), .int .i64 i] w fun e w' => e = .returned (.tuple #[.string ⟨#[]⟩, .bool false]) ∧ w = w' :=
  h.stay fun v gs hd => at_out w d v gs cs i hd hi
end Go.Proofs.Ytefoieloakfhfaa
namespace Go.Proofs.Ytefoieloakfhfaa.dequeRows
open Go Go.Proofs Go.Proofs.Ytefoieloakfhfaa Go.RowKit Go.ChangeShapes Go.WideShapes Go.ChangeAt Pantry

/-- The deque, and the row that is kept beside it. -/
structure RInv (w1 wr : World) (d : Nat) (cs : List (List Txt)) (l : List Txt) (q : Nat) (v : Value) : Prop where
  dq : Dq w1 wr d cs
  c1 : cs.flatten = l
  row : wr.ownsRow w1.heap.size 9 1 v q (txts l)
  len : l.length = q
theorem RInv.few {w1 wr : World} {d : Nat} {cs : List (List Txt)} {l : List Txt} {q : Nat} {v : Value} (h : RInv w1 wr d cs l q v) : q ≤ 1048576 := by
  rw [← h.len, ← h.c1, flatten_length]; exact h.dq.good.total
theorem RInv.quiet {w1 wr w3 : World} {d : Nat} {cs : List (List Txt)} {l : List Txt} {q : Nat} {v : Value} (h : RInv w1 wr d cs l q v) (hc : Chg (fun _ => False) wr w3) : RInv w1 w3 d cs l q v :=
  ⟨h.dq.quiet hc, h.c1, Chg.ownsRow h.row hc fun _ _ e => e, h.len⟩
theorem own_slice {w : World} {base : Nat} {e : TypeId} {size n : Nat} {v : Value} {xs : List Value} (h : w.ownsRow base e size v n xs) (h1 : ∀ u ∈ xs, u.oneCell' = true) : ∃ a c, v = .slice a n c ∧ (a = none → c = 0) ∧ n ≤ c ∧ Rd w a xs := by
  obtain ⟨a, c, rfl, hr⟩ := ownsRow_rd h h1
  refine ⟨a, c, rfl, ?_, ?_, hr⟩
  · rintro rfl
    rcases h.2 with ⟨e, _⟩ | ⟨g, cap, cur, e, _⟩
    · cases e; rfl
    · cases e
  · rcases h.2 with ⟨e, _⟩ | ⟨g, cap, cur, e, _, _, hnc, _⟩
    · cases e; exact Nat.le_refl _
    · cases e; exact hnc
theorem RInv.lenq {w1 wr : World} {d : Nat} {cs : List (List Txt)} {l : List Txt} {q : Nat} {v : Value} (h : RInv w1 wr d cs l q v) : Calls Try.prog 16 #[.pointer (some ⟨d, 0, none⟩)] wr fun e w' => e = .returned (.int .i64 (q : Nat)) ∧ wr = w' := by
  have := h.dq.len
  rwa [show total cs = q by rw [← flatten_length, h.c1, h.len]] at this
theorem RInv.after {w1 w4 w5 : World} {d : Nat} {cs : List (List Txt)} {l : List Txt} {q : Nat} {v : Value} (hd : Dq w1 w4 d cs) (hc : cs.flatten = l) (hown : w5.ownsRow w4.heap.size 9 1 v l.length (txts l)) (hb : Below w4.heap.size w4 w5) (hq : l.length = q) : RInv w1 w5 d cs l q v :=
  ⟨hd.quiet (Chg.of_below hb), hc, hq ▸ ownsRow_base hown hd.below.size, hq⟩
theorem push_put (a : Bool) (s : Txt) {cs : List (List Txt)} {l : List Txt} {q : Nat} (h : cs.flatten = l) (hq : l.length = q) : (pushC a s cs).flatten = putIn l (if a then 0 else q) s := by
  rw [push_row, h]
  cases a
  · simp [putIn, ← hq]
  · simp [putIn]

theorem slice_some {w : World} {base q c : Nat} {a : Option Addr} {l : List Txt} (h : w.ownsRow base 9 1 (.slice a q c) q (txts l)) (hl : l.length = q) {i : Nat} (hi : i < q) : ∃ y, a = some y := by
  obtain ⟨y, hy, -⟩ := txts_cell (rdOf h (txts_one l)) (List.getElem?_eq_getElem (show i < l.length by omega))
  exact ⟨y, hy⟩
theorem ins_put {cs : List (List Txt)} {l : List Txt} {i : Nat} (hg : DGood cs) (h : cs.flatten = l) (hi : i ≤ total cs) (s : Txt) : (insC i s cs).flatten = putIn l i s := by rw [insC_row hg hi, h]
theorem add_zero_addr (a : Addr) : a.add 0 = a := by simp [Addr.add]
/-- What Remove and Pop leave. -/
theorem rem_row {cs : List (List Txt)} {l : List Txt} {i : Nat} (h : cs.flatten = l) (hi : i < total cs) : (removeC i cs).flatten = l.take i ++ l.drop (i + 1) := by
  rw [removeC_row hi, h]; rfl

set_option maxHeartbeats 8000000 in
set_option maxRecDepth 100000 in
theorem walk (a : Option Addr) (n c : Nat) (l0 : List Op7) (w : World) (hl : OpsAt w a n l0) : Calls Try.prog 5 #[.slice a n c] w (OkPost w) := by
  have HW := Lib.hid (wakes_any w)
  have HL := Lib.hid hl
  have hn := hl.few
  clear hl
  go_enter Try.func5, Try.ntmps5
  go_wp2_with (first
    | (go_at_call 9; refine HW.out.mono ?_; rintro e w1 ⟨rfl, hb1⟩
       have HB1 := Lib.hid hb1
       have HN := Lib.hid (Dq.new w1)
       clear hb1)
    | (go_at_call 10; refine HN.out.mono ?_; clear HN; rintro e w2 ⟨rfl, hd2, -⟩
       have HD2 := Lib.hid hd2
       clear hd2))
  go_loopw [4, 31] (fun v i wr => ∃ k q : Nat, ∃ cs l, k ≤ n ∧ i = .int .i64 k ∧ Hid (RInv w1 wr w1.heap.size cs l q v)) (fun _ i _ => n - (intOf i).toNat)
  case atStart => exact ⟨0, 0, [], [], Nat.zero_le _, rfl, Lib.hid ⟨HD2.out, rfl, World.ownsRow_nil _ _ _ _, rfl⟩⟩
  case round =>
    obtain ⟨k, q, cs, l, hk, rfl, HI⟩ := hrel
    by_cases hlt : k < n
    · obtain ⟨o, hok⟩ : ∃ o, l0[k]? = some o := ⟨_, List.getElem?_eq_getElem (by rw [HL.out.len]; exact hlt)⟩
      have hbw : Below w.heap.size w wr := HB1.out.trans (HI.out.dq.below.mono HB1.out.size)
      obtain ⟨y, hy, hcells⟩ := (HL.out.keep hbw).cell k _ hok
      subst hy
      have HCL := Lib.hid (show ∀ j u, o.cells[j]? = some u → wr.cell? ((y.add (k * 7)).add j) = some u from fun j u hj => by rw [Addr.add_add]; exact hcells j u hj)
      have HOK := Lib.hid (HL.out.ok _ (List.mem_of_getElem? hok))
      have HS7 := Lib.hid (show (Try.prog.info? 39).map (·.size) = some 7 by kernel_rfl)
      clear hok hcells hbw
      obtain ⟨a2, c2, hv, -⟩ := ownsRow_rd HI.out.row (txts_one l)
      subst hv
      have hq := HI.out.few
      obtain ⟨owho, oact, oi, oj, oflag, os, obig⟩ := o
      go_upto_region 8 with (first
        | (refine wpl_load_at rfl _ _ rfl _ rfl _ _ HCL.out Try.underlying39 rfl HS7.out ?_)
        | (refine wpList_store_row rfl _ _ _ rfl wr.heap.size (Op7.cells ⟨owho, oact, oi, oj, oflag, os, obig⟩).toArray rfl rfl _ _ (heap_alloc_new wr _) HS7.out rfl (cells_one _) ?_
           generalize hw3 : World.setRow _ wr.heap.size (Op7.cells ⟨owho, oact, oi, oj, oflag, os, obig⟩).toArray = w3
           obtain ⟨f1, f2, f3⟩ := copied hw3
           have g1 : w3.cell? ⟨wr.heap.size, 1, none⟩ = some (.int .i64 oact) := cell_of_row w3 wr.heap.size 1 _ _ _ f1
           have g2 : w3.cell? ⟨wr.heap.size, 2, none⟩ = some (.int .i64 oi) := cell_of_row w3 wr.heap.size 2 _ _ _ f1
           have g3 : w3.cell? ⟨wr.heap.size, 3, none⟩ = some (.int .i64 oj) := cell_of_row w3 wr.heap.size 3 _ _ _ f1
           have g4 : w3.cell? ⟨wr.heap.size, 4, none⟩ = some (.bool oflag) := cell_of_row w3 wr.heap.size 4 _ _ _ f1
           have g5 : w3.cell? ⟨wr.heap.size, 5, none⟩ = some (.string ⟨os.toArray⟩) := cell_of_row w3 wr.heap.size 5 _ _ _ f1
           have HI3 := Lib.hid (HI.out.quiet f3)
           have HF1 := Lib.hid f1
           clear hw3 f1 f2 f3))
      have hq2 : total cs = q := by rw [← flatten_length, HI.out.c1, HI.out.len]
      have HTQ := Lib.hid hq2
      have hsz := mk_size os
      have hsl := HOK.out.s
      clear hq2
      obtain ⟨-, -, -, hnil2, hqc2, -⟩ : True ∧ True ∧ True ∧ (a2 = none → c2 = 0) ∧ q ≤ c2 ∧ True := by
        obtain ⟨a', c', e, h1, h2, -⟩ := own_slice HI.out.row (txts_one l)
        cases e; exact ⟨trivial, trivial, trivial, h1, h2, trivial⟩
      simp only [Act.put]
      go_cut [7, 31] from 31 to 230 (fun b i wx => ∃ inb : Bool, b = .bool inb ∧ Hid (inb = decide (0 ≤ oi ∧ oi < (q : Int))) ∧ i = .int .i64 k ∧ wx = w3)
      case first =>
        have hin : (¬ (0 : Int) ≤ oi) ∨ ((0 : Int) ≤ oi ∧ oi < (q : Int)) ∨ ((0 : Int) ≤ oi ∧ ¬ oi < (q : Int)) := by omega
        rcases hin with hin | ⟨hin1, hin⟩ | ⟨hin1, hin⟩
        · go_wp2_with fail
          go_meet
          exact ⟨false, rfl, Lib.hid (decide_eq_false (by omega)).symm, rfl, rfl⟩
        · go_wp2_with fail
          go_meet
          exact ⟨true, rfl, Lib.hid (decide_eq_true ⟨hin1, hin⟩).symm, rfl, rfl⟩
        · go_wp2_with fail
          go_meet
          exact ⟨false, rfl, Lib.hid (decide_eq_false (by omega)).symm, rfl, rfl⟩
      case rest =>
        obtain ⟨inb, rfl, HIN, rfl, rfl⟩ := hcut
        -- ACTS
        by_cases ha : oact = 0
        · as_aux_lemma =>
            subst ha
            by_cases hx1 : 1048576 < os.length
            · have hx2 : (1048576 : Int) < (os.length : Int) := by omega
              go_wp2_with fail
              go_roundw
              case rel => exact ⟨k + 1, q, cs, l, by omega, by go_num, HI3⟩
              case measure => simp [intOf]; omega
            · have hx2 : ¬ (1048576 : Int) < (os.length : Int) := by omega
              by_cases hq1 : q < 1048576
              · have hq2 : ¬ (1048576 : Int) ≤ (q : Int) := by omega
                have HP := Lib.hid (HI3.out.dq.push oflag (s := os) (by omega) (by rw [HTQ.out]; exact hq1))
                obtain ⟨q5, hq5⟩ : ∃ q5, (putIn l (if oflag then 0 else q) os).length = q5 := ⟨_, rfl⟩
                have HQ5 := Lib.hid hq5
                clear hq5
                have HPP := Lib.hid (push_put oflag os HI.out.c1 HI.out.len)
                cases oflag
                all_goals
                  go_wp2_with (first
                    | (go_at_call 11; refine HP.out.mono ?_; clear HP; rintro e w4 ⟨rfl, hd4, hk4⟩
                       have ho4 := ownsRow_keeps HI3.out.row hk4 (by unfold ndT dqT; decide)
                       have HR4 := Lib.hid (rdOf ho4 (txts_one l))
                       have HD4 := Lib.hid hd4
                       have g15 : w4.cell? ⟨wr.heap.size, 5, none⟩ = some (.string ⟨os.toArray⟩) := cell_of_row w4 wr.heap.size 5 _ _ _ (hk4 _ _ _ _ (by unfold ndT dqT; decide) HF1.out)
                       clear ho4 hd4 hk4)
                    | (go_at_call 17; refine (lput_any _ a2 q c2 _ l os HI.out.len hq HR4.out hnil2 hqc2 (by simp)).mono ?_; rintro e w5 ⟨v5, rfl, hown5, hb5⟩
                       have hi5 := RInv.after HD4.out HPP.out hown5 hb5 HQ5.out
                       obtain ⟨a5, c5, rfl, -⟩ := own_slice hi5.row (txts_one _)
                       have HL5 := Lib.hid hi5.lenq
                       have HI5 := Lib.hid hi5
                       clear hi5 hown5 hb5)
                    | (go_at_call 16; refine HL5.out.mono ?_; clear HL5; rintro e w6 ⟨rfl, rfl⟩))
                  go_roundw
                  case rel => exact ⟨k + 1, q5, _, _, by omega, by go_num, HI5⟩
                  case measure => simp [intOf]; omega
              · have hq2 : (1048576 : Int) ≤ (q : Int) := by omega
                go_wp2_with fail
                go_roundw
                case rel => exact ⟨k + 1, q, cs, l, by omega, by go_num, HI3⟩
                case measure => simp [intOf]; omega
        · have hn0 : (oact == 0) = false := by simp [ha]
          clear ha
          by_cases ha : oact = 1
          · as_aux_lemma =>
              subst ha
              by_cases hq0 : q = 0
              · subst hq0
                have HP := Lib.hid (HI3.out.dq.popped (by rw [HI.out.c1]; exact List.eq_nil_of_length_eq_zero HI.out.len) oflag)
                go_wp2_with (go_at_call 12; refine HP.out.mono ?_; clear HP; rintro e w4 ⟨rfl, rfl⟩)
                go_roundw
                case rel => exact ⟨k + 1, 0, cs, l, by omega, by go_num, HI3⟩
                case measure => simp [intOf]; omega
              · cases oflag with
                | true =>
                  obtain ⟨i, hi⟩ : ∃ i, q = i + 1 := ⟨q - 1, by omega⟩
                  have HLI := Lib.hid hi
                  obtain ⟨x, hx⟩ : ∃ x, l[0]? = some x := ⟨_, List.getElem?_eq_getElem (by rw [HI.out.len]; omega)⟩
                  have HPA := Lib.hid (show popAt true cs = 0 by unfold popAt; rw [HTQ.out]; simp; try omega)
                  have HP := Lib.hid (HI3.out.dq.pop true (x := x) (by rw [HI.out.c1, HPA.out]; exact hx))
                  rw [HPA.out] at HP
                  have HRR := Lib.hid (show (removeC 0 cs).flatten = l.take 0 ++ l.drop (1) from rem_row HI.out.c1 (show 0 < total cs by rw [HTQ.out]; omega))
                  have HX := Lib.hid hx
                  have hw1 : IntKind.i64.wrap ((q : Int) - 1) = (i : Int) := by rw [IntKind.wrap_i64]; omega
                  have hqz : ((q : Int) == 0) = false := by simp; omega
                  have hic : i ≤ c2 := by omega
                  have hic1 : 1 ≤ c2 := by omega
                  have hic2 : i + 1 ≤ c2 := by omega
                  have hwi : IntKind.i64.wrap ((i : Int) + 1) = (i : Int) + 1 := by rw [IntKind.wrap_i64]; omega
                  have hi0 : (0 : Int) ≤ (i : Int) + 1 := by omega
                  have hi1 : (i : Int) + 1 ≤ (q : Int) := by omega
                  have hi2 : i + 1 ≤ q := by omega
                  have hi3 : i < q := by omega
                  have hi4 : 0 < q := by omega
                  have hi5 : 1 ≤ q := by omega
                  have hi6 : (1 : Int) ≤ (q : Int) := by omega
                  have hw0 : IntKind.i64.wrap 1 = 1 := by rw [IntKind.wrap_i64]; omega
                  obtain ⟨y2, rfl⟩ := slice_some HI.out.row HI.out.len hi4
                  clear hi hx
                  go_upto_region 28 with (first
                    | (go_at_call 12; refine HP.out.mono ?_; clear HP; rintro e w4 ⟨rfl, hd4, hk4⟩
                       have ho4 := ownsRow_keeps HI3.out.row hk4 (by unfold ndT dqT; decide)
                       have hr4 := rdOf ho4 (txts_one l)
                       have HR4 := Lib.hid hr4
                       have HD4 := Lib.hid hd4
                       have g14 : w4.cell? ⟨wr.heap.size, 4, none⟩ = some (.bool true) := cell_of_row w4 wr.heap.size 4 _ _ _ (hk4 _ _ _ _ (by unfold ndT dqT; decide) HF1.out)
                       obtain ⟨y3, hy3, hcx⟩ := txts_cell hr4 HX.out
                       cases hy3
                       unfold txt at hcx
                       try simp only [add_zero_addr] at hcx
                       clear ho4 hd4 hk4 hr4))
                  obtain ⟨q5, hq5⟩ : ∃ q5, (l.take 0 ++ l.drop (1)).length = q5 := ⟨_, rfl⟩
                  have HQ5 := Lib.hid hq5
                  clear hq5
                  have HLN := Lib.hid HI.out.len
                  have HL1 := Lib.hid (show (txts (l.take 0)).length = 0 * 1 by rw [txts_length, List.length_take, HI.out.len]; omega)
                  have HR1 := Lib.hid (show Rd w4 (some y2) (txts (l.take 0)) by have := Rd.part HR4.out 0 0; rw [List.drop_zero, ← txts_take] at this; exact this)
                  have HR2 := Lib.hid (show Rd w4 (some (y2.add (1))) (txts (l.drop (1))) by
                    have := Rd.part HR4.out (1) (q - (1))
                    rw [← txts_drop, List.take_of_length_le (by rw [txts_length, List.length_drop, HLN.out]; exact Nat.le_refl _)] at this; exact this)
                  by_cases hci : c2 = 1
                  · have HCI := Lib.hid hci
                    have hct : (c2 = 1) = True := eq_true hci
                    clear hci
                    go_region_held3 (fun w' => True)
                      (first
                        | trivial
                        | go_keep)
                      (first
                        | (refine step_append_gen strT (by rfl) _ _ (by rfl) w4.heap.size (by rfl) (own_empty w4 _ _ (Nat.le_refl _)).drew (by rfl) (fun h => by cases h) HL1.out ((Rd.keep HR1.out (((Below.refl _ _).alloc (Nat.le_refl _) _).drew))) (by omega) (by simp) ?_; intro v5 w5 hown5 hg5
                           have hb5 : Below w4.heap.size w4 w5 := (((Below.refl w4.heap.size w4).alloc (Nat.le_refl _) _).drew).grown hg5 (by simp) (fun k hk => by cases hk; exact Nat.le_refl _)
                           have HO5 := Lib.hid hown5
                           clear hown5 hg5)
                        | (refine step_append_gen strT (by rfl) _ _ (by rfl) w4.heap.size (by rfl) HO5.out (news := txts (l.drop (1))) (by rfl) (fun h => by cases h) (by rw [txts_length, List.length_drop, HLN.out]; omega) (by rw [List.drop_eq_nil_of_le (by rw [HLN.out]; have := HCI.out; omega)]; exact Rd.nil _ _) (by omega) hb5.size ?_; intro v6 w6 hown6 hg6
                           have HO6 := Lib.hid hown6
                           have hb6 : Below w4.heap.size w4 w6 := hb5.grown hg6 hb5.size (fun k hk => (HO5.out.lt k hk).1)
                           clear hown6 hg6))
                    have hi6 := RInv.after HD4.out HRR.out (own_cast HO6.out (by rw [List.length_append, List.length_take, List.length_drop, HLN.out]; omega) (by simp [txts])) hb6 HQ5.out
                    obtain ⟨a6, c6, rfl, -⟩ := own_slice hi6.row (txts_one _)
                    have HL5 := Lib.hid hi6.lenq
                    have HI5 := Lib.hid hi6
                    clear hi6 HO6 HO5 hb5 hb6
                    go_wp2_with (go_at_call 16; refine HL5.out.mono ?_; clear HL5; rintro e w9 ⟨rfl, rfl⟩)
                    go_roundw
                    case rel => exact ⟨k + 1, q5, _, _, by omega, by go_num, HI5⟩
                    case measure => simp [intOf]; omega
                  · skip
                    go_region_held3 (fun w' => True)
                      (first
                        | trivial
                        | go_keep)
                      (first
                        | (refine step_append_gen strT (by rfl) _ _ (by rfl) w4.heap.size (by rfl) (own_empty w4 _ _ (Nat.le_refl _)).drew (by rfl) (fun h => by cases h) HL1.out ((Rd.keep HR1.out (((Below.refl _ _).alloc (Nat.le_refl _) _).drew))) (by omega) (by simp) ?_; intro v5 w5 hown5 hg5
                           have hb5 : Below w4.heap.size w4 w5 := (((Below.refl w4.heap.size w4).alloc (Nat.le_refl _) _).drew).grown hg5 (by simp) (fun k hk => by cases hk; exact Nat.le_refl _)
                           have HO5 := Lib.hid hown5
                           clear hown5 hg5)
                        | (refine step_append_gen strT (by rfl) _ _ (by rfl) w4.heap.size (by rfl) HO5.out (news := txts (l.drop (1))) (by rfl) (fun h => by cases h) (by rw [txts_length, List.length_drop, HLN.out]; omega) (Rd.keep HR2.out hb5) (by omega) hb5.size ?_; intro v6 w6 hown6 hg6
                           have HO6 := Lib.hid hown6
                           have hb6 : Below w4.heap.size w4 w6 := hb5.grown hg6 hb5.size (fun k hk => (HO5.out.lt k hk).1)
                           clear hown6 hg6))
                    have hi6 := RInv.after HD4.out HRR.out (own_cast HO6.out (by rw [List.length_append, List.length_take, List.length_drop, HLN.out]; omega) (by simp [txts])) hb6 HQ5.out
                    obtain ⟨a6, c6, rfl, -⟩ := own_slice hi6.row (txts_one _)
                    have HL5 := Lib.hid hi6.lenq
                    have HI5 := Lib.hid hi6
                    clear hi6 HO6 HO5 hb5 hb6
                    go_wp2_with (go_at_call 16; refine HL5.out.mono ?_; clear HL5; rintro e w9 ⟨rfl, rfl⟩)
                    go_roundw
                    case rel => exact ⟨k + 1, q5, _, _, by omega, by go_num, HI5⟩
                    case measure => simp [intOf]; omega
                | false =>
                  obtain ⟨i, hi⟩ : ∃ i, q = i + 1 := ⟨q - 1, by omega⟩
                  have HLI := Lib.hid hi
                  obtain ⟨x, hx⟩ : ∃ x, l[i]? = some x := ⟨_, List.getElem?_eq_getElem (by rw [HI.out.len]; omega)⟩
                  have HPA := Lib.hid (show popAt false cs = i by unfold popAt; rw [HTQ.out]; simp; try omega)
                  have HP := Lib.hid (HI3.out.dq.pop false (x := x) (by rw [HI.out.c1, HPA.out]; exact hx))
                  rw [HPA.out] at HP
                  have HRR := Lib.hid (show (removeC i cs).flatten = l.take i ++ l.drop (i + 1) from rem_row HI.out.c1 (show i < total cs by rw [HTQ.out]; omega))
                  have HX := Lib.hid hx
                  have hw1 : IntKind.i64.wrap ((q : Int) - 1) = (i : Int) := by rw [IntKind.wrap_i64]; omega
                  have hqz : ((q : Int) == 0) = false := by simp; omega
                  have hic : i ≤ c2 := by omega
                  have hic1 : 1 ≤ c2 := by omega
                  have hic2 : i + 1 ≤ c2 := by omega
                  have hwi : IntKind.i64.wrap ((i : Int) + 1) = (i : Int) + 1 := by rw [IntKind.wrap_i64]; omega
                  have hi0 : (0 : Int) ≤ (i : Int) + 1 := by omega
                  have hi1 : (i : Int) + 1 ≤ (q : Int) := by omega
                  have hi2 : i + 1 ≤ q := by omega
                  have hi3 : i < q := by omega
                  have hi4 : 0 < q := by omega
                  have hi5 : 1 ≤ q := by omega
                  have hi6 : (1 : Int) ≤ (q : Int) := by omega
                  have hw0 : IntKind.i64.wrap 1 = 1 := by rw [IntKind.wrap_i64]; omega
                  obtain ⟨y2, rfl⟩ := slice_some HI.out.row HI.out.len hi4
                  clear hi hx
                  go_upto_region 28 with (first
                    | (go_at_call 12; refine HP.out.mono ?_; clear HP; rintro e w4 ⟨rfl, hd4, hk4⟩
                       have ho4 := ownsRow_keeps HI3.out.row hk4 (by unfold ndT dqT; decide)
                       have hr4 := rdOf ho4 (txts_one l)
                       have HR4 := Lib.hid hr4
                       have HD4 := Lib.hid hd4
                       have g14 : w4.cell? ⟨wr.heap.size, 4, none⟩ = some (.bool false) := cell_of_row w4 wr.heap.size 4 _ _ _ (hk4 _ _ _ _ (by unfold ndT dqT; decide) HF1.out)
                       obtain ⟨y3, hy3, hcx⟩ := txts_cell hr4 HX.out
                       cases hy3
                       unfold txt at hcx
                       try simp only [add_zero_addr] at hcx
                       clear ho4 hd4 hk4 hr4))
                  obtain ⟨q5, hq5⟩ : ∃ q5, (l.take i ++ l.drop (i + 1)).length = q5 := ⟨_, rfl⟩
                  have HQ5 := Lib.hid hq5
                  clear hq5
                  have HLN := Lib.hid HI.out.len
                  have HL1 := Lib.hid (show (txts (l.take i)).length = i * 1 by rw [txts_length, List.length_take, HI.out.len]; omega)
                  have HR1 := Lib.hid (show Rd w4 (some y2) (txts (l.take i)) by have := Rd.part HR4.out 0 i; rw [List.drop_zero, ← txts_take] at this; exact this)
                  have HR2 := Lib.hid (show Rd w4 (some (y2.add (i + 1))) (txts (l.drop (i + 1))) by
                    have := Rd.part HR4.out (i + 1) (q - (i + 1))
                    rw [← txts_drop, List.take_of_length_le (by rw [txts_length, List.length_drop, HLN.out]; exact Nat.le_refl _)] at this; exact this)
                  by_cases hci : c2 = i + 1
                  · have HCI := Lib.hid hci
                    have hct : (c2 = i + 1) = True := eq_true hci
                    clear hci
                    go_region_held3 (fun w' => True)
                      (first
                        | trivial
                        | go_keep)
                      (first
                        | (refine step_append_gen strT (by rfl) _ _ (by rfl) w4.heap.size (by rfl) (own_empty w4 _ _ (Nat.le_refl _)).drew (by rfl) (fun h => by cases h) HL1.out ((Rd.keep HR1.out (((Below.refl _ _).alloc (Nat.le_refl _) _).drew))) (by omega) (by simp) ?_; intro v5 w5 hown5 hg5
                           have hb5 : Below w4.heap.size w4 w5 := (((Below.refl w4.heap.size w4).alloc (Nat.le_refl _) _).drew).grown hg5 (by simp) (fun k hk => by cases hk; exact Nat.le_refl _)
                           have HO5 := Lib.hid hown5
                           clear hown5 hg5)
                        | (refine step_append_gen strT (by rfl) _ _ (by rfl) w4.heap.size (by rfl) HO5.out (news := txts (l.drop (i + 1))) (by rfl) (fun h => by cases h) (by rw [txts_length, List.length_drop, HLN.out]; omega) (by rw [List.drop_eq_nil_of_le (by rw [HLN.out]; have := HCI.out; omega)]; exact Rd.nil _ _) (by omega) hb5.size ?_; intro v6 w6 hown6 hg6
                           have HO6 := Lib.hid hown6
                           have hb6 : Below w4.heap.size w4 w6 := hb5.grown hg6 hb5.size (fun k hk => (HO5.out.lt k hk).1)
                           clear hown6 hg6))
                    have hi6 := RInv.after HD4.out HRR.out (own_cast HO6.out (by rw [List.length_append, List.length_take, List.length_drop, HLN.out]; omega) (by simp [txts])) hb6 HQ5.out
                    obtain ⟨a6, c6, rfl, -⟩ := own_slice hi6.row (txts_one _)
                    have HL5 := Lib.hid hi6.lenq
                    have HI5 := Lib.hid hi6
                    clear hi6 HO6 HO5 hb5 hb6
                    go_wp2_with (go_at_call 16; refine HL5.out.mono ?_; clear HL5; rintro e w9 ⟨rfl, rfl⟩)
                    go_roundw
                    case rel => exact ⟨k + 1, q5, _, _, by omega, by go_num, HI5⟩
                    case measure => simp [intOf]; omega
                  · skip
                    go_region_held3 (fun w' => True)
                      (first
                        | trivial
                        | go_keep)
                      (first
                        | (refine step_append_gen strT (by rfl) _ _ (by rfl) w4.heap.size (by rfl) (own_empty w4 _ _ (Nat.le_refl _)).drew (by rfl) (fun h => by cases h) HL1.out ((Rd.keep HR1.out (((Below.refl _ _).alloc (Nat.le_refl _) _).drew))) (by omega) (by simp) ?_; intro v5 w5 hown5 hg5
                           have hb5 : Below w4.heap.size w4 w5 := (((Below.refl w4.heap.size w4).alloc (Nat.le_refl _) _).drew).grown hg5 (by simp) (fun k hk => by cases hk; exact Nat.le_refl _)
                           have HO5 := Lib.hid hown5
                           clear hown5 hg5)
                        | (refine step_append_gen strT (by rfl) _ _ (by rfl) w4.heap.size (by rfl) HO5.out (news := txts (l.drop (i + 1))) (by rfl) (fun h => by cases h) (by rw [txts_length, List.length_drop, HLN.out]; omega) (Rd.keep HR2.out hb5) (by omega) hb5.size ?_; intro v6 w6 hown6 hg6
                           have HO6 := Lib.hid hown6
                           have hb6 : Below w4.heap.size w4 w6 := hb5.grown hg6 hb5.size (fun k hk => (HO5.out.lt k hk).1)
                           clear hown6 hg6))
                    have hi6 := RInv.after HD4.out HRR.out (own_cast HO6.out (by rw [List.length_append, List.length_take, List.length_drop, HLN.out]; omega) (by simp [txts])) hb6 HQ5.out
                    obtain ⟨a6, c6, rfl, -⟩ := own_slice hi6.row (txts_one _)
                    have HL5 := Lib.hid hi6.lenq
                    have HI5 := Lib.hid hi6
                    clear hi6 HO6 HO5 hb5 hb6
                    go_wp2_with (go_at_call 16; refine HL5.out.mono ?_; clear HL5; rintro e w9 ⟨rfl, rfl⟩)
                    go_roundw
                    case rel => exact ⟨k + 1, q5, _, _, by omega, by go_num, HI5⟩
                    case measure => simp [intOf]; omega
          · have hn1 : (oact == 1) = false := by simp [ha]
            clear ha
            by_cases ha : oact = 4
            · as_aux_lemma =>
                subst ha
                by_cases hx1 : 1048576 < os.length
                · have hx2 : (1048576 : Int) < (os.length : Int) := by omega
                  go_wp2_with fail
                  go_roundw
                  case rel => exact ⟨k + 1, q, cs, l, by omega, by go_num, HI3⟩
                  case measure => simp [intOf]; omega
                · have hx2 : ¬ (1048576 : Int) < (os.length : Int) := by omega
                  by_cases hq1 : q < 1048576
                  · have hq2 : ¬ (1048576 : Int) ≤ (q : Int) := by omega
                    cases inb with
                    | true =>
                      have hin : 0 ≤ oi ∧ oi < (q : Int) := of_decide_eq_true HIN.out.symm
                      obtain ⟨i, rfl⟩ : ∃ i : Nat, oi = (i : Int) := ⟨oi.toNat, by omega⟩
                      have hiq : i < q := by omega
                      have HP := Lib.hid (HI3.out.dq.ins (i := i) (by rw [HTQ.out]; omega) (s := os) (by omega) (by rw [HTQ.out]; exact hq1))
                      obtain ⟨q5, hq5⟩ : ∃ q5, (putIn l i os).length = q5 := ⟨_, rfl⟩
                      have HQ5 := Lib.hid hq5
                      clear hq5
                      have HPP := Lib.hid (ins_put HI.out.dq.good HI.out.c1 (show i ≤ total cs by rw [HTQ.out]; omega) os)
                      go_wp2_with (first
                        | (go_at_call 15; refine HP.out.mono ?_; clear HP; rintro e w4 ⟨rfl, hd4, hk4⟩
                           have ho4 := ownsRow_keeps HI3.out.row hk4 (by unfold ndT dqT; decide)
                           have HR4 := Lib.hid (rdOf ho4 (txts_one l))
                           have HD4 := Lib.hid hd4
                           have f4 := hk4 _ _ _ _ (by unfold ndT dqT; decide) HF1.out
                           have g12 : w4.cell? ⟨wr.heap.size, 2, none⟩ = some (.int .i64 i) := cell_of_row w4 wr.heap.size 2 _ _ _ f4
                           have g15 : w4.cell? ⟨wr.heap.size, 5, none⟩ = some (.string ⟨os.toArray⟩) := cell_of_row w4 wr.heap.size 5 _ _ _ f4
                           clear ho4 hd4 hk4 f4)
                        | (go_at_call 17; refine (lput_any _ a2 q c2 i l os HI.out.len hq HR4.out hnil2 hqc2 (by omega)).mono ?_; rintro e w5 ⟨v5, rfl, hown5, hb5⟩
                           have hi5 := RInv.after HD4.out HPP.out hown5 hb5 HQ5.out
                           obtain ⟨a5, c5, rfl, -⟩ := own_slice hi5.row (txts_one _)
                           have HL5 := Lib.hid hi5.lenq
                           have HI5 := Lib.hid hi5
                           clear hi5 hown5 hb5)
                        | (go_at_call 16; refine HL5.out.mono ?_; clear HL5; rintro e w6 ⟨rfl, rfl⟩))
                      go_roundw
                      case rel => exact ⟨k + 1, q5, _, _, by omega, by go_num, HI5⟩
                      case measure => simp [intOf]; omega
                    | false =>
                      have hnin := of_decide_eq_false HIN.out.symm
                      by_cases hiq : oi = (q : Int)
                      · subst hiq
                        clear hnin
                        obtain ⟨i, hi⟩ : ∃ i, q = i := ⟨_, rfl⟩
                        subst hi
                        have HP := Lib.hid (HI3.out.dq.ins (i := q) (by rw [HTQ.out]; omega) (s := os) (by omega) (by rw [HTQ.out]; exact hq1))
                        obtain ⟨q5, hq5⟩ : ∃ q5, (putIn l q os).length = q5 := ⟨_, rfl⟩
                        have HQ5 := Lib.hid hq5
                        clear hq5
                        have HPP := Lib.hid (ins_put HI.out.dq.good HI.out.c1 (show q ≤ total cs by rw [HTQ.out]; omega) os)
                        go_wp2_with (first
                          | (go_at_call 15; refine HP.out.mono ?_; clear HP; rintro e w4 ⟨rfl, hd4, hk4⟩
                             have ho4 := ownsRow_keeps HI3.out.row hk4 (by unfold ndT dqT; decide)
                             have HR4 := Lib.hid (rdOf ho4 (txts_one l))
                             have HD4 := Lib.hid hd4
                             have f4 := hk4 _ _ _ _ (by unfold ndT dqT; decide) HF1.out
                             have g12 : w4.cell? ⟨wr.heap.size, 2, none⟩ = some (.int .i64 q) := cell_of_row w4 wr.heap.size 2 _ _ _ f4
                             have g15 : w4.cell? ⟨wr.heap.size, 5, none⟩ = some (.string ⟨os.toArray⟩) := cell_of_row w4 wr.heap.size 5 _ _ _ f4
                             clear ho4 hd4 hk4 f4)
                          | (go_at_call 17; refine (lput_any _ a2 q c2 q l os HI.out.len hq HR4.out hnil2 hqc2 (by omega)).mono ?_; rintro e w5 ⟨v5, rfl, hown5, hb5⟩
                             have hi5 := RInv.after HD4.out HPP.out hown5 hb5 HQ5.out
                             obtain ⟨a5, c5, rfl, -⟩ := own_slice hi5.row (txts_one _)
                             have HL5 := Lib.hid hi5.lenq
                             have HI5 := Lib.hid hi5
                             clear hi5 hown5 hb5)
                          | (go_at_call 16; refine HL5.out.mono ?_; clear HL5; rintro e w6 ⟨rfl, rfl⟩))
                        go_roundw
                        case rel => exact ⟨k + 1, q5, _, _, by omega, by go_num, HI5⟩
                        case measure => simp [intOf]; omega
                      · have HP := Lib.hid (HI3.out.dq.insArg (i := oi) (by rw [HTQ.out]; omega) ⟨os.toArray⟩)
                        have HL3 := Lib.hid HI3.out.lenq
                        have hiq2 : (oi == (q : Int)) = false := by simp [hiq]
                        clear hnin
                        go_wp2_with (first
                          | (go_at_call 15; refine HP.out.mono ?_; clear HP; rintro e w4 ⟨rfl, rfl⟩)
                          | (go_at_call 16; refine HL3.out.mono ?_; clear HL3; rintro e w9 ⟨rfl, rfl⟩))
                        go_roundw
                        case rel => exact ⟨k + 1, q, cs, l, by omega, by go_num, HI3⟩
                        case measure => simp [intOf]; omega
                  · have hq2 : (1048576 : Int) ≤ (q : Int) := by omega
                    go_wp2_with fail
                    go_roundw
                    case rel => exact ⟨k + 1, q, cs, l, by omega, by go_num, HI3⟩
                    case measure => simp [intOf]; omega
            · have hn4 : (oact == 4) = false := by simp [ha]
              clear ha
              by_cases ha : oact = 5
              · as_aux_lemma =>
                  subst ha
                  cases inb with
                  | true =>
                    have hin : 0 ≤ oi ∧ oi < (q : Int) := of_decide_eq_true HIN.out.symm
                    obtain ⟨i, rfl⟩ : ∃ i : Nat, oi = (i : Int) := ⟨oi.toNat, by omega⟩
                    have hiq : i < q := by omega
                    have HP := Lib.hid (HI3.out.dq.remove (i := i) (by rw [HTQ.out]; exact hiq))
                    have HRR := Lib.hid (rem_row HI.out.c1 (show i < total cs by rw [HTQ.out]; exact hiq))
                    have hic : i ≤ c2 := by omega
                    have hic2 : i + 1 ≤ c2 := by omega
                    have hwi : IntKind.i64.wrap ((i : Int) + 1) = (i : Int) + 1 := by rw [IntKind.wrap_i64]; omega
                    have hi0 : (0 : Int) ≤ (i : Int) + 1 := by omega
                    have hi1 : (i : Int) + 1 ≤ (q : Int) := by omega
                    have hi2 : i + 1 ≤ q := by omega
                    obtain ⟨y2, rfl⟩ := slice_some HI.out.row HI.out.len hiq
                    go_upto_region 40 with (first
                      | (go_at_call 18; refine HP.out.mono ?_; clear HP; rintro e w4 ⟨rfl, hd4, hk4⟩
                         have ho4 := ownsRow_keeps HI3.out.row hk4 (by unfold ndT dqT; decide)
                         have HR4 := Lib.hid (rdOf ho4 (txts_one l))
                         have HD4 := Lib.hid hd4
                         have g12 : w4.cell? ⟨wr.heap.size, 2, none⟩ = some (.int .i64 i) := cell_of_row w4 wr.heap.size 2 _ _ _ (hk4 _ _ _ _ (by unfold ndT dqT; decide) HF1.out)
                         clear ho4 hd4 hk4))
                    have hB4 : wr.heap.size < w4.heap.size := World.block_lt_of_cell? w4 _ g12
                    obtain ⟨q5, hq5⟩ : ∃ q5, (l.take i ++ l.drop (i + 1)).length = q5 := ⟨_, rfl⟩
                    have HQ5 := Lib.hid hq5
                    clear hq5
                    have HLN := Lib.hid HI.out.len
                    have HL1 := Lib.hid (show (txts (l.take i)).length = i * 1 by rw [txts_length, List.length_take, HI.out.len]; omega)
                    have HR1 := Lib.hid (show Rd w4 (some y2) (txts (l.take i)) by have := Rd.part HR4.out 0 i; rw [List.drop_zero, ← txts_take] at this; exact this)
                    have HR2 := Lib.hid (show Rd w4 (some (y2.add (i + 1))) (txts (l.drop (i + 1))) by
                      have := Rd.part HR4.out (i + 1) (q - (i + 1))
                      rw [← txts_drop, List.take_of_length_le (by rw [txts_length, List.length_drop, HLN.out]; exact Nat.le_refl _)] at this; exact this)
                    by_cases hci : c2 = i + 1
                    · have HCI := Lib.hid hci
                      have hct : (c2 = i + 1) = True := eq_true hci
                      clear hci
                      go_region_held3 (fun w' => w'.cell? ⟨wr.heap.size, 2, none⟩ = some (.int .i64 i))
                        (first
                          | go_keep
                          | exact (hb5.cell hB4).trans g12
                          | exact (hb6.cell hB4).trans g12)
                        (first
                          | (refine step_append_gen strT (by rfl) _ _ (by rfl) w4.heap.size (by rfl) (own_empty w4 _ _ (Nat.le_refl _)).drew (by rfl) (fun h => by cases h) HL1.out ((Rd.keep HR1.out (((Below.refl _ _).alloc (Nat.le_refl _) _).drew))) (by omega) (by simp) ?_; intro v5 w5 hown5 hg5
                             have hb5 : Below w4.heap.size w4 w5 := (((Below.refl w4.heap.size w4).alloc (Nat.le_refl _) _).drew).grown hg5 (by simp) (fun k hk => by cases hk; exact Nat.le_refl _)
                             have HO5 := Lib.hid hown5
                             clear hown5 hg5)
                          | (refine step_append_gen strT (by rfl) _ _ (by rfl) w4.heap.size (by rfl) HO5.out (news := txts (l.drop (i + 1))) (by rfl) (fun h => by cases h) (by rw [txts_length, List.length_drop, HLN.out]; omega) (by rw [List.drop_eq_nil_of_le (by rw [HLN.out]; have := HCI.out; omega)]; exact Rd.nil _ _) (by omega) hb5.size ?_; intro v6 w6 hown6 hg6
                             have HO6 := Lib.hid hown6
                             have hb6 : Below w4.heap.size w4 w6 := hb5.grown hg6 hb5.size (fun k hk => (HO5.out.lt k hk).1)
                             clear hown6 hg6))
                      have hi6 := RInv.after HD4.out HRR.out (own_cast HO6.out (by rw [List.length_append, List.length_take, List.length_drop, HLN.out]; omega) (by simp [txts])) hb6 HQ5.out
                      obtain ⟨a6, c6, rfl, -⟩ := own_slice hi6.row (txts_one _)
                      have HL5 := Lib.hid hi6.lenq
                      have HI5 := Lib.hid hi6
                      clear hi6 HO6 HO5 hb5 hb6
                      go_wp2_with (go_at_call 16; refine HL5.out.mono ?_; clear HL5; rintro e w9 ⟨rfl, rfl⟩)
                      go_roundw
                      case rel => exact ⟨k + 1, q5, _, _, by omega, by go_num, HI5⟩
                      case measure => simp [intOf]; omega
                    · skip
                      go_region_held3 (fun w' => w'.cell? ⟨wr.heap.size, 2, none⟩ = some (.int .i64 i))
                        (first
                          | go_keep
                          | exact (hb5.cell hB4).trans g12
                          | exact (hb6.cell hB4).trans g12)
                        (first
                          | (refine step_append_gen strT (by rfl) _ _ (by rfl) w4.heap.size (by rfl) (own_empty w4 _ _ (Nat.le_refl _)).drew (by rfl) (fun h => by cases h) HL1.out ((Rd.keep HR1.out (((Below.refl _ _).alloc (Nat.le_refl _) _).drew))) (by omega) (by simp) ?_; intro v5 w5 hown5 hg5
                             have hb5 : Below w4.heap.size w4 w5 := (((Below.refl w4.heap.size w4).alloc (Nat.le_refl _) _).drew).grown hg5 (by simp) (fun k hk => by cases hk; exact Nat.le_refl _)
                             have HO5 := Lib.hid hown5
                             clear hown5 hg5)
                          | (refine step_append_gen strT (by rfl) _ _ (by rfl) w4.heap.size (by rfl) HO5.out (news := txts (l.drop (i + 1))) (by rfl) (fun h => by cases h) (by rw [txts_length, List.length_drop, HLN.out]; omega) (Rd.keep HR2.out hb5) (by omega) hb5.size ?_; intro v6 w6 hown6 hg6
                             have HO6 := Lib.hid hown6
                             have hb6 : Below w4.heap.size w4 w6 := hb5.grown hg6 hb5.size (fun k hk => (HO5.out.lt k hk).1)
                             clear hown6 hg6))
                      have hi6 := RInv.after HD4.out HRR.out (own_cast HO6.out (by rw [List.length_append, List.length_take, List.length_drop, HLN.out]; omega) (by simp [txts])) hb6 HQ5.out
                      obtain ⟨a6, c6, rfl, -⟩ := own_slice hi6.row (txts_one _)
                      have HL5 := Lib.hid hi6.lenq
                      have HI5 := Lib.hid hi6
                      clear hi6 HO6 HO5 hb5 hb6
                      go_wp2_with (go_at_call 16; refine HL5.out.mono ?_; clear HL5; rintro e w9 ⟨rfl, rfl⟩)
                      go_roundw
                      case rel => exact ⟨k + 1, q5, _, _, by omega, by go_num, HI5⟩
                      case measure => simp [intOf]; omega
                  | false =>
                    have hout : oi < 0 ∨ (total cs : Int) ≤ oi := by
                      have := of_decide_eq_false HIN.out.symm
                      rw [HTQ.out]; omega
                    have HP := Lib.hid (HI3.out.dq.removeOut hout)
                    have HL3 := Lib.hid HI3.out.lenq
                    clear hout
                    go_wp2_with (first
                      | (go_at_call 18; refine HP.out.mono ?_; clear HP; rintro e w4 ⟨rfl, rfl⟩)
                      | (go_at_call 16; refine HL3.out.mono ?_; clear HL3; rintro e w9 ⟨rfl, rfl⟩))
                    go_roundw
                    case rel => exact ⟨k + 1, q, cs, l, by omega, by go_num, HI3⟩
                    case measure => simp [intOf]; omega
              · have hn5 : (oact == 5) = false := by simp [ha]
                clear ha
                by_cases ha : oact = 6
                · as_aux_lemma =>
                    subst ha
                    obtain ⟨F, hF⟩ : ∃ F : Nat, max oi 0 = (F : Int) := ⟨(max oi 0).toNat, by omega⟩
                    have HP := Lib.hid (HI3.out.dq.trim oi oj)
                    by_cases hft : min oj (q : Int) ≤ (F : Int)
                    · obtain ⟨T, hT⟩ : ∃ T : Int, min oj (q : Int) = T := ⟨_, rfl⟩
                      have HE := Lib.hid (show (trimC oi oj cs).flatten = [] by rw [trimC_row, HTQ.out, show winOf oi oj q = (0, 0) by unfold winOf; rw [if_pos (by rw [hF]; exact hft)]]; simp)
                      rw [hT] at hft
                      go_wp2_with (first
                        | (go_at_call 19; refine HP.out.mono ?_; clear HP; rintro e w4 ⟨rfl, hd4, hk4⟩
                           have f4 := hk4 _ _ _ _ (by unfold ndT dqT; decide) HF1.out
                           have g12 : w4.cell? ⟨wr.heap.size, 2, none⟩ = some (.int .i64 oi) := cell_of_row w4 wr.heap.size 2 _ _ _ f4
                           have g13 : w4.cell? ⟨wr.heap.size, 3, none⟩ = some (.int .i64 oj) := cell_of_row w4 wr.heap.size 3 _ _ _ f4
                           have hi4 : RInv w1 w4 w1.heap.size (trimC oi oj cs) [] 0 (.slice none 0 0) := ⟨hd4, HE.out, World.ownsRow_nil _ _ _ _, rfl⟩
                           have HL5 := Lib.hid hi4.lenq
                           have HI5 := Lib.hid hi4
                           clear hd4 hk4 f4 hi4)
                        | (go_at_call 16; refine HL5.out.mono ?_; clear HL5; rintro e w9 ⟨rfl, rfl⟩))
                      go_roundw
                      case rel => exact ⟨k + 1, 0, _, _, by omega, by go_num, HI5⟩
                      case measure => simp [intOf]; omega
                    · obtain ⟨T, hT⟩ : ∃ T : Nat, min oj (q : Int) = (T : Int) := ⟨(min oj (q : Int)).toNat, by omega⟩
                      rw [hT] at hft
                      have hFT : F < T := by omega
                      have hTq : T ≤ q := by omega
                      have HE := Lib.hid (show (trimC oi oj cs).flatten = (l.drop F).take (T - F) by
                        rw [trimC_row, HTQ.out, show winOf oi oj q = (F, T) by unfold winOf; rw [if_neg (by rw [hF, hT]; exact hft), hF, hT]; rfl, HI.out.c1, List.drop_take])
                      have hcF : ¬ c2 = F := by omega
                      have hTc : T ≤ c2 := by omega
                      have hFT2 : (F : Int) ≤ (T : Int) := by omega
                      have hTc2 : (T : Int) ≤ (c2 : Int) := by omega
                      have hFT3 : F ≤ T := by omega
                      obtain ⟨y2, rfl⟩ := slice_some HI.out.row HI.out.len (show F < q by omega)
                      obtain ⟨q5, hq5⟩ : ∃ q5, ((l.drop F).take (T - F)).length = q5 := ⟨_, rfl⟩
                      have HQ5 := Lib.hid hq5
                      have HLN := Lib.hid HI.out.len
                      have HL1 := Lib.hid (show (txts ((l.drop F).take (T - F))).length = (T - F) * 1 by rw [txts_length, List.length_take, List.length_drop, HI.out.len]; omega)
                      clear hq5
                      go_wp2_with (first
                        | (go_at_call 19; refine HP.out.mono ?_; clear HP; rintro e w4 ⟨rfl, hd4, hk4⟩
                           have f4 := hk4 _ _ _ _ (by unfold ndT dqT; decide) HF1.out
                           have g12 : w4.cell? ⟨wr.heap.size, 2, none⟩ = some (.int .i64 oi) := cell_of_row w4 wr.heap.size 2 _ _ _ f4
                           have g13 : w4.cell? ⟨wr.heap.size, 3, none⟩ = some (.int .i64 oj) := cell_of_row w4 wr.heap.size 3 _ _ _ f4
                           have ho4 := ownsRow_keeps HI3.out.row hk4 (by unfold ndT dqT; decide)
                           have hr4 : Rd w4 (some (y2.add F)) (txts ((l.drop F).take (T - F))) := by
                             have := Rd.part (rdOf ho4 (txts_one l)) F (T - F)
                             rw [← txts_drop, ← txts_take] at this; exact this
                           have HR4 := Lib.hid hr4
                           have HD4 := Lib.hid hd4
                           clear hd4 hk4 f4 ho4 hr4)
                        | (at_builtin; refine wpl_append strT rfl _ _ rfl w4.heap.size rfl (own_empty w4 _ _ (Nat.le_refl _)) (news := txts ((l.drop F).take (T - F))) rfl (fun h => by cases h) HL1.out (Rd.keep HR4.out ((Below.refl _ _).alloc (Nat.le_refl _) _)) (by omega) (by simp) ?_
                           intro v6 w6 hown6 hg6 hv6
                           have hb6 : Below w4.heap.size w4 w6 := ((Below.refl w4.heap.size w4).alloc (Nat.le_refl _) _).grown hg6 (by simp) (fun k hk => by cases hk; exact Nat.le_refl _)
                           have hi6 := RInv.after HD4.out HE.out (own_cast hown6 (by rw [Nat.zero_add, List.length_take, List.length_drop, HLN.out]; omega) (by simp)) hb6 HQ5.out
                           obtain ⟨a6, c6, rfl, -⟩ := own_slice hi6.row (txts_one _)
                           have HL5 := Lib.hid hi6.lenq
                           have HI5 := Lib.hid hi6
                           clear hown6 hg6 hv6 hb6 hi6)
                        | (go_at_call 16; refine HL5.out.mono ?_; clear HL5; rintro e w9 ⟨rfl, rfl⟩))
                      go_roundw
                      case rel => exact ⟨k + 1, q5, _, _, by omega, by go_num, HI5⟩
                      case measure => simp [intOf]; omega
                · have hn6 : (oact == 6) = false := by simp [ha]
                  clear ha
                  by_cases ha : oact = 7
                  · as_aux_lemma =>
                      subst ha
                      obtain ⟨M, hM⟩ : ∃ M : Nat, max oj 0 = (M : Int) := ⟨(max oj 0).toNat, by omega⟩
                      obtain ⟨N, hN⟩ : ∃ N : Nat, min (M : Int) 100 = (N : Int) := ⟨(min (M : Int) 100).toNat, by omega⟩
                      have hN100 : N ≤ 100 := by omega
                      go_wp2_with fail
                      try simp only [hM, hN]
                      go_loopw [4, 204] (fun v i wx => ∃ j q7 : Nat, ∃ cs7 l7, j ≤ N ∧ i = .int .i64 j ∧ Hid (RInv w1 wx w1.heap.size cs7 l7 q7 v)) (fun _ i _ => N - (intOf i).toNat)
                      case atStart => exact ⟨0, q, cs, l, Nat.zero_le _, rfl, HI3⟩
                      case round =>
                        obtain ⟨j, q7, cs7, l7, hj, rfl, HI7⟩ := hrel
                        have hq7 := HI7.out.few
                        obtain ⟨a7, c7, hv7, -⟩ := own_slice HI7.out.row (txts_one l7)
                        subst hv7
                        have HL7 := Lib.hid HI7.out.lenq
                        by_cases hjn : j < N
                        · by_cases hq8 : q7 < 1048576
                          · have hq9 : ¬ (1048576 : Int) ≤ (q7 : Int) := by omega
                            have hw8 := wrap_byte (k := j) (by omega)
                            have HRD := Lib.hid (byteRd wr (k := j) (by omega))
                            have hi8 := HI7.out.quiet ((Chg.refl _ wr).alloc (.cells #[.int .u8 (j : Int)] 5))
                            have HI8 := Lib.hid hi8
                            have HP := Lib.hid (hi8.dq.push false (s := [UInt8.ofNat j]) (by simp) (by rw [← flatten_length, hi8.c1, hi8.len]; exact hq8))
                            clear hi8
                            go_wp2_with (first
                              | (refine wpl_string_of Try.underlying36 Try.underlying5 Try.underlying9 rfl _ rfl [UInt8.ofNat j] rfl rfl HRD.out ?_; clear HRD)
                              | (refine wpl_string_of Try.underlying36 Try.underlying5 Try.underlying9 rfl _ rfl [UInt8.ofNat j] rfl rfl HRE.out ?_; clear HRE)
                              | (go_at_call 11; refine HP.out.mono ?_; clear HP; rintro e w5 ⟨rfl, hd5, hk5⟩
                                 have HO5 := Lib.hid ((ownsRow_keeps HI8.out.row hk5 (by unfold ndT dqT; decide)).alloc (.cells #[.int .u8 (j : Int)] 5))
                                 have HD5 := Lib.hid (hd5.quiet ((Chg.refl _ w5).alloc (.cells #[.int .u8 (j : Int)] 5)))
                                 have HRE := Lib.hid (byteRd w5 (k := j) (by omega))
                                 clear hd5 hk5)
                              | (at_builtin; (refine wpl_append1_at strT rfl _ _ rfl w1.heap.size rfl HO5.out #[.string ⟨[UInt8.ofNat j].toArray⟩] (H := w5.heap.size + 1) rfl (by simp) rfl (by simp [Value.oneCell']) (by omega) HD5.out.below.size ?_); intro v6 w6 hown6 hg6 hb6 hv6
                                 have hi6 : RInv w1 w6 w1.heap.size (pushC false [UInt8.ofNat j] cs7) (l7 ++ [[UInt8.ofNat j]]) (q7 + 1) v6 := ⟨HD5.out.own (KeepsT.row HO5.out (by unfold dqT; decide) hg6) hb6, by rw [push_row, HI8.out.c1]; rfl, by rw [txts_snoc]; exact hown6, by rw [List.length_append, HI8.out.len]; rfl⟩
                                 have HI6 := Lib.hid hi6
                                 clear hown6 hg6 hb6 hv6 hi6))
                            go_roundw
                            case rel => exact ⟨j + 1, q7 + 1, _, _, by omega, by go_num, HI6⟩
                            case measure => simp [intOf]; omega
                          · have hq9 : (1048576 : Int) ≤ (q7 : Int) := by omega
                            go_wp2_with (go_at_call 16; refine HL7.out.mono ?_; clear HL7; rintro e w9 ⟨rfl, rfl⟩)
                            go_roundw
                            case rel => exact ⟨k + 1, q7, cs7, l7, by omega, by go_num, HI7⟩
                            case measure => simp [intOf]; omega
                        · obtain rfl : j = N := by omega
                          go_wp2_with (go_at_call 16; refine HL7.out.mono ?_; clear HL7; rintro e w9 ⟨rfl, rfl⟩)
                          go_roundw
                          case rel => exact ⟨k + 1, q7, cs7, l7, by omega, by go_num, HI7⟩
                          case measure => simp [intOf]; omega
                  · have hn7 : (oact == 7) = false := by simp [ha]
                    clear ha
                    as_aux_lemma =>
                      have HL3 := Lib.hid HI3.out.lenq
                      go_wp2_with (go_at_call 16; refine HL3.out.mono ?_; clear HL3; rintro e w9 ⟨rfl, rfl⟩)
                      go_roundw
                      case rel => exact ⟨k + 1, q, cs, l, by omega, by go_num, HI3⟩
                      case measure => simp [intOf]; omega
    · obtain rfl : k = n := by omega
      obtain ⟨a2, c2, hv, hnil2, hqc2, hrd2⟩ := own_slice HI.out.row (txts_one l)
      subst hv
      have hq := HI.out.few
      have HLN := Lib.hid HI.out.len
      have HR := Lib.hid HI.out.dq.row
      have HRD := Lib.hid hrd2
      clear hrd2 hlt hk
      as_aux_lemma =>
        go_wp2_with (first
          | (go_at_call 20; refine HR.out.mono ?_; clear HR; rintro e w6 ⟨v6, rfl, hown6, hb6⟩
             rw [HI.out.c1] at hown6
             obtain ⟨a6, c6, rfl, hr6⟩ := textsRd hown6
             rw [HLN.out]
             have HR6 := Lib.hid hr6
             have HR2 := Lib.hid (Rd.keep HRD.out hb6)
             have HD6 := Lib.hid (HI.out.dq.quiet (Chg.of_below hb6))
             clear hown6 hb6 hr6)
          | (go_at_call 21; refine (same_any _ _ q q _ _ l l _ HLN.out HLN.out (by omega) HR6.out HR2.out).mono ?_; rintro e w7 ⟨rfl, q7, rfl⟩
             have HR7 := Lib.hid (show Rd (w6.drewN q7) a2 (txts l) from fun j u hj => HR2.out j u hj)
             have HD7 := Lib.hid (HD6.out.quiet ((Chg.refl _ w6).drewN (q := q7)))
             rw [decide_eq_true rfl])
          | (go_at_call 22; refine (even_any HD7.out a2 q c2 l HI.out.c1 HLN.out HR7.out).mono ?_; rintro e w8 ⟨rfl, hb8⟩
             have HR8 := Lib.hid (Rd.keep HR7.out hb8)
             have HD8 := Lib.hid (HD7.out.quiet (Chg.of_below hb8))
             clear hb8))
        go_loopw [252] (fun i wx => ∃ j : Nat, j ≤ q ∧ i = .int .i64 j ∧ wx = w8) (fun i _ => q - (intOf i).toNat)
        case atStart => exact ⟨0, Nat.zero_le _, rfl, rfl⟩
        case round =>
          obtain ⟨j, hj, rfl, rfl⟩ := hrel
          by_cases hjq : j < q
          · obtain ⟨x, hx⟩ : ∃ x, l[j]? = some x := ⟨_, List.getElem?_eq_getElem (by rw [HLN.out]; exact hjq)⟩
            obtain ⟨y, hy, hcell⟩ := txts_cell HR8.out hx
            subst hy
            unfold txt at hcell
            have HA := Lib.hid (HD8.out.at_ (i := j) (x := x) (by rw [HI.out.c1]; exact hx))
            clear hx
            go_wp2_with (go_at_call 23; refine HA.out.mono ?_; clear HA; rintro e w9 ⟨rfl, rfl⟩)
            go_roundw
            case rel => exact ⟨j + 1, by omega, by go_num, trivial⟩
            case measure => simp [intOf]; omega
          · obtain rfl : j = q := by omega
            have HA := Lib.hid (HD8.out.atOut (i := -1) (.inl (by omega)))
            have HB := Lib.hid (HD8.out.atOut (i := (j : Int)) (.inr (by rw [← flatten_length, HI.out.c1, HLN.out]; omega)))
            go_wp2_with (first
              | (go_at_call 23; refine HA.out.mono ?_; clear HA; rintro e w9 ⟨rfl, rfl⟩)
              | (go_at_call 23; refine HB.out.mono ?_; clear HB; rintro e w10 ⟨rfl, rfl⟩))
            go_ret
            exact ⟨rfl, HB1.out.trans (HD8.out.below.mono HB1.out.size)⟩
end Go.Proofs.Ytefoieloakfhfaa.dequeRows
