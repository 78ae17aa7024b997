/- For every list of texts and either end: what was pushed into a deque comes out at the other end in the same order, at the same end in the other one; it then is empty, and the input reads as it did. -/
import Derived.Test.YtefoieloakfhfaaQueuesP
import Derived.Test.YtefoieloakfhfaaOpenWords
import Derived.Test.YtefoieloakfhfaaChecked
import Derived.Test.YtefoieloakfhfaaRows
namespace Go.Proofs.Ytefoieloakfhfaa.dequeQueues
open Go Go.Proofs Go.Proofs.Ytefoieloakfhfaa Go.RowKit Go.ChangeShapes Go.WideShapes Go.ChangeAt Pantry

theorem Rd.keep {w w' : World} {a : Option Addr} {xs : List Value} (h : Rd w a xs) (hb : Below w.heap.size w w') : Rd w' a xs := fun j u hj => by
  obtain ⟨h1, x, hx, hc⟩ := h j u hj
  exact ⟨h1, x, hx, (hb.cell (World.block_lt_of_cell? w _ hc)).trans hc⟩
theorem strT : ElemT Try.prog 22 9 1 16 (.string ⟨#[]⟩) := ⟨Try.underlying22, strI, rfl, by decide, by decide⟩
/-- Both deques hold what was taken in. -/
structure QInv (w1 wr : World) (d e : Nat) (ahead : Bool) (ins : List Txt) (cs ks : List (List Txt)) (q : Nat) (v : Value) : Prop where
  dq : Dq2 w1 wr d cs e ks
  c1 : cs.flatten = rv ahead ins
  c2 : ks.flatten = rv ahead ins
  row : wr.ownsRow w1.heap.size 9 1 v q (txts ins)
  len : ins.length = q

/-- So many have come out of both. -/
structure Out (w1 wr : World) (d e : Nat) (ahead : Bool) (ins : List Txt) (cs ks : List (List Txt)) (q j : Nat) (v : Value) : Prop where
  dq : Dq2 w1 wr d cs e ks
  c1 : cs.flatten = rv ahead (ins.drop j)
  c2 : ks.flatten = rv ahead (ins.take (q - j))
  row : wr.ownsRow w1.heap.size 9 1 v q (txts ins)
theorem drop_cons_get {l : List Txt} {j : Nat} {x : Txt} (h : l[j]? = some x) : l.drop j = x :: l.drop (j + 1) := by
  obtain ⟨hk, rfl⟩ := List.getElem?_eq_some_iff.1 h
  exact List.drop_eq_getElem_cons hk
theorem take_snoc_get {l : List Txt} {q j : Nat} {x : Txt} (h : l[q - 1 - j]? = some x) (hj : j < q) : l.take (q - j) = l.take (q - 1 - j) ++ [x] := by
  rw [show q - j = (q - 1 - j) + 1 by omega, List.take_add_one, h]; rfl

set_option maxHeartbeats 4000000 in
set_option maxRecDepth 100000 in
theorem walk (a : Option Addr) (n c : Nat) (ahead : Bool) (l : List Txt) (w : World) (hl : l.length = n) (hr : Rd w a (txts l)) (hx : ∀ x ∈ l, x.length ≤ 140737488351232) (hn : n ≤ 8796093021952) :
    Calls Try.prog 3 #[.slice a n c, .bool ahead] w (OkPost w) := by
  have HW := Lib.hid (wakes_any w)
  have HL := Lib.hid hl
  have HR := Lib.hid hr
  have HX := Lib.hid hx
  clear hl hr hx
  go_enter Try.func3, Try.ntmps3
  go_wp2_with (first
    | (go_at_call 9; refine HW.out.mono ?_; rintro e w1 ⟨rfl, hb1⟩
       have HB1 := Lib.hid hb1
       have HN := Lib.hid (Dq.new w1)
       clear hb1)
    | (go_at_call 10; refine HN.out.mono ?_; clear HN; rintro e w2 ⟨rfl, hd2, -⟩
       have HN2 := Lib.hid (Dq2.new hd2)
       clear hd2)
    | (go_at_call 10; refine HN2.out.mono ?_; clear HN2; rintro e w3 ⟨rfl, hd3, -⟩
       have HD3 := Lib.hid hd3
       clear hd3))
  go_loopw [7, 26] (fun v i wr => ∃ k q : Nat, ∃ ins cs ks, k ≤ n ∧ i = .int .i64 k ∧ q ≤ 1048576 ∧ Hid (QInv w1 wr w1.heap.size w2.heap.size ahead ins cs ks q v)) (fun _ i _ => n - (intOf i).toNat)
  case atStart => exact ⟨0, 0, [], [], [], Nat.zero_le _, rfl, Nat.zero_le _, Lib.hid ⟨HD3.out, by cases ahead <;> rfl, by cases ahead <;> rfl, World.ownsRow_nil _ _ _ _, rfl⟩⟩
  case round =>
    obtain ⟨k, q, ins, cs, ks, hk, rfl, hq, HI⟩ := hrel
    by_cases hlt : k < n
    · obtain ⟨x, hxk⟩ : ∃ x, l[k]? = some x := ⟨_, List.getElem?_eq_getElem (by rw [HL.out]; exact hlt)⟩
      have hbw : Below w.heap.size w wr := HB1.out.trans (HI.out.dq.fst.below.mono HB1.out.size)
      obtain ⟨y, hy, hcell⟩ := txts_cell (Rd.keep HR.out hbw) hxk
      subst hy
      unfold txt at hcell
      have hsz := mk_size x
      have hxl := HX.out x (List.mem_of_getElem? hxk)
      obtain ⟨a2, c2, hv, -⟩ := ownsRow_rd HI.out.row (txts_one ins)
      subst hv
      clear hxk hbw
      by_cases hx1 : 1048576 < x.length
      · have hx2 : (1048576 : Int) < (x.length : Int) := by omega
        go_wp2_with fail
        go_roundw
        case rel => exact ⟨k + 1, q, ins, cs, ks, by omega, by go_num, hq, HI⟩
        case measure => simp [intOf]; omega
      · have hx2 : ¬ (1048576 : Int) < (x.length : Int) := by omega
        by_cases hq1 : q < 1048576
        · have hq2 : ¬ (1048576 : Int) ≤ (q : Int) := by omega
          have htc : total cs < 1048576 := by rw [← flatten_length, HI.out.c1, rv_length, HI.out.len]; exact hq1
          have htk : total ks < 1048576 := by rw [← flatten_length, HI.out.c2, rv_length, HI.out.len]; exact hq1
          have HTK := Lib.hid htk
          have HP1 := Lib.hid (HI.out.dq.push ahead (s := x) (by omega) htc)
          clear htc htk
          go_wp2_with (first
            | (go_at_call 11; refine HP1.out.mono ?_; clear HP1; rintro e w4 ⟨rfl, hd4, hk4⟩
               have HP2 := Lib.hid (Dq2Post.swap (hd4.swap.push ahead (s := x) (by omega) HTK.out))
               have HO4 := Lib.hid (ownsRow_keeps HI.out.row hk4 (by unfold ndT dqT; decide))
               clear hd4 hk4)
            | (go_at_call 11; refine HP2.out.mono ?_; clear HP2; rintro e w5 ⟨rfl, hd5, hk5⟩
               have HO5 := Lib.hid (ownsRow_keeps HO4.out hk5 (by unfold ndT dqT; decide))
               have HD5 := Lib.hid hd5
               have hsz5 := hd5.fst.below.size
               clear hd5 hk5)
            | (at_builtin; (refine wpl_append1 strT rfl _ _ rfl w1.heap.size rfl HO5.out #[.string ⟨x.toArray⟩] rfl rfl (by simp [Value.oneCell']) (by omega) hsz5 ?_); intro v6 w6 hown6 hg6 hb6 hv6
               have HO6 := Lib.hid hown6
               have HD6 := Lib.hid (HD5.out.own (KeepsT.row HO5.out (by unfold dqT; decide) hg6) hb6)
               clear hown6 hg6 hb6 hv6))
          go_roundw
          case rel =>
            refine ⟨k + 1, q + 1, ins ++ [x], _, _, by omega, by go_num, by omega, Lib.hid ⟨HD6.out, ?_, ?_, ?_, by simp [HI.out.len]⟩⟩
            · rw [push_row, HI.out.c1, rv_push]
            · rw [push_row, HI.out.c2, rv_push]
            · rw [txts_snoc]; exact HO6.out
          case measure => simp [intOf]; omega
        · have hq2 : (1048576 : Int) ≤ (q : Int) := by omega
          go_wp2_with fail
          go_roundw
          case rel => exact ⟨k + 1, q, ins, cs, ks, by omega, by go_num, hq, HI⟩
          case measure => simp [intOf]; omega
    · obtain rfl : k = n := by omega
      obtain ⟨a2, c2, hv, -⟩ := ownsRow_rd HI.out.row (txts_one ins)
      subst hv
      go_wp2_with fail
      clear hlt hk
      have HI0 := HI
      clear HI
      go_loopw [58] (fun i wr => ∃ j : Nat, j ≤ q ∧ i = .int .i64 j ∧ ∃ cs ks, Hid (Out w1 wr w1.heap.size w2.heap.size ahead ins cs ks q j (.slice a2 q c2))) (fun i _ => q - (intOf i).toNat)
      case atStart => exact ⟨0, Nat.zero_le _, rfl, cs, ks, Lib.hid ⟨HI0.out.dq, HI0.out.c1, by rw [Nat.sub_zero, List.take_of_length_le (by rw [HI0.out.len]; exact Nat.le_refl _)]; exact HI0.out.c2, HI0.out.row⟩⟩
      case round =>
        obtain ⟨j, hj, rfl, cs, ks, HO⟩ := hrel
        by_cases hlt : j < q
        · obtain ⟨x, hxj⟩ : ∃ x, ins[j]? = some x := ⟨_, List.getElem?_eq_getElem (by rw [HI0.out.len]; exact hlt)⟩
          obtain ⟨z, hzj⟩ : ∃ z, ins[q - 1 - j]? = some z := ⟨_, List.getElem?_eq_getElem (by rw [HI0.out.len]; omega)⟩
          have hp1 := pop_head (by rw [HO.out.c1]; rw [drop_cons_get hxj])
          have hp2 := pop_last (by rw [HO.out.c2]; rw [take_snoc_get hzj (by omega)])
          have HP1 := Lib.hid (HO.out.dq.pop (!ahead) hp1.1)
          have HE2 := Lib.hid hp2.1
          have HF1 := Lib.hid hp1.2
          have HF2 := Lib.hid hp2.2
          have HXJ := Lib.hid hxj
          have HZJ := Lib.hid hzj
          have hw1 : IntKind.i64.wrap ((q : Int) - 1) = (q : Int) - 1 := by rw [IntKind.wrap_i64]; omega
          have hw2 : IntKind.i64.wrap ((q : Int) - 1 - (j : Int)) = ((q - 1 - j : Nat) : Int) := by rw [IntKind.wrap_i64]; omega
          have hlt2 : q - 1 - j < q := by omega
          clear hp1 hp2 hxj hzj
          obtain ⟨jj, hjj⟩ : ∃ jj, q - 1 - j = jj := ⟨_, rfl⟩
          rw [hjj] at hw2 hlt2
          have HJJ := Lib.hid hjj
          clear hjj
          go_wp2_with (first
            | (go_at_call 12; refine HP1.out.mono ?_; clear HP1; rintro e w4 ⟨rfl, hd4, hk4⟩
               have HP2 := Lib.hid (Dq2Post.swap (hd4.swap.pop ahead HE2.out))
               have HO4 := Lib.hid (ownsRow_keeps HO.out.row hk4 (by unfold ndT dqT; decide))
               clear hd4 hk4)
            | (go_at_call 12; refine HP2.out.mono ?_; clear HP2; rintro e w5 ⟨rfl, hd5, hk5⟩
               have ho5 := ownsRow_keeps HO4.out hk5 (by unfold ndT dqT; decide)
               have HO5 := Lib.hid ho5
               have HD5 := Lib.hid hd5
               have hrd5 := rdOf ho5 (txts_one ins)
               obtain ⟨y5, hy5, hc5⟩ := txts_cell hrd5 HXJ.out
               subst hy5
               obtain ⟨y6, hy6, hc6⟩ := txts_cell hrd5 (HJJ.out ▸ HZJ.out)
               cases hy6
               unfold txt at hc5 hc6
               clear hd5 hk5 ho5 hrd5))
          go_roundw
          case rel =>
            refine ⟨j + 1, by omega, by go_num, _, _, Lib.hid ⟨HD5.out, HF1.out, ?_, HO5.out⟩⟩
            rw [HF2.out, show q - (j + 1) = q - 1 - j by omega]
          case measure => simp [intOf]; omega
        · obtain rfl : j = q := by omega
          have he1 : cs.flatten = [] := by
            rw [HO.out.c1, List.drop_eq_nil_of_le (by rw [HI0.out.len]; exact Nat.le_refl _)]
            cases ahead <;> rfl
          have he2 : ks.flatten = [] := by
            rw [HO.out.c2, Nat.sub_self, List.take_zero]
            cases ahead <;> rfl
          have HP1 := Lib.hid (HO.out.dq.fst.popped he1 true)
          have HP2 := Lib.hid (HO.out.dq.snd.popped he2 false)
          obtain rfl := nil_of_flatten HO.out.dq.fst.good he1
          obtain rfl := nil_of_flatten HO.out.dq.snd.good he2
          have HCH := Lib.hid HO.out.dq.fst.chunks
          clear he1 he2
          go_wp2_with (first
            | (go_at_call 12; refine HP1.out.mono ?_; clear HP1; rintro e w4 ⟨rfl, rfl⟩)
            | (go_at_call 12; refine HP2.out.mono ?_; clear HP2; rintro e w5 ⟨rfl, rfl⟩)
            | (go_at_call 13; refine HCH.out.mono ?_; clear HCH; rintro e w6 ⟨v6, rfl, hown6, hb6⟩
               obtain ⟨a6, c6, rfl, -⟩ := intsRd hown6
               rw [show (sizesL []).length = 0 from rfl]
               have HC6 := Lib.hid (HO.out.dq.snd.quiet (Chg.of_below hb6)).cost
               have HB6 := Lib.hid (HB1.out.trans ((HO.out.dq.fst.below.trans (hb6.mono HO.out.dq.fst.below.size)).mono HB1.out.size))
               clear hown6 hb6)
            | (go_at_call 14; refine HC6.out.mono ?_; clear HC6; rintro e w7 ⟨rfl, rfl⟩
               rw [show ((costOf [] : Nat) : Int) = 0 from rfl]))
          go_ret
          exact ⟨rfl, HB6.out⟩
set_option linter.unusedVariables false

theorem own : ownKnob Try.prog.godebug = none := by kernel_rfl
theorem laidOut : laidOutB Try.prog = true := by kernel_rfl

set_option maxRecDepth 100000 in
theorem lifted (os : Os) (started : os.Started) (H : Type) (enc : TypeId × Value → H) :
    ReturnsInHanded {} Try.checked os 3 .any (Rows.dequeQueuesSpec.pre6 enc Try.prog Try.f3 Rows.dequeQueuesRow.domain false) (Rows.dequeQueuesSpec.post enc Try.prog Try.f3 false true false false) := by
  refine returnsInHanded_of_change_sized (C := Try.checked) own started (by kernel_rfl) Try.func3
    (ChangeSpec.witness6 (enc := enc) (C := Try.checked) false ⟨#[], #[.slice none 0 0, .bool false], []⟩ 8 (by kernel_rfl) (by kernel_rfl) (by kernel_rfl) (by kernel_rfl)) ?_
  intro W base args ds gs before hval0 hW hcnd hsz _
  have hval : ∀ (j : Nat) t v, Try.f3.params[j]? = some t → args[j]? = some v → Value.okWide Try.prog W .any base t v := hval0
  have hW' := hW
  obtain ⟨p, q, hA0, hV, rfl, hfz, hnd⟩ := hW
  have hA : DataW.TrodAll enc Try.prog W 0 (fun _ => true) true Try.f3.params.toList args.toList ds p := hA0
  rw [Try.params3] at hA hval hsz
  obtain ⟨v0, vs0, d0, ds0, p0, q0, hargs, rfl, rfl, h0, r0⟩ := trodAll_cons hA
  obtain ⟨v1, vs1, d1, ds1, p1, q1, rfl, rfl, rfl, h1, r1⟩ := trodAll_cons r0
  obtain ⟨rfl, rfl, rfl⟩ := trodAll_nil r1
  obtain rfl : args = #[v0, v1] := by cases args; simp_all
  obtain ⟨rfl, rfl⟩ := trodVars_none hV
  obtain ⟨a0, len0, cap0, rfl⟩ := okWide_slice Try.underlying22 (hval 0 22 v0 rfl rfl)
  have k0 := h0
  have k1 := h1
  have lt0 : ∀ x ∈ p0, x.block < W.heap.size := by obtain ⟨m, hm⟩ := k0; exact DataW.trod_lt m _ _ _ hm
  have lt1 : ∀ x ∈ p1, x.block < W.heap.size := by obtain ⟨m, hm⟩ := k1; exact DataW.trod_lt m _ _ _ hm
  obtain ⟨b, rfl, rfl, rfl⟩ := open_bool Try.underlying4 (hval 1 4 v1 rfl rfl) h1
  obtain ⟨l, hl, hr, hlx, hm, hnil⟩ : ∃ l : List (List UInt8), l.length = len0 ∧ Rd W a0 (txts l) ∧ (∀ x ∈ l, x.length ≤ 140737488351232) ∧ len0 ≤ 8796093021952 ∧ (a0 = none → cap0 = 0) := by
    obtain ⟨fuel, hf⟩ := h0
    exact open_words Try.underlying22 Try.underlying9 (by kernel_rfl) (by kernel_rfl) hf (reach_arg (j := 0) hsz rfl rfl)
  clear hA0 hval0 hsz
  refine (walk a0 len0 cap0 b l W hl hr hlx hm).mono fun e W' ⟨he, bel⟩ => ?_
  subst he
  exact ⟨_, rfl, _, _, _, [], _, [], hW', trodAll_mk1 (shut_bool Try.underlying4 _), (trodAll_cons_mk (Below.trod laidOut (by kernel_rfl) (of_decide_eq_true (by kernel_rfl)) k0 bel lt0) (trodAll_cons_mk (Below.trod laidOut (by kernel_rfl) (of_decide_eq_true (by kernel_rfl)) k1 bel lt1) trodAll_mk0)), rfl, bel.frame _, fun h => by cases h⟩

theorem over : Rows.dequeQueuesRow.holds Try.pinned (OpenSpec.ofChange Rows.dequeQueuesSpec) :=
  OpenClaim.holds_of_wide 3 Try.f3 rfl rfl rfl rfl rfl rfl rfl ⟨rfl, rfl, rfl, rfl, rfl⟩ rfl rfl rfl rfl rfl (by kernel_rfl) Try.func3 (by kernel_rfl)
    (of_decide_eq_true (by kernel_rfl)) (by unfold Func.isWrapper; first | (rw [if_pos (by decide +kernel)]; kernel_rfl) | (rw [if_neg (by decide +kernel)]; exact ⟨rfl, rfl⟩))
    (fun os started H enc _ => lifted os started H enc)

theorem proved : Rows.DequeQueuesSaid := over
#print axioms proved
end Go.Proofs.Ytefoieloakfhfaa.dequeQueues
