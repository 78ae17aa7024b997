/- VerbsFlags: of all commands: the flags that go together, the arities, the keys. A closed statement. -/
import Derived.Test.YtdoddnnggamaiaaOpenWords
import Derived.Test.YtdoddnnggamaiaaVerbsNames
import Derived.Deep.DeepCutAuto
namespace Pantry.Verbs
open Go Go.RowKit
/-- The flags of a row. -/
def FlagsOk (f : Int) : Prop := 0 ≤ f ∧ f ≤ 15 ∧ (bits .and .i64 f 2 = 0 ∨ bits .and .i64 f 1 ≠ 0) ∧ (bits .and .i64 f 4 = 0 ∨ bits .and .i64 f 1 = 0)
instance (f : Int) : Decidable (FlagsOk f) := by unfold FlagsOk; exact inferInstance
def Good (r : Row) : Prop := get all (upL r.name) = some r ∧ FlagsOk r.flags ∧ r.name.length ≤ 32
instance (r : Row) : Decidable (Good r) := by unfold Good; exact inferInstance
theorem all_good : ∀ r ∈ all, Good r := by decide +kernel
/-- A name, and words behind it. -/
def wordsOf (x : List UInt8) (k : Nat) : List (List UInt8) := x :: List.replicate k [119]
theorem wordsOf_length (x : List UInt8) (k : Nat) : (wordsOf x k).length = k + 1 := by simp [wordsOf]
theorem wordsOf_snoc (x : List UInt8) (k : Nat) : wordsOf x k ++ [[119]] = wordsOf x (k + 1) := by simp [wordsOf, List.replicate_succ']
theorem wordsOf_take (x : List UInt8) (k m : Nat) (h : m ≤ k) : (wordsOf x k).take (m + 1) = wordsOf x m := by
  simp only [wordsOf, List.take_succ_cons, List.take_replicate]
  rw [Nat.min_eq_left h]
theorem wordsOf_short {x : List UInt8} (h : x.length ≤ 32) (k : Nat) : ∀ y ∈ wordsOf x k, y.length ≤ 32 := by
  intro y hy
  rcases List.mem_cons.1 hy with rfl | hy
  · exact h
  · rw [(List.mem_replicate.1 hy).2]; simp
theorem check_row {r : Row} (hr : r ∈ all) (k : Nat) (hk : k ≤ 200) : check (wordsOf r.name k) = if 0 < r.arity ∧ ((k + 1 : Nat) : Int) ≠ r.arity ∨ ((k + 1 : Nat) : Int) < - r.arity then (empty, 181) else (r, 0) := by
  obtain ⟨h1, -, h3⟩ := all_good r hr
  have t1 : tooLong (wordsOf r.name k) = false := by
    have a := longest_le (wordsOf_short h3 k) (wordsOf r.name k).length
    have b := total_le (wordsOf_short h3 k) (wordsOf r.name k).length
    rw [List.take_length] at a b
    rw [wordsOf_length] at b
    simp only [tooLong, Bool.or_eq_false_iff, decide_eq_false_iff_not]
    omega
  have hl := wordsOf_length r.name k
  unfold check
  unfold wordsOf at t1 hl ⊢
  simp only [t1, h1, hl]
  rw [if_neg (by simp; omega)]
/-- What is asked of a row, with as few words as may be, one more, and one less. -/
theorem row_codes {r : Row} (hr : r ∈ all) {m : Nat} (hm : r.arity = (m : Int) ∨ - r.arity = (m : Int)) : 1 ≤ m ∧ m ≤ 100 ∧ check (wordsOf r.name (m - 1)) = (r, 0) ∧
    (((check (wordsOf r.name m)).2 == 0) = decide (r.arity < 0)) ∧ (check ((wordsOf r.name (m - 1)).take (m - 1))).2 ≠ 0 := by
  obtain ⟨k1, k2, k3, -⟩ := keys_ok r hr
  have hm1 : 1 ≤ m := by omega
  have hm2 : m ≤ 100 := by omega
  refine ⟨hm1, hm2, ?_, ?_, ?_⟩
  · rw [check_row hr _ (by omega), if_neg (by omega)]
  · rw [check_row hr _ (by omega)]
    by_cases hn : r.arity < 0
    · rw [if_neg (by omega), decide_eq_true hn]; rfl
    · rw [if_pos (by omega), decide_eq_false hn]; rfl
  · by_cases h1 : m = 1
    · subst h1
      show (check []).2 ≠ 0
      decide
    · obtain ⟨j, rfl⟩ : ∃ j, m = j + 2 := ⟨m - 2, by omega⟩
      rw [show j + 2 - 1 = j + 1 from rfl, wordsOf_take _ _ _ (by omega), check_row hr _ (by omega), if_pos (by omega)]
      decide
theorem row_keys {r : Row} (hr : r ∈ all) {m : Nat} (hm : r.arity = (m : Int) ∨ - r.arity = (m : Int)) : decide ((0 : Int) < ((keys (wordsOf r.name (m - 1))).length : Nat)) = decide (0 < r.first) := by
  obtain ⟨h1, h2, h3, -⟩ := row_codes hr hm
  by_cases hf : r.first = 0
  · rw [keys_none (Or.inr (by rw [h3]; exact hf)), hf]; rfl
  · obtain ⟨b1, b2, b3, b4, -⟩ := key_bounds (l := wordsOf r.name (m - 1)) (by rw [h3]) (by rw [h3]; exact hf)
    rw [h3] at b1 b2 b3 b4
    have hJ : ∃ J : Nat, r.jump = (J : Int) ∧ 1 ≤ J := by
      rcases b2 with h | h
      · exact ⟨1, h, by omega⟩
      · exact ⟨2, h, by omega⟩
    obtain ⟨J, hJ, hJ1⟩ := hJ
    rw [keys_eq (J := J) (by rw [h3]) (by rw [h3]; exact b1) (by rw [h3]; exact hJ), keysTo_length, h3]
    have hpos : 0 < keyCount r (wordsOf r.name (m - 1)).length := by
      unfold keyCount
      simp only at b1 b2 b3 b4
      rw [b1]
      have : 0 ≤ (lastOf r (wordsOf r.name (m - 1)).length - 1) / r.jump := Int.ediv_nonneg (by omega) (by omega)
      omega
    simp only at b1
    rw [b1]
    simp
    exact hpos
theorem names_rise {k j : Nat} {r r' : Row} (hr : all[k]? = some r) (hr' : all[j]? = some r') (hk : k = j + 1) : Op.bytesLess r.name r'.name = false ∧ ¬ r.name = r'.name := by
  have h := rising_all
  unfold Rising at h
  rw [List.pairwise_iff_getElem] at h
  obtain ⟨h1, rfl⟩ := List.getElem?_eq_some_iff.1 hr
  obtain ⟨h2, rfl⟩ := List.getElem?_eq_some_iff.1 hr'
  have hc := h j k (by simpa using h2) (by simpa using h1) (by omega)
  simp only [List.getElem_map] at hc
  refine ⟨?_, ?_⟩
  · rw [bytesLess_iff, decide_eq_false_iff_not]
    intro h3
    have := cmpB_lt_trans hc h3
    rw [cmpB_self] at this
    omega
  · intro e
    rw [e, cmpB_self] at hc
    omega
end Pantry.Verbs

namespace Go.Proofs.Ytdoddnnggamaiaa.verbsFlags
open Go.RowKit Pantry
open Go.ChangeShapes Go.WideShapes Go.ChangeAt

theorem below_step {A W V : World} (h2 : Below W.heap.size W V) (h1 : Below A.heap.size A W) : Below A.heap.size A V := h1.trans (h2.mono h1.size)

/-- It returns a row and this code. -/
def CodeIs (c : Int) (w : World) (e : Ending) (w' : World) : Prop := ∃ r : Verbs.Row, e = .returned (.tuple #[rowAgg r, .int .i64 c]) ∧ Below w.heap.size w w'
theorem code_is (a : Option Addr) (n c : Nat) (l : List (List UInt8)) (code : Int) (hc : (Verbs.check l).2 = code) (hn : n ≤ 140737488351232) (w : World) (h : WordsIn w a n l) : Calls Try.prog 24 #[.slice a n c] w (CodeIs code w) :=
  (check_any a n c l w h hn).mono fun e w' ⟨h1, h2⟩ => ⟨(Verbs.check l).1, by rw [h1, hc], h2⟩
/-- It returns a list of n words. -/
def KeysIs (n : Nat) (w : World) (e : Ending) (w' : World) : Prop := ∃ a c, e = .returned (.slice a n c) ∧ Below w.heap.size w w'
theorem keys_is (a : Option Addr) (n c : Nat) (l : List (List UInt8)) (K : Nat) (hK : (Verbs.keys l).length = K) (hn : n ≤ 140737488351232) (w : World) (h : WordsIn w a n l) : Calls Try.prog 26 #[.slice a n c] w (KeysIs K w) :=
  (keys_any a n c l w h hn).mono fun e w' ⟨v, h1, h2, h3⟩ => by
    obtain ⟨a', c', rfl, -⟩ := ownsRow_rd h2 (txts_one _)
    exact ⟨a', c', by rw [h1, hK], h3⟩
theorem words_take {w : World} {a : Option Addr} {n k : Nat} {l : List (List UInt8)} (h : WordsIn w a n l) (hk : k ≤ n) : WordsIn w a k (l.take k) :=
  ⟨by rw [List.length_take, h.1]; omega, by have := h.2.1.take k; rwa [show (txts l).take k = txts (l.take k) by simp [txts, List.map_take]] at this, fun x hx => h.2.2 x (List.mem_of_mem_take hx)⟩
theorem owns_one (w : World) (T : List UInt8) : (w.alloc (.cells #[.string ⟨T.toArray⟩] 9)).ownsRow w.heap.size 9 1 (.slice (some ⟨w.heap.size, 0, none⟩) 1 1) 1 (txts [T]) :=
  ⟨by simp [txts], .inr ⟨w.heap.size, 1, _, rfl, Nat.le_refl _, heap_alloc_new w _, Nat.le_refl _, by decide, rfl, by simp [txts, txt]⟩⟩

set_option maxHeartbeats 4000000 in
set_option maxRecDepth 100000 in
theorem walk (w : World) : Calls Try.prog 10 #[] w fun e w' => e = .returned (.bool true) ∧ Below w.heap.size w w' := by
  go_enter Try.func10, Try.ntmps10
  go_wp2_with fail
  refine (names_any _).mono ?_
  rintro e w1 ⟨v1, rfl, hown1, hb1⟩
  obtain ⟨a1, c1, rfl, hrd1⟩ := ownsRow_rd hown1 (txts_one _)
  have hlen : (Verbs.names Verbs.all).length = 113 := by rw [Verbs.names_length]; rfl
  rw [hlen] at hown1 ⊢
  have HL := Lib.hid hlen
  have HB1 := Lib.hid hb1
  have HR1 := Lib.hid hrd1
  clear hlen hb1 hrd1 hown1
  go_wp2_with fail
  go_loopw [2] (fun i wr => ∃ k : Nat, k ≤ 113 ∧ i = .int .i64 k ∧ Below w1.heap.size w1 wr) (fun i _ => 113 - (intOf i).toNat)
  case atStart => exact ⟨0, by omega, rfl, Below.refl _ _⟩
  case round =>
    obtain ⟨k, hk, rfl, hb⟩ := hrel
    by_cases hlt : k < 113
    · obtain ⟨r, hr⟩ : ∃ r, Verbs.all[k]? = some r := ⟨_, List.getElem?_eq_getElem (by show k < 113; exact hlt)⟩
      have hrm : r ∈ Verbs.all := List.mem_of_getElem? hr
      obtain ⟨y, rfl, hc⟩ := txts_cell (HR1.out.below hb) (j := k) (x := r.name) (by rw [Verbs.names, List.getElem?_map, hr]; rfl)
      rw [txt] at hc
      obtain ⟨hg1, hg2, hg3⟩ := Verbs.all_good r hrm
      have HB := Lib.hid hb
      have HG := Lib.hid hg1
      have HF := Lib.hid hg2
      have HM := Lib.hid hrm
      have HRK := Lib.hid hr
      clear hb hg1 hg2 hrm hr
      go_wp2_with fail
      refine (find_any ⟨r.name.toArray⟩ _ (by rw [mk_size]; omega)).mono ?_
      rintro e w2 ⟨rfl, hb2⟩
      rw [show (⟨r.name.toArray⟩ : ByteArray).data.toList = r.name from rfl, HG.out, Option.getD_some, Option.isSome_some, rowAgg, rowCells]
      clear hc
      go_upto_region 8 with fail
      obtain ⟨w3, hw3⟩ : ∃ x, w2.alloc (.cells #[.string ⟨r.name.toArray⟩, .int .i64 r.arity, .int .i64 r.flags, .int .i64 r.first, .int .i64 r.last, .int .i64 r.jump] 29) = x := ⟨_, rfl⟩
      have hbx : w3.heap[w2.heap.size]? = some (.cells #[.string ⟨r.name.toArray⟩, .int .i64 r.arity, .int .i64 r.flags, .int .i64 r.first, .int .i64 r.last, .int .i64 r.jump] 29) := by rw [← hw3]; exact heap_alloc_new w2 _
      have hb12 : Below w1.heap.size w1 w2 := below_step hb2 HB.out
      have hb3 : Below w1.heap.size w1 w3 := by rw [← hw3]; exact hb12.alloc hb12.size _
      have hz3 : w2.heap.size < w3.heap.size := by rw [← hw3]; simp
      rw [hw3]
      obtain ⟨⟨d0, d1, d2, d3, d4, d5⟩, -⟩ := box6 hbx
      have HX := Lib.hid hbx
      have HB3 := Lib.hid hb3
      have HZ3 := Lib.hid hz3
      have HS2 := Lib.hid hb12.size
      clear hw3 hbx hb3 hb2 hb12 hz3
      have hnz : (r.arity == 0) = false := by rw [beq_eq_false_iff_ne]; exact (Verbs.keys_ok r HM.out).1
      obtain ⟨y', ey, hck⟩ := txts_cell (HR1.out.below HB3.out) (j := k) (x := r.name) (by rw [Verbs.names, List.getElem?_map, HRK.out]; rfl)
      cases ey
      rw [txt] at hck
      have i1 : (0 : Int) ≤ (k : Int) := by omega
      have i2 : (k : Int) < 113 := by omega
      go_cut [63] (fun s63 wx => s63 = .bool false ∧ ∃ q, wx = w3.drewN q)
      case first =>
        by_cases h0 : k = 0
        · have t0 : decide (0 < k) = false := by simp [h0]
          clear h0
          go_quiet (fail)
          go_wp2_with fail
          go_meet
          exact ⟨rfl, _, rfl⟩
        · obtain ⟨j, hj⟩ : ∃ j, k = j + 1 := ⟨k - 1, by omega⟩
          have HJ := Lib.hid hj
          obtain ⟨r', hr'⟩ : ∃ r', Verbs.all[j]? = some r' := ⟨_, List.getElem?_eq_getElem (by show j < 113; omega)⟩
          obtain ⟨y', ey, hcj⟩ := txts_cell (HR1.out.below HB3.out) (j := j) (x := r'.name) (by rw [Verbs.names, List.getElem?_map, hr']; rfl)
          cases ey
          rw [txt] at hcj
          have t0 : decide (0 < k) = true := by simp; omega
          have i3 : (0 : Int) ≤ (k : Int) - 1 := by omega
          have i4 : (k : Int) - 1 < 113 := by omega
          have i5 : ((k : Int) - 1).toNat = j := by omega
          have i6 : IntKind.i64.wrap ((k : Int) - 1) = (k : Int) - 1 := IntWalk.i64_in _ (by omega)
          obtain ⟨hl1, hl2⟩ := Verbs.names_rise HRK.out hr' hj
          clear hr' h0 hj
          refine wp_region_quiet_lit (by kernel_rfl) (by kernel_rfl) ?_
          repeat (first | go_big_quiet_step (fail) | quiet_step (fail))
          refine wpQuiet_nil ?_
          intro _ hw'
          obtain ⟨nq, hw''⟩ := hw'
          subst hw''
          go_wp2_with fail
          go_meet
          exact ⟨by rw [beq_eq_false_iff_ne.2 hl2], _, rfl⟩
      case rest =>
        obtain ⟨rfl, q, rfl⟩ := hcut
        go_upto_region 10 with fail
        go_cut [95] (fun s95 wx => s95 = .bool false ∧ wx = w3.drewN q)
        case first =>
          obtain ⟨f1, f2, f3, f4⟩ := HF.out
          have f5 : decide (r.flags < 0) = false := by simp; omega
          have f6 : decide (15 < r.flags) = false := by simp; omega
          clear f1 f2
          have g1 : (bits .and .i64 r.flags 2 != 0) = false ∨ (bits .and .i64 r.flags 2 != 0) = true ∧ (bits .and .i64 r.flags 1 == 0) = false := by
            by_cases h : bits .and .i64 r.flags 2 = 0
            · exact .inl (by rw [h]; rfl)
            · exact .inr ⟨by rw [bne_iff_ne]; exact h, by rw [beq_eq_false_iff_ne]; exact f3.resolve_left h⟩
          have g2 : (bits .and .i64 r.flags 4 != 0) = false ∨ (bits .and .i64 r.flags 4 != 0) = true ∧ (bits .and .i64 r.flags 1 != 0) = false := by
            by_cases h : bits .and .i64 r.flags 4 = 0
            · exact .inl (by rw [h]; rfl)
            · exact .inr ⟨by rw [bne_iff_ne]; exact h, by rw [bne_eq_false_iff_eq]; exact f4.resolve_left h⟩
          clear f3 f4
          rcases g1 with g1 | ⟨g1, g1'⟩
          all_goals
            rcases g2 with g2 | ⟨g2, g2'⟩
            all_goals
              go_wp2_with fail
              go_meet
              exact ⟨rfl, rfl⟩
        case rest =>
          obtain ⟨rfl, rfl⟩ := hcut
          go_upto_region 12 with fail
          go_cut [5] (fun s5 wx => ∃ m : Nat, s5 = .int .i64 m ∧ Hid (r.arity = (m : Int) ∨ - r.arity = (m : Int)) ∧ wx = w3.drewN q)
          case first =>
            obtain ⟨k1, k2, k3, -⟩ := Verbs.keys_ok r HM.out
            go_wp2_with fail
            go_meet
            exact ⟨r.arity.natAbs, congrArg (Value.int .i64) (by omega), Lib.hid (by omega), rfl⟩
          case rest =>
            obtain ⟨m, rfl, HAR, rfl⟩ := hcut
            obtain ⟨hm1, hm2, hc1, hc2, hc3⟩ := Verbs.row_codes HM.out HAR.out
            have hky := Verbs.row_keys HM.out HAR.out
            have HC1 := Lib.hid hc1
            have HC2 := Lib.hid hc2
            have HC3 := Lib.hid hc3
            have HKY := Lib.hid hky
            have hnl : r.name.length ≤ 32 := (Verbs.all_good r HM.out).2.2
            clear hc1 hc2 hc3 hky
            go_wp2_with fail
            go_loopw [6, 7] (fun v i wx => ∃ j : Nat, 1 ≤ j ∧ j ≤ m ∧ i = .int .i64 j ∧ Hid (wx.ownsRow w3.heap.size 9 1 v j (txts (Verbs.wordsOf r.name (j - 1)))) ∧ Below w3.heap.size w3 wx) (fun _ i _ => m - (intOf i).toNat)
            case atStart => exact ⟨1, by omega, by omega, rfl, Lib.hid (owns_one (w3.drewN q) r.name), (below_drewN' (Below.refl _ _)).alloc (Nat.le_refl _) _⟩
            case round =>
              obtain ⟨j, hj1, hj2, rfl, HOWN, hbx⟩ := hrel
              have hbs := hbx.size
              by_cases hjm : j < m
              · go_wp2_with (at_builtin; (refine wpl_append1 Try.textsT rfl _ _ rfl w3.heap.size rfl HOWN.out #[.string ⟨#[119]⟩] rfl rfl (by simp [Value.oneCell']) (by omega) hbs ?_); intro v5 w5 hown5 hgrow5 hb5 hfr5)
                have HT := Lib.hid (show w5.ownsRow w3.heap.size 9 1 v5 (j + 1) (txts (Verbs.wordsOf r.name (j + 1 - 1))) by
                  have e : Verbs.wordsOf r.name (j + 1 - 1) = Verbs.wordsOf r.name (j - 1) ++ [[119]] := by
                    rw [Verbs.wordsOf_snoc]; congr 1; omega
                  rw [e, ← txts_snoc]; exact hown5)
                have hb3 := hbx.trans hb5
                clear hown5 hgrow5 hb5 hfr5
                go_roundw
                case rel => exact ⟨j + 1, by omega, by omega, by go_num, HT, hb3⟩
                case measure => simp [intOf]; omega
              · obtain rfl : j = m := by omega
                obtain ⟨a6, c6, rfl, hrd6⟩ := ownsRow_rd HOWN.out (txts_one _)
                have hcap : j ≤ c6 := by
                  rcases HOWN.out.2 with ⟨_, h0⟩ | ⟨g, cap, cur, hv, _, _, hcp, _⟩
                  · omega
                  · cases hv; exact hcp
                have HW6 := Lib.hid (show WordsIn wr a6 j (Verbs.wordsOf r.name (j - 1)) from ⟨by rw [Verbs.wordsOf_length]; omega, hrd6, fun y hy => by have := Verbs.wordsOf_short hnl _ y hy; omega⟩)
                have HB6 := Lib.hid hbx
                clear hrd6 HOWN hbx hbs hjm hj2
                go_wp2_with fail
                refine (check_any a6 j c6 _ _ HW6.out (by omega)).mono ?_
                rintro e w7 ⟨rfl, hb7⟩
                rw [HC1.out, rowAgg, rowCells]
                go_upto_region 19 with fail
                obtain ⟨w8, hw8⟩ : ∃ x, w7.alloc (.cells #[.string ⟨r.name.toArray⟩, .int .i64 r.arity, .int .i64 r.flags, .int .i64 r.first, .int .i64 r.last, .int .i64 r.jump] 29) = x := ⟨_, rfl⟩
                have HB8 := Lib.hid (show Below wr.heap.size wr w8 by rw [← hw8]; exact hb7.alloc hb7.size _)
                rw [hw8]
                clear hw8 hb7
                have HW8 := Lib.hid (HW6.out.below HB8.out)
                have H0 := Lib.hid (World.ownsRow_made (base := w8.heap.size) (e := 9) (size := 1) w8 #[] 0 (Nat.le_refl _) (by decide) rfl)
                have tok1 : True := trivial
                have HN6 := Lib.hid (show a6 = none → c6 = 0 by rintro rfl; have := HW6.out.cell (k := 0) (by omega); obtain ⟨_, _, _, h, _⟩ := this; cases h)
                go_wp2_with (first
                  | (at_builtin; have _t := tok1; refine wpl_append Try.textsT rfl _ _ rfl w8.heap.size rfl H0.out rfl HN6.out (by rw [txts_length, Verbs.wordsOf_length]; omega) (HW8.out.2.1.alloc _) (by omega) (by simp) ?_; intro v9 w9 hown9 hg9 hf9; clear tok1; have hz9 : w8.heap.size + 1 ≤ w9.heap.size := (by have := hg9.size; simpa using this))
                  | (at_builtin; have _t := hown9; (refine wpl_append (n := 0 + j) (m := 1) Try.textsT rfl _ _ rfl w8.heap.size rfl (hown9.alloc _) rfl (by simp) rfl (Rd.new w9 #[.string ⟨#[119]⟩] 9 (0, 0) (by simp [Value.oneCell'])) (by omega) (by rw [World.size_alloc]; omega) ?_); intro v10 w10 hown10 hg10 hf10)
                  | fail)
                have hb9 : Below w8.heap.size w8 w9 := grownBy_below ((Below.refl _ _).alloc (Nat.le_refl _) _) hg9 (by rintro k ⟨⟩; exact Nat.le_refl _) (Nat.le_refl _)
                have hb10 : Below w8.heap.size w8 w10 := by
                  refine grownBy_below hb9 (grownBy_alloc_first hg10) (fun k hk => ?_) (Nat.le_refl _)
                  rcases hf9 k hk with h | h
                  · cases h; exact Nat.le_refl _
                  · rw [World.size_alloc] at h; omega
                obtain ⟨a10, c10, rfl, hrd10⟩ := ownsRow_rd hown10 (by intro u hu; simp at hu; rcases hu with hu | rfl; exact txts_one _ u hu; rfl)
                have HB10 := Lib.hid (below_step hb10 HB8.out)
                have HW10 := Lib.hid (show WordsIn w10 a10 (0 + j + 1) (Verbs.wordsOf r.name j) from ⟨by rw [Verbs.wordsOf_length]; omega, by
                  have e : Verbs.wordsOf r.name j = Verbs.wordsOf r.name (j - 1) ++ [[119]] := by rw [Verbs.wordsOf_snoc]; congr 1; omega
                  rw [e, ← txts_snoc, txt]; simpa using hrd10, fun y hy => by have := Verbs.wordsOf_short hnl _ y hy; omega⟩)
                clear hown9 hown10 hg9 hg10 hf9 hf10 hz9 hb9 hb10 hrd10 H0 HW8 HN6
                obtain ⟨cm, hcm⟩ : ∃ c, (Verbs.check (Verbs.wordsOf r.name j)).2 = c := ⟨_, rfl⟩
                have HC2' := HC2.out
                rw [hcm] at HC2'
                have HC4 := Lib.hid HC2'
                clear HC2'
                refine (code_is _ _ _ _ cm hcm (by omega) _ HW10.out).mono ?_
                clear hcm
                rintro e w11 ⟨r11, rfl, hb11⟩
                rw [rowAgg, rowCells]
                have HB11 := Lib.hid ((below_step hb11 HB10.out).alloc (below_step hb11 HB10.out).size (.cells #[.string ⟨r11.name.toArray⟩, .int .i64 r11.arity, .int .i64 r11.flags, .int .i64 r11.first, .int .i64 r11.last, .int .i64 r11.jump] 29))
                clear hb11
                go_wp2_with fail
                have HT := Lib.hid (words_take (k := j - 1) (HW6.out.below HB11.out) (by omega))
                obtain ⟨cl, hcl⟩ : ∃ c, (Verbs.check ((Verbs.wordsOf r.name (j - 1)).take (j - 1))).2 = c := ⟨_, rfl⟩
                have hcl2 : (cl == 0) = false := by rw [beq_eq_false_iff_ne, ← hcl]; exact HC3.out
                refine (code_is _ _ _ _ cl hcl (by omega) _ HT.out).mono ?_
                clear hcl
                rintro e w12 ⟨r12, rfl, hb12⟩
                rw [rowAgg, rowCells]
                go_upto_region 21 with fail
                obtain ⟨w13, hw13⟩ : ∃ x, w12.alloc (.cells #[.string ⟨r12.name.toArray⟩, .int .i64 r12.arity, .int .i64 r12.flags, .int .i64 r12.first, .int .i64 r12.last, .int .i64 r12.jump] 29) = x := ⟨_, rfl⟩
                have hb13 : Below wr.heap.size wr w13 := by rw [← hw13]; exact (below_step hb12 HB11.out).alloc (below_step hb12 HB11.out).size _
                have HB13 := Lib.hid hb13
                clear hb12
                rw [hw13]
                clear hw13
                obtain ⟨K, hK⟩ : ∃ K, (Verbs.keys (Verbs.wordsOf r.name (j - 1))).length = K := ⟨_, rfl⟩
                have HK1 := Lib.hid (fun (W : World) (hb : Below w13.heap.size w13 W) => keys_is a6 j c6 _ K hK (by omega) W ((HW6.out.below HB13.out).below hb))
                have hkk := HKY.out
                rw [hK] at hkk
                clear hK
                have hw3 : Below w3.heap.size w3 w13 := below_step hb13 HB6.out
                obtain ⟨⟨x0, x1, x2, x3, x4, x5⟩, -⟩ := box6 ((hw3.block w2.heap.size HZ3.out).trans HX.out)
                have u1 := World.block_lt_of_cell? _ _ x0
                have HEND := Lib.hid (below_step hw3 HB3.out)
                have HS3 := Lib.hid (fun (W : World) (hb : Below w13.heap.size w13 W) => show Below w13.heap.size w13 W ∧ W.cell? ⟨w2.heap.size, 1, none⟩ = some (.int .i64 r.arity) ∧ W.cell? ⟨w2.heap.size, 3, none⟩ = some (.int .i64 r.first) from
                  ⟨hb, (hb.cell (p := ⟨w2.heap.size, 1, none⟩) u1).trans x1, (hb.cell (p := ⟨w2.heap.size, 3, none⟩) u1).trans x3⟩)
                clear hb13 hw3 x0 x2 x4 x5 d0 d1 d2 d3 d4 d5 hck u1
                by_cases hneg : r.arity < 0
                all_goals
                  have t1 := HC4.out
                  first
                    | (have t2 : decide (r.arity < 0) = true := decide_eq_true hneg; rw [t2] at t1)
                    | (have t2 : decide (r.arity < 0) = false := decide_eq_false hneg; rw [t2] at t1)
                  clear hneg
                  by_cases hfi : 0 < r.first
                  all_goals
                    have t3 := hkk
                    first
                      | (have t4 : decide (0 < r.first) = true := decide_eq_true hfi; rw [t4] at t3)
                      | (have t4 : decide (0 < r.first) = false := decide_eq_false hfi; rw [t4] at t3)
                    have t5 : decide (0 < K) = decide ((0 : Int) < (K : Int)) := by simp
                    rw [t3] at t5
                    have HH := Lib.hid hkk
                    clear hfi hkk
                    go_region_held3 (fun w' => Below w13.heap.size w13 w' ∧ w'.cell? ⟨w2.heap.size, 1, none⟩ = some (.int .i64 r.arity) ∧ w'.cell? ⟨w2.heap.size, 3, none⟩ = some (.int .i64 r.first))
                      (first
                        | exact HS3.out _ (Below.refl _ _)
                        | exact HS3.out _ (Below.refl _ _).drew
                        | (go_split_ands; exact HS3.out _ (below_step (by assumption) (by assumption))))
                      (first
                        | (go_at_call 26; (with_reducible refine (HK1.out _ ?_).mono ?_); (go_split_ands; assumption); rintro e w' ⟨a', c', rfl, hbN⟩))
                    go_split_ands
                    go_wp2_with fail
                    go_roundw
                    case rel => exact ⟨k + 1, by omega, by go_num, below_step (by assumption) HEND.out⟩
                    case measure => simp [intOf]; omega
    · have HB := Lib.hid hb
      clear hb
      go_wp2_with fail
      go_ret
      exact ⟨rfl, HB1.out.trans (HB.out.mono HB1.out.size)⟩
set_option linter.unusedVariables false

theorem own : ownKnob Try.prog.godebug = none := by kernel_rfl
theorem laidOut : laidOutB Try.prog = true := by kernel_rfl

set_option maxRecDepth 100000 in
theorem lifted (os : Os) (started : os.Started) (H : Type) (enc : TypeId × Value → H) :
    ReturnsInHanded {} Try.checked os 10 .any (Rows.verbsFlagsSpec.pre6 enc Try.prog Try.f10 Rows.verbsFlagsRow.domain false) (Rows.verbsFlagsSpec.post enc Try.prog Try.f10 false true false false) := by
  refine returnsInHanded_of_change_sized (C := Try.checked) own started (by kernel_rfl) Try.func10
    (ChangeSpec.witness6 (enc := enc) (C := Try.checked) false ⟨#[], #[], []⟩ 8 (by kernel_rfl) (by kernel_rfl) (by kernel_rfl) (by kernel_rfl)) ?_
  intro W base args ds gs before hval0 hW hcnd hsz _
  have hW' := hW
  obtain ⟨p, q, hA0, hV, rfl, hfz, hnd⟩ := hW
  have hA : DataW.TrodAll enc Try.prog W 0 (fun _ => true) true Try.f10.params.toList args.toList ds p := hA0
  rw [Try.params10] at hA
  obtain ⟨hargs, rfl, rfl⟩ := trodAll_nil hA
  obtain rfl : args = #[] := by cases args; simp_all
  obtain ⟨rfl, rfl⟩ := trodVars_none hV
  clear hA0 hval0 hsz
  refine (walk W).mono fun e W' ⟨he, bel⟩ => ?_
  subst he
  exact ⟨_, rfl, _, _, _, [], _, [], hW', trodAll_mk1 (shut_bool Try.underlying4 _), trodAll_mk0, rfl, bel.frame _, fun h => by cases h⟩

theorem over : Rows.verbsFlagsRow.holds Try.pinned (OpenSpec.ofChange Rows.verbsFlagsSpec) :=
  OpenClaim.holds_of_wide 10 Try.f10 rfl rfl rfl rfl rfl rfl rfl ⟨rfl, rfl, rfl, rfl, rfl⟩ rfl rfl rfl rfl rfl (by kernel_rfl) Try.func10 (by kernel_rfl)
    (of_decide_eq_true (by kernel_rfl)) (by unfold Func.isWrapper; first | (rw [if_pos (by decide +kernel)]; kernel_rfl) | (rw [if_neg (by decide +kernel)]; exact ⟨rfl, rfl⟩))
    (fun os started H enc _ => lifted os started H enc)

theorem proved : Rows.VerbsFlagsSaid := over
#print axioms proved
end Go.Proofs.Ytdoddnnggamaiaa.verbsFlags
