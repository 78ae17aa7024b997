/- VerbsCapitals: capitals in the name don't matter, nor what the other words are. No condition. -/
import Derived.Test.YtdoddnnggamaiaaOpenWords
import Derived.Test.YtdoddnnggamaiaaVerbsNames
import Derived.Test.YtdoddnnggamaiaaTurned
import Derived.Deep.DeepCutAuto
namespace Pantry.Verbs
/-- Same name in capitals, same number of words, none long: the same answer. -/
theorem check_same {l k : List (List UInt8)} {x y : List UInt8} {t s : List (List UInt8)} (hl : l = x :: t) (hk : k = y :: s) (hx : upL x = upL y) (hlen : l.length = k.length) (h1 : ∀ z ∈ l, z.length ≤ 1000) (h2 : ∀ z ∈ k, z.length ≤ 1000) (hn : l.length ≤ 1000) : check l = check k := by
  have t1 : tooLong l = false := by
    have a := longest_le h1 l.length
    have b := total_le h1 l.length
    rw [List.take_length] at a b
    have : l.length * 1000 ≤ 1000 * 1000 := Nat.mul_le_mul_right _ hn
    simp only [tooLong, Bool.or_eq_false_iff, decide_eq_false_iff_not]
    omega
  have t2 : tooLong k = false := by
    have a := longest_le h2 k.length
    have b := total_le h2 k.length
    rw [List.take_length] at a b
    have : k.length * 1000 ≤ 1000 * 1000 := Nat.mul_le_mul_right _ (by omega)
    simp only [tooLong, Bool.or_eq_false_iff, decide_eq_false_iff_not]
    omega
  subst hl; subst hk
  simp only [check, t1, t2, hx, hlen]
theorem keys_same {l k : List (List UInt8)} (h : check l = check k) (hlen : l.length = k.length) : (keys l).length = (keys k).length := by
  simp only [keys, h, hlen]
  split <;> simp
end Pantry.Verbs
namespace Go.Proofs.Ytdoddnnggamaiaa.verbsCapitals
open Go.RowKit Pantry
open Go.ChangeShapes Go.WideShapes Go.ChangeAt

theorem addr_add0 (y : Addr) : y.add 0 = y := by
  unfold Addr.add
  split <;> simp_all
/-- No word is longer than 1000 bytes. -/
def Short (l : List (List UInt8)) : Prop := ∀ z ∈ l, z.length ≤ 1000
theorem Short.snoc {l : List (List UInt8)} {x : List UInt8} (h : Short l) (hx : x.length ≤ 1000) : Short (l ++ [x]) := by
  intro z hz
  rcases List.mem_append.1 hz with hz | hz
  · exact h z hz
  · rw [List.mem_singleton.1 hz]; exact hx
theorem owns_one (w : World) (T : List UInt8) : (w.alloc (.cells #[.string ⟨T.toArray⟩] 9)).ownsRow w.heap.size 9 1 (.slice (some ⟨w.heap.size, 0, none⟩) 1 1) 1 (txts [T]) :=
  ⟨by simp [txts], .inr ⟨w.heap.size, 1, _, rfl, Nat.le_refl _, heap_alloc_new w _, Nat.le_refl _, by decide, rfl, by simp [txts, txt]⟩⟩
theorem checkGet : (Verbs.check [[103, 69, 116], [107]]).2 = 0 ∧ (Verbs.check [[103, 69, 116], [107]]).1.name = [71, 69, 84] := by decide +kernel
theorem Short.cons {l : List (List UInt8)} {x : List UInt8} (h : Short l) (hx : x.length ≤ 1000) : Short (x :: l) := by
  intro z hz
  rcases List.mem_cons.1 hz with hz | hz
  · rw [hz]; exact hx
  · exact h z hz
theorem Short.wide {l : List (List UInt8)} (h : Short l) : ∀ z ∈ l, z.length ≤ 140737488351232 := fun z hz => by have := h z hz; omega
/-- What the second loop has: a row of its own of short words, the name at its head. -/
def Other (B : Nat) (x : List UInt8) (k : Nat) (v : Value) (w : World) : Prop := ∃ L, L.length + 1 = k ∧ w.ownsRow B 9 1 v k (txts (x :: L)) ∧ Short L
theorem words_take {w : World} {a : Option Addr} {n k : Nat} {l : List (List UInt8)} (h : WordsIn w a n l) (hk : k ≤ n) : WordsIn w a k (l.take k) :=
  ⟨by rw [List.length_take, h.1]; omega, by have := h.2.1.take k; rwa [show (txts l).take k = txts (l.take k) by simp [txts, List.map_take]] at this, fun x hx => h.2.2 x (List.mem_of_mem_take hx)⟩

/-- It returns the text U. -/
def UpIs (U : ByteArray) (w : World) (e : Ending) (w' : World) : Prop := e = .returned (.string U) ∧ Below w.heap.size w w'
/-- It returns a list of n words. -/
def KeysIs (n : Nat) (w : World) (e : Ending) (w' : World) : Prop := ∃ a c, e = .returned (.slice a n c) ∧ Below w.heap.size w w'
theorem below_step {A W V : World} (h2 : Below W.heap.size W V) (h1 : Below A.heap.size A W) : Below A.heap.size A V := h1.trans (h2.mono h1.size)
theorem up_is (x : List UInt8) (U : ByteArray) (hx : x.length ≤ 1000) (hU : upS ⟨x.toArray⟩ = U) (w : World) : Calls Try.prog 17 #[.string ⟨x.toArray⟩] w (UpIs U w) :=
  (upper_any ⟨x.toArray⟩ w (by show x.length ≤ _; omega)).mono fun e w' ⟨h1, h2⟩ => ⟨by rw [h1, hU], h2⟩
theorem keys_is (a : Option Addr) (n c : Nat) (l : List (List UInt8)) (K : Nat) (hK : (Verbs.keys l).length = K) (hn : n ≤ 140737488351232) (w : World) (h : WordsIn w a n l) : Calls Try.prog 26 #[.slice a n c] w (KeysIs K w) :=
  (keys_any a n c l w h hn).mono fun e w' ⟨v, h1, h2, h3⟩ => by
    obtain ⟨a', c', rfl, -⟩ := ownsRow_rd h2 (txts_one _)
    exact ⟨a', c', by rw [h1, hK], h3⟩

set_option maxHeartbeats 4000000 in
set_option maxRecDepth 100000 in
theorem walk (a : Option Addr) (n c : Nat) (l : List (List UInt8)) (b : Option Addr) (n' c' : Nat) (l' : List (List UInt8)) (m : Nat) (w : World) (h : WordsIn w a n l) (hn : n ≤ 8796093021952) (h' : WordsIn w b n' l') (hn' : n' ≤ 8796093021952) (hc : n ≤ c) :
    Calls Try.prog 7 #[.slice a n c, .slice b n' c', .int .u64 m] w fun e w' => e = .returned (.bool true) ∧ Below w.heap.size w w' := by
  have HW := Lib.hid h
  have HV := Lib.hid h'
  clear h h'
  go_enter Try.func7, Try.ntmps7
  go_upto_if 19 with fail
  go_cut [0] (fun s0 wx => ∃ a n c l, s0 = .slice a n c ∧ WordsIn wx a n l ∧ 1 ≤ n ∧ n ≤ c ∧ n ≤ 8796093021952 ∧ Below w.heap.size w wx)
  case first =>
    by_cases h0 : n = 0
    · have t0 : ((n : Int) == 0) = true := by rw [h0]; rfl
      go_wp2_with fail
      go_meet
      exact ⟨_, 2, 2, [[103, 101, 116], [107]], rfl, words_new w [[103, 101, 116], [107]] (by decide), by omega, by omega, by omega, (Below.refl _ _).alloc (Nat.le_refl _) _⟩
    · have t0 : ((n : Int) == 0) = false := by rw [beq_eq_false_iff_ne]; omega
      go_wp2_with fail
      go_meet
      exact ⟨a, n, c, l, rfl, HW.out, by omega, hc, hn, Below.refl _ _⟩
  case rest =>
    obtain ⟨a1, n1, c1, l1, rfl, hw1, hn1, hnc1, hnb1, hb1⟩ := hcut
    have HW1 := Lib.hid hw1
    clear hw1
    go_upto_if 23 with fail
    go_cut [0] (fun s0 wx => ∃ a n c l, s0 = .slice a n c ∧ WordsIn wx a n l ∧ 1 ≤ n ∧ n ≤ 1000 ∧ Below w.heap.size w wx)
    case first =>
      by_cases h0 : 1000 < n1
      · go_wp2_with fail
        go_meet
        exact ⟨a1, 1000, c1, l1.take 1000, rfl, words_take HW1.out (by omega), by omega, by omega, hb1⟩
      · go_wp2_with fail
        go_meet
        exact ⟨a1, n1, c1, l1, rfl, HW1.out, by omega, by omega, hb1⟩
    case rest =>
      obtain ⟨a2, n2, c2, l2, rfl, hw2, hn2, hnb2, hb2⟩ := hcut
      have HW2 := Lib.hid hw2
      have HL2 := Lib.hid hw2.1
      have HB2 := Lib.hid hb2
      clear hw2 hb2
      go_wp2_with fail
      go_loop [7] (fun i => ∃ k : Nat, k ≤ n2 ∧ i = .int .i64 k ∧ Short (l2.take k)) (fun i => n2 - (intOf i).toNat)
      case atStart => exact ⟨0, Nat.zero_le _, rfl, by intro z hz; simp at hz⟩
      case round =>
        obtain ⟨k, hk, rfl, hsh⟩ := hrel
        by_cases hlt : k < n2
        · obtain ⟨x, hx⟩ : ∃ x, l2[k]? = some x := ⟨_, List.getElem?_eq_getElem (by rw [HL2.out]; exact hlt)⟩
          obtain ⟨y, rfl, hc⟩ := txts_cell HW2.out.2.1 hx
          by_cases hxl : x.length ≤ 1000
          · have HS := Lib.hid (show Short (l2.take (k + 1)) by rw [Verbs.take_snoc hx]; exact hsh.snoc hxl)
            clear hx
            rw [txt] at hc
            go_wp2_with fail
            go_round
            case rel => exact ⟨k + 1, by omega, by go_num, HS.out⟩
            case measure => simp [intOf]; omega
          · clear hx
            rw [txt] at hc
            go_wp2_with fail
            go_ret
            exact ⟨rfl, HB2.out⟩
        · have HS := Lib.hid (show Short l2 by rwa [List.take_of_length_le (by rw [HL2.out]; omega)] at hsh)
          clear hsh
          obtain ⟨x0, t0, hl2⟩ : ∃ x t, l2 = x :: t := by
            cases hl : l2 with
            | nil => have := HL2.out; rw [hl] at this; simp at this; omega
            | cons x t => exact ⟨x, t, rfl⟩
          have hx0 : l2[0]? = some x0 := by rw [hl2]; rfl
          have hxl0 : x0.length ≤ 1000 := HS.out x0 (by rw [hl2]; exact List.mem_cons_self)
          obtain ⟨y, rfl, hc⟩ := txts_cell HW2.out.2.1 hx0
          have HLL := Lib.hid hl2
          have HC := Lib.hid hc
          rw [txt, addr_add0] at hc
          clear hl2 hx0
          go_wp2_with fail
          refine (turned_any ⟨x0.toArray⟩ m _ (by show x0.length ≤ _; omega)).mono ?_
          rintro e wt ⟨T, rfl, hTl, hTu, hbt⟩
          have hTl' : T.length ≤ 1000 := by rw [hTl]; show x0.length ≤ _; exact hxl0
          have HTU := Lib.hid (show upL x0 = upL T from hTu.symm)
          clear hTl hTu hc
          have hzt := hbt.size
          go_wp2_with fail
          go_loopw [8, 9] (fun v i wr => ∃ k : Nat, k ≤ n2 ∧ i = .int .i64 k ∧ Other wt.heap.size T k v wr ∧ Below wt.heap.size wt wr) (fun _ i _ => n2 - (intOf i).toNat)
          case atStart => exact ⟨1, by omega, rfl, ⟨[], rfl, owns_one wt T, by intro z hz; simp at hz⟩, (Below.refl _ _).alloc (Nat.le_refl _) _⟩
          case round =>
            obtain ⟨k, hk, rfl, ⟨L, hL, hown, hsl⟩, hb⟩ := hrel
            have HSL := Lib.hid hsl
            have HLn := Lib.hid hL
            clear hsl hL
            have hbs := hb.size
            by_cases hlt : k < n2
            · by_cases h1 : k < n'
              · obtain ⟨x, hx⟩ : ∃ x, l'[k]? = some x := ⟨_, List.getElem?_eq_getElem (by rw [HV.out.1]; exact h1)⟩
                obtain ⟨z, rfl, hc⟩ := txts_cell (HV.out.2.1.below (HB2.out.trans ((hbt.trans (hb.mono hzt)).mono HB2.out.size))) hx
                rw [txt] at hc
                clear hx
                by_cases hxl : x.length ≤ 1000
                · go_wp2_with (at_builtin; (refine wpl_append1 Try.textsT rfl _ _ rfl wt.heap.size rfl hown #[.string ⟨x.toArray⟩] rfl rfl (by simp [Value.oneCell']) (by omega) hbs ?_); intro v2 w2 hown2 hgrow2 hb2 hfr2)
                  have ht : Other wt.heap.size T (k + 1) v2 w2 := ⟨L ++ [x], by rw [List.length_append, ← HLn.out]; rfl, by rw [← List.cons_append, ← txts_snoc]; exact hown2, HSL.out.snoc (hxl)⟩
                  have hb3 := hb.trans hb2
                  clear hown2 hgrow2 hb2 hfr2
                  go_roundw
                  case rel => exact ⟨k + 1, by omega, by go_num, ht, hb3⟩
                  case measure => simp [intOf]; omega
                · go_wp2_with (at_builtin; (refine wpl_append1 Try.textsT rfl _ _ rfl wt.heap.size rfl hown #[.string ⟨#[111, 116, 104, 101, 114]⟩] rfl rfl (by simp [Value.oneCell']) (by omega) hbs ?_); intro v2 w2 hown2 hgrow2 hb2 hfr2)
                  have ht : Other wt.heap.size T (k + 1) v2 w2 := ⟨L ++ [[111, 116, 104, 101, 114]], by rw [List.length_append, ← HLn.out]; rfl, by rw [← List.cons_append, ← txts_snoc]; exact hown2, HSL.out.snoc (by decide)⟩
                  have hb3 := hb.trans hb2
                  clear hown2 hgrow2 hb2 hfr2
                  go_roundw
                  case rel => exact ⟨k + 1, by omega, by go_num, ht, hb3⟩
                  case measure => simp [intOf]; omega
              · go_wp2_with (at_builtin; (refine wpl_append1 Try.textsT rfl _ _ rfl wt.heap.size rfl hown #[.string ⟨#[111, 116, 104, 101, 114]⟩] rfl rfl (by simp [Value.oneCell']) (by omega) hbs ?_); intro v2 w2 hown2 hgrow2 hb2 hfr2)
                have ht : Other wt.heap.size T (k + 1) v2 w2 := ⟨L ++ [[111, 116, 104, 101, 114]], by rw [List.length_append, ← HLn.out]; rfl, by rw [← List.cons_append, ← txts_snoc]; exact hown2, HSL.out.snoc (by decide)⟩
                have hb3 := hb.trans hb2
                clear hown2 hgrow2 hb2 hfr2
                go_roundw
                case rel => exact ⟨k + 1, by omega, by go_num, ht, hb3⟩
                case measure => simp [intOf]; omega
            · obtain rfl : k = n2 := by omega
              obtain ⟨a', c', rfl, hrd⟩ := ownsRow_rd hown (txts_one _)
              obtain ⟨z, rfl, hcz⟩ := txts_cell hrd (j := 0) rfl
              rw [txt, addr_add0] at hcz
              have HCZ := Lib.hid hcz
              clear hcz
              have hch : Verbs.check l2 = Verbs.check (T :: L) := Verbs.check_same HLL.out rfl HTU.out (by rw [HL2.out, List.length_cons, HLn.out]) HS.out (HSL.out.cons hTl') (by rw [HL2.out]; exact hnb2)
              have hks := Verbs.keys_same hch (by rw [HL2.out, List.length_cons, HLn.out])
              obtain ⟨⟨r, code⟩, hrc⟩ : ∃ p, Verbs.check l2 = p := ⟨_, rfl⟩
              have HRC := Lib.hid hrc
              have HRD := Lib.hid (hch.symm.trans hrc)
              have HKS := Lib.hid hks
              have HBR := Lib.hid (HB2.out.trans ((hbt.trans (hb.mono hzt)).mono HB2.out.size))
              have HX := Lib.hid (show WordsIn wr (some y) k l2 from ⟨HL2.out, HW2.out.2.1.below (hbt.trans (hb.mono hzt)), HW2.out.2.2⟩)
              have HZ := Lib.hid (show WordsIn wr (some z) k (T :: L) from ⟨by rw [List.length_cons, HLn.out], hrd, (HSL.out.cons hTl').wide⟩)
              clear hch hrc hks hrd hown hb hbt hbs
              obtain ⟨⟨rg, cg⟩, hrg⟩ : ∃ p, Verbs.check [[103, 69, 116], [107]] = p := ⟨_, rfl⟩
              obtain ⟨hg2, hg1⟩ := checkGet
              rw [hrg] at hg1 hg2
              simp only at hg1 hg2
              subst hg2
              have HRG := Lib.hid hrg
              have HNG := Lib.hid hg1
              clear hrg hg1
              go_wp2_with fail
              refine (check_any _ k c2 l2 _ HX.out (by omega)).mono ?_
              rintro e w3 ⟨rfl, hb3⟩
              rw [HRC.out, rowAgg, rowCells]
              have hz3 := hb3.size
              go_wp2_with fail
              refine (check_any (some z) k c' (T :: L) _ (HZ.out.below (hb3.alloc hz3 _)) (by omega)).mono ?_
              rintro e w4 ⟨rfl, hb4⟩
              rw [HRD.out, rowAgg, rowCells]
              have hz4 := hb4.size
              rw [World.size_alloc] at hb4 hz4
              have hb4' : Below wr.heap.size wr w4 := (hb3.alloc hz3 _).trans (hb4.mono (by omega))
              go_wp2_with fail
              obtain ⟨w4b, hw4b⟩ : ∃ x, w4.alloc (.cells #[.string ⟨r.name.toArray⟩, .int .i64 r.arity, .int .i64 r.flags, .int .i64 r.first, .int .i64 r.last, .int .i64 r.jump] 29) = x := ⟨_, rfl⟩
              have hbx : w4b.heap[w4.heap.size]? = some (.cells #[.string ⟨r.name.toArray⟩, .int .i64 r.arity, .int .i64 r.flags, .int .i64 r.first, .int .i64 r.last, .int .i64 r.jump] 29) := by rw [← hw4b]; exact heap_alloc_new w4 _
              have hb4b : Below w4.heap.size w4 w4b := by rw [← hw4b]; exact (Below.refl _ _).alloc (Nat.le_refl _) _
              have hsz4b : w4b.heap.size = w4.heap.size + 1 := by rw [← hw4b]; simp
              have HSZ := Lib.hid hsz4b
              have HBX := Lib.hid hbx
              rw [hw4b, ← hsz4b]
              clear hw4b hbx hsz4b
              refine (check_any _ 2 2 [[103, 69, 116], [107]] _ (words_new w4b [[103, 69, 116], [107]] (by decide)) (by omega)).mono ?_
              rintro e w5 ⟨rfl, hb5⟩
              rw [HRG.out, rowAgg, rowCells]
              have hz5 := hb5.size
              rw [World.size_alloc] at hb5 hz5
              go_upto_region 21 with fail
              obtain ⟨wr2, hwr2⟩ : ∃ x, w5.alloc (.cells #[.string ⟨rg.name.toArray⟩, .int .i64 rg.arity, .int .i64 rg.flags, .int .i64 rg.first, .int .i64 rg.last, .int .i64 rg.jump] 29) = x := ⟨_, rfl⟩
              have y3 : wr2.heap[w5.heap.size]? = some (.cells #[.string ⟨rg.name.toArray⟩, .int .i64 rg.arity, .int .i64 rg.flags, .int .i64 rg.first, .int .i64 rg.last, .int .i64 rg.jump] 29) := by rw [← hwr2]; exact heap_alloc_new w5 _
              have hb5r : Below w5.heap.size w5 wr2 := by rw [← hwr2]; exact (Below.refl _ _).alloc (Nat.le_refl _) _
              have x1 : wr2.heap[w3.heap.size]? = some (.cells #[.string ⟨r.name.toArray⟩, .int .i64 r.arity, .int .i64 r.flags, .int .i64 r.first, .int .i64 r.last, .int .i64 r.jump] 29) :=
                (hb5r.block _ (by have := HSZ.out; omega)).trans ((hb5.block _ (by have := HSZ.out; omega)).trans ((Below.heap_alloc w4b _ _ (by have := HSZ.out; omega)).trans ((hb4b.block _ (by omega)).trans ((hb4.block _ (by omega)).trans (heap_alloc_new w3 _)))))
              have x2 : wr2.heap[w4.heap.size]? = some (.cells #[.string ⟨r.name.toArray⟩, .int .i64 r.arity, .int .i64 r.flags, .int .i64 r.first, .int .i64 r.last, .int .i64 r.jump] 29) :=
                (hb5r.block _ (by have := HSZ.out; omega)).trans ((hb5.block _ (by have := HSZ.out; omega)).trans ((Below.heap_alloc w4b _ _ (by have := HSZ.out; omega)).trans HBX.out))
              obtain ⟨⟨c0, c1, c2', c3, c4, c5⟩, -⟩ := box6 x1
              obtain ⟨⟨d0, d1, d2, d3, d4, d5⟩, -⟩ := box6 x2
              obtain ⟨⟨e0, -, -, -, -, -⟩, -⟩ := box6 y3
              have hbQ : Below w4b.heap.size w4b w5 := ((Below.refl w4b.heap.size w4b).alloc (Nat.le_refl _) _).trans (hb5.mono (by omega))
              have hbR : Below wr.heap.size wr wr2 := (hb4'.trans (hb4b.mono (by omega))).trans ((hbQ.mono (by have := HSZ.out; omega)).trans (hb5r.mono (by have := HSZ.out; omega)))
              have hw1 : Below wr.heap.size wr wr2 := hbR
              obtain ⟨U, hU⟩ : ∃ U, upS ⟨T.toArray⟩ = U := ⟨_, rfl⟩
              have hU0 : upS ⟨x0.toArray⟩ = U := by rw [← hU]; unfold upS; exact congrArg (fun l : List UInt8 => (⟨l.toArray⟩ : ByteArray)) HTU.out
              obtain ⟨K, hK⟩ : ∃ K, (Verbs.keys (T :: L)).length = K := ⟨_, rfl⟩
              have hK0 : (Verbs.keys l2).length = K := HKS.out.trans hK
              have HU1 := Lib.hid (up_is x0 U hxl0 hU0)
              have HU2 := Lib.hid (up_is T U hTl' hU)
              have HK1 := Lib.hid (fun (W : World) (hb : Below wr2.heap.size wr2 W) => keys_is (some y) k c2 l2 K hK0 (by omega) W ((HX.out.below hw1).below hb))
              have HK2 := Lib.hid (fun (W : World) (hb : Below wr2.heap.size wr2 W) => keys_is (some z) k c' (T :: L) K hK (by omega) W ((HZ.out.below hw1).below hb))
              have f1 : wr2.cell? y = some (.string ⟨x0.toArray⟩) := by
                obtain ⟨y', e1, h1⟩ := (HX.out.below hw1).2.1.cell 0 (by rw [HLL.out]; simp [txts])
                cases e1
                rw [addr_add0] at h1
                rw [h1]
                simp only [HLL.out]
                rfl
              have f2 : wr2.cell? z = some (.string ⟨T.toArray⟩) := by
                obtain ⟨y', e1, h1⟩ := (HZ.out.below hw1).2.1.cell 0 (by simp [txts])
                cases e1
                rw [addr_add0] at h1
                rw [h1]
                rfl
              have HB3 := Lib.hid (HBR.out.trans (hw1.mono HBR.out.size))
              have u1 := World.block_lt_of_cell? _ _ c0
              have u2 := World.block_lt_of_cell? _ _ d0
              have u3 := World.block_lt_of_cell? _ _ e0
              have u4 := World.block_lt_of_cell? _ _ f1
              have u5 := World.block_lt_of_cell? _ _ f2
              have HS2 := Lib.hid (fun (W : World) (hb : Below wr2.heap.size wr2 W) => show Below wr2.heap.size wr2 W ∧ W.cell? ⟨w3.heap.size, 0, none⟩ = some (.string ⟨r.name.toArray⟩) ∧ W.cell? ⟨w3.heap.size, 1, none⟩ = some (.int .i64 r.arity) ∧ W.cell? ⟨w3.heap.size, 2, none⟩ = some (.int .i64 r.flags) ∧ W.cell? ⟨w3.heap.size, 3, none⟩ = some (.int .i64 r.first) ∧ W.cell? ⟨w3.heap.size, 4, none⟩ = some (.int .i64 r.last) ∧ W.cell? ⟨w3.heap.size, 5, none⟩ = some (.int .i64 r.jump)
                ∧ W.cell? ⟨w4.heap.size, 0, none⟩ = some (.string ⟨r.name.toArray⟩) ∧ W.cell? ⟨w4.heap.size, 1, none⟩ = some (.int .i64 r.arity) ∧ W.cell? ⟨w4.heap.size, 2, none⟩ = some (.int .i64 r.flags) ∧ W.cell? ⟨w4.heap.size, 3, none⟩ = some (.int .i64 r.first) ∧ W.cell? ⟨w4.heap.size, 4, none⟩ = some (.int .i64 r.last) ∧ W.cell? ⟨w4.heap.size, 5, none⟩ = some (.int .i64 r.jump)
                ∧ W.cell? ⟨w5.heap.size, 0, none⟩ = some (.string ⟨rg.name.toArray⟩) ∧ W.cell? y = some (.string ⟨x0.toArray⟩) ∧ W.cell? z = some (.string ⟨T.toArray⟩) from
                ⟨hb, (hb.cell (p := ⟨w3.heap.size, 0, none⟩) u1).trans c0, (hb.cell (p := ⟨w3.heap.size, 1, none⟩) u1).trans c1, (hb.cell (p := ⟨w3.heap.size, 2, none⟩) u1).trans c2', (hb.cell (p := ⟨w3.heap.size, 3, none⟩) u1).trans c3, (hb.cell (p := ⟨w3.heap.size, 4, none⟩) u1).trans c4, (hb.cell (p := ⟨w3.heap.size, 5, none⟩) u1).trans c5, (hb.cell (p := ⟨w4.heap.size, 0, none⟩) u2).trans d0, (hb.cell (p := ⟨w4.heap.size, 1, none⟩) u2).trans d1, (hb.cell (p := ⟨w4.heap.size, 2, none⟩) u2).trans d2, (hb.cell (p := ⟨w4.heap.size, 3, none⟩) u2).trans d3, (hb.cell (p := ⟨w4.heap.size, 4, none⟩) u2).trans d4, (hb.cell (p := ⟨w4.heap.size, 5, none⟩) u2).trans d5, (hb.cell u3).trans e0, (hb.cell u4).trans f1, (hb.cell u5).trans f2⟩)
              rw [hwr2]
              clear hw1 hK hK0 hU hU0 u1 u2 u3 u4 u5
              clear hwr2 x1 x2 y3 hbR hbQ hb5r hb5 hb4b hb4' hb4 hb3
              rw [HNG.out] at e0 HS2 ⊢
              have q1 : (0 : Int) < (k : Int) := by omega
              have q2 : 0 < k := by omega
              go_region_held3 (fun w' => Below wr2.heap.size wr2 w' ∧ w'.cell? ⟨w3.heap.size, 0, none⟩ = some (.string ⟨r.name.toArray⟩) ∧ w'.cell? ⟨w3.heap.size, 1, none⟩ = some (.int .i64 r.arity) ∧ w'.cell? ⟨w3.heap.size, 2, none⟩ = some (.int .i64 r.flags) ∧ w'.cell? ⟨w3.heap.size, 3, none⟩ = some (.int .i64 r.first) ∧ w'.cell? ⟨w3.heap.size, 4, none⟩ = some (.int .i64 r.last) ∧ w'.cell? ⟨w3.heap.size, 5, none⟩ = some (.int .i64 r.jump)
                ∧ w'.cell? ⟨w4.heap.size, 0, none⟩ = some (.string ⟨r.name.toArray⟩) ∧ w'.cell? ⟨w4.heap.size, 1, none⟩ = some (.int .i64 r.arity) ∧ w'.cell? ⟨w4.heap.size, 2, none⟩ = some (.int .i64 r.flags) ∧ w'.cell? ⟨w4.heap.size, 3, none⟩ = some (.int .i64 r.first) ∧ w'.cell? ⟨w4.heap.size, 4, none⟩ = some (.int .i64 r.last) ∧ w'.cell? ⟨w4.heap.size, 5, none⟩ = some (.int .i64 r.jump)
                ∧ w'.cell? ⟨w5.heap.size, 0, none⟩ = some (.string ⟨#[71, 69, 84]⟩) ∧ w'.cell? y = some (.string ⟨x0.toArray⟩) ∧ w'.cell? z = some (.string ⟨T.toArray⟩))
                (first
                  | exact HS2.out _ (Below.refl _ _)
                  | exact HS2.out _ (Below.refl _ _).drew
                  | (go_split_ands; exact HS2.out _ (below_step (by assumption) (by assumption))))
                (first
                  | (go_at_call 17; (with_reducible refine (HU1.out _).mono ?_); rintro e w' ⟨rfl, hbN⟩)
                  | (go_at_call 17; (with_reducible refine (HU2.out _).mono ?_); rintro e w' ⟨rfl, hbN⟩)
                  | (go_at_call 26; (with_reducible refine (HK1.out _ ?_).mono ?_); (go_split_ands; assumption); rintro e w' ⟨a', c', rfl, hbN⟩)
                  | (go_at_call 26; (with_reducible refine (HK2.out _ ?_).mono ?_); (go_split_ands; assumption); rintro e w' ⟨a', c', rfl, hbN⟩))
              go_split_ands
              go_wp2_with fail
              go_ret
              exact ⟨rfl, HB3.out.trans (Below.mono (by assumption) HB3.out.size)⟩
set_option linter.unusedVariables false

theorem own : ownKnob Try.prog.godebug = none := by kernel_rfl
theorem laidOut : laidOutB Try.prog = true := by kernel_rfl
theorem words_cap {H : Type} {enc : TypeId × Value → H} {P : Program} {w : World} {t e : TypeId} {fuel base : Nat} {spare : Nat → Bool} {held : Bool} {a : Option Addr} {len cap : Nat} {d : DataW H} {p : List MemPlace} (ht : P.underlying t = some (.slice e)) (he : P.underlying e = some .string) (hc : P.cellsOf e = 1)
    (h : DataW.trod enc P w base spare held fuel t [.slice a len cap] = some (d, p)) : len ≤ cap := by
  rcases open_strings ht he hc h with ⟨hcs, hx⟩ | ⟨x, l, c, ss, hcs, _, hl, -⟩
  · simp at hcs; omega
  · simp at hcs; omega

set_option maxRecDepth 100000 in
theorem lifted (os : Os) (started : os.Started) (H : Type) (enc : TypeId × Value → H) :
    ReturnsInHanded {} Try.checked os 7 .any (Rows.verbsCapitalsSpec.pre6 enc Try.prog Try.f7 Rows.verbsCapitalsRow.domain false) (Rows.verbsCapitalsSpec.post enc Try.prog Try.f7 false true false false) := by
  refine returnsInHanded_of_change_sized (C := Try.checked) own started (by kernel_rfl) Try.func7
    (ChangeSpec.witness6 (enc := enc) (C := Try.checked) false ⟨#[], #[.slice none 0 0, .slice none 0 0, .int .u64 0], []⟩ 8 (by kernel_rfl) (by kernel_rfl) (by kernel_rfl) (by kernel_rfl)) ?_
  intro W base args ds gs before hval0 hW hcnd hsz _
  have hval : ∀ (j : Nat) t v, Try.f7.params[j]? = some t → args[j]? = some v → Value.okWide Try.prog W .any base t v := hval0
  have hW' := hW
  obtain ⟨p, q, hA0, hV, rfl, hfz, hnd⟩ := hW
  have hA : DataW.TrodAll enc Try.prog W 0 (fun _ => true) true Try.f7.params.toList args.toList ds p := hA0
  rw [Try.params7] at hA hval hsz
  obtain ⟨v0, vs0, d0, ds0, p0, q0, hargs, rfl, rfl, h0, r0⟩ := trodAll_cons hA
  obtain ⟨v1, vs1, d1, ds1, p1, q1, rfl, rfl, rfl, h1, r1⟩ := trodAll_cons r0
  obtain ⟨v2, vs2, d2, ds2, p2, q2, rfl, rfl, rfl, h2, r2⟩ := trodAll_cons r1
  obtain ⟨rfl, rfl, rfl⟩ := trodAll_nil r2
  obtain rfl : args = #[v0, v1, v2] := by cases args; simp_all
  obtain ⟨rfl, rfl⟩ := trodVars_none hV
  obtain ⟨a0, len0, cap0, rfl⟩ := okWide_slice Try.underlying34 (hval 0 34 v0 rfl rfl)
  obtain ⟨a1, len1, cap1, rfl⟩ := okWide_slice Try.underlying34 (hval 1 34 v1 rfl rfl)
  have k0 := h0
  have k1 := h1
  have k2 := h2
  obtain ⟨n, rfl, rfl, rfl, hwf⟩ := open_int Try.underlying24 (hval 2 24 v2 rfl rfl) h2
  have hmin : IntKind.u64.min = 0 := rfl
  have hn0 : 0 ≤ n := by simp [Lit.wf] at hwf; omega
  obtain ⟨m, rfl⟩ := Int.eq_ofNat_of_zero_le hn0
  have lt0 : ∀ x ∈ p0, x.block < W.heap.size := by obtain ⟨m, hm⟩ := k0; exact DataW.trod_lt m _ _ _ hm
  have lt1 : ∀ x ∈ p1, x.block < W.heap.size := by obtain ⟨m, hm⟩ := k1; exact DataW.trod_lt m _ _ _ hm
  obtain ⟨l, hl, hr, hlx, hm, hnil⟩ : ∃ l : List (List UInt8), l.length = len0 ∧ Rd W a0 (txts l) ∧ (∀ x ∈ l, x.length ≤ 140737488351232) ∧ len0 ≤ 8796093021952 ∧ (a0 = none → cap0 = 0) := by
    obtain ⟨fuel, hf⟩ := h0
    exact open_words Try.underlying34 Try.underlying9 (by kernel_rfl) (by kernel_rfl) hf (reach_arg (j := 0) hsz rfl rfl)
  have hcap : len0 ≤ cap0 := by obtain ⟨fuel, hf⟩ := h0; exact words_cap Try.underlying34 Try.underlying9 (by kernel_rfl) hf
  obtain ⟨l', hl', hr', hlx', hm', hnil'⟩ : ∃ l : List (List UInt8), l.length = len1 ∧ Rd W a1 (txts l) ∧ (∀ x ∈ l, x.length ≤ 140737488351232) ∧ len1 ≤ 8796093021952 ∧ (a1 = none → cap1 = 0) := by
    obtain ⟨fuel, hf⟩ := h1
    exact open_words Try.underlying34 Try.underlying9 (by kernel_rfl) (by kernel_rfl) hf (reach_arg (j := 1) hsz rfl rfl)
  clear hA0 hval0 hsz
  refine (walk a0 len0 cap0 l a1 len1 cap1 l' m W ⟨hl, hr, hlx⟩ hm ⟨hl', hr', hlx'⟩ hm' hcap).mono fun e W' ⟨he, bel⟩ => ?_
  subst he
  exact ⟨_, rfl, _, _, _, [], _, [], hW', trodAll_mk1 (shut_bool Try.underlying4 _), (trodAll_cons_mk (Below.trod laidOut (by kernel_rfl) (of_decide_eq_true (by kernel_rfl)) k0 bel lt0) (trodAll_cons_mk (Below.trod laidOut (by kernel_rfl) (of_decide_eq_true (by kernel_rfl)) k1 bel lt1) (trodAll_cons_mk (Below.trod laidOut (by kernel_rfl) (of_decide_eq_true (by kernel_rfl)) k2 bel (by simp)) trodAll_mk0))), rfl, bel.frame _, fun h => by cases h⟩

theorem over : Rows.verbsCapitalsRow.holds Try.pinned (OpenSpec.ofChange Rows.verbsCapitalsSpec) :=
  OpenClaim.holds_of_wide 7 Try.f7 rfl rfl rfl rfl rfl rfl rfl ⟨rfl, rfl, rfl, rfl, rfl⟩ rfl rfl rfl rfl rfl (by kernel_rfl) Try.func7 (by kernel_rfl)
    (of_decide_eq_true (by kernel_rfl)) (by unfold Func.isWrapper; first | (rw [if_pos (by decide +kernel)]; kernel_rfl) | (rw [if_neg (by decide +kernel)]; exact ⟨rfl, rfl⟩))
    (fun os started H enc _ => lifted os started H enc)

theorem proved : Rows.VerbsCapitalsSaid := over
#print axioms proved

end Go.Proofs.Ytdoddnnggamaiaa.verbsCapitals
