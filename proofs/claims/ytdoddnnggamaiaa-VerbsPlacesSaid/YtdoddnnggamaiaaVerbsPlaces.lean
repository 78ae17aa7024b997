/- VerbsPlaces: for every words the keys are words at rising places, as many as the row's Jump lets there be. No condition. -/
import Derived.Test.YtdoddnnggamaiaaOpenWords
import Derived.Test.YtdoddnnggamaiaaVerbsNames
namespace Go.Proofs.Ytdoddnnggamaiaa.verbsPlaces
open Go.RowKit Pantry
open Go.ChangeShapes Go.WideShapes Go.ChangeAt

theorem keysRename : Verbs.keys [[114, 101, 110, 97, 109, 101], [97], [98]] = [[97], [98]] := by decide +kernel

/-- The two calls at the head, and the check of RENAME. -/
theorem keysTo_get {l : List (List UInt8)} {J C k : Nat} (h : k < C) : (Verbs.keysTo l J C)[k]? = some (l.getD (1 + k * J) []) := by
  simp [Verbs.keysTo, h]

set_option maxHeartbeats 4000000 in
set_option maxRecDepth 100000 in
theorem walk_none (a : Option Addr) (n c : Nat) (l : List (List UInt8)) (w : World) (h : WordsIn w a n l) (hn : n ≤ 8796093021952) (hz : (Verbs.check l).2 ≠ 0 ∨ (Verbs.check l).1.first = 0) :
    Calls Try.prog 8 #[.slice a n c] w fun e w' => e = .returned (.bool true) ∧ Below w.heap.size w w' := by
  have HK := Lib.hid (Verbs.keys_none hz)
  have HW := Lib.hid h
  obtain ⟨⟨r, code⟩, hrc⟩ : ∃ p, Verbs.check l = p := ⟨_, rfl⟩
  rw [hrc] at hz
  simp only at hz
  have HRC := Lib.hid hrc
  clear hrc h
  have hz2 : code ≠ 0 ∨ code = 0 ∧ r.first = 0 := by
    by_cases h0 : code = 0
    · exact Or.inr ⟨h0, hz.resolve_left (fun h => h h0)⟩
    · exact Or.inl h0
  clear hz
  have hcase : (code != 0) = true ∨ (code != 0) = false ∧ (r.first == 0) = true := by
    rcases hz2 with h | ⟨h1, h2⟩
    · exact Or.inl (by rw [bne_iff_ne]; exact h)
    · exact Or.inr ⟨by rw [h1]; rfl, by rw [h2]; rfl⟩
  clear hz2
  rcases hcase with hc1 | ⟨hc1, hc2⟩
  all_goals
    go_enter Try.func8, Try.ntmps8
    go_wp2_with fail
    refine (keys_any a n c l w HW.out (by omega)).mono ?_
    rintro e w1 ⟨v1, rfl, ho1, hb1⟩
    rw [HK.out] at ho1
    obtain ⟨a1, c1, rfl, -⟩ := ownsRow_rd ho1 (txts_one _)
    have hz1 := hb1.size
    go_wp2_with fail
    refine (check_any a n c l w1 (HW.out.below hb1) (by omega)).mono ?_
    rintro e w2 ⟨rfl, hb2⟩
    rw [HRC.out, rowAgg, rowCells]
    have hz2 := hb2.size
    go_wp2_with fail
    obtain ⟨w2b, hw2b⟩ : ∃ x, w2.alloc (.cells #[.string ⟨r.name.toArray⟩, .int .i64 r.arity, .int .i64 r.flags, .int .i64 r.first, .int .i64 r.last, .int .i64 r.jump] 29) = x := ⟨_, rfl⟩
    have hbx : w2b.heap[w2.heap.size]? = some (.cells #[.string ⟨r.name.toArray⟩, .int .i64 r.arity, .int .i64 r.flags, .int .i64 r.first, .int .i64 r.last, .int .i64 r.jump] 29) := by rw [← hw2b]; exact heap_alloc_new w2 _
    have hb2b : Below w.heap.size w w2b := by rw [← hw2b]; exact (hb1.trans (hb2.mono hz1)).alloc (by omega) _
    have hsz2b : w2b.heap.size = w2.heap.size + 1 := by rw [← hw2b]; simp
    have HSZ := Lib.hid hsz2b
    have HX := Lib.hid hbx
    rw [hw2b, ← hsz2b]
    clear hw2b hbx hsz2b
    refine (keys_any _ 3 3 [[114, 101, 110, 97, 109, 101], [97], [98]] _ (words_new w2b [[114, 101, 110, 97, 109, 101], [97], [98]] (by decide)) (by omega)).mono ?_
    rintro e w3 ⟨v3, rfl, ho3, hb3⟩
    rw [keysRename] at ho3
    obtain ⟨a3, c3, rfl, -⟩ := ownsRow_rd ho3 (txts_one _)
    have hz3 := hb3.size
    rw [World.size_alloc] at hb3 hz3
    obtain ⟨⟨d0, d1, d2, d3, d4, d5⟩, -⟩ := box6 ((hb3.block w2.heap.size (by rw [HSZ.out]; omega)).trans ((Below.heap_alloc w2b _ _ (by rw [HSZ.out]; omega)).trans HX.out))
    go_wp2
    go_ret
    exact ⟨rfl, (hb2b.alloc hb2b.size _).trans (hb3.mono (by have := hb2b.size; omega))⟩

set_option maxHeartbeats 8000000 in
set_option maxRecDepth 100000 in
theorem walk_some1 (a : Option Addr) (n c : Nat) (l : List (List UInt8)) (w : World) (h : WordsIn w a n l) (hn : n ≤ 8796093021952) (hr2 : (Verbs.check l).2 = 0) (hf : (Verbs.check l).1.first ≠ 0) (hJ : (Verbs.check l).1.jump = 1) :
    Calls Try.prog 8 #[.slice a n c] w fun e w' => e = .returned (.bool true) ∧ Below w.heap.size w w' := by
  obtain ⟨b1, -, b3, b4, b5, b6⟩ := Verbs.key_bounds hr2 hf
  obtain ⟨-, hl1024, -, -, -⟩ := Verbs.check_ok hr2
  obtain ⟨⟨r, code⟩, hrc⟩ : ∃ p, Verbs.check l = p := ⟨_, rfl⟩
  have hr1 : (Verbs.check l).1 = r := by rw [hrc]
  rw [hr1] at b1 b3 b4 b5 b6 hJ
  have hc0 : code = 0 := by rw [hrc] at hr2; exact hr2
  subst hc0
  have hln := h.1
  rw [hln] at b3 b4 hl1024
  obtain ⟨E, hE⟩ : ∃ E : Nat, Verbs.lastOf r n = (E : Int) := ⟨(Verbs.lastOf r n).toNat, by omega⟩
  obtain ⟨C, hC⟩ : ∃ C : Nat, Verbs.keyCount r n = C := ⟨_, rfl⟩
  rw [hE] at b3 b4
  have hKC : ∀ k : Nat, k < C ↔ 1 + k * 1 ≤ E := by
    intro k
    rw [← hC, Verbs.keyCount, hE, b1, hJ]
    omega
  have hCE : (C : Int) = ((E : Int) - 1) / 1 + 1 := by
    rw [← hC, Verbs.keyCount, hE, b1, hJ]
    omega
  have HK := Lib.hid (show Verbs.keys l = Verbs.keysTo l 1 C by rw [Verbs.keys_eq (J := 1) hr2 (by rw [hr1]; exact b1) (by rw [hr1]; exact hJ), hr1, hln, hC])
  have hCb : C ≤ 1024 := by omega
  have HCE := Lib.hid hCE
  have HKC := Lib.hid hKC
  have HRC := Lib.hid hrc
  have HF := Lib.hid b1
  have HJ := Lib.hid hJ
  have HW := Lib.hid h
  obtain ⟨la, hla⟩ : ∃ la, r.last = la := ⟨_, rfl⟩
  have hE2 : (if la < 0 then la + (n : Int) else la) = (E : Int) := by rw [← hla]; exact hE
  have HE2 := Lib.hid hE2
  rw [hla] at b5 b6
  have HLA := Lib.hid hla
  have HLN := Lib.hid hln
  clear hrc hr1 hr2 hf hE hC hKC b1 hJ hln h hla hE2 hCE
  by_cases hneg : la < 0
  · have HE3 := HE2.out
    rw [if_pos hneg] at HE3
    have HE4 := Lib.hid HE3
    have hbE : (E : Int) < 1024 := by omega
    clear HE3
    go_enter Try.func8, Try.ntmps8
    go_wp2_with fail
    refine (keys_any a n c l w HW.out (by omega)).mono ?_
    rintro e w1 ⟨v1, rfl, ho1, hb1⟩
    rw [HK.out, Verbs.keysTo_length] at ho1
    obtain ⟨a1, c1, rfl, hrd1⟩ := ownsRow_rd ho1 (txts_one _)
    have hz1 := hb1.size
    have HR1 := Lib.hid hrd1
    clear hrd1 ho1
    go_wp2_with fail
    refine (check_any a n c l w1 (HW.out.below hb1) (by omega)).mono ?_
    rintro e w2 ⟨rfl, hb2⟩
    rw [HRC.out, rowAgg, rowCells, HF.out, HJ.out, HLA.out]
    have hz2 := hb2.size
    go_wp2_with fail
    obtain ⟨w2b, hw2b⟩ : ∃ x, w2.alloc (.cells #[.string ⟨r.name.toArray⟩, .int .i64 r.arity, .int .i64 r.flags, .int .i64 1, .int .i64 la, .int .i64 1] 29) = x := ⟨_, rfl⟩
    have hbx : w2b.heap[w2.heap.size]? = some (.cells #[.string ⟨r.name.toArray⟩, .int .i64 r.arity, .int .i64 r.flags, .int .i64 1, .int .i64 la, .int .i64 1] 29) := by rw [← hw2b]; exact heap_alloc_new w2 _
    have hb12 : Below w1.heap.size w1 w2b := by rw [← hw2b]; exact hb2.alloc hz2 _
    have hsz2b : w2b.heap.size = w2.heap.size + 1 := by rw [← hw2b]; simp
    have HSZ := Lib.hid hsz2b
    have HX := Lib.hid hbx
    rw [hw2b, ← hsz2b]
    clear hw2b hbx hsz2b
    refine (keys_any _ 3 3 [[114, 101, 110, 97, 109, 101], [97], [98]] _ (words_new w2b [[114, 101, 110, 97, 109, 101], [97], [98]] (by decide)) (by omega)).mono ?_
    rintro e w3 ⟨v3, rfl, ho3, hb3⟩
    rw [keysRename] at ho3
    obtain ⟨a3, c3, rfl, -⟩ := ownsRow_rd ho3 (txts_one _)
    have hz3 := hb3.size
    rw [World.size_alloc] at hb3 hz3
    have HBX := Lib.hid ((hb3.block w2.heap.size (by rw [HSZ.out]; omega)).trans ((Below.heap_alloc w2b _ _ (by rw [HSZ.out]; omega)).trans HX.out))
    obtain ⟨⟨d0, d1, d2, d3, d4, d5⟩, -⟩ := box6 HBX.out
    have hb13 : Below w1.heap.size w1 w3 := (hb12.alloc hb12.size _).trans (hb3.mono (by have := hb12.size; omega))
    have HB := Lib.hid (hb1.trans (hb13.mono hz1))
    have HW3 := Lib.hid (HW.out.below HB.out)
    have HR3 := Lib.hid (HR1.out.below hb13)
    clear hb1 hb2 hb3 hb12 hb13 ho3 HR1
    go_wp2
    · exfalso
      rename_i hbad
      have h1 := HCE.out
      have h2 := HE4.out
      rw [bne_iff_ne] at hbad
      omega
    · clear d0 d1 d2 d4
      go_loopw [7] (fun i wr => ∃ k : Nat, k ≤ C ∧ i = .int .i64 k ∧ ∃ q, wr = w3.drewN q) (fun i _ => C - (intOf i).toNat)
      case atStart => exact ⟨0, by omega, rfl, 0, rfl⟩
      case round =>
        obtain ⟨k, hk, rfl, q, rfl⟩ := hrel
        by_cases hlt : k < C
        · have hke := (HKC.out k).1 hlt
          obtain ⟨x, y, hx, hy, hcx, -⟩ := HW3.out.cell (k := 1 + k) (by omega)
          obtain ⟨z, hz, hcz⟩ := txts_cell HR3.out (show (Verbs.keysTo l 1 C)[k]? = some x by
            rw [keysTo_get hlt, Nat.mul_one, List.getD_eq_getElem?_getD, hx]; rfl)
          subst hy
          subst hz
          unfold txt at hcz
          clear hx
          go_wp2
          go_quiet (fail)
          go_wp2
          go_roundw
          case rel => exact ⟨k + 1, by omega, by go_num, _, rfl⟩
          case measure => simp [intOf]; omega
        · go_wp2
          go_ret
          exact ⟨rfl, below_drewN' HB.out⟩
  · have HE3 := HE2.out
    rw [if_neg hneg] at HE3
    subst HE3
    have hbE : (E : Int) < 1024 := by omega
    go_enter Try.func8, Try.ntmps8
    go_wp2_with fail
    refine (keys_any a n c l w HW.out (by omega)).mono ?_
    rintro e w1 ⟨v1, rfl, ho1, hb1⟩
    rw [HK.out, Verbs.keysTo_length] at ho1
    obtain ⟨a1, c1, rfl, hrd1⟩ := ownsRow_rd ho1 (txts_one _)
    have hz1 := hb1.size
    have HR1 := Lib.hid hrd1
    clear hrd1 ho1
    go_wp2_with fail
    refine (check_any a n c l w1 (HW.out.below hb1) (by omega)).mono ?_
    rintro e w2 ⟨rfl, hb2⟩
    rw [HRC.out, rowAgg, rowCells, HF.out, HJ.out, HLA.out]
    have hz2 := hb2.size
    go_wp2_with fail
    obtain ⟨w2b, hw2b⟩ : ∃ x, w2.alloc (.cells #[.string ⟨r.name.toArray⟩, .int .i64 r.arity, .int .i64 r.flags, .int .i64 1, .int .i64 (E : Int), .int .i64 1] 29) = x := ⟨_, rfl⟩
    have hbx : w2b.heap[w2.heap.size]? = some (.cells #[.string ⟨r.name.toArray⟩, .int .i64 r.arity, .int .i64 r.flags, .int .i64 1, .int .i64 (E : Int), .int .i64 1] 29) := by rw [← hw2b]; exact heap_alloc_new w2 _
    have hb12 : Below w1.heap.size w1 w2b := by rw [← hw2b]; exact hb2.alloc hz2 _
    have hsz2b : w2b.heap.size = w2.heap.size + 1 := by rw [← hw2b]; simp
    have HSZ := Lib.hid hsz2b
    have HX := Lib.hid hbx
    rw [hw2b, ← hsz2b]
    clear hw2b hbx hsz2b
    refine (keys_any _ 3 3 [[114, 101, 110, 97, 109, 101], [97], [98]] _ (words_new w2b [[114, 101, 110, 97, 109, 101], [97], [98]] (by decide)) (by omega)).mono ?_
    rintro e w3 ⟨v3, rfl, ho3, hb3⟩
    rw [keysRename] at ho3
    obtain ⟨a3, c3, rfl, -⟩ := ownsRow_rd ho3 (txts_one _)
    have hz3 := hb3.size
    rw [World.size_alloc] at hb3 hz3
    have HBX := Lib.hid ((hb3.block w2.heap.size (by rw [HSZ.out]; omega)).trans ((Below.heap_alloc w2b _ _ (by rw [HSZ.out]; omega)).trans HX.out))
    obtain ⟨⟨d0, d1, d2, d3, d4, d5⟩, -⟩ := box6 HBX.out
    have hb13 : Below w1.heap.size w1 w3 := (hb12.alloc hb12.size _).trans (hb3.mono (by have := hb12.size; omega))
    have HB := Lib.hid (hb1.trans (hb13.mono hz1))
    have HW3 := Lib.hid (HW.out.below HB.out)
    have HR3 := Lib.hid (HR1.out.below hb13)
    clear hb1 hb2 hb3 hb12 hb13 ho3 HR1
    go_wp2
    · exfalso
      rename_i hbad
      have h1 := HCE.out
      rw [bne_iff_ne] at hbad
      omega
    · clear d0 d1 d2 d4
      go_loopw [7] (fun i wr => ∃ k : Nat, k ≤ C ∧ i = .int .i64 k ∧ ∃ q, wr = w3.drewN q) (fun i _ => C - (intOf i).toNat)
      case atStart => exact ⟨0, by omega, rfl, 0, rfl⟩
      case round =>
        obtain ⟨k, hk, rfl, q, rfl⟩ := hrel
        by_cases hlt : k < C
        · have hke := (HKC.out k).1 hlt
          obtain ⟨x, y, hx, hy, hcx, -⟩ := HW3.out.cell (k := 1 + k) (by omega)
          obtain ⟨z, hz, hcz⟩ := txts_cell HR3.out (show (Verbs.keysTo l 1 C)[k]? = some x by
            rw [keysTo_get hlt, Nat.mul_one, List.getD_eq_getElem?_getD, hx]; rfl)
          subst hy
          subst hz
          unfold txt at hcz
          clear hx
          go_wp2
          go_quiet (fail)
          go_wp2
          go_roundw
          case rel => exact ⟨k + 1, by omega, by go_num, _, rfl⟩
          case measure => simp [intOf]; omega
        · go_wp2
          go_ret
          exact ⟨rfl, below_drewN' HB.out⟩

set_option maxHeartbeats 8000000 in
set_option maxRecDepth 100000 in
theorem walk_some2 (a : Option Addr) (n c : Nat) (l : List (List UInt8)) (w : World) (h : WordsIn w a n l) (hn : n ≤ 8796093021952) (hr2 : (Verbs.check l).2 = 0) (hf : (Verbs.check l).1.first ≠ 0) (hJ : (Verbs.check l).1.jump = 2) :
    Calls Try.prog 8 #[.slice a n c] w fun e w' => e = .returned (.bool true) ∧ Below w.heap.size w w' := by
  obtain ⟨b1, -, b3, b4, b5, b6⟩ := Verbs.key_bounds hr2 hf
  obtain ⟨-, hl1024, -, -, -⟩ := Verbs.check_ok hr2
  obtain ⟨⟨r, code⟩, hrc⟩ : ∃ p, Verbs.check l = p := ⟨_, rfl⟩
  have hr1 : (Verbs.check l).1 = r := by rw [hrc]
  rw [hr1] at b1 b3 b4 b5 b6 hJ
  have hc0 : code = 0 := by rw [hrc] at hr2; exact hr2
  subst hc0
  have hln := h.1
  rw [hln] at b3 b4 hl1024
  obtain ⟨E, hE⟩ : ∃ E : Nat, Verbs.lastOf r n = (E : Int) := ⟨(Verbs.lastOf r n).toNat, by omega⟩
  obtain ⟨C, hC⟩ : ∃ C : Nat, Verbs.keyCount r n = C := ⟨_, rfl⟩
  rw [hE] at b3 b4
  have hKC : ∀ k : Nat, k < C ↔ 1 + k * 2 ≤ E := by
    intro k
    rw [← hC, Verbs.keyCount, hE, b1, hJ]
    omega
  have hCE : (C : Int) = ((E : Int) - 1) / 2 + 1 := by
    rw [← hC, Verbs.keyCount, hE, b1, hJ]
    omega
  have HK := Lib.hid (show Verbs.keys l = Verbs.keysTo l 2 C by rw [Verbs.keys_eq (J := 2) hr2 (by rw [hr1]; exact b1) (by rw [hr1]; exact hJ), hr1, hln, hC])
  have hCb : C ≤ 1024 := by omega
  have HCE := Lib.hid hCE
  have HKC := Lib.hid hKC
  have HRC := Lib.hid hrc
  have HF := Lib.hid b1
  have HJ := Lib.hid hJ
  have HW := Lib.hid h
  obtain ⟨la, hla⟩ : ∃ la, r.last = la := ⟨_, rfl⟩
  have hE2 : (if la < 0 then la + (n : Int) else la) = (E : Int) := by rw [← hla]; exact hE
  have HE2 := Lib.hid hE2
  rw [hla] at b5 b6
  have HLA := Lib.hid hla
  have HLN := Lib.hid hln
  clear hrc hr1 hr2 hf hE hC hKC b1 hJ hln h hla hE2 hCE
  by_cases hneg : la < 0
  · have HE3 := HE2.out
    rw [if_pos hneg] at HE3
    have HE4 := Lib.hid HE3
    have hbE : (E : Int) < 1024 := by omega
    clear HE3
    go_enter Try.func8, Try.ntmps8
    go_wp2_with fail
    refine (keys_any a n c l w HW.out (by omega)).mono ?_
    rintro e w1 ⟨v1, rfl, ho1, hb1⟩
    rw [HK.out, Verbs.keysTo_length] at ho1
    obtain ⟨a1, c1, rfl, hrd1⟩ := ownsRow_rd ho1 (txts_one _)
    have hz1 := hb1.size
    have HR1 := Lib.hid hrd1
    clear hrd1 ho1
    go_wp2_with fail
    refine (check_any a n c l w1 (HW.out.below hb1) (by omega)).mono ?_
    rintro e w2 ⟨rfl, hb2⟩
    rw [HRC.out, rowAgg, rowCells, HF.out, HJ.out, HLA.out]
    have hz2 := hb2.size
    go_wp2_with fail
    obtain ⟨w2b, hw2b⟩ : ∃ x, w2.alloc (.cells #[.string ⟨r.name.toArray⟩, .int .i64 r.arity, .int .i64 r.flags, .int .i64 1, .int .i64 la, .int .i64 2] 29) = x := ⟨_, rfl⟩
    have hbx : w2b.heap[w2.heap.size]? = some (.cells #[.string ⟨r.name.toArray⟩, .int .i64 r.arity, .int .i64 r.flags, .int .i64 1, .int .i64 la, .int .i64 2] 29) := by rw [← hw2b]; exact heap_alloc_new w2 _
    have hb12 : Below w1.heap.size w1 w2b := by rw [← hw2b]; exact hb2.alloc hz2 _
    have hsz2b : w2b.heap.size = w2.heap.size + 1 := by rw [← hw2b]; simp
    have HSZ := Lib.hid hsz2b
    have HX := Lib.hid hbx
    rw [hw2b, ← hsz2b]
    clear hw2b hbx hsz2b
    refine (keys_any _ 3 3 [[114, 101, 110, 97, 109, 101], [97], [98]] _ (words_new w2b [[114, 101, 110, 97, 109, 101], [97], [98]] (by decide)) (by omega)).mono ?_
    rintro e w3 ⟨v3, rfl, ho3, hb3⟩
    rw [keysRename] at ho3
    obtain ⟨a3, c3, rfl, -⟩ := ownsRow_rd ho3 (txts_one _)
    have hz3 := hb3.size
    rw [World.size_alloc] at hb3 hz3
    have HBX := Lib.hid ((hb3.block w2.heap.size (by rw [HSZ.out]; omega)).trans ((Below.heap_alloc w2b _ _ (by rw [HSZ.out]; omega)).trans HX.out))
    obtain ⟨⟨d0, d1, d2, d3, d4, d5⟩, -⟩ := box6 HBX.out
    have hb13 : Below w1.heap.size w1 w3 := (hb12.alloc hb12.size _).trans (hb3.mono (by have := hb12.size; omega))
    have HB := Lib.hid (hb1.trans (hb13.mono hz1))
    have HW3 := Lib.hid (HW.out.below HB.out)
    have HR3 := Lib.hid (HR1.out.below hb13)
    clear hb1 hb2 hb3 hb12 hb13 ho3 HR1
    go_wp2
    · exfalso
      rename_i hbad
      have h1 := HCE.out
      have h2 := HE4.out
      rw [bne_iff_ne] at hbad
      omega
    · clear d0 d1 d2 d4
      go_loopw [7] (fun i wr => ∃ k : Nat, k ≤ C ∧ i = .int .i64 k ∧ ∃ q, wr = w3.drewN q) (fun i _ => C - (intOf i).toNat)
      case atStart => exact ⟨0, by omega, rfl, 0, rfl⟩
      case round =>
        obtain ⟨k, hk, rfl, q, rfl⟩ := hrel
        by_cases hlt : k < C
        · have hke := (HKC.out k).1 hlt
          obtain ⟨x, y, hx, hy, hcx, -⟩ := HW3.out.cell (k := 1 + k * 2) (by omega)
          obtain ⟨z, hz, hcz⟩ := txts_cell HR3.out (show (Verbs.keysTo l 2 C)[k]? = some x by
            rw [keysTo_get hlt, List.getD_eq_getElem?_getD, hx]; rfl)
          subst hy
          subst hz
          unfold txt at hcz
          clear hx
          go_wp2
          go_quiet (fail)
          go_wp2
          go_roundw
          case rel => exact ⟨k + 1, by omega, by go_num, _, rfl⟩
          case measure => simp [intOf]; omega
        · go_wp2
          go_ret
          exact ⟨rfl, below_drewN' HB.out⟩
  · have HE3 := HE2.out
    rw [if_neg hneg] at HE3
    subst HE3
    have hbE : (E : Int) < 1024 := by omega
    go_enter Try.func8, Try.ntmps8
    go_wp2_with fail
    refine (keys_any a n c l w HW.out (by omega)).mono ?_
    rintro e w1 ⟨v1, rfl, ho1, hb1⟩
    rw [HK.out, Verbs.keysTo_length] at ho1
    obtain ⟨a1, c1, rfl, hrd1⟩ := ownsRow_rd ho1 (txts_one _)
    have hz1 := hb1.size
    have HR1 := Lib.hid hrd1
    clear hrd1 ho1
    go_wp2_with fail
    refine (check_any a n c l w1 (HW.out.below hb1) (by omega)).mono ?_
    rintro e w2 ⟨rfl, hb2⟩
    rw [HRC.out, rowAgg, rowCells, HF.out, HJ.out, HLA.out]
    have hz2 := hb2.size
    go_wp2_with fail
    obtain ⟨w2b, hw2b⟩ : ∃ x, w2.alloc (.cells #[.string ⟨r.name.toArray⟩, .int .i64 r.arity, .int .i64 r.flags, .int .i64 1, .int .i64 (E : Int), .int .i64 2] 29) = x := ⟨_, rfl⟩
    have hbx : w2b.heap[w2.heap.size]? = some (.cells #[.string ⟨r.name.toArray⟩, .int .i64 r.arity, .int .i64 r.flags, .int .i64 1, .int .i64 (E : Int), .int .i64 2] 29) := by rw [← hw2b]; exact heap_alloc_new w2 _
    have hb12 : Below w1.heap.size w1 w2b := by rw [← hw2b]; exact hb2.alloc hz2 _
    have hsz2b : w2b.heap.size = w2.heap.size + 1 := by rw [← hw2b]; simp
    have HSZ := Lib.hid hsz2b
    have HX := Lib.hid hbx
    rw [hw2b, ← hsz2b]
    clear hw2b hbx hsz2b
    refine (keys_any _ 3 3 [[114, 101, 110, 97, 109, 101], [97], [98]] _ (words_new w2b [[114, 101, 110, 97, 109, 101], [97], [98]] (by decide)) (by omega)).mono ?_
    rintro e w3 ⟨v3, rfl, ho3, hb3⟩
    rw [keysRename] at ho3
    obtain ⟨a3, c3, rfl, -⟩ := ownsRow_rd ho3 (txts_one _)
    have hz3 := hb3.size
    rw [World.size_alloc] at hb3 hz3
    have HBX := Lib.hid ((hb3.block w2.heap.size (by rw [HSZ.out]; omega)).trans ((Below.heap_alloc w2b _ _ (by rw [HSZ.out]; omega)).trans HX.out))
    obtain ⟨⟨d0, d1, d2, d3, d4, d5⟩, -⟩ := box6 HBX.out
    have hb13 : Below w1.heap.size w1 w3 := (hb12.alloc hb12.size _).trans (hb3.mono (by have := hb12.size; omega))
    have HB := Lib.hid (hb1.trans (hb13.mono hz1))
    have HW3 := Lib.hid (HW.out.below HB.out)
    have HR3 := Lib.hid (HR1.out.below hb13)
    clear hb1 hb2 hb3 hb12 hb13 ho3 HR1
    go_wp2
    · exfalso
      rename_i hbad
      have h1 := HCE.out
      rw [bne_iff_ne] at hbad
      omega
    · clear d0 d1 d2 d4
      go_loopw [7] (fun i wr => ∃ k : Nat, k ≤ C ∧ i = .int .i64 k ∧ ∃ q, wr = w3.drewN q) (fun i _ => C - (intOf i).toNat)
      case atStart => exact ⟨0, by omega, rfl, 0, rfl⟩
      case round =>
        obtain ⟨k, hk, rfl, q, rfl⟩ := hrel
        by_cases hlt : k < C
        · have hke := (HKC.out k).1 hlt
          obtain ⟨x, y, hx, hy, hcx, -⟩ := HW3.out.cell (k := 1 + k * 2) (by omega)
          obtain ⟨z, hz, hcz⟩ := txts_cell HR3.out (show (Verbs.keysTo l 2 C)[k]? = some x by
            rw [keysTo_get hlt, List.getD_eq_getElem?_getD, hx]; rfl)
          subst hy
          subst hz
          unfold txt at hcz
          clear hx
          go_wp2
          go_quiet (fail)
          go_wp2
          go_roundw
          case rel => exact ⟨k + 1, by omega, by go_num, _, rfl⟩
          case measure => simp [intOf]; omega
        · go_wp2
          go_ret
          exact ⟨rfl, below_drewN' HB.out⟩

theorem walk (a : Option Addr) (n c : Nat) (l : List (List UInt8)) (w : World) (h : WordsIn w a n l) (hn : n ≤ 8796093021952) :
    Calls Try.prog 8 #[.slice a n c] w fun e w' => e = .returned (.bool true) ∧ Below w.heap.size w w' := by
  by_cases hz : (Verbs.check l).2 ≠ 0 ∨ (Verbs.check l).1.first = 0
  · exact walk_none a n c l w h hn hz
  · have h1 : (Verbs.check l).2 = 0 := Classical.byContradiction fun h => hz (Or.inl h)
    have h2 : (Verbs.check l).1.first ≠ 0 := fun h => hz (Or.inr h)
    rcases (Verbs.key_bounds h1 h2).2.1 with hJ | hJ
    · exact walk_some1 a n c l w h hn h1 h2 hJ
    · exact walk_some2 a n c l w h hn h1 h2 hJ
set_option linter.unusedVariables false

theorem own : ownKnob Try.prog.godebug = none := by kernel_rfl
theorem laidOut : laidOutB Try.prog = true := by kernel_rfl

set_option maxRecDepth 100000 in
theorem lifted (os : Os) (started : os.Started) (H : Type) (enc : TypeId × Value → H) :
    ReturnsInHanded {} Try.checked os 8 .any (Rows.verbsPlacesSpec.pre6 enc Try.prog Try.f8 Rows.verbsPlacesRow.domain false) (Rows.verbsPlacesSpec.post enc Try.prog Try.f8 false true false false) := by
  refine returnsInHanded_of_change_sized (C := Try.checked) own started (by kernel_rfl) Try.func8
    (ChangeSpec.witness6 (enc := enc) (C := Try.checked) false ⟨#[], #[.slice none 0 0], []⟩ 8 (by kernel_rfl) (by kernel_rfl) (by kernel_rfl) (by kernel_rfl)) ?_
  intro W base args ds gs before hval0 hW hcnd hsz _
  have hval : ∀ (j : Nat) t v, Try.f8.params[j]? = some t → args[j]? = some v → Value.okWide Try.prog W .any base t v := hval0
  have hW' := hW
  obtain ⟨p, q, hA0, hV, rfl, hfz, hnd⟩ := hW
  have hA : DataW.TrodAll enc Try.prog W 0 (fun _ => true) true Try.f8.params.toList args.toList ds p := hA0
  rw [Try.params8] at hA hval hsz
  obtain ⟨v0, vs0, d0, ds0, p0, q0, hargs, rfl, rfl, h0, r0⟩ := trodAll_cons hA
  obtain ⟨rfl, rfl, rfl⟩ := trodAll_nil r0
  obtain rfl : args = #[v0] := by cases args; simp_all
  obtain ⟨rfl, rfl⟩ := trodVars_none hV
  obtain ⟨a0, len0, cap0, rfl⟩ := okWide_slice Try.underlying34 (hval 0 34 v0 rfl rfl)
  have k0 := h0
  have lt0 : ∀ x ∈ p0, x.block < W.heap.size := by obtain ⟨m, hm⟩ := k0; exact DataW.trod_lt m _ _ _ hm
  obtain ⟨l, hl, hr, hlx, hm, hnil⟩ : ∃ l : List (List UInt8), l.length = len0 ∧ Rd W a0 (txts l) ∧ (∀ x ∈ l, x.length ≤ 140737488351232) ∧ len0 ≤ 8796093021952 ∧ (a0 = none → cap0 = 0) := by
    obtain ⟨fuel, hf⟩ := h0
    exact open_words Try.underlying34 Try.underlying9 (by kernel_rfl) (by kernel_rfl) hf (reach_arg (j := 0) hsz rfl rfl)
  clear hA0 hval0 hsz
  refine (walk a0 len0 cap0 l W ⟨hl, hr, hlx⟩ hm).mono fun e W' ⟨he, bel⟩ => ?_
  subst he
  exact ⟨_, rfl, _, _, _, [], _, [], hW', trodAll_mk1 (shut_bool Try.underlying4 _), (trodAll_cons_mk (Below.trod laidOut (by kernel_rfl) (of_decide_eq_true (by kernel_rfl)) k0 bel lt0) trodAll_mk0), rfl, bel.frame _, fun h => by cases h⟩

theorem over : Rows.verbsPlacesRow.holds Try.pinned (OpenSpec.ofChange Rows.verbsPlacesSpec) :=
  OpenClaim.holds_of_wide 8 Try.f8 rfl rfl rfl rfl rfl rfl rfl ⟨rfl, rfl, rfl, rfl, rfl⟩ rfl rfl rfl rfl rfl (by kernel_rfl) Try.func8 (by kernel_rfl)
    (of_decide_eq_true (by kernel_rfl)) (by unfold Func.isWrapper; first | (rw [if_pos (by decide +kernel)]; kernel_rfl) | (rw [if_neg (by decide +kernel)]; exact ⟨rfl, rfl⟩))
    (fun os started H enc _ => lifted os started H enc)

theorem proved : Rows.VerbsPlacesSaid := over
#print axioms proved

end Go.Proofs.Ytdoddnnggamaiaa.verbsPlaces
