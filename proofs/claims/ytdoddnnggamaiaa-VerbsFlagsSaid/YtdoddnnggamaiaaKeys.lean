/- Keys: both texts' tell the same words. -/
import Derived.Test.YtdoddnnggamaiaaRefCheck
import Derived.Test.YtdoddnnggamaiaaAllNames
namespace Pantry.Verbs
/-- What is known where no error is told. -/
theorem check_ok {l : List (List UInt8)} (h : (check l).2 = 0) : (check l).1 ∈ all ∧ l.length ≤ 1024 ∧ l ≠ [] ∧ ¬ (0 < (check l).1.arity ∧ (l.length : Int) ≠ (check l).1.arity) ∧ ¬ (l.length : Int) < - (check l).1.arity := by
  unfold check at h ⊢
  cases l with
  | nil => simp at h
  | cons x l' =>
    simp only at h ⊢
    by_cases h1 : 1024 < (x :: l').length ∨ tooLong (x :: l') = true
    · rw [if_pos h1] at h; simp at h
    · rw [if_neg h1] at h ⊢
      cases hq : get all (upL x) with
      | none => rw [hq] at h; simp at h
      | some r =>
        rw [hq] at h
        simp only at h ⊢
        by_cases h2 : 0 < r.arity ∧ ((x :: l').length : Int) ≠ r.arity ∨ ((x :: l').length : Int) < - r.arity
        · rw [if_pos h2] at h; simp at h
        · rw [if_neg h2]
          exact ⟨(get_mem hq).1, by omega, by simp, fun h3 => h2 (Or.inl h3), fun h3 => h2 (Or.inr h3)⟩
/-- Where the keys are, in a row that has some. -/
theorem key_bounds {l : List (List UInt8)} (h : (check l).2 = 0) (hf : (check l).1.first ≠ 0) :
    (check l).1.first = 1 ∧ ((check l).1.jump = 1 ∨ (check l).1.jump = 2) ∧ 1 ≤ lastOf (check l).1 l.length ∧ lastOf (check l).1 l.length < l.length ∧ -1 ≤ (check l).1.last ∧ (check l).1.last ≤ 2 := by
  obtain ⟨hm, hl, hne, h1, h2⟩ := check_ok h
  obtain ⟨k1, k2, k3, k4⟩ := keys_ok _ hm
  rcases k4 with k4 | ⟨k4, k5, k6⟩
  · exact absurd k4 hf
  · have hlen : 0 < l.length := List.length_pos_iff.2 hne
    refine ⟨k4, k5, ?_⟩
    unfold lastOf
    rcases k6 with ⟨k6, k7⟩ | ⟨k6, k7, k8⟩
    · rw [if_pos (by omega)]; omega
    · rw [if_neg (by omega)]; omega
/-- The first k keys. -/
def keysTo (l : List (List UInt8)) (J k : Nat) : List (List UInt8) := (List.range k).map fun j => l.getD (1 + j * J) []
theorem keysTo_length (l : List (List UInt8)) (J k : Nat) : (keysTo l J k).length = k := by simp [keysTo]
theorem keysTo_succ {l : List (List UInt8)} {J k : Nat} {x : List UInt8} (h : l[1 + k * J]? = some x) : keysTo l J (k + 1) = keysTo l J k ++ [x] := by
  simp only [keysTo, List.range_succ, List.map_append, List.map_cons, List.map_nil]
  rw [List.getD_eq_getElem?_getD, h]
  rfl
theorem keys_eq {l : List (List UInt8)} {J : Nat} (h : (check l).2 = 0) (hf : (check l).1.first = 1) (hj : (check l).1.jump = J) : keys l = keysTo l J (keyCount (check l).1 l.length) := by
  unfold keys
  rw [if_neg (by rw [h, hf]; simp), hf, hj, keysTo]
  apply List.map_congr_left
  intro k _
  congr 1
theorem keys_none {l : List (List UInt8)} (h : (check l).2 ≠ 0 ∨ (check l).1.first = 0) : keys l = [] := by unfold keys; rw [if_pos h]
theorem check_code (l : List (List UInt8)) : (check l).2 = 0 ∨ (check l).2 = 2 ∨ (check l).2 = 3 ∨ (check l).2 = 180 ∨ (check l).2 = 181 := by
  unfold check
  cases l with
  | nil => simp
  | cons x l' =>
    simp only
    split
    · simp
    · split
      · simp
      · split <;> simp
end Pantry.Verbs
namespace Go.Proofs.Ytdoddnnggamaiaa
open Go.RowKit Pantry

set_option maxHeartbeats 4000000 in
set_option maxRecDepth 100000 in
theorem keys_any (a : Option Addr) (n c : Nat) (l : List (List UInt8)) (w : World) (h : WordsIn w a n l) (hn : n ≤ 140737488351232) :
    Calls Try.prog 26 #[.slice a n c] w (TextsPost (Verbs.keys l) w) := by
  obtain ⟨⟨r, code⟩, hrc⟩ : ∃ p, Verbs.check l = p := ⟨_, rfl⟩
  have hr1 : (Verbs.check l).1 = r := by rw [hrc]
  have hr2 : (Verbs.check l).2 = code := by rw [hrc]
  by_cases hz : code = 0
  · subst hz
    by_cases hf : r.first = 0
    · have HK := Lib.hid (Verbs.keys_none (l := l) (Or.inr (by rw [hr1]; exact hf)))
      have hfb : (r.first == 0) = true := by rw [hf]; rfl
      have H1 := Lib.hid hr1
      have H2 := Lib.hid hr2
      clear hrc hr1 hr2 hf
      go_enter Try.func26, Try.ntmps26
      go_wp2_with fail
      refine (check_any a n c l w h hn).mono ?_
      rintro e w1 ⟨rfl, hb1⟩
      rw [H1.out, H2.out, rowAgg, rowCells]
      go_wp2
      go_ret
      exact ⟨_, rfl, by rw [HK.out]; exact World.ownsRow_nil _ _ _ _, hb1.alloc hb1.size _⟩
    · obtain ⟨b1, b2, b3, b4, b5, b6⟩ := Verbs.key_bounds (l := l) hr2 (by rw [hr1]; exact hf)
      obtain ⟨_, hl1024, _, _, _⟩ := Verbs.check_ok hr2
      rw [hr1] at b1 b2 b3 b4 b5 b6
      have hln := h.1
      rw [hln] at b3 b4 hl1024
      obtain ⟨J, hJ, hJ2⟩ : ∃ J : Nat, r.jump = (J : Int) ∧ (J = 1 ∨ J = 2) := by
        rcases b2 with h | h
        · exact ⟨1, h, Or.inl rfl⟩
        · exact ⟨2, h, Or.inr rfl⟩
      obtain ⟨E, hE⟩ : ∃ E : Nat, Verbs.lastOf r n = (E : Int) := ⟨(Verbs.lastOf r n).toNat, by omega⟩
      obtain ⟨C, hC⟩ : ∃ C : Nat, Verbs.keyCount r n = C := ⟨_, rfl⟩
      have hKC : ∀ k : Nat, k < C ↔ 1 + k * J ≤ E := by
        intro k
        rw [← hC, Verbs.keyCount, hE, b1, hJ]
        rcases hJ2 with rfl | rfl <;> simp <;> omega
      have HK := Lib.hid (show Verbs.keys l = Verbs.keysTo l J C by rw [Verbs.keys_eq hr2 (by rw [hr1]; exact b1) (by rw [hr1]; exact hJ), hr1, hln, hC])
      rw [hE] at b3 b4
      have hfb : (r.first == 0) = false := by rw [b1]; rfl
      have HKC := Lib.hid hKC
      have H1 := Lib.hid hr1
      have H2 := Lib.hid hr2
      have HF := Lib.hid b1
      have HJ := Lib.hid hJ
      have HE := Lib.hid hE
      have HW := Lib.hid h
      obtain ⟨la, hla⟩ : ∃ la, r.last = la := ⟨_, rfl⟩
      have hE2 : (if la < 0 then la + (n : Int) else la) = (E : Int) := by rw [← hla]; exact hE
      have HE2 := Lib.hid hE2
      rw [hla] at b5 b6
      have HLA := Lib.hid hla
      clear hrc hr1 hr2 hf hE hC hKC b1 b2 hJ hln h hla hE2
      by_cases hneg : la < 0
      · have HE3 := HE2.out
        rw [if_pos hneg] at HE3
        have HE4 := Lib.hid HE3
        have hbE : (E : Int) < 1024 := by omega
        clear HE3
        go_enter Try.func26, Try.ntmps26
        go_wp2_with fail
        refine (check_any a n c l w HW.out hn).mono ?_
        rintro e w1 ⟨rfl, hb1⟩
        rw [H1.out, H2.out, rowAgg, rowCells, HF.out, HJ.out, HLA.out]
        go_wp2
        rw [HE4.out]
        obtain ⟨w2, hw2⟩ : ∃ w2, w1.alloc (.cells #[.string ⟨r.name.toArray⟩, .int .i64 r.arity, .int .i64 r.flags, .int .i64 1, .int .i64 la, .int .i64 (J : Int)] 29) = w2 := ⟨_, rfl⟩
        have hbx : w2.heap[w1.heap.size]? = some (.cells #[.string ⟨r.name.toArray⟩, .int .i64 r.arity, .int .i64 r.flags, .int .i64 1, .int .i64 la, .int .i64 (J : Int)] 29) := by rw [← hw2]; exact heap_alloc_new w1 _
        have hb2 : Below w.heap.size w w2 := by rw [← hw2]; exact hb1.alloc hb1.size _
        have hz2 : w1.heap.size < w2.heap.size := by rw [← hw2]; simp
        have hz1 := hb1.size
        rw [hw2]
        have HX := Lib.hid hbx
        have HW2 := Lib.hid (HW.out.below hb2)
        have HB2 := Lib.hid hb2
        clear hw2 hbx hb1 hb2
        go_loopw [6, 7] (fun v i wr => ∃ k m : Nat, k ≤ C ∧ i = .int .i64 m ∧ Hid (m = 1 + k * J) ∧ wr.ownsRow w2.heap.size 9 1 v k (txts (Verbs.keysTo l J k)) ∧ Below w2.heap.size w2 wr) (fun _ i _ => E + 1 - (intOf i).toNat)
        case atStart => exact ⟨0, 1, by omega, rfl, by show 1 = 1 + 0 * J; omega, World.ownsRow_nil _ _ _ _, Below.refl _ _⟩
        case round =>
          obtain ⟨k, m, hk, rfl, HM, hown, hb⟩ := hrel
          have hmm : 1 + k * J = m := HM.out.symm
          by_cases hlt : m ≤ E
          · obtain ⟨x, y, hx, rfl, hcx, -⟩ := (HW2.out.below hb).cell (k := m) (by omega)
            have hkC : k < C := (HKC.out k).2 (by omega)
            have HKS := Lib.hid (Verbs.keysTo_succ (l := l) (J := J) (k := k) (x := x) (by rw [hmm]; exact hx))
            have hbs := hb.size
            have hkm : k ≤ 1024 := by rcases hJ2 with rfl | rfl <;> omega
            have hm2 : m + J = 1 + (k + 1) * J := by rw [← hmm, Nat.succ_mul]; omega
            have HM2 := Lib.hid hm2
            clear hx hmm hm2
            have hJ3 : J ≤ 2 := by omega
            have hJ1 : 1 ≤ J := by omega
            go_wp2_with (at_builtin; refine wpl_append1_at Try.textsT rfl _ _ rfl w2.heap.size rfl hown #[.string ⟨x.toArray⟩] rfl rfl rfl (by simp [Value.oneCell']) (by omega) hbs ?_; intro v2 w3 hown2 hgrow2 hb3 hfr2; obtain ⟨⟨d0, d1, d2, d3, d4, d5⟩, -⟩ := box6 (((hb.trans hb3).block w1.heap.size hz2).trans HX.out))
            have ho3 : w3.ownsRow w2.heap.size 9 1 v2 (k + 1) (txts (Verbs.keysTo l J (k + 1))) := by
              rw [HKS.out, ← txts_snoc]; exact hown2
            have hb4 := hb.trans hb3
            clear hown2 hgrow2 hb3 hfr2
            go_roundw
            case rel => exact ⟨k + 1, m + J, by omega, by go_num, HM2.out, ho3, hb4⟩
            case measure => simp [intOf]; omega
          · have hkC : k = C := by
              have := HKC.out k
              omega
            subst hkC
            have HWN := Lib.hid hown
            clear hown hmm
            go_wp2
            go_ret
            have hbs : w.heap.size ≤ w2.heap.size := by omega
            exact ⟨_, rfl, by rw [HK.out, Verbs.keysTo_length]; exact ownsRow_base HWN.out hbs, HB2.out.trans (hb.mono hbs)⟩
      · have HE3 := HE2.out
        rw [if_neg hneg] at HE3
        subst HE3
        have hbE : (E : Int) < 1024 := by omega
        go_enter Try.func26, Try.ntmps26
        go_wp2_with fail
        refine (check_any a n c l w HW.out hn).mono ?_
        rintro e w1 ⟨rfl, hb1⟩
        rw [H1.out, H2.out, rowAgg, rowCells, HF.out, HJ.out, HLA.out]
        go_wp2
        obtain ⟨w2, hw2⟩ : ∃ w2, w1.alloc (.cells #[.string ⟨r.name.toArray⟩, .int .i64 r.arity, .int .i64 r.flags, .int .i64 1, .int .i64 (E : Int), .int .i64 (J : Int)] 29) = w2 := ⟨_, rfl⟩
        have hbx : w2.heap[w1.heap.size]? = some (.cells #[.string ⟨r.name.toArray⟩, .int .i64 r.arity, .int .i64 r.flags, .int .i64 1, .int .i64 (E : Int), .int .i64 (J : Int)] 29) := by rw [← hw2]; exact heap_alloc_new w1 _
        have hb2 : Below w.heap.size w w2 := by rw [← hw2]; exact hb1.alloc hb1.size _
        have hz2 : w1.heap.size < w2.heap.size := by rw [← hw2]; simp
        have hz1 := hb1.size
        rw [hw2]
        have HX := Lib.hid hbx
        have HW2 := Lib.hid (HW.out.below hb2)
        have HB2 := Lib.hid hb2
        clear hw2 hbx hb1 hb2
        go_loopw [6, 7] (fun v i wr => ∃ k m : Nat, k ≤ C ∧ i = .int .i64 m ∧ Hid (m = 1 + k * J) ∧ wr.ownsRow w2.heap.size 9 1 v k (txts (Verbs.keysTo l J k)) ∧ Below w2.heap.size w2 wr) (fun _ i _ => E + 1 - (intOf i).toNat)
        case atStart => exact ⟨0, 1, by omega, rfl, by show 1 = 1 + 0 * J; omega, World.ownsRow_nil _ _ _ _, Below.refl _ _⟩
        case round =>
          obtain ⟨k, m, hk, rfl, HM, hown, hb⟩ := hrel
          have hmm : 1 + k * J = m := HM.out.symm
          by_cases hlt : m ≤ E
          · obtain ⟨x, y, hx, rfl, hcx, -⟩ := (HW2.out.below hb).cell (k := m) (by omega)
            have hkC : k < C := (HKC.out k).2 (by omega)
            have HKS := Lib.hid (Verbs.keysTo_succ (l := l) (J := J) (k := k) (x := x) (by rw [hmm]; exact hx))
            have hbs := hb.size
            have hkm : k ≤ 1024 := by rcases hJ2 with rfl | rfl <;> omega
            have hm2 : m + J = 1 + (k + 1) * J := by rw [← hmm, Nat.succ_mul]; omega
            have HM2 := Lib.hid hm2
            clear hx hmm hm2
            have hJ3 : J ≤ 2 := by omega
            have hJ1 : 1 ≤ J := by omega
            go_wp2_with (at_builtin; refine wpl_append1_at Try.textsT rfl _ _ rfl w2.heap.size rfl hown #[.string ⟨x.toArray⟩] rfl rfl rfl (by simp [Value.oneCell']) (by omega) hbs ?_; intro v2 w3 hown2 hgrow2 hb3 hfr2; obtain ⟨⟨d0, d1, d2, d3, d4, d5⟩, -⟩ := box6 (((hb.trans hb3).block w1.heap.size hz2).trans HX.out))
            have ho3 : w3.ownsRow w2.heap.size 9 1 v2 (k + 1) (txts (Verbs.keysTo l J (k + 1))) := by
              rw [HKS.out, ← txts_snoc]; exact hown2
            have hb4 := hb.trans hb3
            clear hown2 hgrow2 hb3 hfr2
            go_roundw
            case rel => exact ⟨k + 1, m + J, by omega, by go_num, HM2.out, ho3, hb4⟩
            case measure => simp [intOf]; omega
          · have hkC : k = C := by
              have := HKC.out k
              omega
            subst hkC
            have HWN := Lib.hid hown
            clear hown hmm
            go_wp2
            go_ret
            have hbs : w.heap.size ≤ w2.heap.size := by omega
            exact ⟨_, rfl, by rw [HK.out, Verbs.keysTo_length]; exact ownsRow_base HWN.out hbs, HB2.out.trans (hb.mono hbs)⟩
  · have HK := Lib.hid (Verbs.keys_none (l := l) (Or.inl (by rw [hr2]; exact hz)))
    have hzb : (code != 0) = true := by rw [bne_iff_ne]; exact hz
    have H1 := Lib.hid hr1
    have H2 := Lib.hid hr2
    clear hrc hr1 hr2 hz
    go_enter Try.func26, Try.ntmps26
    go_wp2_with fail
    refine (check_any a n c l w h hn).mono ?_
    rintro e w1 ⟨rfl, hb1⟩
    rw [H1.out, H2.out, rowAgg, rowCells]
    go_wp2
    go_ret
    exact ⟨_, rfl, by rw [HK.out]; exact World.ownsRow_nil _ _ _ _, hb1.alloc hb1.size _⟩
end Go.Proofs.Ytdoddnnggamaiaa
