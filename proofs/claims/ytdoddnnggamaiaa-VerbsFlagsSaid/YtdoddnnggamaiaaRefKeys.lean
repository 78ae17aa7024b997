/- Keys of the document. -/
import Derived.Test.YtdoddnnggamaiaaKeys
namespace Go.Proofs.Ytdoddnnggamaiaa
open Go.RowKit Pantry

set_option maxHeartbeats 4000000 in
set_option maxRecDepth 100000 in
theorem refKeys_any (a : Option Addr) (n c : Nat) (l : List (List UInt8)) (w : World) (h : WordsIn w a n l) (hn : n ≤ 140737488351232) :
    Calls Try.prog 27 #[.slice a n c] w (TextsPost (Verbs.keys l) w) := by
  obtain ⟨⟨r, code⟩, hrc⟩ : ∃ p, Verbs.check l = p := ⟨_, rfl⟩
  have hr1 : (Verbs.check l).1 = r := by rw [hrc]
  have hr2 : (Verbs.check l).2 = code := by rw [hrc]
  by_cases hz : code = 0
  · subst hz
    by_cases hf : r.first = 0
    · have HK := Lib.hid (Verbs.keys_none (l := l) (Or.inr (by rw [hr1]; exact hf)))
      have hfb : (r.first == 0) = true := by rw [hf]; rfl
      have H1 := Lib.hid hr1
      have H2 := Lib.hid hr2
      clear hrc hr1 hr2 hf
      go_enter Try.func27, Try.ntmps27
      go_wp2_with fail
      refine (refCheck_any a n c l w h hn).mono ?_
      rintro e w1 ⟨rfl, hb1⟩
      rw [H1.out, H2.out, rowAgg, rowCells]
      go_wp2
      go_ret
      exact ⟨_, rfl, by rw [HK.out]; exact World.ownsRow_nil _ _ _ _, hb1.alloc hb1.size _⟩
    · obtain ⟨b1, b2, b3, b4, b5, b6⟩ := Verbs.key_bounds (l := l) hr2 (by rw [hr1]; exact hf)
      obtain ⟨_, hl1024, _, _, _⟩ := Verbs.check_ok hr2
      rw [hr1] at b1 b2 b3 b4 b5 b6
      have hln := h.1
      rw [hln] at b3 b4 hl1024
      obtain ⟨J, hJ, hJ2⟩ : ∃ J : Nat, r.jump = (J : Int) ∧ (J = 1 ∨ J = 2) := by
        rcases b2 with h | h
        · exact ⟨1, h, Or.inl rfl⟩
        · exact ⟨2, h, Or.inr rfl⟩
      obtain ⟨E, hE⟩ : ∃ E : Nat, Verbs.lastOf r n = (E : Int) := ⟨(Verbs.lastOf r n).toNat, by omega⟩
      obtain ⟨C, hC⟩ : ∃ C : Nat, Verbs.keyCount r n = C := ⟨_, rfl⟩
      have hKC : ∀ k : Nat, k < C ↔ 1 + k * J ≤ E := by
        intro k
        rw [← hC, Verbs.keyCount, hE, b1, hJ]
        rcases hJ2 with rfl | rfl <;> simp <;> omega
      have HK := Lib.hid (show Verbs.keys l = Verbs.keysTo l J C by rw [Verbs.keys_eq hr2 (by rw [hr1]; exact b1) (by rw [hr1]; exact hJ), hr1, hln, hC])
      rw [hE] at b3 b4
      have hfb : (r.first == 0) = false := by rw [b1]; rfl
      have HKC := Lib.hid hKC
      have H1 := Lib.hid hr1
      have H2 := Lib.hid hr2
      have HF := Lib.hid b1
      have HJ := Lib.hid hJ
      have HE := Lib.hid hE
      have HW := Lib.hid h
      obtain ⟨la, hla⟩ : ∃ la, r.last = la := ⟨_, rfl⟩
      have hE2 : (if la < 0 then (n : Int) + la else la) = (E : Int) := by rw [Int.add_comm, ← hla]; exact hE
      have HE2 := Lib.hid hE2
      rw [hla] at b5 b6
      have HLA := Lib.hid hla
      clear hrc hr1 hr2 hf hE hC hKC b1 b2 hJ hln h hla hE2
      by_cases hneg : la < 0
      · have HE3 := HE2.out
        rw [if_pos hneg] at HE3
        have HE4 := Lib.hid HE3
        have hbE : (E : Int) < 1024 := by omega
        clear HE3
        go_enter Try.func27, Try.ntmps27
        go_wp2_with fail
        refine (refCheck_any a n c l w HW.out hn).mono ?_
        rintro e w1 ⟨rfl, hb1⟩
        rw [H1.out, H2.out, rowAgg, rowCells, HF.out, HJ.out, HLA.out]
        go_wp2
        rw [HE4.out]
        obtain ⟨w2, hw2⟩ : ∃ w2, w1.alloc (.cells #[.string ⟨r.name.toArray⟩, .int .i64 r.arity, .int .i64 r.flags, .int .i64 1, .int .i64 la, .int .i64 (J : Int)] 29) = w2 := ⟨_, rfl⟩
        have hbx : w2.heap[w1.heap.size]? = some (.cells #[.string ⟨r.name.toArray⟩, .int .i64 r.arity, .int .i64 r.flags, .int .i64 1, .int .i64 la, .int .i64 (J : Int)] 29) := by rw [← hw2]; exact heap_alloc_new w1 _
        have hb2 : Below w.heap.size w w2 := by rw [← hw2]; exact hb1.alloc hb1.size _
        have hz2 : w1.heap.size < w2.heap.size := by rw [← hw2]; simp
        have hz1 := hb1.size
        rw [hw2]
        have HX := Lib.hid hbx
        have HW2 := Lib.hid (HW.out.below hb2)
        have HB2 := Lib.hid hb2
        clear hw2 hbx hb1 hb2
        go_loopw [6, 7] (fun v i wr => ∃ k m : Nat, k ≤ C ∧ i = .int .i64 m ∧ Hid (m = 1 + k * J) ∧ wr.ownsRow w2.heap.size 9 1 v k (txts (Verbs.keysTo l J k)) ∧ Below w2.heap.size w2 wr) (fun _ i _ => E + 1 - (intOf i).toNat)
        case atStart => exact ⟨0, 1, by omega, rfl, by show 1 = 1 + 0 * J; omega, World.ownsRow_nil _ _ _ _, Below.refl _ _⟩
        case round =>
          obtain ⟨k, m, hk, rfl, HM, hown, hb⟩ := hrel
          have hmm : 1 + k * J = m := HM.out.symm
          by_cases hlt : m ≤ E
          · obtain ⟨x, y, hx, rfl, hcx, -⟩ := (HW2.out.below hb).cell (k := m) (by omega)
            have hkC : k < C := (HKC.out k).2 (by omega)
            have HKS := Lib.hid (Verbs.keysTo_succ (l := l) (J := J) (k := k) (x := x) (by rw [hmm]; exact hx))
            have hbs := hb.size
            have hkm : k ≤ 1024 := by rcases hJ2 with rfl | rfl <;> omega
            have hm2 : m + J = 1 + (k + 1) * J := by rw [← hmm, Nat.succ_mul]; omega
            have HM2 := Lib.hid hm2
            clear hx hmm hm2
            have hJ3 : J ≤ 2 := by omega
            have hJ1 : 1 ≤ J := by omega
            go_wp2_with (at_builtin; refine wpl_append1_at Try.textsT rfl _ _ rfl w2.heap.size rfl hown #[.string ⟨x.toArray⟩] rfl rfl rfl (by simp [Value.oneCell']) (by omega) hbs ?_; intro v2 w3 hown2 hgrow2 hb3 hfr2; obtain ⟨⟨d0, d1, d2, d3, d4, d5⟩, -⟩ := box6 (((hb.trans hb3).block w1.heap.size hz2).trans HX.out))
            have ho3 : w3.ownsRow w2.heap.size 9 1 v2 (k + 1) (txts (Verbs.keysTo l J (k + 1))) := by
              rw [HKS.out, ← txts_snoc]; exact hown2
            have hb4 := hb.trans hb3
            clear hown2 hgrow2 hb3 hfr2
            go_roundw
            case rel => exact ⟨k + 1, m + J, by omega, by go_num, HM2.out, ho3, hb4⟩
            case measure => simp [intOf]; omega
          · have hkC : k = C := by
              have := HKC.out k
              omega
            subst hkC
            have HWN := Lib.hid hown
            clear hown hmm
            go_wp2
            go_ret
            have hbs : w.heap.size ≤ w2.heap.size := by omega
            exact ⟨_, rfl, by rw [HK.out, Verbs.keysTo_length]; exact ownsRow_base HWN.out hbs, HB2.out.trans (hb.mono hbs)⟩
      · have HE3 := HE2.out
        rw [if_neg hneg] at HE3
        subst HE3
        have hbE : (E : Int) < 1024 := by omega
        go_enter Try.func27, Try.ntmps27
        go_wp2_with fail
        refine (refCheck_any a n c l w HW.out hn).mono ?_
        rintro e w1 ⟨rfl, hb1⟩
        rw [H1.out, H2.out, rowAgg, rowCells, HF.out, HJ.out, HLA.out]
        go_wp2
        obtain ⟨w2, hw2⟩ : ∃ w2, w1.alloc (.cells #[.string ⟨r.name.toArray⟩, .int .i64 r.arity, .int .i64 r.flags, .int .i64 1, .int .i64 (E : Int), .int .i64 (J : Int)] 29) = w2 := ⟨_, rfl⟩
        have hbx : w2.heap[w1.heap.size]? = some (.cells #[.string ⟨r.name.toArray⟩, .int .i64 r.arity, .int .i64 r.flags, .int .i64 1, .int .i64 (E : Int), .int .i64 (J : Int)] 29) := by rw [← hw2]; exact heap_alloc_new w1 _
        have hb2 : Below w.heap.size w w2 := by rw [← hw2]; exact hb1.alloc hb1.size _
        have hz2 : w1.heap.size < w2.heap.size := by rw [← hw2]; simp
        have hz1 := hb1.size
        rw [hw2]
        have HX := Lib.hid hbx
        have HW2 := Lib.hid (HW.out.below hb2)
        have HB2 := Lib.hid hb2
        clear hw2 hbx hb1 hb2
        go_loopw [6, 7] (fun v i wr => ∃ k m : Nat, k ≤ C ∧ i = .int .i64 m ∧ Hid (m = 1 + k * J) ∧ wr.ownsRow w2.heap.size 9 1 v k (txts (Verbs.keysTo l J k)) ∧ Below w2.heap.size w2 wr) (fun _ i _ => E + 1 - (intOf i).toNat)
        case atStart => exact ⟨0, 1, by omega, rfl, by show 1 = 1 + 0 * J; omega, World.ownsRow_nil _ _ _ _, Below.refl _ _⟩
        case round =>
          obtain ⟨k, m, hk, rfl, HM, hown, hb⟩ := hrel
          have hmm : 1 + k * J = m := HM.out.symm
          by_cases hlt : m ≤ E
          · obtain ⟨x, y, hx, rfl, hcx, -⟩ := (HW2.out.below hb).cell (k := m) (by omega)
            have hkC : k < C := (HKC.out k).2 (by omega)
            have HKS := Lib.hid (Verbs.keysTo_succ (l := l) (J := J) (k := k) (x := x) (by rw [hmm]; exact hx))
            have hbs := hb.size
            have hkm : k ≤ 1024 := by rcases hJ2 with rfl | rfl <;> omega
            have hm2 : m + J = 1 + (k + 1) * J := by rw [← hmm, Nat.succ_mul]; omega
            have HM2 := Lib.hid hm2
            clear hx hmm hm2
            have hJ3 : J ≤ 2 := by omega
            have hJ1 : 1 ≤ J := by omega
            go_wp2_with (at_builtin; refine wpl_append1_at Try.textsT rfl _ _ rfl w2.heap.size rfl hown #[.string ⟨x.toArray⟩] rfl rfl rfl (by simp [Value.oneCell']) (by omega) hbs ?_; intro v2 w3 hown2 hgrow2 hb3 hfr2; obtain ⟨⟨d0, d1, d2, d3, d4, d5⟩, -⟩ := box6 (((hb.trans hb3).block w1.heap.size hz2).trans HX.out))
            have ho3 : w3.ownsRow w2.heap.size 9 1 v2 (k + 1) (txts (Verbs.keysTo l J (k + 1))) := by
              rw [HKS.out, ← txts_snoc]; exact hown2
            have hb4 := hb.trans hb3
            clear hown2 hgrow2 hb3 hfr2
            go_roundw
            case rel => exact ⟨k + 1, m + J, by omega, by go_num, HM2.out, ho3, hb4⟩
            case measure => simp [intOf]; omega
          · have hkC : k = C := by
              have := HKC.out k
              omega
            subst hkC
            have HWN := Lib.hid hown
            clear hown hmm
            go_wp2
            go_ret
            have hbs : w.heap.size ≤ w2.heap.size := by omega
            exact ⟨_, rfl, by rw [HK.out, Verbs.keysTo_length]; exact ownsRow_base HWN.out hbs, HB2.out.trans (hb.mono hbs)⟩
  · have HK := Lib.hid (Verbs.keys_none (l := l) (Or.inl (by rw [hr2]; exact hz)))
    have hzb : (code != 0) = true := by rw [bne_iff_ne]; exact hz
    have H1 := Lib.hid hr1
    have H2 := Lib.hid hr2
    clear hrc hr1 hr2 hz
    go_enter Try.func27, Try.ntmps27
    go_wp2_with fail
    refine (refCheck_any a n c l w h hn).mono ?_
    rintro e w1 ⟨rfl, hb1⟩
    rw [H1.out, H2.out, rowAgg, rowCells]
    go_wp2
    go_ret
    exact ⟨_, rfl, by rw [HK.out]; exact World.ownsRow_nil _ _ _ _, hb1.alloc hb1.size _⟩

/-- Words that have just been written down. -/
theorem words_new (W : World) (L : List (List UInt8)) (hL : ∀ x ∈ L, x.length ≤ 140737488351232) : WordsIn (W.alloc (.cells (txts L).toArray 9)) (some ⟨W.heap.size, 0, none⟩) L.length L :=
  ⟨rfl, by simpa using Rd.new W (txts L).toArray 9 (0, 0) (fun u hu => txts_one L u (by simpa using hu)), hL⟩
end Go.Proofs.Ytdoddnnggamaiaa
