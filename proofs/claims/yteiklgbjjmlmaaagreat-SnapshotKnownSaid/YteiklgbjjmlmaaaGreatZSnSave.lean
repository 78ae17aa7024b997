
/- snapshot.Save. -/
import Derived.Test.YteiklgbjjmlmaaaGreatZSnFo
import Derived.Test.YteiklgbjjmlmaaaGreatZSnWr
set_option linter.unusedVariables false
set_option linter.unusedSimpArgs false
namespace Pantry
theorem rightFrom_step {l : List SE} {i : Nat} {x : SE} (hx : l[i]? = some x) (h : rightFrom [] l = rightFrom (l.take i) (l.drop i)) : rightFrom [] l = (followsP (l.take i) x && rightFrom (l.take (i + 1)) (l.drop (i + 1))) := by
  obtain ⟨hi, rfl⟩ := List.getElem?_eq_some_iff.1 hx
  rw [h, List.drop_eq_getElem_cons hi, rightFrom, List.take_succ_eq_append_getElem hi]
theorem right_at : ∀ {l acc : List SE} {m : Nat} {x : SE}, rightFrom acc l = true → l[m]? = some x → followsP (acc ++ l.take m) x = true
  | [], acc, m, x, h, hx => by simp at hx
  | y :: l, acc, 0, x, h, hx => by
    obtain rfl : y = x := by simpa using hx
    simp only [rightFrom, Bool.and_eq_true] at h
    simpa using h.1
  | y :: l, acc, m + 1, x, h, hx => by
    simp only [rightFrom, Bool.and_eq_true] at h
    have := right_at (m := m) h.2 (by simpa using hx)
    simpa using this
end Pantry
namespace Go.Proofs.YteiklgbjjmlmaaaGreat
open Go.RowKit Pantry

/-- A new row of bytes turned into bytes: its end is marked. -/
theorem run_marked (w : World) (C : Array Value) (n c : Nat) : (convert 24 24 (.slice (some ⟨w.heap.size, 0, none⟩) n c)).run Tryz.prog (w.alloc (.cells C 5)) = .ok (.slice (some ⟨w.heap.size, 0, none⟩) n c) (w.alloc (.cells C 5 (C.size, C.size + 1))) := by
  have hsh : (w.alloc (.cells C 5)).shape? w.heap.size = some (5, C.size) := by
    unfold World.shape?
    rw [heap_alloc_new]
  have hfr : (w.alloc (.cells C 5)).freeze ⟨w.heap.size, C.size, none⟩ 1 = w.alloc (.cells C 5 (C.size, C.size + 1)) := by
    have hm : ∀ (a : Array Obj) (x : Obj) (f : Obj → Obj), (a.push x).modify a.size f = a.push (f x) := by
      intro a x f
      apply Array.ext
      · simp
      · intro i h1 h2
        simp only [Array.getElem_modify, Array.getElem_push]
        by_cases h : a.size = i
        · subst h; simp
        · have hi : i < a.size := by simp at h1; omega
          simp [h, hi]
    unfold World.freeze
    rw [if_neg (by decide)]
    show ({ w.alloc (.cells C 5) with heap := (w.heap.push (.cells C 5)).modify w.heap.size _ } : World) = _
    rw [hm]
    rfl
  simp [convert, run_underlying Tryz.underlying24, run_underlying Tryz.underlying5, markStringish, hsh]
  exact hfr
/-- Keys that a walk can bear. -/
structure SBig (l : List SE) : Prop where
  few : l.length ≤ 140737488355328
  val : ∀ x ∈ l, PlainBig x.val
  key : ∀ x ∈ l, x.key.length < 281474976710656
  bits : Bits64 l
def SavePost (res : Except Int (List UInt8)) (w : World) (e : Ending) (w' : World) : Prop :=
  Below w.heap.size w w' ∧ match res with
  | .error c => e = .returned (.tuple #[.slice none 0 0, .int .i64 c])
  | .ok b => ∃ v, e = .returned (.tuple #[v, .int .i64 0]) ∧ OwnB w' w.heap.size 5 v b
set_option maxRecDepth 100000 in
set_option maxHeartbeats 4000000 in
theorem save_any (w : World) (now : Int) (a : Option Addr) (n c : Nat) (l : List SE) (hl : l.length = n) (hnc : n ≤ c) (hr : SRow w a l) (hb : SBig l) :
    Calls Tryz.prog 11 #[.int .i64 now, .slice a n c] w (SavePost (saveR now l) w) := by
  have HR := Lib.hid hr
  have HB := Lib.hid hb
  have HL := Lib.hid hl
  have hn40 : n ≤ 140737488355328 := by rw [← hl]; exact hb.few
  obtain ⟨res, hres⟩ : ∃ res, saveR now l = res := ⟨_, rfl⟩
  rw [hres]
  have HRES := Lib.hid hres
  clear hr hb hl hres
  by_cases h0 : now < 0
  · obtain rfl : res = .error 3 := by rw [← HRES.out]; unfold saveR; rw [if_pos (.inl h0)]
    go_enter Tryz.func11, Tryz.ntmps11
    go_wp2_with fail
    go_ret2
    exact ⟨Below.refl _ _, rfl⟩
  by_cases h53 : 9007199254740992 < now
  · obtain rfl : res = .error 3 := by rw [← HRES.out]; unfold saveR; rw [if_pos (.inr h53)]
    go_enter Tryz.func11, Tryz.ntmps11
    go_wp2_with fail
    go_ret2
    exact ⟨Below.refl _ _, rfl⟩
  go_enter Tryz.func11, Tryz.ntmps11
  go_wp2_with fail
  go_loopw [19] (fun i wr => ∃ j : Nat, j ≤ n ∧ i = .int .i64 j ∧ Hid (rightFrom [] l = rightFrom (l.take j) (l.drop j)) ∧ Below w.heap.size w wr) (fun i _ => n - (intOf i).toNat)
  case atStart => exact ⟨0, Nat.zero_le _, rfl, Lib.hid rfl, Below.refl _ _⟩
  case round =>
    obtain ⟨j, hj, rfl, HE, hbr⟩ := hrel
    have HBR := Lib.hid hbr
    clear hbr
    by_cases hlt : j < n
    · have hlti : (j : Int) < (n : Int) := by omega
      obtain ⟨x, hx⟩ : ∃ x, l[j]? = some x := ⟨_, List.getElem?_eq_getElem (by rw [HL.out]; exact hlt)⟩
      obtain ⟨p, rfl, a1, a2, a3, c1, c2, c3, hcl, hpl⟩ := (HR.out.below HBR.out) j x hx
      have hmem := List.mem_of_getElem? hx
      have HST := Lib.hid (rightFrom_step hx HE.out)
      have HCL := Lib.hid hcl
      have HSZ := Lib.hid (show (Tryz.prog.info? 51).map (·.size) = some (seC x a1 a2 a3 c1 c2 c3).length by kernel_rfl)
      obtain ⟨A, hA⟩ : ∃ A, wr.alloc (.cells (seC x a1 a2 a3 c1 c2 c3).toArray 51) = A := ⟨_, rfl⟩
      have hbA : Below wr.heap.size wr A := by rw [← hA]; exact (Below.refl _ _).alloc (Nat.le_refl _) _
      have hX : A.heap[wr.heap.size]? = some (.cells (seC x a1 a2 a3 c1 c2 c3).toArray 51) := by rw [← hA]; exact heap_alloc_new wr _
      have hBA : Below w.heap.size w A := HBR.out.trans (hbA.mono HBR.out.size)
      have HBA := Lib.hid hBA
      have HFO := Lib.hid (follows_any A.drew (some p) j c (l.take j) (by rw [List.length_take, HL.out]; omega) (by omega) ((HR.out.below hBA.drew).take j) x a1 a2 a3 c1 c2 c3 (hpl.below hbA.drew) (HB.out.val x hmem) (by have := HB.out.key x hmem; omega))
      have x0 := cell_of_row A wr.heap.size 0 _ _ _ hX
      have x1 := cell_of_row A wr.heap.size 1 _ _ _ hX
      have x2 := cell_of_row A wr.heap.size 2 _ _ _ hX
      have x3 := cell_of_row A wr.heap.size 3 _ _ _ hX
      have x4 := cell_of_row A wr.heap.size 4 _ _ _ hX
      have x5 := cell_of_row A wr.heap.size 5 _ _ _ hX
      have x6 := cell_of_row A wr.heap.size 6 _ _ _ hX
      have hjc : (j : Int) ≤ (c : Int) := by omega
      have hjc2 : ¬ c = j := by omega
      simp only [seC] at hA x0 x1 x2 x3 x4 x5 x6 HFO HCL HSZ
      clear hx hcl hpl hmem hX hbA hBA
      cases hf : followsP (l.take j) x with
      | false =>
        rw [hf] at HFO HST
        obtain rfl : res = .error 290 := by
          rw [← HRES.out]
          unfold saveR
          rw [if_neg (by omega), if_pos (by rw [HST.out]; rfl)]
        clear hf
        go_upto_region 6 with (refine wpl_load_at rfl 51 _ rfl (p.add (j * 7)) rfl _ _ HCL.out Tryz.underlying51 rfl HSZ.out ?_)
        go_region_with (go_at_call 31; refine HFO.out.mono ?_; rintro e w2 ⟨rfl, hb2⟩; have HB2 := Lib.hid (HBA.out.drew.trans (hb2.mono HBA.out.size)); clear hb2)
        all_goals (go_wp2_with fail)
        all_goals go_ret2
        all_goals exact ⟨HB2.out, rfl⟩
      | true =>
        rw [hf] at HFO HST
        rw [Bool.true_and] at HST
        clear hf
        go_upto_region 6 with (refine wpl_load_at rfl 51 _ rfl (p.add (j * 7)) rfl _ _ HCL.out Tryz.underlying51 rfl HSZ.out ?_)
        go_region_with (go_at_call 31; refine HFO.out.mono ?_; rintro e w2 ⟨rfl, hb2⟩; have HB2 := Lib.hid (HBA.out.drew.trans (hb2.mono HBA.out.size)); clear hb2)
        all_goals (go_wp2_with fail)
        all_goals refine ⟨⟨j + 1, by omega, by go_num, HST, HB2.out⟩, ?_⟩
        all_goals (simp [intOf]; omega)
    · obtain rfl : j = n := by omega
      have hright : rightFrom [] l = true := by
        rw [HE.out, List.drop_eq_nil_of_le (by rw [HL.out]; exact Nat.le_refl _)]; rfl
      have HRT := Lib.hid hright
      clear hright
      obtain ⟨nw, rfl⟩ : ∃ nw : Nat, now = (nw : Int) := ⟨now.toNat, by omega⟩
      have hnw : nw < 9223372036854775808 := by omega
      have hconv := run_marked wr #[.int .u8 112, .int .u8 97, .int .u8 110, .int .u8 116, .int .u8 114, .int .u8 121, .int .u8 0, .int .u8 1] 8 8
      obtain ⟨A, hA⟩ : ∃ A, (wr.alloc (.cells #[.int .u8 112, .int .u8 97, .int .u8 110, .int .u8 116, .int .u8 114, .int .u8 121, .int .u8 0, .int .u8 1] 5 (8, 9))).alloc (.cells #[.slice (some ⟨wr.heap.size, 0, none⟩) 8 8] 64) = A := ⟨_, rfl⟩
      have hbA : Below wr.heap.size wr A := by rw [← hA]; exact ((Below.refl _ _).alloc (Nat.le_refl _) _).alloc (by simp) _
      have hNA : w.heap.size ≤ A.heap.size := Nat.le_trans HBR.out.size hbA.size
      have hW0 : WrAt w.heap.size A (wr.heap.size + 1) headB := by
        have h2 := heap_alloc_new (wr.alloc (.cells #[.int .u8 112, .int .u8 97, .int .u8 110, .int .u8 116, .int .u8 114, .int .u8 121, .int .u8 0, .int .u8 1] 5 (8, 9))) (.cells #[.slice (some ⟨wr.heap.size, 0, none⟩) 8 8] 64)
        rw [World.size_alloc] at h2
        have h1 : A.heap[wr.heap.size]? = some (.cells #[.int .u8 112, .int .u8 97, .int .u8 110, .int .u8 116, .int .u8 114, .int .u8 121, .int .u8 0, .int .u8 1] 5 (8, 9)) := by rw [← hA, heap_alloc_old (by simp)]; exact heap_alloc_new wr _
        refine ⟨Nat.le_trans HBR.out.size (Nat.le_succ _), _, by rw [← hA]; exact h2, .inr ⟨wr.heap.size, 8, _, (8, 9), rfl, HBR.out.size, h1, .inr (by decide), by decide, by decide, rfl, rfl⟩⟩
      have HBA := Lib.hid (HBR.out.trans (hbA.mono HBR.out.size))
      have HNW := Lib.hid (wnum_any hW0 nw hnw (by decide) hNA)
      have HNA := Lib.hid hNA
      have HNWB : Hid (¬ ((nw : Int) < 0 ∨ 9007199254740992 < (nw : Int))) := Lib.hid (by omega)
      clear hbA hNA hW0 h0 h53 hnw
      go_upto_region 11 with (go_at_call 32; refine HNW.out.mono ?_; rintro e w2 ⟨rfl, hW2, hb2, -⟩
                              have HB2 := Lib.hid (HBA.out.trans hb2)
                              have HN2 := Lib.hid (wnum_any hW2 j (by omega) (by rw [List.length_append]; have := numB_len nw; have : headB.length = 8 := rfl; omega) (Nat.le_trans HNA.out hb2.size))
                              clear hW2 hb2)
      go_upto_region 12 with (go_at_call 32; refine HN2.out.mono ?_; rintro e w3 ⟨rfl, hW3, hb3, -⟩
                              have HB3 := Lib.hid (HB2.out.trans hb3)
                              have HW3 := Lib.hid hW3
                              clear hW3 hb3)
      have HPL : Hid ((headB ++ numB nw ++ numB j).length ≤ 30) := Lib.hid (by simp only [List.length_append]; have := numB_len nw; have := numB_len j; have : headB.length = 8 := rfl; omega)
      have HBD : Hid (bodyB nw l = (headB ++ numB nw ++ numB j) ++ l.flatMap entB) := Lib.hid (by unfold bodyB; rw [HL.out]; simp)
      obtain ⟨pre, hpre⟩ : ∃ pre, headB ++ numB nw ++ numB j = pre := ⟨_, rfl⟩
      rw [hpre] at HW3 HPL HBD
      have HRS : Hid (res = if 16777216 < (bodyB nw l).length + 8 then .error 2 else .ok (bodyB nw l ++ eightB (sumB (bodyB nw l)))) := Lib.hid (by
        rw [← HRES.out]
        unfold saveR
        have h1 : ¬ ((nw : Int) < 0 ∨ 9007199254740992 < (nw : Int)) := HNWB.out
        rw [if_neg h1, if_neg (by rw [HRT.out]; decide), Int.toNat_natCast])
      clear hpre hconv
      obtain ⟨Wb, hWb⟩ : ∃ Wb, wr.heap.size + 1 = Wb := ⟨_, rfl⟩
      rw [hWb] at HW3 ⊢
      clear hWb
      go_wp2_with fail
      go_loopw [44] (fun i wx => ∃ m : Nat, m ≤ j ∧ i = .int .i64 m ∧ WrAt w.heap.size wx Wb (pre ++ (l.take m).flatMap entB) ∧ Below w.heap.size w wx ∧ Hid ((pre ++ (l.take m).flatMap entB).length ≤ 16777216)) (fun i _ => j - (intOf i).toNat)
      case atStart => exact ⟨0, Nat.zero_le _, rfl, by rw [List.take_zero, List.flatMap_nil, List.append_nil]; exact HW3.out, HB3.out, Lib.hid (by rw [List.take_zero, List.flatMap_nil, List.append_nil]; have := HPL.out; omega)⟩
      case round =>
        obtain ⟨m, hm, rfl, hW, hbx, HLE⟩ := hrel
        have HW := Lib.hid hW
        have HBX := Lib.hid hbx
        clear hW hbx
        by_cases hlt : m < j
        · have hlti : (m : Int) < (j : Int) := by omega
          obtain ⟨x, hx⟩ : ∃ x, l[m]? = some x := ⟨_, List.getElem?_eq_getElem (by rw [HL.out]; exact hlt)⟩
          obtain ⟨p, rfl, a1, a2, a3, c1, c2, c3, hcl0, hpl0⟩ := HR.out m x hx
          have hcl : ∀ i u, (seC x a1 a2 a3 c1 c2 c3)[i]? = some u → wr.cell? ((p.add (m * 7)).add i) = some u := fun i u hu => (HBX.out.cell (World.block_lt_of_cell? _ _ (hcl0 i u hu))).trans (hcl0 i u hu)
          have hg := follows_good (right_at HRT.out hx) (HB.out.bits x (List.mem_of_getElem? hx))
          have HNX := Lib.hid (show (l.take (m + 1)).flatMap entB = (l.take m).flatMap entB ++ (textB x.key ++ (numB x.dl.toNat ++ valB x.val)) from flat_take (f := entB) hx)
          obtain ⟨dn, hdn⟩ : ∃ dn : Nat, x.dl = (dn : Int) := ⟨x.dl.toNat, by have := hg.2.1; omega⟩
          have hdb : dn ≤ 9007199254740992 := by have := hg.2.1; omega
          obtain ⟨B, hB0⟩ : ∃ B, wr.alloc (.cells (seC x a1 a2 a3 c1 c2 c3).toArray 51) = B := ⟨_, rfl⟩
          have hbB : Below wr.heap.size wr B := by rw [← hB0]; exact (Below.refl _ _).alloc (Nat.le_refl _) _
          have hX : B.heap[wr.heap.size]? = some (.cells (seC x a1 a2 a3 c1 c2 c3).toArray 51) := by rw [← hB0]; exact heap_alloc_new wr _
          have hNB : w.heap.size ≤ B.heap.size := Nat.le_trans HBX.out.size hbB.size
          have HBB := Lib.hid (HBX.out.trans (hbB.mono HBX.out.size))
          have HCL := Lib.hid hcl
          have HSZ := Lib.hid (show (Tryz.prog.info? 51).map (·.size) = some (seC x a1 a2 a3 c1 c2 c3).length by kernel_rfl)
          have HT1 := Lib.hid (wtext_any (HW.out.below hbB) x.key (by have := HLE.out; have := hg.1; omega) hNB)
          have HPI : ∀ W, Hid (Below w.heap.size w W → PlainIn w.heap.size W x.val a1 a2 a3) := fun W => Lib.hid fun hW wr' h => hpl0.below (hW.trans h)
          have HSH := Lib.hid hg.2.2
          have HKY := Lib.hid hg.1
          have x0 := cell_of_row B wr.heap.size 0 _ _ _ hX
          have HX := Lib.hid hX
          have HNBB := Lib.hid hNB
          rw [hdn, Int.toNat_natCast] at HNX
          simp only [seC, hdn] at hB0 x0 HX HCL HSZ
          clear hx hcl hcl0 hpl0 hg hX hbB hNB
          go_upto_region 15 with (refine wpl_load_at rfl 51 _ rfl (p.add (m * 7)) rfl _ _ HCL.out Tryz.underlying51 rfl HSZ.out ?_)
          go_upto_region 16 with (go_at_call 33; refine HT1.out.mono ?_; rintro e w4 ⟨rfl, hW4, hb4, hk4⟩
                                  have hX4 := hk4 _ _ _ _ HX.out (by decide) (by decide)
                                  have HB4 := Lib.hid (HBB.out.trans hb4)
                                  have hz4 := Nat.le_trans HNBB.out hb4.size
                                  have HN4 := Lib.hid (wnum_any hW4 dn (by omega) (by have := HLE.out; have := textB_len x.key; have := HKY.out; rw [List.length_append]; omega) hz4)
                                  have HZ4 := Lib.hid hz4
                                  have x6 := (cell_of_row w4 wr.heap.size 6 _ _ _ hX4 : w4.cell? ⟨wr.heap.size, 6, none⟩ = some (.int .i64 (dn : Int)))
                                  have HX4 := Lib.hid hX4
                                  clear hW4 hb4 hk4 hX4 hz4)
          go_upto_region 17 with fail
          refine HN4.out.mono ?_
          rintro e w5 ⟨rfl, hW5, hb5, hk5⟩
          have hX5 := hk5 _ _ _ _ HX4.out (by decide) (by decide)
          have HB5 := Lib.hid (HB4.out.trans hb5)
          have hz5 := Nat.le_trans HZ4.out hb5.size
          have hl5 : (pre ++ List.flatMap entB (List.take m l) ++ textB x.key ++ numB dn).length ≤ 1099511627776 := by
            have := HLE.out; have := textB_len x.key; have := numB_len dn; have := HKY.out
            simp only [List.length_append] at *
            omega
          have HV5 := Lib.hid (wval_any hW5 x.val a1 a2 a3 c1 c2 c3 ((HPI w5).out HB5.out) HSH.out hl5 hz5)
          have HC5 := Lib.hid (fun (i : Nat) (u : Value) (hu : (Tryz.plainCells x.val a1 a2 a3 c1 c2 c3)[i]? = some u) => show w5.cell? ((⟨wr.heap.size, 1, none⟩ : Addr).add i) = some u from by
            simp only [Tryz.plainCells] at hu
            match i, hu with
            | 0, hu => exact (cell_of_row w5 wr.heap.size 1 _ _ _ hX5).trans hu
            | 1, hu => exact (cell_of_row w5 wr.heap.size 2 _ _ _ hX5).trans hu
            | 2, hu => exact (cell_of_row w5 wr.heap.size 3 _ _ _ hX5).trans hu
            | 3, hu => exact (cell_of_row w5 wr.heap.size 4 _ _ _ hX5).trans hu
            | 4, hu => exact (cell_of_row w5 wr.heap.size 5 _ _ _ hX5).trans hu)
          have HSP := Lib.hid (show (Tryz.prog.info? 49).map (·.size) = some 5 by kernel_rfl)
          clear hW5 hb5 hk5 hX5 hz5 hl5 x6
          simp only [Tryz.plainCells] at HC5 HV5
          have y1 : w5.cell? ⟨wr.heap.size, 1, none⟩ = some (.int .i64 x.val.kind) := HC5.out 0 _ rfl
          have y2 : w5.cell? ⟨wr.heap.size, 2, none⟩ = some (.string ⟨x.val.text.toArray⟩) := HC5.out 1 _ rfl
          have y3 : w5.cell? ⟨wr.heap.size, 3, none⟩ = some (.slice a1 x.val.items.length c1) := HC5.out 2 _ rfl
          have y4 : w5.cell? ⟨wr.heap.size, 4, none⟩ = some (.slice a2 x.val.pairs.length c2) := HC5.out 3 _ rfl
          have y5 : w5.cell? ⟨wr.heap.size, 5, none⟩ = some (.slice a3 x.val.ranks.length c3) := HC5.out 4 _ rfl
          go_upto_region 18 with (first
            | (go_at_call 34; refine HV5.out.mono ?_; rintro e w6 ⟨rfl, hW6, hb6, -⟩
               have HB6 := Lib.hid (HB5.out.trans hb6)
               have HW6 := Lib.hid hW6
               clear hW6 hb6))
          have HW7 := Lib.hid (show WrAt w.heap.size w6 Wb (pre ++ (l.take (m + 1)).flatMap entB) by
            have h := HW6.out
            rw [HNX.out]
            simpa only [List.append_assoc] using h)
          obtain ⟨q, hq⟩ : ∃ q, (pre ++ (l.take (m + 1)).flatMap entB).length = q := ⟨_, rfl⟩
          obtain ⟨vw, hv1, hv2⟩ := HW7.out.ex
          obtain ⟨aw, cw, rfl, -, -⟩ := hv2.val
          rw [hq] at hv1
          have z0 : w6.cell? ⟨Wb, 0, none⟩ = some (.slice aw q cw) := cell_of_row w6 Wb 0 _ _ _ hv1
          have HQ := Lib.hid hq
          clear hv1 hv2 hq y1 y2 y3 y4 y5
          by_cases hbig : 16777216 < q
          · have hbi : decide ((16777216 : Int) < (q : Int)) = true := decide_eq_true (by omega)
            obtain rfl : res = .error 2 := by
              rw [HRS.out, if_pos]
              have h1 := HQ.out
              have h2 : (l.take (m + 1)).flatMap entB ++ (l.drop (m + 1)).flatMap entB = l.flatMap entB := by
                rw [← List.flatMap_append, List.take_append_drop]
              have h3 := congrArg List.length h2
              rw [HBD.out]
              simp only [List.length_append] at h1 h3 ⊢
              omega
            go_wp2_with fail
            go_ret2
            exact ⟨HB6.out, rfl⟩
          · have hbi : decide ((16777216 : Int) < (q : Int)) = false := decide_eq_false (by omega)
            go_wp2_with fail
            go_roundw
            case rel => exact ⟨m + 1, by omega, by go_num, HW7.out, HB6.out, Lib.hid (by have := HQ.out; omega)⟩
            case measure => simp [intOf]; omega
        · obtain rfl : m = j := by omega
          have hall : l.take m = l := List.take_of_length_le (by rw [HL.out]; exact Nat.le_refl _)
          have HWF : Hid (WrAt w.heap.size wr Wb (bodyB nw l)) := Lib.hid (by have h := HW.out; rw [hall, ← HBD.out] at h; exact h)
          have hle : (bodyB nw l).length ≤ 16777216 := by have h := HLE.out; rw [hall, ← HBD.out] at h; exact h
          clear HW HLE hall
          obtain ⟨q, hq⟩ : ∃ q, (bodyB nw l).length = q := ⟨_, rfl⟩
          obtain ⟨sm, hsm⟩ : ∃ sm, sumB (bodyB nw l) = sm := ⟨_, rfl⟩
          have hsm2 : sm < 18446744073709551616 := by rw [← hsm]; exact crc_lt _
          rw [hq, hsm] at HRS
          rw [hq] at hle
          obtain ⟨vw, hv1, hv2⟩ := HWF.out.ex
          obtain ⟨aw, cw, rfl, hrd, -⟩ := hv2.val
          rw [hq] at hv1
          have z0 : wr.cell? ⟨Wb, 0, none⟩ = some (.slice aw q cw) := cell_of_row wr Wb 0 _ _ _ hv1
          have HSM := Lib.hid (sum_any aw q cw (bodyB nw l) wr hq (by omega) hrd)
          have HE8 := Lib.hid (w8_any HWF.out sm hsm2 (by omega) HBX.out.size)
          rw [hsm] at HSM
          clear hv1 hv2 hq hsm hrd hsm2
          by_cases hbig : 16777216 < q + 8
          · have hbi : decide ((16777216 : Int) < (q : Int) + 8) = true := decide_eq_true (by omega)
            have hbi2 : (16777216 : Int) < (q : Int) + 8 := by omega
            obtain rfl : res = .error 2 := by rw [HRS.out, if_pos hbig]
            go_wp2_with fail
            go_ret2
            exact ⟨HBX.out, rfl⟩
          · have hbi : decide ((16777216 : Int) < (q : Int) + 8) = false := decide_eq_false (by omega)
            have hbi2 : ¬ (16777216 : Int) < (q : Int) + 8 := by omega
            have HRE : Hid (res = .ok (bodyB nw l ++ eightB sm)) := Lib.hid (by rw [HRS.out, if_neg hbig])
            go_wp2_with (first
              | (go_at_call 24; refine HSM.out.mono ?_; rintro e wz ⟨rfl, rfl⟩)
              | (go_at_call 35; refine HE8.out.mono ?_; rintro e w8 ⟨rfl, hW8, hb8, -⟩
                 have HB8 := Lib.hid (HBX.out.trans hb8)
                 obtain ⟨v8, hv8, ho8⟩ := hW8.ex
                 have y8 : w8.cell? ⟨Wb, 0, none⟩ = some v8 := cell_of_row w8 Wb 0 _ _ _ hv8
                 have HO8 := Lib.hid ho8
                 clear hW8 hb8 hv8 ho8))
            go_ret2
            refine ⟨HB8.out, ?_⟩
            rw [HRE.out]
            exact ⟨_, rfl, HO8.out⟩
end Go.Proofs.YteiklgbjjmlmaaaGreat
