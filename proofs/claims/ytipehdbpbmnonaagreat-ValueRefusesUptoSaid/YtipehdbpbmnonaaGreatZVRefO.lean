/- ValueRefuses: walks (another). -/
import Derived.Test.YtipehdbpbmnonaaGreatZVRef0
import Derived.Deep.CutBlock
import Derived.Deep.CutRange
import Derived.Test.YtipehdbpbmnonaaGreatZVRef1
import Derived.Test.YtipehdbpbmnonaaGreatZVRef4
import Derived.Test.YtipehdbpbmnonaaGreatZVRef6
import Derived.Test.YtipehdbpbmnonaaGreatZVRef8
set_option linter.unusedVariables false
set_option linter.unusedSimpArgs false
namespace Go.Proofs.YtipehdbpbmnonaaGreat
open Go.RowKit Pantry

attribute [-go_sem] Builtin.append_
set_option maxRecDepth 100000 in
set_option maxHeartbeats 32000000 in
theorem ref_ho (w : World) (d : DD) (a1 a2 a3 a4 : Option Addr) (c1 c2 c3 c4 : Nat) (s : List UInt8) (how : Int) (hh : how < 0 ∨ 9 < how) (hsl : s.length ≤ 1048576) (hD : DatumAt w d a1 a2 a3 a4 c1 c2 c3 c4) (hB : PlainBig (plainD d)) (hz : wrongP (plainD d) = 0) :
    Calls Tryz.prog 4 #[.agg (Tryz.datumCells d a1 a2 a3 a4 c1 c2 c3 c4), .int .i64 how, .string ⟨s.toArray⟩] w (QPost w (.bool true)) := by
  have hmx : Tryz.prog.follows .mixedOrders = true := by kernel_rfl
  have HF := Lib.hid (wrongP_zero hz)
  obtain ⟨W0, hW0⟩ : ∃ W, w.alloc (.cells (Tryz.datumCells d a1 a2 a3 a4 c1 c2 c3 c4) 26) = W := ⟨_, rfl⟩
  have H0 := Lib.hid (DBox.start hD)
  rw [hW0] at H0
  have HWK := fun W => Lib.hid (wakes12 W)
  obtain ⟨p, hp⟩ : ∃ p, plainD d = p := ⟨_, rfl⟩
  rw [hp] at HF hB hz
  obtain ⟨kd, hkd⟩ : ∃ n, p.kind = n := ⟨_, rfl⟩
  obtain ⟨n2, hn2⟩ : ∃ n, p.items.length = n := ⟨_, rfl⟩
  obtain ⟨n3, hn3⟩ : ∃ n, p.pairs.length = n := ⟨_, rfl⟩
  obtain ⟨n4, hn4⟩ : ∃ n, p.ranks.length = n := ⟨_, rfl⟩
  have hl2 : n2 ≤ 1048576 := by rw [← hn2]; exact HF.out.few.1
  have hl3 : n3 ≤ 1048576 := by rw [← hn3]; exact HF.out.few.2.1
  have hl4 : n4 ≤ 1048576 := by rw [← hn4]; exact HF.out.few.2.2
  have hkk : 1 ≤ kd ∧ kd ≤ 5 := by rw [← hkd]; exact HF.out.kind
  have HPL : Hid (∀ W, DBox w d a1 a2 a3 a4 c1 c2 c3 c4 W → Calls Tryz.prog 9 #[.agg #[.int .i64 d.kind, .string ⟨d.text.toArray⟩, .slice a1 d.items.length c1, .slice a2 d.pairs.length c2, .slice a3 d.ranks.length c3, .slice a4 d.scores.length c4]] W
      (fun e w4 => ∃ b1 b2 b3 e1 e2 e3, e = .returned (.agg #[.int .i64 kd, .string ⟨p.text.toArray⟩, .slice b1 n2 e1, .slice b2 n3 e2, .slice b3 n4 e3]) ∧
        Calls Tryz.prog 10 #[.agg #[.int .i64 kd, .string ⟨p.text.toArray⟩, .slice b1 n2 e1, .slice b2 n3 e2, .slice b3 n4 e3], .int .u64 3] (w4.alloc (.cells #[.int .i64 kd, .string ⟨p.text.toArray⟩, .slice b1 n2 e1, .slice b2 n3 e2, .slice b3 n4 e3] 31))
          (fun e W6 => ∃ v, e = .returned (.tuple #[.pointer (some ⟨v, 0, none⟩), .int .i64 0]) ∧ PB w w4.heap.size kd p.text p.items p.pairs p.ranks W6 (.slice b1 n2 e1) (.slice b2 n3 e2) (.slice b3 n4 e3)))) := Lib.hid (by
    intro W hW
    refine (lplain_own W d a1 a2 a3 a4 c1 c2 c3 c4 hW.dat).mono ?_
    rw [hp]
    rintro e w4 ⟨b1, b2, b3, e1, e2, e3, rfl, hpl, hb, r2, r3, r4⟩
    have hpb := PB.ofOwn hW.below hb r2 r3 r4
    have hal : Below w4.heap.size w4 (w4.alloc (.cells (Tryz.plainCells p b1 b2 b3 e1 e2 e3) 31)) := (Below.refl _ _).alloc (Nat.le_refl _) _
    have hof := of_any _ p b1 b2 b3 e1 e2 e3 3 (by decide) (hpl.below hal) hB hz
    unfold Tryz.plainCells at hpb hof ⊢
    rw [hkd, hn2, hn3, hn4] at hpb hof ⊢
    refine ⟨b1, b2, b3, e1, e2, e3, rfl, hof.mono ?_⟩
    rintro e W6 ⟨v, q, q1, -, -, q4⟩
    exact ⟨v, q1, hpb.keep q4⟩)
  have HBG := Lib.hid hB
  have HKD := Lib.hid hkd
  have HN2 := Lib.hid hn2
  have HN3 := Lib.hid hn3
  have HN4 := Lib.hid hn4
  obtain ⟨f0, f1, f2, f3, f4, f5⟩ := H0.out.cells
  unfold Tryz.datumCells at hW0 ⊢
  clear hp hD hB hz hkd hn2 hn3 hn4
  go_enter Tryz.func4, Tryz.ntmps4
  go_upto_block 0 with (first
    | (go_at_call 8
       refine (HWK _).out.mono ?_
       rintro e w1 ⟨rfl, hb⟩
       have H1 := H0.out.to hb
       obtain ⟨g0, g1, g2, g3, g4, g5⟩ := H1.cells
       replace H1 := Lib.hid H1
       clear HWK hb H0)
    | (go_at_call 9
       refine (HPL.out _ H1.out).mono ?_
       rintro e w4 ⟨b1, b2, b3, e1, e2, e3, rfl, hof⟩
       have HOF := Lib.hid hof
       clear hof HPL H1)
    | (go_at_call 10
       refine HOF.out.mono ?_
       rintro e w6 ⟨v, rfl, hpb⟩
       obtain ⟨x2, x3, x4, xf⟩ := hpb.cells
       obtain ⟨⟨x0, x1, -, -, -⟩, -⟩ := fiveP hpb.blk
       have xf0 := xf 0
       have xf1 := xf 1
       have HP := Lib.hid hpb
       clear hpb HOF xf))
  go_cut [10] from 24 to 235 (fun want wx => ∃ z : Int, want = .int .i64 z ∧ Hid (RefEnd w w4.heap.size z wx))
  case first =>
    have hw0 : (how == 0) = false := by rw [beq_eq_false_iff_ne]; omega
    have hw1 : (how == 1) = false := by rw [beq_eq_false_iff_ne]; omega
    have hw2 : (how == 2) = false := by rw [beq_eq_false_iff_ne]; omega
    have hw3 : (how == 3) = false := by rw [beq_eq_false_iff_ne]; omega
    have hw4 : (how == 4) = false := by rw [beq_eq_false_iff_ne]; omega
    have hw5 : (how == 5) = false := by rw [beq_eq_false_iff_ne]; omega
    have hw6 : (how == 6) = false := by rw [beq_eq_false_iff_ne]; omega
    have hw7 : (how == 7) = false := by rw [beq_eq_false_iff_ne]; omega
    have hw8 : (how == 8) = false := by rw [beq_eq_false_iff_ne]; omega
    have hw9 : (how == 9) = false := by rw [beq_eq_false_iff_ne]; omega
    clear hh
    have hk5 : kd = 1 ∨ kd = 2 ∨ kd = 3 ∨ kd = 4 ∨ kd = 5 := by omega
    rcases hk5 with rfl | rfl | rfl | rfl | rfl
    · obtain ⟨LL, hLL⟩ : ∃ L : List UInt8, List.replicate 1048577 0 = L := ⟨_, rfl⟩
      have HLN : Hid (LL.length = 1048577) := Lib.hid (by rw [← hLL, List.length_replicate])
      obtain ⟨BG, hBG⟩ : ∃ o, Obj.cells Tryz.longCells 5 = o := ⟨_, rfl⟩
      have hmkl : ∀ W : World, (Instr.makeSlice 47 (.int .i64 1048577) (.int .i64 1048577)).run Tryz.prog W = .ok (.slice (some ⟨W.heap.size, 0, none⟩) 1048577 1048577) (W.alloc BG) := fun W => by rw [← hBG]; exact run_make_long W
      have hcvl : ∀ W : World, (convert 47 9 (.slice (some ⟨W.heap.size, 0, none⟩) 1048577 1048577)).run Tryz.prog (W.alloc BG) = .ok (.string ⟨LL.toArray⟩) (W.alloc BG) := fun W => by
        rw [← hBG, ← hLL]
        exact run_string_of Tryz.underlying47 Tryz.underlying5 Tryz.underlying9 List.length_replicate (long_rd W)
      have hcvd : ∀ W : World, (convert 47 9 (.slice (some ⟨W.heap.size, 0, none⟩) 1048577 1048577)).run Tryz.prog (W.alloc BG).drew = .ok (.string ⟨LL.toArray⟩) (W.alloc BG).drew := fun W => by
        rw [← hBG, ← hLL]
        exact run_string_of Tryz.underlying47 Tryz.underlying5 Tryz.underlying9 List.length_replicate (long_rd W).drew
      clear hLL hBG
      have hpa := HP.out.alloc BG
      obtain ⟨⟨z0, z1, -, -, -⟩, zf⟩ := fiveP hpa.blk
      have zf1 := zf 1
      have HE := Lib.hid (hpa.setText LL)
      have HBG2 : Hid (PlainBig ⟨1, LL, p.items, p.pairs, p.ranks⟩) := Lib.hid ⟨(by show LL.length < _; rw [HLN.out]; decide), HBG.out.items, HBG.out.pairs, HBG.out.ranks, HBG.out.texts, HBG.out.names, HBG.out.vals, HBG.out.mems⟩
      clear zf hpa
      go_wp2_with fail
      go_meet
      exact ⟨2, rfl, Lib.hid (RefEnd.of HE.out (ref_text HF.out HKD.out HLN.out) HBG2.out (.inl rfl))⟩
    · obtain ⟨LL, hLL⟩ : ∃ L : List UInt8, List.replicate 1048577 0 = L := ⟨_, rfl⟩
      have HLN : Hid (LL.length = 1048577) := Lib.hid (by rw [← hLL, List.length_replicate])
      obtain ⟨BG, hBG⟩ : ∃ o, Obj.cells Tryz.longCells 5 = o := ⟨_, rfl⟩
      have hmkl : ∀ W : World, (Instr.makeSlice 47 (.int .i64 1048577) (.int .i64 1048577)).run Tryz.prog W = .ok (.slice (some ⟨W.heap.size, 0, none⟩) 1048577 1048577) (W.alloc BG) := fun W => by rw [← hBG]; exact run_make_long W
      have hcvl : ∀ W : World, (convert 47 9 (.slice (some ⟨W.heap.size, 0, none⟩) 1048577 1048577)).run Tryz.prog (W.alloc BG) = .ok (.string ⟨LL.toArray⟩) (W.alloc BG) := fun W => by
        rw [← hBG, ← hLL]
        exact run_string_of Tryz.underlying47 Tryz.underlying5 Tryz.underlying9 List.length_replicate (long_rd W)
      have hcvd : ∀ W : World, (convert 47 9 (.slice (some ⟨W.heap.size, 0, none⟩) 1048577 1048577)).run Tryz.prog (W.alloc BG).drew = .ok (.string ⟨LL.toArray⟩) (W.alloc BG).drew := fun W => by
        rw [← hBG, ← hLL]
        exact run_string_of Tryz.underlying47 Tryz.underlying5 Tryz.underlying9 List.length_replicate (long_rd W).drew
      clear hLL hBG
      have hpa := HP.out.alloc BG
      obtain ⟨g, cap, w7, hr7, q1, q2, q3⟩ := hpa.add2 LL (by rw [HN2.out]; omega)
      rw [HN2.out] at hr7 q3
      try dsimp only at hr7 q3
      try rw [World.size_alloc] at hr7
      try rw [show (([] : List UInt8).toArray) = #[] from rfl] at hr7
      obtain ⟨r2, r3, r4, rf⟩ := hpa.cells
      obtain ⟨⟨r0, r1, -, -, -⟩, -⟩ := fiveP hpa.blk
      obtain ⟨m2, m3, m4, mf⟩ := (hpa.alloc (.cells #[.string ⟨LL.toArray⟩] 9)).cells
      try dsimp only at m2 m3 m4
      have HE := Lib.hid q3
      have HBG2 : Hid (PlainBig ⟨2, p.text, p.items ++ [LL], p.pairs, p.ranks⟩) := Lib.hid ⟨HBG.out.text, (by show (p.items ++ [LL]).length < _; rw [List.length_append, HN2.out]; simp only [List.length_cons, List.length_nil]; omega), HBG.out.pairs, HBG.out.ranks, (fun y hy => by
        rcases List.mem_append.1 hy with hy | hy
        · exact HBG.out.texts y hy
        · simp at hy; subst hy; rw [HLN.out]; decide), HBG.out.names, HBG.out.vals, HBG.out.mems⟩
      clear rf mf hpa q3
      go_wp2_with fail
      go_region_with (fail)
      all_goals
        go_wp2_with fail
        go_meet
        exact ⟨2, rfl, Lib.hid (RefEnd.of HE.out (ref_list HF.out HKD.out HLN.out) HBG2.out (.inl rfl))⟩
    · obtain ⟨LL, hLL⟩ : ∃ L : List UInt8, List.replicate 1048577 0 = L := ⟨_, rfl⟩
      have HLN : Hid (LL.length = 1048577) := Lib.hid (by rw [← hLL, List.length_replicate])
      obtain ⟨BG, hBG⟩ : ∃ o, Obj.cells Tryz.longCells 5 = o := ⟨_, rfl⟩
      have hmkl : ∀ W : World, (Instr.makeSlice 47 (.int .i64 1048577) (.int .i64 1048577)).run Tryz.prog W = .ok (.slice (some ⟨W.heap.size, 0, none⟩) 1048577 1048577) (W.alloc BG) := fun W => by rw [← hBG]; exact run_make_long W
      have hcvl : ∀ W : World, (convert 47 9 (.slice (some ⟨W.heap.size, 0, none⟩) 1048577 1048577)).run Tryz.prog (W.alloc BG) = .ok (.string ⟨LL.toArray⟩) (W.alloc BG) := fun W => by
        rw [← hBG, ← hLL]
        exact run_string_of Tryz.underlying47 Tryz.underlying5 Tryz.underlying9 List.length_replicate (long_rd W)
      have hcvd : ∀ W : World, (convert 47 9 (.slice (some ⟨W.heap.size, 0, none⟩) 1048577 1048577)).run Tryz.prog (W.alloc BG).drew = .ok (.string ⟨LL.toArray⟩) (W.alloc BG).drew := fun W => by
        rw [← hBG, ← hLL]
        exact run_string_of Tryz.underlying47 Tryz.underlying5 Tryz.underlying9 List.length_replicate (long_rd W).drew
      clear hLL hBG
      have hpa := HP.out.alloc BG
      obtain ⟨g, cap, w7, hr7, q1, q2, q3⟩ := hpa.add3 (LL, []) (by rw [HN3.out]; omega)
      rw [HN3.out] at hr7 q3
      try dsimp only at hr7 q3
      try rw [World.size_alloc] at hr7
      try rw [show (([] : List UInt8).toArray) = #[] from rfl] at hr7
      obtain ⟨r2, r3, r4, rf⟩ := hpa.cells
      obtain ⟨⟨r0, r1, -, -, -⟩, -⟩ := fiveP hpa.blk
      obtain ⟨m2, m3, m4, mf⟩ := (hpa.alloc (.cells #[.string ⟨((LL, []) : Fld).1.toArray⟩, .string ⟨((LL, []) : Fld).2.toArray⟩] 43)).cells
      try dsimp only at m2 m3 m4
      have HE := Lib.hid q3
      have HBG2 : Hid (PlainBig ⟨3, p.text, p.items, p.pairs ++ [(LL, [])], p.ranks⟩) := Lib.hid ⟨HBG.out.text, HBG.out.items, (by show (p.pairs ++ [((LL, []) : Fld)]).length < _; rw [List.length_append, HN3.out]; simp only [List.length_cons, List.length_nil]; omega), HBG.out.ranks, HBG.out.texts, (fun y hy => by
        rcases List.mem_append.1 hy with hy | hy
        · exact HBG.out.names y hy
        · simp at hy; subst hy; show LL.length < _; rw [HLN.out]; decide), (fun y hy => by
        rcases List.mem_append.1 hy with hy | hy
        · exact HBG.out.vals y hy
        · simp at hy; subst hy; simp), HBG.out.mems⟩
      clear rf mf hpa q3
      go_wp2_with fail
      go_region_with (fail)
      all_goals
        go_wp2_with fail
        go_meet
        exact ⟨2, rfl, Lib.hid (RefEnd.of HE.out (ref_record HF.out HKD.out HLN.out) HBG2.out (.inl rfl))⟩
    · obtain ⟨LL, hLL⟩ : ∃ L : List UInt8, List.replicate 1048577 0 = L := ⟨_, rfl⟩
      have HLN : Hid (LL.length = 1048577) := Lib.hid (by rw [← hLL, List.length_replicate])
      obtain ⟨BG, hBG⟩ : ∃ o, Obj.cells Tryz.longCells 5 = o := ⟨_, rfl⟩
      have hmkl : ∀ W : World, (Instr.makeSlice 47 (.int .i64 1048577) (.int .i64 1048577)).run Tryz.prog W = .ok (.slice (some ⟨W.heap.size, 0, none⟩) 1048577 1048577) (W.alloc BG) := fun W => by rw [← hBG]; exact run_make_long W
      have hcvl : ∀ W : World, (convert 47 9 (.slice (some ⟨W.heap.size, 0, none⟩) 1048577 1048577)).run Tryz.prog (W.alloc BG) = .ok (.string ⟨LL.toArray⟩) (W.alloc BG) := fun W => by
        rw [← hBG, ← hLL]
        exact run_string_of Tryz.underlying47 Tryz.underlying5 Tryz.underlying9 List.length_replicate (long_rd W)
      have hcvd : ∀ W : World, (convert 47 9 (.slice (some ⟨W.heap.size, 0, none⟩) 1048577 1048577)).run Tryz.prog (W.alloc BG).drew = .ok (.string ⟨LL.toArray⟩) (W.alloc BG).drew := fun W => by
        rw [← hBG, ← hLL]
        exact run_string_of Tryz.underlying47 Tryz.underlying5 Tryz.underlying9 List.length_replicate (long_rd W).drew
      clear hLL hBG
      have hpa := HP.out.alloc BG
      obtain ⟨g, cap, w7, hr7, q1, q2, q3⟩ := hpa.add2 LL (by rw [HN2.out]; omega)
      rw [HN2.out] at hr7 q3
      try dsimp only at hr7 q3
      try rw [World.size_alloc] at hr7
      try rw [show (([] : List UInt8).toArray) = #[] from rfl] at hr7
      obtain ⟨r2, r3, r4, rf⟩ := hpa.cells
      obtain ⟨⟨r0, r1, -, -, -⟩, -⟩ := fiveP hpa.blk
      obtain ⟨m2, m3, m4, mf⟩ := (hpa.alloc (.cells #[.string ⟨LL.toArray⟩] 9)).cells
      try dsimp only at m2 m3 m4
      have HE := Lib.hid q3
      have HBG2 : Hid (PlainBig ⟨4, p.text, p.items ++ [LL], p.pairs, p.ranks⟩) := Lib.hid ⟨HBG.out.text, (by show (p.items ++ [LL]).length < _; rw [List.length_append, HN2.out]; simp only [List.length_cons, List.length_nil]; omega), HBG.out.pairs, HBG.out.ranks, (fun y hy => by
        rcases List.mem_append.1 hy with hy | hy
        · exact HBG.out.texts y hy
        · simp at hy; subst hy; rw [HLN.out]; decide), HBG.out.names, HBG.out.vals, HBG.out.mems⟩
      clear rf mf hpa q3
      go_wp2_with fail
      go_region_with (fail)
      all_goals
        go_wp2_with fail
        go_meet
        exact ⟨2, rfl, Lib.hid (RefEnd.of HE.out (ref_flock HF.out HKD.out HLN.out) HBG2.out (.inl rfl))⟩
    · obtain ⟨LL, hLL⟩ : ∃ L : List UInt8, List.replicate 1048577 0 = L := ⟨_, rfl⟩
      have HLN : Hid (LL.length = 1048577) := Lib.hid (by rw [← hLL, List.length_replicate])
      obtain ⟨BG, hBG⟩ : ∃ o, Obj.cells Tryz.longCells 5 = o := ⟨_, rfl⟩
      have hmkl : ∀ W : World, (Instr.makeSlice 47 (.int .i64 1048577) (.int .i64 1048577)).run Tryz.prog W = .ok (.slice (some ⟨W.heap.size, 0, none⟩) 1048577 1048577) (W.alloc BG) := fun W => by rw [← hBG]; exact run_make_long W
      have hcvl : ∀ W : World, (convert 47 9 (.slice (some ⟨W.heap.size, 0, none⟩) 1048577 1048577)).run Tryz.prog (W.alloc BG) = .ok (.string ⟨LL.toArray⟩) (W.alloc BG) := fun W => by
        rw [← hBG, ← hLL]
        exact run_string_of Tryz.underlying47 Tryz.underlying5 Tryz.underlying9 List.length_replicate (long_rd W)
      have hcvd : ∀ W : World, (convert 47 9 (.slice (some ⟨W.heap.size, 0, none⟩) 1048577 1048577)).run Tryz.prog (W.alloc BG).drew = .ok (.string ⟨LL.toArray⟩) (W.alloc BG).drew := fun W => by
        rw [← hBG, ← hLL]
        exact run_string_of Tryz.underlying47 Tryz.underlying5 Tryz.underlying9 List.length_replicate (long_rd W).drew
      clear hLL hBG
      have hpa := HP.out.alloc BG
      obtain ⟨g, cap, w7, hr7, q1, q2, q3⟩ := hpa.add4 (LL, 0) (by rw [HN4.out]; omega)
      rw [HN4.out] at hr7 q3
      try dsimp only at hr7 q3
      try rw [World.size_alloc] at hr7
      try rw [show (([] : List UInt8).toArray) = #[] from rfl] at hr7
      obtain ⟨r2, r3, r4, rf⟩ := hpa.cells
      obtain ⟨⟨r0, r1, -, -, -⟩, -⟩ := fiveP hpa.blk
      obtain ⟨m2, m3, m4, mf⟩ := (hpa.alloc (.cells #[.string ⟨((LL, 0) : Mb).1.toArray⟩, .float .f64 ((LL, 0) : Mb).2] 46)).cells
      try dsimp only at m2 m3 m4
      have HE := Lib.hid q3
      have HBG2 : Hid (PlainBig ⟨5, p.text, p.items, p.pairs, p.ranks ++ [(LL, 0)]⟩) := Lib.hid ⟨HBG.out.text, HBG.out.items, HBG.out.pairs, (by show (p.ranks ++ [((LL, 0) : Mb)]).length < _; rw [List.length_append, HN4.out]; simp only [List.length_cons, List.length_nil]; omega), HBG.out.texts, HBG.out.names, HBG.out.vals, (fun y hy => by
        rcases List.mem_append.1 hy with hy | hy
        · exact HBG.out.mems y hy
        · simp at hy; subst hy; show LL.length < _; rw [HLN.out]; decide)⟩
      clear rf mf hpa q3
      go_wp2_with fail
      go_region_with (fail)
      all_goals
        go_wp2_with fail
        go_meet
        exact ⟨2, rfl, Lib.hid (RefEnd.of HE.out (ref_ranks HF.out HKD.out HLN.out) HBG2.out (.inl rfl))⟩
  case rest =>
    obtain ⟨z, rfl, HE⟩ := hcut
    obtain ⟨q, t1, t2, t3, s1, s2, s3, hpl, hblk, hbel, hwz, hbq, hz23⟩ := HE.out
    have HBEL := Lib.hid hbel
    obtain ⟨⟨y0, y1, y2, y3, y4⟩, -⟩ := fiveP hblk
    have hz0 : wrongP q ≠ 0 := by rw [hwz]; rcases hz23 with e | e <;> omega
    have HOF2 := Lib.hid (of_wrong wc q t1 t2 t3 s1 s2 s3 3 hpl hbq hz0)
    rw [hwz] at HOF2
    have HCO : Hid (∀ W, Below wc.heap.size wc W → Calls Tryz.prog 16 #[.agg (Tryz.plainCells q t1 t2 t3 s1 s2 s3)] W (QPost W (.int .i64 0))) := Lib.hid fun W hb => by
      have h := costP_any W q t1 t2 t3 s1 s2 s3 (hpl.below hb) hbq
      rwa [show Tryz.costF q = 0 from if_neg hz0] at h
    have HY : Hid (∀ W, Below wc.heap.size wc W → W.cell? ⟨w4.heap.size, 0, none⟩ = some (.int .i64 q.kind) ∧ W.cell? ⟨w4.heap.size, 1, none⟩ = some (.string ⟨q.text.toArray⟩) ∧ W.cell? ⟨w4.heap.size, 2, none⟩ = some (.slice t1 q.items.length s1) ∧ W.cell? ⟨w4.heap.size, 3, none⟩ = some (.slice t2 q.pairs.length s2) ∧ W.cell? ⟨w4.heap.size, 4, none⟩ = some (.slice t3 q.ranks.length s3)) := Lib.hid fun W hb => (fiveP ((hb.block _ (block_lt hblk)).trans hblk)).1
    unfold Tryz.plainCells at HOF2 HCO
    clear hpl hblk hbel hwz hbq hz0 HE
    rcases hz23 with rfl | rfl
    all_goals
      go_wp2_with (first
        | (go_at_call 10
           refine HOF2.out.mono ?_
           rintro e w8 ⟨rfl, hb⟩
           obtain ⟨k0, k1, k2, k3, k4⟩ := HY.out _ hb
           have HB8 := Lib.hid hb
           clear hb HOF2)
        | (go_at_call 16
           refine (HCO.out _ HB8.out).mono ?_
           rintro e w9 ⟨rfl, hb⟩
           have HB9 := Lib.hid (HBEL.out.trans ((HB8.out.mono HBEL.out.size).trans (hb.mono (Nat.le_trans HBEL.out.size HB8.out.size))))
           clear hb HCO))
      go_ret
      exact ⟨by simp, HB9.out⟩
end Go.Proofs.YtipehdbpbmnonaaGreat

/- ValueRefuses: where the data is refused from the first; all ways. -/
set_option linter.unusedVariables false
set_option linter.unusedSimpArgs false
namespace Go.Proofs.YtipehdbpbmnonaaGreat
open Go.RowKit Pantry

set_option maxRecDepth 100000 in
set_option maxHeartbeats 16000000 in
theorem ref_no (w : World) (d : DD) (a1 a2 a3 a4 : Option Addr) (c1 c2 c3 c4 : Nat) (how : Int) (s : List UInt8) (hD : DatumAt w d a1 a2 a3 a4 c1 c2 c3 c4) (hB : PlainBig (plainD d)) (hz : wrongP (plainD d) ≠ 0) :
    Calls Tryz.prog 4 #[.agg (Tryz.datumCells d a1 a2 a3 a4 c1 c2 c3 c4), .int .i64 how, .string ⟨s.toArray⟩] w (QPost w (.bool true)) := by
  obtain ⟨W0, hW0⟩ : ∃ W, w.alloc (.cells (Tryz.datumCells d a1 a2 a3 a4 c1 c2 c3 c4) 26) = W := ⟨_, rfl⟩
  have H0 := Lib.hid (DBox.start hD)
  rw [hW0] at H0
  have HWK := fun W => Lib.hid (wakes12 W)
  obtain ⟨p, hp⟩ : ∃ p, plainD d = p := ⟨_, rfl⟩
  rw [hp] at hB hz
  have HPL : Hid (∀ W, DBox w d a1 a2 a3 a4 c1 c2 c3 c4 W → Calls Tryz.prog 9 #[.agg #[.int .i64 d.kind, .string ⟨d.text.toArray⟩, .slice a1 d.items.length c1, .slice a2 d.pairs.length c2, .slice a3 d.ranks.length c3, .slice a4 d.scores.length c4]] W
      (fun e w4 => ∃ b1 b2 b3 e1 e2 e3, e = .returned (.agg #[.int .i64 p.kind, .string ⟨p.text.toArray⟩, .slice b1 p.items.length e1, .slice b2 p.pairs.length e2, .slice b3 p.ranks.length e3]) ∧
        Calls Tryz.prog 10 #[.agg #[.int .i64 p.kind, .string ⟨p.text.toArray⟩, .slice b1 p.items.length e1, .slice b2 p.pairs.length e2, .slice b3 p.ranks.length e3], .int .u64 3] (w4.alloc (.cells #[.int .i64 p.kind, .string ⟨p.text.toArray⟩, .slice b1 p.items.length e1, .slice b2 p.pairs.length e2, .slice b3 p.ranks.length e3] 31))
          (fun e W6 => e = .returned (.tuple #[.pointer none, .int .i64 (wrongP p)]) ∧ Below w.heap.size w W6))) := Lib.hid (by
    intro W hW
    refine (lplain_any W d a1 a2 a3 a4 c1 c2 c3 c4 hW.dat).mono ?_
    rw [hp]
    rintro e w4 ⟨b1, b2, b3, e1, e2, e3, rfl, hpl, hb⟩
    have hal : Below w4.heap.size w4 (w4.alloc (.cells (Tryz.plainCells p b1 b2 b3 e1 e2 e3) 31)) := (Below.refl _ _).alloc (Nat.le_refl _) _
    have hbw : Below w.heap.size w w4 := hW.below.trans (hb.mono hW.below.size)
    have hba := hbw.trans (hal.mono hbw.size)
    exact ⟨b1, b2, b3, e1, e2, e3, rfl, (of_wrong _ p b1 b2 b3 e1 e2 e3 3 (hpl.below hal) hB hz).mono fun e W6 ⟨r1, r2⟩ => ⟨r1, hba.trans (r2.mono hba.size)⟩⟩)
  have hzc := wrongP_cases p
  generalize wrongP p = z at *
  obtain ⟨f0, f1, f2, f3, f4, f5⟩ := H0.out.cells
  unfold Tryz.datumCells at hW0 ⊢
  clear hD hB hp
  rcases hzc with rfl | rfl | rfl | rfl
  · exact absurd rfl hz
  all_goals
    clear hz
    go_enter Tryz.func4, Tryz.ntmps4
    go_wp2_with (first
      | (go_at_call 8
         refine (HWK _).out.mono ?_
         rintro e w1 ⟨rfl, hb⟩
         have H1 := H0.out.to hb
         obtain ⟨g0, g1, g2, g3, g4, g5⟩ := H1.cells
         replace H1 := Lib.hid H1
         clear HWK hb H0)
      | (go_at_call 9
         refine (HPL.out _ H1.out).mono ?_
         rintro e w2 ⟨b1, b2, b3, e1, e2, e3, rfl, ho⟩
         have HOF := Lib.hid ho
         clear ho H1)
      | (go_at_call 10
         refine HOF.out.mono ?_
         rintro e w3 ⟨rfl, hb⟩
         have HB3 := Lib.hid hb
         clear hb HOF))
    go_ret
    exact ⟨rfl, HB3.out⟩
theorem refuses_any (w : World) (d : DD) (a1 a2 a3 a4 : Option Addr) (c1 c2 c3 c4 : Nat) (how : Int) (s : List UInt8) (hsl : s.length ≤ 1048576) (hD : DatumAt w d a1 a2 a3 a4 c1 c2 c3 c4) (hB : PlainBig (plainD d)) :
    Calls Tryz.prog 4 #[.agg (Tryz.datumCells d a1 a2 a3 a4 c1 c2 c3 c4), .int .i64 how, .string ⟨s.toArray⟩] w fun e W' => e = .returned (.bool true) ∧ Below w.heap.size w W' := by
  by_cases hz : wrongP (plainD d) = 0
  · by_cases hh : how < 0 ∨ 9 < how
    · exact ref_ho w d a1 a2 a3 a4 c1 c2 c3 c4 s how hh hsl hD hB hz
    · have h10 : how = 0 ∨ how = 1 ∨ how = 2 ∨ how = 3 ∨ how = 4 ∨ how = 5 ∨ how = 6 ∨ how = 7 ∨ how = 8 ∨ how = 9 := by omega
      rcases h10 with rfl | rfl | rfl | rfl | rfl | rfl | rfl | rfl | rfl | rfl
      · exact ref_h0 w d a1 a2 a3 a4 c1 c2 c3 c4 s hsl hD hB hz
      · exact ref_h1 w d a1 a2 a3 a4 c1 c2 c3 c4 s hsl hD hB hz
      · exact ref_h2 w d a1 a2 a3 a4 c1 c2 c3 c4 s hsl hD hB hz
      · exact ref_h3 w d a1 a2 a3 a4 c1 c2 c3 c4 s hsl hD hB hz
      · exact ref_h4 w d a1 a2 a3 a4 c1 c2 c3 c4 s hsl hD hB hz
      · exact ref_h5 w d a1 a2 a3 a4 c1 c2 c3 c4 s hsl hD hB hz
      · exact ref_h6 w d a1 a2 a3 a4 c1 c2 c3 c4 s hsl hD hB hz
      · exact ref_h7 w d a1 a2 a3 a4 c1 c2 c3 c4 s hsl hD hB hz
      · exact ref_h8 w d a1 a2 a3 a4 c1 c2 c3 c4 s hsl hD hB hz
      · exact ref_h9 w d a1 a2 a3 a4 c1 c2 c3 c4 s hsl hD hB hz
  · exact ref_no w d a1 a2 a3 a4 c1 c2 c3 c4 how s hD hB hz
end Go.Proofs.YtipehdbpbmnonaaGreat
