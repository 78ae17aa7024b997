/- The law's datum as plain data, in rows of its own. -/
import Derived.Test.YtipehdbpbmnonaaGreatZVBuild
set_option linter.unusedVariables false
set_option linter.unusedSimpArgs false
namespace Go.Proofs.YtipehdbpbmnonaaGreat
open Go.RowKit Pantry

/-- Told as plain data in rows that lie behind all that was there. -/
def OwnPost (p : PD) (w : World) (e : Ending) (w' : World) : Prop :=
  ∃ a1 a2 a3 c1 c2 c3, e = .returned (.agg (Tryz.plainCells p a1 a2 a3 c1 c2 c3)) ∧ PlainAt w' p a1 a2 a3 ∧ Below w.heap.size w w' ∧
    w'.ownsRow w.heap.size 9 1 (.slice a1 p.items.length c1) p.items.length (p.items.map txC) ∧ w'.ownsRow w.heap.size 43 2 (.slice a2 p.pairs.length c2) p.pairs.length (fdCells p.pairs) ∧ w'.ownsRow w.heap.size 46 2 (.slice a3 p.ranks.length c3) p.ranks.length (rkCells p.ranks)
attribute [-go_sem] Builtin.append_
set_option maxHeartbeats 8000000 in
theorem lplain_own (w : World) (d : DD) (a1 a2 a3 a4 : Option Addr) (c1 c2 c3 c4 : Nat) (hD : DatumAt w d a1 a2 a3 a4 c1 c2 c3 c4) :
    Calls Tryz.prog 9 #[.agg (Tryz.datumCells d a1 a2 a3 a4 c1 c2 c3 c4)] w (OwnPost (plainD d) w) := by
  obtain ⟨w1, hw1⟩ : ∃ W, w.alloc (.cells (Tryz.datumCells d a1 a2 a3 a4 c1 c2 c3 c4) 26) = W := ⟨_, rfl⟩
  obtain ⟨w2, hw2⟩ : ∃ W, w1.alloc (.cells #[.int .i64 0, .string ⟨#[]⟩, .slice none 0 0, .slice none 0 0, .slice none 0 0] 31) = W := ⟨_, rfl⟩
  have hs1 : w1.heap.size = w.heap.size + 1 := by rw [← hw1]; simp
  have hs2 : w2.heap.size = w.heap.size + 1 + 1 := by rw [← hw2]; simp [hs1]
  have hb2 : Below w.heap.size w w2 := by rw [← hw2, ← hw1]; exact ((Below.refl _ _).alloc (Nat.le_refl _) _).alloc (by simp) _
  have hDb : w2.heap[w.heap.size]? = some (.cells (Tryz.datumCells d a1 a2 a3 a4 c1 c2 c3 c4) 26) := by
    rw [← hw2, heap_alloc_old (by omega), ← hw1]
    exact heap_alloc_new w _
  have hRb : w2.heap[w.heap.size + 1]? = some (.cells #[.int .i64 0, .string ⟨#[]⟩, .slice none 0 0, .slice none 0 0, .slice none 0 0] 31) := by
    rw [← hs1, ← hw2]
    exact heap_alloc_new w1 _
  have hPB : PB w2 w2.heap.size d.kind d.text [] [] [] (w2.alloc (.cells #[.int .i64 d.kind, .string ⟨d.text.toArray⟩, .slice none 0 0, .slice none 0 0, .slice none 0 0] 31)) (.slice none 0 0) (.slice none 0 0) (.slice none 0 0) := by
    exact ⟨Nat.le_refl _, heap_alloc_new w2 _, World.ownsRow_nil _ _ _ _, World.ownsRow_nil _ _ _ _, World.ownsRow_nil _ _ _ _, (Below.refl _ _).alloc (Nat.le_refl _) _⟩
  have HD := Lib.hid hD
  have HDC : Hid (∀ A v2 v3 v4 its prs rks, PB w2 w2.heap.size d.kind d.text its prs rks A v2 v3 v4 →
      A.cell? ⟨w.heap.size, 2, none⟩ = some (.slice a1 d.items.length c1) ∧ A.cell? ⟨w.heap.size, 3, none⟩ = some (.slice a2 d.pairs.length c2) ∧ A.cell? ⟨w.heap.size, 4, none⟩ = some (.slice a3 d.ranks.length c3) ∧ A.cell? ⟨w.heap.size, 5, none⟩ = some (.slice a4 d.scores.length c4)) := Lib.hid fun A v2 v3 v4 its prs rks h => by
    have := (h.below.block w.heap.size (by omega)).trans hDb
    obtain ⟨-, -, q2, q3, q4, q5⟩ := six this
    exact ⟨q2, q3, q4, q5⟩
  obtain ⟨d0, d1, -⟩ := six hDb
  obtain ⟨f2, f3, f4, f5⟩ := HDC.out _ _ _ _ _ _ _ hPB
  obtain ⟨x2, x3, x4, xf⟩ := hPB.cells
  have HP := Lib.hid hPB
  have HB2 := Lib.hid hb2
  have HRb := Lib.hid hRb
  have HS1 := Lib.hid hs1
  have HS2 := Lib.hid hs2
  clear hPB hb2 hDb hRb hs1 hs2 hD
  unfold Tryz.datumCells at hw1 ⊢
  go_enter Tryz.func9, Tryz.ntmps9
  have HRI := Lib.hid (HD.out.items.below (HB2.out.trans (HP.out.below.mono HB2.out.size)))
  have HRP : Hid (∀ A, Below w2.heap.size w2 A → Rd A a2 (fdCells d.pairs)) := Lib.hid fun A hA => HD.out.pairs.below (HB2.out.trans (hA.mono HB2.out.size))
  have HN := Lib.hid HD.out.nil
  have HLI := Lib.hid (show (d.items.map txC).length = d.items.length * 1 by simp)
  have HLP := Lib.hid (fdCells_length d.pairs)
  obtain ⟨hfi, hfp, hfr, hfs⟩ := HD.out.few
  go_upto_region 2 with fail
  have HARM : Hid (∀ v' w5, w5.ownsRow w2.heap.size 9 1 v' (0 + d.items.length) ([] ++ d.items.map txC) → (w2.alloc (.cells #[.int .i64 d.kind, .string ⟨d.text.toArray⟩, .slice none 0 0, .slice none 0 0, .slice none 0 0] 31)).grownBy w5 (Value.slice none 0 0).ownBlock →
      ∃ i5 k5, v' = .slice i5 d.items.length k5 ∧ w5.cell? ⟨w2.heap.size, 2, none⟩ = some (.slice none 0 0) ∧ w5.frozen? ⟨w2.heap.size, 2, none⟩ = false ∧ PB w2 w2.heap.size d.kind d.text d.items [] [] (w5.setCell ⟨w2.heap.size, 2, none⟩ (.slice i5 d.items.length k5)) (.slice i5 d.items.length k5) (.slice none 0 0) (.slice none 0 0)) := Lib.hid (by
    intro v' w5 hown hg
    obtain ⟨i5, k5, rfl⟩ := own_addr hown
    rw [Nat.zero_add] at hown ⊢
    obtain ⟨-, hq1, hq2, hq3⟩ := HP.out.put2 (its' := d.items) (by simpa using hown) (Chg.of_grown hg fun j e => e)
    exact ⟨i5, k5, rfl, hq1, hq2, hq3⟩)
  have HARM2 : Hid (∀ A u2, PB w2 w2.heap.size d.kind d.text d.items [] [] A u2 (.slice none 0 0) (.slice none 0 0) → ∀ v' w6, w6.ownsRow w2.heap.size 43 2 v' (0 + d.pairs.length) ([] ++ fdCells d.pairs) → A.grownBy w6 (Value.slice none 0 0).ownBlock →
      ∃ i6 k6, v' = .slice i6 d.pairs.length k6 ∧ w6.cell? ⟨w2.heap.size, 3, none⟩ = some (.slice none 0 0) ∧ w6.frozen? ⟨w2.heap.size, 3, none⟩ = false ∧ PB w2 w2.heap.size d.kind d.text d.items d.pairs [] (w6.setCell ⟨w2.heap.size, 3, none⟩ (.slice i6 d.pairs.length k6)) u2 (.slice i6 d.pairs.length k6) (.slice none 0 0)) := Lib.hid (by
    intro A u2 hA v' w6 hown hg
    obtain ⟨i5, k5, rfl⟩ := own_addr hown
    rw [Nat.zero_add] at hown ⊢
    obtain ⟨-, hq1, hq2, hq3⟩ := hA.put3 (prs' := d.pairs) hown (Chg.of_grown hg fun j e => e)
    exact ⟨i5, k5, rfl, hq1, hq2, hq3⟩)
  go_wp2_with (first
    | (at_builtin
       refine wpl_append itemI rfl _ _ rfl w2.heap.size rfl HP.out.r2 (news := d.items.map txC) rfl HN.out.1 HLI.out HRI.out (by simp only [List.length_nil]; omega) (by simp) ?_
       intro v' w5 hown hg hv
       obtain ⟨i5, k5, rfl, hq1, hq2, hq3⟩ := HARM.out v' w5 hown hg
       obtain ⟨m2, m3, m4, m5⟩ := HDC.out _ _ _ _ _ _ _ hq3
       obtain ⟨n2, n3, n4, nf⟩ := hq3.cells
       have HP5 := Lib.hid hq3
       clear hown hg hq3 HRI HLI hv HARM HP)
    | (at_builtin
       refine wpl_append pairI12 rfl _ _ rfl w2.heap.size rfl HP5.out.r3 (news := fdCells d.pairs) rfl HN.out.2 HLP.out (HRP.out _ HP5.out.below) (by simp only [List.length_nil]; omega) HP5.out.below.size ?_
       intro v' w6 hown hg hv
       obtain ⟨i6, k6, rfl, hq4, hq5, hq6⟩ := HARM2.out _ _ HP5.out v' w6 hown hg
       obtain ⟨p2, p3, p4, p5⟩ := HDC.out _ _ _ _ _ _ _ hq6
       obtain ⟨o2, o3, o4, of_⟩ := hq6.cells
       have HP6 := Lib.hid hq6
       clear hown hg hq6 HP5 HRP HLP HARM2 hv))
  go_loopw [4] (fun i wr => ∃ (k : Nat) (u4 : Value), k ≤ d.ranks.length ∧ i = .int .i64 k ∧ PB w2 w2.heap.size d.kind d.text d.items d.pairs ((rankD d.ranks d.scores).take k) wr (.slice i5 d.items.length k5) (.slice i6 d.pairs.length k6) u4)
    (fun i _ => d.ranks.length - (intOf i).toNat)
  case atStart => exact ⟨0, _, Nat.zero_le _, rfl, HP6.out⟩
  case round =>
    obtain ⟨k, u4, hk, rfl, hP⟩ := hrel
    obtain ⟨e2, e3, e4, e5⟩ := HDC.out _ _ _ _ _ _ _ hP
    obtain ⟨y2, y3, y4, yf⟩ := hP.cells
    have hDA : DatumAt wr d a1 a2 a3 a4 c1 c2 c3 c4 := ⟨HD.out.items.below (HB2.out.trans (hP.below.mono HB2.out.size)), HD.out.pairs.below (HB2.out.trans (hP.below.mono HB2.out.size)), HD.out.ranks.below (HB2.out.trans (hP.below.mono HB2.out.size)), HD.out.scores.below (HB2.out.trans (hP.below.mono HB2.out.size)), HD.out.nil, HD.out.few⟩
    clear HP6 p2 p3 p4 p5 o2 o3 o4 of_ hq4 hq5 m2 m3 m4 m5 n2 n3 n4 nf hq1 hq2 d0 d1 f2 f3 f4 f5 x2 x3 x4 xf
    by_cases hlt : k < d.ranks.length
    · obtain ⟨s, hs⟩ : ∃ s, d.ranks[k]? = some s := ⟨_, List.getElem?_eq_getElem hlt⟩
      obtain ⟨x, rfl, hx⟩ := hDA.ranks.cell k (by simpa using hlt)
      have hx2 : wr.cell? (x.add k) = some (.string ⟨s.toArray⟩) := by
        rw [hx, List.getElem_map]
        obtain ⟨h1, e⟩ := List.getElem?_eq_some_iff.1 hs
        rw [e]; rfl
      have hlen : ((rankD d.ranks d.scores).take k).length = k := by rw [List.length_take, rankD_length]; omega
      have hget := rankD_get d.ranks d.scores k s hs
      have htk : (rankD d.ranks d.scores).take (k + 1) = (rankD d.ranks d.scores).take k ++ [(s, d.scores.getD k 4609434218613702656)] := by
        rw [List.take_add_one, hget]; rfl
      obtain ⟨f, hf⟩ : ∃ f, d.scores.getD k 4609434218613702656 = f := ⟨_, rfl⟩
      rw [hf] at htk
      obtain ⟨g, cap, w7, hr7, q1, q2, q3⟩ := hP.add4 (s, f) (by rw [hlen]; omega)
      rw [hlen] at hr7 q3
      rw [← htk] at q3
      have HQ := Lib.hid q3
      have hfb := frombits12
      have hx3 : (wr.alloc (.cells #[.string ⟨s.toArray⟩, .float .f64 f] 46)).cell? (x.add k) = some (.string ⟨s.toArray⟩) := ((hDA.ranks.alloc (.cells #[.string ⟨s.toArray⟩, .float .f64 f] 46)).cell k (by simpa using hlt)).elim fun y hy => by
        obtain ⟨hy1, hy2⟩ := hy
        cases hy1
        rw [hy2, List.getElem_map]
        obtain ⟨h1, e⟩ := List.getElem?_eq_some_iff.1 hs
        rw [e]; rfl
      have hPA := hP.alloc (.cells #[.string ⟨s.toArray⟩, .float .f64 f] 46)
      obtain ⟨-, -, e4a, e5a⟩ := HDC.out _ _ _ _ _ _ _ hPA
      obtain ⟨-, -, y4a, -⟩ := hPA.cells
      have hsc := hDA.scores
      replace hDA := Lib.hid hDA
      have hmx : Tryz.prog.follows .mixedOrders = true := by kernel_rfl
      clear hlen hget htk q3 hPA hx hs yf
      by_cases hsl : k < d.scores.length
      · obtain ⟨y, rfl, hy⟩ := hsc.cell k (by simpa [u64L] using hsl)
        have hy2 : wr.cell? (y.add k) = some (.int .u64 (f : Int)) := by
          rw [hy]
          have : d.scores[k] = f := by rw [← hf]; simp [List.getElem?_eq_getElem hsl]
          simp [u64L, this]
        clear hsc hy hf
        go_wp2_with fail
        go_region_with (fail)
        all_goals
          go_wp2_with fail
          go_roundw
          case rel => exact ⟨k + 1, _, by omega, by go_num, HQ.out⟩
          case measure => simp [intOf]; omega
      · have : f = 4609434218613702656 := by rw [← hf]; simp [List.getElem?_eq_none (Nat.le_of_not_lt hsl)]
        subst this
        clear hsc hf
        go_wp2_with fail
        go_region_with (fail)
        all_goals
          go_wp2_with fail
          go_roundw
          case rel => exact ⟨k + 1, _, by omega, by go_num, HQ.out⟩
          case measure => simp [intOf]; omega
    · obtain rfl : k = d.ranks.length := by omega
      rw [show (rankD d.ranks d.scores).take d.ranks.length = rankD d.ranks d.scores from by rw [List.take_of_length_le (by rw [rankD_length]; exact Nat.le_refl _)]] at hP
      have hl4 := rankD_length d.ranks d.scores
      obtain ⟨b1, b2, b3, l1, l2, l3, t1, t2, t3, hpl, hne⟩ := hP.told
      cases t1; cases t2; subst t3
      obtain ⟨z0, z1, z2, z3, z4⟩ := (fiveP hP.blk).1
      have hRw : wr.heap[w.heap.size + 1]? = some (.cells #[.int .i64 0, .string ⟨#[]⟩, .slice none 0 0, .slice none 0 0, .slice none 0 0] 31) := (hP.below.block (w.heap.size + 1) (by have := HS2.out; omega)).trans HRb.out
      rw [← HS1.out] at hRw
      obtain ⟨⟨g0, g1, g2, g3, g4⟩, gf⟩ := fiveP hRw
      have gz0 := gf 0; have gz1 := gf 1; have gz2 := gf 2; have gz3 := gf 3; have gz4 := gf 4
      have hrow := fill5_row hRw (.int .i64 d.kind) (.string ⟨d.text.toArray⟩) (.slice i5 d.items.length k5) (.slice i6 d.pairs.length k6) (.slice b3 d.ranks.length l3)
      have hPT : Hid (OwnPost (plainD d) w (.returned (.agg (Tryz.plainCells (plainD d) i5 i6 b3 k5 k6 l3))) (fill5 wr w1.heap.size (.int .i64 d.kind) (.string ⟨d.text.toArray⟩) (.slice i5 d.items.length k5) (.slice i6 d.pairs.length k6) (.slice b3 d.ranks.length l3))) := Lib.hid (by
        have hcR := fill5_chg wr w1.heap.size (.int .i64 d.kind) (.string ⟨d.text.toArray⟩) (.slice i5 d.items.length k5) (.slice i6 d.pairs.length k6) (.slice b3 d.ranks.length l3)
        have hbw : Below w.heap.size w wr := HB2.out.trans (hP.below.mono HB2.out.size)
        have hd1 := HS1.out
        refine ⟨i5, i6, b3, k5, k6, l3, rfl, ⟨hcR.rd hpl.items fun x hx e => ?_, hcR.rd hpl.pairs fun x hx e => ?_, hcR.rd hpl.ranks fun x hx e => ?_⟩, hbw.trans (hcR.below hbw.size fun k e => by omega), ?_, ?_, ?_⟩
        · exact row_not (X := w1.heap.size) hP.r2 hRw (by decide) (by subst hx; exact congrArg some e)
        · exact row_not (X := w1.heap.size) hP.r3 hRw (by decide) (by subst hx; exact congrArg some e)
        · exact row_not (X := w1.heap.size) hP.r4 hRw (by decide) (by subst hx; exact congrArg some e)
        · exact hcR.ownsRow (ownsRow_base hP.r2 HB2.out.size) fun k hk e => row_not (X := w1.heap.size) hP.r2 hRw (by decide) (e ▸ hk)
        · exact hcR.ownsRow (ownsRow_base hP.r3 HB2.out.size) fun k hk e => row_not (X := w1.heap.size) hP.r3 hRw (by decide) (e ▸ hk)
        · have h4 : (plainD d).ranks.length = d.ranks.length := hl4
          rw [h4]
          have hr4 := hP.r4
          rw [hl4] at hr4
          exact hcR.ownsRow (ownsRow_base hr4 HB2.out.size) fun k hk e => row_not (X := w1.heap.size) hP.r4 hRw (by decide) (by rw [hl4]; exact e ▸ hk))
      rw [hl4] at z4
      clear hP hpl hne hRw gf hk hlt hDA e2 e3 e5 y2 y3 y4 yf
      go_wp2_with fail
      obtain ⟨⟨g0, g1, g2, g3, g4⟩, -⟩ := fiveP hrow
      have hq := hPT.out
      unfold fill5 at hq g0 g1 g2 g3 g4
      rw [show Tryz.plainCells (plainD d) i5 i6 b3 k5 k6 l3 = #[.int .i64 d.kind, .string ⟨d.text.toArray⟩, .slice i5 d.items.length k5, .slice i6 d.pairs.length k6, .slice b3 d.ranks.length l3] from by simp [Tryz.plainCells, plainD, rankD_length]] at hq
      refine bodyPost_ret (v := .agg #[.int .i64 d.kind, .string ⟨d.text.toArray⟩, .slice i5 d.items.length k5, .slice i6 d.pairs.length k6, .slice b3 d.ranks.length l3]) ?_ rfl hq
      simp [results, Tryz.f9, go_sem, g0, g1, g2, g3, g4]
end Go.Proofs.YtipehdbpbmnonaaGreat
