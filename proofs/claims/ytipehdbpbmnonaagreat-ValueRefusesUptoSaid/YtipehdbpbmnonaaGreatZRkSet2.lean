/- Set of ranks: behind the tests. -/
import Derived.Test.YtipehdbpbmnonaaGreatZRkSet1
set_option linter.unusedVariables false
set_option linter.unusedSimpArgs false
namespace Go.Proofs.YtipehdbpbmnonaaGreat
open Go.RowKit Pantry

set_option maxHeartbeats 8000000 in
set_option maxRecDepth 100000 in
theorem rset_tail (w : World) (r seed d : Nat) (D : Dc) (v : Value) (l : List Mb) (key : List UInt8) (x : Nat) (was : Bool) (h : RkAt w r seed d D v l) (hk : ∀ p ∈ l, p.1 ≠ key) (ht : key.length ≤ 1048576) (hx : ¬ fnan x) (hf : l.length < 1048576)
    (R : Ending → World → Prop) (hR : Hid (∀ j w', AtPlace l (key, x) j → ROp r seed d D v (l.take j ++ [(key, x)] ++ l.drop j) w w' → R (.returned (.tuple #[.bool (!was), .int .i64 0])) w')) (u3 u4 u5 u6 u7 u8 u10 u11 u12 u13 u14 u15 u16 u17 u18 u19 u20 u21 u22 u23 u24 u25 u26 u27 u28 u29 u30 u31 u32 u33 u34 u35 u36 u37 u38 u39 u40 u41 u42 u43 u44 u45 u46 u47 u48 u49 u50 u51 u52 u53 u54 u55 u56 u57 u58 u59 u60 u61 u62 u63 u64 u65 u66 u67 u68 u69 u70 u71 u72 u73 u74 u75 u76 u77 u78 u79 u80 u81 u82 u83 u84 u85 : Value) :
    ∀ c, cfst (cskip 5 (cbody Tryz.f48)) = c → ∀ cr, csnd (cskip 5 (cbody Tryz.f48)) = cr → ∀ K : Act → World → Prop, (∀ a v, Code.wp Tryz.prog cr (bodyPost Tryz.prog Tryz.f48 R) a v → K a v) →
      Code.wp Tryz.prog c (Exit.then K (bodyPost Tryz.prog Tryz.f48 R)) { tmps := #[.pointer (some ⟨r, 0, none⟩), .string ⟨key.toArray⟩, .float .f64 x, u3, u4, u5, u6, u7, u8, .bool was, u10, u11, u12, u13, u14, u15, u16, u17, u18, u19, u20, u21, u22, u23, u24, u25, u26, u27, u28, u29, u30, u31, u32, u33, u34, u35, u36, u37, u38, u39, u40, u41, u42, u43, u44, u45, u46, u47, u48, u49, u50, u51, u52, u53, u54, u55, u56, u57, u58, u59, u60, u61, u62, u63, u64, u65, u66, u67, u68, u69, u70, u71, u72, u73, u74, u75, u76, u77, u78, u79, u80, u81, u82, u83, u84, u85], defers := [] } w := by
  have HK := Lib.hid hk
  have HX := Lib.hid hx
  obtain ⟨⟨h0, h1, h2, h3⟩, hfz⟩ := four h.head
  obtain ⟨va, vc, rfl, -⟩ := h.slice
  have hrl := block_lt h.head
  obtain ⟨n, hn⟩ : ∃ n, l.length = n := ⟨_, rfl⟩
  have HN := Lib.hid hn
  rw [hn] at h h2 hf hR
  have H := Lib.hid h
  obtain ⟨wb, hwb⟩ : ∃ wb, w.alloc (.cells #[.string ⟨key.toArray⟩, .float .f64 x] 46) = wb := ⟨_, rfl⟩
  have hbb : Below w.heap.size w wb := by rw [← hwb]; exact (Below.refl _ w).alloc (Nat.le_refl _) _
  have hbx : wb.heap[w.heap.size]? = some (.cells #[.string ⟨key.toArray⟩, .float .f64 x] 46) := by rw [← hwb]; exact heap_alloc_new w _
  have hrb : wb.heap[r]? = w.heap[r]? := hbb.block r hrl
  have hnv : (Value.slice va n vc).ownBlock ≠ some r := fun hk => by
    obtain ⟨c, hc⟩ := row_type h.row hk
    exact types_ne hc h.head (by decide) rfl
  have hnH : (Value.slice va n vc).ownBlock ≠ some w.heap.size := fun hk => by
    obtain ⟨c, hc⟩ := row_type h.row hk
    have := block_lt hc
    omega
  have HBB := Lib.hid hbb
  have HNV := Lib.hid (show _ ∧ _ ∧ wb.heap.size = w.heap.size + 1 from ⟨hnv, hnH, by rw [← hwb]; simp⟩)
  have HS : Hid (∀ W : World, W.heap[r]? = wb.heap[r]? → W.heap[w.heap.size]? = wb.heap[w.heap.size]? → W.cell? ⟨r, 2, none⟩ = some (.slice va n vc) ∧ W.cell? ⟨w.heap.size, 0, none⟩ = some (.string ⟨key.toArray⟩) ∧ W.cell? ⟨w.heap.size, 1, none⟩ = some (.float .f64 x) ∧ W.frozen? ⟨r, 2, none⟩ = false) := Lib.hid (by
    intro W e1 e2
    have hh := (e1.trans hrb).trans h.head
    obtain ⟨⟨-, -, q, -⟩, qf⟩ := four hh
    exact ⟨q, row_cells (e2.trans hbx) 0 _ rfl, row_cells (e2.trans hbx) 1 _ rfl, qf 2⟩)
  have hrl2 : r < wb.heap.size := by rw [HNV.out.2.2]; omega
  have hHl2 : w.heap.size < wb.heap.size := by rw [HNV.out.2.2]; omega
  have HSW := Lib.hid (show ∀ W : World, Below wb.heap.size wb W → _ from fun W hb => HS.out W (hb.block r hrl2) (hb.block w.heap.size hHl2))
  have hbd := Lib.hid (Below.refl wb.heap.size wb).drew
  have hbd2 := Lib.hid ((Below.refl wb.heap.size wb).alloc (Nat.le_refl _) (.cells #[.string ⟨key.toArray⟩, .float .f64 x] 46)).drew
  have HS0 := Lib.hid (HSW.out wb.drew hbd.out)
  have HSA := Lib.hid (HSW.out (wb.alloc (.cells #[.string ⟨key.toArray⟩, .float .f64 x] 46)).drew hbd2.out)
  have HPL : Hid (∀ W, Below w.heap.size w W → Calls Tryz.prog 107 #[.pointer (some ⟨r, 0, none⟩), .agg #[.string ⟨key.toArray⟩, .float .f64 x]] W (PlacePost l (key, x) W)) := Lib.hid fun W hb => place_any W r seed d D _ l (key, x) (H.out.below hb) HX.out
  have HPA := Lib.hid (HPL.out wb.drew hbb.drew)
  have HPB := Lib.hid (HPL.out (wb.alloc (.cells #[.string ⟨key.toArray⟩, .float .f64 x] 46)).drew (hbb.alloc (by rw [HNV.out.2.2]; omega) _).drew)
  have hvB : Hid ((wb.alloc (.cells #[.string ⟨key.toArray⟩, .float .f64 x] 46)).drew.heap[wb.heap.size]? = some (.cells #[.string ⟨key.toArray⟩, .float .f64 x] 46)) := Lib.hid (heap_alloc_new wb _)
  clear h hk hx h0 h1 h2 h3 hfz hn hbb hbx hrb hnv hnH
  intro c hc cr hcr K hK
  conv at hc => lhs; whnf
  conv at hcr => lhs; whnf
  subst hc hcr
  dsimp only
  go_wp2_with fail
  clear hwb
  obtain ⟨g1, g2, g3, g4⟩ := HSW.out wb (Below.refl _ wb)
  have G1 : ∀ o, (wb.alloc o).cell? ⟨r, 2, none⟩ = some (.slice va n vc) := fun o => (HSW.out _ ((Below.refl wb.heap.size wb).alloc (Nat.le_refl _) o)).1
  have G2 : ∀ o, (wb.alloc o).cell? ⟨w.heap.size, 0, none⟩ = some (.string ⟨key.toArray⟩) := fun o => (HSW.out _ ((Below.refl wb.heap.size wb).alloc (Nat.le_refl _) o)).2.1
  have G3 : ∀ o, (wb.alloc o).cell? ⟨w.heap.size, 1, none⟩ = some (.float .f64 x) := fun o => (HSW.out _ ((Below.refl wb.heap.size wb).alloc (Nat.le_refl _) o)).2.2.1
  go_region_with (first
      | (go_at_call 107; first
           | (refine HPA.out.mono ?_; rintro e w2 ⟨j, rfl, hat, hb2⟩
              have HAT := Lib.hid hat
              have HW2 := Lib.hid (hbd.out.trans hb2)
              have HB2 := Lib.hid (HBB.out.trans (HW2.out.mono HBB.out.size))
              have HI2 := Lib.hid (ins_call (x := (key, x)) H.out HN.out (HB2.out.alloc HB2.out.size (.cells #[.string ⟨key.toArray⟩, .float .f64 x] 46)) (heap_alloc_new w2 _) HB2.out.size hat.le)
              obtain ⟨k1, k2, k3, k4⟩ := HSW.out w2 HW2.out
              have K1 : ∀ o, (w2.alloc o).cell? ⟨r, 2, none⟩ = some (.slice va n vc) := fun o => (HSW.out _ (HW2.out.alloc HW2.out.size o)).1
              have K2 : ∀ o, (w2.alloc o).cell? ⟨w.heap.size, 0, none⟩ = some (.string ⟨key.toArray⟩) := fun o => (HSW.out _ (HW2.out.alloc HW2.out.size o)).2.1
              have K3 : ∀ o, (w2.alloc o).cell? ⟨w.heap.size, 1, none⟩ = some (.float .f64 x) := fun o => (HSW.out _ (HW2.out.alloc HW2.out.size o)).2.2.1
              clear hat hb2 HPA HPB)
           | (refine HPB.out.mono ?_; rintro e w2 ⟨j, rfl, hat, hb2⟩
              have HAT := Lib.hid hat
              have HW2 := Lib.hid (hbd2.out.trans (hb2.mono hbd2.out.size))
              have HB2 := Lib.hid (HBB.out.trans (HW2.out.mono HBB.out.size))
              have HI2 := Lib.hid (ins_call (x := (key, x)) H.out HN.out HB2.out ((hb2.block wb.heap.size (by simp)).trans hvB.out) (Nat.le_of_lt hHl2) hat.le)
              obtain ⟨k1, k2, k3, k4⟩ := HSW.out w2 HW2.out
              clear hat hb2 HPA HPB))
      | (go_at_call 106; refine HI2.out.mono ?_; rintro e w3 ⟨a3, c3, W3, rfl, hW3, hr3, hg3, hv3⟩
         have hh3 : w3.heap[r]? = _ := (hg3.block r (Nat.lt_of_lt_of_le hrl hW3.size) (fun e => HNV.out.1 e.symm)).trans ((hW3.block r hrl).trans H.out.head)
         have HR3 := Lib.hid (show _ ∧ _ ∧ _ ∧ _ from ⟨hW3, hr3, hg3, hv3⟩)
         obtain ⟨⟨m0, m1, m2, m3⟩, mf⟩ := four hh3
         have mf2 := mf 2
         clear hW3 hr3 hg3 hv3 HI2 hh3 m0 m1 m3 mf))
  all_goals
    go_upto_region 16 with fail
    exact rset_end w W3 w3 r seed d D _ l key x j was a3 n c3 H.out HN.out HK.out ht HX.out hf HAT.out HR3.out.1 HR3.out.2.1 HR3.out.2.2.1 HR3.out.2.2.2 R hR _ _ _ _ _ _ _ _ _ _ _ _ _ _ _ _ _ _ _ _ _ _ _ _ _ _ _ _ _ _ _ _ _ _ _ _ _ _ _ _ _ _ _ _ _ _ _ _ _ _ _ _ _ _ _ _ _ _ _ _ _ _ _ _ _ _ _ _ _ _ _ _ _ _ _ _ _ _ _ _ _ _ _ rfl _ rfl _ (by assumption)
end Go.Proofs.YtipehdbpbmnonaaGreat
