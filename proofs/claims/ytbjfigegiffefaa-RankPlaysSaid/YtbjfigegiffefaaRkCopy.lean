/- Copy of ranks. -/
import Derived.Test.YtbjfigegiffefaaRkClone
set_option linter.unusedVariables false
set_option linter.unusedSimpArgs false
namespace Go.Proofs.Ytbjfigegiffefaa
open Go.RowKit Pantry

/-- The copy so far: its dict holds the first k members. -/
structure RkPart (B : Nat) (w : World) (r2 seed d2 : Nat) (D2 : Dc) (v2 : Value) (l : List Mb) (k : Nat) : Prop where
  mid : RkMid w r2 seed d2 D2 v2 l (rkCost l : Nat)
  kv : D2.kv.Perm ((l.take k).map mbKv)
  foot : ∀ j, RFoot r2 d2 D2 v2 j → B ≤ j
theorem RkPart.alloc {B : Nat} {w : World} {r2 seed d2 : Nat} {D2 : Dc} {v2 : Value} {l : List Mb} {k : Nat} (h : RkPart B w r2 seed d2 D2 v2 l k) {w' : World} (hb : Below w.heap.size w w') : RkPart B w' r2 seed d2 D2 v2 l k := by
  have hc : Chg (fun _ => False) w w' := Chg.of_below hb
  exact ⟨⟨hc.heap h.mid.head (fun e => e), h.mid.dict.chg hc fun _ _ e => e, h.mid.wf, Chg.ownsRow h.mid.row hc fun _ _ e => e⟩, h.kv, h.foot⟩
theorem RkPart.put {B : Nat} {w w' : World} {r2 seed d2 : Nat} {D2 : Dc} {v2 : Value} {l : List Mb} {k : Nat} {p : Mb} (h : RkPart B w r2 seed d2 D2 v2 l k) (hp : l[k]? = some p) (hB : B ≤ w.heap.size) (ho : DOp d2 D2 (mbKv p :: D2.kv) w w') :
    (∃ D', RkPart B w' r2 seed d2 D' v2 l (k + 1)) ∧ Below B w w' := by
  obtain ⟨⟨D', h1, h2, h3⟩, hc⟩ := h.mid.dict_op ho
  refine ⟨⟨D', h1, ?_, ?_⟩, hc.below hB fun j hj => h.foot j (.inr (.inl hj))⟩
  · obtain ⟨hk, rfl⟩ := List.getElem?_eq_some_iff.1 hp
    rw [List.take_succ_eq_append_getElem hk, List.map_append]
    refine h2.trans ((h.kv.cons _).trans ?_)
    exact List.perm_append_comm (l₁ := [mbKv l[k]])
  · rintro j (rfl | hj | hj)
    · exact h.foot _ (.inl rfl)
    · rcases h3 j hj with hh | hh
      · exact h.foot j (.inr (.inl hh))
      · omega
    · exact h.foot j (.inr (.inr hj))
theorem RkPart.done {B : Nat} {w : World} {r2 seed d2 : Nat} {D2 : Dc} {v2 : Value} {l : List Mb} (h : RkPart B w r2 seed d2 D2 v2 l l.length) (hg : RkGood l) : RkAt w r2 seed d2 D2 v2 l :=
  ⟨h.mid.head, h.mid.dict, h.mid.wf, h.mid.row, by have := h.kv; rwa [List.take_length] at this, hg⟩
/-- The next member is not there yet. -/
theorem RkPart.fresh {B : Nat} {w : World} {r2 seed d2 : Nat} {D2 : Dc} {v2 : Value} {l : List Mb} {k : Nat} {p : Mb} (h : RkPart B w r2 seed d2 D2 v2 l k) (hn : (l.map (·.1)).Nodup) (hp : l[k]? = some p) : ∀ e ∈ D2.ents, e.key ≠ p.1 := by
  intro e he hk
  obtain ⟨x, hx, -⟩ := mem_kv h.kv he
  obtain ⟨i, hi, hq⟩ := List.mem_iff_getElem.1 hx
  rw [List.getElem_take] at hq
  rw [List.length_take] at hi
  obtain ⟨hk2, rfl⟩ := List.getElem?_eq_some_iff.1 hp
  have hp := List.pairwise_iff_getElem.1 hn i k (by simp; omega) (by simp; omega) (by omega)
  apply hp
  rw [List.getElem_map, List.getElem_map, hq]
  exact hk
def CopyPost (l : List Mb) (seed : Nat) (w : World) (e : Ending) (w' : World) : Prop :=
  ∃ r2 d2 D2 v2, e = .returned (.pointer (some ⟨r2, 0, none⟩)) ∧ RkAt w' r2 seed d2 D2 v2 l ∧ Below w.heap.size w w' ∧ ∀ k, RFoot r2 d2 D2 v2 k → w.heap.size ≤ k
set_option maxHeartbeats 8000000 in
set_option maxRecDepth 100000 in
theorem copy_tail (w W : World) (r seed d r2 d2 : Nat) (D D2 : Dc) (v v2 : Value) (l : List Mb) (h : RkAt w r seed d D v l) (hW : Below w.heap.size w W) (h2 : RkPart w.heap.size W r2 seed d2 D2 v2 l 0) (u1 u2 u4 u5 u6 u7 u8 u9 u10 u11 u12 u13 u14 u15 u16 u17 u18 u19 u20 u21 u22 u23 u24 u25 u26 u27 u28 u29 u30 u31 u32 u33 u34 u35 u36 u37 u38 u39 u40 u41 u42 u43 u44 u45 u46 u47 : Value) :
    ∀ c, cskip 4 (cbody Try.f21) = c → Code.wp Try.prog c (bodyPost Try.prog Try.f21 (CopyPost l seed w)) { tmps := #[.pointer (some ⟨r, 0, none⟩), u1, u2, .pointer (some ⟨r2, 0, none⟩), u4, u5, u6, u7, u8, u9, u10, u11, u12, u13, u14, u15, u16, u17, u18, u19, u20, u21, u22, u23, u24, u25, u26, u27, u28, u29, u30, u31, u32, u33, u34, u35, u36, u37, u38, u39, u40, u41, u42, u43, u44, u45, u46, u47], defers := [] } W := by
  have H := Lib.hid h
  obtain ⟨a, c, rfl, hrd⟩ := h.slice
  have HB := Lib.hid hW
  have HP2 := Lib.hid h2
  have HA := Lib.hid (h.below hW)
  obtain ⟨⟨-, -, q2, -⟩, -⟩ := four HA.out.head
  have hf : l.length ≤ 1048576 := h.good.few
  obtain ⟨n, hn⟩ : ∃ n, l.length = n := ⟨_, rfl⟩
  rw [hn] at q2 hf
  have HN := Lib.hid hn
  have HRD := Lib.hid hrd
  clear h hW h2 hrd hn
  intro cc hcc
  conv at hcc => lhs; whnf
  subst hcc
  dsimp only
  go_wp2_with fail
  go_loopw [33] (fun i wr => ∃ k : Nat, k ≤ n ∧ i = .int .i64 k ∧ Hid (Below w.heap.size w wr) ∧ Hid (∃ D2, RkPart w.heap.size wr r2 seed d2 D2 v2 l k)) (fun i _ => n - (intOf i).toNat)
  case atStart => exact ⟨0, by omega, rfl, HB, Lib.hid ⟨D2, HP2.out⟩⟩
  case round =>
    obtain ⟨k, hk, rfl, HBW, HPW⟩ := hrel
    by_cases hlt : k < n
    · obtain ⟨D3, hpart⟩ := HPW.out
      have HPA := Lib.hid hpart
      have HRW := Lib.hid (HRD.out.below HBW.out)
      obtain ⟨m, hm⟩ : ∃ m, l[k]? = some m := ⟨_, List.getElem?_eq_getElem (by have := HN.out; omega)⟩
      obtain ⟨y, hy, hcl⟩ := rk_cells HRW.out hm
      subst hy
      have HM := Lib.hid hm
      have e0 := hcl 0 _ rfl
      have e1 := hcl 1 _ rfl
      rw [← Addr.add_add] at e0 e1
      have e2 : wr.cell? (y.add (k * 2)) = some (.string ⟨m.1.toArray⟩) := e0
      have e3 : wr.cell? { block := (y.add (k * 2)).block, off := (y.add (k * 2)).off + 1 } = some (.float .f64 m.2) := e1
      obtain ⟨w5, hw5⟩ : ∃ w5, wr.alloc (.cells #[.string ⟨m.1.toArray⟩, .float .f64 m.2] 34) = w5 := ⟨_, rfl⟩
      have hb5 : Below wr.heap.size wr w5 := by rw [← hw5]; exact (Below.refl _ wr).alloc (Nat.le_refl _) _
      have hx5 : w5.heap[wr.heap.size]? = some (.cells #[.string ⟨m.1.toArray⟩, .float .f64 m.2] 34) := by rw [← hw5]; exact heap_alloc_new wr _
      have HB5 := Lib.hid hb5
      have HP5 := Lib.hid (HPA.out.alloc (w' := w5.drew) hb5.drew)
      obtain ⟨⟨-, f1, -, -⟩, -⟩ := four HP5.out.mid.head
      obtain ⟨⟨f2, f3⟩, -⟩ := two (w := w5.drew) hx5
      have hd3 : D3.ents.length ≤ 268435456 := by
        have := HPA.out.kv.length_eq
        simp [Dc.kv] at this
        omega
      have HSET := Lib.hid ((set_any w5.drew d2 D3 m.1 m.2 HP5.out.mid.dict HP5.out.mid.wf (by have := H.out.good.text m (List.mem_of_getElem? hm); omega) hd3).mono (R' := fun e W' => e = .returned (.bool true) ∧ DOp d2 D3 (mbKv m :: D3.kv) w5.drew W') fun e W' hp => by
        rcases hp with ⟨⟨e0, he0, hk0⟩, -⟩ | ⟨-, h1, h2⟩
        · exact absurd hk0 (HPA.out.fresh H.out.keys HM.out e0 he0)
        · exact ⟨h1, h2⟩)
      have HW5 := Lib.hid hw5
      clear hm hcl e0 e1 hb5 hx5 hpart hd3 hw5
      go_wp2_with fail
      rw [HW5.out]
      go_still_tail 8, (by kernel_rfl)
      go_wp2_with (go_at_call 40; refine HSET.out.mono ?_; rintro e w6 ⟨rfl, ho⟩
                   have HO := Lib.hid (HP5.out.put HM.out (by have := HBW.out.size; have := HB5.out.size; show w.heap.size ≤ w5.heap.size; omega) ho)
                   clear ho HSET)
      go_roundw
      case rel => exact ⟨k + 1, by omega, by go_num, Lib.hid (HBW.out.trans ((HB5.out.drew.mono HBW.out.size).trans HO.out.2)), Lib.hid HO.out.1⟩
      case measure => simp [intOf]; omega
    · obtain rfl : k = n := by omega
      obtain ⟨D3, hpart⟩ := HPW.out
      have HEND : Hid (CopyPost l seed w (.returned (.pointer (some ⟨r2, 0, none⟩))) wr) := Lib.hid ⟨r2, d2, D3, v2, rfl, RkPart.done (by rw [HN.out]; exact hpart) H.out.good, HBW.out, hpart.foot⟩
      clear hpart
      go_wp2_with fail
      go_ret
      exact HEND.out
set_option maxHeartbeats 8000000 in
set_option maxRecDepth 100000 in
theorem rkCopy_any (w : World) (r seed d : Nat) (D : Dc) (v : Value) (l : List Mb) (h : RkAt w r seed d D v l) (hs : seed < 18446744073709551616) : Calls Try.prog 21 #[.pointer (some ⟨r, 0, none⟩)] w (CopyPost l seed w) := by
  have H := Lib.hid h
  have HN1 := Lib.hid (rkNew_any w seed hs)
  obtain ⟨⟨h0, h1, h2, h3⟩, -⟩ := four h.head
  obtain ⟨a, c, rfl, hrd⟩ := h.slice
  have hf : l.length ≤ 1048576 := h.good.few
  obtain ⟨n, hn⟩ : ∃ n, l.length = n := ⟨_, rfl⟩
  obtain ⟨cost, hcost⟩ : ∃ n, rkCost l = n := ⟨_, rfl⟩
  rw [hn] at h2 hf
  rw [hcost] at h3
  have HN := Lib.hid hn
  have HCO := Lib.hid hcost
  have HRD := Lib.hid hrd
  have hrl := block_lt h.head
  clear h h1 hrd hn hcost hs
  go_enter Try.func21, Try.ntmps21
  go_wp2_with (go_at_call 18; refine HN1.out.mono ?_; rintro e w1 ⟨r2, d2, D2, rfl, hr2, hb, hft⟩
               have HR2 := Lib.hid hr2
               have HB := Lib.hid hb
               have HFT := Lib.hid hft
               clear hr2 hb hft)
  clear HN1 h0 h2 h3
  have HR1 := Lib.hid (H.out.below HB.out)
  have HCL := Lib.hid (clone_any w1.drew (.slice a l.length c) l.length (rkCells l) HR1.out.row (rkCells_one l) (by have := HN.out; omega))
  rw [HN.out] at HCL
  have hB2 : w.heap.size ≤ r2 := HFT.out r2 (.inl rfl)
  have hr2l := block_lt HR2.out.head
  have hne : r2 ≠ r := by omega
  have HS : Hid (∀ W : World, Below w1.heap.size w1 W → (W.cell? ⟨r, 2, none⟩ = some (.slice a n c) ∧ W.cell? ⟨r, 3, none⟩ = some (.int .i64 cost)) ∧ W.heap[r2]? = some (.cells #[.int .u64 seed, .pointer (some ⟨d2, 0, none⟩), .slice none 0 0, .int .i64 0] 78)) := Lib.hid (by
    intro W hW
    have e1 : W.heap[r]? = _ := (hW.block r (by have := HB.out.size; omega)).trans HR1.out.head
    obtain ⟨⟨-, -, q2, q3⟩, -⟩ := four e1
    rw [HN.out] at q2
    rw [HCO.out] at q3
    exact ⟨⟨q2, q3⟩, (hW.block r2 hr2l).trans HR2.out.head⟩)
  have hb0 : Below w1.heap.size w1 w1.drew := (Below.refl _ _).drew
  obtain ⟨⟨g2, g3⟩, gh⟩ := HS.out w1.drew hb0
  have HPUT : Hid (∀ w2 a2 c2 W, Below w1.heap.size w1 w2 → w2.ownsRow w1.heap.size 34 2 (.slice a2 n c2) n (rkCells l) → (∀ k, k ≠ r2 → W.heap[k]? = w2.heap[k]?) → W.heap[r2]? = some (.cells #[.int .u64 seed, .pointer (some ⟨d2, 0, none⟩), .slice a2 n c2, .int .i64 cost] 78) →
      (W.os = w2.os ∧ W.tape = w2.tape ∧ W.output = w2.output ∧ W.heap.size = w2.heap.size) →
      Below w.heap.size w W ∧ RkPart w.heap.size W r2 seed d2 D2 (.slice a2 n c2) l 0) := Lib.hid (by
    intro w2 a2 c2 W hb2 hrow hk hh hs
    have hR := HR2.out.below hb2
    have h21 := HB.out.trans (hb2.mono HB.out.size)
    have hnb : ∀ k, (Value.slice a2 n c2).ownBlock = some k → k ≠ r2 := fun k hk e => by
      have := (hrow.lt k hk).1
      omega
    refine ⟨⟨hs.1.trans h21.os, hs.2.1.trans h21.tape, hs.2.2.1.trans h21.output, by rw [hs.2.2.2]; exact h21.size, fun k hk2 => (hk k (by omega)).trans (h21.block k hk2)⟩, ⟨by rw [HCO.out]; exact hh, hR.dict.keep fun k hf => hk k fun e => by subst e; exact hR.dict.not_foot hR.head (by decide) hf, hR.wf, ?_⟩, ?_, ?_⟩
    · rw [HN.out]
      refine ⟨hrow.1, ?_⟩
      rcases hrow.2 with hh | ⟨g, cap, cur, hv, q1, q2, q3⟩
      · exact .inl hh
      · exact .inr ⟨g, cap, cur, hv, by omega, (hk g (hnb g (by rw [hv]; rfl))).trans q2, q3⟩
    · exact hR.kv
    · rintro j (rfl | hj | hj)
      · exact hB2
      · exact HFT.out j (.inr (.inl hj))
      · exact Nat.le_trans HB.out.size (hrow.lt j hj).1)
  go_wp2_with fail
  go_region_with (go_at_call 41; refine HCL.out.mono ?_; rintro e w2 ⟨v2, rfl, hrow, hb2⟩
                  obtain ⟨a2, c2, rfl, -⟩ := ownsRow_rd hrow (rkCells_one l)
                  have HB2 : Hid (Below w1.heap.size w1 w2) := Lib.hid (hb0.trans hb2)
                  have HROW := Lib.hid hrow
                  obtain ⟨⟨g2', g3'⟩, gh'⟩ := HS.out w2 HB2.out
                  have HGH := Lib.hid gh'
                  obtain ⟨⟨-, -, k2, k3⟩, kf⟩ := four gh'
                  have kf2 := kf 2
                  have kf3 := kf 3
                  clear kf gh' HCL hrow hb2)
  all_goals
    rename_i hK
    refine hK _ _ ?_
    refine copy_tail w _ r seed d r2 d2 D D2 _ (.slice a2 n c2) l H.out ?_ ?_ _ _ _ _ _ _ _ _ _ _ _ _ _ _ _ _ _ _ _ _ _ _ _ _ _ _ _ _ _ _ _ _ _ _ _ _ _ _ _ _ _ _ _ _ _ _ _ rfl
    · exact (HPUT.out w2 a2 c2 _ HB2.out HROW.out (fun k hk => (heapSetOther (p := ⟨r2, _, none⟩) hk).trans (heapSetOther (p := ⟨r2, _, none⟩) hk)) (heapSetHere (heapSetHere HGH.out _) _) ⟨rfl, rfl, rfl, by simp⟩).1
    · exact (HPUT.out w2 a2 c2 _ HB2.out HROW.out (fun k hk => (heapSetOther (p := ⟨r2, _, none⟩) hk).trans (heapSetOther (p := ⟨r2, _, none⟩) hk)) (heapSetHere (heapSetHere HGH.out _) _) ⟨rfl, rfl, rfl, by simp⟩).2
end Go.Proofs.Ytbjfigegiffefaa
