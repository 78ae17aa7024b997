/- A step of the law, whole: it answers true, and ranks and list go on alike. -/
import Derived.Test.YtbjfigegiffefaaRkDone2
import Derived.Deep.Cut
set_option linter.unusedVariables false
set_option linter.unusedSimpArgs false
namespace Pantry
open Go Go.RowKit
end Pantry
namespace Go.Proofs.Ytbjfigegiffefaa
open Go.RowKit Pantry

theorem AtIs.snoc {L : List Mb} {key : List UInt8} {at_ : Int} {k : Nat} {p : Mb} (h : AtIs (L.take k) key at_) (hp : L[k]? = some p) : AtIs (L.take (k + 1)) key (if p.1 = key then (k : Int) else at_) := by
  obtain ⟨hk, rfl⟩ := List.getElem?_eq_some_iff.1 hp
  have e := List.take_succ_eq_append_getElem hk
  have hl : (L.take k).length = k := by rw [List.length_take]; omega
  by_cases hq : L[k].1 = key
  · rw [if_pos hq]
    refine .inr ⟨k, L[k].2, ?_, rfl⟩
    rw [e, List.getElem?_append_right (by omega), hl, Nat.sub_self, ← hq]
    rfl
  · rw [if_neg hq]
    rcases h with ⟨h1, h2⟩ | ⟨i, y, h1, h2⟩
    · refine .inl ⟨fun q hm => ?_, h2⟩
      rw [e] at hm
      rcases List.mem_append.1 hm with hm | hm
      · exact h1 q hm
      · rw [List.mem_singleton.1 hm]; exact hq
    · exact .inr ⟨i, y, by rw [e, List.getElem?_append_left (List.getElem?_eq_some_iff.1 h1).1]; exact h1, h2⟩
set_option maxHeartbeats 8000000 in
set_option maxRecDepth 100000 in
theorem done_any (w : World) (r : Nat) (S : Nat → Prop) (l L : List Mb) (v : Value) (o : Stp) (hr : Rk w r S l) (hp : L.Perm l) (hv : w.ownsRow 0 41 2 v L.length (rkCells L)) (hvS : ∀ k, v.ownBlock = some k → ¬ S k) (hok : o.Ok) :
    Calls Try.prog 22 #[.pointer (some ⟨r, 0, none⟩), v, .agg o.cells.toArray] w (DonePost r S v l o w) := by
  obtain ⟨a, c, rfl, hrd⟩ := ownsRow_rd hv (rkCells_one L)
  have hf : L.length ≤ 1048576 := by rw [hp.length_eq]; exact hr.good.few
  obtain ⟨n, hn⟩ : ∃ n, L.length = n := ⟨_, rfl⟩
  rw [hn] at hv hvS hf ⊢
  obtain ⟨wb, hwb⟩ : ∃ wb, w.alloc (.cells o.cells.toArray 52) = wb := ⟨_, rfl⟩
  have hbb : Below w.heap.size w wb := by rw [← hwb]; exact (Below.refl _ w).alloc (Nat.le_refl _) _
  have hbx : wb.heap[w.heap.size]? = some (.cells o.cells.toArray 52) := by rw [← hwb]; exact heap_alloc_new w _
  have hsz : w.heap.size < wb.heap.size := block_lt hbx
  have HR := Lib.hid hr
  have HP := Lib.hid hp
  have HV := Lib.hid hv
  have HVS := Lib.hid hvS
  have HN := Lib.hid hn
  have HRD := Lib.hid hrd
  have HBB := Lib.hid hbb
  have HBX := Lib.hid hbx
  have HOK := Lib.hid hok
  have HTAIL : Hid (∀ W at_, Below w.heap.size w W → W.heap[w.heap.size]? = some (.cells o.cells.toArray 52) → AtIs L o.s at_ → TailIn W r S l L a n c w.heap.size o at_ ∧ Hid (∀ e w', DonePost r S (.slice a n c) l o W e w' → DonePost r S (.slice a n c) l o w e w')) := Lib.hid fun W at_ hW hbx hat => by
    have hc : Chg (fun _ => False) w W := Chg.of_below hW
    exact ⟨⟨HR.out.below hW, HP.out, Chg.ownsRow HV.out hc (fun _ _ e => e), HN.out, HVS.out, hbx, fun hs => by have := HR.out.lt _ hs; omega, HOK.out, hat⟩, Lib.hid fun e w' ⟨v', h1, h2⟩ => ⟨v', h1, h2.before hW⟩⟩
  obtain ⟨who, act, oi, oj, s, x, y, ox, oy⟩ := o
  show Calls Try.prog 22 #[.pointer (some ⟨r, 0, none⟩), .slice a n c, .agg #[.int .i64 who, .int .i64 act, .int .i64 oi, .int .i64 oj, .string ⟨s.toArray⟩, .int .u64 x, .int .u64 y, .bool ox, .bool oy]] w (DonePost r S (.slice a n c) l ⟨who, act, oi, oj, s, x, y, ox, oy⟩ w)
  replace hwb : w.alloc (.cells #[.int .i64 who, .int .i64 act, .int .i64 oi, .int .i64 oj, .string ⟨s.toArray⟩, .int .u64 x, .int .u64 y, .bool ox, .bool oy] 52) = wb := hwb
  clear hr hp hv hvS hn hrd hbb hbx hok
  go_enter Try.func22, Try.ntmps22
  go_wp2_with fail
  go_loopw [8, 17] (fun t i wr => ∃ (k : Nat) (at_ : Int), k ≤ n ∧ i = .int .i64 k ∧ t = .int .i64 at_ ∧ Hid (AtIs (L.take k) s at_) ∧ Hid (Below wb.heap.size wb wr)) (fun _ i _ => n - (intOf i).toNat)
  case atStart => exact ⟨0, -1, by omega, rfl, rfl, Lib.hid (.inl ⟨fun p hp => by simp at hp, rfl⟩), Lib.hid (Below.refl _ _)⟩
  case round =>
    clear hwb
    obtain ⟨k, at_, hk, rfl, rfl, HAT, HB⟩ := hrel
    have hbw : wr.heap[w.heap.size]? = _ := (HB.out.block _ hsz).trans HBX.out
    have HBW := Lib.hid hbw
    by_cases hlt : k < n
    · obtain ⟨p, hm⟩ : ∃ p, L[k]? = some p := ⟨_, List.getElem?_eq_getElem (by rw [HN.out]; exact hlt)⟩
      obtain ⟨y', rfl, e2, e3⟩ := mb_cells (HRD.out.below (HBB.out.trans (HB.out.mono HBB.out.size))) hm
      have HM := Lib.hid hm
      obtain ⟨ps, px⟩ := p
      obtain ⟨w5, hw5⟩ : ∃ w5, wr.alloc (.cells #[.string ⟨ps.toArray⟩, .float .f64 px] 41) = w5 := ⟨_, rfl⟩
      have hb5 : Below wr.heap.size wr w5 := by rw [← hw5]; exact (Below.refl _ wr).alloc (Nat.le_refl _) _
      have hx5 : w5.heap[wr.heap.size]? = some (.cells #[.string ⟨ps.toArray⟩, .float .f64 px] 41) := by rw [← hw5]; exact heap_alloc_new wr _
      obtain ⟨⟨f0, f1⟩, -⟩ := two hx5
      have f4 : w5.cell? ⟨w.heap.size, 4, none⟩ = some (.string ⟨s.toArray⟩) := cell_of_row w5 _ 4 _ _ _ ((hb5.block _ (block_lt hbw)).trans hbw)
      have HB5 := Lib.hid (HB.out.trans (hb5.mono HB.out.size))
      have HW5 := Lib.hid hw5
      clear hm hb5 hx5 hw5 hbw
      by_cases hq : ps = s
      · have hqb : (ps == s) = true := by simpa using hq
        have HA2 : Hid (AtIs (L.take (k + 1)) s (k : Int)) := Lib.hid (by have := HAT.out.snoc HM.out; rwa [if_pos hq] at this)
        clear hq
        go_upto_region 5 with fail
        rw [HW5.out]
        go_wp2_with fail
        go_roundw
        case rel => exact ⟨k + 1, k, by omega, by go_num, rfl, HA2, HB5⟩
        case measure => simp [intOf]; omega
      · have hqb : (ps == s) = false := by simpa using hq
        have HA2 : Hid (AtIs (L.take (k + 1)) s at_) := Lib.hid (by have := HAT.out.snoc HM.out; rwa [if_neg hq] at this)
        clear hq
        go_upto_region 5 with fail
        rw [HW5.out]
        go_wp2_with fail
        go_roundw
        case rel => exact ⟨k + 1, at_, by omega, by go_num, rfl, HA2, HB5⟩
        case measure => simp [intOf]; omega
    · obtain rfl : k = n := by omega
      obtain ⟨ht, hpost⟩ := HTAIL.out wr at_ (HBB.out.trans (HB.out.mono HBB.out.size)) hbw (by have := HAT.out; rwa [List.take_of_length_le (by rw [HN.out]; omega)] at this)
      have HT := Lib.hid ht
      clear ht hbw HAT
      go_upto_region 8 with fail
      exact done_tail wr r S l L a k c w.heap.size _ at_ HT.out _ _ _ _ _ _ _ _ _ _ _ _ _ _ _ _ _ _ _ _ _ _ _ _ _ _ _ _ _ _ _ _ _ _ _ _ _ _ _ _ _ _ _ _ _ _ _ _ _ _ _ _ _ _ _ _ _ _ _ _ _ _ _ _ _ _ _ _ _ _ _ _ _ _ _ _ _ _ _ _ _ _ _ _ _ _ _ _ _ _ _ _ _ _ _ _ _ _ _ _ _ _ _ _ _ _ _ _ _ _ _ _ _ _ _ _ _ _ _ _ _ _ _ _ _ _ _ _ _ _ _ _ _ _ _ _ rfl _ rfl _ hpost _ (by assumption)
end Go.Proofs.Ytbjfigegiffefaa
