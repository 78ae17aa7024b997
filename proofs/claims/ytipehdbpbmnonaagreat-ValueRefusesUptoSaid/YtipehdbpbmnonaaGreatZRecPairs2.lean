/- Pairs of a record: the walk. -/
import Derived.Test.YtipehdbpbmnonaaGreatZRecPairs
import Derived.Test.YtipehdbpbmnonaaGreatZIter
set_option linter.unusedVariables false
set_option linter.unusedSimpArgs false
namespace Pantry
open Go Go.RowKit
def fdOf (p : List UInt8 × Value) : Fld := (p.1, match p.2 with | .string s => s.data.toList | _ => [])
theorem fdOf_kv (p : Fld) : fdOf (fdKv p) = p := rfl
theorem kv_list {D : Dc} {l : List Fld} (h : D.kv.Perm (l.map fdKv)) : ∃ kvl : List Fld, D.kv = kvl.map fdKv ∧ kvl.Perm l := by
  refine ⟨D.kv.map fdOf, ?_, ?_⟩
  · rw [List.map_map]
    conv => lhs; rw [← List.map_id D.kv]
    refine List.map_congr_left fun p hp => ?_
    obtain ⟨q, -, rfl⟩ := List.mem_map.1 (h.subset hp)
    rfl
  · have := h.map fdOf
    rw [List.map_map] at this
    have e : (fdOf ∘ fdKv) = id := funext fun p => rfl
    rwa [e, List.map_id] at this
theorem fdCells_snoc (l : List Fld) (x : Fld) : fdCells (l ++ [x]) = fdCells l ++ [.string ⟨x.1.toArray⟩, .string ⟨x.2.toArray⟩] := by simp [fdCells, fdC]
end Pantry
namespace Go.Proofs.YtipehdbpbmnonaaGreat.DStr
open Go.RowKit Pantry

attribute [local go_sem] Oper.semAt_some
attribute [-go_sem] Builtin.append_
def PairsPost (l : List Fld) (w : World) (e : Ending) (w' : World) : Prop := ∃ v, e = .returned v ∧ w'.ownsRow w.heap.size 43 2 v l.length (fdCells (sortK l)) ∧ Below w.heap.size w w'
set_option maxRecDepth 100000 in
set_option maxHeartbeats 4000000 in
theorem rPairs_any (w : World) (r seed d : Nat) (D : Dc) (l : List Fld) (h : RecAt w r seed d D l) : Calls Tryz.prog 253 #[.pointer (some ⟨r, 0, none⟩)] w (PairsPost l w) := by
  refine (callsIn_wide (n := 6)).1 ?_
  have HL := Lib.hid (rLen_any w r seed d D l h)
  have HE := fun W => Lib.hid (each_any W (some ⟨d, 0, none⟩))
  obtain ⟨⟨-, h1, -⟩, -⟩ := three h.head
  obtain ⟨kvl, hkv, hkp⟩ := kv_list h.kv
  have hfew := h.good.few
  obtain ⟨n, hn⟩ : ∃ n, l.length = n := ⟨_, rfl⟩
  have hkn : kvl.length = n := hkp.length_eq.trans hn
  rw [hn] at HL hfew
  have H := Lib.hid h
  have HKV := Lib.hid hkv
  have HKP := Lib.hid hkp
  have HN := Lib.hid hn
  have HKN := Lib.hid hkn
  obtain ⟨i0, hi, hz0, hz1, hz2⟩ := info_parts pairI.info
  clear h hkv hkp hn hkn
  refine callsIn_of_wp_marks Tryz.func253 rfl trivial ?_ rfl
  simp only [Tryz.ntmps253, List.size_toArray, List.length_cons, List.length_nil, Nat.reduceAdd, Nat.reduceSub, Array.replicate_succ, Array.replicate_zero, List.push_toArray, List.append_toArray, List.nil_append, List.cons_append]
  gi_wp2_with fail
  refine ⟨trivial, (callsIn_wide.2 HL.out).mono ?_⟩
  rintro e w' ⟨rfl, rfl⟩
  gi_wp2_with (gi_at_make; refine wpListIn_make_own w rfl _ _ 23 rfl w.heap.size 43 i0 (.agg #[.string ⟨#[]⟩, .string ⟨#[]⟩]) 2 Tryz.underlying23 hi hz0 hz1 .i64 .i64 n n rfl rfl rfl (by rw [hz2]; omega) (by unfold maxLen; omega) (Nat.le_refl _) ?_; intro w1 hown hgrow
               have HOWN := Lib.hid hown
               have HGROW := Lib.hid hgrow
               have h1' : (w1.alloc (.cells #[.slice (some ⟨w.heap.size, 0, none⟩) 0 n] 23)).cell? ⟨r, 1, none⟩ = some (.pointer (some ⟨d, 0, none⟩)) := by
                 have hb1 : Below w.heap.size w w1 := grownBy_below (Below.refl _ _) hgrow (fun k e => by cases e) (Nat.le_refl _)
                 exact ((hb1.alloc hb1.size _).cell (p := ⟨r, 1, none⟩) (block_lt H.out.head)).trans h1
               clear hown hgrow)
  refine ⟨trivial, (callsIn_wide.2 (HE _).out).mono ?_⟩
  rintro e w' ⟨rfl, rfl⟩
  gi_wp2_with fail
  obtain ⟨W0, hW0⟩ : ∃ W0, ((w1.alloc (.cells #[.slice (some ⟨w.heap.size, 0, none⟩) 0 n] 23)).alloc (.cells #[.pointer (some ⟨d, 0, none⟩)] 153)) = W0 := ⟨_, rfl⟩
  have hb1 : Below w.heap.size w w1 := grownBy_below (Below.refl _ _) HGROW.out (fun k e => by cases e) (Nat.le_refl _)
  have hwl : w.heap.size < w1.heap.size := (HOWN.out.lt w.heap.size rfl).2
  have hB0 : Below w.heap.size w W0 := by rw [← hW0]; exact (hb1.alloc hb1.size _).alloc (by simp; omega) _
  have hs0 : W0.heap.size = w1.heap.size + 1 + 1 := by rw [← hW0]; simp
  have hb0 : Boxed W0 w1.heap.size 23 (.slice (some ⟨w.heap.size, 0, none⟩) 0 n) := by rw [← hW0]; exact (Boxed.new w1 _ _).alloc _
  have hbd : Boxed W0 (w1.heap.size + 1) 153 (.pointer (some ⟨d, 0, none⟩)) := by
    have := Boxed.new (w1.alloc (.cells #[.slice (some ⟨w.heap.size, 0, none⟩) 0 n] 23)) 153 (.pointer (some ⟨d, 0, none⟩))
    rw [World.size_alloc] at this
    rw [← hW0]; exact this
  have hrow0 : W0.ownsRow w.heap.size 43 2 (.slice (some ⟨w.heap.size, 0, none⟩) 0 n) 0 [] := by rw [← hW0]; exact (HOWN.out.alloc _).alloc _
  have hA0 : RecAt W0 r seed d D l := H.out.keep (S := fun _ => False) (Chg.of_below hB0) fun _ _ e => e
  have hown0 : ownIn w1.heap.size W0 = some w.heap.size := ownIn_boxed hb0
  rw [hW0]
  refine wpIn_rangeV rfl (by omega) (gf := 258) (lb := #[.pointer (some ⟨w1.heap.size + 1, 0, none⟩)]) rfl trivial (enters_of Tryz.func258 (by kernel_rfl) rfl)
    (each_seq 5 (by omega) (w1.heap.size + 1) d D W0 hbd.cell hA0.dict hA0.wf kvl HKV.out (KpL (W0.heap.size + 2) w1.heap.size) (HdL (W0.heap.size + 2) w1.heap.size)
      (fun W hW hsz => keeperL hsz (by omega) (by rw [ownIn_cell (hW.cell (p := ⟨w1.heap.size, 0, none⟩) hb0.lt), hown0]; intro k hk; cases hk; omega)))
    (fun h k => h.trans k) (fun W1 o o' _ _ _ => KpL.putObj W1 o' (by omega) (by omega)) (Below.refl _ _) (fun _ => rfl)
    (fun pre A => (∃ v, Boxed A w1.heap.size 23 v ∧ A.ownsRow w.heap.size 43 2 v pre.length (fdCells pre) ∧ True) ∧ Below w.heap.size W0 A)
    (fun _ _ _ => False)
    ((Own.from (holdsRow_own _ _ _ _ _ (fun pre : List Fld => pre.length) (fun pre => fdCells pre) (fun _ _ => True)) _).and (ownFrom_below (by omega) (by omega)))
    (fun _ _ _ _ _ h _ _ => h)
    ⟨⟨_, hb0, hrow0, trivial⟩, Below.refl _ _⟩
    (fun x => { tmps := #[.pointer (some ⟨r, 0, none⟩), undef, .slice none 0 0, .pointer (some ⟨w1.heap.size, 0, none⟩), .string ⟨x.1.toArray⟩, .string ⟨x.2.toArray⟩, .pointer (some ⟨r, 0, none⟩), .bool false, .pointer (some ⟨r, 0, none⟩), .int .i64 n, .slice (some ⟨w.heap.size, 0, none⟩) 0 n, .pointer (some ⟨r, 0, none⟩), .pointer (some ⟨r, 0, none⟩), .pointer (some ⟨r, 1, none⟩), .pointer (some ⟨d, 0, none⟩), .func (.func 258) #[] #[.pointer (some ⟨w1.heap.size + 1, 0, none⟩)], .string ⟨x.1.toArray⟩, .string ⟨x.2.toArray⟩, undef, undef, undef, undef, undef, undef, undef, undef, undef], defers := [] }) ?assign ?body ?done ?stop
  case assign =>
    intro l x W K hK
    simp only [encKV]
    gi_wp2
    exact hK
  case body =>
    rintro l2 pre x A ⟨⟨v, hv, hrow, -⟩, hB⟩ hlt
    have hpl : pre.length + 1 ≤ n := by
      have h1 := hlt.length_le
      rw [HKN.out] at h1
      simpa using h1
    obtain ⟨g, cap, w2, hr1, hk1, hf1, hadd⟩ := boxRow_add pairI 23 hv hrow (by decide) #[.string ⟨x.1.toArray⟩, .string ⟨x.2.toArray⟩] (.inl rfl) rfl (by intro u hu; simp at hu; rcases hu with rfl | rfl <;> rfl) (by omega) (Nat.le_trans (by omega) hB.size)
    have HADD := Lib.hid hadd
    have HV := Lib.hid hv
    have HROW := Lib.hid hrow
    have HB := Lib.hid hB
    have hbv := hv.cell
    clear hadd hv hrow hB hlt
    gi_wp2_with fail
    refine ⟨(HADD.out.others HV.out HROW.out).from _, HADD.out.kp HV.out (by omega), ⟨_, HADD.out.box, ?_⟩, HB.out.trans (HADD.out.below HROW.out (by omega) (Nat.le_trans (by omega) HB.out.size))⟩
    rw [fdCells_snoc, List.length_append, List.length_singleton]
    exact HADD.out.row
  case done =>
    rintro E1 A hE ⟨⟨v, hv, hrow, -⟩, hB⟩ hKE
    rw [HKN.out] at hrow
    have hkk : (kvl.map (·.1)).Nodup := (HKP.out.map _).nodup_iff.2 H.out.good.keys
    have HS := Lib.hid (sortPairs_any A w.heap.size n v kvl HKN.out hfew hrow hkk)
    have hbv := hv.cell
    have hsk : sortK kvl = sortK l := sortK_congr HKP.out H.out.good.keys
    have HFIN : Hid (∀ A2, A2.ownsRow w.heap.size 43 2 v n (fdCells (sortK kvl)) → A.grownBy A2 v.ownBlock → Boxed A2 w1.heap.size 23 v ∧ A2.heap[E1]? = some (.deferred (some [])) ∧ PairsPost l w (.returned v) (A2.putObj E1 (.deferred none))) := Lib.hid (by
      intro A2 hr2 hg2
      have hKE2 : A2.heap[E1]? = some (.deferred (some [])) := (hg2.block E1 (Array.getElem?_eq_some_iff.1 hKE).1 (fun e => by
        obtain ⟨c, hc, -⟩ := ownsRow_cells hrow e.symm
        rw [hKE] at hc; cases hc)).trans hKE
      refine ⟨hv.kept hg2 (hv.not_row (by decide) hrow), hKE2, v, rfl, ?_, ?_⟩
      · rw [HN.out, ← hsk]
        exact ownsRow_putObj hr2 _ hKE2 rfl
      · have h3 : Below w.heap.size A A2 := (Below.refl _ _).grown hg2 (Nat.le_trans (by omega) hB.size) fun k hk => by
          exact (ownsRow_cells hrow hk).choose_spec.2
        exact ((hB0.trans hB).trans h3).trans (belowK_b (w := w) (Nat.le_refl _) A2 E1 _ _ (by omega) hKE2 rfl rfl))
    clear hrow hkk hv hB hKE hsk
    gi_wp2_with fail
    refine ⟨trivial, (callsIn_wide.2 HS.out).mono ?_⟩
    rintro e A2 ⟨rfl, hr2, hg2⟩
    obtain ⟨f1, f2, f3⟩ := HFIN.out A2 hr2 hg2
    have f1c := f1.cell
    have F2 := Lib.hid f2
    have F3 := Lib.hid f3
    clear hr2 hg2 f1 f2 f3
    gi_wp2_with fail
    refine ⟨by simp, .inl ⟨_, _, rfl, run_takeDeferred F2.out, ?_⟩⟩
    exact ⟨v, by simp [results, Tryz.f253, go_sem], F3.out⟩
  case stop =>
    rintro E1 c pre A hE hSp h _
    exact h.elim
end Go.Proofs.YtipehdbpbmnonaaGreat.DStr
