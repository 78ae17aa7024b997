
/- Members of a flock: all of them, in their order. -/
import Derived.Test.YteiklgbjjmlmaaaGreatZUDGet
import Derived.Test.YteiklgbjjmlmaaaGreatZUEAll
import Derived.Test.YteiklgbjjmlmaaaGreatZSortRow
import Derived.Test.YteiklgbjjmlmaaaGreatSrt
set_option linter.unusedVariables false
set_option linter.unusedSimpArgs false
namespace Pantry
open Go Go.RowKit Go.Proofs Go.Sort
def txC (k : List UInt8) : Value := .string ⟨k.toArray⟩
/-- The texts in their order. -/
def sortT (l : List (List UInt8)) : List (List UInt8) := l.mergeSort leB
theorem le_leB : ∀ x y : List UInt8, decide (x ≤ y) = leB x y := by
  have hlt : ∀ a b : List UInt8, a < b ↔ cmpB a b < 0 := by
    intro a
    induction a with
    | nil =>
      intro b
      cases b with
      | nil => simp [cmpB, Lib.compareBytes]
      | cons y ys => simp [cmpB, Lib.compareBytes]
    | cons x xs ih =>
      intro b
      cases b with
      | nil => simp [cmpB, Lib.compareBytes]
      | cons y ys =>
        rw [List.cons_lt_cons_iff, ih]
        simp only [cmpB, Lib.compareBytes]
        by_cases h1 : x < y
        · simp [h1]
        · by_cases h2 : y < x
          · have : x ≠ y := fun e => by subst e; exact h1 h2
            simp [h1, h2, this]
          · have : x = y := UInt8.le_antisymm (UInt8.not_lt.1 h2) (UInt8.not_lt.1 h1)
            simp [this]
  intro x y
  have h1 : (x ≤ y) ↔ ¬ cmpB y x < 0 := by rw [← hlt y x]; exact List.not_lt.symm
  rw [leB, ← decide_not]
  exact decide_eq_decide.2 h1
theorem sortT_perm (l : List (List UInt8)) : (sortT l).Perm l := List.mergeSort_perm _ _
theorem sortT_rises {l : List (List UInt8)} (h : l.Nodup) : (sortT l).Pairwise fun p q => cmpB p q < 0 := by
  have h1 : (sortT l).Pairwise fun p q => leB p q = true := List.pairwise_mergeSort (le := leB) (fun a b c => leB_trans) (fun a b => leB_total _ _) l
  have h2 : (sortT l).Nodup := (sortT_perm l).nodup_iff.2 h
  refine (h1.and h2).imp fun {p q} ⟨e1, e2⟩ => ?_
  simp only [leB, Bool.not_eq_true', decide_eq_false_iff_not] at e1
  exact (cmpB_tri e2).resolve_right e1
theorem sortT_unique {l m : List (List UInt8)} (hm : m.Perm l) (h : m.Pairwise fun p q => cmpB p q < 0) : m = sortT l := by
  have hn : m.Nodup := h.imp fun {p q} e e2 => by rw [e2] at e; exact cmpB_irr _ e
  exact rising_unique (R := fun p q : List UInt8 => cmpB p q < 0) (fun a => cmpB_irr _) (fun h1 h2 => cmpB_lt_trans h1 h2) (hm.trans (sortT_perm l).symm) h (sortT_rises (hm.nodup_iff.1 hn))
theorem sortT_congr {l m : List (List UInt8)} (hm : m.Perm l) (h : l.Nodup) : sortT m = sortT l :=
  sortT_unique ((sortT_perm m).trans hm) (sortT_rises (hm.nodup_iff.2 h))
end Pantry
namespace Go.Proofs.YteiklgbjjmlmaaaGreat.DUnit
open Go.RowKit Pantry Go.Sort

attribute [local go_sem] Oper.semAt_some
attribute [-go_sem] Builtin.append_
theorem sortTexts_some (w : World) (base g cap n : Nat) (l : List (List UInt8)) (hl : l.length = n) (hn : n ≤ 1048576) (h : w.ownsRow base 9 1 (.slice (some ⟨g, 0, none⟩) n cap) n (l.map txC)) :
    Calls Tryz.prog 222 #[.slice (some ⟨g, 0, none⟩) n cap] w fun e w' => e = .returned (.tuple #[]) ∧ w'.ownsRow base 9 1 (.slice (some ⟨g, 0, none⟩) n cap) n ((sortT l).map txC) ∧ w.grownBy w' (some g) := by
  have hH : Holds encStr w g 0 l.toArray := holds_row encStr (d := l.toArray) h
  have hgl : g < w.heap.size := (h.lt g rfl).2
  have hcon := Any.slices_Sort_string Tryz.lays190 g 0 cap l w hH hgl (by omega)
  rw [hl] at hcon
  refine hcon.mono ?_
  rintro e w' ⟨rfl, q, os, rfl⟩
  have he : (l.mergeSort fun x y => decide (x ≤ y)) = sortT l := by
    unfold sortT
    congr 1
    funext x y
    exact le_leB x y
  rw [he]
  obtain ⟨r1, r2⟩ := sort_row (d := l.toArray) (d' := (sortT l).toArray) encStr h (by simpa using (sortT_perm l).length_eq) q os
  exact ⟨rfl, r1, r2⟩
theorem sortTexts_any (w : World) (base n : Nat) (v : Value) (l : List (List UInt8)) (hl : l.length = n) (hn : n ≤ 1048576) (h : w.ownsRow base 9 1 v n (l.map txC)) :
    Calls Tryz.prog 222 #[v] w fun e w' => e = .returned (.tuple #[]) ∧ w'.ownsRow base 9 1 v n ((sortT l).map txC) ∧ w.grownBy w' v.ownBlock := by
  rcases h.2 with ⟨hv, h0⟩ | ⟨g, cap, cur, hv, -⟩
  · subst hv
    have hn0 : l = [] := List.length_eq_zero_iff.1 (by omega)
    subst hn0
    subst h0
    refine (Any.slices_Sort_string_none Tryz.lays190 none 0 w).mono ?_
    rintro e w' ⟨rfl, rfl⟩
    exact ⟨rfl, by rw [show sortT [] = [] by simp [sortT]]; exact h, ⟨rfl, rfl, rfl, Nat.le_refl _, fun _ _ _ => rfl⟩⟩
  · subst hv
    exact sortTexts_some w base g cap n l hl hn h
def MemPost (l : List (List UInt8)) (w : World) (e : Ending) (w' : World) : Prop := ∃ v, e = .returned v ∧ w'.ownsRow w.heap.size 9 1 v l.length ((sortT l).map txC) ∧ Below w.heap.size w w'
set_option maxRecDepth 100000 in
set_option maxHeartbeats 4000000 in
theorem fMem_any (w : World) (r seed d : Nat) (D : Dc) (l : List (List UInt8)) (h : FlkAt w r seed d D l) : Calls Tryz.prog 221 #[.pointer (some ⟨r, 0, none⟩)] w (MemPost l w) := by
  refine (callsIn_wide (n := 6)).1 ?_
  have HL := Lib.hid (fLen_any w r seed d D l h)
  have HE := fun W => Lib.hid (each_any W (some ⟨d, 0, none⟩))
  obtain ⟨⟨-, h1, -⟩, -⟩ := three h.head
  obtain ⟨kvl, hkv⟩ : ∃ kvl, D.ents.map (·.key) = kvl := ⟨_, rfl⟩
  have hkp : kvl.Perm l := hkv ▸ h.keys
  have hfew := h.good.few
  obtain ⟨n, hn⟩ : ∃ n, l.length = n := ⟨_, rfl⟩
  have hkn : kvl.length = n := hkp.length_eq.trans hn
  rw [hn] at HL hfew
  have H := Lib.hid h
  have HKV := Lib.hid hkv
  have HKP := Lib.hid hkp
  have HN := Lib.hid hn
  have HKN := Lib.hid hkn
  obtain ⟨i0, hi, hz0, hz1, hz2⟩ := info_parts keyI.info
  clear h hkv hkp hn hkn
  refine callsIn_of_wp_marks Tryz.func221 rfl trivial ?_ rfl
  simp only [Tryz.ntmps221, List.size_toArray, List.length_cons, List.length_nil, Nat.reduceAdd, Nat.reduceSub, Array.replicate_succ, Array.replicate_zero, List.push_toArray, List.append_toArray, List.nil_append, List.cons_append]
  gi_wp2_with fail
  refine ⟨trivial, (callsIn_wide.2 HL.out).mono ?_⟩
  rintro e w' ⟨rfl, rfl⟩
  gi_wp2_with (gi_at_make; refine wpListIn_make_own w rfl _ _ 45 rfl w.heap.size 9 i0 (.string ⟨#[]⟩) 1 Tryz.underlying45 hi hz0 hz1 .i64 .i64 n n rfl rfl rfl (by rw [hz2]; omega) (by unfold maxLen; omega) (Nat.le_refl _) ?_; intro w1 hown hgrow
               have HOWN := Lib.hid hown
               have HGROW := Lib.hid hgrow
               have h1' : (w1.alloc (.cells #[.slice (some ⟨w.heap.size, 0, none⟩) 0 n] 45)).cell? ⟨r, 1, none⟩ = some (.pointer (some ⟨d, 0, none⟩)) := by
                 have hb1 : Below w.heap.size w w1 := grownBy_below (Below.refl _ _) hgrow (fun k e => by cases e) (Nat.le_refl _)
                 exact ((hb1.alloc hb1.size _).cell (p := ⟨r, 1, none⟩) (block_lt H.out.head)).trans h1
               clear hown hgrow)
  refine ⟨trivial, (callsIn_wide.2 (HE _).out).mono ?_⟩
  rintro e w' ⟨rfl, rfl⟩
  gi_wp2_with fail
  obtain ⟨W0, hW0⟩ : ∃ W0, ((w1.alloc (.cells #[.slice (some ⟨w.heap.size, 0, none⟩) 0 n] 45)).alloc (.cells #[.pointer (some ⟨d, 0, none⟩)] 155)) = W0 := ⟨_, rfl⟩
  have hb1 : Below w.heap.size w w1 := grownBy_below (Below.refl _ _) HGROW.out (fun k e => by cases e) (Nat.le_refl _)
  have hwl : w.heap.size < w1.heap.size := (HOWN.out.lt w.heap.size rfl).2
  have hB0 : Below w.heap.size w W0 := by rw [← hW0]; exact (hb1.alloc hb1.size _).alloc (by simp; omega) _
  have hs0 : W0.heap.size = w1.heap.size + 1 + 1 := by rw [← hW0]; simp
  have hb0 : Boxed W0 w1.heap.size 45 (.slice (some ⟨w.heap.size, 0, none⟩) 0 n) := by rw [← hW0]; exact (Boxed.new w1 _ _).alloc _
  have hbd : Boxed W0 (w1.heap.size + 1) 155 (.pointer (some ⟨d, 0, none⟩)) := by
    have := Boxed.new (w1.alloc (.cells #[.slice (some ⟨w.heap.size, 0, none⟩) 0 n] 45)) 155 (.pointer (some ⟨d, 0, none⟩))
    rw [World.size_alloc] at this
    rw [← hW0]; exact this
  have hrow0 : W0.ownsRow w.heap.size 9 1 (.slice (some ⟨w.heap.size, 0, none⟩) 0 n) 0 [] := by rw [← hW0]; exact (HOWN.out.alloc _).alloc _
  have hA0 : FlkAt W0 r seed d D l := H.out.keep (S := fun _ => False) (Chg.of_below hB0) fun _ _ e => e
  have hown0 : ownIn w1.heap.size W0 = some w.heap.size := ownIn_boxed hb0
  rw [hW0]
  refine wpIn_rangeV rfl (by omega) (gf := 223) (lb := #[.pointer (some ⟨w1.heap.size + 1, 0, none⟩)]) rfl trivial (enters_of Tryz.func223 (by kernel_rfl) rfl)
    (each_seq 5 (by omega) (w1.heap.size + 1) d D W0 hbd.cell hA0.dict hA0.wf kvl HKV.out (KpL (W0.heap.size + 2) w1.heap.size) (HdL (W0.heap.size + 2) w1.heap.size)
      (fun W hW hsz => keeperL hsz (by omega) (by rw [ownIn_cell (hW.cell (p := ⟨w1.heap.size, 0, none⟩) hb0.lt), hown0]; intro k hk; cases hk; omega)))
    (fun h k => h.trans k) (fun W1 o o' _ _ _ => KpL.putObj W1 o' (by omega) (by omega)) (Below.refl _ _) (fun _ => rfl)
    (fun pre A => (∃ v, Boxed A w1.heap.size 45 v ∧ A.ownsRow w.heap.size 9 1 v pre.length (pre.map txC) ∧ True) ∧ Below w.heap.size W0 A)
    (fun _ _ _ => False)
    ((Own.from (holdsRow_own _ _ _ _ _ (fun pre : List (List UInt8) => pre.length) (fun pre => pre.map txC) (fun _ _ => True)) _).and (ownFrom_below (by omega) (by omega)))
    (fun _ _ _ _ _ h _ _ => h)
    ⟨⟨_, hb0, hrow0, trivial⟩, Below.refl _ _⟩
    (fun x => { tmps := #[.pointer (some ⟨r, 0, none⟩), undef, .slice none 0 0, .pointer (some ⟨w1.heap.size, 0, none⟩), .string ⟨x.toArray⟩, .pointer (some ⟨r, 0, none⟩), .bool false, .pointer (some ⟨r, 0, none⟩), .int .i64 n, .slice (some ⟨w.heap.size, 0, none⟩) 0 n, .pointer (some ⟨r, 0, none⟩), .pointer (some ⟨r, 0, none⟩), .pointer (some ⟨r, 1, none⟩), .pointer (some ⟨d, 0, none⟩), .func (.func 223) #[] #[.pointer (some ⟨w1.heap.size + 1, 0, none⟩)], .string ⟨x.toArray⟩, .agg #[], undef, undef, undef, undef, undef, undef, undef], defers := [] }) ?assign ?body ?done ?stop
  case assign =>
    intro l x W K hK
    simp only [encK]
    gi_wp2
    exact hK
  case body =>
    rintro l2 pre x A ⟨⟨v, hv, hrow, -⟩, hB⟩ hlt
    have hpl : pre.length + 1 ≤ n := by
      have h1 := hlt.length_le
      rw [HKN.out] at h1
      simpa using h1
    obtain ⟨g, cap, w2, hr1, hk1, hf1, hadd⟩ := boxRow_add keyI 45 hv hrow (by decide) #[.string ⟨x.toArray⟩] (.inl rfl) rfl (by intro u hu; simp at hu; subst hu; rfl) (by omega) (Nat.le_trans (by omega) hB.size)
    have HADD := Lib.hid hadd
    have HV := Lib.hid hv
    have HROW := Lib.hid hrow
    have HB := Lib.hid hB
    have hbv := hv.cell
    clear hadd hv hrow hB hlt
    gi_wp2_with fail
    refine ⟨(HADD.out.others HV.out HROW.out).from _, HADD.out.kp HV.out (by omega), ⟨_, HADD.out.box, ?_⟩, HB.out.trans (HADD.out.below HROW.out (by omega) (Nat.le_trans (by omega) HB.out.size))⟩
    rw [List.map_append, List.length_append, List.length_singleton]
    exact HADD.out.row
  case done =>
    rintro E1 A hE ⟨⟨v, hv, hrow, -⟩, hB⟩ hKE
    rw [HKN.out] at hrow
    have HS := Lib.hid (sortTexts_any A w.heap.size n v kvl HKN.out hfew hrow)
    have hbv := hv.cell
    have hsk : sortT kvl = sortT l := sortT_congr HKP.out H.out.good.keys
    have HFIN : Hid (∀ A2, A2.ownsRow w.heap.size 9 1 v n ((sortT kvl).map txC) → A.grownBy A2 v.ownBlock → Boxed A2 w1.heap.size 45 v ∧ A2.heap[E1]? = some (.deferred (some [])) ∧ MemPost l w (.returned v) (A2.putObj E1 (.deferred none))) := Lib.hid (by
      intro A2 hr2 hg2
      have hKE2 : A2.heap[E1]? = some (.deferred (some [])) := (hg2.block E1 (Array.getElem?_eq_some_iff.1 hKE).1 (fun e => by
        obtain ⟨c, hc, -⟩ := ownsRow_cells hrow e.symm
        rw [hKE] at hc; cases hc)).trans hKE
      refine ⟨hv.kept hg2 (hv.not_row (by decide) hrow), hKE2, v, rfl, ?_, ?_⟩
      · rw [HN.out, ← hsk]
        exact ownsRow_putObj hr2 _ hKE2 rfl
      · have h3 : Below w.heap.size A A2 := (Below.refl _ _).grown hg2 (Nat.le_trans (by omega) hB.size) fun k hk => by
          exact (ownsRow_cells hrow hk).choose_spec.2
        exact ((hB0.trans hB).trans h3).trans (belowK_b (w := w) (Nat.le_refl _) A2 E1 _ _ (by omega) hKE2 rfl rfl))
    clear hrow hv hB hKE hsk
    gi_wp2_with fail
    refine ⟨trivial, (callsIn_wide.2 HS.out).mono ?_⟩
    rintro e A2 ⟨rfl, hr2, hg2⟩
    obtain ⟨f1, f2, f3⟩ := HFIN.out A2 hr2 hg2
    have f1c := f1.cell
    have F2 := Lib.hid f2
    have F3 := Lib.hid f3
    clear hr2 hg2 f1 f2 f3
    gi_wp2_with fail
    refine ⟨by simp, .inl ⟨_, _, rfl, run_takeDeferred F2.out, ?_⟩⟩
    exact ⟨v, by simp [results, Tryz.f221, go_sem], F3.out⟩
  case stop =>
    rintro E1 c pre A hE hSp h _
    exact h.elim
end Go.Proofs.YteiklgbjjmlmaaaGreat.DUnit
