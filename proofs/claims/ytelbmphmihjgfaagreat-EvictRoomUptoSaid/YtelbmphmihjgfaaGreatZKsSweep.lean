/- Sweep: the walk. -/
import Derived.Test.YtelbmphmihjgfaaGreatZKsSweepP
import Derived.Test.YtelbmphmihjgfaaGreatZEEEach
import Derived.Test.YtelbmphmihjgfaaGreatZIter
import Derived.Lib.MinMax
import Derived.LoopN
set_option linter.unusedVariables false
set_option linter.unusedSimpArgs false
namespace Go.Proofs.YtelbmphmihjgfaaGreat.DEnt
open Go.RowKit Pantry Go.Maps Go.Sort

attribute [local go_sem] Oper.semAt_some
attribute [-go_sem] Builtin.append_
theorem dueI : ElemT Tryz.prog 96 105 2 24 (.agg #[.string ⟨#[]⟩, .pointer none]) := ⟨Tryz.underlying96, by kernel_rfl, rfl, by omega, by omega⟩
theorem duesC_one (l : List Due) : ∀ u ∈ l.flatMap dueC, u.oneCell' = true := fun u hu => by
  obtain ⟨c, -, hc⟩ := List.mem_flatMap.1 hu
  simp [dueC] at hc
  rcases hc with rfl | rfl <;> rfl
def SweepPost (s : Nat) (F : Nat → Prop) (X : Sp) (most : Int) (w : World) (r : Ending) (w' : World) : Prop :=
  ∃ ds : List Due, X.Dues ds ∧ r = .returned (.int .i64 (min (ds.length : Int) most)) ∧ SpTo s F (X.expAll (ds.take most.toNat)) w w'
theorem Chg.putObj (w : World) (E : Nat) (o : Obj) : Chg (fun k => k = E) w (w.putObj E o) := ⟨rfl, rfl, rfl, by simp [World.putObj], fun k _ hne => World.putObj_heap_other hne⟩
theorem SpH.not_def {w : World} {s : Nat} {F : Nat → Prop} {X : Sp} (h : SpH w s F X) {k : Nat} {d} (hk : w.heap[k]? = some (.deferred d)) : ¬ F k := by
  obtain ⟨m, l, t, M, L, sv, h1, h2⟩ := h.ex
  intro hf
  rcases h1.kind ((h2 k).1 hf) with ⟨es, c, h3⟩ | ⟨c, ty, h3, -⟩
  · rw [hk] at h3; cases h3
  · rw [hk] at h3; cases h3
theorem SpTo.putObj {w w' : World} {s : Nat} {F : Nat → Prop} {X : Sp} (h : SpTo s F X w w') {E : Nat} {d} (hE : w.heap.size ≤ E) (hd : w'.heap[E]? = some (.deferred d)) (o : Obj) : SpTo s F X w (w'.putObj E o) := by
  obtain ⟨⟨F', h1, h2⟩, hc⟩ := h
  exact ⟨⟨F', h1.keep (Chg.putObj w' E o) fun k hk e => by subst e; exact h1.not_def hd hk, h2⟩, hc.trans (Chg.putObj w' E o) fun j hj e => by omega⟩
theorem SpTo.pre {w A w' : World} {s : Nat} {F : Nat → Prop} {X : Sp} (hb : Below w.heap.size w A) (h : SpTo s F X A w') : SpTo s F X w w' := by
  obtain ⟨⟨F', h1, h2⟩, hc⟩ := h
  exact ⟨⟨F', h1, fun k hk => (h2 k hk).imp id (Nat.le_trans hb.size)⟩, (Chg.of_below (S := F) hb).trans hc fun j _ e => e⟩
theorem Dues.mem {X : Sp} {ds : List Due} (h : X.Dues ds) {d : Due} (hd : d ∈ ds) : ∃ e ∈ X.ents, e.due = d := by
  obtain ⟨e, he, rfl⟩ := List.mem_map.1 (h.1.subset hd)
  exact ⟨e, (List.mem_filter.1 he).1, rfl⟩
theorem Dues.good {X : Sp} (hg : SpGood X) {ds : List Due} (h : X.Dues ds) (j : Nat) : SpGood (X.expAll (ds.take j)) :=
  (expAll_good (ds.take j) hg ((h.keys hg).sublist ((List.take_sublist _ _).map _)) fun d hd => Dues.mem h ((List.take_sublist _ _).subset hd)).1
theorem Dues.still {X : Sp} (hg : SpGood X) {ds : List Due} (h : X.Dues ds) {j : Nat} {d : Due} (hj : ds[j]? = some d) : ∃ e ∈ (X.expAll (ds.take j)).ents, e.due = d := by
  obtain ⟨e, he, rfl⟩ := Dues.mem h (List.mem_of_getElem? hj)
  refine ⟨e, expAll_mem _ he fun d' hd' hk => ?_, rfl⟩
  obtain ⟨i, hi⟩ := List.mem_iff_getElem?.1 hd'
  rw [List.getElem?_take] at hi
  split at hi
  · rename_i hlt
    have hp := List.pairwise_iff_getElem.1 (h.keys hg)
    have hil := (List.getElem?_eq_some_iff.1 hi)
    have hjl := (List.getElem?_eq_some_iff.1 hj)
    refine hp i j (by simpa using hil.1) (by simpa using hjl.1) hlt ?_
    obtain ⟨_, h1⟩ := hil
    obtain ⟨_, h2⟩ := hjl
    simp only [List.getElem_map, h1, h2]
    exact hk.symm
  · cases hi
theorem dues_get {ds : List Due} {j : Nat} {d : Due} (h : ds[j]? = some d) : (ds.flatMap dueC)[j * 2]? = some (.string ⟨d.key.toArray⟩) ∧ (ds.flatMap dueC)[j * 2 + 1]? = some (.pointer (some ⟨d.b, 0, none⟩)) := by
  have hj : j < ds.length := (List.getElem?_eq_some_iff.1 h).1
  have hc : ds[j]! = d := by rw [List.getElem!_eq_getElem?_getD, h]; rfl
  have h0 := flatM_get (enc := dueC) (k := 2) (by omega) (fun _ => rfl) ds (j * 2) (by omega)
  have h1 := flatM_get (enc := dueC) (k := 2) (by omega) (fun _ => rfl) ds (j * 2 + 1) (by omega)
  rw [show j * 2 / 2 = j by omega, show j * 2 % 2 = 0 by omega, hc] at h0
  rw [show (j * 2 + 1) / 2 = j by omega, show (j * 2 + 1) % 2 = 1 by omega, hc] at h1
  exact ⟨h0, h1⟩
section
variable {w : World} {s : Nat} {F : Nat → Prop} {X : Sp}
set_option maxRecDepth 100000 in
set_option maxHeartbeats 4000000 in
theorem sSweep (h : SpH w s F X) (most : Int) (hm : 0 < most) (hm2 : most < 9223372036854775808) : Calls Tryz.prog 11 #[.pointer (some ⟨s, 0, none⟩), .int .i64 most] w (SweepPost s F X most w) := by
  have hmx : Tryz.prog.follows .mixedOrders = true := by kernel_rfl
  refine (callsIn_wide (n := 6)).1 ?_
  obtain ⟨m, l, t, hR⟩ := h.run
  obtain ⟨sv, -, -, -, -, -, -, -, -, c8, -, -, -⟩ := hR.cells
  obtain ⟨M, L, sv', h1, -⟩ := hR.ex
  have HE := fun W => Lib.hid (each_any W (some ⟨l, 0, none⟩))
  have hsb : s < w.heap.size := block_lt h1.head
  have hmle : (decide (most ≤ 0)) = false := decide_eq_false (by omega)
  have hmn : ¬ most ≤ 0 := by omega
  have H := Lib.hid h
  have HR := Lib.hid hR
  have H1 := Lib.hid h1
  have HM := Lib.hid hm
  have HM2 := Lib.hid hm2
  have c8b : ((w.alloc (.cells #[.pointer (some ⟨s, 0, none⟩)] 28)).alloc (.cells #[.slice none 0 0] 96)).cell? ⟨s, 8, none⟩ = some (.pointer (some ⟨l, 0, none⟩)) :=
    (((Below.refl w.heap.size w).alloc (Nat.le_refl _) _).alloc (by simp) _ |>.cell (p := ⟨s, 8, none⟩) hsb).trans c8
  clear h hR h1
  refine callsIn_of_wp_marks Tryz.func11 rfl trivial ?_ rfl
  simp only [Tryz.ntmps11, List.size_toArray, List.length_cons, List.length_nil, Nat.reduceAdd, Nat.reduceSub, Array.replicate_succ, Array.replicate_zero, List.push_toArray, List.append_toArray, List.nil_append, List.cons_append]
  gi_wp2_with fail
  refine ⟨trivial, (callsIn_wide.2 (HE _).out).mono ?_⟩
  rintro e w' ⟨rfl, rfl⟩
  gi_wp2_with fail
  obtain ⟨es, hes, hkv⟩ := late_list H.out.good H1.out.lkv
  have hkv2 : L.kv = (es.map keB).map fun p => (p.1, Value.pointer (some ⟨p.2, 0, none⟩)) := by rw [hkv, List.map_map]; rfl
  obtain ⟨kvl, hkvl⟩ : ∃ kvl, es.map keB = kvl := ⟨_, rfl⟩
  rw [hkvl] at hkv2
  obtain ⟨W0, hW0⟩ : ∃ W0, (((w.alloc (.cells #[.pointer (some ⟨s, 0, none⟩)] 28)).alloc (.cells #[.slice none 0 0] 96)).alloc (.cells #[.pointer (some ⟨l, 0, none⟩)] 78)) = W0 := ⟨_, rfl⟩
  have hB0 : Below w.heap.size w W0 := by rw [← hW0]; exact (((Below.refl _ _).alloc (Nat.le_refl _) _).alloc (by simp) _).alloc (by simp; omega) _
  have hs0 : W0.heap.size = w.heap.size + 1 + 1 + 1 := by rw [← hW0]; simp
  have hbs : Boxed W0 w.heap.size 28 (.pointer (some ⟨s, 0, none⟩)) := by rw [← hW0]; exact ((Boxed.new w _ _).alloc _).alloc _
  have hb0 : Boxed W0 (w.heap.size + 1) 96 (.slice none 0 0) := by
    have := Boxed.new (w.alloc (.cells #[.pointer (some ⟨s, 0, none⟩)] 28)) 96 (.slice none 0 0)
    rw [World.size_alloc] at this
    rw [← hW0]; exact this.alloc _
  have hbd : Boxed W0 (w.heap.size + 1 + 1) 78 (.pointer (some ⟨l, 0, none⟩)) := by
    have := Boxed.new ((w.alloc (.cells #[.pointer (some ⟨s, 0, none⟩)] 28)).alloc (.cells #[.slice none 0 0] 96)) 78 (.pointer (some ⟨l, 0, none⟩))
    rw [World.size_alloc, World.size_alloc] at this
    rw [← hW0]; exact this
  have hrow0 : W0.ownsRow (w.heap.size + 1) 105 2 (.slice none 0 0) 0 [] := World.ownsRow_nil _ _ _ _
  have hD0 : DictAt W0 l L := H1.out.late.keep fun k hk => hB0.block k (H1.out.late.lt k hk)
  have hown0 : ownIn (w.heap.size + 1) W0 = none := ownIn_boxed hb0
  rw [hW0]
  refine wpIn_rangeV rfl (by omega) (gf := 72) (lb := #[.pointer (some ⟨w.heap.size + 1 + 1, 0, none⟩)]) rfl trivial (enters_of Tryz.func72 (by kernel_rfl) rfl)
    (each_seq 5 (by omega) (w.heap.size + 1 + 1) l L W0 hbd.cell hD0 H1.out.lwf kvl hkv2 (KpL (W0.heap.size + 2) (w.heap.size + 1)) (HdL (W0.heap.size + 2) (w.heap.size + 1))
      (fun W hW hsz => keeperL hsz (by omega) (by rw [ownIn_cell (hW.cell (p := ⟨w.heap.size + 1, 0, none⟩) hb0.lt), hown0]; intro k hk; cases hk)))
    (fun h k => h.trans k) (fun W1 o o' _ _ _ => KpL.putObj W1 o' (by omega) (by omega)) (Below.refl _ _) (fun _ => rfl)
    (fun pre A => (∃ v, Boxed A (w.heap.size + 1) 96 v ∧ A.ownsRow (w.heap.size + 1) 105 2 v (pre.filterMap (dueP X)).length ((pre.filterMap (dueP X)).flatMap dueC) ∧ (pre.filterMap (dueP X) = [] → v = .slice none 0 0)) ∧ Below (w.heap.size + 1) W0 A)
    (fun _ _ _ => False)
    ((Own.from (holdsRow_own _ _ _ _ _ (fun pre : List (List UInt8 × Nat) => (pre.filterMap (dueP X)).length) (fun pre => (pre.filterMap (dueP X)).flatMap dueC) (fun pre v => pre.filterMap (dueP X) = [] → v = .slice none 0 0)) _).and (ownFrom_below (by omega) (by omega)))
    (fun _ _ _ _ _ h _ _ => h)
    ⟨⟨_, hb0, hrow0, fun _ => rfl⟩, Below.refl _ _⟩
    (fun x => { tmps := #[.pointer (some ⟨s, 0, none⟩), .int .i64 most, .pointer (some ⟨w.heap.size, 0, none⟩), undef, .int .i64 0, .pointer (some ⟨w.heap.size + 1, 0, none⟩), .string ⟨x.1.toArray⟩, .pointer (some ⟨x.2, 0, none⟩), undef, undef, .pointer (some ⟨s, 0, none⟩), .bool false, .bool false, .int .i64 most, .bool false, .bool false, .pointer (some ⟨s, 0, none⟩), .pointer (some ⟨s, 0, none⟩), .pointer (some ⟨s, 8, none⟩), .pointer (some ⟨l, 0, none⟩), .func (.func 72) #[] #[.pointer (some ⟨w.heap.size + 1 + 1, 0, none⟩)], .string ⟨x.1.toArray⟩, .pointer (some ⟨x.2, 0, none⟩), undef, undef, undef, undef, undef, undef, undef, undef, undef, undef, undef, undef, undef, undef, undef, undef, undef, undef, undef, undef, undef, undef, undef, undef, undef, undef, undef, undef, undef, undef, undef, undef, undef, undef, undef], defers := [] }) ?assign ?body ?done ?stop
  case assign =>
    intro l2 x W K hK
    simp only [encKV]
    gi_wp2
    exact hK
  case body =>
    rintro l2 pre x A ⟨⟨v, hv, hrow, hnil⟩, hB⟩ hlt
    have hpl : pre.length + 1 ≤ kvl.length := by simpa using hlt.length_le
    have hxm : x ∈ es.map keB := by rw [hkvl]; exact hlt.subset (by simp)
    obtain ⟨e, hee, rfl⟩ := List.mem_map.1 hxm
    have heX : e ∈ X.ents := (List.mem_filter.1 (hes.subset hee)).1
    have hbA : Below w.heap.size w A := hB0.trans (hB.mono (Nat.le_succ _))
    have hcs : A.cell? ⟨w.heap.size, 0, none⟩ = some (.pointer (some ⟨s, 0, none⟩)) := (hB.cell (p := ⟨w.heap.size, 0, none⟩) (Nat.lt_succ_self _)).trans hbs.cell
    have hce : A.cell? ⟨e.b, 3, none⟩ = some (.int .i64 e.dl) := (hbA.cell (p := ⟨e.b, 3, none⟩) (block_lt (H1.out.ents e heX))).trans (cell_of_row _ _ 3 _ _ _ (H1.out.ents e heX))
    obtain ⟨sv2, -, -, -, -, c4, -⟩ := HR.out.cells
    have hc4 : A.cell? ⟨s, 4, none⟩ = some (.int .i64 X.now) := (hbA.cell (p := ⟨s, 4, none⟩) hsb).trans c4
    have HP := Lib.hid (past_any A.drew s e.dl X.now (by rw [cell_drew_own]; exact hc4))
    have hdp : dueP X (e.key, e.b) = _ := dueP_mem H.out.good heX
    have hfm : (pre ++ [(e.key, e.b)]).filterMap (dueP X) = pre.filterMap (dueP X) ++ (dueP X (e.key, e.b)).toList := by
      rw [List.filterMap_append, List.filterMap_cons, List.filterMap_nil]
      cases dueP X (e.key, e.b) <;> rfl
    have hfew : (pre.filterMap (dueP X)).length + 1 ≤ 8388608 := by
      have h1 := List.length_filterMap_le (dueP X) pre
      have h2 : kvl.length = (X.ents.filter KE.late).length := by rw [← hkvl, List.length_map]; exact hes.length_eq
      have h3 := List.length_filter_le KE.late X.ents
      have h4 := H.out.good.few
      unfold Sp.mass at h4
      omega
    have hNA : w.heap.size + 1 ≤ A.heap.size := Nat.le_trans (by omega) hB.size
    rcases Bool.eq_false_or_eq_true (decide (0 < e.dl) && decide (e.dl ≤ X.now)) with hp | hp
    · have hpe : e.past X.now = true := hp
      rw [if_pos hpe] at hdp
      rw [hdp] at hfm
      rw [hp] at HP
      obtain ⟨g, cap, w2, hr1, hk1, hf1, hadd⟩ := boxRow_add dueI 96 hv hrow (by decide) #[.string ⟨e.key.toArray⟩, .pointer (some ⟨e.b, 0, none⟩)] (.inr rfl) rfl (by intro u hu; simp at hu; rcases hu with rfl | rfl <;> rfl) (by omega) hNA
      have HADD := Lib.hid hadd
      have HV := Lib.hid hv
      have HROW := Lib.hid hrow
      have HB := Lib.hid hB
      have HFM := Lib.hid hfm
      have hbv := hv.cell
      simp only [keB]
      clear hrow hv hnil hB hlt hxm hbA hc4 c4 hadd hfm hdp hp hpe hfew
      gi_wp2_with fail
      gi_region_with_o (refine ⟨trivial, (callsIn_wide.2 HP.out).mono ?_⟩; rintro r w2 ⟨rfl, rfl⟩)
      all_goals
        gi_wp2_with fail
        refine ⟨(HADD.out.others HV.out HROW.out).from _, HADD.out.kp HV.out (by omega), ⟨_, HADD.out.box, ?_, ?_⟩, HB.out.trans (HADD.out.below HROW.out (by omega) (Nat.le_trans (by omega) HB.out.size))⟩
        · rw [HFM.out, List.length_append, List.flatMap_append]
          exact HADD.out.row
        · rw [HFM.out]; intro h0; simp at h0
    · have hpe : ¬ e.past X.now = true := by rw [show e.past X.now = false from hp]; simp
      rw [if_neg hpe] at hdp
      rw [hdp] at hfm
      rw [hp] at HP
      have HV := Lib.hid hv
      have HROW := Lib.hid hrow
      have HB := Lib.hid hB
      have HFM := Lib.hid hfm
      have HNIL := Lib.hid hnil
      have hbv := hv.cell
      simp only [keB]
      clear hrow hv hnil hB hlt hxm hbA hc4 c4 hfm hdp hp hpe hfew
      gi_wp2_with fail
      gi_region_with_o (refine ⟨trivial, (callsIn_wide.2 HP.out).mono ?_⟩; rintro r w2 ⟨rfl, rfl⟩)
      all_goals
        gi_wp2_with fail
        refine ⟨(KeepsOthers.drew A).from _, ⟨Nat.le_refl _, fun k o _ _ ho => ho, .inl rfl⟩, ⟨_, HV.out, ?_, ?_⟩, HB.out.drew⟩
        · rw [HFM.out, Option.toList_none, List.append_nil]
          exact HROW.out
        · rw [HFM.out, Option.toList_none, List.append_nil]
          exact HNIL.out
  case done =>
    rintro E1 A hE ⟨⟨v, hv, hrow, hnil⟩, hB⟩ hKE
    have hbA : Below w.heap.size w A := hB0.trans (hB.mono (Nat.le_succ _))
    have hds : (kvl.filterMap (dueP X)).Perm ((X.ents.filter fun e => e.past X.now).map KE.due) := by rw [← hkvl]; exact late_dues H.out.good hes
    obtain ⟨l0, hl0⟩ : ∃ l0, kvl.filterMap (dueP X) = l0 := ⟨_, rfl⟩
    rw [hl0] at hrow hnil hds
    obtain ⟨n, hn⟩ : ∃ n, l0.length = n := ⟨_, rfl⟩
    rw [hn] at hrow
    have hn8 : n ≤ 8388608 := by
      rw [← hn, hds.length_eq, List.length_map]
      have h3 := List.length_filter_le (fun e : KE => e.past X.now) X.ents
      have h4 := H.out.good.few
      unfold Sp.mass at h4
      omega
    have hok : ∀ d ∈ l0, DueOk A (w.heap.size + 1) d := fun d hd => by
      obtain ⟨e, he, rfl⟩ := List.mem_map.1 (hds.subset hd)
      have heX := (List.mem_filter.1 he).1
      have hlt := block_lt (H1.out.ents e heX)
      exact ⟨(hbA.cell (p := ⟨e.b, 3, none⟩) hlt).trans (cell_of_row _ _ 3 _ _ _ (H1.out.ents e heX)), Nat.lt_succ_of_lt hlt⟩
    have HS := Lib.hid (sortDues_any A (w.heap.size + 1) n v l0 hn (by omega) (Nat.le_trans (by omega) hB.size) hrow hnil hok)
    have hbv := hv.cell
    have hcs : A.cell? ⟨w.heap.size, 0, none⟩ = some (.pointer (some ⟨s, 0, none⟩)) := (hB.cell (p := ⟨w.heap.size, 0, none⟩) (Nat.lt_succ_self _)).trans hbs.cell
    have HV := Lib.hid hv
    have HROW := Lib.hid hrow
    have HB := Lib.hid hB
    have HDS := Lib.hid hds
    have HKE := Lib.hid hKE
    clear hrow hv hB hKE hnil hds hok hn8
    gi_wp2_with fail
    refine ⟨trivial, (callsIn_wide.2 HS.out).mono ?_⟩
    rintro r A2 ⟨rfl, ds, hp2, hpw, hr2, hg2⟩
    have hKE2 : A2.heap[E1]? = some (Obj.deferred (some [])) := (hg2.block E1 (Array.getElem?_eq_some_iff.1 HKE.out).1 (fun e => by
      obtain ⟨c, hc, -⟩ := ownsRow_cells HROW.out e.symm
      have := HKE.out
      rw [hc] at this; cases this)).trans HKE.out
    have HKE2 := Lib.hid hKE2
    have hDues : X.Dues ds := ⟨hp2.trans HDS.out, hpw.imp fun h => by omega⟩
    have hdl : ds.length = n := by rw [hp2.length_eq, hn]
    have hbsA : Boxed A w.heap.size 28 (.pointer (some ⟨s, 0, none⟩)) := (HB.out.block w.heap.size (by omega)).trans hbs
    have hbs2 : Boxed A2 w.heap.size 28 (.pointer (some ⟨s, 0, none⟩)) := hbsA.kept hg2 (hbsA.not_row (by decide) HROW.out)
    have hbv2 : Boxed A2 (w.heap.size + 1) 96 v := HV.out.kept hg2 (HV.out.not_row (by decide) HROW.out)
    have hb2 : Below w.heap.size w A2 := grownBy_below (hB0.trans (HB.out.mono (Nat.le_succ _))) hg2 (fun k hk => Nat.le_of_succ_le (hr2.lt k hk).1) (by omega)
    have HS2 := Lib.hid hbs2
    have HV2 := Lib.hid hbv2
    have HB2 := Lib.hid hb2
    have HR2 := Lib.hid hr2
    have HD2 := Lib.hid hDues
    have HDL := Lib.hid hdl
    have cs2 := hbs2.cell
    have cv2 := hbv2.cell
    have fv2 := hbv2.frozen
    clear hp2 hpw hg2 hKE2 hbsA hbs2 hbv2 hb2 hr2 hDues hdl hcs hbv HS HDS hn
    have hmin : min (n : Int) most = ((min n most.toNat : Nat) : Int) := by have := HM.out; omega
    obtain ⟨k, hk⟩ : ∃ k, min n most.toNat = k := ⟨_, rfl⟩
    rw [hk] at hmin
    have hkn : k ≤ n := by omega
    have HMIN := Lib.hid hk
    clear hk
    rcases HR2.out.2 with ⟨rfl, hn0⟩ | ⟨blk, cv, cur, rfl, hbg, hg, hnc, hcm, hcs, htk⟩
    · obtain rfl : k = 0 := by omega
      have HFIN : Hid (∀ o, SweepPost s F X most w (.returned (.int .i64 0)) ((A2.setCell ⟨w.heap.size + 1, 0, none⟩ (.slice none 0 0)).putObj E1 o)) := Lib.hid (by
        intro o
        have hds : ds = [] := List.eq_nil_of_length_eq_zero (by rw [HDL.out, hn0])
        have hb3 : Below w.heap.size w (A2.setCell ⟨w.heap.size + 1, 0, none⟩ (.slice none 0 0)) := HB2.out.setCell (by simp) _
        obtain ⟨m3, l3, t3, hR3⟩ := (H.out.below hb3).run
        refine ⟨ds, HD2.out, by rw [HDL.out, hn0]; have : min (0 : Int) most = 0 := by have := HM.out; omega
                                rw [show ((0 : Nat) : Int) = 0 from rfl, this], ?_⟩
        have h1 : SpTo s F X _ _ := hR3.to H.out.good
        rw [hds, List.take_nil]
        refine SpTo.putObj (E := E1) (d := some []) (h1.pre hb3) (by omega) ?_ o
        rw [heapSetOther (p := ⟨w.heap.size + 1, 0, none⟩) (fun e => by have := HKE2.out; rw [e, show A2.heap[w.heap.size + 1]? = _ from HV2.out] at this; cases this)]
        exact HKE2.out)
      have HEW : Hid ((A2.setCell ⟨w.heap.size + 1, 0, none⟩ (.slice none 0 0)).heap[E1]? = some (Obj.deferred (some []))) := Lib.hid (by
        rw [heapSetOther (p := ⟨w.heap.size + 1, 0, none⟩) (fun e => by have := HKE2.out; rw [e, show A2.heap[w.heap.size + 1]? = _ from HV2.out] at this; cases this)]
        exact HKE2.out)
      subst hn0
      have hmin0 : min (0 : Int) most = 0 := by have := HM.out; omega
      gi_wp2_with fail
      refine wpIn_wide.2 ?_
      refine wp_loop_rounds 1 ?_
      rw [rounds_succ]
      go_wp2_with fail
      refine (show Code.wpIn Fence.wide 6 Tryz.prog _ _ _ _ from ?_)
      gi_wp2_with fail
      refine ⟨by simp, .inl ⟨_, _, rfl, run_takeDeferred HEW.out, ?_⟩⟩
      exact ⟨_, by simp [results, Tryz.f11, go_sem], HFIN.out _⟩
    · have hkc : k ≤ cv := by omega
      have hcur : ∀ q, q < n * 2 → cur.toList[q]? = (ds.flatMap dueC)[q]? := fun q hq => by rw [← htk, List.getElem?_take, if_pos hq]
      have HCUR := Lib.hid hcur
      have HG := Lib.hid hg
      unfold maxLen at hcm
      clear hcur hg hcs htk
      gi_wp2_with fail
      refine wpIn_wide.2 ?_
      obtain ⟨A3, hA3⟩ : ∃ A3, A2.setCell ⟨w.heap.size + 1, 0, none⟩ (.slice (some ⟨blk, 0, none⟩) k cv) = A3 := ⟨_, rfl⟩
      have hb3 : Below w.heap.size w A3 := by rw [← hA3]; exact HB2.out.setCell (by simp) _
      have hs3 : Boxed A3 w.heap.size 28 (.pointer (some ⟨s, 0, none⟩)) := by rw [← hA3]; exact HS2.out.other (by omega) _
      have hv3 : Boxed A3 (w.heap.size + 1) 96 (.slice (some ⟨blk, 0, none⟩) k cv) := by rw [← hA3]; exact HV2.out.set _
      have hg3 : A3.heap[blk]? = some (.cells cur 105) := by rw [← hA3, heapSetOther (p := ⟨w.heap.size + 1, 0, none⟩) (types_ne HG.out (show A2.heap[w.heap.size + 1]? = some (.cells _ 96) from HV2.out) (by decide))]; exact HG.out
      have hE3 : A3.heap[E1]? = some (Obj.deferred (some [])) := by rw [← hA3, heapSetOther (p := ⟨w.heap.size + 1, 0, none⟩) (fun e => by have := HKE2.out; rw [e, show A2.heap[w.heap.size + 1]? = _ from HV2.out] at this; cases this)]; exact HKE2.out
      obtain ⟨m3, l3, t3, hR3⟩ := (H.out.below hb3).run
      have hnf : ∀ b, w.heap.size ≤ b → ¬ F b := fun b hb hF => by have := H.out.lt hF; omega
      rw [hA3]
      have HB3 := Lib.hid hb3
      have HS3 := Lib.hid hs3
      have HV3 := Lib.hid hv3
      have HG3 := Lib.hid hg3
      have HE3 := Lib.hid hE3
      have HR3 := Lib.hid hR3
      have HNF := Lib.hid hnf
      clear hA3 hb3 hs3 hv3 hg3 hE3 hR3 hnf cs2 cv2 fv2
      go_loopw [45] (fun i wr => ∃ j : Nat, j ≤ k ∧ i = .int .i64 j ∧ Hid (Run A3 F wr s m3 l3 t3 (X.expAll (ds.take j)).raw)) (fun i _ => k - (intOf i).toNat)
      case atStart => exact ⟨0, Nat.zero_le _, rfl, HR3⟩
      case round =>
        obtain ⟨j, hjk, rfl, HJ⟩ := hrel
        have hcs : wr.cell? ⟨w.heap.size, 0, none⟩ = some (.pointer (some ⟨s, 0, none⟩)) := cell_of_row _ _ 0 _ _ _ (HJ.out.chg.heap HS3.out (HNF.out _ (Nat.le_refl _)))
        have hcv : wr.cell? ⟨w.heap.size + 1, 0, none⟩ = some (.slice (some ⟨blk, 0, none⟩) k cv) := cell_of_row _ _ 0 _ _ _ (HJ.out.chg.heap HV3.out (HNF.out _ (Nat.le_succ _)))
        by_cases hlt : j < k
        · obtain ⟨d, hd⟩ : ∃ d, ds[j]? = some d := ⟨_, List.getElem?_eq_getElem (by rw [HDL.out]; omega)⟩
          obtain ⟨q0, q1⟩ := dues_get hd
          have hgw : wr.heap[blk]? = some (.cells cur 105) := HJ.out.chg.heap HG3.out (HNF.out _ (by omega))
          have c0 : wr.cell? ⟨blk, j * 2, none⟩ = some (.string ⟨d.key.toArray⟩) := by
            rw [cell_of_row wr blk _ _ _ _ hgw, ← Array.getElem?_toList, HCUR.out _ (by omega), q0]
          have c1 : wr.cell? ⟨blk, j * 2 + 1, none⟩ = some (.pointer (some ⟨d.b, 0, none⟩)) := by
            rw [cell_of_row wr blk _ _ _ _ hgw, ← Array.getElem?_toList, HCUR.out _ (by omega), q1]
          have hcs' : (wr.alloc (.cells #[.string ⟨d.key.toArray⟩, .pointer (some ⟨d.b, 0, none⟩)] 105)).cell? ⟨w.heap.size, 0, none⟩ = some (.pointer (some ⟨s, 0, none⟩)) :=
            (((Below.refl wr.heap.size wr).alloc (Nat.le_refl _) _).cell (p := ⟨w.heap.size, 0, none⟩) (block_lt (HJ.out.chg.heap HS3.out (HNF.out _ (Nat.le_refl _))))).trans hcs
          obtain ⟨e, he, hed⟩ := Dues.still H.out.good HD2.out hd
          have HX : Hid (∀ W, Below wr.heap.size wr W → Calls Tryz.prog 41 #[.pointer (some ⟨s, 0, none⟩), .string ⟨d.key.toArray⟩, .pointer (some ⟨d.b, 0, none⟩)] W fun r w' => r = .returned (.tuple #[]) ∧ Run A3 F w' s m3 l3 t3 (X.expAll (ds.take (j + 1))).raw) := Lib.hid (by
            intro W hb
            have := expires_any (HJ.out.below hb) (Dues.good H.out.good HD2.out j) he
            rw [← take_snoc_get hd, expAll_append, ← hed]
            exact this)
          clear hd q0 q1 hgw he hed
          go_wp2_with (go_at_call 41; refine (HX.out _ ((Below.refl _ _).alloc (Nat.le_refl _) _)).mono ?_; rintro r w2 ⟨rfl, hr⟩
                       have HR4 := Lib.hid hr
                       clear hr)
          go_roundw
          case rel => exact ⟨j + 1, by omega, by go_num, HR4⟩
          case measure => simp [intOf]; omega
        · obtain rfl : j = k := by omega
          have HEW : Hid (wr.heap[E1]? = some (Obj.deferred (some []))) := Lib.hid (HJ.out.chg.heap HE3.out (HNF.out _ (by omega)))
          have HFIN : Hid (∀ o, SweepPost s F X most w (.returned (.int .i64 j)) (wr.putObj E1 o)) := Lib.hid (by
            intro o
            refine ⟨ds, HD2.out, by rw [HDL.out, hmin], ?_⟩
            have h1 := (HJ.out.to (Dues.good H.out.good HD2.out j)).pre HB3.out
            have h2 : X.expAll (ds.take j) = X.expAll (ds.take most.toNat) := by
              rw [← HMIN.out]
              congr 1
              rw [← HDL.out, List.take_eq_take_iff]; omega
            rw [h2] at h1
            exact h1.putObj (by omega) HEW.out o)
          go_wp2_with fail
          refine (show Code.wpIn Fence.wide 6 Tryz.prog _ _ _ _ from ?_)
          gi_wp2_with fail
          refine ⟨by simp, .inl ⟨_, _, rfl, run_takeDeferred HEW.out, ?_⟩⟩
          exact ⟨_, by simp [results, Tryz.f11, go_sem], HFIN.out _⟩
  case stop =>
    rintro E1 c pre A hE hSp h _
    exact h.elim
end
end Go.Proofs.YtelbmphmihjgfaaGreat.DEnt
