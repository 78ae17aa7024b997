
/- snapshot.Load (printed by tools/gen-load.py). -/
import Derived.Test.YteiklgbjjmlmaaaGreatZSnRv5
import Derived.Deep.Cut
import Derived.Deep.RegionHeld3
set_option linter.unusedVariables false
set_option linter.unusedSimpArgs false
namespace Go.Proofs.YteiklgbjjmlmaaaGreat
open Go.RowKit Pantry

theorem alloc_get {w : World} {o : Obj} {k : Nat} {x : Obj} (h : w.heap[k]? = some x) : (w.alloc o).heap[k]? = some x :=
  (((Below.refl _ w).alloc (Nat.le_refl _) o).block k (Array.getElem?_eq_some_iff.1 h).1).trans h
theorem alloc_at {w : World} {o : Obj} {k : Nat} (h : w.heap.size = k) : (w.alloc o).heap[k]? = some o := h ▸ heap_alloc_new w o
theorem rvStored : ElemT Tryz.prog 22 51 7 120 (.agg #[.string ⟨#[]⟩, .int .i64 0, .string ⟨#[]⟩, .slice none 0 0, .slice none 0 0, .slice none 0 0, .int .i64 0]) := ⟨Tryz.underlying22, by kernel_rfl, rfl, by omega, by omega⟩
/-- What Load answers. -/
def Loaded (w : World) (res : Except Int (Nat × List SE)) (e : Ending) (w' : World) : Prop :=
  Below w.heap.size w w' ∧ match res with
  | .error c => e = .returned (.tuple #[.int .i64 0, .slice none 0 0, .int .i64 c])
  | .ok (now, l) => ∃ v L, e = .returned (.tuple #[.int .i64 now, v, .int .i64 0]) ∧ OwnS w' w.heap.size v L ∧ L.map (·.1) = l
theorem Loaded.err {w w' : World} {res : Except Int (Nat × List SE)} {c : Int} (h : res = .error c) (hb : Below w.heap.size w w') : Loaded w res (.returned (.tuple #[.int .i64 0, .slice none 0 0, .int .i64 c])) w' := by
  subst h
  exact ⟨hb, rfl⟩
theorem ent_eats {r r1 : List UInt8} {x : SE} (h : entR r = .ok (x, r1)) : r1.length + 1 ≤ r.length ∧ x.key.length ≤ 1048576 ∧ Shaped x.val := by
  obtain ⟨hg, rfl⟩ := ent_exact.only r x r1 h
  refine ⟨?_, hg.1, hg.2.2⟩
  unfold entB valB
  simp only [List.length_append, List.length_cons]
  omega
attribute [-go_sem] Builtin.append_
set_option maxRecDepth 100000 in
set_option maxHeartbeats 16000000 in
theorem load_any (w : World) (a : Option Addr) (n c : Nat) (l : List UInt8) (hl : l.length = n) (hnc : n ≤ c) (hc : c ≤ 9223372036854775807) (hnil : a = none → c = 0) (hr : Rd w a (b8 l)):
    Calls Tryz.prog 18 #[.slice a n c] w (Loaded w (loadR l)) := by
  have hmf : ∀ (fn : Fn) (first cap : Array Value) (w : World), (Instr.makeFunc fn first cap).run Tryz.prog w = .ok (.func fn first cap) w := fun _ _ _ _ => rfl
  by_cases hb : 16777216 < n
  · have hbi : (16777216 : Int) < (n : Int) := by omega
    have HE : Hid (loadR l = .error 2) := Lib.hid (by unfold loadR; rw [if_pos (by omega)])
    clear hr
    go_enter_defers Tryz.func18, Tryz.ntmps18
    go_wp2_with fail
    refine door_none (B := w.heap.size) ⟨alloc_get (alloc_get (heap_alloc_new w _)), alloc_get (alloc_at (by simp)), alloc_at (by simp)⟩ rfl rfl rfl rfl (.err HE.out ?_)
    exact (((Below.refl _ _).alloc (Nat.le_refl _) _).alloc (by simp) _).alloc (by simp; omega) _
  have HR := Lib.hid hr
  have HL := Lib.hid hl
  have HN := Lib.hid hnil
  have HLT : Hid (∀ x, a = some x → l ≠ [] → x.block < w.heap.size) := Lib.hid fun x hx hne => by
    obtain ⟨y, hy, h1⟩ := hr.block_lt (fun e => hne (by simpa [b8] using e))
    obtain rfl : x = y := by rw [hx] at hy; simpa using hy
    exact h1
  have HBIG : Hid (¬ 16777216 < l.length) := Lib.hid (by rw [hl]; exact hb)
  clear hr hl hnil
  have hbi : ¬ (16777216 : Int) < (n : Int) := by omega
  have hmx : Tryz.prog.follows .mixedOrders = true := by kernel_rfl
  have HQE : Hid (∀ (c : Int), loadR l = .error c → ∀ w1, Below w.heap.size w w1 → ∀ w', Below w.heap.size w1 w' → Loaded w (loadR l) (.returned (.tuple #[.int .i64 0, .slice none 0 0, .int .i64 c])) w') := Lib.hid fun c hc w1 h1 w' h2 => .err hc (h1.trans h2)
  have HQO : Hid (∀ now L v w', loadR l = .ok (now, L.map (·.1)) → Below w.heap.size w w' → OwnS w' w.heap.size v L → Loaded w (loadR l) (.returned (.tuple #[.int .i64 (now : Nat), v, .int .i64 0])) w') := Lib.hid fun now L v w' h1 h2 h3 => by rw [h1]; exact ⟨h2, v, L, rfl, h3, rfl⟩
  obtain ⟨Q, hQ⟩ : ∃ Q, Loaded w (loadR l) = Q := ⟨_, rfl⟩
  rw [hQ] at HQE HQO ⊢
  clear hQ
  go_enter_defers Tryz.func18, Tryz.ntmps18
  obtain ⟨B, hB⟩ : ∃ B, w.heap.size = B := ⟨_, rfl⟩
  refine Code.wp_mono (LdPost.imp (B := B)) ?_
  have HB0 := Lib.hid hB
  clear hB
  go_upto_region 5 with fail
  obtain ⟨A, hA⟩ : ∃ A, ((((w.alloc (.cells #[.int .i64 0] 2)).alloc (.cells #[.slice none 0 0] 22)).alloc (.cells #[.int .i64 0] 25)).alloc (.cells #[.slice a n c] 81)) = A := ⟨_, rfl⟩
  have hbA : Below w.heap.size w A := by rw [← hA]; exact ((((Below.refl _ _).alloc (Nat.le_refl _) _).alloc (by simp) _).alloc (by simp; omega) _).alloc (by simp; omega) _
  have hB3 : Box3 A w.heap.size (.int .i64 0) (.slice none 0 0) (.int .i64 0) := by
    rw [← hA]
    exact ⟨alloc_get (alloc_get (alloc_get (heap_alloc_new w _))), alloc_get (alloc_get (alloc_at (by simp))), alloc_get (alloc_at (by simp))⟩
  have hAs : A.heap.size = w.heap.size + 1 + 1 + 1 + 1 := by rw [← hA]; simp
  have hR0 : RdAt w.heap.size A (w.heap.size + 1 + 1 + 1) l := by
    have h1 : A.heap[w.heap.size + 1 + 1 + 1]? = some (.cells #[.slice a n c] 81) := by
      rw [← hA]
      exact alloc_at (by simp)
    refine ⟨by omega, a, c, ?_, HR.out.below hbA, by rw [HL.out]; exact hnc, hc, HN.out, HLT.out⟩
    rw [HL.out]; exact h1
  have HR0 := Lib.hid hR0
  have HB3 := Lib.hid hB3
  have HAS := Lib.hid hAs
  have HBA := Lib.hid hbA
  have HSR := Lib.hid HR
  have hB := HB0.out
  rw [hA]
  rw [hB] at HR0 HB3 HAS HBA HLT HQE HQO ⊢
  have HSZ : Hid (∀ W, Below B w W → B ≤ W.heap.size) := Lib.hid fun W h => by rw [← hB]; exact h.size
  clear hB
  obtain ⟨R, hR⟩ : ∃ R, B + 1 + 1 + 1 = R := ⟨_, rfl⟩
  rw [hR] at HR0 HAS ⊢
  clear hA hbA hB3 hAs hR0
  go_wp2_with fail
  go_loopw [17] (fun i wr => ∃ (j : Nat) (rest : List UInt8), j ≤ 8 ∧ i = .int .i64 j ∧ Hid (RdAt B wr R rest) ∧ Hid (RdK R A wr) ∧ Hid (headR headB l = headR (headB.drop j) rest)) (fun i _ => 8 - (intOf i).toNat)
  case atStart => exact ⟨0, l, by omega, rfl, HR0, Lib.hid (RdK.refl _ _), Lib.hid rfl⟩
  case round =>
    obtain ⟨j, rest, hj, rfl, HRR, HK, HHD⟩ := hrel
    have HB3r : Hid (Box3 wr B (.int .i64 0) (.slice none 0 0) (.int .i64 0)) := Lib.hid (Box3.chg HB3.out HK.out (fun k hk => by omega))
    have HBR : Hid (Below B w wr) := Lib.hid (HBA.out.trans (HK.out.below (by have := HAS.out; omega) (by omega)))
    by_cases hlt : j < 8
    · have hlti : (j : Int) < 8 := by omega
      obtain ⟨hbv, hhb⟩ : ∃ hbv, headB[j]? = some hbv := ⟨_, List.getElem?_eq_getElem (show j < headB.length from hlt)⟩
      have hbz : (({ data := #[112, 97, 110, 116, 114, 121, 0, 1] } : ByteArray)[j]'hlt).toNat = hbv.toNat := by
        have h8 : ∀ k (hk : k < 8), (({ data := #[112, 97, 110, 116, 114, 121, 0, 1] } : ByteArray)[k]'hk).toNat = (headB[k]'hk).toNat := by decide
        obtain ⟨h1, h2⟩ := List.getElem?_eq_some_iff.1 hhb
        exact (h8 j hlt).trans (congrArg UInt8.toNat h2)
      obtain ⟨hn, hhn⟩ : ∃ hn, hbv.toNat = hn := ⟨_, rfl⟩
      rw [hhn] at hbz
      have HHN := Lib.hid hhn
      have HHB := Lib.hid (headR_step hhb)
      clear hhb hhn
      cases rest with
      | nil =>
        have HT := Lib.hid (take_none (HRR.out.below ((Below.refl _ wr).drew)))
        have HE := Lib.hid (loadR_head_err HBIG.out (c := 5) (by rw [HHD.out, HHB.out]; rfl))
        go_upto_region 8 with fail
        refine wp_region_held_drew (S := fun _ => True) hmx trivial (fun hHeld => ?_)
        simp only [List.size_toArray, List.length_cons, List.length_nil, Nat.zero_add, Nat.reduceAdd]
        refine wpAnyH_take (i := 0) (v := ?vv1) rfl (by kernel_rfl) (by kernel_rfl) (by kernel_rfl) (fun _ _ _ h => LdPost.put (d := 20) (by decide) h) (Or.inl ⟨by rfl, ?hy1⟩) hHeld ?rest1
        case hy1 =>
          intro W hSw
          go_simp
          all_goals with_reducible rfl
        try simp only [Act.put, List.setIfInBounds_toArray, List.set_cons_zero, List.set_cons_succ, List.getElem_toArray, List.getElem_cons_zero, List.getElem_cons_succ]
        refine wpAnyH_take (i := 4) (v := ?vv2) rfl (by kernel_rfl) (by kernel_rfl) (by kernel_rfl) (fun _ _ _ h => LdPost.put (d := 24) (by decide) h) (Or.inl ⟨by rfl, ?hy2⟩) hHeld ?rest2
        case hy2 =>
          intro W hSw
          go_simp
          all_goals with_reducible rfl
        try simp only [Act.put, List.setIfInBounds_toArray, List.set_cons_zero, List.set_cons_succ, List.getElem_toArray, List.getElem_cons_zero, List.getElem_cons_succ]
        refine wpAnyH_take (i := 5) (v := ?vv3) rfl (by kernel_rfl) (by kernel_rfl) (by kernel_rfl) (fun _ _ _ h => LdPost.put (d := 25) (by decide) h) (Or.inl ⟨by rfl, ?hy3⟩) hHeld ?rest3
        case hy3 =>
          intro W hSw
          go_simp
          all_goals with_reducible rfl
        try simp only [Act.put, List.setIfInBounds_toArray, List.set_cons_zero, List.set_cons_succ, List.getElem_toArray, List.getElem_cons_zero, List.getElem_cons_succ]
        refine wpAnyH_ready (rs := [1]) (by kernel_rfl) (by simp) ?_
        refine AllReadyH.cons rfl (fun K hK => ?_) AllReadyH.nil
        go_simp
        refine HT.out.mono ?_
        rintro e w2 ⟨hb2, rfl⟩
        exact LdPost.dies (Box3.chg HB3r.out (RdK.trans (RdK.of_below ((Below.refl _ wr).drew)) hb2) (fun k hk => by omega)) rfl rfl rfl rfl (HQE.out _ HE.out _ (HBR.out.trans ((RdK.trans (RdK.of_below ((Below.refl _ wr).drew)) hb2).below (HSZ.out _ HBR.out) (by omega))))
      | cons d r =>
        have HT := Lib.hid (take_one (HRR.out.below ((Below.refl _ wr).drew)))
        obtain ⟨dn, hdn⟩ : ∃ dn, d.toNat = dn := ⟨_, rfl⟩
        have HDN := Lib.hid hdn
        have HM := fun (w : World) (b : Bool) => Lib.hid (must_any w b 290)
        clear hdn
        by_cases hdh : dn = hn
        · have heq : ((dn : Int) == (hn : Int)) = true := by simp [hdh]
          have HHX : Hid (headR headB l = headR (headB.drop (j + 1)) r) := Lib.hid (by
            rw [HHD.out, HHB.out]
            show (if d = hbv then headR (headB.drop (j + 1)) r else .error 290) = _
            rw [if_pos (UInt8.toNat.inj (by rw [HDN.out, HHN.out, hdh]))])
          clear hdh
          go_upto_region 8 with fail
          refine wp_region_held_drew (S := fun _ => True) hmx trivial (fun hHeld => ?_)
          simp only [List.size_toArray, List.length_cons, List.length_nil, Nat.zero_add, Nat.reduceAdd]
          refine wpAnyH_take (i := 0) (v := ?vv4) rfl (by kernel_rfl) (by kernel_rfl) (by kernel_rfl) (fun _ _ _ h => LdPost.put (d := 20) (by decide) h) (Or.inl ⟨by rfl, ?hy4⟩) hHeld ?rest4
          case hy4 =>
            intro W hSw
            go_simp
            all_goals with_reducible rfl
          try simp only [Act.put, List.setIfInBounds_toArray, List.set_cons_zero, List.set_cons_succ, List.getElem_toArray, List.getElem_cons_zero, List.getElem_cons_succ]
          refine wpAnyH_take (i := 4) (v := ?vv5) rfl (by kernel_rfl) (by kernel_rfl) (by kernel_rfl) (fun _ _ _ h => LdPost.put (d := 24) (by decide) h) (Or.inl ⟨by rfl, ?hy5⟩) hHeld ?rest5
          case hy5 =>
            intro W hSw
            go_simp
            all_goals with_reducible rfl
          try simp only [Act.put, List.setIfInBounds_toArray, List.set_cons_zero, List.set_cons_succ, List.getElem_toArray, List.getElem_cons_zero, List.getElem_cons_succ]
          refine wpAnyH_take (i := 5) (v := ?vv6) rfl (by kernel_rfl) (by kernel_rfl) (by kernel_rfl) (fun _ _ _ h => LdPost.put (d := 25) (by decide) h) (Or.inl ⟨by rfl, ?hy6⟩) hHeld ?rest6
          case hy6 =>
            intro W hSw
            go_simp
            all_goals with_reducible rfl
          try simp only [Act.put, List.setIfInBounds_toArray, List.set_cons_zero, List.set_cons_succ, List.getElem_toArray, List.getElem_cons_zero, List.getElem_cons_succ]
          refine wpAnyH_ready (rs := [1]) (by kernel_rfl) (by simp) ?_
          refine AllReadyH.cons rfl (fun K hK => ?_) AllReadyH.nil
          go_simp
          refine HT.out.mono ?_
          rintro e w2 ⟨hb2, x, cx, rfl, hx, hR1⟩
          rw [HDN.out] at hx
          go_wp2_with fail
          refine hK.out _ _ trivial (fun hHeld => ?_)
          clear hK K
          try simp only [Act.put, List.setIfInBounds_toArray, List.set_cons_zero, List.set_cons_succ, List.getElem_toArray, List.getElem_cons_zero, List.getElem_cons_succ]
          refine wpAnyH_ready (rs := [2]) (by kernel_rfl) (by simp) ?_
          refine AllReadyH.cons rfl (fun K hK => ?_) AllReadyH.nil
          go_simp
          refine hK.out _ _ trivial (fun hHeld => ?_)
          clear hK K
          try simp only [Act.put, List.setIfInBounds_toArray, List.set_cons_zero, List.set_cons_succ, List.getElem_toArray, List.getElem_cons_zero, List.getElem_cons_succ]
          refine wpAnyH_ready (rs := [3]) (by kernel_rfl) (by simp) ?_
          refine AllReadyH.cons rfl (fun K hK => ?_) AllReadyH.nil
          go_simp
          refine hK.out _ _ trivial (fun hHeld => ?_)
          clear hK K
          try simp only [Act.put, List.setIfInBounds_toArray, List.set_cons_zero, List.set_cons_succ, List.getElem_toArray, List.getElem_cons_zero, List.getElem_cons_succ]
          refine wpAnyH_ready (rs := [6]) (by kernel_rfl) (by simp) ?_
          refine AllReadyH.cons rfl (fun K hK => ?_) AllReadyH.nil
          go_simp
          refine hK.out _ _ trivial (fun hHeld => ?_)
          clear hK K
          try simp only [Act.put, List.setIfInBounds_toArray, List.set_cons_zero, List.set_cons_succ, List.getElem_toArray, List.getElem_cons_zero, List.getElem_cons_succ]
          refine wpAnyH_ready (rs := [7]) (by kernel_rfl) (by simp) ?_
          refine AllReadyH.cons rfl (fun K hK => ?_) AllReadyH.nil
          go_simp
          refine (HM _ _).out.mono ?_
          rintro e w3 ⟨rfl, rfl⟩
          go_wp2_with fail
          refine hK.out _ _ trivial (fun hHeld => ?_)
          clear hK K
          try simp only [Act.put, List.setIfInBounds_toArray, List.set_cons_zero, List.set_cons_succ, List.getElem_toArray, List.getElem_cons_zero, List.getElem_cons_succ]
          refine wpAnyH_done (by kernel_rfl) ?_ _
          go_wp2_with fail
          go_roundw
          case rel => exact ⟨j + 1, r, by omega, by go_num, Lib.hid hR1, Lib.hid (HK.out.trans (RdK.trans (RdK.of_below ((Below.refl _ wr).drew)) hb2)), HHX⟩
          case measure => simp [intOf]; omega
        · have heq : ((dn : Int) == (hn : Int)) = false := by simp; omega
          have HE := Lib.hid (loadR_head_err HBIG.out (c := 290) (by
            rw [HHD.out, HHB.out]
            show (if d = hbv then headR (headB.drop (j + 1)) r else .error 290) = _
            rw [if_neg (fun e => hdh (by rw [← HDN.out, ← HHN.out, e]))]))
          clear hdh
          go_upto_region 8 with fail
          refine wp_region_held_drew (S := fun _ => True) hmx trivial (fun hHeld => ?_)
          simp only [List.size_toArray, List.length_cons, List.length_nil, Nat.zero_add, Nat.reduceAdd]
          refine wpAnyH_take (i := 0) (v := ?vv7) rfl (by kernel_rfl) (by kernel_rfl) (by kernel_rfl) (fun _ _ _ h => LdPost.put (d := 20) (by decide) h) (Or.inl ⟨by rfl, ?hy7⟩) hHeld ?rest7
          case hy7 =>
            intro W hSw
            go_simp
            all_goals with_reducible rfl
          try simp only [Act.put, List.setIfInBounds_toArray, List.set_cons_zero, List.set_cons_succ, List.getElem_toArray, List.getElem_cons_zero, List.getElem_cons_succ]
          refine wpAnyH_take (i := 4) (v := ?vv8) rfl (by kernel_rfl) (by kernel_rfl) (by kernel_rfl) (fun _ _ _ h => LdPost.put (d := 24) (by decide) h) (Or.inl ⟨by rfl, ?hy8⟩) hHeld ?rest8
          case hy8 =>
            intro W hSw
            go_simp
            all_goals with_reducible rfl
          try simp only [Act.put, List.setIfInBounds_toArray, List.set_cons_zero, List.set_cons_succ, List.getElem_toArray, List.getElem_cons_zero, List.getElem_cons_succ]
          refine wpAnyH_take (i := 5) (v := ?vv9) rfl (by kernel_rfl) (by kernel_rfl) (by kernel_rfl) (fun _ _ _ h => LdPost.put (d := 25) (by decide) h) (Or.inl ⟨by rfl, ?hy9⟩) hHeld ?rest9
          case hy9 =>
            intro W hSw
            go_simp
            all_goals with_reducible rfl
          try simp only [Act.put, List.setIfInBounds_toArray, List.set_cons_zero, List.set_cons_succ, List.getElem_toArray, List.getElem_cons_zero, List.getElem_cons_succ]
          refine wpAnyH_ready (rs := [1]) (by kernel_rfl) (by simp) ?_
          refine AllReadyH.cons rfl (fun K hK => ?_) AllReadyH.nil
          go_simp
          refine HT.out.mono ?_
          rintro e w2 ⟨hb2, x, cx, rfl, hx, hR1⟩
          rw [HDN.out] at hx
          go_wp2_with fail
          refine hK.out _ _ trivial (fun hHeld => ?_)
          clear hK K
          try simp only [Act.put, List.setIfInBounds_toArray, List.set_cons_zero, List.set_cons_succ, List.getElem_toArray, List.getElem_cons_zero, List.getElem_cons_succ]
          refine wpAnyH_ready (rs := [2]) (by kernel_rfl) (by simp) ?_
          refine AllReadyH.cons rfl (fun K hK => ?_) AllReadyH.nil
          go_simp
          refine hK.out _ _ trivial (fun hHeld => ?_)
          clear hK K
          try simp only [Act.put, List.setIfInBounds_toArray, List.set_cons_zero, List.set_cons_succ, List.getElem_toArray, List.getElem_cons_zero, List.getElem_cons_succ]
          refine wpAnyH_ready (rs := [3]) (by kernel_rfl) (by simp) ?_
          refine AllReadyH.cons rfl (fun K hK => ?_) AllReadyH.nil
          go_simp
          refine hK.out _ _ trivial (fun hHeld => ?_)
          clear hK K
          try simp only [Act.put, List.setIfInBounds_toArray, List.set_cons_zero, List.set_cons_succ, List.getElem_toArray, List.getElem_cons_zero, List.getElem_cons_succ]
          refine wpAnyH_ready (rs := [6]) (by kernel_rfl) (by simp) ?_
          refine AllReadyH.cons rfl (fun K hK => ?_) AllReadyH.nil
          go_simp
          refine hK.out _ _ trivial (fun hHeld => ?_)
          clear hK K
          try simp only [Act.put, List.setIfInBounds_toArray, List.set_cons_zero, List.set_cons_succ, List.getElem_toArray, List.getElem_cons_zero, List.getElem_cons_succ]
          refine wpAnyH_ready (rs := [7]) (by kernel_rfl) (by simp) ?_
          refine AllReadyH.cons rfl (fun K hK => ?_) AllReadyH.nil
          go_simp
          refine (HM _ _).out.mono ?_
          rintro e w3 ⟨rfl, rfl⟩
          exact LdPost.dies (Box3.chg HB3r.out (RdK.trans (RdK.of_below ((Below.refl _ wr).drew)) hb2) (fun k hk => by omega)) rfl rfl rfl rfl (HQE.out _ HE.out _ (HBR.out.trans ((RdK.trans (RdK.of_below ((Below.refl _ wr).drew)) hb2).below (HSZ.out _ HBR.out) (by omega))))
    · obtain rfl : j = 8 := by omega
      have HH : Hid (headR headB l = .ok ((), rest)) := Lib.hid (by rw [HHD.out]; rfl)
      have HNU := Lib.hid (rnum_any HRR.out 0 9007199254740992 (by decide) (by decide) (HSZ.out _ HBR.out))
      clear HHD
      cases hq : numR 0 9007199254740992 rest with
      | error d =>
        rw [hq] at HNU
        have HE := Lib.hid (loadR_now_err HBIG.out HH.out hq)
        clear hq
        go_wp2_with (go_at_call 45; refine HNU.out.mono ?_; rintro e w2 ⟨hb2, rfl⟩; have HB2 := Lib.hid hb2; clear hb2)
        exact LdPost.dies (Box3.chg HB3r.out HB2.out (fun k hk => by omega)) rfl rfl rfl rfl (HQE.out _ HE.out _ (HBR.out.trans (HB2.out.below (HSZ.out _ HBR.out) (by omega))))
      | ok q =>
        obtain ⟨now, r1⟩ := q
        rw [hq] at HNU
        have HQ1 := Lib.hid hq
        have hcB := cell_of_row wr B 0 _ _ _ HB3r.out.h0
        clear hq hcB
        go_upto_region 11 with (go_at_call 45; refine HNU.out.mono ?_; rintro e w2 ⟨hb2, hv, hR2⟩; obtain rfl : e = .returned (.int .i64 now) := hv
                                have HB2 := Lib.hid hb2
                                have h3 := Box3.chg HB3r.out hb2 (fun k hk => by omega)
                                have HB3s := Lib.hid h3
                                have HR2 := Lib.hid hR2
                                have c0 : w2.cell? ⟨B, 0, none⟩ = some (.int .i64 0) := cell_of_row w2 B 0 _ _ _ h3.h0
                                have f0 : w2.frozen? ⟨B, 0, none⟩ = false := frozen_of_row w2 B 0 _ _ h3.h0
                                clear hb2 hR2 h3)
        obtain ⟨W2, hW2⟩ : ∃ W2, w2.setCell ⟨B, 0, none⟩ (.int .i64 (now : Int)) = W2 := ⟨_, rfl⟩
        have hch : Chg (fun k => k = B) w2 W2 := by rw [← hW2]; exact Chg.setCell (S := fun k => k = B) (p := ⟨B, 0, none⟩) (Chg.refl _ w2) (fun _ => rfl) _
        have HB3t : Hid (Box3 W2 B (.int .i64 (now : Int)) (.slice none 0 0) (.int .i64 0)) := Lib.hid (by
          rw [← hW2]
          exact ⟨heap_set_here HB3s.out.h0 _, heap_set_off HB3s.out.h1 (by omega) _, heap_set_off HB3s.out.h2 (by omega) _⟩)
        have HR3 : Hid (RdAt B W2 R r1) := Lib.hid (by rw [← hW2]; exact HR2.out.set_off (Nat.le_refl _) (by omega) _)
        have HBW : Hid (Below B w W2) := Lib.hid ((HBR.out.trans (HB2.out.below (HSZ.out _ HBR.out) (by omega))).trans (hch.below (Nat.le_trans (HSZ.out _ HBR.out) HB2.out.size) (fun k hk => by omega)))
        have HZ2 : Hid (R + 1 ≤ W2.heap.size) := Lib.hid (by have h1 := HAS.out; have h2 := HK.out.size; have h3 := HB2.out.size; have h4 := hch.size; omega)
        rw [hW2]
        have HNV := Lib.hid (rnum_any HR3.out 0 9223372036854775807 (by decide) (by decide) (HSZ.out _ HBW.out))
        clear hW2 hch c0 f0
        cases hq : numR 0 9223372036854775807 r1 with
        | error d =>
          rw [hq] at HNV
          have HE := Lib.hid (loadR_few_err HBIG.out HH.out HQ1.out hq)
          clear hq
          go_wp2_with (go_at_call 45; refine HNV.out.mono ?_; rintro e w3 ⟨hb3, rfl⟩; have HB4 := Lib.hid hb3; clear hb3)
          exact LdPost.dies (Box3.chg HB3t.out HB4.out (fun k hk => by omega)) rfl rfl rfl rfl (HQE.out _ HE.out _ (HBW.out.trans (HB4.out.below (HSZ.out _ HBW.out) (by omega))))
        | ok q =>
          obtain ⟨m, r2⟩ := q
          rw [hq] at HNV
          have HQ2 := Lib.hid hq
          have hm : m ≤ 9223372036854775807 := (numR_lt hq).2
          have HRL : Hid (r2.length ≤ 16777216) := Lib.hid (by
            have h1 := HBIG.out
            have e1 := ((head_exact headB).only l () rest HH.out).2
            have e2 := ((num_exact 0 9007199254740992 (by decide)).only rest now r1 HQ1.out).2
            have e3 := ((num_exact 0 9223372036854775807 (by decide)).only r1 m r2 hq).2
            have f1 := congrArg List.length e1
            have f2 := congrArg List.length e2
            have f3 := congrArg List.length e3
            rw [List.length_append] at f1 f2 f3
            omega)
          clear hq
          go_wp2_with (go_at_call 45; refine HNV.out.mono ?_; rintro e w3 ⟨hb3, hv, hR4⟩; obtain rfl : e = .returned (.int .i64 m) := hv
                       have HB4 := Lib.hid hb3
                       have HR4 := Lib.hid hR4
                       clear hb3 hR4)
          go_loopw [33] (fun i wr => ∃ (j : Nat) (L : List SV) (rest : List UInt8) (v : Value), j ≤ m ∧ i = .int .i64 j ∧ Hid (Box3 wr B (.int .i64 (now : Int)) v (.int .i64 0)) ∧ Hid (OwnS wr (R + 1) v L) ∧ Hid (L.length = j) ∧ Hid (RdAt B wr R rest) ∧
            Hid (Below B w wr) ∧ Hid (R + 1 ≤ wr.heap.size) ∧ Hid (entsR m [] r2 = entsR (m - j) (L.map (·.1)) rest) ∧ Hid (rest.length + j ≤ 16777216)) (fun i _ => m - (intOf i).toNat)
          case atStart => exact ⟨0, [], r2, .slice none 0 0, Nat.zero_le _, rfl, Lib.hid (Box3.chg HB3t.out HB4.out (fun k hk => by omega)), Lib.hid (OwnS.nil _ _), Lib.hid rfl, HR4, Lib.hid (HBW.out.trans (HB4.out.below (HSZ.out _ HBW.out) (by omega))), Lib.hid (Nat.le_trans HZ2.out HB4.out.size), Lib.hid rfl, HRL⟩
          case round =>
            clear HB3r HB3s HB3t HBR HBW HZ2 HB2 HR2 HR3 HB4 HR4 HRR HK HNU HNV
            obtain ⟨j, L, rest3, v, hj, rfl, HB3r, HO, HLL, HRR, HBR, HZ, HEN, HRL2⟩ := hrel
            have HNB : Hid (B ≤ wr.heap.size) := Lib.hid (HSZ.out _ HBR.out)
            have HDI : Hid (∀ c, entsR (m - j) (L.map (·.1)) rest3 = .error c → loadR l = .error c) := Lib.hid fun c hc => loadR_ents_err HBIG.out HH.out HQ1.out HQ2.out (HEN.out.trans hc)
            by_cases hlt : j < m
            · have hlti : (j : Int) < (m : Int) := by omega
              obtain ⟨k, hk⟩ : ∃ k, m - j = k + 1 := ⟨m - j - 1, by omega⟩
              have HKK := Lib.hid hk
              rw [hk] at HEN HDI
              have HTX := Lib.hid (rtext_any HRR.out HNB.out)
              clear hk
              cases hq : textR rest3 with
              | error d =>
                rw [hq] at HTX
                have HE := Lib.hid (HDI.out d (entsR_err (entR_text_err hq)))
                clear hq
                go_wp2_with (go_at_call 46; refine HTX.out.mono ?_; rintro e w4 ⟨hb4, rfl⟩; have HB4 := Lib.hid hb4; clear hb4)
                exact LdPost.dies (Box3.chg HB3r.out HB4.out (fun k hk => by omega)) rfl rfl rfl rfl (HQE.out _ HE.out _ (HBR.out.trans (HB4.out.below HNB.out (by omega))))
              | ok q =>
                obtain ⟨key, r4⟩ := q
                rw [hq] at HTX
                have HT1 := Lib.hid hq
                clear hq
                go_upto_region 14 with (go_at_call 46; refine HTX.out.mono ?_; rintro e w4 ⟨hb4, rfl, hR4⟩; have HB4 := Lib.hid hb4; have HR4 := Lib.hid hR4; clear hb4 hR4)
                obtain ⟨W4, hW4⟩ : ∃ W4, w4.alloc (.cells #[.string ⟨key.toArray⟩, .int .i64 0, .string ⟨#[]⟩, .slice none 0 0, .slice none 0 0, .slice none 0 0, .int .i64 0] 51) = W4 := ⟨_, rfl⟩
                have hX4 : W4.heap[w4.heap.size]? = some (.cells #[.string ⟨key.toArray⟩, .int .i64 0, .string ⟨#[]⟩, .slice none 0 0, .slice none 0 0, .slice none 0 0, .int .i64 0] 51) := by rw [← hW4]; exact heap_alloc_new w4 _
                have hbW4 : Below w4.heap.size w4 W4 := by rw [← hW4]; exact (Below.refl _ _).alloc (Nat.le_refl _) _
                have hs4 : W4.heap.size = w4.heap.size + 1 := by rw [← hW4]; simp
                have HR5 := Lib.hid (HR4.out.below hbW4)
                have HK4 := Lib.hid (RdK.of_below (R := R) hbW4)
                have HOw := Lib.hid (HO.out.chg HB4.out (fun k hk => by omega))
                have HBw := Lib.hid (Box3.chg HB3r.out HB4.out (fun k hk => by omega))
                have HBB := Lib.hid (HBR.out.trans (HB4.out.below HNB.out (by omega)))
                have HZw : Hid (R + 1 ≤ w4.heap.size) := Lib.hid (Nat.le_trans HZ.out HB4.out.size)
                rw [hW4]
                obtain ⟨X, hX⟩ : ∃ X, w4.heap.size = X := ⟨_, rfl⟩
                rw [hX] at hX4 hs4 HZw ⊢
                have hRX : R < X := HZw.out
                have HXX := Lib.hid hX
                have HX4 := Lib.hid hX4
                have HS4 := Lib.hid hs4
                have HNU := Lib.hid (rnum_any HR5.out 0 9007199254740992 (by decide) (by decide) (by have := HS4.out; omega))
                clear hW4 hX hX4 hs4 hbW4
                cases hq : numR 0 9007199254740992 r4 with
                | error d =>
                  rw [hq] at HNU
                  have HE := Lib.hid (HDI.out d (entsR_err (entR_dl_err HT1.out hq)))
                  clear hq
                  go_wp2_with (go_at_call 45; refine HNU.out.mono ?_; rintro e w5 ⟨hb5, rfl⟩; have HB5 := Lib.hid (HK4.out.trans hb5); clear hb5)
                  exact LdPost.dies (Box3.chg HBw.out HB5.out (fun k hk => by omega)) rfl rfl rfl rfl (HQE.out _ HE.out _ (HBB.out.trans (HB5.out.below (by have := HXX.out; omega) (by omega))))
                | ok q =>
                  obtain ⟨dl, r5⟩ := q
                  rw [hq] at HNU
                  have HT2 := Lib.hid hq
                  clear hq
                  go_upto_region 15 with (go_at_call 45; refine HNU.out.mono ?_; rintro e w5 ⟨hb5, hv, hR6⟩; obtain rfl : e = .returned (.int .i64 dl) := hv
                                          have hX5 := (hb5.block (Array.getElem?_eq_some_iff.1 HX4.out).1 (Nat.ne_of_gt hRX)).trans HX4.out
                                          have HX5 := Lib.hid hX5
                                          have HS5 := Lib.hid hb5.size
                                          have HB5 := Lib.hid (HK4.out.trans hb5)
                                          have HR6 := Lib.hid hR6
                                          have c6 : w5.cell? ⟨X, 6, none⟩ = some (.int .i64 0) := cell_of_row w5 X 6 _ _ _ hX5
                                          have f6 : w5.frozen? ⟨X, 6, none⟩ = false := frozen_of_row w5 X 6 _ _ hX5
                                          clear hb5 hR6 hX5)
                  obtain ⟨W5, hW5⟩ : ∃ W5, w5.setCell ⟨X, 6, none⟩ (.int .i64 (dl : Int)) = W5 := ⟨_, rfl⟩
                  have HXW : Hid (W5.heap[X]? = some (.cells #[.string ⟨key.toArray⟩, .int .i64 0, .string ⟨#[]⟩, .slice none 0 0, .slice none 0 0, .slice none 0 0, .int .i64 (dl : Int)] 51)) := Lib.hid (by rw [← hW5]; exact heap_set_here HX5.out _)
                  have HR7 : Hid (RdAt B W5 R r5) := Lib.hid (by rw [← hW5]; exact HR6.out.set_off (by omega) (by omega) _)
                  have HB6 : Hid (RdK R w4 W5) := Lib.hid (by rw [← hW5]; exact HB5.out.set_new (by rw [HXX.out]; exact Nat.le_refl _) _)
                  have HS6 : Hid (X + 1 ≤ W5.heap.size) := Lib.hid (by rw [← hW5]; simp; have h1 := HS5.out; have h2 := HS4.out; omega)
                  rw [hW5]
                  have HVL := Lib.hid (rval_any HR7.out)
                  clear hW5 c6 f6
                  cases hq : valR r5 with
                  | error d =>
                    rw [hq] at HVL
                    have HE := Lib.hid (HDI.out d (entsR_err (entR_val_err HT1.out HT2.out hq)))
                    clear hq
                    go_wp2_with (go_at_call 47; refine HVL.out.mono ?_; rintro e w6 ⟨hb6, rfl⟩; have HB7 := Lib.hid (HB6.out.trans hb6); clear hb6)
                    exact LdPost.dies (Box3.chg HBw.out HB7.out (fun k hk => by omega)) rfl rfl rfl rfl (HQE.out _ HE.out _ (HBB.out.trans (HB7.out.below (by have := HXX.out; omega) (by omega))))
                  | ok q =>
                    obtain ⟨p, r6⟩ := q
                    rw [hq] at HVL
                    have HER := Lib.hid (entR_ok HT1.out HT2.out hq)
                    clear hq
                    obtain ⟨he1, he2, he3⟩ := ent_eats HER.out
                    have HSP := Lib.hid he3
                    have HKL := Lib.hid he2
                    have HEA := Lib.hid he1
                    clear he1 he2 he3
                    go_upto_region 16 with (go_at_call 47; refine HVL.out.mono ?_; rintro e w6 ⟨hb6, ⟨v1, v2, v3, rfl, hP⟩, hR8⟩
                                            obtain ⟨a1, a2, a3, c1, c2, c3, rfl, rfl, rfl, -⟩ := hP.plain
                                            have hX6 := (hb6.block (Array.getElem?_eq_some_iff.1 HXW.out).1 (Nat.ne_of_gt hRX)).trans HXW.out
                                            have HX6 := Lib.hid hX6
                                            have HB7 := Lib.hid (HB6.out.trans hb6)
                                            have HZ7 : Hid (W5.heap.size ≤ w6.heap.size) := Lib.hid hb6.size
                                            have HR8 := Lib.hid hR8
                                            have HP := Lib.hid hP
                                            have c1' := cell_of_row w6 X 1 _ _ _ hX6
                                            have c2' := cell_of_row w6 X 2 _ _ _ hX6
                                            have c3' := cell_of_row w6 X 3 _ _ _ hX6
                                            have c4' := cell_of_row w6 X 4 _ _ _ hX6
                                            have c5' := cell_of_row w6 X 5 _ _ _ hX6
                                            have f1' := frozen_of_row w6 X 1 _ _ hX6
                                            have f2' := frozen_of_row w6 X 2 _ _ hX6
                                            have f3' := frozen_of_row w6 X 3 _ _ hX6
                                            have f4' := frozen_of_row w6 X 4 _ _ hX6
                                            have f5' := frozen_of_row w6 X 5 _ _ hX6
                                            clear hb6 hR8 hX6 hP)
                    obtain ⟨W6, hW6⟩ : ∃ W6, (((((w6.setCell ⟨X, 1, none⟩ (.int .i64 p.kind)).setCell ⟨X, 2, none⟩ (.string ⟨p.text.toArray⟩)).setCell ⟨X, 3, none⟩ (.slice a1 p.items.length c1)).setCell ⟨X, 4, none⟩ (.slice a2 p.pairs.length c2)).setCell ⟨X, 5, none⟩ (.slice a3 p.ranks.length c3)) = W6 := ⟨_, rfl⟩
                    have hX7 : W6.heap[X]? = some (.cells #[.string ⟨key.toArray⟩, .int .i64 p.kind, .string ⟨p.text.toArray⟩, .slice a1 p.items.length c1, .slice a2 p.pairs.length c2, .slice a3 p.ranks.length c3, .int .i64 (dl : Int)] 51) := by
                      rw [← hW6]
                      exact heap_set_here (heap_set_here (heap_set_here (heap_set_here (heap_set_here HX6.out _) _) _) _) _
                    have hg : w4.heap.size ≤ X := by rw [HXX.out]; exact Nat.le_refl _
                    have hk7 : RdK R w4 W6 := by rw [← hW6]; exact ((((HB7.out.set_new hg _).set_new hg _).set_new hg _).set_new hg _).set_new hg _
                    have hr7 : RdAt B W6 R r6 := by
                      rw [← hW6]
                      have q1 : B ≤ X := by omega
                      have q2 : R ≠ X := by omega
                      exact ((((HR8.out.set_off q1 q2 _).set_off q1 q2 _).set_off q1 q2 _).set_off q1 q2 _).set_off q1 q2 _
                    have hcx : Chg (fun k => k = X) w6 W6 := by
                      rw [← hW6]
                      exact ((((Chg.setCell (S := fun k => k = X) (p := ⟨X, 1, none⟩) (Chg.refl _ w6) (fun _ => rfl) _).setCell (p := ⟨X, 2, none⟩) (fun _ => rfl) _).setCell (p := ⟨X, 3, none⟩) (fun _ => rfl) _).setCell (p := ⟨X, 4, none⟩) (fun _ => rfl) _).setCell (p := ⟨X, 5, none⟩) (fun _ => rfl) _
                    have hp7 : OwnP W6 (R + 1) p (.slice a1 p.items.length c1) (.slice a2 p.pairs.length c2) (.slice a3 p.ranks.length c3) :=
                      (HP.out.chg hcx (fun k hk => by have := HS6.out; omega)).base (by have := HS6.out; omega)
                    have hz7 : X + 1 ≤ W6.heap.size := by have h1 := HS6.out; have h2 := HZ7.out; have h3 := hcx.size; omega
                    rw [hW6]
                    clear hW6 c1' c2' c3' c4' c5' f1' f2' f3' f4' f5'
                    have hb7 : Box3 W6 B (.int .i64 (now : Int)) v (.int .i64 0) := Box3.chg HBw.out hk7 (fun k hk => by omega)
                    have ho7 : OwnS W6 (R + 1) v L := HOw.out.chg hk7 (fun k hk => by omega)
                    obtain ⟨ax, cx, rfl, hsr⟩ := ho7.srow
                    have hjn : j ≤ 16777216 := by have := HRL2.out; omega
                    obtain ⟨b1, b2, b3, d1, d2, d3, hv1, hv2, hv3, hPA⟩ := hp7.plain
                    have HSQ := Lib.hid (show seV ((⟨key, p, (dl : Int)⟩, .slice a1 p.items.length c1, .slice a2 p.pairs.length c2, .slice a3 p.ranks.length c3) : SV) = [.string ⟨key.toArray⟩, .int .i64 p.kind, .string ⟨p.text.toArray⟩, .slice a1 p.items.length c1, .slice a2 p.pairs.length c2, .slice a3 p.ranks.length c3, .int .i64 (dl : Int)] from rfl)
                    obtain ⟨rfl, -, rfl⟩ := Value.slice.inj hv1
                    obtain ⟨rfl, -, rfl⟩ := Value.slice.inj hv2
                    obtain ⟨rfl, -, rfl⟩ := Value.slice.inj hv3
                    have HFO := Lib.hid (follows_any W6 ax L.length cx (L.map (·.1)) (by rw [List.length_map]) (by have := HLL.out; omega) hsr ⟨key, p, (dl : Int)⟩ a1 a2 a3 c1 c2 c3 hPA (shaped_big HSP.out) (by have h := HKL.out; exact Nat.lt_of_le_of_lt h (by decide)))
                    simp only [seC] at HFO
                    have HO7 := Lib.hid ho7
                    have HP7 := Lib.hid hp7
                    have HB7' := Lib.hid hb7
                    have HK7 := Lib.hid hk7
                    have HR9 := Lib.hid hr7
                    have HX7 := Lib.hid hX7
                    have HZ8 := Lib.hid hz7
                    have HBC := Lib.hid (HBB.out.trans (hk7.below (by have := HXX.out; omega) (by omega)))
                    have t3 : W6.cell? ⟨B + 1, 0, none⟩ = some (.slice ax L.length cx) := cell_of_row W6 (B + 1) 0 _ _ _ hb7.h1
                    have e0 : W6.cell? ⟨X, 0, none⟩ = some (.string ⟨key.toArray⟩) := cell_of_row W6 X 0 _ _ _ hX7
                    have e1 : W6.cell? ⟨X, 1, none⟩ = some (.int .i64 p.kind) := cell_of_row W6 X 1 _ _ _ hX7
                    have e2 : W6.cell? ⟨X, 2, none⟩ = some (.string ⟨p.text.toArray⟩) := cell_of_row W6 X 2 _ _ _ hX7
                    have e3 : W6.cell? ⟨X, 3, none⟩ = some (.slice a1 p.items.length c1) := cell_of_row W6 X 3 _ _ _ hX7
                    have e4 : W6.cell? ⟨X, 4, none⟩ = some (.slice a2 p.pairs.length c2) := cell_of_row W6 X 4 _ _ _ hX7
                    have e5 : W6.cell? ⟨X, 5, none⟩ = some (.slice a3 p.ranks.length c3) := cell_of_row W6 X 5 _ _ _ hX7
                    have e6 : W6.cell? ⟨X, 6, none⟩ = some (.int .i64 (dl : Int)) := cell_of_row W6 X 6 _ _ _ hX7
                    have HM := fun (w : World) (b : Bool) => Lib.hid (must_any w b 290)
                    clear hX7 hg hk7 hr7 hcx hp7 hz7 hb7 ho7 hsr hPA hv1 hv2 hv3
                    cases hf : followsP (L.map (·.1)) ⟨key, p, (dl : Int)⟩ with
                    | false =>
                      rw [hf] at HFO
                      have HE := Lib.hid (HDI.out 290 (entsR_no HER.out hf))
                      clear hf
                      go_wp2_with (first
                        | (go_at_call 31; refine HFO.out.mono ?_; rintro e w7 ⟨rfl, hb7⟩; have HB8 := Lib.hid hb7; clear hb7)
                        | (go_at_call 43; refine (HM _ _).out.mono ?_; rintro e w8 ⟨rfl, rfl⟩))
                      exact LdPost.dies (Box3.chg HB7'.out (Chg.of_below (S := fun _ => False) HB8.out) (fun k hk => hk.elim)) rfl rfl rfl rfl (HQE.out _ HE.out _ (HBC.out.trans (HB8.out.mono (HSZ.out _ HBC.out))))
                    | true =>
                      rw [hf] at HFO
                      have HST := Lib.hid (entsR_step (n := k) HER.out hf)
                      clear hf
                      go_upto_region 17 with (first
                        | (go_at_call 31; refine HFO.out.mono ?_; rintro e w7 ⟨rfl, hb7⟩; have HB8 := Lib.hid hb7; clear hb7)
                        | (go_at_call 43; refine (HM _ _).out.mono ?_; rintro e w8 ⟨rfl, rfl⟩))
                      have hb8 := HB8.out
                      have ho8 := HO7.out.below hb8
                      have hx8 := (hb8.block X (Array.getElem?_eq_some_iff.1 HX7.out).1).trans HX7.out
                      have hb8x := Box3.chg HB7'.out (Chg.of_below (S := fun _ => False) hb8) (fun k hk => hk.elim)
                      have hz8 : R + 1 ≤ w7.heap.size := by have h1 := HZ8.out; have h2 := hb8.size; omega
                      obtain ⟨ga, gn, gc, w8, hrun, hO9, hg9, hown⟩ := rv_grow rvStored ho8.row #[.string ⟨key.toArray⟩, .int .i64 p.kind, .string ⟨p.text.toArray⟩, .slice a1 p.items.length c1, .slice a2 p.pairs.length c2, .slice a3 p.ranks.length c3, .int .i64 (dl : Int)] rfl (by simp [Value.oneCell']) (by have := HLL.out; omega) hz8
                      have hcg : Chg (fun k => (Value.slice ax L.length cx).ownBlock = some k) w7 w8 := Chg.of_grown hg9 fun k hk => hk
                      have hb9 := Box3.chg hb8x hcg (fun k hk => by have := hown k hk; omega)
                      have t3 : w7.cell? ⟨B + 1, 0, none⟩ = some (.slice ax L.length cx) := cell_of_row w7 (B + 1) 0 _ _ _ hb8x.h1
                      have t4 : w8.cell? ⟨B + 1, 0, none⟩ = some (.slice ax L.length cx) := cell_of_row w8 (B + 1) 0 _ _ _ hb9.h1
                      have t5 : w8.frozen? ⟨B + 1, 0, none⟩ = false := frozen_of_row w8 (B + 1) 0 _ _ hb9.h1
                      have e0 : w7.cell? ⟨X, 0, none⟩ = some (.string ⟨key.toArray⟩) := cell_of_row w7 X 0 _ _ _ hx8
                      have e1 : w7.cell? ⟨X, 1, none⟩ = some (.int .i64 p.kind) := cell_of_row w7 X 1 _ _ _ hx8
                      have e2 : w7.cell? ⟨X, 2, none⟩ = some (.string ⟨p.text.toArray⟩) := cell_of_row w7 X 2 _ _ _ hx8
                      have e3 : w7.cell? ⟨X, 3, none⟩ = some (.slice a1 p.items.length c1) := cell_of_row w7 X 3 _ _ _ hx8
                      have e4 : w7.cell? ⟨X, 4, none⟩ = some (.slice a2 p.pairs.length c2) := cell_of_row w7 X 4 _ _ _ hx8
                      have e5 : w7.cell? ⟨X, 5, none⟩ = some (.slice a3 p.ranks.length c3) := cell_of_row w7 X 5 _ _ _ hx8
                      have e6 : w7.cell? ⟨X, 6, none⟩ = some (.int .i64 (dl : Int)) := cell_of_row w7 X 6 _ _ _ hx8
                      obtain ⟨W9, hW9⟩ : ∃ W9, w8.setCell ⟨B + 1, 0, none⟩ (.slice ga gn gc) = W9 := ⟨_, rfl⟩
                      have hcs : Chg (fun k => k = B + 1) w8 W9 := by rw [← hW9]; exact Chg.setCell (S := fun k => k = B + 1) (p := ⟨B + 1, 0, none⟩) (Chg.refl _ w8) (fun _ => rfl) _
                      have HB9 : Hid (Box3 W9 B (.int .i64 (now : Int)) (.slice ga gn gc) (.int .i64 0)) := Lib.hid (by
                        rw [← hW9]
                        exact ⟨heap_set_off hb9.h0 (by omega) _, heap_set_here hb9.h1 _, heap_set_off hb9.h2 (by omega) _⟩)
                      have HPK : ∀ (q : SV), OwnP w7 (R + 1) q.1.val q.2.1 q.2.2.1 q.2.2.2 → OwnP W9 (R + 1) q.1.val q.2.1 q.2.2.1 q.2.2.2 := fun q hq => by
                        refine (hq.kept hcg fun k hk c0 e0 fz0 h0 => ?_).chg hcs (fun k hk => by omega)
                        obtain ⟨c9, fz9, h9⟩ := ownsRow_type ho8.row hk
                        rw [h9] at h0
                        have : (51 : TypeId) = e0 := by injection h0 with h0; injection h0
                        subst this
                        exact ⟨by decide, by decide, by decide⟩
                      have HO9 : Hid (OwnS W9 (R + 1) (.slice ga gn gc) (L ++ [(⟨key, p, (dl : Int)⟩, .slice a1 p.items.length c1, .slice a2 p.pairs.length c2, .slice a3 p.ranks.length c3)])) := Lib.hid ⟨by
                          have h := hcs.ownsRow hO9 fun k hk hs => by have := (hO9.lt k hk).1; omega
                          rw [List.flatMap_append, List.length_append]
                          exact h, fun q hq => by
                          rcases List.mem_append.1 hq with hq | hq
                          · exact HPK q (ho8.vals q hq)
                          · obtain rfl := List.mem_singleton.1 hq
                            exact HPK _ (HP7.out.below hb8)⟩
                      have HR10 : Hid (RdAt B W9 R r6) := Lib.hid (by
                        rw [← hW9]
                        exact ((HR9.out.below hb8).grown hg9 fun k hk => by have := hown k hk; omega).set_off (by omega) (by omega) _)
                      have HBD : Hid (Below B w W9) := Lib.hid (((HBC.out.trans (hb8.mono (HSZ.out _ HBC.out))).trans (hcg.below (by omega) fun k hk => by have := hown k hk; omega)).trans (hcs.below (by have := hcg.size; omega) fun k hk => by omega))
                      have HZ9 : Hid (R + 1 ≤ W9.heap.size) := Lib.hid (by have h1 := hcg.size; have h2 := hcs.size; omega)
                      have HEE : Hid (entsR m [] r2 = entsR (m - (j + 1)) ((L ++ [((⟨key, p, (dl : Int)⟩, .slice a1 p.items.length c1, .slice a2 p.pairs.length c2, .slice a3 p.ranks.length c3) : SV)]).map (·.1)) r6) := Lib.hid (by
                        have h1 : m - (j + 1) = k := by have := HKK.out; omega
                        rw [HEN.out, HST.out, h1, List.map_append]
                        rfl)
                      clear hb8 ho8 hx8 hb8x hz8 hO9 hg9 hown hcg hb9 hcs HPK
                      go_wp2_with fail
                      go_roundw
                      case rel => exact ⟨j + 1, _, r6, .slice ga gn gc, by omega, by go_num, HB9, HO9, Lib.hid (by rw [List.length_append, HLL.out]; rfl), HR10, HBD, HZ9, HEE, Lib.hid (by have h1 := HEA.out; have h2 := HRL2.out; omega)⟩
                      case measure => simp [intOf]; omega
            · obtain rfl : j = m := by omega
              have HEND := Lib.hid (loadR_end HBIG.out HH.out HQ1.out HQ2.out (show entsR j [] r2 = .ok (L.map (·.1), rest3) by rw [HEN.out, Nat.sub_self]; rfl))
              obtain ⟨y, rfl⟩ : ∃ y, a = some y := by
                have e1 := ((head_exact headB).only l () rest HH.out).2
                have h0 : l[0]? = some 112 := by rw [e1]; rfl
                obtain ⟨-, y, hy, -⟩ := HR.out 0 (.int .u8 112) (by rw [b8_get, h0]; rfl)
                exact ⟨y, hy⟩
              have hql : rest3.length ≤ l.length := by
                have e1 := ((head_exact headB).only l () rest HH.out).2
                have e2 := ((num_exact 0 9007199254740992 (by decide)).only rest now r1 HQ1.out).2
                have e3 := ((num_exact 0 9223372036854775807 (by decide)).only r1 j r2 HQ2.out).2
                have e4 := ((ents_exact j).only r2 (L.map (·.1)) rest3 (by rw [HEN.out, Nat.sub_self]; rfl)).2
                have f1 := congrArg List.length e1
                have f2 := congrArg List.length e2
                have f3 := congrArg List.length e3
                have f4 := congrArg List.length e4
                rw [List.length_append] at f1 f2 f3 f4
                omega
              obtain ⟨q3, hq3⟩ : ∃ q3, rest3.length = q3 := ⟨_, rfl⟩
              obtain ⟨q, hq⟩ : ∃ q, n = q + q3 := ⟨n - q3, by have := HL.out; omega⟩
              have hsub : (n : Int) - (q3 : Int) = (q : Int) := by omega
              have hqc : (q : Int) ≤ (c : Int) := by omega
              have HLQ : Hid (l.length - rest3.length = q) := Lib.hid (by have := HL.out; omega)
              obtain ⟨ar, cr, hr1, -⟩ := HRR.out.ex
              rw [hq3] at hr1
              have gR : wr.cell? ⟨R, 0, none⟩ = some (.slice ar q3 cr) := cell_of_row wr R 0 _ _ _ hr1
              have HQ3 := Lib.hid hq3
              have HSM := Lib.hid (sum_any (some y) q c (l.take q) wr (by rw [List.length_take]; have := HL.out; omega) (by omega) (by
                have h := (HR.out.belowB HBR.out (fun x hx => HLT.out x hx (fun e => by
                  have e1 := ((head_exact headB).only l () rest HH.out).2
                  rw [e] at e1
                  cases e1))).take q
                rwa [show (b8 l).take q = b8 (l.take q) by simp [b8, List.map_take]] at h))
              have HEI := Lib.hid (reight_any HRR.out HNB.out)
              have HSG := Lib.hid (show (fun r => match eightR rest3 with | .error e => Except.error e | .ok (u, r') => if r' ≠ [] then .error 290 else if u ≠ sumB (l.take q) then .error 291 else .ok (now, L.map (·.1))) () = loadR l from by rw [HEND.out, ← HLQ.out]; rfl)
              obtain ⟨sm, hsm⟩ : ∃ sm, sumB (l.take q) = sm := ⟨_, rfl⟩
              rw [hsm] at HSM
              simp only [hsm] at HSG
              have HM := fun (w : World) (b : Bool) (c : Int) => Lib.hid (must_any w b c)
              have HNQ := Lib.hid hq
              clear hql hq hsm hr1 hq3
              cases he : eightR rest3 with
              | error d =>
                rw [he] at HEI HSG
                clear he
                go_wp2_with (first
                  | (go_at_call 24; refine HSM.out.mono ?_; rintro e w4 ⟨rfl, rfl⟩)
                  | (go_at_call 48; refine HEI.out.mono ?_; rintro e w4 ⟨hb4, rfl⟩; have HB4 := Lib.hid hb4; clear hb4))
                exact LdPost.dies (Box3.chg HB3r.out HB4.out (fun k hk => by omega)) rfl rfl rfl rfl (HQE.out _ HSG.out.symm _ (HBR.out.trans (HB4.out.below HNB.out (by omega))))
              | ok qq =>
                obtain ⟨u, r7⟩ := qq
                rw [he] at HEI HSG
                clear he
                go_upto_region 21 with (first
                  | (go_at_call 24; refine HSM.out.mono ?_; rintro e w4 ⟨rfl, rfl⟩)
                  | (go_at_call 48; refine HEI.out.mono ?_; rintro e w4 ⟨hb4, hv, hR4⟩; obtain rfl : e = .returned (.int .u64 u) := hv; have HB4 := Lib.hid hb4; have HR4 := Lib.hid hR4; clear hb4 hR4))
                have HB5 := Lib.hid (Box3.chg HB3r.out HB4.out (fun k hk => by omega))
                have HBE := Lib.hid (HBR.out.trans (HB4.out.below HNB.out (by omega)))
                obtain ⟨a7, c7, hr7, -⟩ := HR4.out.ex
                obtain ⟨q7, hq7⟩ : ∃ q7, r7.length = q7 := ⟨_, rfl⟩
                rw [hq7] at hr7
                have g7 : w4.cell? ⟨R, 0, none⟩ = some (.slice a7 q7 c7) := cell_of_row w4 R 0 _ _ _ hr7
                clear hr7
                by_cases hz7 : q7 = 0
                · obtain rfl : r7 = [] := List.length_eq_zero_iff.1 (hq7.trans hz7)
                  subst hz7
                  clear hq7
                  by_cases hu : u = sm
                  · have hub : ((u : Int) == (sm : Int)) = true := by simp [hu]
                    have hok : Hid (loadR l = .ok (now, L.map (·.1))) := Lib.hid (by
                      rw [← HSG.out]
                      show (if ([] : List UInt8) ≠ [] then Except.error 290 else if u ≠ sm then .error 291 else .ok (now, L.map (·.1))) = _
                      rw [if_neg (by simp), if_neg (fun e => e hu)])
                    have HO5 := Lib.hid (HO.out.chg HB4.out (fun k hk => by omega))
                    obtain ⟨ax, cx, rfl, -⟩ := HO.out.srow
                    have t2 : w4.cell? ⟨B, 0, none⟩ = some (.int .i64 (now : Int)) := cell_of_row w4 B 0 _ _ _ HB5.out.h0
                    have t3 : w4.cell? ⟨B + 1, 0, none⟩ = some (.slice ax L.length cx) := cell_of_row w4 (B + 1) 0 _ _ _ HB5.out.h1
                    have t4 : w4.cell? ⟨B + 1 + 1, 0, none⟩ = some (.int .i64 0) := cell_of_row w4 (B + 1 + 1) 0 _ _ _ HB5.out.h2
                    have u2 : w4.frozen? ⟨B, 0, none⟩ = false := frozen_of_row w4 B 0 _ _ HB5.out.h0
                    have u3 : w4.frozen? ⟨B + 1, 0, none⟩ = false := frozen_of_row w4 (B + 1) 0 _ _ HB5.out.h1
                    have u4 : w4.frozen? ⟨B + 1 + 1, 0, none⟩ = false := frozen_of_row w4 (B + 1 + 1) 0 _ _ HB5.out.h2
                    clear hu HSG
                    go_wp2_with (go_at_call 43; refine (HM _ _ _).out.mono ?_; rintro e w8 ⟨rfl, rfl⟩)
                    go_region
                    go_wp2_with fail
                    have hch : Chg (fun k => k < B + 3) w4 ((((w4.setCell ⟨B, 0, none⟩ (.int .i64 (now : Int))).setCell ⟨B + 1, 0, none⟩ (.slice ax L.length cx)).setCell ⟨B + 1 + 1, 0, none⟩ (.int .i64 0)).drew) :=
                      ((((Chg.refl _ w4).setCell (p := ⟨B, 0, none⟩) (fun _ => by show B < B + 3; omega) _).setCell (p := ⟨B + 1, 0, none⟩) (fun _ => by show B + 1 < B + 3; omega) _).setCell (p := ⟨B + 1 + 1, 0, none⟩) (fun _ => by show B + 1 + 1 < B + 3; omega) _).drew
                    refine door_ends (x := .int .i64 (now : Int)) (y := .slice ax L.length cx) (z := .int .i64 0) ⟨heap_set_off (heap_set_off (heap_set_here HB5.out.h0 _) (by omega) _) (by omega) _, heap_set_off (heap_set_here (heap_set_off HB5.out.h1 (by omega) _) _) (by omega) _, heap_set_here (heap_set_off (heap_set_off HB5.out.h2 (by omega) _) (by omega) _) _⟩ rfl rfl rfl rfl ?_
                    refine HQO.out now L _ _ hok.out (HBE.out.trans ?_) ((HO5.out.chg hch (fun k hk => by omega)).base (by omega))
                    exact ((((Below.refl B w4).setCell (p := ⟨B, 0, none⟩) (Nat.le_refl _) _).setCell (p := ⟨B + 1, 0, none⟩) (by show B ≤ B + 1; omega) _).setCell (p := ⟨B + 1 + 1, 0, none⟩) (by show B ≤ B + 1 + 1; omega) _).drew
                  · have hub : ((u : Int) == (sm : Int)) = false := by simp; omega
                    have hE : Hid (loadR l = .error 291) := Lib.hid (by
                      rw [← HSG.out]
                      show (if ([] : List UInt8) ≠ [] then Except.error 290 else if u ≠ sm then .error 291 else .ok (now, L.map (·.1))) = _
                      rw [if_neg (by simp), if_pos hu])
                    clear hu HSG
                    go_wp2_with (go_at_call 43; refine (HM _ _ _).out.mono ?_; rintro e w8 ⟨rfl, rfl⟩)
                    exact LdPost.dies HB5.out rfl rfl rfl rfl (HQE.out _ hE.out _ HBE.out)
                · have hzb : ((q7 : Int) == 0) = false := by simp; omega
                  have hE : Hid (loadR l = .error 290) := Lib.hid (by
                    rw [← HSG.out]
                    show (if r7 ≠ [] then Except.error 290 else if u ≠ sm then .error 291 else .ok (now, L.map (·.1))) = _
                    rw [if_pos (fun e => hz7 (by rw [← hq7, e]; rfl))])
                  clear hz7 HSG
                  go_wp2_with (go_at_call 43; refine (HM _ _ _).out.mono ?_; rintro e w8 ⟨rfl, rfl⟩)
                  exact LdPost.dies HB5.out rfl rfl rfl rfl (HQE.out _ hE.out _ HBE.out)
end Go.Proofs.YteiklgbjjmlmaaaGreat
