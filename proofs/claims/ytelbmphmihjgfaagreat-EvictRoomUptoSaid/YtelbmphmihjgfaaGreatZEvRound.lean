/- evict.round. -/
import Derived.Test.YtelbmphmihjgfaaGreatZEvH
set_option linter.unusedVariables false
set_option linter.unusedSimpArgs false
namespace Pantry
def refreshP (X : Sp) (most : Nat) (P : List Cand) (c : Cand) : List Cand :=
  match X.rank c.key with
  | some r => offerC most P ⟨c.key, r⟩
  | none => dropC P c.key
def offerK (X : Sp) (most : Nat) (P : List Cand) (k : List UInt8) : List Cand := offerC most P ⟨k, (X.rank k).getD 0⟩
/-- What a round leaves of a pool. -/
def RndRel (X : Sp) (most : Nat) (all : Bool) (m : Nat) (P P' : List Cand) : Prop :=
  ∃ ks : List (List UInt8), (∀ k ∈ ks, ∃ e ∈ X.pick all, e.key = k) ∧ (ks.length = m ∨ X.pick all = []) ∧ P' = ks.foldl (offerK X most) (P.foldl (refreshP X most) P)
theorem pick_mem {X : Sp} {all : Bool} {e : KE} (h : e ∈ X.pick all) : e ∈ X.ents := by
  unfold Sp.pick at h
  split at h
  · exact h
  · exact (List.mem_filter.1 h).1
end Pantry
namespace Go.Proofs.YtelbmphmihjgfaaGreat.DEnt
open Go.RowKit Pantry Go.Maps Go.Sort

def EvT (F G : Nat → Prop) (r : Nat) (k : Nat) : Prop := F k ∨ G k ∨ k = r
section
variable {F G : Nat → Prop} {s p r most : Nat} {X : Sp} {P : List Cand} {D : List Nat} {w : World}
theorem evT_lt (h1 : SpH w s F X) (h2 : PlH w p G most P) (h3 : SrcAt w r D) {k : Nat} (hk : EvT F G r k) : k < w.heap.size := by
  rcases hk with hk | hk | rfl
  · exact h1.lt hk
  · exact h2.lt hk
  · exact h3.lt
theorem evT_no (h1 : SpH w s F X) (h2 : PlH w p G most P) (h3 : SrcAt w r D) {k : Nat} {c : Array Value} {t : TypeId} (hk : w.heap[k]? = some (.cells c t)) (ht : t = 28 ∨ t = 84) : ¬ EvT F G r k := by
  rintro (h | h | rfl)
  · exact h1.not_foot hk (by rcases ht with rfl | rfl <;> decide) h
  · exact h2.not_foot hk (by rcases ht with rfl | rfl <;> decide) h
  · obtain ⟨c', hc⟩ := h3.head
    exact types_ne hk hc (by rcases ht with rfl | rfl <;> decide) rfl
/-- Begun anew. -/
theorem EvTo.re {T : Nat → Prop} {w0 : World} (h : EvTo T s p r most X P D w0 w) : ∃ F G, SpH w s F X ∧ PlH w p G most P ∧ SrcAt w r D ∧ ∀ X' P' D' w', EvTo (EvT F G r) s p r most X' P' D' w w' → EvTo T s p r most X' P' D' w0 w' := by
  obtain ⟨⟨F, G, h1, h2, h3, h4⟩, hc⟩ := h
  refine ⟨F, G, h1, h2, h3, fun X' P' D' w' k => ?_⟩
  obtain ⟨⟨F', G', g1, g2, g3, g4⟩, gc⟩ := k
  refine ⟨⟨F', G', g1, g2, g3, fun k hk => ?_⟩, hc.trans gc fun j hj e => (h4 j e).resolve_right (by omega)⟩
  rcases g4 k hk with h | h
  · exact h4 k h
  · exact .inr (Nat.le_trans hc.size h)
def RoundPost (T : Nat → Prop) (s p r most : Nat) (X : Sp) (all : Bool) (P : List Cand) (D : List Nat) (w : World) (e : Ending) (w' : World) : Prop :=
  e = .returned (.tuple #[]) ∧ ∃ P', RndRel X most all X.samples.toNat P P' ∧ EvTo T s p r most X P' (D.drop X.samples.toNat) w w'
section
variable {w1 : World}
theorem evCand (h1 : SpH w s F X) {k : Nat} {c : Array Value} (hk : w.heap[k]? = some (.cells c 50)) : ¬ F k := h1.no hk (.inr (.inl rfl))
theorem evOffer {T : Nat → Prop} {W : World} (h : EvTo T s p r most X P D w1 W) (c : Cand) : Calls Tryz.prog 68 #[.pointer (some ⟨p, 0, none⟩), .agg #[.string ⟨c.key.toArray⟩, .int .u64 c.rank]] W fun e w' => (∃ b, e = .returned (.bool b)) ∧ EvTo T s p r most X (offerC most P c) D w1 w' := by
  obtain ⟨G', g1, g2⟩ := h.pl
  refine (pOffer g1 c).mono ?_
  rintro e w' ⟨hb, ht⟩
  exact ⟨hb, g2 _ _ ht⟩
theorem evDrop {T : Nat → Prop} {W : World} (h : EvTo T s p r most X P D w1 W) (key : List UInt8) : Calls Tryz.prog 69 #[.pointer (some ⟨p, 0, none⟩), .string ⟨key.toArray⟩] W fun e w' => (∃ b, e = .returned (.bool b)) ∧ EvTo T s p r most X (dropC P key) D w1 w' := by
  obtain ⟨G', g1, g2⟩ := h.pl
  refine (pDrop g1 key).mono ?_
  rintro e w' ⟨hb, ht⟩
  exact ⟨⟨_, hb⟩, g2 _ _ ht⟩
theorem evNext {T : Nat → Prop} {W : World} (h : EvTo T s p r most X P D w1 W) : Calls Tryz.prog 70 #[.pointer (some ⟨r, 0, none⟩)] W fun e w' => e = .returned (.int .u64 ((D.headD 0 : Nat) : Int)) ∧ EvTo T s p r most X P D.tail w1 w' := by
  obtain ⟨g1, g2⟩ := h.src
  refine (next_any g1).mono ?_
  rintro e w' ⟨he, hd, hc⟩
  exact ⟨he, g2 _ _ hd hc⟩
def SampRes (X : Sp) (all : Bool) (e : Ending) : Prop := ∃ (key : List UInt8) (b : Bool), e = .returned (.tuple #[.string ⟨key.toArray⟩, .bool b]) ∧ (b = false → X.pick all = []) ∧ (b = true → ∃ x ∈ X.pick all, x.key = key)
theorem evSample {T : Nat → Prop} {W : World} (h : EvTo T s p r most X P D w1 W) (hf : X.Fresh) (all : Bool) (x : Nat) (hx : x < 18446744073709551616) : Calls Tryz.prog 29 #[.pointer (some ⟨s, 0, none⟩), .bool all, .int .u64 x] W fun e w' => SampRes X all e ∧ EvTo T s p r most X P D w1 w' := by
  obtain ⟨F', g1, g2⟩ := h.sp
  refine (sSample g1 all x hx).mono ?_
  rintro e w' ⟨ht, he⟩
  rw [hf.swept] at ht he
  refine ⟨?_, g2 _ _ ht⟩
  rcases he with ⟨h0, rfl⟩ | ⟨x, hx, rfl⟩
  · exact ⟨[], false, rfl, fun _ => h0, fun e => by cases e⟩
  · exact ⟨x.key, true, rfl, fun e => (by cases e), fun _ => ⟨x, hx, rfl⟩⟩
/-- What keeps the boxes of the call. -/
theorem evBox {T : Nat → Prop} {W : World} (h : EvTo T s p r most X P D w1 W) (hT : ∀ k, T k → k < w.heap.size) {b : Nat} {o : Obj} (hb : w.heap.size ≤ b) (ho : w1.heap[b]? = some o) : W.heap[b]? = some o :=
  h.chg.heap ho fun e => by have := hT b e; omega
end
theorem drop_tail (D : List Nat) (j : Nat) : (D.drop j).tail = D.drop (j + 1) := by rw [List.tail_drop]
theorem drop_head_lt {D : List Nat} (hD : ∀ x ∈ D, x < 18446744073709551616) (j : Nat) : (D.drop j).headD 0 < 18446744073709551616 := by
  cases hd : D.drop j with
  | nil => simp
  | cons x l => exact hD x ((List.drop_sublist j D).subset (by rw [hd]; simp))
theorem fold_step {X : Sp} {P Q : List Cand} {k : Nat} {c : Cand} (h : P[k]? = some c) : (P.take (k + 1)).foldl (refreshP X most) Q = refreshP X most ((P.take k).foldl (refreshP X most) Q) c := by
  rw [← take_snoc_get h, List.foldl_append]; rfl
def OffRel (X : Sp) (most : Nat) (all : Bool) (j : Nat) (P1 P' : List Cand) : Prop := ∃ ks : List (List UInt8), (∀ k ∈ ks, ∃ e ∈ X.pick all, e.key = k) ∧ (ks.length = j ∨ X.pick all = []) ∧ P' = ks.foldl (offerK X most) P1
theorem OffRel.none {X : Sp} {all : Bool} {j : Nat} {P1 P' : List Cand} (h : OffRel X most all j P1 P') (hp : X.pick all = []) : OffRel X most all (j + 1) P1 P' := by
  obtain ⟨ks, h1, -, h3⟩ := h
  exact ⟨ks, h1, .inr hp, h3⟩
theorem OffRel.start {X : Sp} {all : Bool} {P1 : List Cand} : OffRel X most all 0 P1 P1 := ⟨[], (by simp), .inl rfl, rfl⟩
theorem OffRel.some {X : Sp} {all : Bool} {j : Nat} {P1 P' : List Cand} (h : OffRel X most all j P1 P') {e : KE} (he : e ∈ X.pick all) : OffRel X most all (j + 1) P1 (offerK X most P' e.key) := by
  obtain ⟨ks, h1, h2, rfl⟩ := h
  refine ⟨ks ++ [e.key], fun k hk => ?_, ?_, by rw [List.foldl_append]; rfl⟩
  · rcases List.mem_append.1 hk with hk | hk
    · exact h1 k hk
    · obtain rfl : k = e.key := by simpa using hk
      exact ⟨e, he, rfl⟩
  · rcases h2 with h2 | h2
    · exact .inl (by simp [h2])
    · exact .inr h2
set_option maxRecDepth 100000 in
set_option maxHeartbeats 4000000 in
theorem round_any (h1 : SpH w s F X) (h2 : PlH w p G most P) (h3 : SrcAt w r D) (hf : X.Fresh) (all : Bool) (fv : Value) (hR : RankFn s X w all fv) (hP : ∀ c ∈ P, c.key.length ≤ 1048576) (hD : ∀ x ∈ D, x < 18446744073709551616) :
    Calls Tryz.prog 30 #[.pointer (some ⟨s, 0, none⟩), .pointer (some ⟨p, 0, none⟩), .pointer (some ⟨r, 0, none⟩), .agg #[.bool all, fv]] w (RoundPost (EvT F G r) s p r most X all P D w) := by
  have hmx : Tryz.prog.follows .mixedOrders = true := by kernel_rfl
  have hfs := field_samples
  obtain ⟨T, hTe⟩ : ∃ T, EvT F G r = T := ⟨_, rfl⟩
  have hTlt : ∀ k, T k → k < w.heap.size := fun k hk => evT_lt h1 h2 h3 (by rw [hTe]; exact hk)
  have hTno : ∀ k c t, w.heap[k]? = some (.cells c t) → t = 28 ∨ t = 84 → ¬ T k := fun k c t hk ht => by rw [← hTe]; exact evT_no h1 h2 h3 hk ht
  have hnew := fun o => (Below.refl w.heap.size w).alloc (Nat.le_refl _) o
  have HST : Hid (∀ w1, Below w.heap.size w w1 → EvTo T s p r most X P D w1 w1) := Lib.hid fun w1 hb => by
    rw [← hTe]
    exact EvTo.start (h1.below hb) (h2.below hb) (h3.below hb)
  have hlen : P.length ≤ 16 := by
    obtain ⟨v, g1, -⟩ := h2.ex
    have := g1.room
    have := g1.len
    omega
  have hsm := h1.good.samples
  have hkt := h1.good.text
  have HKT : Hid (∀ e ∈ X.pick all, e.key.length ≤ 140737488351232) := Lib.hid fun e he => Nat.le_trans (hkt e (pick_mem he)) (by omega)
  have HCN : Hid (∀ W, Below w.heap.size w W → Calls Tryz.prog 14 #[.pointer (some ⟨p, 0, none⟩)] W (PCandsPost P W)) := Lib.hid fun W hb => pCands (h2.below hb)
  have HCF : Hid (∀ w1 W P' D', EvTo T s p r most X P' D' w1 W → Calls Tryz.prog 27 #[.pointer (some ⟨s, 0, none⟩)] W fun r w' => r = .returned (.agg #[.int .u64 X.seed, .int .i64 X.most, .int .i64 X.policy, .int .i64 X.samples]) ∧ Below W.heap.size W w') := Lib.hid fun w1 W P' D' hE => by
    obtain ⟨F', g1, -⟩ := hE.sp
    exact sConfig g1
  rw [hTe]
  have HF := Lib.hid hf
  have HPK := Lib.hid hP
  have HDD := Lib.hid hD
  have HTL := Lib.hid hTlt
  have HTN := Lib.hid hTno
  have HNEW := Lib.hid hnew
  obtain ⟨n, hn⟩ : ∃ n, P.length = n := ⟨_, rfl⟩
  have HN := Lib.hid hn
  rw [hn] at hlen
  obtain ⟨m, hm⟩ : ∃ m : Nat, X.samples = m := ⟨X.samples.toNat, by omega⟩
  unfold RoundPost
  rw [hm] at hsm HCF
  have HM : Hid (X.samples.toNat = m) := Lib.hid (by rw [hm]; simp)
  rw [HM.out]
  clear h1 h2 h3 hTe hn hf hkt hP hD hm
  rcases hR with ⟨hpol0, rfl, rfl⟩ | ⟨hpol0, rfl, bx, rfl, hbx⟩
  · have HPOL := Lib.hid hpol0
    clear hpol0
    have HRK : Hid (∀ w1 W P' D' key, EvTo T s p r most X P' D' w1 W → key.length ≤ 140737488351232 → Calls Tryz.prog 15 #[.pointer (some ⟨s, 0, none⟩), .string ⟨key.toArray⟩] W fun e w' => e = RankRes (X.rank key) ∧ EvTo T s p r most X P' D' w1 w' ∧ ∀ (k : Nat) (c : Array Value), W.heap[k]? = some (Obj.cells c 50) → w'.heap[k]? = some (Obj.cells c 50)) := Lib.hid fun w1 W P' D' key hE hk => by
      obtain ⟨F', g1, g2⟩ := hE.sp
      refine (rank_stamp g1 HF.out HPOL.out key hk).mono ?_
      rintro e w' ⟨he, ht⟩
      exact ⟨he, g2 _ _ ht, fun k c hk => ht.chg.heap hk (evCand g1 hk)⟩
    clear hTlt hTno hnew
    go_enter Tryz.func30, Tryz.ntmps30
    go_wp2_with (go_at_call 14; refine (HCN.out _ (HNEW.out _)).mono ?_; rintro e w1 ⟨v, rfl, hrow, hb1⟩
                 obtain ⟨pv, cv, hv, -⟩ := ownsRow_rd hrow (candsC_one P)
                 rw [HN.out] at hrow hv
                 subst hv
                 have HROW := Lib.hid hrow
                 have HB1 := Lib.hid hb1
                 clear hrow hb1)
    have HBX : Hid (w1.heap[w.heap.size]? = some (.cells #[.bool true, .func (.func 15) #[.pointer (some ⟨s, 0, none⟩)] #[]] 84)) := Lib.hid ((HB1.out.block _ (by simp)).trans (heap_alloc_new w _))
    have HW1 : Hid (Below w.heap.size w w1) := Lib.hid ((HNEW.out _).trans (HB1.out.mono (by simp)))
    have HAT : Hid (∀ k c, P[k]? = some c → ∃ g, pv = some ⟨g, 0, none⟩ ∧ w.heap.size ≤ g ∧ w1.cell? ⟨g, k * 2, none⟩ = some (.string ⟨c.key.toArray⟩) ∧ w1.cell? ⟨g, k * 2 + 1, none⟩ = some (.int .u64 c.rank)) := Lib.hid fun k c hc => by
      rcases HROW.out.2 with ⟨_, h0⟩ | ⟨g, cap, cur, hv, hbg, _, _, _, _, _⟩
      · have := (List.getElem?_eq_some_iff.1 hc).1
        have := HN.out
        omega
      · injection hv with e1 e2 e3
        subst e1
        obtain ⟨q0, q1⟩ := candsC_get hc
        have g0 := HROW.out.cells (g := g) rfl _ _ q0
        have g1 := HROW.out.cells (g := g) rfl _ _ q1
        rw [Addr.add_base] at g0 g1
        exact ⟨g, rfl, by simp at hbg; omega, g0, g1⟩
    go_loopw [19] (fun i wr => ∃ k : Nat, k ≤ n ∧ i = .int .i64 k ∧ Hid (EvTo T s p r most X ((P.take k).foldl (refreshP X most) P) D w1 wr)) (fun i _ => n - (intOf i).toNat)
    case atStart => exact ⟨0, Nat.zero_le _, rfl, Lib.hid (HST.out _ HW1.out)⟩
    case round =>
      obtain ⟨k, hk, rfl, HE⟩ := hrel
      have hbx := evBox HE.out HTL.out (Nat.le_refl _) HBX.out
      by_cases hlt : k < n
      · obtain ⟨c, hc⟩ : ∃ c, P[k]? = some c := ⟨_, List.getElem?_eq_getElem (by rw [HN.out]; exact hlt)⟩
        obtain ⟨g, rfl, hgb, e0, e1⟩ := HAT.out k c hc
        have hkey := HPK.out c (List.mem_of_getElem? hc)
        have HFS := Lib.hid (fold_step (most := most) (X := X) (Q := P) hc)
        have keep : ∀ a : Addr, w.heap.size ≤ a.block → a.block < w1.heap.size → wr.cell? a = w1.cell? a := fun a h1 h2 => World.cell?_of_block (w := w1) (a := a) (by rw [HE.out.chg.block _ h2 fun e => by have := HTL.out _ e; omega])
        have f0 : wr.cell? ⟨g, k * 2, none⟩ = some (.string ⟨c.key.toArray⟩) := (keep _ hgb (World.block_lt_of_cell? w1 _ e0)).trans e0
        have f1 : wr.cell? ⟨g, k * 2 + 1, none⟩ = some (.int .u64 c.rank) := (keep _ hgb (World.block_lt_of_cell? w1 _ e1)).trans e1
        have hbl := block_lt hbx
        have hnw := (Below.refl wr.heap.size wr).alloc (Nat.le_refl _) (.cells #[.string ⟨c.key.toArray⟩, .int .u64 c.rank] 50)
        have hbx2 := (hnw.block _ hbl).trans hbx
        obtain ⟨-, b1, -⟩ := two_cells hbx2
        have HRC : Hid (Calls Tryz.prog 15 #[.pointer (some ⟨s, 0, none⟩), .string ⟨c.key.toArray⟩] (wr.alloc (.cells #[.string ⟨c.key.toArray⟩, .int .u64 c.rank] 50)) fun e w' => e = RankRes (X.rank c.key) ∧ EvTo T s p r most X ((P.take k).foldl (refreshP X most) P) D w1 w' ∧ w'.heap[wr.heap.size]? = some (.cells #[.string ⟨c.key.toArray⟩, .int .u64 c.rank] 50)) := Lib.hid ((HRK.out _ _ _ _ c.key (HE.out.below hnw) (by omega)).mono fun e w' ⟨g1, g2, g3⟩ => ⟨g1, g2, g3 _ _ (heap_alloc_new wr _)⟩)
        clear hc e0 e1 hkey keep hnw hbx hbx2
        cases hrk : X.rank c.key with
        | some rk =>
          have HNX : Hid ((P.take (k + 1)).foldl (refreshP X most) P = offerC most ((P.take k).foldl (refreshP X most) P) ⟨c.key, rk⟩) := Lib.hid (by rw [HFS.out, refreshP, hrk])
          rw [hrk] at HRC
          simp only [RankRes, Option.getD_some, Option.isSome_some] at HRC
          clear hrk
          go_wp2_with (first
            | (go_at_call 15; refine HRC.out.mono ?_; rintro e w2 ⟨rfl, hE2, hb2⟩
               obtain ⟨c0, c1, -⟩ := two_cells hb2
               have HE2 := Lib.hid hE2
               clear hE2 hb2)
            | (go_at_call 68; refine (evOffer HE2.out ⟨c.key, rk⟩).mono ?_; rintro e w3 ⟨⟨b, rfl⟩, hE3⟩
               rw [← HNX.out] at hE3
               have HE3 := Lib.hid hE3
               clear hE3))
          go_roundw
          case rel => exact ⟨k + 1, by omega, by go_num, HE3⟩
          case measure => simp [intOf]; omega
        | none =>
          have HNX : Hid ((P.take (k + 1)).foldl (refreshP X most) P = dropC ((P.take k).foldl (refreshP X most) P) c.key) := Lib.hid (by rw [HFS.out, refreshP, hrk])
          rw [hrk] at HRC
          simp only [RankRes, Option.getD_none, Option.isSome_none] at HRC
          clear hrk
          go_wp2_with (first
            | (go_at_call 15; refine HRC.out.mono ?_; rintro e w2 ⟨rfl, hE2, hb2⟩
               obtain ⟨c0, c1, -⟩ := two_cells hb2
               have HE2 := Lib.hid hE2
               clear hE2 hb2)
            | (go_at_call 69; refine (evDrop HE2.out c.key).mono ?_; rintro e w3 ⟨⟨b, rfl⟩, hE3⟩
               rw [← HNX.out] at hE3
               have HE3 := Lib.hid hE3
               clear hE3))
          go_roundw
          case rel => exact ⟨k + 1, by omega, by go_num, HE3⟩
          case measure => simp [intOf]; omega
      · obtain rfl : k = n := by omega
        have HP1 : Hid (EvTo T s p r most X (P.foldl (refreshP X most) P) D w1 wr) := Lib.hid (by have := HE.out; rwa [List.take_of_length_le (by rw [HN.out]; exact Nat.le_refl _)] at this)
        obtain ⟨P1, hP1⟩ : ∃ P1, P.foldl (refreshP X most) P = P1 := ⟨_, rfl⟩
        have HP1E := Lib.hid hP1
        rw [hP1] at HP1
        clear hP1 hbx
        go_wp2_with (go_at_call 27; refine (HCF.out _ _ _ _ HP1.out).mono ?_; rintro e w2 ⟨rfl, hb2⟩
                     have HP2 := Lib.hid (HP1.out.below hb2)
                     clear hb2)
        go_loopw [46] (fun i wr => ∃ j : Nat, j ≤ m ∧ i = .int .i64 j ∧ ∃ P', Hid (EvTo T s p r most X P' (D.drop j) w1 wr) ∧ Hid (OffRel X most true j P1 P')) (fun i _ => m - (intOf i).toNat)
        case atStart => exact ⟨0, Nat.zero_le _, rfl, P1, HP2, Lib.hid OffRel.start⟩
        case round =>
          obtain ⟨j, hj, rfl, P', HE2, HO⟩ := hrel
          by_cases hlt : j < m
          · have hbx := evBox HE2.out HTL.out (Nat.le_refl _) HBX.out
            obtain ⟨b0, b1, -⟩ := two_cells hbx
            have HD0 : Hid (EvTo T s p r most X P' (D.drop j) w1 wr.drew) := Lib.hid (HE2.out.below ⟨rfl, rfl, rfl, Nat.le_refl _, fun _ _ => rfl⟩)
            have HDL := Lib.hid (drop_head_lt HDD.out j)
            obtain ⟨x, hx⟩ : ∃ x, (D.drop j).headD 0 = x := ⟨_, rfl⟩
            have HNX := Lib.hid (evNext HD0.out)
            rw [hx] at HDL HNX
            rw [drop_tail] at HNX
            clear hbx hx
            go_wp2_with fail
            go_region_with (first
              | (go_at_call 70; refine HNX.out.mono ?_; rintro e w3 ⟨rfl, hE3⟩
                 have hbx3 := evBox hE3 HTL.out (Nat.le_refl _) HBX.out
                 obtain ⟨d0, d1, -⟩ := two_cells hbx3
                 have HE3 := Lib.hid hE3
                 clear hE3 hbx3)
              | (go_at_call 29; refine (evSample HE3.out HF.out true x HDL.out).mono ?_; rintro e w4 ⟨⟨key, b, rfl, h0, h1⟩, hE4⟩
                 have hbx4 := evBox hE4 HTL.out (Nat.le_refl _) HBX.out
                 obtain ⟨e0, e1, -⟩ := two_cells hbx4
                 have HE4 := Lib.hid hE4
                 have HK0 := Lib.hid h0
                 have HK1 := Lib.hid h1
                 clear hE4 hbx4 h0 h1))
            all_goals
              cases b with
              | false =>
                go_wp2_with fail
                go_roundw
                case rel => exact ⟨j + 1, by omega, by go_num, P', HE4, Lib.hid (HO.out.none (HK0.out rfl))⟩
                case measure => simp [intOf]; omega
              | true =>
                obtain ⟨y, hy, hyk⟩ := HK1.out rfl
                subst hyk
                have HRC := Lib.hid (HRK.out _ _ _ _ y.key HE4.out (HKT.out y hy))
                have HY := Lib.hid (HO.out.some hy)
                obtain ⟨rk, hrk⟩ : ∃ rk, (X.rank y.key).getD 0 = rk := ⟨_, rfl⟩
                unfold RankRes at HRC
                unfold offerK at HY
                rw [hrk] at HRC HY
                clear hy hrk HK0 HK1
                go_wp2_with (first
                  | (go_at_call 15; refine HRC.out.mono ?_; rintro e w5 ⟨rfl, hE5, -⟩
                     have HE5 := Lib.hid hE5
                     clear hE5)
                  | (go_at_call 68; refine (evOffer HE5.out ⟨y.key, rk⟩).mono ?_; rintro e w6 ⟨⟨b, rfl⟩, hE6⟩
                     have HE6 := Lib.hid hE6
                     clear hE6))
                go_roundw
                case rel => exact ⟨j + 1, by omega, by go_num, _, HE6, HY⟩
                case measure => simp [intOf]; omega
          · obtain rfl : j = m := by omega
            go_wp2_with fail
            refine bodyPost_end (results_none rfl _ _ _) rfl ?_
            obtain ⟨ks, o1, o2, o3⟩ := HO.out
            refine ⟨rfl, P', ⟨ks, o1, o2, by rw [HP1E.out]; exact o3⟩, HE2.out.pre HW1.out⟩
  · have HPOL := Lib.hid hpol0
    have HBXX := Lib.hid hbx
    clear hpol0 hbx
    have HRK : Hid (∀ w1 W P' D' key, Below w.heap.size w w1 → EvTo T s p r most X P' D' w1 W → key.length ≤ 140737488351232 → Calls Tryz.prog 65 #[.string ⟨key.toArray⟩, .pointer (some ⟨bx, 0, none⟩)] W fun e w' => e = RankRes (X.rank key) ∧ EvTo T s p r most X P' D' w1 w' ∧ ∀ (k : Nat) (c : Array Value), W.heap[k]? = some (Obj.cells c 50) → w'.heap[k]? = some (Obj.cells c 50)) := Lib.hid fun w1 W P' D' key hw1 hE hk => by
      obtain ⟨F', g1, g2⟩ := hE.sp
      have hbw : W.heap[bx]? = some (.cells #[.pointer (some ⟨s, 0, none⟩)] 28) := hE.chg.heap ((hw1.block bx (block_lt HBXX.out)).trans HBXX.out) (HTN.out _ _ _ HBXX.out (.inl rfl))
      refine (rank_dl g1 HF.out HPOL.out key hk bx (cell_of_row _ _ 0 _ _ _ hbw)).mono ?_
      rintro e w' ⟨he, ht⟩
      exact ⟨he, g2 _ _ ht, fun k c hk => ht.chg.heap hk (evCand g1 hk)⟩
    clear hTlt hTno hnew
    go_enter Tryz.func30, Tryz.ntmps30
    go_wp2_with (go_at_call 14; refine (HCN.out _ (HNEW.out _)).mono ?_; rintro e w1 ⟨v, rfl, hrow, hb1⟩
                 obtain ⟨pv, cv, hv, -⟩ := ownsRow_rd hrow (candsC_one P)
                 rw [HN.out] at hrow hv
                 subst hv
                 have HROW := Lib.hid hrow
                 have HB1 := Lib.hid hb1
                 clear hrow hb1)
    have HBX : Hid (w1.heap[w.heap.size]? = some (.cells #[.bool false, .func (.func 65) #[] #[.pointer (some ⟨bx, 0, none⟩)]] 84)) := Lib.hid ((HB1.out.block _ (by simp)).trans (heap_alloc_new w _))
    have HW1 : Hid (Below w.heap.size w w1) := Lib.hid ((HNEW.out _).trans (HB1.out.mono (by simp)))
    have HAT : Hid (∀ k c, P[k]? = some c → ∃ g, pv = some ⟨g, 0, none⟩ ∧ w.heap.size ≤ g ∧ w1.cell? ⟨g, k * 2, none⟩ = some (.string ⟨c.key.toArray⟩) ∧ w1.cell? ⟨g, k * 2 + 1, none⟩ = some (.int .u64 c.rank)) := Lib.hid fun k c hc => by
      rcases HROW.out.2 with ⟨_, h0⟩ | ⟨g, cap, cur, hv, hbg, _, _, _, _, _⟩
      · have := (List.getElem?_eq_some_iff.1 hc).1
        have := HN.out
        omega
      · injection hv with e1 e2 e3
        subst e1
        obtain ⟨q0, q1⟩ := candsC_get hc
        have g0 := HROW.out.cells (g := g) rfl _ _ q0
        have g1 := HROW.out.cells (g := g) rfl _ _ q1
        rw [Addr.add_base] at g0 g1
        exact ⟨g, rfl, by simp at hbg; omega, g0, g1⟩
    go_loopw [19] (fun i wr => ∃ k : Nat, k ≤ n ∧ i = .int .i64 k ∧ Hid (EvTo T s p r most X ((P.take k).foldl (refreshP X most) P) D w1 wr)) (fun i _ => n - (intOf i).toNat)
    case atStart => exact ⟨0, Nat.zero_le _, rfl, Lib.hid (HST.out _ HW1.out)⟩
    case round =>
      obtain ⟨k, hk, rfl, HE⟩ := hrel
      have hbx := evBox HE.out HTL.out (Nat.le_refl _) HBX.out
      by_cases hlt : k < n
      · obtain ⟨c, hc⟩ : ∃ c, P[k]? = some c := ⟨_, List.getElem?_eq_getElem (by rw [HN.out]; exact hlt)⟩
        obtain ⟨g, rfl, hgb, e0, e1⟩ := HAT.out k c hc
        have hkey := HPK.out c (List.mem_of_getElem? hc)
        have HFS := Lib.hid (fold_step (most := most) (X := X) (Q := P) hc)
        have keep : ∀ a : Addr, w.heap.size ≤ a.block → a.block < w1.heap.size → wr.cell? a = w1.cell? a := fun a h1 h2 => World.cell?_of_block (w := w1) (a := a) (by rw [HE.out.chg.block _ h2 fun e => by have := HTL.out _ e; omega])
        have f0 : wr.cell? ⟨g, k * 2, none⟩ = some (.string ⟨c.key.toArray⟩) := (keep _ hgb (World.block_lt_of_cell? w1 _ e0)).trans e0
        have f1 : wr.cell? ⟨g, k * 2 + 1, none⟩ = some (.int .u64 c.rank) := (keep _ hgb (World.block_lt_of_cell? w1 _ e1)).trans e1
        have hbl := block_lt hbx
        have hnw := (Below.refl wr.heap.size wr).alloc (Nat.le_refl _) (.cells #[.string ⟨c.key.toArray⟩, .int .u64 c.rank] 50)
        have hbx2 := (hnw.block _ hbl).trans hbx
        obtain ⟨-, b1, -⟩ := two_cells hbx2
        have HRC : Hid (Calls Tryz.prog 65 #[.string ⟨c.key.toArray⟩, .pointer (some ⟨bx, 0, none⟩)] (wr.alloc (.cells #[.string ⟨c.key.toArray⟩, .int .u64 c.rank] 50)) fun e w' => e = RankRes (X.rank c.key) ∧ EvTo T s p r most X ((P.take k).foldl (refreshP X most) P) D w1 w' ∧ w'.heap[wr.heap.size]? = some (.cells #[.string ⟨c.key.toArray⟩, .int .u64 c.rank] 50)) := Lib.hid ((HRK.out _ _ _ _ c.key HW1.out (HE.out.below hnw) (by omega)).mono fun e w' ⟨g1, g2, g3⟩ => ⟨g1, g2, g3 _ _ (heap_alloc_new wr _)⟩)
        clear hc e0 e1 hkey keep hnw hbx hbx2
        cases hrk : X.rank c.key with
        | some rk =>
          have HNX : Hid ((P.take (k + 1)).foldl (refreshP X most) P = offerC most ((P.take k).foldl (refreshP X most) P) ⟨c.key, rk⟩) := Lib.hid (by rw [HFS.out, refreshP, hrk])
          rw [hrk] at HRC
          simp only [RankRes, Option.getD_some, Option.isSome_some] at HRC
          clear hrk
          go_wp2_with (first
            | (go_at_call 65; refine HRC.out.mono ?_; rintro e w2 ⟨rfl, hE2, hb2⟩
               obtain ⟨c0, c1, -⟩ := two_cells hb2
               have HE2 := Lib.hid hE2
               clear hE2 hb2)
            | (go_at_call 68; refine (evOffer HE2.out ⟨c.key, rk⟩).mono ?_; rintro e w3 ⟨⟨b, rfl⟩, hE3⟩
               rw [← HNX.out] at hE3
               have HE3 := Lib.hid hE3
               clear hE3))
          go_roundw
          case rel => exact ⟨k + 1, by omega, by go_num, HE3⟩
          case measure => simp [intOf]; omega
        | none =>
          have HNX : Hid ((P.take (k + 1)).foldl (refreshP X most) P = dropC ((P.take k).foldl (refreshP X most) P) c.key) := Lib.hid (by rw [HFS.out, refreshP, hrk])
          rw [hrk] at HRC
          simp only [RankRes, Option.getD_none, Option.isSome_none] at HRC
          clear hrk
          go_wp2_with (first
            | (go_at_call 65; refine HRC.out.mono ?_; rintro e w2 ⟨rfl, hE2, hb2⟩
               obtain ⟨c0, c1, -⟩ := two_cells hb2
               have HE2 := Lib.hid hE2
               clear hE2 hb2)
            | (go_at_call 69; refine (evDrop HE2.out c.key).mono ?_; rintro e w3 ⟨⟨b, rfl⟩, hE3⟩
               rw [← HNX.out] at hE3
               have HE3 := Lib.hid hE3
               clear hE3))
          go_roundw
          case rel => exact ⟨k + 1, by omega, by go_num, HE3⟩
          case measure => simp [intOf]; omega
      · obtain rfl : k = n := by omega
        have HP1 : Hid (EvTo T s p r most X (P.foldl (refreshP X most) P) D w1 wr) := Lib.hid (by have := HE.out; rwa [List.take_of_length_le (by rw [HN.out]; exact Nat.le_refl _)] at this)
        obtain ⟨P1, hP1⟩ : ∃ P1, P.foldl (refreshP X most) P = P1 := ⟨_, rfl⟩
        have HP1E := Lib.hid hP1
        rw [hP1] at HP1
        clear hP1 hbx
        go_wp2_with (go_at_call 27; refine (HCF.out _ _ _ _ HP1.out).mono ?_; rintro e w2 ⟨rfl, hb2⟩
                     have HP2 := Lib.hid (HP1.out.below hb2)
                     clear hb2)
        go_loopw [46] (fun i wr => ∃ j : Nat, j ≤ m ∧ i = .int .i64 j ∧ ∃ P', Hid (EvTo T s p r most X P' (D.drop j) w1 wr) ∧ Hid (OffRel X most false j P1 P')) (fun i _ => m - (intOf i).toNat)
        case atStart => exact ⟨0, Nat.zero_le _, rfl, P1, HP2, Lib.hid OffRel.start⟩
        case round =>
          obtain ⟨j, hj, rfl, P', HE2, HO⟩ := hrel
          by_cases hlt : j < m
          · have hbx := evBox HE2.out HTL.out (Nat.le_refl _) HBX.out
            obtain ⟨b0, b1, -⟩ := two_cells hbx
            have HD0 : Hid (EvTo T s p r most X P' (D.drop j) w1 wr.drew) := Lib.hid (HE2.out.below ⟨rfl, rfl, rfl, Nat.le_refl _, fun _ _ => rfl⟩)
            have HDL := Lib.hid (drop_head_lt HDD.out j)
            obtain ⟨x, hx⟩ : ∃ x, (D.drop j).headD 0 = x := ⟨_, rfl⟩
            have HNX := Lib.hid (evNext HD0.out)
            rw [hx] at HDL HNX
            rw [drop_tail] at HNX
            clear hbx hx
            go_wp2_with fail
            go_region_with (first
              | (go_at_call 70; refine HNX.out.mono ?_; rintro e w3 ⟨rfl, hE3⟩
                 have hbx3 := evBox hE3 HTL.out (Nat.le_refl _) HBX.out
                 obtain ⟨d0, d1, -⟩ := two_cells hbx3
                 have HE3 := Lib.hid hE3
                 clear hE3 hbx3)
              | (go_at_call 29; refine (evSample HE3.out HF.out false x HDL.out).mono ?_; rintro e w4 ⟨⟨key, b, rfl, h0, h1⟩, hE4⟩
                 have hbx4 := evBox hE4 HTL.out (Nat.le_refl _) HBX.out
                 obtain ⟨e0, e1, -⟩ := two_cells hbx4
                 have HE4 := Lib.hid hE4
                 have HK0 := Lib.hid h0
                 have HK1 := Lib.hid h1
                 clear hE4 hbx4 h0 h1))
            all_goals
              cases b with
              | false =>
                go_wp2_with fail
                go_roundw
                case rel => exact ⟨j + 1, by omega, by go_num, P', HE4, Lib.hid (HO.out.none (HK0.out rfl))⟩
                case measure => simp [intOf]; omega
              | true =>
                obtain ⟨y, hy, hyk⟩ := HK1.out rfl
                subst hyk
                have HRC := Lib.hid (HRK.out _ _ _ _ y.key HW1.out HE4.out (HKT.out y hy))
                have HY := Lib.hid (HO.out.some hy)
                obtain ⟨rk, hrk⟩ : ∃ rk, (X.rank y.key).getD 0 = rk := ⟨_, rfl⟩
                unfold RankRes at HRC
                unfold offerK at HY
                rw [hrk] at HRC HY
                clear hy hrk HK0 HK1
                go_wp2_with (first
                  | (go_at_call 65; refine HRC.out.mono ?_; rintro e w5 ⟨rfl, hE5, -⟩
                     have HE5 := Lib.hid hE5
                     clear hE5)
                  | (go_at_call 68; refine (evOffer HE5.out ⟨y.key, rk⟩).mono ?_; rintro e w6 ⟨⟨b, rfl⟩, hE6⟩
                     have HE6 := Lib.hid hE6
                     clear hE6))
                go_roundw
                case rel => exact ⟨j + 1, by omega, by go_num, _, HE6, HY⟩
                case measure => simp [intOf]; omega
          · obtain rfl : j = m := by omega
            go_wp2_with fail
            refine bodyPost_end (results_none rfl _ _ _) rfl ?_
            obtain ⟨ks, o1, o2, o3⟩ := HO.out
            refine ⟨rfl, P', ⟨ks, o1, o2, by rw [HP1E.out]; exact o3⟩, HE2.out.pre HW1.out⟩
end
end Go.Proofs.YtelbmphmihjgfaaGreat.DEnt
