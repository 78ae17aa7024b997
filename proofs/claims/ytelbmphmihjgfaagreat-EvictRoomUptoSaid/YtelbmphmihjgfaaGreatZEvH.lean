/- A space, a pool and a source at once; rankingOf. -/
import Derived.Test.YtelbmphmihjgfaaGreatZPlOffer
import Derived.Test.YtelbmphmihjgfaaGreatZSrcDef
import Derived.Test.YtelbmphmihjgfaaGreatZKsAll
import Derived.Test.YtelbmphmihjgfaaGreatZKsOps2
import Derived.Laws.EntriesVeiled
set_option linter.unusedVariables false
set_option linter.unusedSimpArgs false
namespace Go.Proofs.YtelbmphmihjgfaaGreat.DEnt
open Go.RowKit Pantry Go.Maps Go.Sort

/-- A space, a pool, a source since w0: T were their blocks there. -/
structure EvTo (T : Nat → Prop) (s p r most : Nat) (X : Sp) (P : List Cand) (D : List Nat) (w0 w : World) : Prop where
  ex : ∃ F G, SpH w s F X ∧ PlH w p G most P ∧ SrcAt w r D ∧ ∀ k, (F k ∨ G k ∨ k = r) → T k ∨ w0.heap.size ≤ k
  chg : Chg T w0 w
section
variable {T : Nat → Prop} {s p r most : Nat} {X : Sp} {P : List Cand} {D : List Nat} {w0 w w' : World}
theorem SpH.no {F : Nat → Prop} (h : SpH w s F X) {k : Nat} {c : Array Value} {t : TypeId} (hk : w.heap[k]? = some (.cells c t)) (ht : t = 77 ∨ t = 50 ∨ t = 95 ∨ t = 22) : ¬ F k := by
  refine h.not_foot hk ?_
  rcases ht with rfl | rfl | rfl | rfl <;> decide
theorem PlH.blocks {G : Nat → Prop} (h : PlH w p G most P) {k : Nat} (hk : G k) : ∃ c t, w.heap[k]? = some (.cells c t) ∧ (t = 77 ∨ t = 50) := by
  obtain ⟨v, h1, h2⟩ := h.ex
  exact h1.blocks ((h2 k).1 hk)
theorem EvTo.start {F G : Nat → Prop} (h1 : SpH w s F X) (h2 : PlH w p G most P) (h3 : SrcAt w r D) : EvTo (fun k => F k ∨ G k ∨ k = r) s p r most X P D w w :=
  ⟨⟨F, G, h1, h2, h3, fun k hk => .inl hk⟩, Chg.refl _ _⟩
theorem EvTo.below (h : EvTo T s p r most X P D w0 w) (hb : Below w.heap.size w w') : EvTo T s p r most X P D w0 w' := by
  obtain ⟨⟨F, G, h1, h2, h3, h4⟩, hc⟩ := h
  exact ⟨⟨F, G, h1.below hb, h2.below hb, h3.below hb, h4⟩, hc.trans (T := fun _ => False) (Chg.of_below hb) fun _ _ e => e.elim⟩
/-- What began earlier. -/
theorem EvTo.pre {A : World} (hb : Below w0.heap.size w0 A) (h : EvTo T s p r most X P D A w) : EvTo T s p r most X P D w0 w := by
  obtain ⟨⟨F, G, h1, h2, h3, h4⟩, hc⟩ := h
  exact ⟨⟨F, G, h1, h2, h3, fun k hk => (h4 k hk).imp id (Nat.le_trans hb.size)⟩, (Chg.of_below (S := T) hb).trans hc fun j _ e => e⟩
/-- What began anew. -/
theorem EvTo.anew (h : EvTo T s p r most X P D w0 w) : EvTo (fun k => T k ∨ w0.heap.size ≤ k) s p r most X P D w w := by
  obtain ⟨⟨F, G, h1, h2, h3, h4⟩, hc⟩ := h
  exact ⟨⟨F, G, h1, h2, h3, fun k hk => .inl (h4 k hk)⟩, Chg.refl _ _⟩
theorem EvTo.sp (h : EvTo T s p r most X P D w0 w) : ∃ F, SpH w s F X ∧ ∀ X' w', SpTo s F X' w w' → EvTo T s p r most X' P D w0 w' := by
  obtain ⟨⟨F, G, h1, h2, h3, h4⟩, hc⟩ := h
  refine ⟨F, h1, fun X' w' ht => ?_⟩
  obtain ⟨⟨F', g1, g2⟩, hc'⟩ := ht
  refine ⟨⟨F', G, g1, h2.keep hc' fun k hk hf => ?_, h3.keep hc' fun k c t hk ht => h1.no hk (by rcases ht with e | e <;> simp [e]), fun k hk => ?_⟩, hc.trans hc' fun j hj e => (h4 j (.inl e)).resolve_right (by omega)⟩
  · obtain ⟨c, t, e1, e2⟩ := h2.blocks hk
    exact h1.no e1 (by rcases e2 with e | e <;> simp [e]) hf
  · rcases hk with hk | hk | hk
    · rcases g2 k hk with hk | hk
      · exact h4 k (.inl hk)
      · exact .inr (Nat.le_trans hc.size hk)
    · exact h4 k (.inr (.inl hk))
    · exact h4 k (.inr (.inr hk))
theorem EvTo.pl (h : EvTo T s p r most X P D w0 w) : ∃ G, PlH w p G most P ∧ ∀ P' w', PlTo p G most P' w w' → EvTo T s p r most X P' D w0 w' := by
  obtain ⟨⟨F, G, h1, h2, h3, h4⟩, hc⟩ := h
  refine ⟨G, h2, fun P' w' ht => ?_⟩
  obtain ⟨⟨G', g1, g2⟩, hc'⟩ := ht
  refine ⟨⟨F, G', h1.keep hc' fun k hk hg => ?_, g1, h3.keep hc' fun k c t hk ht hg => ?_, fun k hk => ?_⟩, hc.trans hc' fun j hj e => (h4 j (.inr (.inl e))).resolve_right (by omega)⟩
  · obtain ⟨c, t, e1, e2⟩ := h2.blocks hg
    exact h1.no e1 (by rcases e2 with e | e <;> simp [e]) hk
  · exact h2.not_foot hk (by rcases ht with rfl | rfl <;> decide) hg
  · rcases hk with hk | hk | hk
    · exact h4 k (.inl hk)
    · rcases g2 k hk with hk | hk
      · exact h4 k (.inr (.inl hk))
      · exact .inr (Nat.le_trans hc.size hk)
    · exact h4 k (.inr (.inr hk))
theorem EvTo.src (h : EvTo T s p r most X P D w0 w) : SrcAt w r D ∧ ∀ D' w', SrcAt w' r D' → Chg (fun k => k = r) w w' → EvTo T s p r most X P D' w0 w' := by
  obtain ⟨⟨F, G, h1, h2, h3, h4⟩, hc⟩ := h
  refine ⟨h3, fun D' w' hd hc' => ?_⟩
  obtain ⟨c, hr⟩ := h3.head
  refine ⟨⟨F, G, h1.keep hc' fun k hk e => ?_, h2.keep hc' fun k hk e => ?_, hd, h4⟩, hc.trans hc' fun j hj e => (h4 j (.inr (.inr e))).resolve_right (by omega)⟩
  · subst e; exact h1.no hr (by simp) hk
  · subst e; exact h2.not_foot hr (by decide) hk
end
end Go.Proofs.YtelbmphmihjgfaaGreat.DEnt

/- evict.rankingOf; the ranks of keys. -/
set_option linter.unusedVariables false
set_option linter.unusedSimpArgs false
namespace Pantry
/-- The rank of a key; none: it cannot go. -/
def Sp.rank (X : Sp) (key : List UInt8) : Option Nat :=
  match X.find key with
  | none => none
  | some e => if X.policy = 1 then some e.stamp else if e.dl = 0 then none else some e.dl
end Pantry
namespace Go.Proofs.YtelbmphmihjgfaaGreat.DEnt
open Go.RowKit Pantry Go.Maps Go.Sort

theorem field_most (a : Int) (b c d : Int) (w : World) : (Instr.field 24 (.agg #[.int .u64 a, .int .i64 b, .int .i64 c, .int .i64 d]) 1).run Tryz.prog w = .ok (.int .i64 b) w := by kernel_rfl
theorem field_policy (a : Int) (b c d : Int) (w : World) : (Instr.field 24 (.agg #[.int .u64 a, .int .i64 b, .int .i64 c, .int .i64 d]) 2).run Tryz.prog w = .ok (.int .i64 c) w := by kernel_rfl
theorem field_samples (a : Int) (b c d : Int) (w : World) : (Instr.field 24 (.agg #[.int .u64 a, .int .i64 b, .int .i64 c, .int .i64 d]) 3).run Tryz.prog w = .ok (.int .i64 d) w := by kernel_rfl
def RankRes (o : Option Nat) : Ending := .returned (.tuple #[.int .u64 ((o.getD 0 : Nat) : Int), .bool o.isSome])
section
variable {w : World} {s : Nat} {F : Nat → Prop} {X : Sp}
theorem rank_stamp (h : SpH w s F X) (hf : X.Fresh) (hp : X.policy = 1) (key : List UInt8) (hk : key.length ≤ 140737488351232) :
    Calls Tryz.prog 15 #[.pointer (some ⟨s, 0, none⟩), .string ⟨key.toArray⟩] w fun r w' => r = RankRes (X.rank key) ∧ SpTo s F X w w' := by
  refine (sStamp h key hk).mono ?_
  rintro r w' ⟨rfl, ht⟩
  rw [hf.met key] at ht ⊢
  refine ⟨?_, ht⟩
  unfold Sp.rank
  cases X.find key with
  | none => rfl
  | some e => simp [StRes, RankRes, hp]
set_option maxHeartbeats 1000000 in
theorem rank_dl (h : SpH w s F X) (hf : X.Fresh) (hp : X.policy = 2) (key : List UInt8) (hk : key.length ≤ 140737488351232) (bx : Nat) (hb : w.cell? ⟨bx, 0, none⟩ = some (.pointer (some ⟨s, 0, none⟩))) :
    Calls Tryz.prog 65 #[.string ⟨key.toArray⟩, .pointer (some ⟨bx, 0, none⟩)] w fun r w' => r = RankRes (X.rank key) ∧ SpTo s F X w w' := by
  have HD := Lib.hid (sDeadline h key hk)
  have hm := hf.met key
  have HR : Hid (∃ a b, DlRes (X.met key).1 = .returned (.tuple #[.int .i64 (a : Nat), .bool b]) ∧ RankRes (X.rank key) = .returned (.tuple #[.int .u64 (a : Nat), .bool b]) ∧ a ≤ 9007199254740992) := Lib.hid (by
    rw [hm]
    unfold Sp.rank
    cases hfe : X.find key with
    | none => exact ⟨0, false, rfl, rfl, by omega⟩
    | some e =>
      have hd := h.good.dl e (find_some hfe).1
      by_cases h0 : e.dl = 0
      · exact ⟨0, false, by simp [DlRes, h0], by simp [RankRes, hp, h0], by omega⟩
      · exact ⟨e.dl, true, by simp [DlRes, h0], by simp [RankRes, hp, h0], hd⟩)
  obtain ⟨a, b, h1, h2, h3⟩ := HR.out
  rw [h1, hm] at HD
  rw [h2]
  clear h1 h2 HR hm h hf
  go_enter Tryz.func65, Tryz.ntmps65
  go_wp2_with (go_at_call 16; refine HD.out.mono ?_; rintro r w1 ⟨rfl, ht⟩
               have HT := Lib.hid ht
               clear ht)
  go_ret2
  exact ⟨rfl, HT.out⟩
/-- How a space ranks its keys. -/
def RankFn (s : Nat) (X : Sp) (W : World) (all : Bool) (fv : Value) : Prop :=
  (X.policy = 1 ∧ all = true ∧ fv = .func (.func 15) #[.pointer (some ⟨s, 0, none⟩)] #[]) ∨ (X.policy = 2 ∧ all = false ∧ ∃ bx, fv = .func (.func 65) #[] #[.pointer (some ⟨bx, 0, none⟩)] ∧ W.heap[bx]? = some (.cells #[.pointer (some ⟨s, 0, none⟩)] 28))
def RankOfPost (s : Nat) (X : Sp) (w : World) (r : Ending) (w' : World) : Prop :=
  Below w.heap.size w w' ∧ ∃ all fv, r = .returned (.tuple #[.agg #[.bool all, fv], .bool (decide (X.policy ≠ 0))]) ∧ (X.policy ≠ 0 → RankFn s X w' all fv ∧ ∀ bx, fv = .func (.func 65) #[] #[.pointer (some ⟨bx, 0, none⟩)] → w.heap.size ≤ bx) ∧ (X.policy = 0 → all = false ∧ fv = .nilFunc)
set_option maxHeartbeats 2000000 in
set_option maxRecDepth 100000 in
theorem rankOf_any (h : SpH w s F X) : Calls Tryz.prog 28 #[.pointer (some ⟨s, 0, none⟩)] w (RankOfPost s X w) := by
  have hnew := fun o => (Below.refl w.heap.size w).alloc (Nat.le_refl _) o
  have hpo := h.good.policy
  have HC : Hid (∀ W, Below w.heap.size w W → Calls Tryz.prog 27 #[.pointer (some ⟨s, 0, none⟩)] W fun r w' => r = .returned (.agg #[.int .u64 X.seed, .int .i64 X.most, .int .i64 X.policy, .int .i64 X.samples]) ∧ Below W.heap.size W w') := Lib.hid fun W hb => sConfig (h.below hb)
  obtain ⟨pol, hpol⟩ : ∃ q, X.policy = q := ⟨_, rfl⟩
  rw [hpol] at hpo HC
  have HP := Lib.hid hpol
  clear h hpol
  have hp3 : pol = 0 ∨ pol = 1 ∨ pol = 2 := by omega
  have HNEW : Hid (∀ o o', Below w.heap.size w ((w.alloc o).alloc o')) := Lib.hid fun o o' => (hnew o).alloc (by simp) o'
  have HOLD : Hid (∀ w1, Below ((w.alloc (.cells #[.pointer (some ⟨s, 0, none⟩)] 28)).alloc (.cells #[.bool false, .nilFunc] 84)).heap.size ((w.alloc (.cells #[.pointer (some ⟨s, 0, none⟩)] 28)).alloc (.cells #[.bool false, .nilFunc] 84)) w1 →
      w1.heap[w.heap.size]? = some (.cells #[.pointer (some ⟨s, 0, none⟩)] 28) ∧ w1.heap[w.heap.size + 1]? = some (.cells #[.bool false, .nilFunc] 84) ∧ Below w.heap.size w w1) := Lib.hid fun w1 hb => by
    obtain ⟨e0, e1, e2⟩ := two_new w (.cells #[.pointer (some ⟨s, 0, none⟩)] 28) (.cells #[.bool false, .nilFunc] 84)
    exact ⟨(hb.block _ (block_lt e0)).trans e0, (hb.block _ (block_lt e1)).trans e1, ((hnew _).alloc (by simp) _).trans (hb.mono (by simp; omega))⟩
  have hfi := field_policy
  clear hnew hpo
  rcases hp3 with rfl | rfl | rfl
  all_goals
    go_enter Tryz.func28, Tryz.ntmps28
    go_wp2_with (go_at_call 27; refine (HC.out _ (HNEW.out _ _)).mono ?_; rintro r w1 ⟨rfl, hb⟩
                 obtain ⟨q0, q1, hb3⟩ := HOLD.out _ hb
                 have q2 := cell_of_row _ _ 0 _ _ _ q0
                 obtain ⟨q3, q4, q5⟩ := two_cells q1
                 have q50 := q5 0
                 have q51 := q5 1
                 have HQ := Lib.hid q0
                 have HB := Lib.hid hb3
                 clear hb hb3 q0 q1 q5)
  · refine bodyPost_ret (v := .tuple #[.agg #[.bool false, .nilFunc], .bool false]) ?_ rfl ?_
    · simp [results, Tryz.results28, go_sem, q3, q4, q50, q51]
    · refine ⟨(HB.out.setCell (by simp) _).setCell (by simp) _, false, .nilFunc, ?_, fun h => absurd HP.out h, fun _ => ⟨rfl, rfl⟩⟩
      rw [HP.out]; simp
  · refine bodyPost_ret (v := .tuple #[.agg #[.bool true, .func (.func 15) #[.pointer (some ⟨s, 0, none⟩)] #[]], .bool true]) ?_ rfl ?_
    · simp [results, Tryz.results28, go_sem, q3, q4, q50, q51]
    · refine ⟨(HB.out.setCell (by simp) _).setCell (by simp) _, true, _, ?_, fun h => ⟨.inl ⟨HP.out, rfl, rfl⟩, fun bx e => by cases e⟩, fun h => absurd (HP.out.symm.trans h) (by decide)⟩
      rw [HP.out]; simp
  · refine bodyPost_ret (v := .tuple #[.agg #[.bool false, .func (.func 65) #[] #[.pointer (some ⟨w.heap.size, 0, none⟩)]], .bool true]) ?_ rfl ?_
    · simp [results, Tryz.results28, go_sem, q3, q4, q50, q51]
    · refine ⟨(HB.out.setCell (by simp) _).setCell (by simp) _, false, _, ?_, fun h => ⟨.inr ⟨HP.out, rfl, _, rfl, ?_⟩, fun bx e => by cases e; exact Nat.le_refl _⟩, fun h => absurd (HP.out.symm.trans h) (by decide)⟩
      · rw [HP.out]; simp
      · rw [heapSetOther (p := ⟨w.heap.size + 1, 1, none⟩) (by simp), heapSetOther (p := ⟨w.heap.size + 1, 0, none⟩) (by simp)]
        exact HQ.out
theorem rankOf_lru (h : SpH w s F X) (hp : X.policy = 1) : Calls Tryz.prog 28 #[.pointer (some ⟨s, 0, none⟩)] w fun e w' => e = .returned (.tuple #[.agg #[.bool true, .func (.func 15) #[.pointer (some ⟨s, 0, none⟩)] #[]], .bool true]) ∧ Below w.heap.size w w' := by
  refine (rankOf_any h).mono ?_
  rintro e w' ⟨hb, all, fv, rfl, h1, -⟩
  rcases (h1 (by rw [hp]; decide)).1 with ⟨-, rfl, rfl⟩ | ⟨h2, -⟩
  · exact ⟨by simp [hp], hb⟩
  · rw [hp] at h2; cases h2
theorem rankOf_ttl (h : SpH w s F X) (hp : X.policy = 2) : Calls Tryz.prog 28 #[.pointer (some ⟨s, 0, none⟩)] w fun e w' => (∃ bx, e = .returned (.tuple #[.agg #[.bool false, .func (.func 65) #[] #[.pointer (some ⟨bx, 0, none⟩)]], .bool true]) ∧ w'.heap[bx]? = some (.cells #[.pointer (some ⟨s, 0, none⟩)] 28)) ∧ Below w.heap.size w w' := by
  refine (rankOf_any h).mono ?_
  rintro e w' ⟨hb, all, fv, rfl, h1, -⟩
  rcases (h1 (by rw [hp]; decide)).1 with ⟨h2, -⟩ | ⟨-, rfl, bx, rfl, hbx⟩
  · rw [hp] at h2; cases h2
  · exact ⟨⟨bx, by simp [hp], hbx⟩, hb⟩
theorem rankOf_off (h : SpH w s F X) (hp : X.policy = 0) : Calls Tryz.prog 28 #[.pointer (some ⟨s, 0, none⟩)] w fun e w' => e = .returned (.tuple #[.agg #[.bool false, .nilFunc], .bool false]) ∧ Below w.heap.size w w' := by
  refine (rankOf_any h).mono ?_
  rintro e w' ⟨hb, all, fv, rfl, -, h1⟩
  obtain ⟨rfl, rfl⟩ := h1 hp
  exact ⟨by simp [hp], hb⟩
end
end Go.Proofs.YtelbmphmihjgfaaGreat.DEnt
