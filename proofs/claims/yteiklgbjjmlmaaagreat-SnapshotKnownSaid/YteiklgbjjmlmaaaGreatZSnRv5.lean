
/- The reader of a snapshot: values of any kind. -/
import Derived.Test.YteiklgbjjmlmaaaGreatZSnRv4
import Derived.Test.YteiklgbjjmlmaaaGreatZSnVal
import Derived.Test.YteiklgbjjmlmaaaGreatZVTold
import Derived.Test.YteiklgbjjmlmaaaGreatZSnRd
import Derived.Tactics2
import Derived.Defers
import Derived.Recover
import Derived.Laws.Pointers
import Derived.Test.YteiklgbjjmlmaaaGreatZSnFo
set_option linter.unusedVariables false
set_option linter.unusedSimpArgs false
namespace Go.Proofs.YteiklgbjjmlmaaaGreat
open Go.RowKit Pantry

/-- A value in memory of its own, from B on. -/
structure OwnP (w : World) (B : Nat) (p : PD) (v1 v2 v3 : Value) : Prop where
  items : w.ownsRow B 9 1 v1 p.items.length (p.items.map txC)
  pairs : w.ownsRow B 71 2 v2 p.pairs.length (fdCells p.pairs)
  ranks : w.ownsRow B 54 2 v3 p.ranks.length (rkCells p.ranks)
def Valued (B : Nat) (p : PD) (e : Ending) (w' : World) : Prop :=
  ∃ v1 v2 v3, e = .returned (.agg #[.int .i64 p.kind, .string ⟨p.text.toArray⟩, v1, v2, v3]) ∧ OwnP w' B p v1 v2 v3
/-- The same told otherwise. -/
def toldAs {α β : Type} (f : α → β) : Rdd α → Rdd β
  | .error c => .error c
  | .ok (x, r) => .ok (f x, r)
theorem Tryz.RdPost.map {α β : Type} {N R : Nat} {w w' : World} {res : Rdd α} {res' : Rdd β} {f : α → β} {ok : α → Ending → World → Prop} {ok' : β → Ending → World → Prop} {e : Ending}
    (h : Tryz.RdPost N w R res ok e w') (hr : res' = toldAs f res) (ho : ∀ x, ok x e w' → ok' (f x) e w') : Tryz.RdPost N w R res' ok' e w' := by
  subst hr
  obtain ⟨h1, h2⟩ := h
  refine ⟨h1, ?_⟩
  cases res with
  | error c => exact h2
  | ok q => exact ⟨ho _ h2.1, h2.2⟩
theorem ownsRow_none (w : World) (B : Nat) (e : TypeId) (size : Nat) : w.ownsRow B e size (.slice none 0 0) 0 [] := ⟨by simp, .inl ⟨rfl, rfl⟩⟩
theorem kindR_cons (c : UInt8) (s : List UInt8) : kindR (c :: s) = if 1 ≤ c.toNat ∧ c.toNat ≤ 5 then .ok (c.toNat, s) else .error 290 := by
  unfold kindR
  have : takeR 1 (c :: s) = .ok ([c], s) := by unfold takeR; rw [if_pos (by simp)]; rfl
  rw [this]
  rfl
theorem valR_kind {c : UInt8} {s : List UInt8} (h : 1 ≤ c.toNat ∧ c.toNat ≤ 5) : valR (c :: s) = bodyR c.toNat s := by
  unfold valR mapR
  have : kindR (c :: s) = .ok (c.toNat, s) := by rw [kindR_cons, if_pos h]
  rw [seqR_ok this]
  cases bodyR c.toNat s with
  | error e => rfl
  | ok q => obtain ⟨y, r⟩ := q; rfl
theorem rval_any {N R : Nat} {w : World} {src : List UInt8} (h : RdAt N w R src) :
    Calls Tryz.prog 47 #[.pointer (some ⟨R, 0, none⟩)] w (Tryz.RdPost N w R (valR src) (Valued w.heap.size)) := by
  cases src with
  | nil =>
    refine (rval_none h).mono ?_
    rintro e w' ⟨h1, rfl⟩
    exact .err rfl h1
  | cons c s =>
    by_cases hc : 1 ≤ c.toNat ∧ c.toNat ≤ 5
    · rw [valR_kind hc]
      have hs : c.toNat = 1 ∨ c.toNat = 3 ∨ c.toNat = 5 ∨ (c.toNat = 2 ∨ c.toNat = 4) := by omega
      rcases hs with hk | hk | hk | hk
      · obtain rfl : c = 1 := UInt8.toNat.inj hk
        refine (rval_text h).mono fun e w' hp => hp.map (f := fun s => (⟨1, s, [], [], []⟩ : PD)) rfl fun s he => ?_
        exact ⟨_, _, _, he, ownsRow_none _ _ _ _, ownsRow_none _ _ _ _, ownsRow_none _ _ _ _⟩
      · refine (rval_pairs h hk).mono fun e w' hp => hp.map (f := fun q => (⟨3, [], [], q.2, []⟩ : PD)) ?_ fun q he => ?_
        · rw [hk]
          show mapR _ (countR fldR) s = _
          unfold countR mapR fldR
          cases seqR (numR 1 1048576) (fun n => manyR (seqR textR fun _ => textR) n) s with
          | error e => rfl
          | ok q => obtain ⟨⟨n, l⟩, r⟩ := q; rfl
        · obtain ⟨v, he, hv⟩ := he
          rw [hk] at he
          exact ⟨_, _, _, he, ownsRow_none _ _ _ _, hv, ownsRow_none _ _ _ _⟩
      · refine (rval_ranks h hk).mono fun e w' hp => hp.map (f := fun q => (⟨5, [], [], [], q.2⟩ : PD)) ?_ fun q he => ?_
        · rw [hk]
          show mapR _ (countR mbR) s = _
          unfold countR mapR mbR
          cases seqR (numR 1 1048576) (fun n => manyR (seqR textR fun _ => eightR) n) s with
          | error e => rfl
          | ok q => obtain ⟨⟨n, l⟩, r⟩ := q; rfl
        · obtain ⟨v, he, hv⟩ := he
          rw [hk] at he
          exact ⟨_, _, _, he, ownsRow_none _ _ _ _, ownsRow_none _ _ _ _, hv⟩
      · refine (rval_items h hk).mono fun e w' hp => hp.map (f := fun q => (⟨c.toNat, [], q.2, [], []⟩ : PD)) ?_ fun q he => ?_
        · unfold bodyR
          rw [if_neg (by omega), if_neg (by omega), if_neg (by omega)]
          unfold countR mapR
          cases seqR (numR 1 1048576) (fun n => manyR textR n) s with
          | error e => rfl
          | ok q => obtain ⟨⟨n, l⟩, r⟩ := q; rfl
        · obtain ⟨v, he, hv⟩ := he
          exact ⟨_, _, _, he, hv, ownsRow_none _ _ _ _, ownsRow_none _ _ _ _⟩
    · refine (rval_kind h hc).mono ?_
      rintro e w' ⟨h1, rfl⟩
      refine .err ?_ h1
      unfold valR mapR seqR
      rw [kindR_cons, if_neg hc]
theorem OwnP.plain {w : World} {B : Nat} {p : PD} {v1 v2 v3 : Value} (h : OwnP w B p v1 v2 v3) : ∃ a1 a2 a3 c1 c2 c3, v1 = .slice a1 p.items.length c1 ∧ v2 = .slice a2 p.pairs.length c2 ∧ v3 = .slice a3 p.ranks.length c3 ∧ PlainAt w p a1 a2 a3 := by
  obtain ⟨a1, c1, h1, k1⟩ := ownsRow_rd h.items (fun u hu => by obtain ⟨s, -, rfl⟩ := List.mem_map.1 hu; rfl)
  obtain ⟨a2, c2, h2, k2⟩ := ownsRow_rd h.pairs (fdCells_one _)
  obtain ⟨a3, c3, h3, k3⟩ := ownsRow_rd h.ranks (rkCells_one _)
  exact ⟨a1, a2, a3, c1, c2, c3, h1, h2, h3, k1, k2, k3⟩
end Go.Proofs.YteiklgbjjmlmaaaGreat


/- The closure that Load defers: behind a panic with an error it answers that error; else nothing. -/
set_option linter.unusedVariables false
set_option linter.unusedSimpArgs false
namespace Go.Proofs.YteiklgbjjmlmaaaGreat
open Go.RowKit Pantry

theorem load1_idle (p q r : Addr) (w : World) :
    CallsD Tryz.prog 42 #[.pointer (some p), .pointer (some q), .pointer (some r)] .returning w fun e u' w' =>
      e = .returned (.tuple #[]) ∧ u' = .returning ∧ w' = w := by
  refine callsD_of_wpS Tryz.func42 rfl fun c₀ cs hu => ?_
  apply wpS_seq
  apply wpS_region
  simp [wpOpsS, go_sem, recoverD, hu, Tryz.ntmps42, Exit.thenS]
  apply wpS_seq
  apply wpS_region
  simp [wpOpsS, go_sem, hu, Exit.thenS]
  refine wpS_cond (t := false) (by simp [Act.eval, Array.replicate]) ?_
  simp only [Bool.false_eq_true, if_false]
  refine wpS_of_wp (wp_skip ?_)
  cases c₀
  simp_all [bodyPostS, results, Tryz.results42]
theorem load1_dies (A B C : Nat) (x y z : Value) (t1 t2 t3 : TypeId) (c : Int) (older : List PanicEntry) (w : World) (ha : w.heap[A]? = some (.cells #[x] t1)) (hb : w.heap[B]? = some (.cells #[y] t2)) (hc : w.heap[C]? = some (.cells #[z] t3)) (hab : A ≠ B) (hac : A ≠ C) (hbc : B ≠ C) :
    CallsD Tryz.prog 42 #[.pointer (some ⟨A, 0, none⟩), .pointer (some ⟨B, 0, none⟩), .pointer (some ⟨C, 0, none⟩)] (.panicking ({ v := .iface 25 (.int .i64 c), recovered := false } :: older)) w fun e u' w' =>
      e = .returned (.tuple #[]) ∧ u' = .panicking ({ v := .iface 25 (.int .i64 c), recovered := true } :: older) ∧ w' = ((w.drew.setCell ⟨A, 0, none⟩ (.int .i64 0)).setCell ⟨B, 0, none⟩ (.slice none 0 0)).setCell ⟨C, 0, none⟩ (.int .i64 c) := by
  have hta : ∀ (t : TypeId) (w : World), (Instr.typeAssert (.iface 25 (.int .i64 c)) t 25 false).run Tryz.prog w = .ok (.int .i64 c) w := fun t w => by kernel_rfl
  have hmx : Tryz.prog.follows .mixedOrders = true := by kernel_rfl
  have ca := cell_of_row w A 0 _ _ _ ha
  have cb := cell_of_row w B 0 _ _ _ hb
  have cc := cell_of_row w C 0 _ _ _ hc
  have fa := frozen_of_row w A 0 _ _ ha
  have fb := frozen_of_row w B 0 _ _ hb
  have fc := frozen_of_row w C 0 _ _ hc
  refine callsD_of_wpS Tryz.func42 rfl fun c₀ cs hu => ?_
  apply wpS_seq
  apply wpS_region
  simp [wpOpsS, go_sem, recoverD, hu, Tryz.ntmps42, Exit.thenS]
  apply wpS_seq
  apply wpS_region
  simp [wpOpsS, go_sem, hu, Exit.thenS]
  refine wpS_cond (t := true) (by simp [Act.eval, Array.replicate]) ?_
  simp only [if_true]
  refine wpS_of_wp ?_
  change Code.wp _ _ _ { tmps := #[.pointer (some ⟨A, 0, none⟩), .pointer (some ⟨B, 0, none⟩), .pointer (some ⟨C, 0, none⟩), .iface 25 (.int .i64 c), .iface 25 (.int .i64 c), .iface 25 (.int .i64 c), .bool true, undef, undef], defers := [] } w
  go_region
  refine ⟨rfl, _, rfl, .tuple #[], ?_, rfl, rfl, rfl⟩
  simp [results, Tryz.results42, go_sem]
/-- The three results as variables. -/
structure Box3 (w : World) (B : Nat) (x y z : Value) : Prop where
  h0 : w.heap[B]? = some (.cells #[x] 2)
  h1 : w.heap[B + 1]? = some (.cells #[y] 22)
  h2 : w.heap[B + 1 + 1]? = some (.cells #[z] 25)
theorem Box3.chg {S : Nat → Prop} {w w' : World} {B : Nat} {x y z : Value} (h : Box3 w B x y z) (hc : Chg S w w') (hS : ∀ k, S k → B + 1 + 1 < k) : Box3 w' B x y z :=
  ⟨hc.heap h.h0 fun e => by have := hS _ e; omega, hc.heap h.h1 fun e => by have := hS _ e; omega, hc.heap h.h2 fun e => by have := hS _ e; omega⟩
theorem door_dies {Q : Ending → World → Prop} {a : Act} {w : World} {B : Nat} {x y z : Value} {c : Int} (hb : Box3 w B x y z)
    (hd : a.defers = [{ target := Target.fn (Fn.func 42) #[.pointer (some ⟨B, 0, none⟩), .pointer (some ⟨B + 1, 0, none⟩), .pointer (some ⟨B + 1 + 1, 0, none⟩)], args := #[] }])
    (h2 : a.tmps.getD 2 undef = .pointer (some ⟨B, 0, none⟩)) (h3 : a.tmps.getD 3 undef = .pointer (some ⟨B + 1, 0, none⟩)) (h4 : a.tmps.getD 4 undef = .pointer (some ⟨B + 1 + 1, 0, none⟩))
    (hQ : ∀ w', Below B w w' → Q (.returned (.tuple #[.int .i64 0, .slice none 0 0, .int .i64 c])) w') : bodyPostD Tryz.prog Tryz.f18 Q (Exit.panic [{ v := .iface 25 (.int .i64 c), recovered := false }]) a w := by
  have h2' : a.tmps[2]?.getD undef = .pointer (some ⟨B, 0, none⟩) := by simpa using h2
  have h3' : a.tmps[3]?.getD undef = .pointer (some ⟨B + 1, 0, none⟩) := by simpa using h3
  have h4' : a.tmps[4]?.getD undef = .pointer (some ⟨B + 1 + 1, 0, none⟩) := by simpa using h4
  obtain ⟨tmps, defers⟩ := a
  simp only at hd h2' h3' h4'
  subst hd
  refine leaves_cons (f := 42) (args := #[.pointer (some ⟨B, 0, none⟩), .pointer (some ⟨B + 1, 0, none⟩), .pointer (some ⟨B + 1 + 1, 0, none⟩)]) (by simp) (by simp [go_sem]) ?_
  refine (load1_dies B (B + 1) (B + 1 + 1) x y z _ _ _ c [] w hb.h0 hb.h1 hb.h2 (by omega) (by omega) (by omega)).mono ?_
  rintro e u' w'' ⟨rfl, rfl, rfl⟩
  have hbl : Below B w (((w.drew.setCell ⟨B, 0, none⟩ (.int .i64 0)).setCell ⟨B + 1, 0, none⟩ (.slice none 0 0)).setCell ⟨B + 1 + 1, 0, none⟩ (.int .i64 c)) :=
    ((((Below.refl B w).drew).setCell (p := ⟨B, 0, none⟩) (Nat.le_refl _) _).setCell (p := ⟨B + 1, 0, none⟩) (by show B ≤ B + 1; omega) _).setCell (p := ⟨B + 1 + 1, 0, none⟩) (by show B ≤ B + 1 + 1; omega) _
  have hq := hQ _ hbl
  have ca := cell_of_row w B 0 _ _ _ hb.h0
  have cb := cell_of_row w (B + 1) 0 _ _ _ hb.h1
  have cc := cell_of_row w (B + 1 + 1) 0 _ _ _ hb.h2
  simp [Leaves, settle, results, Tryz.results18, go_sem, h2', h3', h4', ca, cb, cc]
  exact hq
theorem door_ends {Q : Ending → World → Prop} {a : Act} {w : World} {B : Nat} {x y z : Value} (hb : Box3 w B x y z)
    (hd : a.defers = [{ target := Target.fn (Fn.func 42) #[.pointer (some ⟨B, 0, none⟩), .pointer (some ⟨B + 1, 0, none⟩), .pointer (some ⟨B + 1 + 1, 0, none⟩)], args := #[] }])
    (h2 : a.tmps.getD 2 undef = .pointer (some ⟨B, 0, none⟩)) (h3 : a.tmps.getD 3 undef = .pointer (some ⟨B + 1, 0, none⟩)) (h4 : a.tmps.getD 4 undef = .pointer (some ⟨B + 1 + 1, 0, none⟩))
    (hQ : Q (.returned (.tuple #[x, y, z])) w) : bodyPostD Tryz.prog Tryz.f18 Q Exit.ret a w := by
  have h2' : a.tmps[2]?.getD undef = .pointer (some ⟨B, 0, none⟩) := by simpa using h2
  have h3' : a.tmps[3]?.getD undef = .pointer (some ⟨B + 1, 0, none⟩) := by simpa using h3
  have h4' : a.tmps[4]?.getD undef = .pointer (some ⟨B + 1 + 1, 0, none⟩) := by simpa using h4
  have ca := cell_of_row w B 0 _ _ _ hb.h0
  have cb := cell_of_row w (B + 1) 0 _ _ _ hb.h1
  have cc := cell_of_row w (B + 1 + 1) 0 _ _ _ hb.h2
  obtain ⟨tmps, defers⟩ := a
  simp only at hd h2' h3' h4'
  subst hd
  refine leaves_cons (f := 42) (args := #[.pointer (some ⟨B, 0, none⟩), .pointer (some ⟨B + 1, 0, none⟩), .pointer (some ⟨B + 1 + 1, 0, none⟩)]) (by simp) (by simp [go_sem]) ?_
  refine (load1_idle ⟨B, 0, none⟩ ⟨B + 1, 0, none⟩ ⟨B + 1 + 1, 0, none⟩ w).mono ?_
  rintro e u' w'' ⟨rfl, rfl, rfl⟩
  simp [Leaves, settle, results, Tryz.results18, go_sem, h2', h3', h4', ca, cb, cc]
  exact hQ
theorem door_none {Q : Ending → World → Prop} {a : Act} {w : World} {B : Nat} {x y z : Value} (hb : Box3 w B x y z) (hd : a.defers = [])
    (h2 : a.tmps.getD 2 undef = .pointer (some ⟨B, 0, none⟩)) (h3 : a.tmps.getD 3 undef = .pointer (some ⟨B + 1, 0, none⟩)) (h4 : a.tmps.getD 4 undef = .pointer (some ⟨B + 1 + 1, 0, none⟩))
    (hQ : Q (.returned (.tuple #[x, y, z])) w) : bodyPostD Tryz.prog Tryz.f18 Q Exit.ret a w := by
  have h2' : a.tmps[2]?.getD undef = .pointer (some ⟨B, 0, none⟩) := by simpa using h2
  have h3' : a.tmps[3]?.getD undef = .pointer (some ⟨B + 1, 0, none⟩) := by simpa using h3
  have h4' : a.tmps[4]?.getD undef = .pointer (some ⟨B + 1 + 1, 0, none⟩) := by simpa using h4
  have ca := cell_of_row w B 0 _ _ _ hb.h0
  have cb := cell_of_row w (B + 1) 0 _ _ _ hb.h1
  have cc := cell_of_row w (B + 1 + 1) 0 _ _ _ hb.h2
  obtain ⟨tmps, defers⟩ := a
  simp only at hd h2' h3' h4'
  subst hd
  simp [bodyPostD, Leaves, settle, results, Tryz.results18, go_sem, h2', h3', h4', ca, cb, cc]
  exact hQ
/-- The post of Load, with the way out by panic told without the frame's scratch. -/
def LdPost (Q : Ending → World → Prop) (B : Nat) : Exit → Act → World → Prop
  | .panic chain, a, w => ∃ (c : Int) (x y z : Value), chain = [{ v := .iface 25 (.int .i64 c), recovered := false }] ∧ Box3 w B x y z ∧
      a.defers = [{ target := Target.fn (Fn.func 42) #[.pointer (some ⟨B, 0, none⟩), .pointer (some ⟨B + 1, 0, none⟩), .pointer (some ⟨B + 1 + 1, 0, none⟩)], args := #[] }] ∧
      a.tmps.getD 2 undef = .pointer (some ⟨B, 0, none⟩) ∧ a.tmps.getD 3 undef = .pointer (some ⟨B + 1, 0, none⟩) ∧ a.tmps.getD 4 undef = .pointer (some ⟨B + 1 + 1, 0, none⟩) ∧
      ∀ w', Below B w w' → Q (.returned (.tuple #[.int .i64 0, .slice none 0 0, .int .i64 c])) w'
  | e, a, w => bodyPostD Tryz.prog Tryz.f18 Q e a w
theorem LdPost.imp {Q : Ending → World → Prop} {B : Nat} : ∀ (e : Exit) (a : Act) (w : World), LdPost Q B e a w → bodyPostD Tryz.prog Tryz.f18 Q e a w := fun e a w h => by
  cases e with
  | panic chain =>
    obtain ⟨c, x, y, z, rfl, h1, h2, h3, h4, h5, h6⟩ := h
    exact door_dies h1 h2 h3 h4 h5 h6
  | _ => exact h
theorem LdPost.dies {Q : Ending → World → Prop} {B : Nat} {a : Act} {w : World} {x y z : Value} {c : Int} (hb : Box3 w B x y z)
    (hd : a.defers = [{ target := Target.fn (Fn.func 42) #[.pointer (some ⟨B, 0, none⟩), .pointer (some ⟨B + 1, 0, none⟩), .pointer (some ⟨B + 1 + 1, 0, none⟩)], args := #[] }])
    (h2 : a.tmps.getD 2 undef = .pointer (some ⟨B, 0, none⟩)) (h3 : a.tmps.getD 3 undef = .pointer (some ⟨B + 1, 0, none⟩)) (h4 : a.tmps.getD 4 undef = .pointer (some ⟨B + 1 + 1, 0, none⟩))
    (hQ : ∀ w', Below B w w' → Q (.returned (.tuple #[.int .i64 0, .slice none 0 0, .int .i64 c])) w') : LdPost Q B (.panic [{ v := .iface 25 (.int .i64 c), recovered := false }]) a w :=
  ⟨c, x, y, z, rfl, hb, hd, h2, h3, h4, hQ⟩
theorem LdPost.put {Q : Ending → World → Prop} {B : Nat} {c : List PanicEntry} {a : Act} {w : World} {d : Nat} {v : Value} (hd : 4 < d) (h : LdPost Q B (.panic c) (a.put (some d) v) w) : LdPost Q B (.panic c) a w := by
  obtain ⟨c, x, y, z, h0, h1, h2, h3, h4, h5, h6⟩ := h
  refine ⟨c, x, y, z, h0, h1, h2, ?_, ?_, ?_, h6⟩
  · rw [← h3]; simp [Act.put, Array.getElem?_setIfInBounds, show ¬ d = 2 by omega]
  · rw [← h4]; simp [Act.put, Array.getElem?_setIfInBounds, show ¬ d = 3 by omega]
  · rw [← h5]; simp [Act.put, Array.getElem?_setIfInBounds, show ¬ d = 4 by omega]
end Go.Proofs.YteiklgbjjmlmaaaGreat


/- Load: what it reads, step by step (plain); stored keys in memory of their own. -/
set_option linter.unusedVariables false
set_option linter.unusedSimpArgs false
namespace Pantry
theorem loadR_head_err {l : List UInt8} {c : Int} (hl : ¬ 16777216 < l.length) (h : headR headB l = .error c) : loadR l = .error c := by
  unfold loadR partR mapR seqR
  rw [if_neg hl, h]
theorem loadR_now_err {l r : List UInt8} {c : Int} (hl : ¬ 16777216 < l.length) (h : headR headB l = .ok ((), r)) (h1 : numR 0 9007199254740992 r = .error c) : loadR l = .error c := by
  unfold loadR partR mapR seqR
  rw [if_neg hl, h]
  simp only [h1]
theorem loadR_few_err {l r r1 : List UInt8} {c : Int} {now : Nat} (hl : ¬ 16777216 < l.length) (h : headR headB l = .ok ((), r)) (h1 : numR 0 9007199254740992 r = .ok (now, r1)) (h2 : numR 0 9223372036854775807 r1 = .error c) : loadR l = .error c := by
  unfold loadR partR mapR seqR
  rw [if_neg hl, h]
  simp only [h1, h2]
theorem loadR_ents_err {l r r1 r2 : List UInt8} {c : Int} {now n : Nat} (hl : ¬ 16777216 < l.length) (h : headR headB l = .ok ((), r)) (h1 : numR 0 9007199254740992 r = .ok (now, r1)) (h2 : numR 0 9223372036854775807 r1 = .ok (n, r2))
    (h3 : entsR n [] r2 = .error c) : loadR l = .error c := by
  unfold loadR partR mapR seqR
  rw [if_neg hl, h]
  simp only [h1, h2, h3]
theorem loadR_end {l r r1 r2 r3 : List UInt8} {now n : Nat} {acc : List SE} (hl : ¬ 16777216 < l.length) (h : headR headB l = .ok ((), r)) (h1 : numR 0 9007199254740992 r = .ok (now, r1)) (h2 : numR 0 9223372036854775807 r1 = .ok (n, r2))
    (h3 : entsR n [] r2 = .ok (acc, r3)) : loadR l = endR now acc l r3 := by
  unfold loadR partR mapR seqR
  rw [if_neg hl, h]
  simp only [h1, h2, h3]
theorem headR_step {j : Nat} {c : UInt8} {hs : List UInt8} (h : hs[j]? = some c) : hs.drop j = c :: hs.drop (j + 1) := by
  obtain ⟨h1, h2⟩ := List.getElem?_eq_some_iff.1 h
  rw [List.drop_eq_getElem_cons h1, h2]
theorem entR_text_err {r : List UInt8} {c : Int} (h : textR r = .error c) : entR r = .error c := by
  unfold entR mapR seqR
  rw [h]
theorem entR_dl_err {r r1 s : List UInt8} {c : Int} (h : textR r = .ok (s, r1)) (h1 : numR 0 9007199254740992 r1 = .error c) : entR r = .error c := by
  unfold entR mapR seqR
  rw [h]
  simp only [h1]
theorem entR_val_err {r r1 r2 s : List UInt8} {d : Nat} {c : Int} (h : textR r = .ok (s, r1)) (h1 : numR 0 9007199254740992 r1 = .ok (d, r2)) (h2 : valR r2 = .error c) : entR r = .error c := by
  unfold entR mapR seqR
  rw [h]
  simp only [h1, h2]
theorem entR_ok {r r1 r2 r3 s : List UInt8} {d : Nat} {p : PD} (h : textR r = .ok (s, r1)) (h1 : numR 0 9007199254740992 r1 = .ok (d, r2)) (h2 : valR r2 = .ok (p, r3)) : entR r = .ok (⟨s, p, d⟩, r3) := by
  unfold entR mapR seqR
  rw [h]
  simp only [h1, h2]
theorem entsR_err {n : Nat} {acc : List SE} {r : List UInt8} {c : Int} (h : entR r = .error c) : entsR (n + 1) acc r = .error c := by
  rw [entsR, h]
theorem entsR_no {n : Nat} {acc : List SE} {r r1 : List UInt8} {x : SE} (h : entR r = .ok (x, r1)) (hf : followsP acc x = false) : entsR (n + 1) acc r = .error 290 := by
  rw [entsR, h]
  simp [hf]
theorem entsR_step {n : Nat} {acc : List SE} {r r1 : List UInt8} {x : SE} (h : entR r = .ok (x, r1)) (hf : followsP acc x = true) : entsR (n + 1) acc r = entsR n (acc ++ [x]) r1 := by
  rw [entsR, h]
  simp [hf]
theorem flatRow_at {α β : Type} {f : α → List β} {s : Nat} (hf : ∀ q, (f q).length = s) : ∀ {l : List α} {i : Nat} {x : α}, l[i]? = some x → ∀ {j : Nat}, j < s → (l.flatMap f)[i * s + j]? = (f x)[j]?
  | [], i, x, h, j, hj => by simp at h
  | y :: l, 0, x, h, j, hj => by
    obtain rfl : y = x := by simpa using h
    rw [List.flatMap_cons, Nat.zero_mul, Nat.zero_add, List.getElem?_append_left (by rw [hf]; exact hj)]
  | y :: l, i + 1, x, h, j, hj => by
    rw [List.flatMap_cons, List.getElem?_append_right (by rw [hf, Nat.add_mul]; omega), hf, show (i + 1) * s + j - s = i * s + j by rw [Nat.add_mul]; omega]
    exact flatRow_at hf (by simpa using h) hj
end Pantry
namespace Go.Proofs.YteiklgbjjmlmaaaGreat
open Go.RowKit Pantry

theorem shaped_big {p : PD} (h : Shaped p) : PlainBig p := by
  have hi : p.items.length ≤ 1048576 ∧ ∀ s ∈ p.items, s.length ≤ 1048576 := by
    by_cases hk : p.kind = 2 ∨ p.kind = 4
    · exact ⟨(h.items hk).2.1, (h.items hk).2.2⟩
    · rw [h.noItems (fun e => hk (.inl e)) (fun e => hk (.inr e))]; exact ⟨by simp, by simp⟩
  have hp : p.pairs.length ≤ 1048576 ∧ ∀ x ∈ p.pairs, x.1.length ≤ 1048576 ∧ x.2.length ≤ 1048576 := by
    by_cases hk : p.kind = 3
    · exact ⟨(h.pairs hk).2.1, (h.pairs hk).2.2⟩
    · rw [h.noPairs hk]; exact ⟨by simp, by simp⟩
  have hr : p.ranks.length ≤ 1048576 ∧ ∀ x ∈ p.ranks, x.1.length ≤ 1048576 := by
    by_cases hk : p.kind = 5
    · exact ⟨(h.ranks hk).2.1, fun x hx => ((h.ranks hk).2.2 x hx).1⟩
    · rw [h.noRanks hk]; exact ⟨by simp, by simp⟩
  have ht : p.text.length ≤ 1048576 := by
    by_cases hk : p.kind = 1
    · exact h.text hk
    · rw [h.noText hk]; simp
  exact ⟨by omega, by omega, by omega, by omega, fun s hs => by have := hi.2 s hs; omega, fun x hx => by have := hp.2 x hx; omega, fun x hx => by have := hp.2 x hx; omega, fun x hx => by have := hr.2 x hx; omega⟩
/-- A stored key with where its rows lie. -/
abbrev SV := SE × Value × Value × Value
def seV (q : SV) : List Value := [.string ⟨q.1.key.toArray⟩, .int .i64 q.1.val.kind, .string ⟨q.1.val.text.toArray⟩, q.2.1, q.2.2.1, q.2.2.2, .int .i64 q.1.dl]
/-- Stored keys in memory of their own, from B on. -/
structure OwnS (w : World) (B : Nat) (v : Value) (L : List SV) : Prop where
  row : w.ownsRow B 51 7 v L.length (L.flatMap seV)
  vals : ∀ q ∈ L, OwnP w B q.1.val q.2.1 q.2.2.1 q.2.2.2
theorem ownsRow_type {w : World} {B : Nat} {e : TypeId} {size : Nat} {v : Value} {n : Nat} {xs : List Value} (h : w.ownsRow B e size v n xs) {k : Nat} (hk : v.ownBlock = some k) : ∃ c fz, w.heap[k]? = some (.cells c e fz) := by
  rcases h.2 with ⟨rfl, -⟩ | ⟨g, cap, cur, rfl, hb, hg, -⟩
  · simp [Value.ownBlock] at hk
  · obtain rfl : g = k := by simpa [Value.ownBlock] using hk
    exact ⟨_, _, hg⟩
/-- What is kept but for blocks of other types. -/
theorem ownsRow_kept {S : Nat → Prop} {w w' : World} {B : Nat} {e : TypeId} {size : Nat} {v : Value} {n : Nat} {xs : List Value} (h : w.ownsRow B e size v n xs) (hc : Chg S w w') (hS : ∀ k, S k → ∀ c fz, w.heap[k]? ≠ some (.cells c e fz)) : w'.ownsRow B e size v n xs :=
  hc.ownsRow h fun k hk hs => by
    obtain ⟨c, fz, h1⟩ := ownsRow_type h hk
    exact hS k hs c fz h1
theorem OwnP.kept {S : Nat → Prop} {w w' : World} {B : Nat} {p : PD} {v1 v2 v3 : Value} (h : OwnP w B p v1 v2 v3) (hc : Chg S w w') (hS : ∀ k, S k → ∀ c e fz, w.heap[k]? = some (.cells c e fz) → e ≠ 9 ∧ e ≠ 71 ∧ e ≠ 54) : OwnP w' B p v1 v2 v3 :=
  ⟨ownsRow_kept h.items hc fun k hk c fz e => (hS k hk c _ fz e).1 rfl, ownsRow_kept h.pairs hc fun k hk c fz e => (hS k hk c _ fz e).2.1 rfl, ownsRow_kept h.ranks hc fun k hk c fz e => (hS k hk c _ fz e).2.2 rfl⟩
theorem OwnP.base {w : World} {B B' : Nat} {p : PD} {v1 v2 v3 : Value} (h : OwnP w B p v1 v2 v3) (hB : B' ≤ B) : OwnP w B' p v1 v2 v3 := ⟨ownsRow_base h.items hB, ownsRow_base h.pairs hB, ownsRow_base h.ranks hB⟩
theorem OwnP.chg {S : Nat → Prop} {w w' : World} {B : Nat} {p : PD} {v1 v2 v3 : Value} (h : OwnP w B p v1 v2 v3) (hc : Chg S w w') (hS : ∀ k, S k → k < B) : OwnP w' B p v1 v2 v3 :=
  ⟨hc.ownsRow h.items fun k hk hs => by have := (h.items.lt k hk).1; have := hS k hs; omega, hc.ownsRow h.pairs fun k hk hs => by have := (h.pairs.lt k hk).1; have := hS k hs; omega, hc.ownsRow h.ranks fun k hk hs => by have := (h.ranks.lt k hk).1; have := hS k hs; omega⟩
theorem OwnP.below {w w' : World} {B : Nat} {p : PD} {v1 v2 v3 : Value} (h : OwnP w B p v1 v2 v3) (hb : Below w.heap.size w w') : OwnP w' B p v1 v2 v3 :=
  ⟨ownsRow_belowAll h.items hb, ownsRow_belowAll h.pairs hb, ownsRow_belowAll h.ranks hb⟩
theorem OwnS.chg {S : Nat → Prop} {w w' : World} {B : Nat} {v : Value} {L : List SV} (h : OwnS w B v L) (hc : Chg S w w') (hS : ∀ k, S k → k < B) : OwnS w' B v L :=
  ⟨hc.ownsRow h.row fun k hk hs => by have := (h.row.lt k hk).1; have := hS k hs; omega, fun q hq => (h.vals q hq).chg hc hS⟩
theorem OwnS.below {w w' : World} {B : Nat} {v : Value} {L : List SV} (h : OwnS w B v L) (hb : Below w.heap.size w w') : OwnS w' B v L :=
  ⟨ownsRow_belowAll h.row hb, fun q hq => (h.vals q hq).below hb⟩
theorem OwnS.base {w : World} {B B' : Nat} {v : Value} {L : List SV} (h : OwnS w B v L) (hB : B' ≤ B) : OwnS w B' v L := ⟨ownsRow_base h.row hB, fun q hq => (h.vals q hq).base hB⟩
theorem OwnS.nil (w : World) (B : Nat) : OwnS w B (.slice none 0 0) [] := ⟨ownsRow_none _ _ _ _, by simp⟩
theorem seV_one (L : List SV) (h : ∀ q ∈ L, ∃ a1 n1 c1 a2 n2 c2 a3 n3 c3, q.2.1 = .slice a1 n1 c1 ∧ q.2.2.1 = .slice a2 n2 c2 ∧ q.2.2.2 = .slice a3 n3 c3) : ∀ u ∈ L.flatMap seV, u.oneCell' = true := by
  intro u hu
  obtain ⟨q, hq, hu⟩ := List.mem_flatMap.1 hu
  obtain ⟨a1, n1, c1, a2, n2, c2, a3, n3, c3, h1, h2, h3⟩ := h q hq
  simp only [seV, h1, h2, h3, List.mem_cons, List.not_mem_nil, or_false] at hu
  rcases hu with rfl | rfl | rfl | rfl | rfl | rfl | rfl <;> rfl
theorem OwnS.srow {w : World} {B : Nat} {v : Value} {L : List SV} (h : OwnS w B v L) : ∃ a c, v = .slice a L.length c ∧ SRow w a (L.map (·.1)) := by
  obtain ⟨a, c, hv, hrd⟩ := ownsRow_rd h.row (seV_one L fun q hq => by
    obtain ⟨a1, a2, a3, c1, c2, c3, h1, h2, h3, -⟩ := (h.vals q hq).plain
    exact ⟨a1, _, c1, a2, _, c2, a3, _, c3, h1, h2, h3⟩)
  refine ⟨a, c, hv, fun i x hx => ?_⟩
  rw [List.getElem?_map] at hx
  obtain ⟨q, hq, rfl⟩ := Option.map_eq_some_iff.1 hx
  have hmem := List.mem_of_getElem? hq
  obtain ⟨a1, a2, a3, c1, c2, c3, h1, h2, h3, h4⟩ := (h.vals q hmem).plain
  have hcell : ∀ j u, (seV q)[j]? = some u → (L.flatMap seV)[i * 7 + j]? = some u := by
    intro j u hu
    have hj : j < 7 := (List.getElem?_eq_some_iff.1 hu).1
    rw [flatRow_at (f := seV) (s := 7) (fun q => rfl) hq hj]; exact hu
  obtain ⟨-, y, rfl, -⟩ := hrd _ _ (hcell 0 _ rfl)
  refine ⟨y, rfl, a1, a2, a3, c1, c2, c3, fun j u hu => ?_, h4⟩
  have hu' : (seV q)[j]? = some u := by
    unfold seV
    rw [h1, h2, h3]
    exact hu
  obtain ⟨-, z, hz, hc⟩ := hrd _ _ (hcell j u hu')
  obtain rfl : y = z := by simpa using hz
  rw [Addr.add_add]
  exact hc
end Go.Proofs.YteiklgbjjmlmaaaGreat
