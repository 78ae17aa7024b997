
/- General words on ranges over functions: what is kept while one runs. -/
import Derived.Test.YteiklgbjjmlmaaaGreatZMem
import Derived.RangeFuncNested
import Derived.RangeFuncBound
import Derived.RangeFuncCalls
import Derived.RangeFuncLeaves
import Derived.RangeFuncBox
namespace Pantry
open Go Go.RowKit
theorem Chg.grown {w w' : World} (h : Chg (fun _ => False) w w') : w.grownBy w' none := ⟨h.os, h.tape, h.output, h.size, fun k hk _ => h.block k hk fun e => e⟩
theorem ownQuiet {β : Type} {B : Nat} {J : β → World → Prop} (h : OwnFrom B J) {s : β} {w w' : World} (hs : J s w) (hc : Chg (fun _ => False) w w') : J s w' :=
  h s w w' none hs hc.grown fun r e => by cases e
theorem ownBelow {β : Type} {B : Nat} {J : β → World → Prop} (h : OwnFrom B J) {s : β} {w w' : World} (hs : J s w) (hc : Below w.heap.size w w') : J s w' :=
  ownQuiet h hs (Chg.of_below hc)
theorem take_snoc_get {α : Type} {l : List α} {k : Nat} {x : α} (h : l[k]? = some x) : l.take k ++ [x] = l.take (k + 1) := by
  rw [List.take_add_one, h]; rfl

/-- The block in which the row of a variable in a box lies. -/
def ownIn (B : Nat) (A : World) : Option Nat := match A.cell? ⟨B, 0, none⟩ with | some v => v.ownBlock | none => none
theorem ownIn_boxed {A : World} {B : Nat} {t : TypeId} {v : Value} (h : Boxed A B t v) : ownIn B A = v.ownBlock := by unfold ownIn; rw [h.cell]
theorem ownIn_cell {A A' : World} {B : Nat} (h : A'.cell? ⟨B, 0, none⟩ = A.cell? ⟨B, 0, none⟩) : ownIn B A' = ownIn B A := by unfold ownIn; rw [h]
/-- What a round keeps that writes into the row of box B alone, of the blocks from N on. -/
structure KpL (N B : Nat) (A A' : World) : Prop where
  size : A.heap.size ≤ A'.heap.size
  same : ∀ (k : Nat) (o : Obj), N ≤ k → ownIn B A ≠ some k → A.heap[k]? = some o → A'.heap[k]? = some o
  own : ownIn B A' = ownIn B A ∨ ∀ k, ownIn B A' = some k → A.heap.size ≤ k
theorem KpL.trans {N B : Nat} {X Y Z : World} (h : KpL N B X Y) (k : KpL N B Y Z) : KpL N B X Z := by
  refine ⟨Nat.le_trans h.size k.size, fun j o hj ho hg => k.same j o hj ?_ (h.same j o hj ho hg), ?_⟩
  · rcases h.own with e | e
    · rw [e]; exact ho
    · intro hh
      have := e j hh
      have := (Array.getElem?_eq_some_iff.1 hg).1
      omega
  · rcases k.own with e | e
    · rw [e]; exact h.own
    · exact .inr fun j hj => Nat.le_trans h.size (e j hj)
theorem KpL.putObj {N B : Nat} (A : World) {l : Nat} (o' : Obj) (hl : l < N) (hB : B ≠ l) : KpL N B A (A.putObj l o') := by
  refine ⟨by simp, fun k o hk _ ho => (World.putObj_heap_other (by omega)).trans ho, .inl (ownIn_cell ?_)⟩
  exact World.cell?_of_block (by rw [World.putObj_heap_other hB])
/-- What is kept of objects while a loop goes on. -/
structure Keeper (Kp : World → World → Prop) (W : World) (Hd : List (Nat × Obj) → World → Prop) : Prop where
  obj : ∀ os A, Hd os A → ∀ p ∈ os, A.heap[p.1]? = some p.2
  start : ∀ os A, (∀ p ∈ os, A.heap[p.1]? = some p.2 ∧ W.heap.size ≤ p.1) → Below W.heap.size W A → Hd os A
  kp : ∀ os A B, Kp A B → Hd os A → Hd os B
  quiet : ∀ os A B, Below A.heap.size A B → Hd os A → Hd os B
/-- .. beside a row in a box. -/
def HdL (N B : Nat) (os : List (Nat × Obj)) (A : World) : Prop := B < A.heap.size ∧ ∀ p ∈ os, A.heap[p.1]? = some p.2 ∧ N ≤ p.1 ∧ ownIn B A ≠ some p.1
theorem keeperL {N B : Nat} {W : World} (hN : N ≤ W.heap.size) (hB : B < W.heap.size) (ho : ∀ k, ownIn B W = some k → k < W.heap.size) : Keeper (KpL N B) W (HdL N B) := by
  refine ⟨fun os A h p hp => (h.2 p hp).1, fun os A h hb => ⟨Nat.lt_of_lt_of_le hB hb.size, fun p hp => ⟨(h p hp).1, Nat.le_trans hN (h p hp).2, fun e => ?_⟩⟩, fun os A A' hk h => ⟨Nat.lt_of_lt_of_le h.1 hk.size, fun p hp => ?_⟩, fun os A A' hk h => ⟨Nat.lt_of_lt_of_le h.1 hk.size, fun p hp => ?_⟩⟩
  · rw [ownIn_cell (hb.cell (p := ⟨B, 0, none⟩) hB)] at e
    have := ho _ e
    have := (h p hp).2
    omega
  · obtain ⟨h1, h2, h3⟩ := h.2 p hp
    refine ⟨hk.same _ _ h2 h3 h1, h2, ?_⟩
    rcases hk.own with e | e
    · rw [e]; exact h3
    · intro hh
      have := e _ hh
      have := (Array.getElem?_eq_some_iff.1 h1).1
      omega
  · obtain ⟨h1, h2, h3⟩ := h.2 p hp
    refine ⟨(hk.block _ (Array.getElem?_eq_some_iff.1 h1).1).trans h1, h2, ?_⟩
    rw [ownIn_cell (hk.cell (p := ⟨B, 0, none⟩) h.1)]
    exact h3
end Pantry


/- A range over a function whose rounds come in a known order: the body is asked for the values that come alone. -/
set_option linter.unusedVariables false
namespace Pantry
open Go Go.RowKit
/-- What a function hands to its yield: at most x behind pre where V pre x; all of xs where no round says no. -/
def SeqV {α : Type} (F : Fence) (n : Nat) (P : Program) (g : Nat) (lb : Array Value) (encs : α → Array Value) (Kp : World → World → Prop) (xs : List α) (w : World) : Prop :=
  ∀ (l : Nat) (J Jx : List α → World → Prop) (W : World), Below w.heap.size w W → w.heap.size + 2 ≤ W.heap.size → OwnFrom W.heap.size J → OwnFrom W.heap.size Jx →
    (∀ pre x A, J pre A → (pre ++ [x]) <+: xs → YieldAt F (n - 1) P l (encs x) A fun e B => (e = .returned (.bool true) ∧ J (pre ++ [x]) B ∧ Kp A B) ∨ (e = .returned (.bool false) ∧ Jx (pre ++ [x]) B ∧ Kp A B)) →
    J [] W → CallsIn F n P g (#[.func (.yield l) #[] #[]] ++ lb) W fun e W' => (∃ v, e = .returned v) ∧ (J xs W' ∨ ∃ pre, pre <+: xs ∧ Jx pre W')
/-- How a round may be left. -/
def ownPostV {α : Type} (B : Nat) (Kp : World → World → Prop) (I : List α → World → Prop) (Ix : Code → List α → World → Prop) (xs : List α) (W : World) : Exit → Act → World → Prop
  | .normal, _, W' => KeepsFrom B W W' ∧ Kp W W' ∧ I xs W'
  | .ret, _, W' => KeepsFrom B W W' ∧ Kp W W' ∧ Ix .ret xs W'
  | .exit id, _, W' => KeepsFrom B W W' ∧ Kp W W' ∧ Ix (.exit id) xs W'
  | .goto t, _, W' => KeepsFrom B W W' ∧ Kp W W' ∧ Ix (.goto t) xs W'
  | _, _, _ => False
section
variable {F : Fence} {n : Nat} {P : Program}
/-- The loop's record. -/
def recV (fn : FuncId) (tmps : Array Value) (ps : Array Tmp) (assign body : Code) (b : Nat) (st : LoopState) (pe : Option Code) : Loop :=
  { state := st, pending := pe, fn, tmps, params := ps, assign, body, defers := b }
theorem wpIn_rangeV {α : Type} {g : Operand} {ps : Array Tmp} {assign body : Code} {Q : Exit → Act → World → Prop} {a : Act} {w : World}
    (hro : F.round = none) (h1 : 1 ≤ n) {gf : Nat} {lb : Array Value} (hg : a.eval g = .func (.func gf) #[] lb) (hFg : F.fn gf) (eg : ∀ args w, (callFunc gf args).run P w = .ok (.enter gf args) w)
    {encs : α → Array Value} {Kp : World → World → Prop} {xs : List α} {w0 : World} (hseq : SeqV F (n - 1) P gf lb encs Kp xs w0)
    (hKt : ∀ {A B C : World}, Kp A B → Kp B C → Kp A C) (hKb : ∀ (W : World) (o o' : Obj), W.heap[w.heap.size + 1]? = some o → o.isCells = false → o.isWalk = false → Kp W (W.putObj (w.heap.size + 1) o'))
    (hb0 : Below w0.heap.size w0 w) (hps : ∀ x, (encs x).size = ps.size) (I : List α → World → Prop) (Ix : Code → List α → World → Prop) (hI : OwnFrom w.heap.size I) (hIx : ∀ c, OwnFrom w.heap.size (Ix c)) (h0 : I [] w) (a₁ : α → Act)
    (hassign : ∀ (l : Nat) (x : α) (W : World) (K : Act → World → Prop), K (a₁ x) W →
      assign.wpIn (F.inRound l) (n - 1 - 1) P (Exit.then K (fun _ _ _ => False)) { tmps := (ps.zip (encs x)).foldl (fun t (p, v) => t.setIfInBounds p v) a.tmps, defers := [] } W)
    (hbody : ∀ (l : Nat) (pre : List α) (x : α) (W : World), I pre W → (pre ++ [x]) <+: xs → body.wpIn (F.inRound l) (n - 1 - 1) P (ownPostV w.heap.size Kp I Ix (pre ++ [x]) W) (a₁ x) W)
    (hdone : ∀ (D : Nat) (W : World), w.heap.size ≤ D → I xs W → W.heap[D]? = some (.deferred (some [])) → Q .normal { a with defers := { target := .collected D, args := #[] } :: a.defers } W)
    (hstop : ∀ (D : Nat) (c : Code) (pre : List α) (W : World), w.heap.size ≤ D → pre <+: xs → Ix c pre W → W.heap[D]? = some (.deferred (some [])) → c.wpIn F n P Q { a with defers := { target := .collected D, args := #[] } :: a.defers } W) :
    (Code.rangeFunc g ps assign body).wpIn F n P Q a w := by
  refine wpIn_rangeFunc fun fn hfn => ?_
  rw [hro]
  obtain ⟨R, hR⟩ : ∃ R : LoopState → Option Code → Obj, R = fun st pe => .loop (recV fn a.tmps ps assign body w.heap.size st pe) := ⟨_, rfl⟩
  obtain ⟨L, hL⟩ : ∃ L, w.heap.size + 1 = L := ⟨_, rfl⟩
  have hrun := run_enterLoop_outer (P := P) (w := w) fn a.tmps ps assign body
  obtain ⟨W1, hW1⟩ : ∃ W1, (w.alloc (.deferred (some []))).alloc (R .ready none) = W1 := ⟨_, rfl⟩
  have hlL : W1.heap[L]? = some (R .ready none) := by rw [← hW1, ← hL]; have := World.alloc_heap_new (w.alloc (.deferred (some []))) (R .ready none); rwa [World.size_alloc] at this
  have hlD : W1.heap[w.heap.size]? = some (.deferred (some [])) := by rw [← hW1]; exact (Below.heap_alloc _ _ _ (by simp)).trans (World.alloc_heap_new w _)
  have hsz : W1.heap.size = w.heap.size + 2 := by rw [← hW1]; simp
  have hI1 : I [] W1 := by rw [← hW1]; exact hI.alloc _ (hI.alloc _ h0)
  have hb1 : Below w0.heap.size w0 W1 := by rw [← hW1]; exact hb0.trans ((((Below.refl _ w).alloc (Nat.le_refl _) _).alloc (by simp) _).mono hb0.size)
  -- what of the loop's own two objects is kept by what turns no cells laid before
  have keep : ∀ {A B : World} {row : Option Nat} {k : Nat} {o : Obj}, A.grownBy B row → (∀ r, row = some r → W1.heap.size ≤ r ∧ ∃ o : Obj, A.heap[r]? = some o ∧ o.isCells = false) → k ≤ L → A.heap[k]? = some o → B.heap[k]? = some o := fun {A B row k o} hgr hr hk ho =>
    (hgr.block k (Array.getElem?_eq_some_iff.1 ho).1 fun e => by have := (hr k e.symm).1; omega).trans ho
  have weak : ∀ {A B : World} {row : Option Nat}, (∀ r, row = some r → W1.heap.size ≤ r ∧ ∃ o : Obj, A.heap[r]? = some o ∧ o.isCells = false) → ∀ r, row = some r → w.heap.size ≤ r ∧ ∃ o : Obj, A.heap[r]? = some o ∧ o.isCells = false := fun hr r e => by
    obtain ⟨h, o, ho⟩ := hr r e
    exact ⟨by omega, o, ho⟩
  refine ⟨L, [{ target := .collected w.heap.size, args := #[] }], W1, { target := .fn (.func gf) lb, args := #[.func (.yield L) #[] #[]] }, W1, gf, #[.func (.yield L) #[] #[]] ++ lb, W1,
    by rw [← hW1, hR, ← hL]; exact hrun, by simp only [resolve, hg]; simp [go_sem], fun f' hf' => by simp [Target.leads] at hf'; subst hf'; exact hFg, by simp [invoke, go_sem, eg], fun _ => h1, ?_⟩
  have hcall := hseq L (fun pre W => I pre W ∧ W.heap[L]? = some (R .ready none) ∧ W.heap[w.heap.size]? = some (.deferred (some []))) (fun pre W => ∃ c, Ix c pre W ∧ W.heap[L]? = some (R .done (some c)) ∧ W.heap[w.heap.size]? = some (.deferred (some []))) W1 hb1 (by have := hb0.size; omega)
    (fun s A B row hs hgr hr => ⟨hI s A B row hs.1 hgr (weak (B := B) hr), keep hgr hr (Nat.le_refl _) hs.2.1, keep hgr hr (by omega) hs.2.2⟩)
    (fun s A B row ⟨c, hc, hl, hd⟩ hgr hr => ⟨c, hIx c s A B row hc hgr (weak (B := B) hr), keep hgr hr (Nat.le_refl _) hl, keep hgr hr (by omega) hd⟩) ?_ ⟨hI1, hlL, hlD⟩
  · refine hcall.mono ?_
    rintro e W2 ⟨⟨v, rfl⟩, ⟨hi, hl, hd⟩ | ⟨pre, hp, c, hi, hl, hd⟩⟩
    · rw [hR] at hl
      exact ⟨_, _, run_endLoop (P := P) hl (by simp [recV]), hdone _ _ (Nat.le_refl _) (hI.putObj _ hi (by omega) hl rfl) ((World.putObj_heap_other (by omega)).trans hd)⟩
    · rw [hR] at hl
      exact ⟨_, _, run_endLoop (P := P) hl (by simp [recV]), hstop _ c pre _ (Nat.le_refl _) hp ((hIx c).putObj _ hi (by omega) hl rfl) ((World.putObj_heap_other (by omega)).trans hd)⟩
  · rintro pre x A ⟨hi, hl, hd⟩ hpx
    rw [hR] at hl
    have hlt := (Array.getElem?_eq_some_iff.1 hl).1
    obtain ⟨Ab, hAb⟩ : ∃ Ab, A.putObj L (R .busy none) = Ab := ⟨_, rfl⟩
    have hlb : Ab.heap[L]? = some (R .busy none) := by rw [← hAb]; exact World.putObj_heap_same hlt
    have hdb : Ab.heap[w.heap.size]? = some (.deferred (some [])) := by rw [← hAb]; exact (World.putObj_heap_other (by omega)).trans hd
    have hkb : Kp A Ab := by rw [← hAb, ← hL]; exact hKb _ _ _ (by rw [hL]; exact hl) rfl rfl
    have hib : I pre Ab := by rw [← hAb]; exact hI.putObj _ hi (by omega) hl rfl
    have hbeg : (Instr.beginRound L).run P A = .ok () Ab := by rw [← hAb, hR]; exact run_beginRound hl rfl
    refine ⟨fn, _, assign, body, run_yield (P := P) (args := encs x) hl (hps x), roundIn_of_wpIn hfn (hassign _ x A _ ⟨_, hbeg, wpIn_mono (hbody _ pre x _ hib hpx) ?_⟩)⟩
    -- how a round is left
    have fin : ∀ (jump : Option Code) (C : World), KeepsFrom w.heap.size Ab C → ∃ C', (Instr.endRound L jump).run P C = .ok (.bool jump.isNone) C' ∧ C' = C.putObj L (R (if jump.isNone then .ready else .done) jump) ∧
        C.heap[L]? = some (R .busy none) ∧ C'.heap[L]? = some (R (if jump.isNone then .ready else .done) jump) ∧ C'.heap[w.heap.size]? = some (.deferred (some [])) := fun jump C hk => by
      have hl3 := hk.same _ _ (by omega) hlb (by rw [hR]; rfl)
      refine ⟨_, ?_, rfl, hl3, World.putObj_heap_same (Array.getElem?_eq_some_iff.1 hl3).1, (World.putObj_heap_other (by omega)).trans (hk.same _ _ (Nat.le_refl _) hdb rfl)⟩
      rw [hR] at hl3 ⊢
      exact run_endRound (P := P) jump hl3
    have out : ∀ (c : Code) (C : World), KeepsFrom w.heap.size Ab C ∧ Kp Ab C ∧ Ix c (pre ++ [x]) C → ∃ b C', (Instr.endRound L (some c)).run P C = .ok b C' ∧ ((Ending.returned b = .returned (.bool true) ∧ (I (pre ++ [x]) C' ∧ C'.heap[L]? = some (R .ready none) ∧ C'.heap[w.heap.size]? = some (.deferred (some []))) ∧ Kp A C') ∨
        (Ending.returned b = .returned (.bool false) ∧ (∃ c, Ix c (pre ++ [x]) C' ∧ C'.heap[L]? = some (R .done (some c)) ∧ C'.heap[w.heap.size]? = some (.deferred (some []))) ∧ Kp A C')) := fun c C ⟨hk, hkp, hi3⟩ => by
      obtain ⟨C', hr, he, hl3, hl4, hd4⟩ := fin (some c) C hk
      have hkc : Kp C C' := by rw [he, ← hL]; exact hKb _ _ _ (by rw [hL]; exact hl3) (by rw [hR]; rfl) (by rw [hR]; rfl)
      exact ⟨_, _, hr, .inr ⟨rfl, ⟨c, by rw [he]; exact (hIx _).putObj _ hi3 (by omega) hl3 (by rw [hR]; rfl), hl4, hd4⟩, hKt (hKt hkb hkp) hkc⟩⟩
    rintro e a3 C hp
    cases e with
    | normal =>
      obtain ⟨hk, hkp, hi3⟩ := hp
      obtain ⟨C', hr, he, hl3, hl4, hd4⟩ := fin none C hk
      have hkc : Kp C C' := by rw [he, ← hL]; exact hKb _ _ _ (by rw [hL]; exact hl3) (by rw [hR]; rfl) (by rw [hR]; rfl)
      exact ⟨_, _, hr, .inl ⟨rfl, ⟨by rw [he]; exact hI.putObj _ hi3 (by omega) hl3 (by rw [hR]; rfl), hl4, hd4⟩, hKt (hKt hkb hkp) hkc⟩⟩
    | ret => exact out _ _ hp
    | exit id => exact out _ _ hp
    | goto t => exact out _ _ hp
    | panic ch => exact hp.elim
    | outgrown => exact hp.elim
end
end Pantry


/- Two rows of one's own that grow side by side, each in a box. -/
set_option linter.unusedVariables false
namespace Pantry
open Go Go.RowKit
structure TwoRows (tk ek tv ev : TypeId) (N : Nat) (w : World) (Bk Bv : Nat) (n : Nat) (ks : List Value) (m : Nat) (vs : List Value) (A : World) (kv vv : Value) : Prop where
  bk : Boxed A Bk tk kv
  rk : A.ownsRow N ek 1 kv n ks
  bv : Boxed A Bv tv vv
  rv : A.ownsRow N ev 1 vv m vs
  apart : ∀ k, kv.ownBlock = some k → vv.ownBlock ≠ some k
  below : Below N w A
theorem ownsRow_cells {A : World} {base : Nat} {e : TypeId} {size : Nat} {v : Value} {k : Nat} {xs : List Value} (h : A.ownsRow base e size v k xs) {j : Nat} (hj : v.ownBlock = some j) : ∃ c, A.heap[j]? = some (Obj.cells c e (0, 0)) ∧ base ≤ j := by
  rcases h.2 with ⟨rfl, _⟩ | ⟨g, cap, cur, rfl, hb, hgb, _⟩
  · simp [Value.ownBlock] at hj
  · obtain rfl : g = j := by simpa [Value.ownBlock] using hj
    exact ⟨_, hgb, hb⟩
theorem Chg.others {S : Nat → Prop} {A B : World} (h : Chg S A B) (hS : ∀ k, S k → ∃ c t fr, A.heap[k]? = some (Obj.cells c t fr)) : KeepsOthers A B :=
  ⟨h.size, fun k o hk ho => (h.block k (Array.getElem?_eq_some_iff.1 hk).1 fun hs => by obtain ⟨c, t, fr, e⟩ := hS k hs; rw [hk] at e; cases e; cases ho).trans hk⟩
/-- The objects in which a row lies: where they lie, the row lies. -/
theorem rowObjs {A : World} {base : Nat} {e : TypeId} {size : Nat} {v : Value} {k : Nat} {xs : List Value} (h : A.ownsRow base e size v k xs) :
    ∃ l : List (Nat × Obj), (∀ q ∈ l, A.heap[q.1]? = some q.2 ∧ base ≤ q.1) ∧ ∀ X : World, (∀ q ∈ l, X.heap[q.1]? = some q.2) → X.ownsRow base e size v k xs := by
  rcases h.2 with hn | ⟨g, cap, cur, hv, hb, hg, rest⟩
  · exact ⟨[], by simp, fun X _ => ⟨h.1, .inl hn⟩⟩
  · exact ⟨[(g, _)], by intro q hq; simp at hq; subst hq; exact ⟨hg, hb⟩, fun X hX => ⟨h.1, .inr ⟨g, cap, cur, hv, hb, hX (g, _) (by simp), rest⟩⟩⟩
section
variable {tk ek tv ev : TypeId} {N : Nat} {w : World} {Bk Bv n m : Nat} {ks vs : List Value} {A : World} {kv vv : Value}
theorem TwoRows.swap (h : TwoRows tk ek tv ev N w Bk Bv n ks m vs A kv vv) : TwoRows tv ev tk ek N w Bv Bk m vs n ks A vv kv :=
  ⟨h.bv, h.rv, h.bk, h.rk, fun k h1 h2 => h.apart k h2 h1, h.below⟩
/-- Such a state abides what turns no cells. -/
theorem twoRows_own {β : Type} {B : Nat} (hN : N ≤ w.heap.size) (hB : N ≤ B) (n m : β → Nat) (ks vs : β → List Value) : OwnFrom B (fun (s : β) A => ∃ kv vv, TwoRows tk ek tv ev N w Bk Bv (n s) (ks s) (m s) (vs s) A kv vv) := by
  rintro s X Y row ⟨kv, vv, h⟩ hg hrow
  have hbelow : Below N w Y := ownFrom_below (β := Unit) (w₀ := w) hN hB () X Y row h.below hg hrow
  have hrow2 : ∀ r, row = some r → ∃ o : Obj, X.heap[r]? = some o ∧ o.isCells = false := fun r e => (hrow r e).2
  have hbox : ∀ {b : Nat} {t : TypeId} {v : Value}, Boxed X b t v → Boxed Y b t v := fun {b t v} hb => hb.kept hg fun e => by
    obtain ⟨o, ho, hc⟩ := hrow2 _ e.symm
    rw [show X.heap[b]? = _ from hb] at ho; cases ho; cases hc
  have hr : ∀ {e : TypeId} {v : Value} {k : Nat} {xs : List Value}, X.ownsRow N e 1 v k xs → Y.ownsRow N e 1 v k xs := fun {e v k xs} hh => hh.kept hg (by
    cases hv : v.ownBlock with
    | none => exact .inl rfl
    | some j =>
      refine .inr fun e' => ?_
      obtain ⟨c, hc, -⟩ := ownsRow_cells hh hv
      obtain ⟨o, ho, hcc⟩ := hrow2 j e'.symm
      rw [hc] at ho; cases ho; cases hcc)
  exact ⟨kv, vv, hbox h.bk, hr h.rk, hbox h.bv, hr h.rv, h.apart, hbelow⟩
/-- An element is put behind the first row. -/
theorem TwoRows.add {P : Program} {bytes : Nat} {z : Value} (E : ElemT P tk ek 1 bytes z) (ty : TypeId) (h : TwoRows tk ek tv ev N w Bk Bv n ks m vs A kv vv) (hkk : tk ≠ ek) (hkv : tv ≠ ek) (hvk : tk ≠ ev) (hne : Bk ≠ Bv) (hBk : N ≤ Bk) (hN : N ≤ w.heap.size) (x : Value) (hx : x.oneCell' = true)
    (hb : (n + 1) * bytes ≤ 140737488355328) :
    ∃ g cap w1, (Builtin.append_ #[tk, tk] ty #[kv, .slice (some ⟨A.heap.size, 0, none⟩) 1 1]).run P (A.alloc (.cells #[x] ek)).drew = .ok (.slice (some ⟨g, 0, none⟩) (n + 1) cap) w1 ∧
      w1.cell? ⟨Bk, 0, none⟩ = some kv ∧ w1.frozen? ⟨Bk, 0, none⟩ = false ∧
      TwoRows tk ek tv ev N w Bk Bv (n + 1) (ks ++ [x]) m vs (w1.setCell ⟨Bk, 0, none⟩ (.slice (some ⟨g, 0, none⟩) (n + 1) cap)) (.slice (some ⟨g, 0, none⟩) (n + 1) cap) vv ∧
      Chg (fun k => k = Bk ∨ kv.ownBlock = some k) A (w1.setCell ⟨Bk, 0, none⟩ (.slice (some ⟨g, 0, none⟩) (n + 1) cap)) := by
  have hA : N ≤ A.heap.size := Nat.le_trans hN h.below.size
  have hrd : Rd (A.alloc (.cells #[x] ek)).drew (some ⟨A.heap.size, 0, none⟩) [x] := (Rd.new A #[x] ek (0, 0) (by intro u hu; simp at hu; subst hu; exact hx)).drew
  obtain ⟨v', w1, hr, h1, h2, -, h4⟩ := run_append E ty (w := (A.alloc (.cells #[x] ek)).drew) N (h.rk.alloc _).drew (ad := some ⟨A.heap.size, 0, none⟩) (m := 1) (c := 1) (news := [x]) (by simp) rfl hrd hb (by simp [World.drew]; omega)
  obtain ⟨g, cap, rfl⟩ := ownsRow_succ h1
  have hsz : (A.alloc (.cells #[x] ek)).drew.heap.size = A.heap.size + 1 := by simp [World.drew]
  have hc1 : Chg (fun k => kv.ownBlock = some k) A w1 := (((Chg.refl (fun k => kv.ownBlock = some k) A).alloc (.cells #[x] ek)).drew).trans (Chg.of_grown (S := fun k => kv.ownBlock = some k) h2 fun k e => e) fun _ _ e => e
  have hbk1 : Boxed w1 Bk tk kv := by
    refine hc1.heap h.bk fun e => ?_
    exact (h.bk.not_row hkk h.rk) e.symm
  have hbv1 : Boxed w1 Bv tv vv := by
    refine hc1.heap h.bv fun e => ?_
    exact (h.bv.not_row hkv h.rk) e.symm
  have hrv1 : w1.ownsRow N ev 1 vv m vs := hc1.ownsRow h.rv fun k hk e => h.apart k e hk
  have hc2 : Chg (fun k => k = Bk) w1 (w1.setCell ⟨Bk, 0, none⟩ (.slice (some ⟨g, 0, none⟩) (n + 1) cap)) := (Chg.refl (fun k => k = Bk) w1).setCell (p := ⟨Bk, 0, none⟩) (fun _ => rfl) _
  have hc : Chg (fun k => k = Bk ∨ kv.ownBlock = some k) A (w1.setCell ⟨Bk, 0, none⟩ (.slice (some ⟨g, 0, none⟩) (n + 1) cap)) := (hc1.mono fun k _ e => .inr e).trans hc2 fun _ _ e => .inl e
  have hgA : ∀ k, g = k → kv.ownBlock = some k ∨ A.heap.size ≤ k := fun k e => by
    subst e
    rcases h4 g rfl with e | e
    · exact .inl e
    · rw [hsz] at e; exact .inr (by omega)
  have hBkl : Bk < A.heap.size := h.bk.lt
  refine ⟨g, cap, w1, hr, hbk1.cell, hbk1.frozen, ⟨hbk1.set _, ?_, hbv1.other (fun e => hne e.symm) _, ?_, ?_, ?_⟩, hc⟩
  · exact hc2.ownsRow h1 fun k hk e => by
      subst e
      obtain ⟨c, hcc, -⟩ := ownsRow_cells h1 hk
      rw [show w1.heap[k]? = _ from hbk1] at hcc
      cases hcc
      exact hkk rfl
  · exact hc2.ownsRow hrv1 fun k hk e => by
      subst e
      obtain ⟨c, hcc, -⟩ := ownsRow_cells h.rv hk
      rw [show A.heap[k]? = _ from h.bk] at hcc
      cases hcc
      exact hvk rfl
  · intro k hk hk2
    have hgk : g = k := by simpa [Value.ownBlock] using hk
    rcases hgA k hgk with e | e
    · exact h.apart k e hk2
    · obtain ⟨c, hcc, -⟩ := ownsRow_cells h.rv hk2
      have := block_lt hcc
      omega
  · refine h.below.trans (hc.below hA ?_)
    rintro k (rfl | e)
    · exact hBk
    · exact (ownsRow_cells h.rk e).choose_spec.2
end
end Pantry


/- A row of one's own in a box, to which a loop's body appends. -/
set_option linter.unusedVariables false
namespace Pantry
open Go Go.RowKit
/-- What an append to the row in a box leaves. -/
structure Added (t e : TypeId) (size : Nat) (N0 B : Nat) (n : Nat) (xs : List Value) (v v' : Value) (A w2 : World) : Prop where
  box : Boxed w2 B t v'
  row : w2.ownsRow N0 e size v' n xs
  chg : Chg (fun k => k = B ∨ v.ownBlock = some k) A w2
  own : ∀ k, v'.ownBlock = some k → v.ownBlock = some k ∨ A.heap.size ≤ k
theorem boxRow_add {P : Program} {t e : TypeId} {size bytes : Nat} {z : Value} (E : ElemT P t e size bytes z) (ty : TypeId) {A A1 : World} {N0 B n : Nat} {v : Value} {xs : List Value} (hb : Boxed A B t v) (hr : A.ownsRow N0 e size v n xs) (hte : t ≠ e) (us : Array Value)
    (hA1 : A1 = A.alloc (.cells us e) ∨ A1 = (A.alloc (.cells us e)).drew) (hus : us.size = size) (h1 : ∀ u ∈ us, u.oneCell' = true) (hbytes : (n + 1) * bytes ≤ 140737488355328) (hN : N0 ≤ A.heap.size) :
    ∃ g cap w1, (Builtin.append_ #[t, t] ty #[v, .slice (some ⟨A.heap.size, 0, none⟩) 1 1]).run P A1 = .ok (.slice (some ⟨g, 0, none⟩) (n + 1) cap) w1 ∧ w1.cell? ⟨B, 0, none⟩ = some v ∧ w1.frozen? ⟨B, 0, none⟩ = false ∧
      Added t e size N0 B (n + 1) (xs ++ us.toList) v (.slice (some ⟨g, 0, none⟩) (n + 1) cap) A (w1.setCell ⟨B, 0, none⟩ (.slice (some ⟨g, 0, none⟩) (n + 1) cap)) := by
  have hsz : A1.heap.size = A.heap.size + 1 := by rcases hA1 with rfl | rfl <;> simp [World.drew]
  have hrd : Rd A1 (some ⟨A.heap.size, 0, none⟩) us.toList := by
    rcases hA1 with rfl | rfl
    · exact Rd.new A us e (0, 0) h1
    · exact (Rd.new A us e (0, 0) h1).drew
  have hr1 : A1.ownsRow N0 e size v n xs := by
    rcases hA1 with rfl | rfl
    · exact hr.alloc _
    · exact (hr.alloc _).drew
  have hc0 : Chg (fun k => v.ownBlock = some k) A A1 := by
    rcases hA1 with rfl | rfl
    · exact (Chg.refl _ A).alloc _
    · exact ((Chg.refl _ A).alloc _).drew
  obtain ⟨v', w1, hrun, g1, g2, -, g4⟩ := run_append E ty (w := A1) N0 hr1 (ad := some ⟨A.heap.size, 0, none⟩) (m := 1) (c := 1) (news := us.toList) (by simp) (by simpa using hus) hrd hbytes (by omega)
  obtain ⟨g, cap, rfl⟩ := ownsRow_succ g1
  have hc1 : Chg (fun k => v.ownBlock = some k) A w1 := hc0.trans (Chg.of_grown (S := fun k => v.ownBlock = some k) g2 fun k e => e) fun _ _ e => e
  have hb1 : Boxed w1 B t v := hc1.heap hb fun e => (hb.not_row hte hr) e.symm
  have hc2 : Chg (fun k => k = B) w1 (w1.setCell ⟨B, 0, none⟩ (.slice (some ⟨g, 0, none⟩) (n + 1) cap)) := (Chg.refl (fun k => k = B) w1).setCell (p := ⟨B, 0, none⟩) (fun _ => rfl) _
  refine ⟨g, cap, w1, hrun, hb1.cell, hb1.frozen, hb1.set _, hc2.ownsRow g1 fun k hk e => ?_, (hc1.mono fun k _ e => .inr e).trans hc2 fun _ _ e => .inl e, fun k hk => (g4 k hk).imp id (by omega)⟩
  subst e
  obtain ⟨c, hcc, -⟩ := ownsRow_cells g1 hk
  rw [show w1.heap[k]? = _ from hb1] at hcc
  cases hcc
  exact hte rfl
section
variable {t e : TypeId} {size N0 B n : Nat} {xs : List Value} {v v' : Value} {A w2 : World}
theorem Added.kp (h : Added t e size N0 B n xs v v' A w2) (hb : Boxed A B t v) {N : Nat} (hB : B < N) : KpL N B A w2 := by
  refine ⟨h.chg.size, fun k o hk ho hko => (h.chg.block k (Array.getElem?_eq_some_iff.1 hko).1 ?_).trans hko, ?_⟩
  · rintro (e | e)
    · omega
    · rw [ownIn_boxed hb] at ho
      exact ho e
  · rw [ownIn_boxed h.box, ownIn_boxed hb]
    cases hv : v'.ownBlock with
    | none => exact .inr fun k hk => by cases hk
    | some g =>
      rcases h.own g hv with e | e
      · exact .inl e.symm
      · exact .inr fun k hk => by cases hk; exact e
theorem Added.others (h : Added t e size N0 B n xs v v' A w2) (hb : Boxed A B t v) {m : Nat} {ys : List Value} (hr : A.ownsRow N0 e size v m ys) : KeepsOthers A w2 := h.chg.others (by
  rintro k (rfl | hk)
  · exact ⟨_, _, _, hb⟩
  · obtain ⟨c, hc, -⟩ := ownsRow_cells hr hk
    exact ⟨_, _, _, hc⟩)
theorem Added.below (h : Added t e size N0 B n xs v v' A w2) {m : Nat} {ys : List Value} (hr : A.ownsRow N0 e size v m ys) (hB : N0 ≤ B) (hN : N0 ≤ A.heap.size) : Below N0 A w2 := h.chg.below hN (by
  rintro k (rfl | hk)
  · exact hB
  · exact (ownsRow_cells hr hk).choose_spec.2)
end
end Pantry
