/- A deque that is changed while a copy of it is gone through. -/
import Derived.Test.YtefoieloakfhfaaZPlaysE
set_option linter.unusedVariables false
set_option linter.unusedSimpArgs false
namespace Go.Proofs.Ytefoieloakfhfaa
open Go.RowKit Pantry

/-- All blocks of a deque's types that S does not name lie as they lay. -/
def KeepsN (S : Nat → Prop) (A B : World) : Prop := ∀ (k : Nat) (c : Array Value) (t : TypeId) (fr : Nat × Nat), dqT t → ¬ S k → A.heap[k]? = some (Obj.cells c t fr) → B.heap[k]? = some (Obj.cells c t fr)
theorem DeqAt.keepsN {A B : World} {d : Nat} {v : Value} {gs : List Nat} {cs : List (List Txt)} {S : Nat → Prop} (h : DeqAt A d v gs cs) (k : KeepsN S A B) (hS : ∀ j, Foot d v gs j → ¬ S j) : DeqAt B d v gs cs := by
  refine ⟨k _ _ _ _ (.inr (.inl rfl)) (hS d (.inl rfl)) h.head, ⟨h.row.1, h.row.2.imp id ?_⟩, fun i g c hg hc => k _ _ _ _ (.inl rfl) (hS g (.inr (.inl (List.mem_of_getElem? hg)))) (h.chunk i g c hg hc), h.nodup, h.notd, h.rowd, h.rowg⟩
  rintro ⟨g, cap, cur, e, h1, h2, h3⟩
  exact ⟨g, cap, cur, e, h1, k _ _ _ _ (.inr (.inr rfl)) (hS g (.inr (.inr (by rw [e]; rfl)))) h2, h3⟩
/-- What a call in between keeps: what is neither the deque's nor its answer's. -/
def KpD (d m : Nat) (A B : World) : Prop := A.heap.size ≤ B.heap.size ∧ ∀ v gs cs, DeqAt A d v gs cs → ∃ v' gs' cs', DeqAt B d v' gs' cs' ∧ KeepsN (PFoot d v gs m) A B ∧ ∀ k, Foot d v' gs' k → Foot d v gs k ∨ A.heap.size ≤ k
theorem KpD.trans {d m : Nat} {A B C : World} (h : KpD d m A B) (k : KpD d m B C) : KpD d m A C := by
  refine ⟨Nat.le_trans h.1 k.1, fun v gs cs hd => ?_⟩
  obtain ⟨v1, gs1, cs1, h1, h2, h3⟩ := h.2 v gs cs hd
  obtain ⟨v2, gs2, cs2, k1, k2, k3⟩ := k.2 v1 gs1 cs1 h1
  refine ⟨v2, gs2, cs2, k1, fun j c t fr ht hj hA => k2 j c t fr ht ?_ (h2 j c t fr ht hj hA), fun j hj => ?_⟩
  · rintro (hf | rfl)
    · rcases h3 j hf with e | e
      · exact hj (.inl e)
      · have := block_lt hA; omega
    · exact hj (.inr rfl)
  · rcases k3 j hj with e | e
    · exact h3 j e
    · have := h.1; exact .inr (by omega)
theorem KpD.keeps {d m : Nat} {A B : World} (hs : A.heap.size ≤ B.heap.size) (hk : KeepsT dqT A B) : KpD d m A B :=
  ⟨hs, fun v gs cs hd => ⟨v, gs, cs, hd.keepsT hk, fun j c t fr ht _ h => hk j c t fr ht h, fun _ h => .inl h⟩⟩
theorem DeqAt.same {A : World} {d : Nat} {v v' : Value} {gs gs' : List Nat} {cs cs' : List (List Txt)} (h : DeqAt A d v gs cs) (k : DeqAt A d v' gs' cs') : v' = v ∧ ∀ j, Foot d v' gs' j → Foot d v gs j := by
  have e : v' = v := by
    have h1 := h.head
    rw [k.head] at h1
    simp only [Option.some.injEq, Obj.cells.injEq, Array.mk.injEq, List.cons.injEq] at h1
    exact h1.1.1
  subst e
  have hl : cs.length = cs'.length := by
    rcases h.row.2 with ⟨e1, e2⟩ | ⟨g, cap, cur, e1, -⟩
    · rcases k.row.2 with ⟨e3, e4⟩ | ⟨g, cap, cur, e3, -⟩
      · have h1 := h.row.1; have h2 := k.row.1; simp_all
      · rw [e1] at e3; cases e3
    · obtain ⟨a, c, e3, -⟩ := ownsRow_rd k.row (ptr_one gs')
      rw [e1] at e3
      simp only [Value.slice.injEq] at e3
      exact e3.2.1
  refine ⟨rfl, fun j hj => ?_⟩
  rcases hj with rfl | hj | hj
  · exact .inl rfl
  · refine .inr (.inl ?_)
    obtain ⟨i, hi, rfl⟩ := List.mem_iff_getElem.1 hj
    have hl1 := h.len
    have hl2 := k.len
    have hi1 : i < gs.length := by omega
    obtain ⟨a, c, e3, r1⟩ := ownsRow_rd h.row (ptr_one gs)
    obtain ⟨a', c', e4, r2⟩ := ownsRow_rd k.row (ptr_one gs')
    rw [e3] at e4
    obtain ⟨rfl, -, -⟩ : a = a' ∧ True ∧ True := by
      simp only [Value.slice.injEq] at e4
      exact ⟨e4.1, trivial, trivial⟩
    obtain ⟨-, x, hx, q1⟩ := r1 i (ptr gs[i]) (by simp [hi1])
    obtain ⟨-, x', hx', q2⟩ := r2 i (ptr gs'[i]) (by simp [hi])
    rw [hx] at hx'; cases hx'
    rw [q1] at q2
    have e5 : gs[i] = gs'[i] := by
      have := Option.some.inj q2
      simpa [ptr] using this
    rw [← e5]
    exact List.getElem_mem hi1
  · exact .inr (.inr hj)
theorem Stood.kp {d m : Nat} {v : Value} {gs : List Nat} {cs : List (List Txt)} {A B : World} (hd : DeqAt A d v gs cs) (h : Stood d v gs m A B) : KpD d m A B := by
  obtain ⟨v', gs', cs', -, hh⟩ := h
  refine ⟨hh.chg.size, fun v0 gs0 cs0 h0 => ?_⟩
  obtain ⟨e, hf⟩ := h0.same hd
  obtain ⟨-, hf2⟩ := hd.same h0
  refine ⟨v', gs', cs', hh.deq, fun j c t fr _ hj hA => hh.chg.heap hA ?_, fun j hj => (hh.foot j hj).imp (hf j) id⟩
  rintro (h | h)
  · exact hj (.inl (hf j h))
  · exact hj (.inr h)
/-- What is kept of the copy. -/
def HdD (d m : Nat) (cs : List (List Txt)) (c : Nat) (v : Value) (gs : List Nat) (A : World) : Prop :=
  DeqAt A c v gs cs ∧ (∀ j, Foot c v gs j → j ≠ m) ∧ ∃ v1 gs1 cs1, DeqAt A d v1 gs1 cs1 ∧ ∀ j, Foot c v gs j → ¬ Foot d v1 gs1 j
theorem holdsD {d m : Nat} {v0 : Value} {gs0 : List Nat} {cs0 : List (List Txt)} {w : World} (h : DeqAt w d v0 gs0 cs0) (hm : m < w.heap.size) (cs : List (List Txt)) (W : World) (hb : Below w.heap.size w W) : Holds cs (KpD d m) W (HdD d m cs) := by
  have hw : DeqAt W d v0 gs0 cs0 := h.chg (Chg.of_below (S := fun _ => False) hb) fun _ _ e => e
  refine ⟨fun _ _ _ _ h => h.1, fun c v gs A h1 h2 h3 => ⟨h1, fun j hj => ?_, v0, gs0, cs0, hw.chg h2 fun _ _ e => e, fun j hj hk => ?_⟩, ?_, ?_⟩
  · have := h3 j hj; have := hb.size; omega
  · have := h3 j hj; have := hw.lt j hk; omega
  · rintro c v gs A B hk ⟨h1, h2, v1, gs1, cs1, h3, h4⟩
    obtain ⟨v', gs', cs', k1, k2, k3⟩ := hk.2 v1 gs1 cs1 h3
    refine ⟨h1.keepsN k2 ?_, h2, v', gs', cs', k1, fun j hj hf => ?_⟩
    · rintro j hj (hf | rfl)
      · exact h4 j hj hf
      · exact h2 j hj rfl
    · rcases k3 j hf with e | e
      · exact h4 j hj e
      · have := h1.lt j hj; omega
  · rintro c v gs A B hc ⟨h1, h2, v1, gs1, cs1, h3, h4⟩
    exact ⟨h1.chg hc fun _ _ e => e, h2, v1, gs1, cs1, h3.chg hc fun _ _ e => e, h4⟩

/-- The types of the law's own boxes and texts. -/
def boxT (t : TypeId) : Prop := t = 37 ∨ t = 3 ∨ t = 4 ∨ t = 24 ∨ t = 54 ∨ t = 22 ∨ t = 9
theorem Stood.keepsBox {d m : Nat} {v : Value} {gs : List Nat} {cs ks : List (List Txt)} {A B : World} (hd : DeqAt A d v gs cs) (hr : RefAt A m ks) (h : Stood d v gs m A B) : KeepsT boxT A B := by
  obtain ⟨v', gs', cs', -, hh⟩ := h
  intro j c t fr ht hj
  refine hh.chg.heap hj ?_
  rintro (hf | rfl)
  · obtain ⟨c2, t2, fr2, h1, h2⟩ := hd.foot hf
    rw [h1] at hj; cases hj
    revert h2 ht; unfold boxT dqT
    intro h ht
    rcases ht with ht | ht | ht
    all_goals
      rcases h with h | h | h | h | h | h | h
      all_goals
        rw [h] at ht
        revert ht
        decide
  · obtain ⟨u, h1, -⟩ := hr
    rw [h1] at hj; cases hj
    revert ht; unfold boxT; decide
/-- The boxes' numbers and what stays in them. -/
structure Gp where
  b4 : Nat
  b5 : Nat
  b6 : Nat
  b7 : Nat
  b8 : Nat
  b11 : Nat
  b13 : Nat
  bE : Nat
  a2 : Option Addr
  n2 : Nat
  c2 : Nat
  leave : Int
  d : Nat
  m : Nat
  aw : Option Addr
  nw : Nat
  cw : Nat
structure GB (p : Gp) (r : Bool) (k : Nat) (W : World) : Prop where
  x4 : Boxed W p.b4 37 (.slice p.a2 p.n2 p.c2)
  x5 : Boxed W p.b5 3 (.int .i64 p.leave)
  x6 : Boxed W p.b6 4 (.bool r)
  x7 : Boxed W p.b7 24 (.pointer (some ⟨p.d, 0, none⟩))
  x8 : Boxed W p.b8 54 (.pointer (some ⟨p.m, 0, none⟩))
  x11 : Boxed W p.b11 22 (.slice p.aw p.nw p.cw)
  x13 : Boxed W p.b13 3 (.int .i64 (k : Nat))
  xE : Boxed W p.bE 24 (.pointer (some ⟨p.d, 0, none⟩))
  ne : p.b5 ≠ p.b13
theorem GB.keeps {p : Gp} {r : Bool} {k : Nat} {A B : World} (h : GB p r k A) (hk : KeepsT boxT A B) : GB p r k B :=
  ⟨hk _ _ _ _ (by unfold boxT; decide) h.x4, hk _ _ _ _ (by unfold boxT; decide) h.x5, hk _ _ _ _ (by unfold boxT; decide) h.x6, hk _ _ _ _ (by unfold boxT; decide) h.x7, hk _ _ _ _ (by unfold boxT; decide) h.x8, hk _ _ _ _ (by unfold boxT; decide) h.x11, hk _ _ _ _ (by unfold boxT; decide) h.x13, hk _ _ _ _ (by unfold boxT; decide) h.xE, h.ne⟩
theorem box_ne {W : World} {b c : Nat} {t u : TypeId} {v x : Value} (h : Boxed W b t v) (k : Boxed W c u x) (hne : t ≠ u) : b ≠ c := by
  rintro rfl
  have h1 : W.heap[b]? = _ := h
  have k1 : W.heap[b]? = _ := k
  rw [h1] at k1
  simp only [Option.some.injEq, Obj.cells.injEq] at k1
  exact hne k1.2.1
theorem GB.setK {p : Gp} {r : Bool} {k : Nat} {A : World} (h : GB p r k A) (j : Nat) : GB p r j (A.setCell ⟨p.b13, 0, none⟩ (.int .i64 (j : Nat))) :=
  ⟨h.x4.other (box_ne h.x4 h.x13 (by decide)) _, h.x5.other h.ne _, h.x6.other (box_ne h.x6 h.x13 (by decide)) _, h.x7.other (box_ne h.x7 h.x13 (by decide)) _, h.x8.other (box_ne h.x8 h.x13 (by decide)) _, h.x11.other (box_ne h.x11 h.x13 (by decide)) _, h.x13.set _, h.xE.other (box_ne h.xE h.x13 (by decide)) _, h.ne⟩
theorem KeepsT.setBox {T : TypeId → Prop} {A : World} {b : Nat} {t : TypeId} {v : Value} (h : Boxed A b t v) (ht : ¬ T t) (u : Value) : KeepsT T A (A.setCell ⟨b, 0, none⟩ u) := KeepsT.set h ht u
/-- The boxes ahead of the going through. -/
structure GA (b4 b5 b6 b7 b8 : Nat) (v4 v5 v6 v7 v8 : Value) (W : World) : Prop where
  x4 : Boxed W b4 37 v4
  x5 : Boxed W b5 3 v5
  x6 : Boxed W b6 4 v6
  x7 : Boxed W b7 24 v7
  x8 : Boxed W b8 54 v8
theorem GA.keeps {b4 b5 b6 b7 b8 : Nat} {v4 v5 v6 v7 v8 : Value} {A B : World} (h : GA b4 b5 b6 b7 b8 v4 v5 v6 v7 v8 A) (hk : KeepsT boxT A B) : GA b4 b5 b6 b7 b8 v4 v5 v6 v7 v8 B :=
  ⟨hk _ _ _ _ (by unfold boxT; decide) h.x4, hk _ _ _ _ (by unfold boxT; decide) h.x5, hk _ _ _ _ (by unfold boxT; decide) h.x6, hk _ _ _ _ (by unfold boxT; decide) h.x7, hk _ _ _ _ (by unfold boxT; decide) h.x8⟩
/-- The state: the deque beside its answer, the texts of the row, the script. -/
structure GS (w : World) (p : Gp) (l : List Txt) (W : World) : Prop where
  one : ∃ v gs cs, POne w W p.d v gs p.m cs
  row : ∃ B, W.ownsRow B 9 1 (.slice p.aw p.nw p.cw) p.nw (txts l)
  len : l.length = p.nw
  below : Below w.heap.size w W
theorem POne.keepsAll {w A B : World} {d : Nat} {v : Value} {gs : List Nat} {m : Nat} {cs : List (List Txt)} (h : POne w A d v gs m cs) (hk : KeepsT (fun t => dqT t ∨ rfT t) A B) : POne w B d v gs m cs :=
  ⟨h.1, h.2.1.keepsT fun j c t fr ht hj => hk j c t fr (.inl ht) hj, h.2.2.1.keeps hk fun _ ht => .inr ht, h.2.2.2⟩
theorem GS.keeps {w : World} {p : Gp} {l : List Txt} {A B : World} (h : GS w p l A) (hk : KeepsT (fun t => dqT t ∨ rfT t ∨ t = 9) A B) (hb : Below w.heap.size w B) : GS w p l B := by
  obtain ⟨⟨v, gs, cs, h1⟩, ⟨R, h2⟩, h3, h4⟩ := h
  exact ⟨⟨v, gs, cs, h1.keepsAll fun j c t fr ht hj => hk j c t fr (ht.elim .inl fun h => .inr (.inl h)) hj⟩, ⟨R, ownsRow_keeps h2 hk (.inr (.inr rfl))⟩, h3, hb⟩
theorem GS.plays {w W : World} {p : Gp} {l : List Txt} (h : GS w p l W) (o : Op7) (ho : o.Ok) :
    Calls Try.prog 30 #[.pointer (some ⟨p.d, 0, none⟩), .pointer (some ⟨p.m, 0, none⟩), .agg o.cells.toArray] W (PlayPost fun W' => GS w p l W' ∧ KpD p.d p.m W W' ∧ KeepsT boxT W W' ∧ KeepsOthers W W') := by
  obtain ⟨⟨v, gs, cs, h1⟩, ⟨R, h2⟩, h3, h4⟩ := h
  refine (plays_some W p.d v gs p.m cs o ho h1.1 h1.2.1 h1.2.2.1).mono ?_
  rintro e W' ⟨rfl, hs⟩
  have hb := hs.keepsBox h1.2.1 h1.2.2.1
  refine ⟨rfl, ?_, hs.kp h1.2.1, hb, ?_⟩
  · obtain ⟨v', gs', cs', hg, hh⟩ := hs
    exact ⟨⟨v', gs', cs', h1.half h4 hg hh⟩, ⟨R, ownsRow_keeps h2 hb (by unfold boxT; decide)⟩, h3, h1.below h4 hh⟩
  · obtain ⟨v', gs', cs', hg, hh⟩ := hs
    refine ⟨hh.chg.size, fun j o hj ho => (hh.chg.block j (block_lt hj) ?_).trans hj⟩
    rintro (hf | rfl)
    · obtain ⟨c2, t2, fr2, q1, -⟩ := h1.2.1.foot hf
      rw [q1] at hj; cases hj; cases ho
    · obtain ⟨u, q1, -⟩ := h1.2.2.1
      rw [q1] at hj; cases hj; cases ho
/-- The state ahead of the going through. -/
structure G0 (w : World) (d m : Nat) (W : World) : Prop where
  one : ∃ v gs cs, POne w W d v gs m cs
  below : Below w.heap.size w W
theorem G0.quiet {w : World} {d m : Nat} {A B : World} (h : G0 w d m A) (hc : Chg (fun _ => False) A B) : G0 w d m B := by
  obtain ⟨⟨v, gs, cs, h1⟩, h2⟩ := h
  exact ⟨⟨v, gs, cs, h1.quiet hc⟩, h2.trans (hc.below h2.size fun _ e => e.elim)⟩
theorem G0.plays {w W : World} {d m : Nat} (h : G0 w d m W) (o : Op7) (ho : o.Ok) :
    Calls Try.prog 30 #[.pointer (some ⟨d, 0, none⟩), .pointer (some ⟨m, 0, none⟩), .agg o.cells.toArray] W (PlayPost fun W' => G0 w d m W' ∧ KeepsT boxT W W') := by
  obtain ⟨⟨v, gs, cs, h1⟩, h4⟩ := h
  refine (plays_some W d v gs m cs o ho h1.1 h1.2.1 h1.2.2.1).mono ?_
  rintro e W' ⟨rfl, hs⟩
  have hb := hs.keepsBox h1.2.1 h1.2.2.1
  obtain ⟨v', gs', cs', hg, hh⟩ := hs
  exact ⟨rfl, ⟨⟨v', gs', cs', h1.half h4 hg hh⟩, h1.below h4 hh⟩, hb⟩
/-- What the loop keeps. -/
def GI (w : World) (p : Gp) (l : List Txt) (pre : List (Nat × Txt)) (W : World) : Prop := pre <+: placed l ∧ GB p false pre.length W ∧ GS w p l W
theorem gi_own {w W8 : World} {p : Gp} {l : List Txt} (hw : w.heap.size ≤ W8.heap.size) : OwnFrom W8.heap.size (GI w p l) := fun s W W' row ⟨h1, h2, h3⟩ hg hr => by
  have hk : KeepsT (fun _ => True) W W' := KeepsT.grown hg fun j ej c t fr hj _ => by
    obtain ⟨_, o, ho, hc⟩ := hr j ej
    rw [hj] at ho; cases ho; cases hc
  exact ⟨h1, h2.keeps fun j c t fr _ hj => hk j c t fr trivial hj, h3.keeps (fun j c t fr _ hj => hk j c t fr trivial hj) (h3.below.grown hg h3.below.size fun k e => Nat.le_trans hw (hr k e).1)⟩
theorem GI.cell {w : World} {p : Gp} {l : List Txt} {pre : List (Nat × Txt)} {W : World} (h : GI w p l pre W) {x : Txt} (hx : l[pre.length]? = some x) : ∃ y, p.aw = some y ∧ W.cell? (y.add pre.length) = some (.string ⟨x.toArray⟩) := by
  obtain ⟨-, -, -, ⟨B, hr⟩, -, -⟩ := h
  exact txts_cell (rdOf hr (txts_one l)) hx
theorem prefix_snoc {l : List Txt} {pre : List (Nat × Txt)} (h : pre <+: placed l) {x : Txt} (hx : l[pre.length]? = some x) : pre ++ [(pre.length, x)] <+: placed l := by
  obtain ⟨r, hr⟩ := h
  have h1 : (placed l)[pre.length]? = some (pre.length, x) := by simp [placed, List.getElem?_zipIdx, hx]
  rw [← hr, List.getElem?_append_right (Nat.le_refl _), Nat.sub_self] at h1
  cases r with
  | nil => cases h1
  | cons y r =>
    obtain rfl : y = (pre.length, x) := by simpa using h1
    exact ⟨r, by rw [← hr]; simp⟩
theorem prefix_wrong {l : List Txt} {pre : List (Nat × Txt)} {x : Txt} (hx : l[pre.length]? = some x) {i : Nat} {s : Txt} (hw : ¬ (i = pre.length ∧ s = x)) : ¬ pre ++ [(i, s)] <+: placed l := by
  rintro ⟨r, hr⟩
  have h1 : (placed l)[pre.length]? = some (pre.length, x) := by simp [placed, List.getElem?_zipIdx, hx]
  rw [← hr, List.append_assoc, List.getElem?_append_right (Nat.le_refl _), Nat.sub_self] at h1
  simp only [List.cons_append, List.nil_append, List.getElem?_cons_zero, Option.some.injEq, Prod.mk.injEq] at h1
  exact hw h1
end Go.Proofs.Ytefoieloakfhfaa
