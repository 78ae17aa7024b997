/- A deque beside the document's answer. -/
import Derived.Test.YtefoieloakfhfaaZOText
set_option linter.unusedVariables false
set_option linter.unusedSimpArgs false
namespace Go.Proofs.Ytefoieloakfhfaa
open Go.RowKit Pantry

/-- The blocks of a deque and of its answer. -/
def PFoot (d : Nat) (v : Value) (gs : List Nat) (m k : Nat) : Prop := Foot d v gs k ∨ k = m
/-- Since w: the deque holds cs, the answer ks; only their own blocks have changed. -/
structure Half (d : Nat) (v : Value) (gs : List Nat) (m : Nat) (w w' : World) (v' : Value) (gs' : List Nat) (cs ks : List (List Txt)) : Prop where
  deq : DeqAt w' d v' gs' cs
  ref : RefAt w' m ks
  chg : Chg (PFoot d v gs m) w w'
  foot : ∀ k, Foot d v' gs' k → Foot d v gs k ∨ w.heap.size ≤ k
theorem ref_apart {w : World} {d : Nat} {v : Value} {gs : List Nat} {m : Nat} {cs ks : List (List Txt)} (h : DeqAt w d v gs cs) (r : RefAt w m ks) : ¬ Foot d v gs m := fun hf => by
  obtain ⟨c, t, fr, h1, h2⟩ := h.foot hf
  obtain ⟨u, h3, -⟩ := r
  rw [h3] at h1; cases h1
  revert h2; unfold dqT; decide
section
variable {d : Nat} {v : Value} {gs : List Nat} {m : Nat} {w w1 w2 : World} {v1 : Value} {gs1 : List Nat} {cs ks ks2 : List (List Txt)}
theorem Half.refl (h : DeqAt w d v gs cs) (r : RefAt w m ks) : Half d v gs m w w v gs cs ks := ⟨h, r, Chg.refl _ _, fun _ h => .inl h⟩
theorem Half.quiet (h : Half d v gs m w w1 v1 gs1 cs ks) (hc : Chg (fun _ => False) w1 w2) : Half d v gs m w w2 v1 gs1 cs ks :=
  ⟨h.deq.chg hc fun _ _ e => e, h.ref.keeps (T := fun _ => True) (keepsQuiet hc) (fun _ _ => trivial), h.chg.trans hc fun _ _ e => e.elim, h.foot⟩
theorem Half.onRef (h : Half d v gs m w w1 v1 gs1 cs ks) (hr : RefAt w2 m ks2) (hc : Chg (fun j => j = m) w1 w2) : Half d v gs m w w2 v1 gs1 cs ks2 :=
  ⟨h.deq.chg hc fun k hk e => ref_apart h.deq h.ref (by rw [← e]; exact hk), hr, h.chg.trans hc fun _ _ e => .inr e, h.foot⟩
theorem Half.onDeq {v2 : Value} {gs2 : List Nat} {cs2 : List (List Txt)} (h : Half d v gs m w w1 v1 gs1 cs ks) (hd : DeqAt w2 d v2 gs2 cs2) (hc : Chg (Foot d v1 gs1) w1 w2) (hn : ∀ k, Foot d v2 gs2 k → Foot d v1 gs1 k ∨ w1.heap.size ≤ k) : Half d v gs m w w2 v2 gs2 cs2 ks :=
  ⟨hd, h.ref.keeps (h.deq.keeps hc) (fun _ ht => rfT_nd ht), h.chg.trans hc fun j hj hf => .inl ((h.foot j hf).resolve_right (by omega)), fun k hk => by
    rcases hn k hk with e | e
    · exact h.foot k e
    · have := h.chg.size; exact .inr (by omega)⟩
/-- Another pair, apart from this one, lies as it lay. -/
theorem Half.other {v2 : Value} {gs2 : List Nat} {n e : Nat} {c0 k0 cs2 ls2 : List (List Txt)} (h : Half d v gs m w w1 v1 gs1 cs ks) (h0 : DeqAt w d v gs c0) (r0 : RefAt w m k0) (he : DeqAt w e v2 gs2 cs2) (hn : RefAt w n ls2)
    (ha : ∀ j, Foot d v gs j → ¬ Foot e v2 gs2 j) (hne : n ≠ m) : DeqAt w1 e v2 gs2 cs2 ∧ RefAt w1 n ls2 ∧ ∀ j, Foot d v1 gs1 j → ¬ Foot e v2 gs2 j := by
  refine ⟨he.chg h.chg fun k hk hp => ?_, ?_, fun j hj hk => ?_⟩
  · rcases hp with hp | rfl
    · exact ha k hp hk
    · exact ref_apart he r0 hk
  · obtain ⟨x, g1, g2⟩ := hn
    have hk : KeepsT rlT w w1 := fun j c t fr ht hj => h.chg.heap hj (by
      rintro (hp | rfl)
      · obtain ⟨c', t', fr', h1, h2⟩ := h0.foot hp
        rw [h1] at hj; cases hj
        revert h2 ht; unfold rlT dqT
        rintro (rfl | rfl | rfl) (h | h) <;> revert h <;> decide
      · obtain ⟨u, h1, -⟩ := r0
        rw [h1] at hj; cases hj
        revert ht; unfold rlT; decide)
    refine ⟨x, h.chg.heap g1 ?_, g2.keeps hk (.inl rfl) (.inr rfl)⟩
    rintro (hp | e)
    · obtain ⟨c', t', fr', h1, h2⟩ := h0.foot hp
      rw [h1] at g1; cases g1
      revert h2; unfold dqT; decide
    · exact hne e
  · rcases h.foot j hj with e | e
    · exact ha j e hk
    · have := he.lt j hk; omega
end
/-- The law's own type of a call. -/
def opT (t : TypeId) : Prop := t = 39 ∨ t = 5
theorem opT_nd {t : TypeId} (h : opT t) : ndT t := by unfold opT at h; rcases h with rfl | rfl <;> (unfold ndT dqT; decide)
theorem keepsOp_ref {w w' : World} {m : Nat} {ks : List (List Txt)} (h : RefAt w m ks) (hc : Chg (fun j => j = m) w w') : KeepsT opT w w' := fun j c t fr ht hj => hc.heap hj (by
  obtain ⟨u, g1, -⟩ := h
  rintro rfl
  rw [g1] at hj; cases hj
  revert ht; unfold opT; decide)
/-- Block b is the call, as it was handed over. -/
def Bx (w : World) (b : Nat) (o : Op7) : Prop := w.heap[b]? = some (.cells o.cells.toArray 39)
theorem Bx.keeps {w w' : World} {b : Nat} {o : Op7} (h : Bx w b o) (hk : KeepsT opT w w') : Bx w' b o := hk _ _ _ _ (.inl rfl) h
theorem Bx.below {w w' : World} {b : Nat} {o : Op7} (h : Bx w b o) (hb : Below w.heap.size w w') : Bx w' b o := h.keeps (KeepsT.ofBelow hb)
theorem Bx.cells {w : World} {b : Nat} {who act i j : Int} {flag : Bool} {s : Txt} {big : Int} (h : Bx w b ⟨who, act, i, j, flag, s, big⟩) :
    w.cell? ⟨b, 0, none⟩ = some (.int .i64 who) ∧ w.cell? ⟨b, 1, none⟩ = some (.int .i64 act) ∧ w.cell? ⟨b, 2, none⟩ = some (.int .i64 i) ∧ w.cell? ⟨b, 3, none⟩ = some (.int .i64 j) ∧ w.cell? ⟨b, 4, none⟩ = some (.bool flag) ∧ w.cell? ⟨b, 5, none⟩ = some (.string ⟨s.toArray⟩) ∧ w.cell? ⟨b, 6, none⟩ = some (.int .i64 big) := by
  unfold Bx at h
  refine ⟨?_, ?_, ?_, ?_, ?_, ?_, ?_⟩ <;> (rw [cell_of_row w b _ _ _ _ h]; rfl)
/-- What the answer does, and then the deque: the same is handed back. -/
structure Duo (St Md En : World → Prop) (fR fD : Nat) (Q P : Value) (args : List Value) (r : Value) : Prop where
  st : ∀ A B, St A → Chg (fun _ => False) A B → St B
  md : ∀ A B, Md A → Chg (fun _ => False) A B → Md B
  a : ∀ w, St w → Calls Try.prog fR (Q :: args).toArray w fun e w' => e = .returned r ∧ Md w' ∧ KeepsT opT w w'
  b : ∀ w, Md w → Calls Try.prog fD (P :: args).toArray w fun e w' => e = .returned r ∧ En w' ∧ KeepsT opT w w'
section
variable {d : Nat} {v : Value} {gs : List Nat} {m : Nat} {w : World} {v1 : Value} {gs1 : List Nat} {cs : List (List Txt)}
/-- The pair stands, with what it holds. -/
def Stood (d : Nat) (v : Value) (gs : List Nat) (m : Nat) (w w' : World) : Prop := ∃ v' gs' cs', DGood cs' ∧ Half d v gs m w w' v' gs' cs' cs'
theorem Stood.quiet {w1 w2 : World} (h : Stood d v gs m w w1) (hc : Chg (fun _ => False) w1 w2) : Stood d v gs m w w2 := by
  obtain ⟨v', gs', cs', hg, hh⟩ := h
  exact ⟨v', gs', cs', hg, hh.quiet hc⟩
/-- Both change alike. -/
theorem duo_both {fR fD : Nat} {args : List Value} {r : Value} {cs' : List (List Txt)} (hg : DGood cs')
    (ha : ∀ A, RefAt A m cs → Calls Try.prog fR (.pointer (some ⟨m, 0, none⟩) :: args).toArray A (RefPost m cs' r A))
    (hb : ∀ A, DeqAt A d v1 gs1 cs → Calls Try.prog fD (.pointer (some ⟨d, 0, none⟩) :: args).toArray A (DeqPost d v1 gs1 cs' r A)) :
    Duo (fun A => Half d v gs m w A v1 gs1 cs cs) (fun A => Half d v gs m w A v1 gs1 cs cs') (Stood d v gs m w) fR fD (.pointer (some ⟨m, 0, none⟩)) (.pointer (some ⟨d, 0, none⟩)) args r :=
  ⟨fun _ _ h hc => h.quiet hc, fun _ _ h hc => h.quiet hc, fun A h => (ha A h.ref).mono fun e A' ⟨e1, e2, e3⟩ => ⟨e1, h.onRef e2 e3, keepsOp_ref h.ref e3⟩,
    fun A h => (hb A h.deq).mono fun e A' ⟨v', gs', e1, e2, e3, e4⟩ => ⟨e1, ⟨v', gs', cs', hg, h.onDeq e2 e3 e4⟩, fun j c t fr ht hj => h.deq.keeps e3 j c t fr (opT_nd ht) hj⟩⟩
/-- Neither changes. -/
theorem duo_none {fR fD : Nat} {args : List Value} {r : Value} (hg : DGood cs)
    (ha : ∀ A, RefAt A m cs → Calls Try.prog fR (.pointer (some ⟨m, 0, none⟩) :: args).toArray A fun e A' => e = .returned r ∧ Below A.heap.size A A')
    (hb : ∀ A, DeqAt A d v1 gs1 cs → Calls Try.prog fD (.pointer (some ⟨d, 0, none⟩) :: args).toArray A fun e A' => e = .returned r ∧ A = A') :
    Duo (fun A => Half d v gs m w A v1 gs1 cs cs) (fun A => Half d v gs m w A v1 gs1 cs cs) (Stood d v gs m w) fR fD (.pointer (some ⟨m, 0, none⟩)) (.pointer (some ⟨d, 0, none⟩)) args r :=
  ⟨fun _ _ h hc => h.quiet hc, fun _ _ h hc => h.quiet hc, fun A h => (ha A h.ref).mono fun e A' ⟨e1, e2⟩ => ⟨e1, h.quiet (Chg.of_below e2), KeepsT.ofBelow e2⟩,
    fun A h => (hb A h.deq).mono fun e A' ⟨e1, e2⟩ => by subst e2; exact ⟨e1, ⟨v1, gs1, cs, hg, h⟩, KeepsT.refl _ _⟩⟩
/-- There is neither. -/
theorem duo_nil {fR fD : Nat} {args : List Value} {r : Value}
    (ha : ∀ A, Calls Try.prog fR (.pointer none :: args).toArray A fun e A' => e = .returned r ∧ Below A.heap.size A A')
    (hb : ∀ A, Calls Try.prog fD (.pointer none :: args).toArray A fun e A' => e = .returned r ∧ A = A') :
    Duo (Chg (fun _ => False) w) (Chg (fun _ => False) w) (Chg (fun _ => False) w) fR fD (.pointer none) (.pointer none) args r :=
  ⟨fun _ _ h hc => h.trans hc fun _ _ e => e, fun _ _ h hc => h.trans hc fun _ _ e => e, fun A h => (ha A).mono fun e A' ⟨e1, e2⟩ => ⟨e1, h.trans (Chg.of_below e2) fun _ _ e => e, KeepsT.ofBelow e2⟩,
    fun A h => (hb A).mono fun e A' ⟨e1, e2⟩ => by subst e2; exact ⟨e1, h, KeepsT.refl _ _⟩⟩
end
end Go.Proofs.Ytefoieloakfhfaa
