/- Two deques beside their answers. -/
import Derived.Test.YtefoieloakfhfaaZPlaysD
set_option linter.unusedVariables false
set_option linter.unusedSimpArgs false
namespace Go.Proofs.Ytefoieloakfhfaa
open Go.RowKit Pantry

/-- A deque and its answer, both made since w0. -/
def POne (w0 wr : World) (d : Nat) (v : Value) (gs : List Nat) (m : Nat) (cs : List (List Txt)) : Prop :=
  DGood cs ∧ DeqAt wr d v gs cs ∧ RefAt wr m cs ∧ (∀ j, Foot d v gs j → w0.heap.size ≤ j) ∧ w0.heap.size ≤ m
/-- Two of them, apart from one another. -/
structure PInv (w0 wr : World) (d m e n : Nat) : Prop where
  ex : ∃ v gs cs v2 gs2 cs2, POne w0 wr d v gs m cs ∧ POne w0 wr e v2 gs2 n cs2 ∧ (∀ j, Foot d v gs j → ¬ Foot e v2 gs2 j)
  ne : n ≠ m
  below : Below w0.heap.size w0 wr
theorem PInv.swap {w0 wr : World} {d m e n : Nat} (h : PInv w0 wr d m e n) : PInv w0 wr e n d m := by
  obtain ⟨v, gs, cs, v2, gs2, cs2, h1, h2, h3⟩ := h.ex
  exact ⟨⟨v2, gs2, cs2, v, gs, cs, h2, h1, fun j hj hk => h3 j hk hj⟩, h.ne.symm, h.below⟩
theorem POne.quiet {w0 w1 w2 : World} {d : Nat} {v : Value} {gs : List Nat} {m : Nat} {cs : List (List Txt)} (h : POne w0 w1 d v gs m cs) (hc : Chg (fun _ => False) w1 w2) : POne w0 w2 d v gs m cs := by
  obtain ⟨h1, h2, h3, h4, h5⟩ := h
  exact ⟨h1, h2.chg hc fun _ _ e => e, h3.keeps (T := fun _ => True) (keepsQuiet hc) (fun _ _ => trivial), h4, h5⟩
theorem PInv.quiet {w0 w1 w2 : World} {d m e n : Nat} (h : PInv w0 w1 d m e n) (hc : Chg (fun _ => False) w1 w2) : PInv w0 w2 d m e n := by
  obtain ⟨v, gs, cs, v2, gs2, cs2, h1, h2, h3⟩ := h.ex
  exact ⟨⟨v, gs, cs, v2, gs2, cs2, h1.quiet hc, h2.quiet hc, h3⟩, h.ne, h.below.trans (hc.below h.below.size fun _ e => e.elim)⟩
theorem POne.below {w0 w1 w2 : World} {d : Nat} {v : Value} {gs : List Nat} {m : Nat} {cs : List (List Txt)} {v1 : Value} {gs1 : List Nat} {ks ls : List (List Txt)} (h : POne w0 w1 d v gs m cs) (hb : Below w0.heap.size w0 w1) (hh : Half d v gs m w1 w2 v1 gs1 ks ls) : Below w0.heap.size w0 w2 := by
  obtain ⟨h1, h2, h3, h4, h5⟩ := h
  refine hb.trans (hh.chg.below hb.size ?_)
  rintro k (hk | rfl)
  · exact h4 k hk
  · exact h5
theorem POne.half {w0 w1 w2 : World} {d : Nat} {v : Value} {gs : List Nat} {m : Nat} {cs : List (List Txt)} {v1 : Value} {gs1 : List Nat} {cs1 : List (List Txt)} (h : POne w0 w1 d v gs m cs) (hb : Below w0.heap.size w0 w1) (hg : DGood cs1) (hh : Half d v gs m w1 w2 v1 gs1 cs1 cs1) : POne w0 w2 d v1 gs1 m cs1 := by
  obtain ⟨h1, h2, h3, h4, h5⟩ := h
  exact ⟨hg, hh.deq, hh.ref, fun j hj => by
    rcases hh.foot j hj with e | e
    · exact h4 j e
    · have := hb.size; omega, h5⟩
/-- What a call does to the first of two. -/
theorem PInv.plays {w0 w : World} {d m e n : Nat} (h : PInv w0 w d m e n) (o : Op7) (ho : o.Ok) :
    Calls Try.prog 30 #[.pointer (some ⟨d, 0, none⟩), .pointer (some ⟨m, 0, none⟩), .agg o.cells.toArray] w (PlayPost fun w' => PInv w0 w' d m e n) := by
  obtain ⟨v, gs, cs, v2, gs2, cs2, h1, h2, h3⟩ := h.ex
  refine (plays_some w d v gs m cs o ho h1.1 h1.2.1 h1.2.2.1).mono ?_
  rintro x w' ⟨rfl, v1, gs1, cs1, hg, hh⟩
  refine ⟨rfl, ⟨v1, gs1, cs1, v2, gs2, cs2, h1.half h.below hg hh, ?_⟩, h.ne, h1.below h.below hh⟩
  obtain ⟨a1, a2, a3⟩ := hh.other h1.2.1 h1.2.2.1 h2.2.1 h2.2.2.1 h3 h.ne
  exact ⟨⟨h2.1, a1, a2, h2.2.2.2⟩, a3⟩
/-- Between the two copies. -/
def PMid (w0 w : World) (d m f : Nat) : Prop := ∃ v gs v2 gs2 cs, POne w0 w d v gs m cs ∧ DeqAt w f v2 gs2 cs ∧ (∀ j, Foot f v2 gs2 j → w0.heap.size ≤ j) ∧ (∀ j, Foot d v gs j → ¬ Foot f v2 gs2 j) ∧ Below w0.heap.size w0 w
theorem PInv.copy {w0 w : World} {d m e n : Nat} (h : PInv w0 w d m e n) : Calls Try.prog 28 #[.pointer (some ⟨d, 0, none⟩)] w fun x w' => ∃ f, x = .returned (.pointer (some ⟨f, 0, none⟩)) ∧ PMid w0 w' d m f := by
  obtain ⟨v, gs, cs, v2, gs2, cs2, h1, h2, h3⟩ := h.ex
  refine (copy_any w d v gs cs h1.2.1 h1.1.toFits).mono ?_
  rintro x w' ⟨f, v3, gs3, rfl, a1, a2, a3⟩
  refine ⟨f, rfl, v, gs, v3, gs3, cs, h1.quiet a2, a1, fun j hj => Nat.le_trans h.below.size (a3 j hj), fun j hj hk => ?_, h.below.trans (a2.below h.below.size fun _ e => e.elim)⟩
  have := a3 j hk
  have := h1.2.1.lt j hj
  omega
theorem PMid.copy {w0 w : World} {d m f : Nat} (h : PMid w0 w d m f) : Calls Try.prog 29 #[.pointer (some ⟨m, 0, none⟩)] w fun x w' => ∃ n, x = .returned (.pointer (some ⟨n, 0, none⟩)) ∧ PInv w0 w' d m f n := by
  obtain ⟨v, gs, v2, gs2, cs, h1, h2, h3, h4, h5⟩ := h
  refine (rcopy_any w m cs h1.2.2.1 (Nat.le_trans h1.1.toFits.rows (by omega))).mono ?_
  rintro x w' ⟨n, rfl, a1, a2, a3⟩
  have hc : Chg (fun _ => False) w w' := Chg.of_below a3
  have hm : m < w.heap.size := by obtain ⟨u, h, -⟩ := h1.2.2.1; exact block_lt h
  refine ⟨n, rfl, ⟨v, gs, cs, v2, gs2, cs, h1.quiet hc, ⟨h1.1, h2.chg hc fun _ _ e => e, a1, h3, Nat.le_trans h5.size a2⟩, h4⟩, by omega, h5.trans (hc.below h5.size fun _ e => e.elim)⟩
/-- The first one's stands. -/
theorem PInv.stands {w0 w : World} {d m e n : Nat} (h : PInv w0 w d m e n) : Calls Try.prog 31 #[.pointer (some ⟨d, 0, none⟩), .pointer (some ⟨m, 0, none⟩)] w fun x w' => x = .returned (.bool true) ∧ PInv w0 w' d m e n := by
  obtain ⟨v, gs, cs, v2, gs2, cs2, h1, h2, h3⟩ := h.ex
  refine (stands_any w _ _ cs (.inr ⟨d, v, gs, rfl, h1.2.1⟩) (.inr ⟨m, rfl, h1.2.2.1⟩) h1.1.toFits).mono ?_
  rintro x w' ⟨rfl, hb⟩
  exact ⟨rfl, h.quiet (Chg.of_below hb)⟩
theorem PInv.nils {w0 w : World} {d m e n : Nat} (h : PInv w0 w d m e n) : Calls Try.prog 31 #[.pointer none, .pointer none] w fun x w' => x = .returned (.bool true) ∧ PInv w0 w' d m e n := by
  refine (stands_any w _ _ [] (.inl ⟨rfl, rfl⟩) (.inl ⟨rfl, rfl⟩) DGood.nil.toFits).mono ?_
  rintro x w' ⟨rfl, hb⟩
  exact ⟨rfl, h.quiet (Chg.of_below hb)⟩
theorem PInv.playsNone {w0 w : World} {d m e n : Nat} (h : PInv w0 w d m e n) (o : Op7) (ho : o.Ok) (f : Nat) (v : Value) (gs : List Nat) (hf : DeqAt w f v gs []) :
    Calls Try.prog 30 #[.pointer none, .pointer none, .agg o.cells.toArray] w (PlayPost fun w' => PInv w0 w' d m e n ∧ DeqAt w' f v gs []) := by
  refine (plays_nil w o ho).mono ?_
  rintro x w' ⟨rfl, hc⟩
  exact ⟨rfl, h.quiet hc, hf.chg hc fun _ _ e => e⟩
theorem PInv.copyNone {w0 w : World} {d m e n : Nat} (h : PInv w0 w d m e n) : Calls Try.prog 28 #[.pointer none] w fun x w' => ∃ f v gs, x = .returned (.pointer (some ⟨f, 0, none⟩)) ∧ PInv w0 w' d m e n ∧ DeqAt w' f v gs [] ∧ Chg (fun _ => False) w w' := by
  refine (copy_or (p := none) (cs := []) (.inl ⟨rfl, rfl⟩) DGood.nil.toFits).mono ?_
  rintro x w' ⟨f, v3, gs3, rfl, a1, a2, a3⟩
  exact ⟨f, v3, gs3, rfl, h.quiet a2, a1, a2⟩
theorem PInv.refNone {w0 w : World} {d m e n : Nat} (h : PInv w0 w d m e n) {f : Nat} {v : Value} {gs : List Nat} (hf : DeqAt w f v gs []) :
    Calls Try.prog 27 #[] w fun x w' => ∃ q, x = .returned (.pointer (some ⟨q, 0, none⟩)) ∧ PInv w0 w' d m e n ∧ DeqAt w' f v gs [] ∧ RefAt w' q [] := by
  refine (rnew_any w).mono ?_
  rintro x w' ⟨rfl, a1, a2⟩
  exact ⟨_, rfl, h.quiet a2, hf.chg a2 fun _ _ e => e, a1⟩
theorem PInv.standsNone {w0 w : World} {d m e n : Nat} (h : PInv w0 w d m e n) {f : Nat} {v : Value} {gs : List Nat} (hf : DeqAt w f v gs []) {q : Nat} (hq : RefAt w q []) :
    Calls Try.prog 31 #[.pointer (some ⟨f, 0, none⟩), .pointer (some ⟨q, 0, none⟩)] w fun x w' => x = .returned (.bool true) ∧ PInv w0 w' d m e n := by
  refine (stands_any w _ _ [] (.inr ⟨f, v, gs, rfl, hf⟩) (.inr ⟨q, rfl, hq⟩) DGood.nil.toFits).mono ?_
  rintro x w' ⟨rfl, hb⟩
  exact ⟨rfl, h.quiet (Chg.of_below hb)⟩
/-- Two new ones. -/
theorem PInv.fresh (w : World) {w2 w4 : World} {d e m n : Nat} (h1 : ∃ v gs v2 gs2, DeqAt w2 d v gs [] ∧ DeqAt w2 e v2 gs2 [] ∧ (∀ j, Foot d v gs j → w.heap.size ≤ j) ∧ (∀ j, Foot e v2 gs2 j → w.heap.size ≤ j) ∧ (∀ j, Foot d v gs j → ¬ Foot e v2 gs2 j) ∧ Below w.heap.size w w2)
    (h2 : RefAt w4 m [] ∧ RefAt w4 n [] ∧ w2.heap.size ≤ m ∧ w2.heap.size ≤ n ∧ n ≠ m ∧ Chg (fun _ => False) w2 w4) : PInv w w4 d m e n := by
  obtain ⟨v, gs, v2, gs2, a1, a2, a3, a4, a5, a6⟩ := h1
  obtain ⟨b1, b2, b3, b4, b5, b6⟩ := h2
  have := a6.size
  exact ⟨⟨v, gs, [], v2, gs2, [], ⟨DGood.nil, a1.chg b6 fun _ _ e => e, b1, a3, by omega⟩, ⟨DGood.nil, a2.chg b6 fun _ _ e => e, b2, a4, by omega⟩, a5⟩, b5, a6.trans (b6.below this fun _ e => e.elim)⟩
end Go.Proofs.Ytefoieloakfhfaa
