/- Two deques in which the same texts lie: plain laws; two deques within a law. -/
import Derived.Test.YtefoieloakfhfaaWakes
namespace Pantry
open Go Go.RowKit
/-- The texts, or those that were put in ahead of one another. -/
def rv (a : Bool) (l : List Txt) : List Txt := if a then l.reverse else l
theorem rv_push (a : Bool) (l : List Txt) (s : Txt) : (if a then s :: rv a l else rv a l ++ [s]) = rv a (l ++ [s]) := by cases a <;> simp [rv]
theorem rv_length (a : Bool) (l : List Txt) : (rv a l).length = l.length := by cases a <;> simp [rv]
theorem dropAt_zero {α : Type} (x : α) (l : List α) : dropAt (x :: l) 0 = l := by simp [dropAt]
theorem dropAt_last {α : Type} (l : List α) (x : α) : dropAt (l ++ [x]) l.length = l := by simp [dropAt]
end Pantry
namespace Go.Proofs.Ytefoieloakfhfaa
open Go.RowKit Pantry

theorem pop_head {a : Bool} {cs : List (List Txt)} {x : Txt} {m : List Txt} (h : cs.flatten = rv a (x :: m)) :
    cs.flatten[popAt (!a) cs]? = some x ∧ (removeC (popAt (!a) cs) cs).flatten = rv a m := by
  have ht : total cs = m.length + 1 := by rw [← flatten_length, h, rv_length]; rfl
  cases a with
  | false =>
    have hp : popAt (!false) cs = 0 := rfl
    rw [hp, removeC_row (by omega), h]
    simp only [rv]
    exact ⟨rfl, dropAt_zero _ _⟩
  | true =>
    have hp : popAt (!true) cs = m.reverse.length := by
      show total cs - 1 = _
      rw [ht, List.length_reverse]; rfl
    have hr : rv true (x :: m) = m.reverse ++ [x] := by simp [rv]
    rw [hp, removeC_row (by rw [List.length_reverse]; omega), h, hr]
    refine ⟨by simp, ?_⟩
    rw [dropAt_last]; rfl
theorem pop_last {a : Bool} {cs : List (List Txt)} {x : Txt} {m : List Txt} (h : cs.flatten = rv a (m ++ [x])) :
    cs.flatten[popAt a cs]? = some x ∧ (removeC (popAt a cs) cs).flatten = rv a m := by
  have ht : total cs = m.length + 1 := by rw [← flatten_length, h, rv_length]; simp
  cases a with
  | true =>
    have hp : popAt true cs = 0 := rfl
    have hr : rv true (m ++ [x]) = x :: m.reverse := by simp [rv]
    rw [hp, removeC_row (by omega), h, hr]
    exact ⟨rfl, dropAt_zero _ _⟩
  | false =>
    have hp : popAt false cs = m.length := by
      show total cs - 1 = _
      rw [ht]; rfl
    have hr : rv false (m ++ [x]) = m ++ [x] := rfl
    rw [hp, removeC_row (by omega), h, hr]
    refine ⟨by simp, ?_⟩
    rw [dropAt_last]; rfl

/-- Two deques made since w0, apart from one another. -/
def Dq2 (w0 w : World) (d : Nat) (cs : List (List Txt)) (e : Nat) (ks : List (List Txt)) : Prop :=
  DGood cs ∧ DGood ks ∧ Below w0.heap.size w0 w ∧ ∃ v gs v2 gs2, DeqAt w d v gs cs ∧ DeqAt w e v2 gs2 ks ∧ (∀ j, Foot d v gs j → w0.heap.size ≤ j) ∧ (∀ j, Foot e v2 gs2 j → w0.heap.size ≤ j) ∧ ∀ j, Foot d v gs j → ¬ Foot e v2 gs2 j
theorem Dq2.swap {w0 w : World} {d e : Nat} {cs ks : List (List Txt)} (h : Dq2 w0 w d cs e ks) : Dq2 w0 w e ks d cs := by
  obtain ⟨h1, h2, hb, v, gs, v2, gs2, hd, he, f1, f2, f3⟩ := h
  exact ⟨h2, h1, hb, v2, gs2, v, gs, he, hd, f2, f1, fun j a b => f3 j b a⟩
theorem Dq2.fst {w0 w : World} {d e : Nat} {cs ks : List (List Txt)} (h : Dq2 w0 w d cs e ks) : Dq w0 w d cs := by
  obtain ⟨h1, h2, hb, v, gs, v2, gs2, hd, he, f1, f2, f3⟩ := h
  exact ⟨h1, hb, v, gs, hd, f1⟩
theorem Dq2.snd {w0 w : World} {d e : Nat} {cs ks : List (List Txt)} (h : Dq2 w0 w d cs e ks) : Dq w0 w e ks := h.swap.fst
theorem Dq2.quiet {w0 w w' : World} {d e : Nat} {cs ks : List (List Txt)} (h : Dq2 w0 w d cs e ks) (hc : Chg (fun _ => False) w w') : Dq2 w0 w' d cs e ks := by
  obtain ⟨h1, h2, hb, v, gs, v2, gs2, hd, he, f1, f2, f3⟩ := h
  exact ⟨h1, h2, hb.trans (hc.below hb.size fun _ e => e.elim), v, gs, v2, gs2, hd.chg hc fun _ _ e => e, he.chg hc fun _ _ e => e, f1, f2, f3⟩
theorem Dq2.own {w0 w w' : World} {d e : Nat} {cs ks : List (List Txt)} (h : Dq2 w0 w d cs e ks) (hk : KeepsT dqT w w') (hb : Below w0.heap.size w w') : Dq2 w0 w' d cs e ks := by
  obtain ⟨h1, h2, hb0, v, gs, v2, gs2, hd, he, f1, f2, f3⟩ := h
  exact ⟨h1, h2, hb0.trans hb, v, gs, v2, gs2, hd.keepsT hk, he.keepsT hk, f1, f2, f3⟩
theorem Dq2.new {w0 w : World} {d : Nat} {cs : List (List Txt)} (h : Dq w0 w d cs) : Calls Try.prog 10 #[] w fun e w' => e = .returned (.pointer (some ⟨w.heap.size, 0, none⟩)) ∧ Dq2 w0 w' d cs w.heap.size [] ∧ Chg (fun _ => False) w w' := by
  refine (new_any w).mono ?_
  rintro e w' ⟨rfl, rfl⟩
  have hc : Chg (fun _ => False) w (w.alloc (.cells #[.slice none 0 0, .int .i64 0, .int .i64 0] 62)) := (Chg.refl _ _).alloc _
  obtain ⟨h1, hb, v, gs, hd, hf⟩ := h
  refine ⟨rfl, ⟨h1, DGood.nil, hb.trans (hc.below hb.size fun _ e => e.elim), v, gs, _, _, hd.chg hc fun _ _ e => e, new_deq w, hf, ?_, ?_⟩, hc⟩
  · rintro j (rfl | h | h)
    · exact hb.size
    · simp at h
    · cases h
  · rintro j hj (rfl | h | h)
    · exact absurd (hd.lt _ hj) (Nat.lt_irrefl _)
    · simp at h
    · cases h
def Dq2Post (w0 : World) (d : Nat) (cs : List (List Txt)) (e : Nat) (ks : List (List Txt)) (r : Value) (w : World) (x : Ending) (w' : World) : Prop := x = .returned r ∧ Dq2 w0 w' d cs e ks ∧ KeepsT ndT w w'
theorem Dq2.step {w0 w : World} {d e : Nat} {cs cs' ks : List (List Txt)} {f : Nat} {args : Array Value} {r : Value} (h : Dq2 w0 w d cs e ks) (hg : DGood cs')
    (hc : ∀ v gs, DeqAt w d v gs cs → Calls Try.prog f args w (DeqPost d v gs cs' r w)) : Calls Try.prog f args w (Dq2Post w0 d cs' e ks r w) := by
  obtain ⟨h1, h2, hb, v, gs, v2, gs2, hd, he, f1, f2, f3⟩ := h
  refine (hc v gs hd).mono ?_
  rintro x w' ⟨v', gs', rfl, hd', hcg, hnew⟩
  refine ⟨rfl, ⟨hg, h2, hb.trans (hcg.below hb.size f1), v', gs', v2, gs2, hd', he.chg hcg fun k hk hk2 => f3 k hk2 hk, fun j hj => ?_, f2, fun j hj hj2 => ?_⟩, hd.keeps hcg⟩
  · rcases hnew j hj with e | e
    · exact f1 j e
    · have := hb.size; omega
  · rcases hnew j hj with e | e
    · exact f3 j e hj2
    · have := he.lt j hj2; omega
theorem Dq2Post.swap {w0 : World} {d e : Nat} {cs ks : List (List Txt)} {f : Nat} {args : Array Value} {r : Value} {w : World} (h : Calls Try.prog f args w (Dq2Post w0 d cs e ks r w)) : Calls Try.prog f args w (Dq2Post w0 e ks d cs r w) :=
  h.mono fun _ _ ⟨a, b, c⟩ => ⟨a, b.swap, c⟩
theorem Dq2.push {w0 w : World} {d e : Nat} {cs ks : List (List Txt)} (h : Dq2 w0 w d cs e ks) (a : Bool) {s : Txt} (hs : s.length ≤ 1048576) (ht : total cs < 1048576) :
    Calls Try.prog 11 #[.pointer (some ⟨d, 0, none⟩), .bool a, .string ⟨s.toArray⟩] w (Dq2Post w0 d (pushC a s cs) e ks (.int .i64 0) w) :=
  h.step (h.1.push a hs ht) fun v gs hd => push_ok w d v gs cs a s hd h.1 hs ht
theorem Dq2.pop {w0 w : World} {d e : Nat} {cs ks : List (List Txt)} (h : Dq2 w0 w d cs e ks) (b : Bool) {x : Txt} (hx : cs.flatten[popAt b cs]? = some x) :
    Calls Try.prog 12 #[.pointer (some ⟨d, 0, none⟩), .bool b] w (Dq2Post w0 d (removeC (popAt b cs) cs) e ks (.tuple #[.string ⟨x.toArray⟩, .bool true]) w) :=
  h.step (h.1.remove (popAt_lt hx)).1 fun v gs hd => pop_some w d v gs cs b x hd h.1.toFits hx
theorem nil_of_flatten {cs : List (List Txt)} (h : DGood cs) (he : cs.flatten = []) : cs = [] := by
  cases cs with
  | nil => rfl
  | cons c l =>
    have h1 := h.some_ c List.mem_cons_self
    simp only [List.flatten_cons, List.append_eq_nil_iff] at he
    exact absurd he.1 h1
theorem Dq.popped {w0 w : World} {d : Nat} {cs : List (List Txt)} (h : Dq w0 w d cs) (he : cs.flatten = []) (b : Bool) :
    Calls Try.prog 12 #[.pointer (some ⟨d, 0, none⟩), .bool b] w fun e w' => e = .returned (.tuple #[.string ⟨#[]⟩, .bool false]) ∧ w = w' := by
  obtain rfl := nil_of_flatten h.good he
  exact h.stay fun v gs hd => pop_empty w d v gs b hd
end Go.Proofs.Ytefoieloakfhfaa
