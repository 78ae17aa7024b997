/- A deque made within a law: what the calls do to it, and that they leave all else alone. -/
import Derived.Test.YtefoieloakfhfaaSame
namespace Go.Proofs.Ytefoieloakfhfaa
open Go.RowKit Pantry

/-- Types that are no deque's. -/
def ndT (t : TypeId) : Prop := ¬ dqT t
theorem DeqAt.foot {w : World} {d : Nat} {v : Value} {gs : List Nat} {cs : List (List Txt)} (h : DeqAt w d v gs cs) {j : Nat} (hj : Foot d v gs j) : ∃ c t fr, w.heap[j]? = some (.cells c t fr) ∧ dqT t := by
  rcases hj with rfl | hj | hj
  · exact ⟨_, _, _, h.head, .inr (.inl rfl)⟩
  · obtain ⟨i, hi⟩ := List.mem_iff_getElem?.1 hj
    have hil := (List.getElem?_eq_some_iff.1 hi).1
    obtain ⟨c, hc⟩ : ∃ c, cs[i]? = some c := ⟨_, List.getElem?_eq_getElem (by rw [← h.len]; exact hil)⟩
    exact ⟨_, _, _, h.chunk i j c hi hc, .inl rfl⟩
  · rcases h.row.2 with ⟨rfl, _⟩ | ⟨g, cap, cur, rfl, _, hg, _⟩
    · cases hj
    · obtain rfl : g = j := by simpa [Value.ownBlock] using hj
      exact ⟨_, _, _, hg, .inr (.inr rfl)⟩
theorem DeqAt.keeps {w w' : World} {d : Nat} {v : Value} {gs : List Nat} {cs : List (List Txt)} (h : DeqAt w d v gs cs) (hc : Chg (Foot d v gs) w w') : KeepsT ndT w w' := fun j c t fr ht hj =>
  hc.heap hj fun hf => by
    obtain ⟨c', t', fr', hj', ht'⟩ := h.foot hf
    rw [hj] at hj'; cases hj'
    exact ht ht'
theorem keepsQuiet {T : TypeId → Prop} {w w' : World} (hc : Chg (fun _ => False) w w') : KeepsT T w w' := fun _ _ _ _ _ hj => hc.heap hj fun e => e
theorem ownsRow_keeps {T : TypeId → Prop} {w w' : World} {base : Nat} {e : TypeId} {size : Nat} {v : Value} {n : Nat} {xs : List Value} (h : w.ownsRow base e size v n xs) (hk : KeepsT T w w') (he : T e) : w'.ownsRow base e size v n xs :=
  ⟨h.1, h.2.imp id fun ⟨g, cap, cur, e1, h1, h2, h3⟩ => ⟨g, cap, cur, e1, h1, hk _ _ _ _ he h2, h3⟩⟩

/-- A deque that was made since w0; whatever lay in w0 lies as it lay. -/
def Dq (w0 w : World) (d : Nat) (cs : List (List Txt)) : Prop :=
  DGood cs ∧ Below w0.heap.size w0 w ∧ ∃ v gs, DeqAt w d v gs cs ∧ ∀ j, Foot d v gs j → w0.heap.size ≤ j
theorem Dq.quiet {w0 w w' : World} {d : Nat} {cs : List (List Txt)} (h : Dq w0 w d cs) (hc : Chg (fun _ => False) w w') : Dq w0 w' d cs := by
  obtain ⟨hg, hb, v, gs, hd, hf⟩ := h
  exact ⟨hg, hb.trans (hc.below hb.size fun _ e => e.elim), v, gs, hd.chg hc fun _ _ e => e, hf⟩
/-- The law's own steps. -/
theorem Dq.own {w0 w w' : World} {d : Nat} {cs : List (List Txt)} (h : Dq w0 w d cs) (hk : KeepsT dqT w w') (hb : Below w0.heap.size w w') : Dq w0 w' d cs := by
  obtain ⟨hg, hb0, v, gs, hd, hf⟩ := h
  exact ⟨hg, hb0.trans hb, v, gs, hd.keepsT hk, hf⟩
theorem Dq.good {w0 w : World} {d : Nat} {cs : List (List Txt)} (h : Dq w0 w d cs) : DGood cs := h.1
theorem Dq.below {w0 w : World} {d : Nat} {cs : List (List Txt)} (h : Dq w0 w d cs) : Below w0.heap.size w0 w := h.2.1
/-- What a call that changes the deque leaves. -/
def DqPost (w0 : World) (d : Nat) (cs : List (List Txt)) (r : Value) (w : World) (e : Ending) (w' : World) : Prop := e = .returned r ∧ Dq w0 w' d cs ∧ KeepsT ndT w w'
theorem Dq.step {w0 w : World} {d : Nat} {cs cs' : List (List Txt)} {f : Nat} {args : Array Value} {r : Value} (h : Dq w0 w d cs) (hg : DGood cs')
    (hc : ∀ v gs, DeqAt w d v gs cs → Calls Try.prog f args w (DeqPost d v gs cs' r w)) : Calls Try.prog f args w (DqPost w0 d cs' r w) := by
  obtain ⟨_, hb, v, gs, hd, hf⟩ := h
  refine (hc v gs hd).mono ?_
  rintro e w' ⟨v', gs', rfl, hd', hcg, hnew⟩
  refine ⟨rfl, ⟨hg, hb.trans (hcg.below hb.size hf), v', gs', hd', fun j hj => ?_⟩, hd.keeps hcg⟩
  rcases hnew j hj with e | e
  · exact hf j e
  · have := hb.size; omega
theorem Dq.stay {w0 w : World} {d : Nat} {cs : List (List Txt)} {f : Nat} {args : Array Value} {r : Value} (h : Dq w0 w d cs)
    (hc : ∀ v gs, DeqAt w d v gs cs → Calls Try.prog f args w fun e w' => e = .returned r ∧ w = w') : Calls Try.prog f args w fun e w' => e = .returned r ∧ w = w' := by
  obtain ⟨_, hb, v, gs, hd, hf⟩ := h
  exact hc v gs hd
theorem Dq.new (w : World) : Calls Try.prog 10 #[] w fun e w' => e = .returned (.pointer (some ⟨w.heap.size, 0, none⟩)) ∧ Dq w w' w.heap.size [] ∧ Chg (fun _ => False) w w' := by
  refine (new_any w).mono ?_
  rintro e w' ⟨rfl, rfl⟩
  refine ⟨rfl, ⟨DGood.nil, (Below.refl _ _).alloc (Nat.le_refl _) _, _, _, new_deq w, ?_⟩, (Chg.refl _ _).alloc _⟩
  rintro j (rfl | h | h)
  · exact Nat.le_refl _
  · simp at h
  · cases h
theorem Dq.push {w0 w : World} {d : Nat} {cs : List (List Txt)} (h : Dq w0 w d cs) (a : Bool) {s : Txt} (hs : s.length ≤ 1048576) (ht : total cs < 1048576) :
    Calls Try.prog 11 #[.pointer (some ⟨d, 0, none⟩), .bool a, .string ⟨s.toArray⟩] w (DqPost w0 d (pushC a s cs) (.int .i64 0) w) :=
  h.step (h.good.push a hs ht) fun v gs hd => push_ok w d v gs cs a s hd h.good hs ht
theorem Dq.ins {w0 w : World} {d : Nat} {cs : List (List Txt)} (h : Dq w0 w d cs) {i : Nat} (hi : i ≤ total cs) {s : Txt} (hs : s.length ≤ 1048576) (ht : total cs < 1048576) :
    Calls Try.prog 15 #[.pointer (some ⟨d, 0, none⟩), .int .i64 i, .string ⟨s.toArray⟩] w (DqPost w0 d (insC i s cs) (.int .i64 0) w) :=
  h.step (h.good.ins hi hs ht) fun v gs hd => ins_ok w d v gs cs i s hd h.good hi hs ht
theorem Dq.remove {w0 w : World} {d : Nat} {cs : List (List Txt)} (h : Dq w0 w d cs) {i : Nat} (hi : i < total cs) :
    Calls Try.prog 18 #[.pointer (some ⟨d, 0, none⟩), .int .i64 i] w (DqPost w0 d (removeC i cs) (.bool true) w) :=
  h.step (h.good.remove hi).1 fun v gs hd => remove_in w d v gs cs i hd h.good.toFits hi
theorem popAt_lt {b : Bool} {cs : List (List Txt)} {x : Txt} (h : cs.flatten[popAt b cs]? = some x) : popAt b cs < total cs := by rw [← flatten_length]; exact (List.getElem?_eq_some_iff.1 h).1
theorem Dq.pop {w0 w : World} {d : Nat} {cs : List (List Txt)} (h : Dq w0 w d cs) (b : Bool) {x : Txt} (hx : cs.flatten[popAt b cs]? = some x) :
    Calls Try.prog 12 #[.pointer (some ⟨d, 0, none⟩), .bool b] w (DqPost w0 d (removeC (popAt b cs) cs) (.tuple #[.string ⟨x.toArray⟩, .bool true]) w) :=
  h.step (h.good.remove (popAt_lt hx)).1 fun v gs hd => pop_some w d v gs cs b x hd h.good.toFits hx
theorem Dq.trim {w0 w : World} {d : Nat} {cs : List (List Txt)} (h : Dq w0 w d cs) (F T : Int) :
    Calls Try.prog 19 #[.pointer (some ⟨d, 0, none⟩), .int .i64 F, .int .i64 T] w (DqPost w0 d (trimC F T cs) (.tuple #[]) w) :=
  h.step (h.good.trim F T).1 fun v gs hd => trim_any w d v gs cs F T hd h.good.toFits
theorem Dq.len {w0 w : World} {d : Nat} {cs : List (List Txt)} (h : Dq w0 w d cs) : Calls Try.prog 16 #[.pointer (some ⟨d, 0, none⟩)] w fun e w' => e = .returned (.int .i64 (total cs : Nat)) ∧ w = w' :=
  h.stay fun v gs hd => len_any w d v gs cs hd
theorem Dq.cost {w0 w : World} {d : Nat} {cs : List (List Txt)} (h : Dq w0 w d cs) : Calls Try.prog 14 #[.pointer (some ⟨d, 0, none⟩)] w fun e w' => e = .returned (.int .i64 (costOf cs : Nat)) ∧ w = w' :=
  h.stay fun v gs hd => cost_any w d v gs cs hd
/-- What a call leaves that hands back a row of ints, or of texts. -/
theorem Dq.chunks {w0 w : World} {d : Nat} {cs : List (List Txt)} (h : Dq w0 w d cs) : Calls Try.prog 13 #[.pointer (some ⟨d, 0, none⟩)] w (IntsPost (sizesL cs) w) := by
  obtain ⟨hg, hb, v, gs, hd, hf⟩ := h
  exact chunks_any w d v gs cs hd hg.toFits
def TextsPost (l : List Txt) (w : World) (e : Ending) (w' : World) : Prop := ∃ v, e = .returned (.tuple #[v, .bool true]) ∧ w'.ownsRow w.heap.size 9 1 v l.length (txts l) ∧ Below w.heap.size w w'
theorem Dq.row {w0 w : World} {d : Nat} {cs : List (List Txt)} (h : Dq w0 w d cs) : Calls Try.prog 20 #[.pointer (some ⟨d, 0, none⟩)] w (TextsPost cs.flatten w) := by
  obtain ⟨hg, hb, v, gs, hd, hf⟩ := h
  exact row_any w _ cs (.inr ⟨d, v, gs, rfl, hd⟩) hg.toFits
/-- What lies in a row of one's own can be read. -/
theorem textsRd {w : World} {base : Nat} {v : Value} {l : List Txt} (h : w.ownsRow base 9 1 v l.length (txts l)) : ∃ a c, v = .slice a l.length c ∧ Rd w a (txts l) := ownsRow_rd h (txts_one l)
theorem intsRd {w : World} {base : Nat} {v : Value} {l : List Nat} (h : w.ownsRow base 3 1 v l.length (intsL l)) : ∃ a c, v = .slice a l.length c ∧ Rd w a (intsL l) := ownsRow_rd h (intsL_one l)
theorem belowN {B : Nat} {w w' : World} {q : Nat} (h : Below B w w') : Below B w (w'.drewN q) := ⟨h.os, h.tape, h.output, h.size, h.block⟩
theorem rdOf {w : World} {base : Nat} {e : TypeId} {size n c m : Nat} {a : Option Addr} {xs : List Value} (h : w.ownsRow base e size (.slice a m c) n xs) (h1 : ∀ u ∈ xs, u.oneCell' = true) : Rd w a xs := by
  obtain ⟨a', c', e, hr⟩ := ownsRow_rd h h1
  cases e; exact hr
theorem Rd.below {w w' : World} {B : Nat} {a : Option Addr} {xs : List Value} (h : Rd w a xs) (hb : Below B w w') (ha : ∀ x, a = some x → x.block < B) : Rd w' a xs := fun j u hj => by
  obtain ⟨h1, x, hx, hc⟩ := h j u hj
  exact ⟨h1, x, hx, (hb.cell (p := x.add j) (by rw [Addr.add_block]; exact ha x hx)).trans hc⟩
end Go.Proofs.Ytefoieloakfhfaa
