/- The law's sameTexts and sameInts. -/
import Derived.Test.YtefoieloakfhfaaZRow
import Derived.BigQuiet
namespace Pantry
open Go Go.RowKit
theorem ints_cell {w : World} {a : Option Addr} {l : List Nat} (h : Rd w a (intsL l)) {j x : Nat} (hj : l[j]? = some x) : ∃ y, a = some y ∧ w.cell? (y.add j) = some (.int .i64 (x : Int)) :=
  (h j (.int .i64 (x : Int)) (by rw [intsL_get, hj]; rfl)).2
end Pantry
namespace Go.Proofs.Ytefoieloakfhfaa
open Go.RowKit Pantry

set_option maxHeartbeats 400000 in
theorem same_any (a b : Option Addr) (n m c d : Nat) (l k : List (List UInt8)) (w : World) (hl : l.length = n) (hk : k.length = m) (hn : n ≤ 9223372036854775807)
    (ha : Rd w a (txts l)) (hb : Rd w b (txts k)) :
    Calls Try.prog 21 #[.slice a n c, .slice b m d] w (QRet w (.bool (decide (l = k)))) := by
  by_cases hnm : n = m
  · subst hnm
    have HL := Lib.hid hl
    have HK := Lib.hid hk
    clear hl hk
    go_enter Try.func21, Try.ntmps21
    go_wp2
    go_loopw [5, 13] (fun _ i wr => ∃ k' : Nat, k' ≤ n ∧ i = .int .i64 k' ∧ l.take k' = k.take k' ∧ ∃ q, wr = w.drewN q) (fun _ i _ => n - (intOf i).toNat)
    case atStart => exact ⟨0, by omega, rfl, rfl, 0, rfl⟩
    case round =>
      obtain ⟨j, hj, rfl, heq, q, rfl⟩ := hrel
      by_cases hlt : j < n
      · obtain ⟨xl, hxl⟩ : ∃ x, l[j]? = some x := ⟨_, List.getElem?_eq_getElem (by rw [HL.out]; exact hlt)⟩
        obtain ⟨xk, hxk⟩ : ∃ x, k[j]? = some x := ⟨_, List.getElem?_eq_getElem (by rw [HK.out]; exact hlt)⟩
        obtain ⟨x, rfl, hx⟩ := txts_cell ha hxl
        obtain ⟨y, rfl, hy⟩ := txts_cell hb hxk
        unfold txt at hx hy
        have HX := Lib.hid hxl
        have HY := Lib.hid hxk
        clear hxl hxk
        go_wp2
        go_quiet (fail)
        by_cases hx : xl = xk
        · rw [show (xl == xk) = true by simp [hx], Bool.not_true]
          go_wp2
          go_roundw
          case rel => exact ⟨j + 1, by omega, by go_num, take_step (d := []) heq (by rw [HL.out]; exact hlt) (by rw [HK.out]; exact hlt) (by rw [HX.out, HY.out, hx]), _, rfl⟩
          case measure => simp [intOf]; omega
        · rw [show (xl == xk) = false by simp [hx], Bool.not_false]
          go_wp2
          go_ret
          rw [decide_eq_false (fun h : l = k => hx (by have := HX.out; rw [h, HY.out] at this; exact (Option.some.inj this).symm))]
          exact QRet.after (QRet.draws _ rfl)
      · go_wp2
        go_ret
        exact QRet.draws _ (ret_bool (decide_eq_true (take_whole heq HL.out HK.out hlt)).symm)
  · go_enter Try.func21, Try.ntmps21
    go_wp2
    go_ret
    exact QRet.same (ret_bool (by rw [eq_comm, decide_eq_false_iff_not]; rintro rfl; omega))

set_option maxHeartbeats 400000 in
theorem ints_any (a b : Option Addr) (n m c d : Nat) (l k : List Nat) (w : World) (hl : l.length = n) (hk : k.length = m) (hn : n ≤ 9223372036854775807)
    (ha : Rd w a (intsL l)) (hb : Rd w b (intsL k)) :
    Calls Try.prog 25 #[.slice a n c, .slice b m d] w (QRet w (.bool (decide (l = k)))) := by
  by_cases hnm : n = m
  · subst hnm
    have HL := Lib.hid hl
    have HK := Lib.hid hk
    clear hl hk
    go_enter Try.func25, Try.ntmps25
    go_wp2
    go_loopw [5, 13] (fun _ i wr => ∃ k' : Nat, k' ≤ n ∧ i = .int .i64 k' ∧ l.take k' = k.take k' ∧ ∃ q, wr = w.drewN q) (fun _ i _ => n - (intOf i).toNat)
    case atStart => exact ⟨0, by omega, rfl, rfl, 0, rfl⟩
    case round =>
      obtain ⟨j, hj, rfl, heq, q, rfl⟩ := hrel
      by_cases hlt : j < n
      · obtain ⟨xl, hxl⟩ : ∃ x, l[j]? = some x := ⟨_, List.getElem?_eq_getElem (by rw [HL.out]; exact hlt)⟩
        obtain ⟨xk, hxk⟩ : ∃ x, k[j]? = some x := ⟨_, List.getElem?_eq_getElem (by rw [HK.out]; exact hlt)⟩
        obtain ⟨x, rfl, hx⟩ := ints_cell ha hxl
        obtain ⟨y, rfl, hy⟩ := ints_cell hb hxk
        have HX := Lib.hid hxl
        have HY := Lib.hid hxk
        clear hxl hxk
        go_wp2
        go_quiet (fail)
        by_cases hx : xl = xk
        · rw [show ((xl : Int) != (xk : Int)) = false by simp [hx]]
          go_wp2
          go_roundw
          case rel => exact ⟨j + 1, by omega, by go_num, take_step (d := 0) heq (by rw [HL.out]; exact hlt) (by rw [HK.out]; exact hlt) (by rw [HX.out, HY.out, hx]), _, rfl⟩
          case measure => simp [intOf]; omega
        · rw [show ((xl : Int) != (xk : Int)) = true by simp [bne]; omega]
          go_wp2
          go_ret
          rw [decide_eq_false (fun h : l = k => hx (by have := HX.out; rw [h, HY.out] at this; exact (Option.some.inj this).symm))]
          exact QRet.after (QRet.draws _ rfl)
      · go_wp2
        go_ret
        exact QRet.draws _ (ret_bool (decide_eq_true (take_whole heq HL.out HK.out hlt)).symm)
  · go_enter Try.func25, Try.ntmps25
    go_wp2
    go_ret
    exact QRet.same (ret_bool (by rw [eq_comm, decide_eq_false_iff_not]; rintro rfl; omega))
end Go.Proofs.Ytefoieloakfhfaa

/- A deque made within a law: what the calls do to it, and that they leave all else alone. -/
namespace Go.Proofs.Ytefoieloakfhfaa
open Go.RowKit Pantry

/-- Types that are no deque's. -/
def ndT (t : TypeId) : Prop := ¬ dqT t
theorem DeqAt.foot {w : World} {d : Nat} {v : Value} {gs : List Nat} {cs : List (List Txt)} (h : DeqAt w d v gs cs) {j : Nat} (hj : Foot d v gs j) : ∃ c t fr, w.heap[j]? = some (.cells c t fr) ∧ dqT t := by
  rcases hj with rfl | hj | hj
  · exact ⟨_, _, _, h.head, .inr (.inl rfl)⟩
  · obtain ⟨i, hi⟩ := List.mem_iff_getElem?.1 hj
    have hil := (List.getElem?_eq_some_iff.1 hi).1
    obtain ⟨c, hc⟩ : ∃ c, cs[i]? = some c := ⟨_, List.getElem?_eq_getElem (by rw [← h.len]; exact hil)⟩
    exact ⟨_, _, _, h.chunk i j c hi hc, .inl rfl⟩
  · rcases h.row.2 with ⟨rfl, _⟩ | ⟨g, cap, cur, rfl, _, hg, _⟩
    · cases hj
    · obtain rfl : g = j := by simpa [Value.ownBlock] using hj
      exact ⟨_, _, _, hg, .inr (.inr rfl)⟩
theorem DeqAt.keeps {w w' : World} {d : Nat} {v : Value} {gs : List Nat} {cs : List (List Txt)} (h : DeqAt w d v gs cs) (hc : Chg (Foot d v gs) w w') : KeepsT ndT w w' := fun j c t fr ht hj =>
  hc.heap hj fun hf => by
    obtain ⟨c', t', fr', hj', ht'⟩ := h.foot hf
    rw [hj] at hj'; cases hj'
    exact ht ht'
theorem keepsQuiet {T : TypeId → Prop} {w w' : World} (hc : Chg (fun _ => False) w w') : KeepsT T w w' := fun _ _ _ _ _ hj => hc.heap hj fun e => e
theorem ownsRow_keeps {T : TypeId → Prop} {w w' : World} {base : Nat} {e : TypeId} {size : Nat} {v : Value} {n : Nat} {xs : List Value} (h : w.ownsRow base e size v n xs) (hk : KeepsT T w w') (he : T e) : w'.ownsRow base e size v n xs :=
  ⟨h.1, h.2.imp id fun ⟨g, cap, cur, e1, h1, h2, h3⟩ => ⟨g, cap, cur, e1, h1, hk _ _ _ _ he h2, h3⟩⟩

/-- A deque that was made since w0; whatever lay in w0 lies as it lay. -/
def Dq (w0 w : World) (d : Nat) (cs : List (List Txt)) : Prop :=
  DGood cs ∧ Below w0.heap.size w0 w ∧ ∃ v gs, DeqAt w d v gs cs ∧ ∀ j, Foot d v gs j → w0.heap.size ≤ j
theorem Dq.quiet {w0 w w' : World} {d : Nat} {cs : List (List Txt)} (h : Dq w0 w d cs) (hc : Chg (fun _ => False) w w') : Dq w0 w' d cs := by
  obtain ⟨hg, hb, v, gs, hd, hf⟩ := h
  exact ⟨hg, hb.trans (hc.below hb.size fun _ e => e.elim), v, gs, hd.chg hc fun _ _ e => e, hf⟩
/-- The law's own steps. -/
theorem Dq.own {w0 w w' : World} {d : Nat} {cs : List (List Txt)} (h : Dq w0 w d cs) (hk : KeepsT dqT w w') (hb : Below w0.heap.size w w') : Dq w0 w' d cs := by
  obtain ⟨hg, hb0, v, gs, hd, hf⟩ := h
  exact ⟨hg, hb0.trans hb, v, gs, hd.keepsT hk, hf⟩
theorem Dq.good {w0 w : World} {d : Nat} {cs : List (List Txt)} (h : Dq w0 w d cs) : DGood cs := h.1
theorem Dq.below {w0 w : World} {d : Nat} {cs : List (List Txt)} (h : Dq w0 w d cs) : Below w0.heap.size w0 w := h.2.1
/-- What a call that changes the deque leaves. -/
def DqPost (w0 : World) (d : Nat) (cs : List (List Txt)) (r : Value) (w : World) (e : Ending) (w' : World) : Prop := e = .returned r ∧ Dq w0 w' d cs ∧ KeepsT ndT w w'
theorem Dq.step {w0 w : World} {d : Nat} {cs cs' : List (List Txt)} {f : Nat} {args : Array Value} {r : Value} (h : Dq w0 w d cs) (hg : DGood cs')
    (hc : ∀ v gs, DeqAt w d v gs cs → Calls Try.prog f args w (DeqPost d v gs cs' r w)) : Calls Try.prog f args w (DqPost w0 d cs' r w) := by
  obtain ⟨_, hb, v, gs, hd, hf⟩ := h
  refine (hc v gs hd).mono ?_
  rintro e w' ⟨v', gs', rfl, hd', hcg, hnew⟩
  refine ⟨rfl, ⟨hg, hb.trans (hcg.below hb.size hf), v', gs', hd', fun j hj => ?_⟩, hd.keeps hcg⟩
  rcases hnew j hj with e | e
  · exact hf j e
  · have := hb.size; omega
theorem Dq.stay {w0 w : World} {d : Nat} {cs : List (List Txt)} {f : Nat} {args : Array Value} {r : Value} (h : Dq w0 w d cs)
    (hc : ∀ v gs, DeqAt w d v gs cs → Calls Try.prog f args w fun e w' => e = .returned r ∧ w = w') : Calls Try.prog f args w fun e w' => e = .returned r ∧ w = w' := by
  obtain ⟨_, hb, v, gs, hd, hf⟩ := h
  exact hc v gs hd
theorem Dq.new (w : World) : Calls Try.prog 10 #[] w fun e w' => e = .returned (.pointer (some ⟨w.heap.size, 0, none⟩)) ∧ Dq w w' w.heap.size [] ∧ Chg (fun _ => False) w w' := by
  refine (new_any w).mono ?_
  rintro e w' ⟨rfl, rfl⟩
  refine ⟨rfl, ⟨DGood.nil, (Below.refl _ _).alloc (Nat.le_refl _) _, _, _, new_deq w, ?_⟩, (Chg.refl _ _).alloc _⟩
  rintro j (rfl | h | h)
  · exact Nat.le_refl _
  · simp at h
  · cases h
theorem Dq.push {w0 w : World} {d : Nat} {cs : List (List Txt)} (h : Dq w0 w d cs) (a : Bool) {s : Txt} (hs : s.length ≤ 1048576) (ht : total cs < 1048576) :
    Calls Try.prog 11 #[.pointer (some ⟨d, 0, none⟩), .bool a, .string ⟨s.toArray⟩] w (DqPost w0 d (pushC a s cs) (.int .i64 0) w) :=
  h.step (h.good.push a hs ht) fun v gs hd => push_ok w d v gs cs a s hd h.good hs ht
theorem Dq.ins {w0 w : World} {d : Nat} {cs : List (List Txt)} (h : Dq w0 w d cs) {i : Nat} (hi : i ≤ total cs) {s : Txt} (hs : s.length ≤ 1048576) (ht : total cs < 1048576) :
    Calls Try.prog 15 #[.pointer (some ⟨d, 0, none⟩), .int .i64 i, .string ⟨s.toArray⟩] w (DqPost w0 d (insC i s cs) (.int .i64 0) w) :=
  h.step (h.good.ins hi hs ht) fun v gs hd => ins_ok w d v gs cs i s hd h.good hi hs ht
theorem Dq.remove {w0 w : World} {d : Nat} {cs : List (List Txt)} (h : Dq w0 w d cs) {i : Nat} (hi : i < total cs) :
    Calls Try.prog 18 #[.pointer (some ⟨d, 0, none⟩), .int .i64 i] w (DqPost w0 d (removeC i cs) (.bool true) w) :=
  h.step (h.good.remove hi).1 fun v gs hd => remove_in w d v gs cs i hd h.good.toFits hi
theorem popAt_lt {b : Bool} {cs : List (List Txt)} {x : Txt} (h : cs.flatten[popAt b cs]? = some x) : popAt b cs < total cs := by rw [← flatten_length]; exact (List.getElem?_eq_some_iff.1 h).1
theorem Dq.pop {w0 w : World} {d : Nat} {cs : List (List Txt)} (h : Dq w0 w d cs) (b : Bool) {x : Txt} (hx : cs.flatten[popAt b cs]? = some x) :
    Calls Try.prog 12 #[.pointer (some ⟨d, 0, none⟩), .bool b] w (DqPost w0 d (removeC (popAt b cs) cs) (.tuple #[.string ⟨x.toArray⟩, .bool true]) w) :=
  h.step (h.good.remove (popAt_lt hx)).1 fun v gs hd => pop_some w d v gs cs b x hd h.good.toFits hx
theorem Dq.trim {w0 w : World} {d : Nat} {cs : List (List Txt)} (h : Dq w0 w d cs) (F T : Int) :
    Calls Try.prog 19 #[.pointer (some ⟨d, 0, none⟩), .int .i64 F, .int .i64 T] w (DqPost w0 d (trimC F T cs) (.tuple #[]) w) :=
  h.step (h.good.trim F T).1 fun v gs hd => trim_any w d v gs cs F T hd h.good.toFits
theorem Dq.len {w0 w : World} {d : Nat} {cs : List (List Txt)} (h : Dq w0 w d cs) : Calls Try.prog 16 #[.pointer (some ⟨d, 0, none⟩)] w fun e w' => e = .returned (.int .i64 (total cs : Nat)) ∧ w = w' :=
  h.stay fun v gs hd => len_any w d v gs cs hd
theorem Dq.cost {w0 w : World} {d : Nat} {cs : List (List Txt)} (h : Dq w0 w d cs) : Calls Try.prog 14 #[.pointer (some ⟨d, 0, none⟩)] w fun e w' => e = .returned (.int .i64 (costOf cs : Nat)) ∧ w = w' :=
  h.stay fun v gs hd => cost_any w d v gs cs hd
/-- What a call leaves that hands back a row of ints, or of texts. -/
theorem Dq.chunks {w0 w : World} {d : Nat} {cs : List (List Txt)} (h : Dq w0 w d cs) : Calls Try.prog 13 #[.pointer (some ⟨d, 0, none⟩)] w (IntsPost (sizesL cs) w) := by
  obtain ⟨hg, hb, v, gs, hd, hf⟩ := h
  exact chunks_any w d v gs cs hd hg.toFits
def TextsPost (l : List Txt) (w : World) (e : Ending) (w' : World) : Prop := ∃ v, e = .returned (.tuple #[v, .bool true]) ∧ w'.ownsRow w.heap.size 9 1 v l.length (txts l) ∧ Below w.heap.size w w'
theorem Dq.row {w0 w : World} {d : Nat} {cs : List (List Txt)} (h : Dq w0 w d cs) : Calls Try.prog 20 #[.pointer (some ⟨d, 0, none⟩)] w (TextsPost cs.flatten w) := by
  obtain ⟨hg, hb, v, gs, hd, hf⟩ := h
  exact row_any w _ cs (.inr ⟨d, v, gs, rfl, hd⟩) hg.toFits
/-- What lies in a row of one's own can be read. -/
theorem textsRd {w : World} {base : Nat} {v : Value} {l : List Txt} (h : w.ownsRow base 9 1 v l.length (txts l)) : ∃ a c, v = .slice a l.length c ∧ Rd w a (txts l) := ownsRow_rd h (txts_one l)
theorem intsRd {w : World} {base : Nat} {v : Value} {l : List Nat} (h : w.ownsRow base 3 1 v l.length (intsL l)) : ∃ a c, v = .slice a l.length c ∧ Rd w a (intsL l) := ownsRow_rd h (intsL_one l)
theorem belowN {B : Nat} {w w' : World} {q : Nat} (h : Below B w w') : Below B w (w'.drewN q) := ⟨h.os, h.tape, h.output, h.size, h.block⟩
theorem rdOf {w : World} {base : Nat} {e : TypeId} {size n c m : Nat} {a : Option Addr} {xs : List Value} (h : w.ownsRow base e size (.slice a m c) n xs) (h1 : ∀ u ∈ xs, u.oneCell' = true) : Rd w a xs := by
  obtain ⟨a', c', e, hr⟩ := ownsRow_rd h h1
  cases e; exact hr
theorem Rd.below {w w' : World} {B : Nat} {a : Option Addr} {xs : List Value} (h : Rd w a xs) (hb : Below B w w') (ha : ∀ x, a = some x → x.block < B) : Rd w' a xs := fun j u hj => by
  obtain ⟨h1, x, hx, hc⟩ := h j u hj
  exact ⟨h1, x, hx, (hb.cell (p := x.add j) (by rw [Addr.add_block]; exact ha x hx)).trans hc⟩
end Go.Proofs.Ytefoieloakfhfaa

/- The law's wakes. -/
namespace Go.Proofs.Ytefoieloakfhfaa
open Go.RowKit Pantry

/-- True is answered, and whatever lay lies as it lay. -/
def OkPost (w : World) (e : Ending) (w' : World) : Prop := e = .returned (.bool true) ∧ Below w.heap.size w w'
theorem wk1 : pushC false [98] [] = [[[98]]] := rfl
theorem wk2 : pushC true [97] [[[98]]] = [[[97], [98]]] := by decide
theorem wk3 : insC 2 [99] [[[97], [98]]] = [[[97], [98], [99]]] := by decide
theorem wk4 : removeC (popAt false [[[97], [98], [99]]]) [[[97], [98], [99]]] = [[[97], [98]]] := by decide

set_option maxHeartbeats 4000000 in
set_option maxRecDepth 100000 in
theorem wakes_any (w : World) : Calls Try.prog 9 #[] w (OkPost w) := by
  have HN := Lib.hid (Dq.new w)
  go_enter Try.func9, Try.ntmps9
  go_wp2_with (first
    | (go_at_call 10; refine HN.out.mono ?_; rintro e w1 ⟨rfl, hd0, -⟩
       have HP1 := Lib.hid (hd0.push false (s := [98]) (by decide) (by decide))
       clear hd0)
    | (go_at_call 11; refine HP1.out.mono ?_; clear HP1; rintro e w2 ⟨rfl, hd1, -⟩
       rw [wk1] at hd1
       have HP2 := Lib.hid (hd1.push true (s := [97]) (by decide) (by decide))
       clear hd1)
    | (go_at_call 11; refine HP2.out.mono ?_; clear HP2; rintro e w3 ⟨rfl, hd2, -⟩
       rw [wk2] at hd2
       have HI := Lib.hid (hd2.ins (i := 2) (by decide) (s := [99]) (by decide) (by decide))
       clear hd2)
    | (go_at_call 15; refine HI.out.mono ?_; rintro e w4 ⟨rfl, hd3, -⟩
       rw [wk3] at hd3
       have HL := Lib.hid hd3.len
       have HR := Lib.hid hd3.row
       have HD3 := Lib.hid hd3
       clear hd3)
    | (go_at_call 16; refine HL.out.mono ?_; rintro e w5 ⟨rfl, rfl⟩
       rw [show ((total [[[97], [98], [99]]] : Nat) : Int) = 3 from rfl])
    | (go_at_call 20; refine HR.out.mono ?_; rintro e w6 ⟨v6, rfl, hown6, hb6⟩
       have hd6 := HD3.out.quiet (Chg.of_below hb6)
       have HP := Lib.hid (hd6.pop false (x := [99]) (by decide))
       rw [show ([[[97], [98], [99]]] : List (List Txt)).flatten = [[97], [98], [99]] from rfl] at hown6
       clear hb6 hd6)
    | (go_at_call 12; refine HP.out.mono ?_; clear HP; rintro e w7 ⟨rfl, hd7, hk7⟩
       have hown7 := ownsRow_keeps hown6 hk7 (by unfold ndT dqT; decide)
       obtain ⟨a7, c7, rfl, -⟩ := textsRd hown7
       rw [wk4] at hd7
       clear hown6 hk7)
    | (go_at_call 21; refine (same_any _ _ 3 3 _ _ [[97], [98], [99]] [[97], [98], [99]] _ rfl rfl (by decide) (rdOf (hown7.alloc _) (txts_one _)) (Rd.new _ _ _ (0, 0) (by decide))).mono ?_; rintro e w8 ⟨rfl, q8, rfl⟩
       have hd8 := hd7.quiet (((Chg.refl _ w7).alloc (.cells #[.string ⟨#[97]⟩, .string ⟨#[98]⟩, .string ⟨#[99]⟩] 9)).drewN (q := q8))
       have HC := Lib.hid hd8.chunks
       have HB := Lib.hid hd8.below
       rw [decide_eq_true rfl]
       clear hd8 hown7 hd7)
    | (go_at_call 13; refine HC.out.mono ?_; clear HC; rintro e w9 ⟨v9, rfl, hown9, hb9⟩
       rw [show sizesL [[[97], [98]]] = [2] from rfl] at hown9
       obtain ⟨a9, c9, rfl, -⟩ := intsRd hown9
       have HB9 := Lib.hid (HB.out.trans (hb9.mono HB.out.size))
       clear hb9)
    | (go_at_call 25; refine (ints_any _ _ 1 1 _ _ [2] [2] _ rfl rfl (by decide) (rdOf (hown9.alloc _) (intsL_one _)) (Rd.new _ _ _ (0, 0) (by decide))).mono ?_; rintro e w10 ⟨rfl, q10, rfl⟩
       rw [decide_eq_true rfl]))
  go_ret
  exact ⟨rfl, belowN (HB9.out.alloc HB9.out.size _)⟩
end Go.Proofs.Ytefoieloakfhfaa

/- Two deques in which the same texts lie: plain laws; two deques within a law. -/
namespace Pantry
open Go Go.RowKit
/-- The texts, or those that were put in ahead of one another. -/
def rv (a : Bool) (l : List Txt) : List Txt := if a then l.reverse else l
theorem rv_push (a : Bool) (l : List Txt) (s : Txt) : (if a then s :: rv a l else rv a l ++ [s]) = rv a (l ++ [s]) := by cases a <;> simp [rv]
theorem rv_length (a : Bool) (l : List Txt) : (rv a l).length = l.length := by cases a <;> simp [rv]
theorem dropAt_zero {α : Type} (x : α) (l : List α) : dropAt (x :: l) 0 = l := by simp [dropAt]
theorem dropAt_last {α : Type} (l : List α) (x : α) : dropAt (l ++ [x]) l.length = l := by simp [dropAt]
end Pantry
namespace Go.Proofs.Ytefoieloakfhfaa
open Go.RowKit Pantry

theorem pop_head {a : Bool} {cs : List (List Txt)} {x : Txt} {m : List Txt} (h : cs.flatten = rv a (x :: m)) :
    cs.flatten[popAt (!a) cs]? = some x ∧ (removeC (popAt (!a) cs) cs).flatten = rv a m := by
  have ht : total cs = m.length + 1 := by rw [← flatten_length, h, rv_length]; rfl
  cases a with
  | false =>
    have hp : popAt (!false) cs = 0 := rfl
    rw [hp, removeC_row (by omega), h]
    simp only [rv]
    exact ⟨rfl, dropAt_zero _ _⟩
  | true =>
    have hp : popAt (!true) cs = m.reverse.length := by
      show total cs - 1 = _
      rw [ht, List.length_reverse]; rfl
    have hr : rv true (x :: m) = m.reverse ++ [x] := by simp [rv]
    rw [hp, removeC_row (by rw [List.length_reverse]; omega), h, hr]
    refine ⟨by simp, ?_⟩
    rw [dropAt_last]; rfl
theorem pop_last {a : Bool} {cs : List (List Txt)} {x : Txt} {m : List Txt} (h : cs.flatten = rv a (m ++ [x])) :
    cs.flatten[popAt a cs]? = some x ∧ (removeC (popAt a cs) cs).flatten = rv a m := by
  have ht : total cs = m.length + 1 := by rw [← flatten_length, h, rv_length]; simp
  cases a with
  | true =>
    have hp : popAt true cs = 0 := rfl
    have hr : rv true (m ++ [x]) = x :: m.reverse := by simp [rv]
    rw [hp, removeC_row (by omega), h, hr]
    exact ⟨rfl, dropAt_zero _ _⟩
  | false =>
    have hp : popAt false cs = m.length := by
      show total cs - 1 = _
      rw [ht]; rfl
    have hr : rv false (m ++ [x]) = m ++ [x] := rfl
    rw [hp, removeC_row (by omega), h, hr]
    refine ⟨by simp, ?_⟩
    rw [dropAt_last]; rfl

/-- Two deques made since w0, apart from one another. -/
def Dq2 (w0 w : World) (d : Nat) (cs : List (List Txt)) (e : Nat) (ks : List (List Txt)) : Prop :=
  DGood cs ∧ DGood ks ∧ Below w0.heap.size w0 w ∧ ∃ v gs v2 gs2, DeqAt w d v gs cs ∧ DeqAt w e v2 gs2 ks ∧ (∀ j, Foot d v gs j → w0.heap.size ≤ j) ∧ (∀ j, Foot e v2 gs2 j → w0.heap.size ≤ j) ∧ ∀ j, Foot d v gs j → ¬ Foot e v2 gs2 j
theorem Dq2.swap {w0 w : World} {d e : Nat} {cs ks : List (List Txt)} (h : Dq2 w0 w d cs e ks) : Dq2 w0 w e ks d cs := by
  obtain ⟨h1, h2, hb, v, gs, v2, gs2, hd, he, f1, f2, f3⟩ := h
  exact ⟨h2, h1, hb, v2, gs2, v, gs, he, hd, f2, f1, fun j a b => f3 j b a⟩
theorem Dq2.fst {w0 w : World} {d e : Nat} {cs ks : List (List Txt)} (h : Dq2 w0 w d cs e ks) : Dq w0 w d cs := by
  obtain ⟨h1, h2, hb, v, gs, v2, gs2, hd, he, f1, f2, f3⟩ := h
  exact ⟨h1, hb, v, gs, hd, f1⟩
theorem Dq2.snd {w0 w : World} {d e : Nat} {cs ks : List (List Txt)} (h : Dq2 w0 w d cs e ks) : Dq w0 w e ks := h.swap.fst
theorem Dq2.quiet {w0 w w' : World} {d e : Nat} {cs ks : List (List Txt)} (h : Dq2 w0 w d cs e ks) (hc : Chg (fun _ => False) w w') : Dq2 w0 w' d cs e ks := by
  obtain ⟨h1, h2, hb, v, gs, v2, gs2, hd, he, f1, f2, f3⟩ := h
  exact ⟨h1, h2, hb.trans (hc.below hb.size fun _ e => e.elim), v, gs, v2, gs2, hd.chg hc fun _ _ e => e, he.chg hc fun _ _ e => e, f1, f2, f3⟩
theorem Dq2.own {w0 w w' : World} {d e : Nat} {cs ks : List (List Txt)} (h : Dq2 w0 w d cs e ks) (hk : KeepsT dqT w w') (hb : Below w0.heap.size w w') : Dq2 w0 w' d cs e ks := by
  obtain ⟨h1, h2, hb0, v, gs, v2, gs2, hd, he, f1, f2, f3⟩ := h
  exact ⟨h1, h2, hb0.trans hb, v, gs, v2, gs2, hd.keepsT hk, he.keepsT hk, f1, f2, f3⟩
theorem Dq2.new {w0 w : World} {d : Nat} {cs : List (List Txt)} (h : Dq w0 w d cs) : Calls Try.prog 10 #[] w fun e w' => e = .returned (.pointer (some ⟨w.heap.size, 0, none⟩)) ∧ Dq2 w0 w' d cs w.heap.size [] ∧ Chg (fun _ => False) w w' := by
  refine (new_any w).mono ?_
  rintro e w' ⟨rfl, rfl⟩
  have hc : Chg (fun _ => False) w (w.alloc (.cells #[.slice none 0 0, .int .i64 0, .int .i64 0] 62)) := (Chg.refl _ _).alloc _
  obtain ⟨h1, hb, v, gs, hd, hf⟩ := h
  refine ⟨rfl, ⟨h1, DGood.nil, hb.trans (hc.below hb.size fun _ e => e.elim), v, gs, _, _, hd.chg hc fun _ _ e => e, new_deq w, hf, ?_, ?_⟩, hc⟩
  · rintro j (rfl | h | h)
    · exact hb.size
    · simp at h
    · cases h
  · rintro j hj (rfl | h | h)
    · exact absurd (hd.lt _ hj) (Nat.lt_irrefl _)
    · simp at h
    · cases h
def Dq2Post (w0 : World) (d : Nat) (cs : List (List Txt)) (e : Nat) (ks : List (List Txt)) (r : Value) (w : World) (x : Ending) (w' : World) : Prop := x = .returned r ∧ Dq2 w0 w' d cs e ks ∧ KeepsT ndT w w'
theorem Dq2.step {w0 w : World} {d e : Nat} {cs cs' ks : List (List Txt)} {f : Nat} {args : Array Value} {r : Value} (h : Dq2 w0 w d cs e ks) (hg : DGood cs')
    (hc : ∀ v gs, DeqAt w d v gs cs → Calls Try.prog f args w (DeqPost d v gs cs' r w)) : Calls Try.prog f args w (Dq2Post w0 d cs' e ks r w) := by
  obtain ⟨h1, h2, hb, v, gs, v2, gs2, hd, he, f1, f2, f3⟩ := h
  refine (hc v gs hd).mono ?_
  rintro x w' ⟨v', gs', rfl, hd', hcg, hnew⟩
  refine ⟨rfl, ⟨hg, h2, hb.trans (hcg.below hb.size f1), v', gs', v2, gs2, hd', he.chg hcg fun k hk hk2 => f3 k hk2 hk, fun j hj => ?_, f2, fun j hj hj2 => ?_⟩, hd.keeps hcg⟩
  · rcases hnew j hj with e | e
    · exact f1 j e
    · have := hb.size; omega
  · rcases hnew j hj with e | e
    · exact f3 j e hj2
    · have := he.lt j hj2; omega
theorem Dq2Post.swap {w0 : World} {d e : Nat} {cs ks : List (List Txt)} {f : Nat} {args : Array Value} {r : Value} {w : World} (h : Calls Try.prog f args w (Dq2Post w0 d cs e ks r w)) : Calls Try.prog f args w (Dq2Post w0 e ks d cs r w) :=
  h.mono fun _ _ ⟨a, b, c⟩ => ⟨a, b.swap, c⟩
theorem Dq2.push {w0 w : World} {d e : Nat} {cs ks : List (List Txt)} (h : Dq2 w0 w d cs e ks) (a : Bool) {s : Txt} (hs : s.length ≤ 1048576) (ht : total cs < 1048576) :
    Calls Try.prog 11 #[.pointer (some ⟨d, 0, none⟩), .bool a, .string ⟨s.toArray⟩] w (Dq2Post w0 d (pushC a s cs) e ks (.int .i64 0) w) :=
  h.step (h.1.push a hs ht) fun v gs hd => push_ok w d v gs cs a s hd h.1 hs ht
theorem Dq2.pop {w0 w : World} {d e : Nat} {cs ks : List (List Txt)} (h : Dq2 w0 w d cs e ks) (b : Bool) {x : Txt} (hx : cs.flatten[popAt b cs]? = some x) :
    Calls Try.prog 12 #[.pointer (some ⟨d, 0, none⟩), .bool b] w (Dq2Post w0 d (removeC (popAt b cs) cs) e ks (.tuple #[.string ⟨x.toArray⟩, .bool true]) w) :=
  h.step (h.1.remove (popAt_lt hx)).1 fun v gs hd => pop_some w d v gs cs b x hd h.1.toFits hx
theorem nil_of_flatten {cs : List (List Txt)} (h : DGood cs) (he : cs.flatten = []) : cs = [] := by
  cases cs with
  | nil => rfl
  | cons c l =>
    have h1 := h.some_ c List.mem_cons_self
    simp only [List.flatten_cons, List.append_eq_nil_iff] at he
    exact absurd he.1 h1
theorem Dq.popped {w0 w : World} {d : Nat} {cs : List (List Txt)} (h : Dq w0 w d cs) (he : cs.flatten = []) (b : Bool) :
    Calls Try.prog 12 #[.pointer (some ⟨d, 0, none⟩), .bool b] w fun e w' => e = .returned (.tuple #[.string ⟨#[]⟩, .bool false]) ∧ w = w' := by
  obtain rfl := nil_of_flatten h.good he
  exact h.stay fun v gs hd => pop_empty w d v gs b hd
end Go.Proofs.Ytefoieloakfhfaa

/- The law's filled: so many texts of one byte. -/
namespace Go.Proofs.Ytefoieloakfhfaa
open Go.RowKit Pantry

/-- n texts of one byte, pushed behind. -/
def fillC : Nat → List (List Txt)
  | 0 => []
  | k + 1 => pushC false [UInt8.ofNat k] (fillC k)
theorem total_push (a : Bool) (s : Txt) (cs : List (List Txt)) : total (pushC a s cs) = total cs + 1 := by
  rw [← flatten_length, push_row, ← flatten_length cs]
  cases a <;> simp
theorem fillC_total (k : Nat) : total (fillC k) = k := by
  induction k with
  | zero => rfl
  | succ k ih => rw [fillC, total_push, ih]
theorem byteRd (w : World) {k : Nat} (hk : k < 256) : Rd (w.alloc (.cells #[.int .u8 (k : Int)] 5)) (some ⟨w.heap.size, 0, none⟩) (b8 [UInt8.ofNat k]) := by
  have h := Rd.new w #[.int .u8 (k : Int)] 5 (0, 0) (by simp [Value.oneCell'])
  have e : b8 [UInt8.ofNat k] = [.int .u8 (k : Int)] := by
    simp only [b8, List.map_cons, List.map_nil]
    rw [UInt8.toNat_ofNat_of_lt' (by simpa using hk)]
  rw [e]; exact h
theorem wrap_byte {k : Nat} (hk : k < 256) : IntKind.u8.wrap (k : Int) = (k : Int) := by
  simp only [IntKind.wrap, IntKind.signed, IntKind.bits]
  simp; omega

set_option maxHeartbeats 4000000 in
set_option maxRecDepth 100000 in
theorem filled_any (n : Nat) (hn : n ≤ 200) (w : World) : Calls Try.prog 24 #[.int .i64 n] w fun e w' => ∃ d, e = .returned (.pointer (some ⟨d, 0, none⟩)) ∧ w.heap.size ≤ d ∧ Dq w w' d (fillC n) := by
  have HN := Lib.hid (Dq.new w)
  go_enter Try.func24, Try.ntmps24
  go_wp2_with (go_at_call 10; refine HN.out.mono ?_; rintro e w1 ⟨rfl, hd1, -⟩; have HD1 := Lib.hid hd1; clear hd1)
  go_loopw [7] (fun i wr => ∃ k : Nat, k ≤ n ∧ i = .int .i64 k ∧ Hid (Dq w wr w.heap.size (fillC k))) (fun i _ => n - (intOf i).toNat)
  case atStart => exact ⟨0, Nat.zero_le _, rfl, HD1⟩
  case round =>
    obtain ⟨k, hk, rfl, HD⟩ := hrel
    by_cases hlt : k < n
    · have hw8 := wrap_byte (k := k) (by omega)
      have HRD := Lib.hid (byteRd wr (k := k) (by omega))
      have HP := Lib.hid ((HD.out.quiet ((Chg.refl _ wr).alloc (.cells #[.int .u8 (k : Int)] 5))).push false (s := [UInt8.ofNat k]) (by simp) (by rw [fillC_total]; omega))
      go_wp2_with (first
        | (refine wpl_string_of Try.underlying36 Try.underlying5 Try.underlying9 rfl _ rfl [UInt8.ofNat k] rfl rfl HRD.out ?_)
        | (go_at_call 11; refine HP.out.mono ?_; clear HP; rintro e w2 ⟨rfl, hd2, -⟩; have HD2 := Lib.hid hd2; clear hd2))
      go_roundw
      case rel => exact ⟨k + 1, by omega, by go_num, HD2⟩
      case measure => simp [intOf]; omega
    · obtain rfl : k = n := by omega
      go_wp2_with fail
      go_ret
      exact ⟨_, rfl, Nat.le_refl _, HD.out⟩
theorem costOf_flat (cs : List (List Txt)) : costOf cs = (cs.flatten.map fun x => 16 + x.length).sum := by
  induction cs with
  | nil => rfl
  | cons c cs ih =>
    rw [List.flatten_cons, List.map_append, List.sum_append, ← ih]
    simp [costOf]
theorem total_flat {cs : List (List Txt)} {l : List Txt} (h : cs.flatten = l) : total cs = l.length := by rw [← flatten_length, h]
theorem sum_replicate (k : Nat) : ((List.replicate k ([] : Txt)).map fun x => 16 + x.length).sum = 16 * k := by
  induction k with
  | zero => rfl
  | succ k ih => rw [List.replicate_succ, List.map_cons, List.sum_cons, ih]; simp; omega
theorem Dq.pushFull {w0 w : World} {d : Nat} {cs : List (List Txt)} (h : Dq w0 w d cs) (a : Bool) {s : Txt} (hs : s.length ≤ 1048576) (ht : 1048576 ≤ total cs) :
    Calls Try.prog 11 #[.pointer (some ⟨d, 0, none⟩), .bool a, .string ⟨s.toArray⟩] w fun e w' => e = .returned (.int .i64 4) ∧ w = w' :=
  h.stay fun v gs hd => push_full w d v gs cs a s hd hs ht
theorem Dq.insFull {w0 w : World} {d : Nat} {cs : List (List Txt)} (h : Dq w0 w d cs) {i : Int} (hi : 0 ≤ i ∧ i ≤ (total cs : Int)) {s : Txt} (hs : s.length ≤ 1048576) (ht : 1048576 ≤ total cs) :
    Calls Try.prog 15 #[.pointer (some ⟨d, 0, none⟩), .int .i64 i, .string ⟨s.toArray⟩] w fun e w' => e = .returned (.int .i64 4) ∧ w = w' :=
  h.stay fun v gs hd => ins_refused w d v gs cs i _ 4 hd hi rfl (refused_full w d v gs cs s hd hs ht)
theorem Dq.insArg {w0 w : World} {d : Nat} {cs : List (List Txt)} (h : Dq w0 w d cs) {i : Int} (hi : i < 0 ∨ (total cs : Int) < i) (s : ByteArray) :
    Calls Try.prog 15 #[.pointer (some ⟨d, 0, none⟩), .int .i64 i, .string s] w fun e w' => e = .returned (.int .i64 3) ∧ w = w' :=
  h.stay fun v gs hd => ins_arg w d v gs cs i s hd hi
theorem total_ins {cs : List (List Txt)} (hg : DGood cs) {i : Nat} (hi : i ≤ total cs) (s : Txt) : total (insC i s cs) = total cs + 1 := by
  rw [← flatten_length, insC_row hg hi, ← flatten_length cs]
  have : i ≤ cs.flatten.length := by rw [flatten_length]; exact hi
  simp only [putIn, List.length_append, List.length_take, List.length_drop, List.length_singleton]
  omega
theorem get_zero {cs : List (List Txt)} {k : Nat} (h : cs.flatten = List.replicate k []) (hk : 0 < k) : cs.flatten[popAt true cs]? = some [] := by
  obtain ⟨m, rfl⟩ : ∃ m, k = m + 1 := ⟨k - 1, by omega⟩
  rw [h]; rfl
theorem zeros_b8 (n : Nat) : List.replicate n (Value.int .u8 0) = b8 (List.replicate n 0) := by simp [b8]
theorem u8I : (Try.prog.info? 5).map (fun i => (i.zero, i.size, i.bytes)) = some (some (.int .u8 0), 1, 1) := by kernel_rfl
theorem Dq.at_ {w0 w : World} {d : Nat} {cs : List (List Txt)} (h : Dq w0 w d cs) {i : Nat} {x : Txt} (hx : cs.flatten[i]? = some x) :
    Calls Try.prog 23 #[.pointer (some ⟨d, 0, none⟩), .int .i64 i] w fun e w' => e = .returned (.tuple #[.string ⟨x.toArray⟩, .bool true]) ∧ w = w' :=
  h.stay fun v gs hd => at_in w d v gs cs i x hd h.good.toFits hx
theorem Dq2.of {w0 w w' : World} {d e : Nat} {cs ks : List (List Txt)} (h : Dq w0 w d cs) (k : Dq w w' e ks) : Dq2 w0 w' d cs e ks := by
  obtain ⟨h1, hb, v, gs, hd, hf⟩ := h
  obtain ⟨k1, kb, v2, gs2, kd, kf⟩ := k
  have hc : Chg (fun _ => False) w w' := Chg.of_below kb
  exact ⟨h1, k1, hb.trans (kb.mono hb.size), v, gs, v2, gs2, hd.chg hc fun _ _ e => e, kd, hf, fun j hj => Nat.le_trans hb.size (kf j hj), fun j a b => absurd (hd.lt j a) (by have := kf j b; omega)⟩
theorem Dq2.ins {w0 w : World} {d e : Nat} {cs ks : List (List Txt)} (h : Dq2 w0 w d cs e ks) {i : Nat} (hi : i ≤ total cs) {s : Txt} (hs : s.length ≤ 1048576) (ht : total cs < 1048576) :
    Calls Try.prog 15 #[.pointer (some ⟨d, 0, none⟩), .int .i64 i, .string ⟨s.toArray⟩] w (Dq2Post w0 d (insC i s cs) e ks (.int .i64 0) w) :=
  h.step (h.1.ins hi hs ht) fun v gs hd => ins_ok w d v gs cs i s hd h.1 hi hs ht
end Go.Proofs.Ytefoieloakfhfaa

/- The law's even and put. -/
namespace Pantry
open Go Go.RowKit
theorem step_append_gen {P : Program} {t e : TypeId} {size bytes : Nat} {z : Value} (E : ElemT P t e size bytes z) {w : World} {ops : Array Oper} {o : Oper} {a : Act} {K : Act → World → Prop} {Q : Exit → Act → World → Prop} {E' : Prop} (hgd : o.guard = none) (s x : Operand)
    (ho : o.op = .call { callee := .builtin .append, args := #[s, x], argTypes := #[t, t] })
    (base : Nat) {v : Value} {n : Nat} {xs : List Value} (hs : a.eval s = v) (hown : w.ownsRow base e size v n xs)
    {ad : Option Addr} {m c : Nat} {news : List Value} (hx : a.eval x = .slice ad m c) (hnil : ad = none → c = 0) (hl : news.length = m * size) (hrd : Rd w ad news)
    (hbytes : (n + m) * bytes ≤ 140737488355328) (hbase : base ≤ w.heap.size)
    (h : ∀ v' w', w'.ownsRow base e size v' (n + m) (xs ++ news) → w.grownBy w' v.ownBlock → K (a.put o.dst v') w') :
    if Region.wanted o (yielded ops a.tmps) = true then Oper.wp P o a w K Q else E' := by
  have hw : Region.wanted o (yielded ops a.tmps) = true := by simp [Region.wanted, hgd]
  rw [if_pos hw]
  obtain ⟨v', w', hr, h1, h2, _, _⟩ := run_append (P := P) E o.type base hown hnil hl hrd hbytes hbase
  exact Lib.wp_append_run w s x t t ho v (.slice ad m c) hs hx _ _ hr (h v' w' h1 h2)
/-- An append of one element behind other new blocks. -/
theorem wpl_append1_at {P : Program} {t e : TypeId} {size bytes : Nat} {z : Value} (E : ElemT P t e size bytes z) {w : World} {ops : Array Oper} {rest : List Oper} {o : Oper} {a : Act} {Q : Exit → Act → World → Prop} (hgd : o.guard = none) (s x : Operand)
    (ho : o.op = .call { callee := .builtin .append, args := #[s, x], argTypes := #[t, t] })
    (base : Nat) {v : Value} {n : Nat} {xs : List Value} (hs : a.eval s = v) (hown : w.ownsRow base e size v n xs)
    (us : Array Value) {H : Nat} (hx : a.eval x = .slice (some ⟨H, 0, none⟩) 1 1) (hH : w.heap.size = H) (hl : us.size = size) (h1 : ∀ u ∈ us, u.oneCell' = true)
    (hbytes : (n + 1) * bytes ≤ 140737488355328) (hbase : base ≤ w.heap.size)
    (h : ∀ v' w', w'.ownsRow base e size v' (n + 1) (xs ++ us.toList) → w.grownBy w' v.ownBlock → Below base w w' → (∀ k, v'.ownBlock = some k → v.ownBlock = some k ∨ w.heap.size ≤ k) → wpList P ops Q rest (a.put o.dst v') w') : wpList P ops Q (o :: rest) a (w.alloc (.cells us e)) := by
  subst hH
  exact wpl_append1 E hgd s x ho base hs hown us hx hl h1 hbytes hbase h
theorem own_empty (w : World) (base : Nat) (e : TypeId) (hb : base ≤ w.heap.size) : (w.alloc (.cells #[] e)).ownsRow base e 1 (.slice (some ⟨w.heap.size, 0, none⟩) 0 0) 0 [] :=
  World.ownsRow_made w #[] 0 hb (Nat.zero_le _) rfl
end Pantry
namespace Go.Proofs.Ytefoieloakfhfaa
open Go.RowKit Pantry

theorem strT : ElemT Try.prog 22 9 1 16 (.string ⟨#[]⟩) := ⟨Try.underlying22, strI, rfl, by decide, by decide⟩
/-- A row of texts of one's own. -/
def TRowPost (l : List Txt) (w : World) (e : Ending) (w' : World) : Prop := ∃ v, e = .returned v ∧ w'.ownsRow w.heap.size 9 1 v l.length (txts l) ∧ Below w.heap.size w w'
theorem txts_app (l m : List Txt) : txts (l ++ m) = txts l ++ txts m := by simp [txts]
theorem txts_take (l : List Txt) (n : Nat) : txts (l.take n) = (txts l).take n := by simp [txts, List.map_take]
theorem txts_drop (l : List Txt) (n : Nat) : txts (l.drop n) = (txts l).drop n := by simp [txts, List.map_drop]
theorem Rd.part {w : World} {y : Addr} {xs : List Value} (h : Rd w (some y) xs) (i m : Nat) : Rd w (some (y.add i)) ((xs.drop i).take m) := fun j u hj => by
  rw [List.getElem?_take] at hj
  by_cases hm : j < m
  · rw [if_pos hm, List.getElem?_drop] at hj
    obtain ⟨h1, x, hx, hc⟩ := h (i + j) u hj
    cases hx
    refine ⟨h1, _, rfl, ?_⟩
    have e : (y.add i).add j = y.add (i + j) := Addr.add_add y i j
    rw [e]; exact hc
  · rw [if_neg hm] at hj; cases hj
theorem Rd.keep {w w' : World} {a : Option Addr} {xs : List Value} (h : Rd w a xs) (hb : Below w.heap.size w w') : Rd w' a xs := fun j u hj => by
  obtain ⟨h1, x, hx, hc⟩ := h j u hj
  exact ⟨h1, x, hx, (hb.cell (World.block_lt_of_cell? w _ hc)).trans hc⟩
theorem own_cast {w : World} {base : Nat} {e : TypeId} {size : Nat} {v : Value} {n m : Nat} {xs ys : List Value} (h : w.ownsRow base e size v n xs) (hn : n = m) (hx : xs = ys) : w.ownsRow base e size v m ys := by
  subst hn hx; exact h
set_option maxHeartbeats 4000000 in
set_option maxRecDepth 100000 in
theorem lput_any (w : World) (a : Option Addr) (n c i : Nat) (l : List Txt) (s : Txt) (hl : l.length = n) (hn : n ≤ 1048576) (hr : Rd w a (txts l)) (hnil : a = none → c = 0) (hnc : n ≤ c) (hi : i ≤ n) :
    Calls Try.prog 17 #[.slice a n c, .int .i64 i, .string ⟨s.toArray⟩] w (TRowPost (putIn l i s) w) := by
  have HL := Lib.hid hl
  clear hl
  have HO0 := Lib.hid (World.ownsRow_nil w w.heap.size 9 1)
  cases a with
  | none =>
    obtain rfl : c = 0 := hnil rfl
    obtain rfl : n = 0 := by omega
    obtain rfl : i = 0 := by omega
    obtain rfl : l = [] := List.eq_nil_of_length_eq_zero HL.out
    clear hnil hnc hi hr hn
    go_enter Try.func17, Try.ntmps17
    go_wp2_with (first
      | (at_builtin; refine wpl_append strT rfl _ _ rfl w.heap.size rfl HO0.out (news := []) rfl (fun _ => rfl) rfl (Rd.nil _ _) (by decide) (Nat.le_refl _) ?_; clear HO0; intro v2 w2 hown2 hg2 hv2
         have HO2 := Lib.hid hown2
         have hb2 := ((Below.refl w.heap.size w).grown hg2 (Nat.le_refl _) (fun k hk => by cases hk))
         have HB2 := Lib.hid hb2
         have hsz2 := hb2.size
         clear hown2 hg2 hb2 hv2)
      | (at_builtin; refine wpl_append1 strT rfl _ _ rfl w.heap.size rfl HO2.out #[.string ⟨s.toArray⟩] rfl rfl (by simp [Value.oneCell']) (by omega) hsz2 ?_; clear HO2; intro v3 w3 hown3 hg3 hb3 hv3
         have HO3 := Lib.hid hown3
         have HB3 := Lib.hid (HB2.out.trans hb3)
         have hsz3 := hb3.size
         clear hown3 hg3 hb3 hv3)
      | (at_builtin; refine wpl_append strT rfl _ _ rfl w.heap.size rfl HO3.out (news := []) rfl (fun _ => rfl) rfl (Rd.nil _ _) (by decide) (by omega) ?_; intro v4 w4 hown4 hg4 hv4
         have HB4 := Lib.hid (HB3.out.grown hg4 HB3.out.size fun k hk => (HO3.out.lt k hk).1)
         clear HO3
         have HO4 := Lib.hid hown4
         have HG4 := Lib.hid hg4
         clear hown4 hg4 hv4))
    go_ret
    exact ⟨v4, rfl, HO4.out, HB4.out⟩
  | some y =>
    clear hnil
    by_cases hci : i = c
    · obtain rfl : i = n := by omega
      subst hci
      go_enter Try.func17, Try.ntmps17
      go_wp2_with (first
        | (at_builtin; refine wpl_append strT rfl _ _ rfl w.heap.size rfl HO0.out (news := txts (l.take i)) rfl (fun h => by cases h) (by rw [txts_length, List.length_take, HL.out]; omega) (by have := Rd.part hr 0 i; rw [List.drop_zero, ← txts_take] at this; exact this) (by omega) (Nat.le_refl _) ?_; clear HO0; intro v2 w2 hown2 hg2 hv2
           have HO2 := Lib.hid hown2
           have hb2 := ((Below.refl w.heap.size w).grown hg2 (Nat.le_refl _) (fun k hk => by cases hk))
           have HB2 := Lib.hid hb2
           have hsz2 := hb2.size
           clear hown2 hg2 hb2 hv2)
        | (at_builtin; refine wpl_append1 strT rfl _ _ rfl w.heap.size rfl HO2.out #[.string ⟨s.toArray⟩] rfl rfl (by simp [Value.oneCell']) (by omega) hsz2 ?_; clear HO2; intro v3 w3 hown3 hg3 hb3 hv3
           have HO3 := Lib.hid hown3
           have HB3 := Lib.hid (HB2.out.trans hb3)
           have hsz3 := hb3.size
           clear hown3 hg3 hb3 hv3)
        | (at_builtin; refine wpl_append strT rfl _ _ rfl w.heap.size rfl HO3.out (news := txts (l.drop i)) rfl (fun h => by cases h) (by rw [txts_length, List.length_drop, HL.out]; omega) (by rw [List.drop_eq_nil_of_le (by rw [HL.out]; exact Nat.le_refl _)]; exact Rd.nil _ _) (by omega) (by omega) ?_; intro v4 w4 hown4 hg4 hv4
           have HB4 := Lib.hid (HB3.out.grown hg4 HB3.out.size fun k hk => (HO3.out.lt k hk).1)
           clear HO3
           have HO4 := Lib.hid hown4
           have HG4 := Lib.hid hg4
           clear hown4 hg4 hv4))
      go_ret
      refine ⟨v4, rfl, ?_, HB4.out⟩
      exact own_cast HO4.out (by simp [putIn, HL.out]; try omega) (by simp [putIn, txts, txt])
    · have hci2 : ¬ c = i := fun e => hci e.symm
      go_enter Try.func17, Try.ntmps17
      go_wp2_with (first
        | (at_builtin; refine wpl_append strT rfl _ _ rfl w.heap.size rfl HO0.out (news := txts (l.take i)) rfl (fun h => by cases h) (by rw [txts_length, List.length_take, HL.out]; omega) (by have := Rd.part hr 0 i; rw [List.drop_zero, ← txts_take] at this; exact this) (by omega) (Nat.le_refl _) ?_; clear HO0; intro v2 w2 hown2 hg2 hv2
           have HO2 := Lib.hid hown2
           have hb2 := ((Below.refl w.heap.size w).grown hg2 (Nat.le_refl _) (fun k hk => by cases hk))
           have HB2 := Lib.hid hb2
           have hsz2 := hb2.size
           clear hown2 hg2 hb2 hv2)
        | (at_builtin; refine wpl_append1 strT rfl _ _ rfl w.heap.size rfl HO2.out #[.string ⟨s.toArray⟩] rfl rfl (by simp [Value.oneCell']) (by omega) hsz2 ?_; clear HO2; intro v3 w3 hown3 hg3 hb3 hv3
           have HO3 := Lib.hid hown3
           have HB3 := Lib.hid (HB2.out.trans hb3)
           have hsz3 := hb3.size
           clear hown3 hg3 hb3 hv3)
        | (at_builtin; refine wpl_append strT rfl _ _ rfl w.heap.size rfl HO3.out (news := txts (l.drop i)) rfl (fun h => by cases h) (by rw [txts_length, List.length_drop, HL.out]; omega) ((by have := Rd.part hr i (n - i); rw [← txts_drop, List.take_of_length_le (by rw [txts_length, List.length_drop, HL.out]; exact Nat.le_refl _)] at this; exact Rd.keep this HB3.out)) (by omega) (by omega) ?_; intro v4 w4 hown4 hg4 hv4
           have HB4 := Lib.hid (HB3.out.grown hg4 HB3.out.size fun k hk => (HO3.out.lt k hk).1)
           clear HO3
           have HO4 := Lib.hid hown4
           have HG4 := Lib.hid hg4
           clear hown4 hg4 hv4))
      go_ret
      refine ⟨v4, rfl, ?_, HB4.out⟩
      exact own_cast HO4.out (by simp [putIn, HL.out]; try omega) (by simp [putIn, txts, txt])

theorem sizes_sum (cs : List (List Txt)) : (sizesL cs).sum = total cs := rfl
def costs (l : List Txt) : Nat := (l.map fun x => 16 + x.length).sum
theorem costs_snoc (l : List Txt) (x : Txt) : costs (l ++ [x]) = costs l + (16 + x.length) := by simp [costs]
theorem costs_take {l : List Txt} {k : Nat} {x : Txt} (h : l[k]? = some x) : costs (l.take (k + 1)) = costs (l.take k) + (16 + x.length) := by
  rw [List.take_add_one, h, Option.toList_some, costs_snoc]
theorem costs_mono (l : List Txt) (k : Nat) : costs (l.take k) ≤ costs l := by
  have h : costs l = costs (l.take k) + costs (l.drop k) := by
    unfold costs
    rw [← List.sum_append, ← List.map_append, List.take_append_drop]
  omega
theorem total_take_le (cs : List (List Txt)) (k : Nat) : total (cs.take k) ≤ total cs := by
  have h : total cs = total (cs.take k) + total (cs.drop k) := by
    unfold total
    rw [← List.sum_append, ← List.map_append, List.take_append_drop]
  omega
theorem total_step {cs : List (List Txt)} {k : Nat} {c : List Txt} (h : cs[k]? = some c) : total (cs.take (k + 1)) = total (cs.take k) + c.length := by
  rw [List.take_add_one, h]; simp [total]

set_option maxHeartbeats 4000000 in
set_option maxRecDepth 100000 in
theorem even_any {w0 w : World} {d : Nat} {cs : List (List Txt)} (h : Dq w0 w d cs) (a : Option Addr) (n c : Nat) (l : List Txt) (hcs : cs.flatten = l) (hl : l.length = n) (hr : Rd w a (txts l)) :
    Calls Try.prog 22 #[.pointer (some ⟨d, 0, none⟩), .slice a n c] w (OkPost w) := by
  have hn : n ≤ 1048576 := by rw [← hl, ← hcs, flatten_length]; exact h.good.total
  have hrl := h.good.rows
  have hcl := costOf_le h.good.text
  have hct := costOf_flat cs
  have htot := h.good.total
  rw [hcs] at hct
  have htn : total cs = n := by rw [← flatten_length, hcs, hl]
  have HH := Lib.hid h
  have HC := Lib.hid h.chunks
  have HL := Lib.hid hl
  have HR := Lib.hid hr
  obtain ⟨m, hm⟩ : ∃ m, cs.length = m := ⟨_, rfl⟩
  obtain ⟨C, hC⟩ : ∃ C, costOf cs = C := ⟨_, rfl⟩
  rw [hm] at hrl
  rw [hC] at hcl hct
  have hCb : C ≤ 1048576 * 1048592 := Nat.le_trans hcl (Nat.mul_le_mul_right _ htot)
  have HM := Lib.hid hm
  have HCO := Lib.hid hC
  have HCT := Lib.hid (show costs l = C from hct.symm)
  have HTN := Lib.hid htn
  clear h hl hr hcs hm hC hcl hct htot htn
  go_enter Try.func22, Try.ntmps22
  go_wp2_with (go_at_call 13; refine HC.out.mono ?_; clear HC; rintro e w1 ⟨v1, rfl, hown1, hb1⟩
               obtain ⟨a1, c1, rfl, hrd1⟩ := intsRd hown1
               rw [show (sizesL cs).length = m by simp [sizesL, HM.out]]
               have HR1 := Lib.hid hrd1
               have HB1 := Lib.hid hb1
               clear hown1 hb1 hrd1)
  go_loopw [5, 14] (fun s i wr => ∃ k t : Nat, k ≤ m ∧ s = .int .i64 t ∧ i = .int .i64 k ∧ Hid (t = total (cs.take k)) ∧ wr = w1) (fun _ i _ => m - (intOf i).toNat)
  case atStart => exact ⟨0, 0, Nat.zero_le _, rfl, rfl, Lib.hid rfl, rfl⟩
  case round =>
    obtain ⟨k, t, hk, rfl, rfl, HT, rfl⟩ := hrel
    have htk : t ≤ 1048576 := by have := total_take_le cs k; rw [HTN.out] at this; rw [HT.out]; omega
    by_cases hlt : k < m
    · obtain ⟨ck, hck⟩ : ∃ c, cs[k]? = some c := ⟨_, List.getElem?_eq_getElem (by rw [HM.out]; exact hlt)⟩
      obtain ⟨y, hy, hcell⟩ := ints_cell HR1.out (show (sizesL cs)[k]? = some ck.length by simp [sizesL, hck])
      subst hy
      have h32 := HH.out.good.chunk ck (List.mem_of_getElem? hck)
      have h1 : ck.length ≠ 0 := fun e => HH.out.good.some_ ck (List.mem_of_getElem? hck) (List.eq_nil_of_length_eq_zero e)
      have HST := Lib.hid (total_step hck)
      obtain ⟨q, hq⟩ : ∃ q, ck.length = q := ⟨_, rfl⟩
      rw [hq] at hcell h32 h1 HST
      have hq1 : ¬ (q : Int) < 1 := by omega
      have hq2 : ¬ (32 : Int) < (q : Int) := by omega
      clear hck hq
      go_wp2_with fail
      go_roundw
      case rel => exact ⟨k + 1, t + q, by omega, by go_num, by go_num, Lib.hid (by have h1 := HT.out; have h2 := HST.out; omega), trivial⟩
      case measure => simp [intOf]; omega
    · obtain rfl : k = m := by omega
      have HS := Lib.hid (show t = n by rw [HT.out, ← HTN.out, List.take_of_length_le (by rw [HM.out]; exact Nat.le_refl _)])
      go_wp2_with fail
      have HLEN := Lib.hid (HH.out.quiet (Chg.of_below HB1.out)).len
      have HCST := Lib.hid (HH.out.quiet (Chg.of_below HB1.out)).cost
      rw [HTN.out] at HLEN
      rw [HCO.out] at HCST
      rw [HS.out]
      go_loopw [8, 30] (fun s i wx => ∃ j u : Nat, j ≤ n ∧ s = .int .i64 u ∧ i = .int .i64 j ∧ Hid (u = costs (l.take j)) ∧ wx = wr) (fun _ i _ => n - (intOf i).toNat)
      case atStart => exact ⟨0, 0, Nat.zero_le _, rfl, rfl, Lib.hid rfl, rfl⟩
      case round =>
        obtain ⟨j, u, hj, rfl, rfl, HU, rfl⟩ := hrel
        by_cases hlt2 : j < n
        · obtain ⟨x, hxj⟩ : ∃ x, l[j]? = some x := ⟨_, List.getElem?_eq_getElem (by rw [HL.out]; exact hlt2)⟩
          obtain ⟨y, hy, hcell⟩ := txts_cell (Rd.keep HR.out HB1.out) hxj
          subst hy
          unfold txt at hcell
          have hsz := mk_size x
          have hst := costs_take hxj
          have hmo := costs_mono l (j + 1)
          rw [HCT.out, hst, ← HU.out] at hmo
          have HST := Lib.hid hst
          clear hxj hst
          have hb : u + (16 + x.length) ≤ 1048576 * 1048592 := Nat.le_trans hmo hCb
          go_wp2_with fail
          go_roundw
          case rel => exact ⟨j + 1, u + (16 + x.length), by omega, by go_num, by go_num, Lib.hid (by have h1 := HU.out; have h2 := HST.out; omega), trivial⟩
          case measure => simp [intOf]; omega
        · obtain rfl : j = n := by omega
          have HS2 := Lib.hid (show u = C by rw [HU.out, List.take_of_length_le (by rw [HL.out]; exact Nat.le_refl _)]; exact HCT.out)
          rw [HS2.out]
          go_wp2_with (first
            | (go_at_call 16; refine HLEN.out.mono ?_; clear HLEN; rintro e w3 ⟨rfl, rfl⟩)
            | (go_at_call 14; refine HCST.out.mono ?_; clear HCST; rintro e w4 ⟨rfl, rfl⟩))
          go_ret
          exact ⟨rfl, HB1.out⟩
end Go.Proofs.Ytefoieloakfhfaa
