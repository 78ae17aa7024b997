/- Set of ranks. -/
import Derived.Test.YtipehdbpbmnonaaGreatZRkSet2
set_option linter.unusedVariables false
set_option linter.unusedSimpArgs false
namespace Pantry
open Go
def insR (l : List Mb) (p : Mb) (j : Nat) : List Mb := l.take j ++ [p] ++ l.drop j
def cutR (l : List Mb) (i : Nat) : List Mb := l.take i ++ l.drop (i + 1)
/-- What Set makes of the members, whether the member is new, and the code. -/
inductive SetC (l : List Mb) (key : List UInt8) (x : Nat) : List Mb → Bool → Int → Prop
  | long (h : 1048576 < key.length) : SetC l key x l false 2
  | nan (h : key.length ≤ 1048576) (hx : fnan x) : SetC l key x l false 20
  | full (h : key.length ≤ 1048576) (hx : ¬ fnan x) (hk : ∀ p ∈ l, p.1 ≠ key) (hf : 1048576 ≤ l.length) : SetC l key x l false 4
  | same (h : key.length ≤ 1048576) (hx : ¬ fnan x) (y : Nat) (hy : (key, y) ∈ l) (he : fkey y = fkey x) : SetC l key x l false 0
  | moved (h : key.length ≤ 1048576) (hx : ¬ fnan x) (i y j : Nat) (hy : l[i]? = some (key, y)) (he : fkey y ≠ fkey x) (hj : AtPlace (cutR l i) (key, x) j) : SetC l key x (insR (cutR l i) (key, x) j) false 0
  | fresh (h : key.length ≤ 1048576) (hx : ¬ fnan x) (hk : ∀ p ∈ l, p.1 ≠ key) (hf : l.length < 1048576) (j : Nat) (hj : AtPlace l (key, x) j) : SetC l key x (insR l (key, x) j) true 0
end Pantry
namespace Go.Proofs.YtipehdbpbmnonaaGreat
open Go.RowKit Pantry

theorem isNaN_any (w : World) (x : Nat) : Calls Tryz.prog 91 #[.float .f64 x] w fun e w' => e = .returned (.bool (decide (fnan x))) ∧ w = w' := by
  have h := f_self (x := x)
  go_enter Tryz.func91, Tryz.ntmps91
  go_wp2_with fail
  go_ret
  exact ⟨by first | rfl | (rw [← h]; rfl) | simp [h], rfl⟩
theorem ROp.join {w w1 w2 : World} {r seed d : Nat} {D D1 : Dc} {v v1 : Value} {l' : List Mb} (h : ROp r seed d D1 v1 l' w1 w2) (f : ∀ k, RFoot r d D1 v1 k → RFoot r d D v k ∨ w.heap.size ≤ k) (g : Chg (RFoot r d D v) w w1) : ROp r seed d D v l' w w2 := by
  obtain ⟨⟨D2, v2, h1, h2⟩, h3⟩ := h
  refine ⟨⟨D2, v2, h1, fun k hk => ?_⟩, g.trans h3 fun j hj hf => ?_⟩
  · rcases h2 k hk with hh | hh
    · exact f k hh
    · exact .inr (Nat.le_trans g.size hh)
  · rcases f j hf with hh | hh
    · exact hh
    · omega
theorem key_uniq {l : List Mb} (h : (l.map (·.1)).Nodup) {k : List UInt8} {x y : Nat} (hx : (k, x) ∈ l) (hy : (k, y) ∈ l) : x = y := by
  induction l with
  | nil => cases hx
  | cons p l ih =>
    rw [List.map_cons, List.nodup_cons] at h
    rcases List.mem_cons.1 hx with hg | hx
    · subst hg
      rcases List.mem_cons.1 hy with hh | hy
      · cases hh; rfl
      · exact (h.1 (List.mem_map.2 ⟨(k, y), hy, rfl⟩)).elim
    · rcases List.mem_cons.1 hy with hh | hy
      · subst hh
        exact (h.1 (List.mem_map.2 ⟨(k, x), by assumption, rfl⟩)).elim
      · exact ih h.2 hx hy
theorem cut_keys {l : List Mb} (h : (l.map (·.1)).Nodup) {i : Nat} {k : List UInt8} {x : Nat} (hi : l[i]? = some (k, x)) : ∀ p ∈ cutR l i, p.1 ≠ k := by
  intro p hp hk
  have hf : mbKv p ∈ (cutR l i).map mbKv := List.mem_map.2 ⟨p, hp, rfl⟩
  rw [cutR, ← cut_filter hi h] at hf
  have := (List.mem_filter.1 hf).2
  simp [mbKv, hk] at this
theorem RDelPost.there {r seed d : Nat} {D : Dc} {v : Value} {l : List Mb} {key : List UInt8} {w : World} {y : Nat} (hn : (l.map (·.1)).Nodup) (hy : (key, y) ∈ l) {e : Ending} {w' : World} (h : RDelPost r seed d D v l key w e w') :
    e = .returned (.bool true) ∧ ∃ i, l[i]? = some (key, y) ∧ ROp r seed d D v (cutR l i) w w' := by
  rcases h with ⟨i, x, hi, he, ho⟩ | ⟨hk, -⟩
  · obtain rfl := key_uniq hn (List.mem_of_getElem? hi) hy
    exact ⟨he, i, hi, ho⟩
  · exact absurd rfl (hk _ hy)
def RSetPost (r seed d : Nat) (D : Dc) (v : Value) (l : List Mb) (key : List UInt8) (x : Nat) (w : World) (e : Ending) (w' : World) : Prop :=
  ∃ l' new code, SetC l key x l' new code ∧ e = .returned (.tuple #[.bool new, .int .i64 code]) ∧ ROp r seed d D v l' w w'
set_option maxHeartbeats 8000000 in
set_option maxRecDepth 100000 in
theorem rkSet_any (w : World) (r seed d : Nat) (D : Dc) (v : Value) (l : List Mb) (key : List UInt8) (x : Nat) (h : RkAt w r seed d D v l) (hs : key.length ≤ 140737488351232) :
    Calls Tryz.prog 48 #[.pointer (some ⟨r, 0, none⟩), .string ⟨key.toArray⟩, .float .f64 x] w (RSetPost r seed d D v l key x w) := by
  obtain ⟨⟨h0, h1, h2, h3⟩, -⟩ := four h.head
  have HH := Lib.hid h
  have HG := Lib.hid (get_any w d D key h.dict h.wf hs)
  have HP : ∀ e w', GetPost d D key w e w' → ((∃ y, (key, y) ∈ l ∧ e = .returned (.tuple #[.float .f64 y, .bool true])) ∨ ((∀ p ∈ l, p.1 ≠ key) ∧ e = .returned (.tuple #[.float .f64 0, .bool false]))) ∧ ∃ D1, RkAt w' r seed d D1 v l ∧ (∀ k, RFoot r d D1 v k → RFoot r d D v k) ∧ Chg (RFoot r d D v) w w' := by
    rintro e w' ⟨h1, D', hw', hI⟩
    obtain ⟨g1, g2, g3⟩ := HH.out.dicts hI hw'
    refine ⟨?_, D', g1, g3, g2⟩
    rcases h1 with ⟨x, hx, rfl, rfl⟩ | ⟨hx, rfl⟩
    · obtain ⟨y, hy, hv⟩ := mem_kv HH.out.kv hx
      exact .inl ⟨y, hy, by rw [hv]⟩
    · refine .inr ⟨fun p hp hk => ?_, rfl⟩
      obtain ⟨e, he, h1, -⟩ := kv_mem HH.out.kv hp
      exact hx e he (h1.trans hk)
  have HPP := Lib.hid HP
  have hnan := fun w => Lib.hid (isNaN_any w x)
  clear h h0 h2 h3 HP
  go_enter Tryz.func48, Tryz.ntmps48
  go_wp2_with fail
  refine HG.out.mono ?_
  intro e w1 hp
  obtain ⟨hres, D1, h1', f1, g1⟩ := HPP.out e w1 hp
  have H1 := Lib.hid h1'
  have HFG := Lib.hid (show _ ∧ _ from ⟨f1, g1⟩)
  have HSAME : Hid (ROp r seed d D v l w w1) := Lib.hid ⟨⟨D1, v, h1', fun k hk => .inl (f1 k hk)⟩, g1⟩
  obtain ⟨⟨-, -, q2, -⟩, -⟩ := four h1'.head
  obtain ⟨va, vc, rfl, -⟩ := h1'.slice
  obtain ⟨n, hn⟩ : ∃ n, l.length = n := ⟨_, rfl⟩
  have HN := Lib.hid hn
  rw [hn] at q2
  clear hp h1' f1 g1 HPP HG hn h1
  rcases hres with ⟨y, hy, rfl⟩ | ⟨hk, rfl⟩
  · have HY := Lib.hid hy
    have hny := HH.out.good.num _ hy
    have HNY := Lib.hid hny
    clear hy hny
    by_cases hlong : 1048576 < key.length
    · have HLG := Lib.hid hlong
      go_wp2_with fail
      go_ret2
      exact ⟨l, false, 2, .long HLG.out, rfl, HSAME.out⟩
    · have HLG := Lib.hid (Nat.le_of_not_lt hlong)
      by_cases hx : fnan x
      · have HX := Lib.hid hx
        have hd : decide (fnan x) = true := decide_eq_true hx
        clear hx
        go_wp2_with (go_at_call 91; refine (hnan _).out.mono ?_; rintro e w2 ⟨rfl, rfl⟩)
        go_ret2
        exact ⟨l, false, 20, .nan HLG.out HX.out, rfl, HSAME.out⟩
      · have HX := Lib.hid hx
        have hd : decide (fnan x) = false := decide_eq_false hx
        have he := f_eq HNY.out hx
        clear hx
        by_cases heq : fkey y = fkey x
        · have HE := Lib.hid heq
          rw [decide_eq_true heq] at he
          clear heq
          go_wp2_with (go_at_call 91; refine (hnan _).out.mono ?_; rintro e w2 ⟨rfl, rfl⟩)
          go_ret2
          exact ⟨l, false, 0, .same HLG.out HX.out y HY.out HE.out, rfl, HSAME.out⟩
        · have HE := Lib.hid heq
          rw [decide_eq_false heq] at he
          clear heq
          have HD := Lib.hid ((rkDel_any w1 r seed d D1 _ l key H1.out hs).mono fun e w' hp => hp.there H1.out.keys HY.out)
          go_upto_region 14 with (first
            | (go_at_call 91; refine (hnan _).out.mono ?_; rintro e w2 ⟨rfl, rfl⟩)
            | (go_at_call 79; refine HD.out.mono ?_; rintro e w2 ⟨rfl, i, hi, hop⟩
               have HI := Lib.hid hi
               have HOP := Lib.hid hop
               clear hi hop HD))
          obtain ⟨⟨D2, v2, h2, f2⟩, g2⟩ := HOP.out
          have HF2 : Hid (∀ k, RFoot r d D2 v2 k → RFoot r d D (.slice va l.length vc) k ∨ w.heap.size ≤ k) := Lib.hid fun k hk => (f2 k hk).imp (HFG.out.1 k) fun hh => Nat.le_trans HFG.out.2.size hh
          have HG2 : Hid (Chg (RFoot r d D (.slice va l.length vc)) w w2) := Lib.hid (HFG.out.2.trans g2 fun k _ hk => HFG.out.1 k hk)
          exact rset_tail w2 r seed d D2 v2 (cutR l i) key x true h2 (cut_keys H1.out.keys HI.out) HLG.out HX.out (by have := (List.getElem?_eq_some_iff.1 HI.out).1; have := H1.out.good.few; simp [cutR]; omega) _
            (Lib.hid fun j w' hat hop2 => ⟨insR (cutR l i) (key, x) j, false, 0, .moved HLG.out HX.out i y j HI.out HE.out hat, rfl, ROp.join hop2 HF2.out HG2.out⟩) _ _ _ _ _ _ _ _ _ _ _ _ _ _ _ _ _ _ _ _ _ _ _ _ _ _ _ _ _ _ _ _ _ _ _ _ _ _ _ _ _ _ _ _ _ _ _ _ _ _ _ _ _ _ _ _ _ _ _ _ _ _ _ _ _ _ _ _ _ _ _ _ _ _ _ _ _ _ _ _ _ _ _ rfl _ rfl _ (by assumption)
  · have HK := Lib.hid hk
    clear hk
    by_cases hlong : 1048576 < key.length
    · have HLG := Lib.hid hlong
      go_wp2_with fail
      go_ret2
      exact ⟨l, false, 2, .long HLG.out, rfl, HSAME.out⟩
    · have HLG := Lib.hid (Nat.le_of_not_lt hlong)
      by_cases hx : fnan x
      · have HX := Lib.hid hx
        have hd : decide (fnan x) = true := decide_eq_true hx
        clear hx
        go_wp2_with (go_at_call 91; refine (hnan _).out.mono ?_; rintro e w2 ⟨rfl, rfl⟩)
        go_ret2
        exact ⟨l, false, 20, .nan HLG.out HX.out, rfl, HSAME.out⟩
      · have HX := Lib.hid hx
        have hd : decide (fnan x) = false := decide_eq_false hx
        clear hx
        by_cases hfull : 1048576 ≤ n
        · have HF := Lib.hid hfull
          have hb : decide ((1048576 : Int) ≤ (n : Int)) = true := by simp; omega
          clear hfull
          go_wp2_with (go_at_call 91; refine (hnan _).out.mono ?_; rintro e w2 ⟨rfl, rfl⟩)
          go_ret2
          exact ⟨l, false, 4, .full HLG.out HX.out HK.out (by rw [HN.out]; exact HF.out), rfl, HSAME.out⟩
        · have HF := Lib.hid (Nat.lt_of_not_le hfull)
          have hb : decide ((1048576 : Int) ≤ (n : Int)) = false := by simp; omega
          clear hfull
          go_upto_region 14 with (first
            | (go_at_call 91; refine (hnan _).out.mono ?_; rintro e w2 ⟨rfl, rfl⟩))
          exact rset_tail w1 r seed d D1 _ l key x false H1.out HK.out HLG.out HX.out (by rw [HN.out]; exact HF.out) _
            (Lib.hid fun j w' hat hop2 => ⟨insR l (key, x) j, true, 0, .fresh HLG.out HX.out HK.out (by rw [HN.out]; exact HF.out) j hat, rfl, ROp.join hop2 (fun k hk => .inl (HFG.out.1 k hk)) HFG.out.2⟩) _ _ _ _ _ _ _ _ _ _ _ _ _ _ _ _ _ _ _ _ _ _ _ _ _ _ _ _ _ _ _ _ _ _ _ _ _ _ _ _ _ _ _ _ _ _ _ _ _ _ _ _ _ _ _ _ _ _ _ _ _ _ _ _ _ _ _ _ _ _ _ _ _ _ _ _ _ _ _ _ _ _ _ rfl _ rfl _ (by assumption)
end Go.Proofs.YtipehdbpbmnonaaGreat
