/- Trim. -/
import Derived.Test.YtefoieloakfhfaaSweep3
import Derived.Lib.MinMax
namespace Pantry
open Go Go.RowKit
theorem Fits.shrink {cs : List (List Txt)} {k : Nat} {c c' : List Txt} (h : Fits cs) (hk : cs[k]? = some c) (hl : c'.length ≤ c.length) (hm : ∀ x ∈ c', x ∈ c) : Fits (cs.set k c') := by
  have hc := List.mem_of_getElem? hk
  refine ⟨?_, ?_, ?_, by rw [List.length_set]; exact h.rows⟩
  · intro x hx
    rcases List.mem_or_eq_of_mem_set hx with hx | rfl
    · exact h.chunk x hx
    · exact Nat.le_trans hl (h.chunk c hc)
  · intro x hx y hy
    rcases List.mem_or_eq_of_mem_set hx with hx | rfl
    · exact h.text x hx y hy
    · exact h.text c hc y (hm y hy)
  · have := total_set (c' := c') hk
    have := h.total
    omega
def cutC (f t a : Nat) (c : List Txt) : List Txt := (c.take (min (t - a) c.length)).drop (min (f - a) c.length)
def trimAt (f t : Nat) : Nat → List (List Txt) → List (List Txt)
  | _, [] => []
  | a, c :: cs => cutC f t a c :: trimAt f t (a + c.length) cs
theorem trimAt_snoc (f t a : Nat) (l : List (List Txt)) (c : List Txt) : trimAt f t a (l ++ [c]) = trimAt f t a l ++ [cutC f t (a + total l) c] := by
  induction l generalizing a with
  | nil => simp [trimAt, total]
  | cons x l ih =>
    have : a + x.length + total l = a + total (x :: l) := by simp [total]; omega
    simp only [List.cons_append, trimAt, ih, this]
def winOf (F T : Int) (n : Nat) : Nat × Nat := if min T (n : Int) ≤ max F 0 then (0, 0) else ((max F 0).toNat, (min T (n : Int)).toNat)
theorem winOf_le (F T : Int) (n : Nat) : (winOf F T n).1 ≤ (winOf F T n).2 ∧ (winOf F T n).2 ≤ n := by
  unfold winOf
  split
  · simp
  · simp only; omega
def trimC (F T : Int) (cs : List (List Txt)) : List (List Txt) := full (trimAt (winOf F T (total cs)).1 (winOf F T (total cs)).2 0 cs)
theorem total_take {cs : List (List Txt)} {k : Nat} {c : List Txt} (h : cs[k]? = some c) : total (cs.take (k + 1)) = total (cs.take k) + c.length := by
  rw [List.take_add_one, h]; simp [total]
theorem total_take_le (cs : List (List Txt)) (k : Nat) : total (cs.take k) ≤ total cs := by
  have h : total (cs.take k ++ cs.drop k) = total cs := by rw [List.take_append_drop]
  have e : ∀ a b : List (List Txt), total (a ++ b) = total a + total b := fun a b => by simp [total]
  rw [e] at h
  omega
end Pantry
namespace Go.Proofs.Ytefoieloakfhfaa
open Go.RowKit Pantry

/-- The deque within the loop: k chunks are cut. -/
structure TrimInv (d : Nat) (v : Value) (gs : List Nat) (cs : List (List Txt)) (f t k : Nat) (w wr : World) (cur : List (List Txt)) : Prop where
  deq : DeqAt wr d v gs cur
  fits : Fits cur
  len : cur.length = cs.length
  done : cur.take k = trimAt f t 0 (cs.take k)
  rest : cur.drop k = cs.drop k
  chg : Chg (Foot d v gs) w wr

theorem TrimInv.step {d : Nat} {v : Value} {gs : List Nat} {cs : List (List Txt)} {f t k : Nat} {w wr w2 : World} {cur : List (List Txt)} (h : TrimInv d v gs cs f t k w wr cur) {c : List Txt} (hk : cs[k]? = some c)
    (hd : DeqAt w2 d v gs (cur.set k (cutC f t (total (cs.take k)) c))) (hc : Chg (Foot d v gs) wr w2) : TrimInv d v gs cs f t (k + 1) w w2 (cur.set k (cutC f t (total (cs.take k)) c)) := by
  have hkl := (List.getElem?_eq_some_iff.1 hk).1
  have hkc : cur[k]? = some c := by
    have e : (cur.drop k)[0]? = (cs.drop k)[0]? := by rw [h.rest]
    simpa [List.getElem?_drop, hk] using e
  refine ⟨hd, h.fits.shrink hkc ?_ ?_, by rw [List.length_set]; exact h.len, ?_, ?_, h.chg.trans hc fun j _ e => e⟩
  · simp [cutC]; omega
  · intro x hx
    exact List.mem_of_mem_take (List.mem_of_mem_drop hx)
  · rw [List.take_add_one, List.getElem?_set_self (by rw [h.len]; exact hkl), List.take_set_of_le (Nat.le_refl _), h.done, List.take_add_one, hk]
    simp only [Option.toList_some]
    rw [trimAt_snoc, Nat.zero_add]
  · rw [List.drop_set_of_lt (by omega)]
    have e : (cur.drop k).drop 1 = (cs.drop k).drop 1 := by rw [h.rest]
    rw [List.drop_drop, List.drop_drop] at e
    exact e
theorem TrimInv.at {d : Nat} {v : Value} {gs : List Nat} {cs : List (List Txt)} {f t k : Nat} {w wr : World} {cur : List (List Txt)} (h : TrimInv d v gs cs f t k w wr cur) {c : List Txt} (hk : cs[k]? = some c) : cur[k]? = some c := by
  have e : (cur.drop k)[0]? = (cs.drop k)[0]? := by rw [h.rest]
  simpa [List.getElem?_drop, hk] using e
/-- The two takes of one round. -/
theorem two_takes {d : Nat} {v : Value} {gs : List Nat} {cur : List (List Txt)} {wr : World} {k lo hi : Nat} {c : List Txt} (hd : DeqAt wr d v gs cur) (hf : Fits cur) (hk : cur[k]? = some c) (h1 : lo ≤ hi) (h2 : hi ≤ c.length) :
    Calls Try.prog 38 #[.pointer (some ⟨d, 0, none⟩), .int .i64 k, .int .i64 hi, .int .i64 c.length] wr (StayPost d v gs (cur.set k (c.take hi)) (.tuple #[]) wr) ∧
    ∀ w1, DeqAt w1 d v gs (cur.set k (c.take hi)) → Chg (Foot d v gs) wr w1 → Calls Try.prog 38 #[.pointer (some ⟨d, 0, none⟩), .int .i64 k, .int .i64 0, .int .i64 lo] w1 fun e w2 => e = .returned (.tuple #[]) ∧ DeqAt w2 d v gs (cur.set k ((c.take hi).drop lo)) ∧ Chg (Foot d v gs) wr w2 := by
  have hkl := (List.getElem?_eq_some_iff.1 hk).1
  refine ⟨?_, fun w1 hd1 hc1 => ?_⟩
  · have h := take_any wr d v gs cur k hi c.length c hd hf hk h2 (Nat.le_refl _)
    rw [List.drop_length, List.append_nil] at h
    exact h
  · have h := take_any w1 d v gs (cur.set k (c.take hi)) k 0 lo (c.take hi) hd1 (hf.shrink hk (by simp; omega) fun x hx => List.mem_of_mem_take hx) (List.getElem?_set_self hkl) (Nat.zero_le _) (by simp; omega)
    rw [List.set_set, List.take_zero, List.nil_append] at h
    refine Calls.mono h ?_
    rintro e w2 ⟨rfl, a, b⟩
    exact ⟨rfl, a, hc1.trans b fun j _ e => e⟩
end Go.Proofs.Ytefoieloakfhfaa
