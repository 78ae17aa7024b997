/- EvictRoom: the row of Stored is read; one of it. -/
import Derived.Test.YtelbmphmihjgfaaGreatZEwSto
set_option linter.unusedVariables false
namespace Go.Proofs.YtelbmphmihjgfaaGreat.DEnt
open Go.RowKit Pantry Go.Maps Go.Sort

theorem sto_get : ∀ {l : List KE} {i : Nat} {e : KE}, l[i]? = some e → ∀ {j : Nat} {u : Value}, (stoC e)[j]? = some u → (l.flatMap stoC)[i * 7 + j]? = some u
  | [], i, e, h, _, _, _ => by simp at h
  | x :: l, 0, e, h, j, u, hu => by
    obtain rfl : x = e := by simpa using h
    have hj : j < 7 := by have := (List.getElem?_eq_some_iff.1 hu).1; rwa [stoC_len] at this
    rw [List.flatMap_cons, Nat.zero_mul, Nat.zero_add, List.getElem?_append_left (by rw [stoC_len]; exact hj)]
    exact hu
  | x :: l, i + 1, e, h, j, u, hu => by
    have h' : l[i]? = some e := by simpa using h
    rw [List.flatMap_cons, List.getElem?_append_right (by rw [stoC_len]; omega), stoC_len, show (i + 1) * 7 + j - 7 = i * 7 + j by omega]
    exact sto_get h' hu
theorem stoAt_row {w : World} {base : Nat} {v : Value} {l : List KE} (h : w.ownsRow base 64 7 v l.length (l.flatMap stoC)) (hl : l.length ≤ 8388608) : ∃ a c, v = .slice a l.length c ∧ StoAt w a l.length l := by
  obtain ⟨a, c, hv, hr⟩ := ownsRow_rd h (stosC_one l)
  refine ⟨a, c, hv, rfl, hl, fun i e he => ?_⟩
  obtain ⟨-, x, hx, -⟩ := hr _ _ (sto_get he (j := 0) rfl)
  refine ⟨x, hx, fun j u hu => ?_⟩
  obtain ⟨-, y, hy, hc⟩ := hr _ _ (sto_get he hu)
  rw [hx] at hy
  obtain rfl : x = y := by simpa using hy
  rw [Addr.add_add]
  exact hc
theorem StoAt.one {w : World} {p : Addr} {n : Nat} {l : List KE} (h : StoAt w (some p) n l) {i : Nat} {e : KE} (he : l[i]? = some e) : StoAt w (some (p.add (i * 7))) 1 [e] := by
  refine ⟨rfl, by omega, fun j x hx => ?_⟩
  obtain ⟨rfl, rfl⟩ : j = 0 ∧ x = e := by
    cases j with
    | zero => exact ⟨rfl, by simpa using hx.symm⟩
    | succ j => simp at hx
  obtain ⟨q, hq, hc⟩ := h.cells i x he
  obtain rfl : p = q := by simpa using hq
  exact ⟨_, rfl, fun j u hu => by rw [Nat.zero_mul, Addr.add_add]; simpa [Addr.add_add] using hc j u hu⟩
/-- Where a key stands. -/
theorem find_at : ∀ (l : List KE) (key : List UInt8), ∃ at_, at_ ≤ l.length ∧ (∀ i e, i < at_ → l[i]? = some e → e.key ≠ key) ∧ (∀ e, l[at_]? = some e → e.key = key)
  | [], key => ⟨0, Nat.le_refl _, fun i e h => (by omega), fun e h => (by simp at h)⟩
  | x :: l, key => by
    by_cases hx : x.key = key
    · exact ⟨0, Nat.zero_le _, fun i e h => (by omega), fun e h => by
        obtain rfl : x = e := by simpa using h
        exact hx⟩
    · obtain ⟨a, h1, h2, h3⟩ := find_at l key
      refine ⟨a + 1, by rw [List.length_cons]; omega, fun i e hi he => ?_, fun e he => h3 e (by simpa using he)⟩
      cases i with
      | zero =>
        obtain rfl : x = e := by simpa using he
        exact hx
      | succ i => exact h2 i e (by omega) (by simpa using he)
/-- It is as it was where others are written. -/
theorem StoAt.chg {S : Nat → Prop} {w w' : World} {a : Option Addr} {n : Nat} {l : List KE} (h : StoAt w a n l) (hc : Chg S w w') (hS : ∀ p, a = some p → ¬ S p.block) : StoAt w' a n l :=
  ⟨h.len, h.few, fun i e he => by
    obtain ⟨p, hp, hcl⟩ := h.cells i e he
    refine ⟨p, hp, fun j u hu => ?_⟩
    have h0 := hcl j u hu
    have hb : ((p.add (i * 7)).add j).block = p.block := by rw [Addr.add_block, Addr.add_block]
    have hlt := World.block_lt_of_cell? _ _ h0
    rw [hb] at hlt
    have hk := hc.block p.block hlt (hS p hp)
    unfold World.cell? at h0 ⊢
    rw [hb] at h0 ⊢
    rw [hk]
    exact h0⟩
theorem Sp.Rows.unique {X : Sp} {l l2 : List KE} (h : X.Rows l) (h2 : X.Rows l2) : l = l2 :=
  rising_unique (R := fun x y : KE => cmpB x.key y.key < 0) (fun a => cmpB_irr _) (fun h1 h2 => cmpB_lt_trans h1 h2) (h.1.trans h2.1.symm) h.2 h2.2
end Go.Proofs.YtelbmphmihjgfaaGreat.DEnt
