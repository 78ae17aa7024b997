/- EvictRoom: what is asked of each key behind, and of each step (plain). -/
import Derived.Test.YtelbmphmihjgfaaGreatZEwRoomE
import Derived.Test.YtelbmphmihjgfaaGreatZEwStoAt
set_option linter.unusedVariables false
namespace Go.Proofs.YtelbmphmihjgfaaGreat.DEnt
open Go.RowKit Pantry Go.Maps Go.Sort

theorem rows_key {X : Sp} {l : List KE} (h : X.Rows l) {i j : Nat} {e e' : KE} (hi : l[i]? = some e) (hj : l[j]? = some e') (hk : e.key = e'.key) : i = j := by
  obtain ⟨h1, e1⟩ := List.getElem?_eq_some_iff.1 hi
  obtain ⟨h2, e2⟩ := List.getElem?_eq_some_iff.1 hj
  have hp := List.pairwise_iff_getElem.1 h.2
  rcases Nat.lt_trichotomy i j with hlt | rfl | hlt
  · have := hp i j h1 h2 hlt
    rw [e1, e2, hk] at this
    exact absurd this (cmpB_irr _)
  · rfl
  · have := hp j i h2 h1 hlt
    rw [e1, e2, hk] at this
    exact absurd this (cmpB_irr _)
theorem rows_find {X : Sp} {l : List KE} (h : X.Rows l) {e : KE} (he : e ∈ X.ents) : ∃ at_, at_ < l.length ∧ l[at_]? = some e ∧ ∀ (i : Nat) (e' : KE), i < at_ → l[i]? = some e' → e'.key ≠ e.key := by
  obtain ⟨at_, hat⟩ := List.mem_iff_getElem?.1 (h.1.mem_iff.2 he)
  refine ⟨at_, (List.getElem?_eq_some_iff.1 hat).1, hat, fun i e' hi he' hk => ?_⟩
  have := rows_key h he' hat hk
  omega
variable {X Y : Sp} {n : Nat} {l lb : List KE}
theorem room_behind (hl : X.Rows l) (hlb : Y.Rows lb) (h : Rm X n Y) {i : Nat} {e : KE} (he : lb[i]? = some e) : ∃ at_, at_ < l.length ∧ l[at_]? = some e ∧ ∀ (i' : Nat) (e' : KE), i' < at_ → l[i']? = some e' → e'.key ≠ e.key :=
  rows_find hl (h.sub e (hlb.1.mem_iff.1 (List.mem_of_getElem? he)))
theorem room_step (hl : X.Rows l) (hlb : Y.Rows lb) (h : Rm X n Y) (hp : X.policy = 0 → n = 0) {i : Nat} {s : Int × List UInt8} (hs : Y.steps[i]? = some s) : ∃ at_ e, at_ < l.length ∧ l[at_]? = some e ∧ e.key = s.2 ∧
    (∀ (i' : Nat) (e' : KE), i' < at_ → l[i']? = some e' → e'.key ≠ s.2) ∧ (∀ (i' : Nat) (e' : KE), lb[i']? = some e' → e'.key ≠ s.2) ∧
    ((s.1 = 1 ∧ e.past X.now = true) ∨ (s.1 = 2 ∧ e.past X.now = false ∧ X.policy ≠ 0 ∧ (X.policy = 1 ∨ e.dl ≠ 0))) := by
  have hm := List.mem_of_getElem? hs
  obtain ⟨e, he, hk, hc⟩ := h.st s hm
  obtain ⟨at_, h1, h2, h3⟩ := rows_find hl he
  refine ⟨at_, e, h1, h2, hk, fun i' e' a b => by rw [← hk]; exact h3 i' e' a b, fun i' e' he' => h.gone s hm e' (hlb.1.mem_iff.1 (List.mem_of_getElem? he')), ?_⟩
  rcases hc with hc | ⟨c1, c2, c3⟩
  · exact .inl hc
  · refine .inr ⟨c1, c2, fun h0 => ?_, c3⟩
    have hn := hp h0
    have hf := h.count
    rw [hn, List.length_eq_zero_iff] at hf
    have : s ∈ Y.steps.filter fun s => s.1 == 2 := List.mem_filter.2 ⟨hm, by simp [c1]⟩
    rw [hf] at this
    cases this
/-- What is left that could go. -/
theorem room_left (hlb : Y.Rows lb) (hk : SpGood Y) (hg : ∀ k, Y.rank k = none) {i : Nat} {e : KE} (he : lb[i]? = some e) : Y.policy ≠ 1 ∧ e.dl = 0 := by
  have hm := hlb.1.mem_iff.1 (List.mem_of_getElem? he)
  have hf : Y.find e.key = some e := find_of_mem hk hm
  have := hg e.key
  unfold Sp.rank at this
  rw [hf] at this
  simp only at this
  by_cases h1 : Y.policy = 1
  · rw [if_pos h1] at this; cases this
  · rw [if_neg h1] at this
    by_cases h2 : e.dl = 0
    · exact ⟨h1, h2⟩
    · rw [if_neg h2] at this; cases this
/-- How many of the first i steps are evictions. -/
def evN (l : List (Int × List UInt8)) (i : Nat) : Nat := ((l.take i).filter fun s => s.1 == 2).length
theorem evN_succ {l : List (Int × List UInt8)} {i : Nat} {s : Int × List UInt8} (h : l[i]? = some s) : evN l (i + 1) = evN l i + if s.1 = 2 then 1 else 0 := by
  unfold evN
  obtain ⟨hi, rfl⟩ := List.getElem?_eq_some_iff.1 h
  rw [List.take_succ_eq_append_getElem hi, List.filter_append, List.length_append]
  congr 1
  by_cases h2 : l[i].1 = 2 <;> simp [h2]
theorem evN_all (l : List (Int × List UInt8)) : evN l l.length = (l.filter fun s => s.1 == 2).length := by unfold evN; rw [List.take_length]
theorem evN_le (l : List (Int × List UInt8)) (i : Nat) : evN l i ≤ i := by
  unfold evN
  exact Nat.le_trans (List.length_filter_le _ _) (by rw [List.length_take]; omega)
theorem steps_get : ∀ {l : List (Int × List UInt8)} {i : Nat} {s : Int × List UInt8}, l[i]? = some s → ∀ {j : Nat} {u : Value}, (stC s)[j]? = some u → (stCells l)[i * 2 + j]? = some u
  | [], i, e, h, _, _, _ => by simp at h
  | x :: l, 0, e, h, j, u, hu => by
    obtain rfl : x = e := by simpa using h
    have hj : j < 2 := (List.getElem?_eq_some_iff.1 hu).1
    unfold stCells
    rw [List.flatMap_cons, Nat.zero_mul, Nat.zero_add, List.getElem?_append_left (by exact hj)]
    exact hu
  | x :: l, i + 1, e, h, j, u, hu => by
    have h' : l[i]? = some e := by simpa using h
    have e2 : (stC x).length = 2 := rfl
    unfold stCells
    rw [List.flatMap_cons, List.getElem?_append_right (by rw [e2]; omega), e2, show (i + 1) * 2 + j - 2 = i * 2 + j by omega]
    exact steps_get h' hu
theorem step_cells {w : World} {base m : Nat} {a : Option Addr} {c k : Nat} {l : List (Int × List UInt8)} (h : w.ownsRow base 46 2 (.slice a m c) k (stCells l)) {i : Nat} {s : Int × List UInt8} (hi : l[i]? = some s) :
    ∃ p, a = some p ∧ w.cell? (p.add (i * 2)) = some (.int .i64 s.1) ∧ w.cell? ⟨(p.add (i * 2)).block, (p.add (i * 2)).off + 1, none⟩ = some (.string ⟨s.2.toArray⟩) := by
  obtain ⟨a', c', hv, hr⟩ := ownsRow_rd h (stCells_one l)
  obtain ⟨rfl, -, -⟩ := Value.slice.inj hv
  obtain ⟨-, x, hx, h0⟩ := hr _ _ (steps_get hi (j := 0) rfl)
  obtain ⟨-, y, hy, h1⟩ := hr _ _ (steps_get hi (j := 1) rfl)
  rw [hx] at hy
  obtain rfl : x = y := by simpa using hy
  refine ⟨x, hx, h0, ?_⟩
  have := h1
  rw [← Addr.add_add] at this
  unfold Addr.add at this ⊢
  rwa [if_neg (by decide : ¬ 1 = 0)] at this
theorem row_cap {w : World} {base n m c : Nat} {e : TypeId} {size : Nat} {a : Option Addr} {xs : List Value} (h : w.ownsRow base e size (.slice a n c) m xs) : m ≤ c ∧ c ≤ 9223372036854775807 := by
  rcases h.2 with ⟨hv, rfl⟩ | ⟨g, cap, cur, hv, -, -, h1, h2, -⟩
  · obtain ⟨-, -, rfl⟩ := Value.slice.inj hv
    exact ⟨Nat.le_refl _, by decide⟩
  · obtain ⟨-, -, rfl⟩ := Value.slice.inj hv
    exact ⟨h1, h2⟩
theorem belowDN (w : World) (q : Nat) : Below w.heap.size w (w.drewN q) := ⟨rfl, rfl, rfl, Nat.le_refl _, fun _ _ => rfl⟩
/-- The cells of one stored key. -/
def Stored7 (w : World) (p : Addr) (e : KE) : Prop :=
  w.cell? p = some (.string ⟨e.key.toArray⟩) ∧ w.cell? ⟨p.block, p.off + 1, none⟩ = some (.int .i64 1) ∧ w.cell? ⟨p.block, p.off + 2, none⟩ = some (.string ⟨(zeros e.cost).toArray⟩) ∧ w.cell? ⟨p.block, p.off + 3, none⟩ = some (.slice none 0 0) ∧
  w.cell? ⟨p.block, p.off + 4, none⟩ = some (.slice none 0 0) ∧ w.cell? ⟨p.block, p.off + 5, none⟩ = some (.slice none 0 0) ∧ w.cell? ⟨p.block, p.off + 6, none⟩ = some (.int .i64 e.dl)
theorem StoAt.seven {w : World} {p : Addr} {n : Nat} {l : List KE} (h : StoAt w (some p) n l) {i : Nat} {e : KE} (he : l[i]? = some e) : Stored7 w (p.add (i * 7)) e := by
  obtain ⟨q, hq, hc⟩ := h.cells i e he
  obtain rfl : p = q := by simpa using hq
  have cell_add : ∀ (y : Addr) (m : Nat) (u : Value), w.cell? (y.add (m + 1)) = some u → w.cell? ⟨y.block, y.off + (m + 1), none⟩ = some u := fun y m u h => by unfold Addr.add at h; rwa [if_neg (Nat.succ_ne_zero m)] at h
  exact ⟨hc 0 _ rfl, cell_add _ 0 _ (hc 1 _ rfl), cell_add _ 1 _ (hc 2 _ rfl), cell_add _ 2 _ (hc 3 _ rfl), cell_add _ 3 _ (hc 4 _ rfl), cell_add _ 4 _ (hc 5 _ rfl), cell_add _ 5 _ (hc 6 _ rfl)⟩
theorem lpast_seven (w : World) (e : KE) (now : Nat) (b : Bool) (h : e.past now = b) :
    Calls Tryz.prog 20 #[.agg #[.string ⟨e.key.toArray⟩, .int .i64 1, .string ⟨(zeros e.cost).toArray⟩, .slice none 0 0, .slice none 0 0, .slice none 0 0, .int .i64 e.dl], .int .i64 now] w (PastQ w b) := by
  subst h
  exact lpast_any w e now
end Go.Proofs.YtelbmphmihjgfaaGreat.DEnt
