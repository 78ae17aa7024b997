/- Where a place lies in a deque: find, At, Len. -/
import Derived.Test.YtefoieloakfhfaaDeq
namespace Pantry
open Go Go.RowKit
/-- The chunk that holds a place, and the place in it; of the end: the last chunk's end. -/
def findC : List (List Txt) → Nat → Nat × Nat
  | [], i => (0, i)
  | c :: rest, i => if rest.isEmpty = false ∧ c.length ≤ i then ((findC rest (i - c.length)).1 + 1, (findC rest (i - c.length)).2) else (0, i)
theorem drop_at {cs : List (List Txt)} {k : Nat} {c : List Txt} (h : cs[k]? = some c) : cs.drop k = c :: cs.drop (k + 1) := by
  obtain ⟨hk, rfl⟩ := List.getElem?_eq_some_iff.1 h
  exact List.drop_eq_getElem_cons hk
theorem findC_go {cs : List (List Txt)} {k j : Nat} {c : List Txt} (h : cs[k]? = some c) (hk : k + 1 < cs.length) (hj : c.length ≤ j) :
    findC (cs.drop k) j = ((findC (cs.drop (k + 1)) (j - c.length)).1 + 1, (findC (cs.drop (k + 1)) (j - c.length)).2) := by
  rw [drop_at h, findC, if_pos]
  refine ⟨?_, hj⟩
  cases hd : cs.drop (k + 1) with
  | nil => have := congrArg List.length hd; simp at this; omega
  | cons a l => rfl
theorem findC_stop {cs : List (List Txt)} {k j : Nat} {c : List Txt} (h : cs[k]? = some c) (hk : ¬ k + 1 < cs.length ∨ j < c.length) : findC (cs.drop k) j = (0, j) := by
  rw [drop_at h, findC, if_neg]
  rintro ⟨h1, h2⟩
  rcases hk with hk | hk
  · rw [List.drop_eq_nil_of_le (by omega)] at h1; cases h1
  · omega
/-- What find tells. -/
theorem findC_spec {cs : List (List Txt)} (hne : cs ≠ []) {i : Nat} (hi : i ≤ total cs) : ∃ c, cs[(findC cs i).1]? = some c ∧ (findC cs i).2 ≤ c.length ∧ total (cs.take (findC cs i).1) + (findC cs i).2 = i ∧
    (i < total cs → (findC cs i).2 < c.length) := by
  induction cs generalizing i with
  | nil => exact absurd rfl hne
  | cons c rest ih =>
    rw [findC]
    by_cases h : rest.isEmpty = false ∧ c.length ≤ i
    · rw [if_pos h]
      have hr : rest ≠ [] := by rintro rfl; cases h.1
      have ht : total (c :: rest) = c.length + total rest := by simp [total]
      obtain ⟨c', h1, h2, h3, h4⟩ := ih hr (i := i - c.length) (by omega)
      refine ⟨c', by simpa using h1, h2, ?_, fun hlt => h4 (by omega)⟩
      have : total ((c :: rest).take ((findC rest (i - c.length)).1 + 1)) = c.length + total (rest.take (findC rest (i - c.length)).1) := by simp [total]
      simp only
      rw [this]
      omega
    · rw [if_neg h]
      have ht : total (c :: rest) = c.length + total rest := by simp [total]
      refine ⟨c, rfl, ?_, by simp [total], ?_⟩
      · by_cases hr : rest = []
        · subst hr; simp [total] at hi; simpa using hi
        · have : rest.isEmpty = false := by cases rest <;> simp_all
          simp only
          exact Nat.le_of_lt (Nat.lt_of_not_le fun hh => h ⟨this, hh⟩)
      · intro hlt
        by_cases hr : rest = []
        · subst hr; simp [total] at hlt; simpa using hlt
        · have : rest.isEmpty = false := by cases rest <;> simp_all
          simp only
          exact Nat.lt_of_not_le fun hh => h ⟨this, hh⟩
end Pantry
namespace Go.Proofs.Ytefoieloakfhfaa
open Go.RowKit Pantry

theorem slice_block {a b n m c e : Nat} (h : Value.slice (some ⟨a, 0, none⟩) n c = .slice (some ⟨b, 0, none⟩) m e) : b = a := by cases h; rfl

set_option maxHeartbeats 2000000 in
set_option maxRecDepth 100000 in
theorem find_any (w : World) (d : Nat) (v : Value) (gs : List Nat) (cs : List (List Txt)) (i : Nat) (h : DeqAt w d v gs cs) (hf : Fits cs) (hne : cs ≠ []) (hi : i ≤ 1048577) :
    Calls Try.prog 36 #[.pointer (some ⟨d, 0, none⟩), .int .i64 i] w fun e w' => e = .returned (.tuple #[.int .i64 ((findC cs i).1 : Nat), .int .i64 ((findC cs i).2 : Nat)]) ∧ w = w' := by
  have hl0 : 0 < cs.length := List.length_pos_iff.2 hne
  have HD := Lib.hid h
  have HF := Lib.hid hf
  obtain ⟨m, hm⟩ : ∃ m, cs.length = m := ⟨_, rfl⟩
  have hrl := hf.rows
  rw [hm] at hl0 hrl
  have HM := Lib.hid hm
  obtain ⟨⟨d0, d1, d2⟩, -⟩ := three h.head
  obtain ⟨c0, hc0⟩ : ∃ c, cs[0]? = some c := ⟨_, List.getElem?_eq_getElem (by omega)⟩
  obtain ⟨-, sb, cap, -, hv, -, hnc, -, -⟩ := h.at hc0
  rw [hm] at hv hnc
  have HV := Lib.hid hv
  rw [hv] at d0
  clear h hf hm hv d1 d2 hc0
  go_enter Try.func36, Try.ntmps36
  go_wp2_with fail
  go_loop [1, 6] (fun a b => ∃ j k : Nat, k < m ∧ j ≤ i ∧ a = .int .i64 j ∧ b = .int .i64 k ∧ Hid (findC cs i = (k + (findC (cs.drop k) j).1, (findC (cs.drop k) j).2))) (fun _ b => m - (intOf b).toNat)
  case atStart => exact ⟨i, 0, hl0, Nat.le_refl _, rfl, rfl, Lib.hid (by simp)⟩
  case round =>
    obtain ⟨j, k, hk, hji, rfl, rfl, HR⟩ := hrel
    obtain ⟨c, hc⟩ : ∃ c, cs[k]? = some c := ⟨_, List.getElem?_eq_getElem (by rw [HM.out]; exact hk)⟩
    obtain ⟨g, sb', cap', -, hv', -, -, hcell, hch⟩ := HD.out.at hc
    have hcl := HF.out.chunk c (List.mem_of_getElem? hc)
    have hn := hch.n hcl
    rw [HV.out] at hv'
    obtain rfl := slice_block hv'
    clear hv'
    obtain ⟨n, hn2⟩ : ∃ n, c.length = n := ⟨_, rfl⟩
    rw [hn2] at hn hcl
    have HC := Lib.hid hc
    have HN := Lib.hid hn2
    clear hc hn2 hch
    by_cases hk1 : k + 1 < m
    · by_cases hj : n ≤ j
      · have HR2 := Lib.hid (show findC cs i = (k + 1 + (findC (cs.drop (k + 1)) (j - n)).1, (findC (cs.drop (k + 1)) (j - n)).2) by
          rw [HR.out, findC_go HC.out (by rw [HM.out]; exact hk1) (by rw [HN.out]; exact hj), HN.out]
          simp only [Prod.mk.injEq, and_true]
          omega)
        clear HR
        go_wp2_with fail
        go_round
        case rel => exact ⟨j - n, k + 1, hk1, by omega, by go_num, by go_num, HR2⟩
        case measure => simp [intOf]; omega
      · have HR2 := Lib.hid (show findC cs i = (k, j) by rw [HR.out, findC_stop HC.out (.inr (by rw [HN.out]; omega))]; simp)
        clear HR
        go_wp2_with fail
        go_ret2
        exact ⟨by rw [HR2.out]; rfl, rfl⟩
    · have HR2 := Lib.hid (show findC cs i = (k, j) by rw [HR.out, findC_stop HC.out (.inl (by rw [HM.out]; omega))]; simp)
      clear HR
      have hk2 : ¬ (k : Int) < (m : Int) - 1 := by omega
      go_wp2_with fail
      go_ret2
      exact ⟨by rw [HR2.out]; rfl, rfl⟩

theorem len_any (w : World) (d : Nat) (v : Value) (gs : List Nat) (cs : List (List Txt)) (h : DeqAt w d v gs cs) :
    Calls Try.prog 16 #[.pointer (some ⟨d, 0, none⟩)] w fun e w' => e = .returned (.int .i64 (total cs : Nat)) ∧ w = w' := by
  obtain ⟨⟨d0, d1, d2⟩, -⟩ := three h.head
  clear h
  go_enter Try.func16, Try.ntmps16
  go_wp2_with fail
  go_ret
  exact ⟨rfl, rfl⟩
theorem cost_any (w : World) (d : Nat) (v : Value) (gs : List Nat) (cs : List (List Txt)) (h : DeqAt w d v gs cs) :
    Calls Try.prog 14 #[.pointer (some ⟨d, 0, none⟩)] w fun e w' => e = .returned (.int .i64 (costOf cs : Nat)) ∧ w = w' := by
  obtain ⟨⟨d0, d1, d2⟩, -⟩ := three h.head
  clear h
  go_enter Try.func14, Try.ntmps14
  go_wp2_with fail
  go_ret
  exact ⟨rfl, rfl⟩
end Go.Proofs.Ytefoieloakfhfaa
