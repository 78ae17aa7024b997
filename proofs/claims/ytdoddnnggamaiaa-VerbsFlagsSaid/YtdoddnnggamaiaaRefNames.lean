/- The document's Names: the names sought one by one, the least first. -/
import Derived.Test.YtdoddnnggamaiaaAllNames
namespace Pantry.Verbs
/-- What is the least so far of the texts beyond 'last'. -/
def Least (S : List (List UInt8)) (last : List UInt8) (i : Nat) (m : List UInt8) : Prop :=
  (m = [] ∧ ∀ j x, j < i → S[j]? = some x → ¬ cmpB last x < 0) ∨
  (m ≠ [] ∧ m ∈ S ∧ cmpB last m < 0 ∧ ∀ j x, j < i → S[j]? = some x → cmpB last x < 0 → ¬ cmpB x m < 0)
theorem Least.zero (S : List (List UInt8)) (last : List UInt8) : Least S last 0 [] := .inl ⟨rfl, fun _ _ h => absurd h (Nat.not_lt_zero _)⟩
theorem Least.pass {S : List (List UInt8)} {last : List UInt8} {i : Nat} {m x : List UInt8} (h : Least S last i m) (hx : S[i]? = some x) (hn : ¬ cmpB last x < 0) : Least S last (i + 1) m := by
  rcases h with ⟨h1, h2⟩ | ⟨h1, h2, h3, h4⟩
  · refine .inl ⟨h1, fun j y hj hy => ?_⟩
    rcases Nat.lt_or_ge j i with hlt | hge
    · exact h2 j y hlt hy
    · obtain rfl : j = i := by omega
      rw [hx] at hy; cases hy; exact hn
  · refine .inr ⟨h1, h2, h3, fun j y hj hy hl => ?_⟩
    rcases Nat.lt_or_ge j i with hlt | hge
    · exact h4 j y hlt hy hl
    · obtain rfl : j = i := by omega
      rw [hx] at hy; cases hy; exact absurd hl hn
theorem Least.keep {S : List (List UInt8)} {last : List UInt8} {i : Nat} {m x : List UInt8} (h : Least S last i m) (hm : m ≠ []) (hx : S[i]? = some x) (hn : ¬ cmpB x m < 0) : Least S last (i + 1) m := by
  rcases h with ⟨h1, h2⟩ | ⟨h1, h2, h3, h4⟩
  · exact absurd h1 hm
  · refine .inr ⟨h1, h2, h3, fun j y hj hy hl => ?_⟩
    rcases Nat.lt_or_ge j i with hlt | hge
    · exact h4 j y hlt hy hl
    · obtain rfl : j = i := by omega
      rw [hx] at hy; cases hy; exact hn
theorem Least.take {S : List (List UInt8)} {last : List UInt8} {i : Nat} {m x : List UInt8} (h : Least S last i m) (hx : S[i]? = some x) (hne : x ≠ []) (hl : cmpB last x < 0) (hm : m = [] ∨ cmpB x m < 0) : Least S last (i + 1) x := by
  refine .inr ⟨hne, List.mem_of_getElem? hx, hl, fun j y hj hy hly => ?_⟩
  rcases Nat.lt_or_ge j i with hlt | hge
  · rcases h with ⟨h1, h2⟩ | ⟨h1, h2, h3, h4⟩
    · exact absurd hly (h2 j y hlt hy)
    · have h5 := h4 j y hlt hy hly
      rcases hm with hm | hm
      · exact absurd hm h1
      · exact fun h6 => h5 (cmpB_lt_trans h6 hm)
  · obtain rfl : j = i := by omega
    rw [hx] at hy; cases hy
    rw [cmpB_self]; omega
/-- The text ahead of place k of a row; none: the empty one. -/
def ahead (A : List (List UInt8)) : Nat → List UInt8
  | 0 => []
  | k + 1 => A.getD k []
theorem cmpB_nil {x : List UInt8} (h : x ≠ []) : cmpB [] x < 0 := by
  cases x with
  | nil => exact absurd rfl h
  | cons a l => simp [cmpB, Go.Lib.compareBytes]
theorem ahead_lt {A : List (List UInt8)} (hA : A.Pairwise fun a b => cmpB a b < 0) (hne : ∀ x ∈ A, x ≠ []) {k j : Nat} (hkl : k ≤ A.length) {x : List UInt8} (hx : A[j]? = some x) : cmpB (ahead A k) x < 0 ↔ k ≤ j := by
  obtain ⟨hj, rfl⟩ := List.getElem?_eq_some_iff.1 hx
  cases k with
  | zero => exact ⟨fun _ => Nat.zero_le _, fun _ => cmpB_nil (hne _ (List.getElem_mem hj))⟩
  | succ k =>
    simp only [ahead]
    rcases Nat.lt_trichotomy k j with h | h | h
    · have h1 := List.pairwise_iff_getElem.1 hA k j (by omega) hj h
      rw [List.getD_eq_getElem?_getD, List.getElem?_eq_getElem (by omega)]
      exact ⟨fun _ => h, fun _ => h1⟩
    · subst h
      rw [List.getD_eq_getElem?_getD, List.getElem?_eq_getElem hj, Option.getD_some, cmpB_self]
      omega
    · have hk : k < A.length := by omega
      have h1 := List.pairwise_iff_getElem.1 hA j k hj hk h
      rw [List.getD_eq_getElem?_getD, List.getElem?_eq_getElem hk, Option.getD_some]
      have h2 : ¬ cmpB A[k] A[j] < 0 := fun h3 => by have := cmpB_lt_trans h1 h3; rw [cmpB_self] at this; omega
      exact ⟨fun h3 => absurd h3 h2, fun h3 => by omega⟩
/-- The least of the texts beyond the one ahead of place k stands at place k. -/
theorem Least.found {S A : List (List UInt8)} (hA : A.Pairwise fun a b => cmpB a b < 0) (hne : ∀ x ∈ A, x ≠ []) (hSA : ∀ x ∈ S, x ∈ A) (hAS : ∀ x ∈ A, x ∈ S) {k : Nat} (hk : k < A.length) {m : List UInt8}
    (h : Least S (ahead A k) S.length m) : A[k]? = some m := by
  have hx := List.getElem?_eq_getElem hk
  obtain ⟨i, hi, hiS⟩ := List.mem_iff_getElem.1 (hAS _ (List.getElem_mem hk))
  have hi' := List.getElem?_eq_getElem hi
  rw [hiS] at hi'
  have hlt := (ahead_lt hA hne (Nat.le_of_lt hk) hx).2 (Nat.le_refl k)
  rcases h with ⟨_, h2⟩ | ⟨h1, h2, h3, h4⟩
  · exact absurd hlt (h2 i _ hi hi')
  · obtain ⟨j, hj, rfl⟩ := List.mem_iff_getElem.1 (hSA _ h2)
    have hkj := (ahead_lt hA hne (Nat.le_of_lt hk) (List.getElem?_eq_getElem hj)).1 h3
    rcases Nat.lt_or_eq_of_le hkj with hlt2 | rfl
    · exact absurd (List.pairwise_iff_getElem.1 hA k j hk hj hlt2) (h4 i _ hi hi' hlt)
    · exact hx
theorem ahead_succ {A : List (List UInt8)} {k : Nat} {m : List UInt8} (h : A[k]? = some m) : ahead A (k + 1) = m := by
  simp only [ahead, List.getD_eq_getElem?_getD, h, Option.getD_some]
theorem names_ne : ∀ x ∈ names all, x ≠ [] := by decide +kernel
theorem names_mem : (∀ x ∈ names refRows, x ∈ names all) ∧ (∀ x ∈ names all, x ∈ names refRows) := by decide +kernel
theorem names_all_length : (names all).length = 113 := by decide +kernel
theorem names_get {l : List Row} {i : Nat} {r : Row} (h : l[i]? = some r) : (names l)[i]? = some r.name := by simp [names, h]
end Pantry.Verbs
namespace Go.Proofs.Ytdoddnnggamaiaa
open Go.RowKit Pantry

/-- A slice's length. -/
def lenOf : Value → Nat
  | .slice _ n _ => n
  | _ => 0
/-- The rows of the document lie in block g. -/
def RefIn (B g c : Nat) (w : World) : Prop := w.ownsRow B 29 6 (.slice (some ⟨g, 0, none⟩) 113 c) 113 (tabCells Verbs.refRows)

set_option maxHeartbeats 4000000 in
set_option maxRecDepth 100000 in
theorem refNames_any (w : World) : Calls Try.prog 19 #[] w (TextsPost (Verbs.names Verbs.all) w) := by
  go_enter Try.func19, Try.ntmps19
  go_wp2_with fail
  refine (refRows_any _).mono ?_
  rintro e w1 ⟨v, rfl, hown, hb1⟩
  obtain ⟨g, c, rfl, hg, hgs, hgc⟩ := own_some hown (by decide)
  have HI := Lib.hid (show RefIn w.heap.size g c w1 from hown)
  clear hown
  go_wp2
  go_loopw [2, 3] (fun v s wr => ∃ k : Nat, k ≤ 113 ∧ wr.ownsRow w1.heap.size 9 1 v k (txts ((Verbs.names Verbs.all).take k)) ∧ s = .string ⟨(Verbs.ahead (Verbs.names Verbs.all) k).toArray⟩ ∧ Below w1.heap.size w1 wr) (fun v _ _ => 113 - lenOf v)
  case atStart => exact ⟨0, by omega, World.ownsRow_nil _ _ _ _, rfl, Below.refl _ _⟩
  case round =>
    obtain ⟨k, hk, hown, rfl, hb⟩ := hrel
    obtain ⟨L, hL⟩ : ∃ L, Verbs.ahead (Verbs.names Verbs.all) k = L := ⟨_, rfl⟩
    rw [hL]
    have HL := Lib.hid hL
    obtain ⟨a, c', rfl, -⟩ := ownsRow_rd hown (txts_one _)
    clear hL
    by_cases hlt : k < 113
    · have hrow : RefIn w.heap.size g c wr := ownsRow_below HI.out hb (by rintro b ⟨⟩; exact hgs)
      go_wp2
      go_loop [4, 5] (fun s i => ∃ (j : Nat) (m : List UInt8), j ≤ 113 ∧ i = .int .i64 j ∧ s = .string ⟨m.toArray⟩ ∧ Verbs.Least (Verbs.names Verbs.refRows) L j m) (fun _ i => 113 - (intOf i).toNat)
      case atStart => exact ⟨0, [], by omega, rfl, rfl, Verbs.Least.zero _ _⟩
      case round =>
        obtain ⟨j, m, hj, rfl, rfl, hle⟩ := hrel
        by_cases hlt2 : j < 113
        · obtain ⟨r, hr⟩ : ∃ r, Verbs.refRows[j]? = some r := ⟨_, List.getElem?_eq_getElem (by rw [Verbs.refRows_length]; exact hlt2)⟩
          obtain ⟨c0, c1, c2, c3, c4, c5⟩ := own_cells hrow hr
          have hne : r.name ≠ [] := Verbs.names_ne _ (Verbs.names_mem.1 _ (List.mem_of_getElem? (Verbs.names_get hr)))
          have HR := Lib.hid (Verbs.names_get hr)
          have HN := Lib.hid hne
          clear c1 c2 c3 c4 c5 hr hne
          obtain ⟨x, hx⟩ : ∃ x, r.name = x := ⟨_, rfl⟩
          rw [hx] at c0 HR HN
          clear hx
          by_cases h1 : cmpB x L < 0
          · have t1 : Op.bytesLess x L = true := by rw [bytesLess_iff]; exact decide_eq_true h1
            have HF := Lib.hid (hle.pass HR.out (fun h => by have := cmpB_lt_trans h h1; rw [cmpB_self] at this; omega))
            clear h1
            go_wp2
            go_round
            case rel => exact ⟨j + 1, m, by omega, by go_num, rfl, HF.out⟩
            case measure => simp [intOf]; omega
          · by_cases h2 : x = L
            · have t1 : Op.bytesLess x L = false := by rw [bytesLess_iff]; exact decide_eq_false h1
              have t2 : (x == L) = true := by simp [h2]
              have HF := Lib.hid (hle.pass HR.out (by rw [h2, cmpB_self]; omega))
              clear h1 h2
              go_wp2
              go_round
              case rel => exact ⟨j + 1, m, by omega, by go_num, rfl, HF.out⟩
              case measure => simp [intOf]; omega
            · have t1 : Op.bytesLess x L = false := by rw [bytesLess_iff]; exact decide_eq_false h1
              have t2 : (x == L) = false := by simp [h2]
              have hgt : cmpB L x < 0 := by
                have : cmpB x L ≠ 0 := fun h => h2 (cmpB_eq h)
                exact cmpB_gt.1 (by omega)
              have HG := Lib.hid hgt
              clear h1 h2 hgt
              by_cases h3 : m = []
              · have t3 : m.isEmpty = true := by simp [h3]
                have HF := Lib.hid (hle.take HR.out HN.out HG.out (.inl h3))
                clear h3
                go_wp2
                go_round
                case rel => exact ⟨j + 1, x, by omega, by go_num, rfl, HF.out⟩
                case measure => simp [intOf]; omega
              · have t3 : m.isEmpty = false := by simp [h3]
                have H3 := Lib.hid h3
                clear h3
                by_cases h4 : cmpB x m < 0
                · have t4 : Op.bytesLess x m = true := by rw [bytesLess_iff]; exact decide_eq_true h4
                  have HF := Lib.hid (hle.take HR.out HN.out HG.out (.inr h4))
                  clear h4
                  go_wp2
                  go_round
                  case rel => exact ⟨j + 1, x, by omega, by go_num, rfl, HF.out⟩
                  case measure => simp [intOf]; omega
                · have t4 : Op.bytesLess x m = false := by rw [bytesLess_iff]; exact decide_eq_false h4
                  have HF := Lib.hid (hle.keep H3.out HR.out h4)
                  clear h4
                  go_wp2
                  go_round
                  case rel => exact ⟨j + 1, m, by omega, by go_num, rfl, HF.out⟩
                  case measure => simp [intOf]; omega
        · have hm : (Verbs.names Verbs.all)[k]? = some m := by
            refine Verbs.Least.found (A := Verbs.names Verbs.all) Verbs.rising_all Verbs.names_ne Verbs.names_mem.1 Verbs.names_mem.2 (by rw [Verbs.names_all_length]; exact hlt) ?_
            rw [HL.out, Verbs.names_length, Verbs.refRows_length]
            obtain rfl : j = 113 := by omega
            exact hle
          have HA := Lib.hid (Verbs.ahead_succ hm)
          have htk : (Verbs.names Verbs.all).take (k + 1) = (Verbs.names Verbs.all).take k ++ [m] := by
            rw [List.take_add_one, hm]; rfl
          have HT := Lib.hid htk
          have hbs := hb.size
          clear hm htk hle
          go_wp2_with (at_builtin; refine wpl_append1_at Try.textsT rfl _ _ rfl w1.heap.size rfl hown #[.string ⟨m.toArray⟩] rfl rfl rfl (by simp [Value.oneCell']) (by omega) hbs ?_; intro v2 w2 hown2 hgrow2 hb2 hfr2)
          have ho3 : w2.ownsRow w1.heap.size 9 1 v2 (k + 1) (txts ((Verbs.names Verbs.all).take (k + 1))) := by
            rw [HT.out, ← txts_snoc]; exact hown2
          have hb3 := hb.trans hb2
          obtain ⟨a2, c2, rfl, -⟩ := ownsRow_rd ho3 (txts_one _)
          clear hown2 hgrow2 hb2 hfr2
          go_roundw
          case rel => exact ⟨k + 1, by omega, ho3, by rw [HA.out], hb3⟩
          case measure => simp [lenOf]; omega
    · obtain rfl : k = 113 := by omega
      have hbs := hb1.size
      have hT : (Verbs.names Verbs.all).take 113 = Verbs.names Verbs.all := List.take_of_length_le (by rw [Verbs.names_all_length]; exact Nat.le_refl _)
      rw [hT] at hown
      have HW := Lib.hid hown
      clear hT hown
      go_wp2
      go_ret
      exact ⟨_, rfl, by rw [Verbs.names_all_length]; exact ownsRow_base HW.out hbs, hb1.trans (hb.mono hbs)⟩
end Go.Proofs.Ytdoddnnggamaiaa
