/- Set and Delete as functions on the members; the law's wakes. -/
import Derived.Test.YtbjfigegiffefaaRkSame
set_option linter.unusedVariables false
set_option linter.unusedSimpArgs false
namespace Pantry
open Go Go.RowKit
def hasKey (l : List Mb) (key : List UInt8) : Option Nat := (l.find? fun p => decide (p.1 = key)).map (·.2)
def dropKey (l : List Mb) (key : List UInt8) : List Mb := l.filter fun p => !decide (p.1 = key)
def setL (l : List Mb) (key : List UInt8) (x : Nat) : List Mb × Bool × Int :=
  if 1048576 < key.length then (l, false, 2) else if fnan x then (l, false, 20) else
  match hasKey l key with
  | none => if 1048576 ≤ l.length then (l, false, 4) else (insR l (key, x) (placeN l (key, x)), true, 0)
  | some y => if fkey y = fkey x then (l, false, 0) else (insR (dropKey l key) (key, x) (placeN (dropKey l key) (key, x)), false, 0)
theorem hasKey_none {l : List Mb} {key : List UInt8} (h : ∀ p ∈ l, p.1 ≠ key) : hasKey l key = none := by
  unfold hasKey
  rw [List.find?_eq_none.2 (by intro p hp; simpa using h p hp)]
  rfl
end Pantry
namespace Go.Proofs.Ytbjfigegiffefaa
open Go.RowKit Pantry

theorem hasKey_some {l : List Mb} (hn : (l.map (·.1)).Nodup) {key : List UInt8} {y : Nat} (h : (key, y) ∈ l) : hasKey l key = some y := by
  unfold hasKey
  cases hf : l.find? fun p => decide (p.1 = key) with
  | none =>
    have := List.find?_eq_none.1 hf _ h
    simp at this
  | some q =>
    have h1 := List.find?_some hf
    have h2 := List.mem_of_find?_eq_some hf
    simp at h1
    have : q = (key, q.2) := by rw [← h1]
    rw [this] at h2
    exact congrArg some (key_uniq hn h2 h)
theorem dropKey_cut {l : List Mb} (hn : (l.map (·.1)).Nodup) {i : Nat} {key : List UInt8} {y : Nat} (h : l[i]? = some (key, y)) : cutR l i = dropKey l key := by
  obtain ⟨hi, he⟩ := List.getElem?_eq_some_iff.1 h
  have e : l = l.take i ++ (key, y) :: l.drop (i + 1) := by rw [← he, ← List.drop_eq_getElem_cons hi, List.take_append_drop]
  have hk := cut_keys hn h
  unfold cutR dropKey
  conv => rhs; rw [e]
  rw [List.filter_append, List.filter_cons_of_neg (by simp)]
  congr 1
  · refine (List.filter_eq_self.2 fun p hp => ?_).symm
    have := hk p (List.mem_append.2 (.inl hp))
    simpa using this
  · refine (List.filter_eq_self.2 fun p hp => ?_).symm
    have := hk p (List.mem_append.2 (.inr hp))
    simpa using this
theorem setC_fn {l l' : List Mb} {key : List UInt8} {x : Nat} {new : Bool} {code : Int} (h : SetC l key x l' new code) (hn : (l.map (·.1)).Nodup) : setL l key x = (l', new, code) := by
  unfold setL
  cases h with
  | long h => rw [if_pos h]
  | nan h hx => rw [if_neg (by omega), if_pos hx]
  | full h hx hk hf => rw [if_neg (by omega), if_neg hx, hasKey_none hk]; exact if_pos hf
  | same h hx y hy he => rw [if_neg (by omega), if_neg hx, hasKey_some hn hy]; exact if_pos he
  | moved h hx i y j hy he hj =>
    rw [if_neg (by omega), if_neg hx, hasKey_some hn (List.mem_of_getElem? hy)]
    rw [← dropKey_cut hn hy, ← hj.count]
    exact if_neg he
  | fresh h hx hk hf j hj => rw [if_neg (by omega), if_neg hx, hasKey_none hk, ← hj.count]; exact if_neg (by omega)
/-- Set where the members are known: what comes out is the function's. -/
theorem Rk.setK {w : World} {r : Nat} {S : Nat → Prop} {l : List Mb} (h : Rk w r S l) (key : List UInt8) (x : Nat) (hs : key.length ≤ 140737488351232) {l' : List Mb} {new : Bool} {code : Int} (he : setL l key x = (l', new, code)) :
    Calls Try.prog 19 #[.pointer (some ⟨r, 0, none⟩), .string ⟨key.toArray⟩, .float .f64 x] w fun e w' => e = .returned (.tuple #[.bool new, .int .i64 code]) ∧ RkTo r S l' w w' :=
  (h.set key x hs).mono fun e w' ⟨l2, n2, c2, h1, h2, h3⟩ => by
    have := setC_fn h1 h.keys
    rw [he] at this
    cases this
    exact ⟨h2, h3⟩
theorem Rk.rankK {w : World} {r : Nat} {S : Nat → Prop} {l : List Mb} (h : Rk w r S l) {i : Nat} (key : List UInt8) (x : Nat) (hi : l[i]? = some (key, x)) (hs : key.length ≤ 140737488351232) :
    Calls Try.prog 14 #[.pointer (some ⟨r, 0, none⟩), .string ⟨key.toArray⟩] w fun e w' => e = .returned (.tuple #[.int .i64 i, .bool true]) ∧ RkQ r S l w w' :=
  (h.rank key hs).mono fun e w' ⟨h1, h2⟩ => by
    refine ⟨?_, h2⟩
    rcases h1 with ⟨j, y, hj, rfl⟩ | ⟨hk, -⟩
    · have hn := h.keys
      have h3 : j = i := by
        obtain ⟨a1, a2⟩ := List.getElem?_eq_some_iff.1 hi
        obtain ⟨b1, b2⟩ := List.getElem?_eq_some_iff.1 hj
        rcases Nat.lt_trichotomy i j with hlt | heq | hgt
        · have := List.pairwise_iff_getElem.1 hn i j (by simpa using a1) (by simpa using b1) hlt
          rw [List.getElem_map, List.getElem_map, a2, b2] at this
          exact absurd rfl this
        · exact heq.symm
        · have := List.pairwise_iff_getElem.1 hn j i (by simpa using b1) (by simpa using a1) hgt
          rw [List.getElem_map, List.getElem_map, a2, b2] at this
          exact absurd rfl this
      rw [h3]
    · exact absurd rfl (hk _ (List.mem_of_getElem? hi))
theorem Rk.scoreK {w : World} {r : Nat} {S : Nat → Prop} {l : List Mb} (h : Rk w r S l) {key : List UInt8} {x : Nat} (hi : (key, x) ∈ l) (hs : key.length ≤ 140737488351232) :
    Calls Try.prog 15 #[.pointer (some ⟨r, 0, none⟩), .string ⟨key.toArray⟩] w fun e w' => e = .returned (.tuple #[.float .f64 x, .bool true]) ∧ RkQ r S l w w' :=
  (h.score key hs).mono fun e w' ⟨h1, h2⟩ => by
    refine ⟨?_, h2⟩
    rcases h1 with ⟨y, hy, rfl⟩ | ⟨hk, -⟩
    · rw [key_uniq h.keys hy hi]
    · exact absurd rfl (hk _ hi)
/-- True is answered, and whatever lay lies as it lay. -/
def OkPost (w : World) (e : Ending) (w' : World) : Prop := e = .returned (.bool true) ∧ Below w.heap.size w w'
def f1 : Nat := 4607182418800017408
def f2 : Nat := 4611686018427387904
theorem wkS1 : setL [] [97] f2 = ([([97], f2)], true, 0) := by decide +kernel
theorem wkS2 : setL [([97], f2)] [98] f1 = ([([98], f1), ([97], f2)], true, 0) := by decide +kernel
theorem wkC : rkCost [([98], f1), ([97], f2)] = 82 := by decide +kernel
set_option maxHeartbeats 4000000 in
set_option maxRecDepth 100000 in
theorem wakes_any (w : World) : Calls Try.prog 10 #[] w (OkPost w) := by
  have HN := Lib.hid (Rk.new w 3 (by decide))
  go_enter Try.func10, Try.ntmps10
  go_wp2_with (first
    | (go_at_call 18; refine HN.out.mono ?_; clear HN; rintro e w1 ⟨r, S, rfl, hr, hb, hS⟩
       have HB := Lib.hid (show _ ∧ _ from ⟨hb, hS⟩)
       have HS1 := Lib.hid (hr.setK [97] f2 (by decide) wkS1)
       clear hr hb hS)
    | (go_at_call 19; refine HS1.out.mono ?_; clear HS1; rintro e w2 ⟨rfl, ⟨S', hr, hS'⟩, hc⟩
       have HB2 : Hid (Below w.heap.size w w2 ∧ ∀ k, S' k → w.heap.size ≤ k) := Lib.hid ⟨HB.out.1.trans (hc.below HB.out.1.size HB.out.2), fun k hk => (hS' k hk).elim (HB.out.2 k) fun h => Nat.le_trans HB.out.1.size h⟩
       have HS2 := Lib.hid (hr.setK [98] f1 (by decide) wkS2)
       clear hr hS' hc HB)
    | (go_at_call 19; refine HS2.out.mono ?_; clear HS2; rintro e w3 ⟨rfl, ⟨S3, hr, hS'⟩, hc⟩
       have HB3 : Hid (Below w.heap.size w w3 ∧ ∀ k, S3 k → w.heap.size ≤ k) := Lib.hid ⟨HB2.out.1.trans (hc.below HB2.out.1.size HB2.out.2), fun k hk => (hS' k hk).elim (HB2.out.2 k) fun h => Nat.le_trans HB2.out.1.size h⟩
       have HK := Lib.hid (hr.rankK (i := 1) [97] f2 rfl (by decide))
       clear hr hS' hc HB2)
    | (go_at_call 14; refine HK.out.mono ?_; clear HK; rintro e w4 ⟨rfl, hr, hc⟩
       have HB4 : Hid (Below w.heap.size w w4) := Lib.hid (HB3.out.1.trans (hc.below HB3.out.1.size HB3.out.2))
       have HL := Lib.hid hr.len
       have HC := Lib.hid hr.cost
       clear hr hc HB3)
    | (go_at_call 13; refine HL.out.mono ?_; rintro e w5 ⟨rfl, rfl⟩)
    | (go_at_call 17; refine HC.out.mono ?_; rintro e w5 ⟨rfl, rfl⟩; rw [wkC]))
  go_ret
  exact ⟨rfl, HB4.out⟩
end Go.Proofs.Ytbjfigegiffefaa
