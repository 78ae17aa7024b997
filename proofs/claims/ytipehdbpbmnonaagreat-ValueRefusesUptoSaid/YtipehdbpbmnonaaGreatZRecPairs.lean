/- Pairs of a record: all fields, in their order. -/
import Derived.Test.YtipehdbpbmnonaaGreatZRec
import Derived.Test.YtipehdbpbmnonaaGreatZSEEach
import Derived.Test.YtipehdbpbmnonaaGreatZSortRow
import Derived.Test.YtipehdbpbmnonaaGreatSrt
import Derived.WalkLawsBesides
set_option linter.unusedVariables false
set_option linter.unusedSimpArgs false
namespace Pantry
open Go Go.RowKit Go.Proofs Go.Sort
def fdC (p : Fld) : List Value := [.string ⟨p.1.toArray⟩, .string ⟨p.2.toArray⟩]
def fdCells (l : List Fld) : List Value := l.flatMap fdC
theorem fdCells_one (l : List Fld) : ∀ u ∈ fdCells l, u.oneCell' = true := by
  intro u hu
  obtain ⟨p, -, hp⟩ := List.mem_flatMap.1 hu
  simp [fdC] at hp
  rcases hp with rfl | rfl <;> rfl
theorem fdCells_length (l : List Fld) : (fdCells l).length = l.length * 2 := by
  induction l with
  | nil => rfl
  | cons p l ih => simp [fdCells, fdC] at ih ⊢; omega
theorem flatC_get {α : Type} [Inhabited α] {enc : α → List Value} (hk : ∀ x, (enc x).length = 2) : ∀ (l : List α) (t : Nat), t < l.length * 2 → (l.flatMap enc)[t]? = some (enc (l[t / 2]!))[t % 2]!
  | [], t, h => by simp at h
  | x :: l, t, h => by
    rw [List.flatMap_cons]
    by_cases h2 : t < 2
    · rw [List.getElem?_append_left (by rw [hk]; exact h2)]
      have e1 : t / 2 = 0 := by omega
      have e2 : t % 2 = t := by omega
      rw [e1, e2]
      have : t < (enc x).length := by rw [hk]; exact h2
      simp [this]
    · rw [List.getElem?_append_right (by rw [hk]; omega), hk, flatC_get hk l (t - 2) (by simp at h; omega)]
      have e1 : t / 2 = (t - 2) / 2 + 1 := by omega
      have e2 : t % 2 = (t - 2) % 2 := by omega
      rw [e1, e2]
      simp
theorem flatK_toList {α : Type} [Inhabited α] {enc : α → List Value} (hk : ∀ x, (enc x).length = 2) (d : Array α) : (flatK enc 2 d).toList = d.toList.flatMap enc := by
  have hlen : ∀ l : List α, (l.flatMap enc).length = l.length * 2 := fun l => by
    induction l with
    | nil => rfl
    | cons x l ih => rw [List.flatMap_cons, List.length_append, hk, ih, List.length_cons]; omega
  apply List.ext_getElem?
  intro t
  by_cases ht : t < d.size * 2
  · rw [flatC_get hk _ _ (by simpa using ht)]
    have ht2 : t / 2 < d.size := by omega
    simp [flatK, ht, ht2]
  · rw [List.getElem?_eq_none (by simp [flatK]; omega), List.getElem?_eq_none (by rw [hlen]; simpa using ht)]
theorem cmpB_val : ∀ a b : List UInt8, cmpB a b = -1 ∨ cmpB a b = 0 ∨ cmpB a b = 1
  | [], [] => by simp [cmpB, Lib.compareBytes]
  | [], _ :: _ => by simp [cmpB, Lib.compareBytes]
  | _ :: _, [] => by simp [cmpB, Lib.compareBytes]
  | a :: xs, b :: ys => by
    simp only [cmpB, Lib.compareBytes]
    split
    · exact .inl rfl
    · split
      · exact .inr (.inr rfl)
      · exact cmpB_val xs ys
theorem cmpB_of_less {a b : List UInt8} (h : Op.bytesLess a b = true) : Lib.compareBytes a b = -1 := by
  rw [bytesLess_iff] at h
  have h1 : cmpB a b < 0 := by simpa using h
  have := cmpB_val a b
  have e : cmpB a b = Lib.compareBytes a b := rfl
  omega
theorem cmpB_of_ne {a b : List UInt8} (h : Op.bytesLess a b = false) (h2 : (!a == b) = true) : Lib.compareBytes a b = 1 := by
  rw [bytesLess_iff] at h
  have h1 : ¬ cmpB a b < 0 := by simpa using h
  have h3 : ¬ cmpB a b = 0 := fun e => by rw [cmpB_eq e] at h2; simp at h2
  have := cmpB_val a b
  have e : cmpB a b = Lib.compareBytes a b := rfl
  omega
theorem cmpB_of_eq {a b : List UInt8} (h2 : (!a == b) = false) : Lib.compareBytes a b = 0 := by
  have : a = b := by simpa using h2
  rw [this]; exact cmpB_self b
theorem ret_num {k : IntKind} {a b : Int} (h : a = b) : Ending.returned (.int k a) = .returned (.int k b) := by rw [h]
def cmpFd (a b : Fld) : Int := Lib.compareBytes a.1 b.1
theorem ltFd (a b : Fld) : ltOf cmpFd a b = decide (cmpB a.1 b.1 < 0) := rfl
theorem swoFd : SWO (ltOf cmpFd) where
  irrefl x := by rw [ltFd]; simp [cmpB_self]
  trans x y z h1 h2 := by
    rw [ltFd] at *
    simp only [decide_eq_true_eq] at *
    exact cmpB_lt_trans h1 h2
  ntrans x y z h1 h2 := by
    rw [ltFd] at *
    have := leB_trans (a := z.1) (b := y.1) (c := x.1) (by simp [leB]; simpa using h2) (by simp [leB]; simpa using h1)
    simpa [leB] using this
end Pantry
namespace Go.Proofs.YtipehdbpbmnonaaGreat.DStr
open Go.RowKit Pantry Go.Sort

theorem pairI : ElemT Tryz.prog 23 43 2 32 (.agg #[.string ⟨#[]⟩, .string ⟨#[]⟩]) := ⟨Tryz.underlying23, by kernel_rfl, rfl, by omega, by omega⟩
theorem isNaNS_any (w : World) (a : List UInt8) : Calls Tryz.prog 261 #[.string ⟨a.toArray⟩] w fun e w' => e = .returned (.bool false) ∧ w' = w := by
  go_enter Tryz.func261, Tryz.ntmps261
  go_wp2_with fail
  go_ret
  exact ⟨by simp, rfl⟩
set_option maxHeartbeats 1000000 in
theorem cmpS_any (w : World) (a b : List UInt8) : Calls Tryz.prog 257 #[.string ⟨a.toArray⟩, .string ⟨b.toArray⟩] w fun e w' => e = .returned (.int .i64 (Lib.compareBytes a b)) ∧ w' = w := by
  have HN := fun W x => Lib.hid (isNaNS_any W x)
  go_enter Tryz.func257, Tryz.ntmps257
  go_wp2_with (go_at_call 261; refine (HN _ _).out.mono ?_; rintro e w' ⟨rfl, rfl⟩)
  all_goals
    go_ret
    first
      | exact ⟨ret_num (cmpB_of_less ‹_›).symm, rfl⟩
      | exact ⟨ret_num (cmpB_of_ne ‹_› ‹_›).symm, rfl⟩
      | exact ⟨ret_num (cmpB_of_eq ‹_›).symm, rfl⟩
set_option maxHeartbeats 1000000 in
/-- The closure that compares two pairs. -/
theorem pairs1_any (x y : Fld) (W : World) : Calls Tryz.prog 256 #[.agg #[.string ⟨x.1.toArray⟩, .string ⟨x.2.toArray⟩], .agg #[.string ⟨y.1.toArray⟩, .string ⟨y.2.toArray⟩]] W fun e w' => e = .returned (.int .i64 (cmpFd x y)) ∧ ∃ q os', w' = Sort.grow (W.drewN q) os' := by
  have HC := fun W' => Lib.hid (cmpS_any W' x.1 y.1)
  unfold cmpFd
  obtain ⟨r, hr⟩ : ∃ r, Lib.compareBytes x.1 y.1 = r := ⟨_, rfl⟩
  rw [hr] at HC ⊢
  clear hr
  go_enter Tryz.func256, Tryz.ntmps256
  go_wp2_with (go_at_call 257; refine (HC _).out.mono ?_; rintro e w' ⟨rfl, rfl⟩)
  go_ret
  exact ⟨rfl, 0, _, by rw [Sort.alloc_eq_grow, Sort.alloc_eq_grow, Sort.grow_grow]; rfl⟩
theorem sortPairs_some (w : World) (base g cap n : Nat) (l : List Fld) (hl : l.length = n) (hn : n ≤ 1048576) (h : w.ownsRow base 43 2 (.slice (some ⟨g, 0, none⟩) n cap) n (fdCells l)) (hk : (l.map (·.1)).Nodup) :
    Calls Tryz.prog 255 #[.slice (some ⟨g, 0, none⟩) n cap, .func (.func 256) #[] #[]] w fun e w' => e = .returned (.tuple #[]) ∧ w'.ownsRow base 43 2 (.slice (some ⟨g, 0, none⟩) n cap) n (fdCells (sortK l)) ∧ w.grownBy w' (some g) := by
  have hH : HoldsK fdC 2 w g 0 l.toArray := holds_row id (by rw [flatK_toList (enc := fdC) (fun _ => rfl)]; simpa [fdCells] using h)
  have hgl : g < w.heap.size := (h.lt g rfl).2
  have eg : ∀ args w, (callFunc 256 args).run Tryz.prog w = .ok (.enter 256 args) w := enters_of Tryz.func256 (by kernel_rfl) rfl
  have hcon := AnyQ.slices_SortFunc Tryz.sortPair 2 Tryz.isAgg43 Tryz.sizeOf43 fdC (fun _ => rfl) (fun x v hv => by simp [fdC] at hv; rcases hv with rfl | rfl <;> rfl) cmpFd swoFd 256 #[] g 0 cap l.toArray w eg (fun _ _ _ _ x y => pairs1_any x y _) hH hgl (by simp; omega)
  rw [List.size_toArray, hl] at hcon
  refine hcon.mono ?_
  rintro e w' ⟨rfl, d', q, os, hp, hs, rfl⟩
  have hpl : d'.toList.Perm l := by
    have h1 := hp.2.2
    have h2 := hp.1
    simp at h1 h2
    rw [List.take_of_length_le (by simp [h2, hl]), List.take_of_length_le (by rw [hl]; exact Nat.le_refl _)] at h1
    exact h1
  have hsz : d'.size = l.length := by simpa using hp.1
  have hr : d'.toList.Pairwise fun p q => cmpB p.1 q.1 < 0 := by
    rw [List.pairwise_iff_getElem]
    intro i j hi hj hij
    have h1 := hs i j (Nat.zero_le _) hij (by simpa [← hl, hsz] using hj)
    rw [ltFd] at h1
    have hne : (d'.toList[i]).1 ≠ (d'.toList[j]).1 := by
      have hn2 : (d'.toList.map (·.1)).Nodup := (hpl.map _).nodup_iff.2 hk
      have := List.pairwise_iff_getElem.1 hn2 i j (by simpa using hi) (by simpa using hj) hij
      simpa using this
    have h3 : d'[i]! = d'.toList[i] := by simp at hi ⊢; simp [hi]
    have h4 : d'[j]! = d'.toList[j] := by simp at hj ⊢; simp [hj]
    rw [h3, h4] at h1
    exact (cmpB_tri hne).resolve_right (by simpa using h1)
  have he := sortK_unique hpl hr
  obtain ⟨r1, r2⟩ := sort_row (d := flatK fdC 2 l.toArray) (d' := flatK fdC 2 d') id (by rw [flatK_toList (enc := fdC) (fun _ => rfl)]; simpa [fdCells] using h) (by simp [flatK, hsz]) q os
  rw [flatK_toList (enc := fdC) (fun _ => rfl), he, List.map_id] at r1
  exact ⟨rfl, r1, r2⟩
theorem sortPairs_any (w : World) (base n : Nat) (v : Value) (l : List Fld) (hl : l.length = n) (hn : n ≤ 1048576) (h : w.ownsRow base 43 2 v n (fdCells l)) (hk : (l.map (·.1)).Nodup) :
    Calls Tryz.prog 255 #[v, .func (.func 256) #[] #[]] w fun e w' => e = .returned (.tuple #[]) ∧ w'.ownsRow base 43 2 v n (fdCells (sortK l)) ∧ w.grownBy w' v.ownBlock := by
  rcases h.2 with ⟨hv, h0⟩ | ⟨g, cap, cur, hv, -⟩
  · subst hv
    have hn0 : l = [] := List.length_eq_zero_iff.1 (by omega)
    subst hn0
    subst h0
    refine (AnyF.slices_SortFunc_none Tryz.sortPair none 0 _ w).mono ?_
    rintro e w' ⟨rfl, rfl⟩
    exact ⟨rfl, by rw [show sortK ([] : List Fld) = [] by simp [sortK]]; exact h, ⟨rfl, rfl, rfl, Nat.le_refl _, fun _ _ _ => rfl⟩⟩
  · subst hv
    exact sortPairs_some w base g cap n l hl hn h hk
end Go.Proofs.YtipehdbpbmnonaaGreat.DStr
