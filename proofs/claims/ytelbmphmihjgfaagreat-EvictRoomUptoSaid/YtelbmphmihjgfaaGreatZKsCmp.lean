/- cmp.Compare, cmp.Or; the order of what is due. -/
import Derived.Test.YtelbmphmihjgfaaGreatZKsTouched
import Derived.Test.YtelbmphmihjgfaaGreatZSortF
import Derived.WalkLawsBesides
import Derived.LoopN
import Derived.Deep.RegionHeld3
set_option linter.unusedVariables false
set_option linter.unusedSimpArgs false
namespace Pantry
open Go Go.RowKit Go.Proofs Go.Sort
theorem cmpB_val : ∀ a b : List UInt8, cmpB a b = -1 ∨ cmpB a b = 0 ∨ cmpB a b = 1
  | [], [] => by simp [cmpB, Lib.compareBytes]
  | [], _ :: _ => by simp [cmpB, Lib.compareBytes]
  | _ :: _, [] => by simp [cmpB, Lib.compareBytes]
  | a :: xs, b :: ys => by
    simp only [cmpB, Lib.compareBytes]
    split
    · exact .inl rfl
    · split
      · exact .inr (.inr rfl)
      · exact cmpB_val xs ys
theorem cmpB_of_less {a b : List UInt8} (h : Op.bytesLess a b = true) : Lib.compareBytes a b = -1 := by
  rw [bytesLess_iff] at h
  have h1 : cmpB a b < 0 := by simpa using h
  have := cmpB_val a b
  have e : cmpB a b = Lib.compareBytes a b := rfl
  omega
theorem cmpB_of_ne {a b : List UInt8} (h : Op.bytesLess a b = false) (h2 : (!a == b) = true) : Lib.compareBytes a b = 1 := by
  rw [bytesLess_iff] at h
  have h1 : ¬ cmpB a b < 0 := by simpa using h
  have h3 : ¬ cmpB a b = 0 := fun e => by rw [cmpB_eq e] at h2; simp at h2
  have := cmpB_val a b
  have e : cmpB a b = Lib.compareBytes a b := rfl
  omega
theorem cmpB_of_eq {a b : List UInt8} (h2 : (!a == b) = false) : Lib.compareBytes a b = 0 := by
  have : a = b := by simpa using h2
  rw [this]; exact cmpB_self b
theorem ret_num {k : IntKind} {a b : Int} (h : a = b) : Ending.returned (.int k a) = .returned (.int k b) := by rw [h]
def cmpI (a b : Int) : Int := if a < b then -1 else if b < a then 1 else 0
def cmpOr (a b : Int) : Int := if a = 0 then b else a
/-- What is due: a key, its entry's block and its deadline. -/
structure Due where
  key : List UInt8
  b : Nat
  at_ : Int
deriving Inhabited
def cmpD (x y : Due) : Int := cmpOr (cmpI x.at_ y.at_) (Lib.compareBytes x.key y.key)
theorem cmpI_cases (a b : Int) : (a < b ∧ cmpI a b = -1) ∨ (b < a ∧ cmpI a b = 1) ∨ (a = b ∧ cmpI a b = 0) := by
  unfold cmpI
  by_cases h : a < b
  · exact .inl ⟨h, by rw [if_pos h]⟩
  · by_cases h2 : b < a
    · exact .inr (.inl ⟨h2, by rw [if_neg h, if_pos h2]⟩)
    · exact .inr (.inr ⟨by omega, by rw [if_neg h, if_neg h2]⟩)
theorem cmpD_lt {x y : Due} : cmpD x y < 0 ↔ x.at_ < y.at_ ∨ (x.at_ = y.at_ ∧ cmpB x.key y.key < 0) := by
  unfold cmpD cmpOr
  rcases cmpI_cases x.at_ y.at_ with ⟨h, e⟩ | ⟨h, e⟩ | ⟨h, e⟩
  · rw [e]; simp [h]
  · rw [e]
    simp only [show ¬ (1 : Int) = 0 by decide, if_false]
    constructor
    · intro h; omega
    · rintro (h2 | ⟨h2, -⟩) <;> omega
  · rw [e]; simp [h]
theorem swoD : SWO (ltOf cmpD) where
  irrefl x := by
    have : ¬ cmpD x x < 0 := by
      rw [cmpD_lt]
      rintro (h | ⟨-, h⟩)
      · omega
      · exact cmpB_irr _ h
    simpa [ltOf] using this
  trans x y z h1 h2 := by
    have h1' : cmpD x y < 0 := by simpa [ltOf] using h1
    have h2' : cmpD y z < 0 := by simpa [ltOf] using h2
    rw [cmpD_lt] at h1' h2'
    have : cmpD x z < 0 := by
      rw [cmpD_lt]
      rcases h1' with h1 | ⟨h1, k1⟩
      · rcases h2' with h2 | ⟨h2, -⟩
        · exact .inl (by omega)
        · exact .inl (by omega)
      · rcases h2' with h2 | ⟨h2, k2⟩
        · exact .inl (by omega)
        · exact .inr ⟨by omega, cmpB_lt_trans k1 k2⟩
    simpa [ltOf] using this
  ntrans x y z h1 h2 := by
    have h1' : ¬ cmpD x y < 0 := by simpa [ltOf] using h1
    have h2' : ¬ cmpD y z < 0 := by simpa [ltOf] using h2
    have : ¬ cmpD x z < 0 := by
      rw [cmpD_lt] at *
      rintro (h | ⟨h, k⟩)
      · by_cases e : x.at_ < y.at_
        · exact h1' (.inl e)
        · exact h2' (.inl (by omega))
      · have e1 : ¬ x.at_ < y.at_ := fun e => h1' (.inl e)
        have e2 : ¬ y.at_ < z.at_ := fun e => h2' (.inl e)
        have k1 : ¬ cmpB x.key y.key < 0 := fun e => h1' (.inr ⟨by omega, e⟩)
        have k2 : ¬ cmpB y.key z.key < 0 := fun e => h2' (.inr ⟨by omega, e⟩)
        have := leB_trans (a := z.key) (b := y.key) (c := x.key) (by simp [leB]; simpa using k2) (by simp [leB]; simpa using k1)
        simp [leB] at this
        omega
    simpa [ltOf] using this
end Pantry
namespace Go.Proofs.YtelbmphmihjgfaaGreat.DEnt
open Go.RowKit Pantry Go.Maps Go.Sort

theorem isNaNS_any (w : World) (a : List UInt8) : Calls Tryz.prog 77 #[.string ⟨a.toArray⟩] w fun e w' => e = .returned (.bool false) ∧ w' = w := by
  go_enter Tryz.func77, Tryz.ntmps77
  go_wp2_with fail
  go_ret
  exact ⟨by simp, rfl⟩
set_option maxHeartbeats 1000000 in
theorem cmpS_any (w : World) (a b : List UInt8) : Calls Tryz.prog 40 #[.string ⟨a.toArray⟩, .string ⟨b.toArray⟩] w fun e w' => e = .returned (.int .i64 (Lib.compareBytes a b)) ∧ w' = w := by
  have HN := fun W x => Lib.hid (isNaNS_any W x)
  go_enter Tryz.func40, Tryz.ntmps40
  go_wp2_with (go_at_call 77; refine (HN _ _).out.mono ?_; rintro e w' ⟨rfl, rfl⟩)
  all_goals
    go_ret
    first
      | exact ⟨ret_num (cmpB_of_less ‹_›).symm, rfl⟩
      | exact ⟨ret_num (cmpB_of_ne ‹_› ‹_›).symm, rfl⟩
      | exact ⟨ret_num (cmpB_of_eq ‹_›).symm, rfl⟩
theorem isNaNI_any (w : World) (a : Int) : Calls Tryz.prog 76 #[.int .i64 a] w fun e w' => e = .returned (.bool false) ∧ w' = w := by
  go_enter Tryz.func76, Tryz.ntmps76
  go_wp2_with fail
  go_ret
  exact ⟨by simp, rfl⟩
set_option maxHeartbeats 1000000 in
theorem cmpI_any (w : World) (a b : Int) : Calls Tryz.prog 39 #[.int .i64 a, .int .i64 b] w fun e w' => e = .returned (.int .i64 (cmpI a b)) ∧ w' = w := by
  have HN := fun W x => Lib.hid (isNaNI_any W x)
  rcases cmpI_cases a b with ⟨h, e⟩ | ⟨h, e⟩ | ⟨h, e⟩
  · rw [e]
    clear e
    go_enter Tryz.func39, Tryz.ntmps39
    go_wp2_with (go_at_call 76; refine (HN _ _).out.mono ?_; rintro e w' ⟨rfl, rfl⟩)
    go_ret
    exact ⟨rfl, rfl⟩
  · rw [e]
    clear e
    have h2 : ¬ a < b := by omega
    go_enter Tryz.func39, Tryz.ntmps39
    go_wp2_with (go_at_call 76; refine (HN _ _).out.mono ?_; rintro e w' ⟨rfl, rfl⟩)
    go_ret
    exact ⟨rfl, rfl⟩
  · rw [e]
    subst h
    clear e
    go_enter Tryz.func39, Tryz.ntmps39
    go_wp2_with (go_at_call 76; refine (HN _ _).out.mono ?_; rintro e w' ⟨rfl, rfl⟩)
    go_ret
    exact ⟨rfl, rfl⟩
end Go.Proofs.YtelbmphmihjgfaaGreat.DEnt

/- cmp.Or of two. -/
set_option linter.unusedVariables false
set_option linter.unusedSimpArgs false
namespace Go.Proofs.YtelbmphmihjgfaaGreat.DEnt
open Go.RowKit Pantry Go.Maps Go.Sort

set_option maxHeartbeats 2000000 in
theorem or_any (w : World) (g : Nat) (a b : Int) (h0 : w.cell? ⟨g, 0, none⟩ = some (.int .i64 a)) (h1 : w.cell? ⟨g, 1, none⟩ = some (.int .i64 b)) :
    Calls Tryz.prog 38 #[.slice (some ⟨g, 0, none⟩) 2 2] w fun e w' => e = .returned (.int .i64 (cmpOr a b)) ∧ w' = w := by
  unfold cmpOr
  by_cases ha : a = 0
  · rw [if_pos ha]
    subst ha
    by_cases hb : b = 0
    · subst hb
      go_enter Tryz.func38, Tryz.ntmps38
      go_wp2_with fail
      refine wp_loop_rounds 3 ?_
      rw [rounds_succ]
      go_wp2_with fail
      rw [rounds_succ]
      go_wp2_with fail
      rw [rounds_succ]
      go_wp2_with fail
      go_ret
      exact ⟨rfl, rfl⟩
    · have hb' : (b == 0) = false := by simpa using hb
      go_enter Tryz.func38, Tryz.ntmps38
      go_wp2_with fail
      refine wp_loop_rounds 3 ?_
      rw [rounds_succ]
      go_wp2_with fail
      rw [rounds_succ]
      go_wp2_with fail
      go_ret
      exact ⟨rfl, rfl⟩
  · rw [if_neg ha]
    have ha' : (a == 0) = false := by simpa using ha
    go_enter Tryz.func38, Tryz.ntmps38
    go_wp2_with fail
    refine wp_loop_rounds 3 ?_
    rw [rounds_succ]
    go_wp2_with fail
    go_ret
    exact ⟨rfl, rfl⟩
end Go.Proofs.YtelbmphmihjgfaaGreat.DEnt

/- The closure of Sweep: which of two due keys comes first. -/
set_option linter.unusedVariables false
set_option linter.unusedSimpArgs false
namespace Go.Proofs.YtelbmphmihjgfaaGreat.DEnt
open Go.RowKit Pantry Go.Maps Go.Sort

def dueC (x : Due) : List Value := [.string ⟨x.key.toArray⟩, .pointer (some ⟨x.b, 0, none⟩)]
theorem two_new (w : World) (o0 o1 : Obj) : ((w.alloc o0).alloc o1).heap[w.heap.size]? = some o0 ∧ ((w.alloc o0).alloc o1).heap[w.heap.size + 1]? = some o1 ∧ ((w.alloc o0).alloc o1).heap.size = w.heap.size + 2 := by
  have e : ((w.alloc o0).alloc o1).heap = (w.heap.push o0).push o1 := rfl
  rw [e]
  refine ⟨?_, ?_, by simp⟩ <;> (simp only [Array.getElem?_push, Array.size_push]; repeat (first | rw [if_neg (by omega)] | rw [if_pos (by omega)] | rw [if_pos trivial]))
theorem temp2 (w : World) (o0 o1 : Obj) (v0 v1 : Value) (T : TypeId) : (((w.alloc o0).alloc o1).alloc (.cells #[v0, v1] T)).drew.cell? ⟨w.heap.size + 1 + 1, 0, none⟩ = some v0 ∧ (((w.alloc o0).alloc o1).alloc (.cells #[v0, v1] T)).drew.cell? ⟨w.heap.size + 1 + 1, 1, none⟩ = some v1 := by
  have e : (((w.alloc o0).alloc o1).alloc (.cells #[v0, v1] T)).drew.heap[w.heap.size + 1 + 1]? = some (.cells #[v0, v1] T) := by
    have e : (((w.alloc o0).alloc o1).alloc (.cells #[v0, v1] T)).drew.heap = ((w.heap.push o0).push o1).push (.cells #[v0, v1] T) := rfl
    rw [e]
    simp only [Array.getElem?_push, Array.size_push]
    repeat (first | rw [if_neg (by omega)] | rw [if_pos (by omega)] | rw [if_pos trivial])
  exact ⟨by unfold World.cell?; dsimp only; rw [e]; rfl, by unfold World.cell?; dsimp only; rw [e]; rfl⟩
theorem box2 {w W : World} {g : Nat} {v0 v1 : Value} {T : TypeId} (e : w.heap[g]? = some (.cells #[v0, v1] T)) (hb : Below w.heap.size w W) : W.cell? ⟨g, 0, none⟩ = some v0 ∧ W.cell? ⟨g, 1, none⟩ = some v1 := by
  have hg : g < w.heap.size := block_lt e
  exact ⟨(hb.cell (p := ⟨g, 0, none⟩) hg).trans (by unfold World.cell?; dsimp only; rw [e]; rfl), (hb.cell (p := ⟨g, 1, none⟩) hg).trans (by unfold World.cell?; dsimp only; rw [e]; rfl)⟩
set_option maxHeartbeats 4000000 in
theorem sweep1_any (x y : Due) (W : World) (hx : W.cell? ⟨x.b, 3, none⟩ = some (.int .i64 x.at_)) (hy : W.cell? ⟨y.b, 3, none⟩ = some (.int .i64 y.at_)) (lx : x.b < W.heap.size) (ly : y.b < W.heap.size) :
    Calls Tryz.prog 37 #[.agg (dueC x).toArray, .agg (dueC y).toArray] W fun e w' => e = .returned (.int .i64 (cmpD x y)) ∧ ∃ q os', w' = Sort.grow (W.drewN q) os' := by
  have hmx : Tryz.prog.follows .mixedOrders = true := by kernel_rfl
  have HI := fun W' => Lib.hid (cmpI_any W' x.at_ y.at_)
  have HS := fun W' => Lib.hid (cmpS_any W' x.key y.key)
  have HO := fun W' g h0 h1 => Lib.hid (or_any W' g (cmpI x.at_ y.at_) (Lib.compareBytes x.key y.key) h0 h1)
  obtain ⟨c, hc⟩ : ∃ c, cmpD x y = c := ⟨_, rfl⟩
  have hc2 : cmpOr (cmpI x.at_ y.at_) (Lib.compareBytes x.key y.key) = c := hc
  rw [hc]
  simp only [hc2] at HO
  clear hc hc2
  generalize cmpI x.at_ y.at_ = r1 at HI HO
  generalize Lib.compareBytes x.key y.key = r2 at HS HO
  obtain ⟨xk, xb, xa⟩ := x
  obtain ⟨yk, yb, ya⟩ := y
  simp only [dueC] at *
  have HK : Hid (∀ W', Below (W.heap.size + 2) ((W.alloc (.cells #[.string ⟨xk.toArray⟩, .pointer (some ⟨xb, 0, none⟩)] 105)).alloc (.cells #[.string ⟨yk.toArray⟩, .pointer (some ⟨yb, 0, none⟩)] 105)) W' →
      W'.cell? ⟨W.heap.size, 0, none⟩ = some (.string ⟨xk.toArray⟩) ∧ W'.cell? ⟨W.heap.size, 1, none⟩ = some (.pointer (some ⟨xb, 0, none⟩)) ∧ W'.cell? ⟨W.heap.size + 1, 0, none⟩ = some (.string ⟨yk.toArray⟩) ∧ W'.cell? ⟨W.heap.size + 1, 1, none⟩ = some (.pointer (some ⟨yb, 0, none⟩)) ∧
      W'.cell? ⟨xb, 3, none⟩ = some (.int .i64 xa) ∧ W'.cell? ⟨yb, 3, none⟩ = some (.int .i64 ya)) := Lib.hid (by
    intro W' hb
    obtain ⟨e0, e1, s2⟩ := two_new W (.cells #[.string ⟨xk.toArray⟩, .pointer (some ⟨xb, 0, none⟩)] 105) (.cells #[.string ⟨yk.toArray⟩, .pointer (some ⟨yb, 0, none⟩)] 105)
    rw [← s2] at hb
    have hb0 : Below W.heap.size W W' := by
      refine Below.trans (Below.alloc (Below.alloc (Below.refl _ _) (Nat.le_refl _) _) (by simp) _) (hb.mono ?_)
      rw [s2]; omega
    exact ⟨(box2 e0 hb).1, (box2 e0 hb).2, (box2 e1 hb).1, (box2 e1 hb).2, (hb0.cell (p := ⟨xb, 3, none⟩) lx).trans hx, (hb0.cell (p := ⟨yb, 3, none⟩) ly).trans hy⟩)
  clear hx hy lx ly
  go_enter Tryz.func37, Tryz.ntmps37
  go_wp2_with fail
  go_region_held3 (fun W' => W'.cell? ⟨W.heap.size, 0, none⟩ = some (.string ⟨xk.toArray⟩) ∧ W'.cell? ⟨W.heap.size, 1, none⟩ = some (.pointer (some ⟨xb, 0, none⟩)) ∧ W'.cell? ⟨W.heap.size + 1, 0, none⟩ = some (.string ⟨yk.toArray⟩) ∧ W'.cell? ⟨W.heap.size + 1, 1, none⟩ = some (.pointer (some ⟨yb, 0, none⟩)) ∧
      W'.cell? ⟨xb, 3, none⟩ = some (.int .i64 xa) ∧ W'.cell? ⟨yb, 3, none⟩ = some (.int .i64 ya))
    (exact HK.out _ (by repeat (first | exact Below.refl _ _ | refine Below.drew ?_ | refine Below.alloc ?_ (by first | exact Nat.le_refl _ | (simp only [World.size_alloc, heap_drew]; omega)) _)))
    (first
      | (go_at_call 39; refine (HI _).out.mono ?_; rintro e w1 ⟨rfl, rfl⟩)
      | (go_at_call 40; refine (HS _).out.mono ?_; rintro e w1 ⟨rfl, rfl⟩)
      | (go_at_call 38; refine (HO _ _ (temp2 _ _ _ _ _ _).1 (temp2 _ _ _ _ _ _).2).out.mono ?_; rintro e w1 ⟨rfl, rfl⟩))
  all_goals (go_wp2_with fail)
  all_goals go_ret
  all_goals exact ⟨rfl, 1, _, by rw [Sort.alloc_eq_grow, Sort.alloc_eq_grow, Sort.alloc_eq_grow, Sort.grow_grow, Sort.grow_grow]; rfl⟩
end Go.Proofs.YtelbmphmihjgfaaGreat.DEnt

/- A row of what is due, sorted. -/
set_option linter.unusedVariables false
set_option linter.unusedSimpArgs false
namespace Go.Proofs.YtelbmphmihjgfaaGreat.DEnt
open Go.RowKit Pantry Go.Maps Go.Sort

/-- A due key whose entry lies in w, below base. -/
def DueOk (w : World) (base : Nat) (x : Due) : Prop := w.cell? ⟨x.b, 3, none⟩ = some (.int .i64 x.at_) ∧ x.b < base
theorem map_back {α : Type} {p : α → Prop} : ∀ {l : List α}, (∀ x ∈ l, p x) → ∃ l' : List {x // p x}, l'.map (·.1) = l
  | [], _ => ⟨[], rfl⟩
  | x :: l, h => by
    obtain ⟨l', h'⟩ := map_back (l := l) fun y hy => h y (.tail _ hy)
    exact ⟨⟨x, h x (.head _)⟩ :: l', by simp [h']⟩
theorem sortDues_any (w : World) (base n : Nat) (v : Value) (l : List Due) (hl : l.length = n) (hn : n ≤ 268435456) (hb : base ≤ w.heap.size) (h : w.ownsRow base 105 2 v n (l.flatMap dueC)) (hne : l = [] → v = .slice none 0 0) (hok : ∀ x ∈ l, DueOk w base x) :
    Calls Tryz.prog 36 #[v, .func (.func 37) #[] #[]] w fun r w' => r = .returned (.tuple #[]) ∧ ∃ l' : List Due, l'.Perm l ∧ l'.Pairwise (fun x y => ¬ cmpD y x < 0) ∧ w'.ownsRow base 105 2 v n (l'.flatMap dueC) ∧ w.grownBy w' v.ownBlock := by
  cases l with
  | nil =>
    have hv := hne rfl
    subst hv
    subst hl
    refine (AnyF.slices_SortFunc_none Tryz.sortDue none 0 _ w).mono ?_
    rintro r w' ⟨rfl, rfl⟩
    exact ⟨rfl, [], List.Perm.refl _, List.Pairwise.nil, h, ⟨rfl, rfl, rfl, Nat.le_refl _, fun _ _ _ => rfl⟩⟩
  | cons x0 l0 =>
    haveI : Inhabited {x // DueOk w base x} := ⟨⟨x0, hok x0 (.head _)⟩⟩
    obtain ⟨L, hL⟩ := map_back hok
    have hflat : L.flatMap (fun x => dueC x.1) = (x0 :: l0).flatMap dueC := by rw [← hL, List.flatMap_map]
    have hLl : L.length = n := by rw [← hl, ← hL, List.length_map]
    have eg : ∀ args w, (callFunc 37 args).run Tryz.prog w = .ok (.enter 37 args) w := enters_of Tryz.func37 (by kernel_rfl) rfl
    have hO : SWO (ltOf fun x y : {x // DueOk w base x} => cmpD x.1 y.1) := ⟨fun x => swoD.irrefl x.1, fun x y z => swoD.trans x.1 y.1 z.1, fun x y z => swoD.ntrans x.1 y.1 z.1⟩
    have hk2 : ∀ x : {x // DueOk w base x}, (dueC x.1).length = 2 := fun _ => rfl
    refine (sortF_row Tryz.sortDue 2 (by omega) Tryz.isAgg105 Tryz.sizeOf105 (fun x : {x // DueOk w base x} => dueC x.1) hk2 (fun x v hv => by simp [dueC] at hv; rcases hv with rfl | rfl <;> rfl) (fun x y => cmpD x.1 y.1) hO 37 #[] w base 105 n v L hLl hn eg ?_ (by rw [hflat]; exact h)).mono ?_
    · intro blk cap hv m os dk hdk x y
      subst hv
      have hrow : w.ownsRow base 105 2 (.slice (some ⟨blk, 0, none⟩) n cap) n ((flatK (fun x : {x // DueOk w base x} => dueC x.1) 2 L.toArray).toList.map id) := by rw [flatM_toList (by omega) hk2, List.map_id, List.toList_toArray, hflat]; exact h
      have hg := (sort_row (d' := flatK (fun x : {x // DueOk w base x} => dueC x.1) 2 dk) id hrow (by simp [flatK, hdk, hLl]) m os).2
      have hbb : base ≤ blk := (h.lt blk rfl).1
      have key : ∀ z : {x // DueOk w base x}, (sortWorldK (fun x : {x // DueOk w base x} => dueC x.1) 2 w blk 0 m dk os).cell? ⟨z.1.b, 3, none⟩ = some (.int .i64 z.1.at_) := fun z => by
        have hz := z.2
        refine (World.cell?_of_block (w := w) (a := ⟨z.1.b, 3, none⟩) (hg.block z.1.b (Nat.lt_of_lt_of_le hz.2 hb) fun e => ?_)).trans hz.1
        have : z.1.b = blk := by simpa using e
        have := hz.2
        omega
      have hsz : w.heap.size ≤ (sortWorldK (fun x : {x // DueOk w base x} => dueC x.1) 2 w blk 0 m dk os).heap.size := hg.size
      exact sweep1_any x.1 y.1 _ (key x) (key y) (Nat.lt_of_lt_of_le x.2.2 (Nat.le_trans hb hsz)) (Nat.lt_of_lt_of_le y.2.2 (Nat.le_trans hb hsz))
    · rintro r w' ⟨rfl, L', hp, hs, hr, hg⟩
      refine ⟨rfl, L'.map (·.1), ?_, ?_, ?_, hg⟩
      · rw [← hL]; exact hp.map _
      · rw [List.pairwise_map]
        refine hs.imp fun {a b} e => ?_
        simpa [ltOf] using e
      · rw [List.flatMap_map]; exact hr
end Go.Proofs.YtelbmphmihjgfaaGreat.DEnt

/- Sweep: the plain law. -/
set_option linter.unusedVariables false
set_option linter.unusedSimpArgs false
namespace Pantry
open Go Go.RowKit Go.Proofs Go.Sort
def KE.due (e : KE) : Due := ⟨e.key, e.b, e.dl⟩
/-- What is due, in its order. -/
def Sp.Dues (X : Sp) (l : List Due) : Prop := l.Perm ((X.ents.filter fun e => e.past X.now).map KE.due) ∧ l.Pairwise fun x y => ¬ cmpD y x < 0
theorem cmpD_zero {x y : Due} (h1 : ¬ cmpD x y < 0) (h2 : ¬ cmpD y x < 0) : x.key = y.key := by
  rw [cmpD_lt] at h1 h2
  have e1 : ¬ x.at_ < y.at_ := fun e => h1 (.inl e)
  have e2 : ¬ y.at_ < x.at_ := fun e => h2 (.inl e)
  have k1 : ¬ cmpB x.key y.key < 0 := fun e => h1 (.inr ⟨by omega, e⟩)
  have k2 : ¬ cmpB y.key x.key < 0 := fun e => h2 (.inr ⟨by omega, e⟩)
  rcases Decidable.em (x.key = y.key) with e | e
  · exact e
  · rcases cmpB_tri e with h | h
    · exact absurd h k1
    · exact absurd h k2
theorem Sp.Dues.keys {X : Sp} (hg : SpGood X) {l : List Due} (h : X.Dues l) : (l.map (·.key)).Nodup := by
  have h1 := h.1.map (·.key)
  refine h1.nodup_iff.2 ?_
  rw [List.map_map]
  exact hg.keys.sublist ((List.filter_sublist).map _)
theorem Sp.Dues.strict {X : Sp} (hg : SpGood X) {l : List Due} (h : X.Dues l) : l.Pairwise fun x y => cmpD x y < 0 := by
  have hk := List.pairwise_map.1 (h.keys hg)
  refine (hk.and h.2).imp fun {a b} ⟨e1, e2⟩ => ?_
  rcases Decidable.em (cmpD a b < 0) with e | e
  · exact e
  · exact absurd (cmpD_zero e e2) e1
theorem cmpD_irr (x : Due) : ¬ cmpD x x < 0 := by simpa [ltOf] using swoD.irrefl x
theorem Sp.Dues.unique {X : Sp} (hg : SpGood X) {l m : List Due} (h : X.Dues l) (k : X.Dues m) : l = m :=
  rising_unique (R := fun x y => cmpD x y < 0) cmpD_irr (fun {a b c} h1 h2 => by
    have := swoD.trans a b c (by simpa [ltOf] using h1) (by simpa [ltOf] using h2)
    simpa [ltOf] using this) (h.1.trans k.1.symm) (h.strict hg) (k.strict hg)
/-- Each of them expires. -/
def Sp.expAll (X : Sp) : List Due → Sp
  | [] => X
  | d :: l => (X.expires d.key).expAll l
theorem expires_now (X : Sp) (k : List UInt8) : (X.expires k).now = X.now := rfl
theorem mem_expires {X : Sp} {k : List UInt8} {e : KE} (he : e ∈ X.ents) (hk : e.key ≠ k) : e ∈ (X.expires k).ents := List.mem_filter.2 ⟨he, by simpa using hk⟩
theorem expAll_good : ∀ (l : List Due) {X : Sp}, SpGood X → (l.map (·.key)).Nodup → (∀ d ∈ l, ∃ e ∈ X.ents, e.due = d) → SpGood (X.expAll l) ∧ (X.expAll l).mass ≤ X.mass
  | [], X, h, _, _ => ⟨h, Nat.le_refl _⟩
  | d :: l, X, h, hn, hm => by
    obtain ⟨e, he, rfl⟩ := hm d (.head _)
    obtain ⟨h1, h2⟩ := h.expires he
    rw [List.map_cons, List.nodup_cons] at hn
    obtain ⟨h3, h4⟩ := expAll_good l h1 hn.2 fun d' hd => by
      obtain ⟨e', he', rfl⟩ := hm d' (.tail _ hd)
      exact ⟨e', mem_expires he' fun hk => hn.1 (List.mem_map.2 ⟨e'.due, hd, hk⟩), rfl⟩
    exact ⟨h3, Nat.le_trans h4 (Nat.le_of_succ_le h2)⟩
theorem expAll_append (X : Sp) (l : List Due) (d : Due) : X.expAll (l ++ [d]) = (X.expAll l).expires d.key := by
  induction l generalizing X with
  | nil => rfl
  | cons x l ih => exact ih _
theorem expAll_mem : ∀ (l : List Due) {X : Sp} {e : KE}, e ∈ X.ents → (∀ d ∈ l, e.key ≠ d.key) → e ∈ (X.expAll l).ents
  | [], X, e, he, _ => he
  | d :: l, X, e, he, h => expAll_mem l (mem_expires he (h d (.head _))) fun d' hd => h d' (.tail _ hd)
end Pantry
