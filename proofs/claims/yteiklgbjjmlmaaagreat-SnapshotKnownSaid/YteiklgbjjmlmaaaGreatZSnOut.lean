
/- A growing row of stored keys that is written in place: what it holds, one put, one more. -/
import Derived.Test.YteiklgbjjmlmaaaGreatZSnLd3
import Derived.Test.YteiklgbjjmlmaaaGreatZVTold
import Derived.Test.YteiklgbjjmlmaaaGreatZSnForm
import Derived.BigQuiet
import Derived.Deep.RegionHeld3
set_option linter.unusedVariables false
set_option linter.unusedSimpArgs false
namespace Pantry
open Go Go.RowKit
end Pantry
namespace Go.Proofs.YteiklgbjjmlmaaaGreat
open Go.RowKit Pantry

end Go.Proofs.YteiklgbjjmlmaaaGreat


/- The law's own within and right. -/
set_option linter.unusedVariables false
set_option linter.unusedSimpArgs false
namespace Go.Proofs.YteiklgbjjmlmaaaGreat
open Go.RowKit Pantry

end Go.Proofs.YteiklgbjjmlmaaaGreat


/- The law's own right: its walk (printed by tools/gen-right.py). -/
set_option linter.unusedVariables false
set_option linter.unusedSimpArgs false
namespace Go.Proofs.YteiklgbjjmlmaaaGreat
open Go.RowKit Pantry

attribute [-go_sem] Builtin.append_
end Go.Proofs.YteiklgbjjmlmaaaGreat


/- The law's own great (printed by tools/gen-great.py). -/
set_option linter.unusedVariables false
set_option linter.unusedSimpArgs false
namespace Pantry
end Pantry
namespace Go.Proofs.YteiklgbjjmlmaaaGreat
open Go.RowKit Pantry

end Go.Proofs.YteiklgbjjmlmaaaGreat


/- SnapshotBack's walk: keys that may be saved are loaded as they were saved; what is loaded is saved as the same bytes. -/
set_option linter.unusedVariables false
set_option linter.unusedSimpArgs false
namespace Pantry
end Pantry
namespace Go.Proofs.YteiklgbjjmlmaaaGreat
open Go.RowKit Pantry

attribute [-go_sem] Builtin.append_
end Go.Proofs.YteiklgbjjmlmaaaGreat


/- SnapshotHarmed's walk: bits of a snapshot turned within 64 bits beside one another: it is refused. -/
set_option linter.unusedVariables false
set_option linter.unusedSimpArgs false
namespace Pantry
open Go Go.RowKit
/-- A byte of a row is written. -/
theorem ownB_set {w : World} {base g n cap : Nat} {e : TypeId} {l : List UInt8} (h : OwnB w base e (.slice (some ⟨g, 0, none⟩) n cap) l) {i : Nat} {x : UInt8} (hx : l[i]? = some x) :
    w.cell? ⟨g, i, none⟩ = some (.int .u8 (x.toNat : Int)) ∧ w.frozen? ⟨g, i, none⟩ = false ∧ base ≤ g ∧ ∀ y : UInt8, OwnB (w.setCell ⟨g, i, none⟩ (.int .u8 (y.toNat : Int))) base e (.slice (some ⟨g, 0, none⟩) n cap) (l.set i y) := by
  have hi : i < l.length := (List.getElem?_eq_some_iff.1 hx).1
  rcases h with ⟨h0, -⟩ | ⟨g', cap', cur, fz, h0, hb, hg, hf, hl, hm, hs, ht⟩
  · cases h0
  · obtain ⟨h1, rfl, rfl⟩ := Value.slice.inj h0
    obtain rfl : g = g' := by injection h1 with h1; injection h1
    have hci : cur[i]? = some (.int .u8 (x.toNat : Int)) := by
      have h2 : (cur.toList.take l.length)[i]? = some (.int .u8 (x.toNat : Int)) := by rw [ht, b8_get, hx]; rfl
      rw [List.getElem?_take, if_pos hi] at h2
      simpa using h2
    have hfz : w.frozen? ⟨g, i, none⟩ = false := by
      obtain ⟨lo, hi2⟩ := fz
      simp only [World.frozen?, hg]
      rcases hf with hf | hf
      · cases hf; simp
      · simp only at hf; simp; omega
    refine ⟨(cell_of_row w g i _ _ _ hg).trans hci, hfz, hb, fun y => ?_⟩
    refine .inr ⟨g, cap, cur.setIfInBounds i (.int .u8 (y.toNat : Int)), fz, by rw [List.length_set], hb, ?_, hf, by rw [List.length_set]; exact hl, hm, by rw [Array.size_setIfInBounds]; exact hs, ?_⟩
    · rw [setCell_eq_setRow w g i _ _ fz _ hg]
      exact setRow_heap w g _ _ _ _ hg
    · rw [List.length_set, Array.toList_setIfInBounds, List.take_set, ht, b8_set]
end Pantry
namespace Go.Proofs.YteiklgbjjmlmaaaGreat
open Go.RowKit Pantry
attribute [-go_sem] Builtin.append_
end Go.Proofs.YteiklgbjjmlmaaaGreat


/- SnapshotKnown's walk: the chapter's examples. -/
set_option linter.unusedVariables false
set_option linter.unusedSimpArgs false
namespace Pantry
def kText : PD := ⟨1, [97, 98], [], [], []⟩
def kOne : List SE := [⟨[107], kText, 300⟩]
def kR0 : List SE := [⟨[98], kText, 0⟩, ⟨[97], kText, 0⟩]
def kR1 : List SE := [⟨[97], kText, 0⟩, ⟨[97], kText, 0⟩]
def kR2 : List SE := [⟨[97], kText, -1⟩]
def kR3 : List SE := [⟨[97], ⟨2, [], [], [], []⟩, 0⟩]
def kR4 : List SE := [⟨[97], ⟨0, [], [], [], []⟩, 0⟩]
def kR5 : List SE := [⟨[97], ⟨5, [], [], [], [([97], 4611686018427387904), ([98], 4607182418800017408)]⟩, 0⟩]
def kR6 : List SE := [⟨[97], ⟨4, [], [[98], [97]], [], []⟩, 0⟩]
def kBad : List (List SE) := [kR0, kR1, kR2, kR3, kR4, kR5, kR6]
def isErr (c : Int) (r : Except Int (List UInt8)) : Bool := match r with | .error e => e == c | .ok _ => false
def isErrL (c : Int) (r : Except Int (Nat × List SE)) : Bool := match r with | .error e => e == c | .ok _ => false
theorem isErr_eq {c : Int} {r : Except Int (List UInt8)} (h : isErr c r = true) : r = .error c := by
  cases r with
  | error e => simp [isErr] at h; rw [h]
  | ok b => simp [isErr] at h
theorem isErrL_eq {c : Int} {r : Except Int (Nat × List SE)} (h : isErrL c r = true) : r = .error c := by
  cases r with
  | error e => simp [isErrL] at h; rw [h]
  | ok b => simp [isErrL] at h
theorem k_bad : kBad.all (fun l => isErr 290 (saveR 0 l)) = true := by decide +kernel
theorem k_early : saveR (-1) [] = .error 3 := isErr_eq (by decide +kernel)
theorem k_late : saveR 9007199254740993 [] = .error 3 := isErr_eq (by decide +kernel)
def kB5 : List UInt8 := bodyB 5 [] ++ eightB (sumB (bodyB 5 []))
def kC : List UInt8 := bodyB 0 kOne ++ eightB (sumB (bodyB 0 kOne))
theorem k_b5 : saveR 5 [] = .ok kB5 := by
  unfold saveR
  rw [if_neg (by omega), show rightFrom [] [] = true from rfl, if_neg (by simp), if_neg (by decide)]
  rfl
theorem k_c : saveR 0 kOne = .ok kC := by
  unfold saveR
  rw [if_neg (by omega), show rightFrom [] kOne = true by decide, if_neg (by simp), if_neg (by decide)]
  rfl
theorem k_b5_take : kB5.take 10 = [112, 97, 110, 116, 114, 121, 0, 1, 5, 0] := by decide +kernel
theorem k_b5_len : kB5.length = 18 := by decide +kernel
theorem k_c_mid : (kC.drop 6).take 12 = [0, 1, 0, 1, 1, 107, 172, 2, 1, 2, 97, 98] := by decide +kernel
theorem k_c_len : kC.length = 26 := by decide +kernel
theorem k_c5 : kC[5]? = some 121 := by decide +kernel
theorem k_wrong : loadR (kC.set 5 122) = .error 290 := isErrL_eq (by decide +kernel)
theorem k_c25 : kC[25]? = some 34 := by decide +kernel
theorem k_back : (kC.set 5 122).set 5 121 = kC := by decide +kernel
theorem k_bad_at {l : List SE} (h : l ∈ kBad) : saveR 0 l = .error 290 := isErr_eq (List.all_eq_true.1 k_bad l h)
theorem k_set5 : (kC.set 5 122)[5]? = some 122 := by decide +kernel
theorem k_sum : loadR (kC.set 25 38) = .error 291 := isErrL_eq (by decide +kernel)
theorem k_none : loadR [] = .error 5 := isErrL_eq (by decide +kernel)
theorem k_other : loadR [113] = .error 290 := isErrL_eq (by decide +kernel)
theorem k_two : loadR [112, 97, 110, 116, 114, 121, 0, 1, 133, 0, 0] = .error 290 := isErrL_eq (by decide +kernel)
theorem k_big : ∀ l ∈ kBad, l.length ≤ 2 ∧ ∀ x ∈ l, x.key.length ≤ 1 ∧ x.val.text.length ≤ 2 ∧ x.val.items.length ≤ 2 ∧ x.val.pairs.length ≤ 2 ∧ x.val.ranks.length ≤ 2 ∧ (∀ s ∈ x.val.items, s.length ≤ 2) ∧ (∀ f ∈ x.val.pairs, f.1.length ≤ 2 ∧ f.2.length ≤ 2) ∧ (∀ m ∈ x.val.ranks, m.1.length ≤ 2 ∧ m.2 < 18446744073709551616) := by decide +kernel
end Pantry
namespace Go.Proofs.YteiklgbjjmlmaaaGreat
open Go.RowKit Pantry
theorem k_sbig {l : List SE} (h : l ∈ kBad) : SBig l := by
  obtain ⟨h0, h1⟩ := k_big l h
  refine ⟨by omega, fun x hx => ?_, fun x hx => by have := (h1 x hx).1; omega, fun x hx y hy => ((h1 x hx).2.2.2.2.2.2.2 y hy).2⟩
  obtain ⟨-, a1, a2, a3, a4, a5, a6, a7⟩ := h1 x hx
  exact ⟨by omega, by omega, by omega, by omega, fun s hs => by have := a5 s hs; omega, fun f hf => by have := (a6 f hf).1; omega, fun f hf => by have := (a6 f hf).2; omega, fun m hm => by have := (a7 m hm).1; omega⟩
theorem none_big : SBig [] := ⟨by simp, by simp, by simp, by intro x hx; cases hx⟩
theorem one_big : SBig kOne := ⟨by decide, by intro x hx; simp [kOne] at hx; subst hx; exact ⟨by decide, by decide, by decide, by decide, by simp [kText], by simp [kText], by simp [kText], by simp [kText]⟩, by intro x hx; simp [kOne] at hx; subst hx; decide, by intro x hx y hy; simp [kOne] at hx; subst hx; simp [kText] at hy⟩
theorem srow_nil (w : World) (a : Option Addr) : SRow w a [] := fun i x hx => by simp at hx
theorem barg_nil (w : World) : BArg w none 0 0 [] := ⟨rfl, Nat.le_refl _, by decide, fun _ => rfl, Rd.nil _ _, by decide⟩
theorem barg_new (w : World) (C : Array Value) (fz : Nat × Nat) (l : List UInt8) (hC : C.toList = b8 l) (hl : l.length ≤ 1000) : BArg (w.alloc (.cells C 5 fz)) (some ⟨w.heap.size, 0, none⟩) l.length l.length l := by
  refine ⟨rfl, Nat.le_refl _, by omega, fun h => (by cases h), ?_, by omega⟩
  rw [← hC]
  exact Rd.new w C 5 fz (fun u hu => b8_one l u (by rw [← hC]; simpa using hu))
/-- A slice of an argument. -/
theorem BArg.drop {w : World} {x : Addr} {n c : Nat} {l : List UInt8} (h : BArg w (some x) n c l) {k : Nat} (hk : k ≤ n) : BArg w (some (x.add k)) (n - k) (c - k) (l.drop k) := by
  refine ⟨by rw [List.length_drop, h.len], by have := h.cap; omega, by have := h.max; omega, fun h => by (cases h), fun j u hu => ?_, by have := h.few; omega⟩
  rw [show b8 (l.drop k) = (b8 l).drop k by simp [b8, List.map_drop], List.getElem?_drop] at hu
  obtain ⟨k1, y, hy, k2⟩ := h.rd _ _ hu
  obtain rfl : x = y := by simpa using hy
  exact ⟨k1, _, rfl, by rw [Addr.add_add]; exact k2⟩
theorem se_at {W : World} {g : Nat} {C : Array Value} {t : TypeId} {fz : Nat × Nat} (h : W.heap[g]? = some (.cells C t fz)) (o : Nat) (x : SE) (a1 a2 a3 : Option Addr) (c1 c2 c3 : Nat)
    (hC : (C.toList.drop o).take 7 = seC x a1 a2 a3 c1 c2 c3) (hp : PlainAt W x.val a1 a2 a3) : SEAt W ⟨g, o, none⟩ x := by
  refine ⟨a1, a2, a3, c1, c2, c3, fun j u hu => ?_, hp⟩
  rw [← hC] at hu
  have hj := (List.getElem?_eq_some_iff.1 hu).1
  rw [List.length_take] at hj
  rw [List.getElem?_take_of_lt (by omega), List.getElem?_drop, Array.getElem?_toList] at hu
  rw [show (⟨g, o, none⟩ : Addr).add j = ⟨g, o + j, none⟩ by simp [Addr.add], cell_of_row W g (o + j) _ _ _ h]
  exact hu
theorem row_one {W : World} {g : Nat} {x : SE} (h : SEAt W ⟨g, 0, none⟩ x) : SRow W (some ⟨g, 0, none⟩) [x] := by
  intro i y hy
  have hi := (List.getElem?_eq_some_iff.1 hy).1
  obtain rfl : i = 0 := by simp at hi; omega
  obtain rfl : x = y := by simpa using hy
  exact ⟨_, rfl, by rw [Nat.zero_mul, Addr.add_base]; exact h⟩
theorem row_two {W : World} {g : Nat} {x y : SE} (h : SEAt W ⟨g, 0, none⟩ x) (h2 : SEAt W ⟨g, 7, none⟩ y) : SRow W (some ⟨g, 0, none⟩) [x, y] := by
  intro i z hz
  have hi := (List.getElem?_eq_some_iff.1 hz).1
  obtain rfl | rfl : i = 0 ∨ i = 1 := by simp at hi; omega
  · obtain rfl : x = z := by simpa using hz
    exact ⟨_, rfl, by rw [Nat.zero_mul, Addr.add_base]; exact h⟩
  · obtain rfl : y = z := by simpa using hz
    exact ⟨_, rfl, by rw [Nat.one_mul, Addr.add_base]; exact h2⟩
theorem rd_at {W : World} {g : Nat} {C : Array Value} {t : TypeId} {fz : Nat × Nat} (h : W.heap[g]? = some (.cells C t fz)) (h1 : ∀ u ∈ C, u.oneCell' = true) : Rd W (some ⟨g, 0, none⟩) C.toList := by
  intro j u hu
  rw [Array.getElem?_toList] at hu
  exact ⟨h1 u (Array.mem_of_getElem? hu), _, rfl, by rw [Addr.add_base, cell_of_row W g j _ _ _ h]; exact hu⟩
theorem ten_allocs {P : _} {c : _} {K : _} {f : _} {w : World} {o0 o1 o2 o3 o4 o5 o6 o7 o8 o9 : Obj}
    (h : ∀ W : World, Below w.heap.size w W → W.heap[w.heap.size]? = some o0 → W.heap[w.heap.size + 1]? = some o1 → W.heap[w.heap.size + 1 + 1]? = some o2 → W.heap[w.heap.size + 1 + 1 + 1]? = some o3 →
      W.heap[w.heap.size + 1 + 1 + 1 + 1]? = some o4 → W.heap[w.heap.size + 1 + 1 + 1 + 1 + 1]? = some o5 → W.heap[w.heap.size + 1 + 1 + 1 + 1 + 1 + 1]? = some o6 → W.heap[w.heap.size + 1 + 1 + 1 + 1 + 1 + 1 + 1]? = some o7 →
      W.heap[w.heap.size + 1 + 1 + 1 + 1 + 1 + 1 + 1 + 1]? = some o8 → W.heap[w.heap.size + 1 + 1 + 1 + 1 + 1 + 1 + 1 + 1 + 1]? = some o9 → Code.wp P c K f W) :
    Code.wp P c K f ((((((((((w.alloc o0).alloc o1).alloc o2).alloc o3).alloc o4).alloc o5).alloc o6).alloc o7).alloc o8).alloc o9) := by
  have key : ∀ (w : World) (o : Obj) (W : World), Below (w.alloc o).heap.size (w.alloc o) W → Below w.heap.size w W ∧ W.heap[w.heap.size]? = some o := fun w o W hb =>
    ⟨((Below.refl w.heap.size w).alloc (Nat.le_refl _) o).trans (hb.mono (by simp)), (hb.block _ (by simp)).trans (heap_alloc_new w o)⟩
  have k9 := key (((((((((w.alloc o0).alloc o1).alloc o2).alloc o3).alloc o4).alloc o5).alloc o6).alloc o7).alloc o8) o9 _ (Below.refl _ _)
  have k8 := key _ _ _ k9.1
  have k7 := key _ _ _ k8.1
  have k6 := key _ _ _ k7.1
  have k5 := key _ _ _ k6.1
  have k4 := key _ _ _ k5.1
  have k3 := key _ _ _ k4.1
  have k2 := key _ _ _ k3.1
  have k1 := key _ _ _ k2.1
  have k0 := key _ _ _ k1.1
  have hsz : ∀ (w : World) (o : Obj), (w.alloc o).heap.size = w.heap.size + 1 := fun _ _ => by simp
  simp only [hsz] at k0 k1 k2 k3 k4 k5 k6 k7 k8 k9
  exact h _ k0.1 k0.2 k1.2 k2.2 k3.2 k4.2 k5.2 k6.2 k7.2 k8.2 k9.2
theorem k_rows {W : World} {n : Nat}
    (b0 : W.heap[n]? = some (.cells #[.string ⟨#[98]⟩, .int .i64 1, .string ⟨#[97, 98]⟩, .slice none 0 0, .slice none 0 0, .slice none 0 0, .int .i64 0, .string ⟨#[97]⟩, .int .i64 1, .string ⟨#[97, 98]⟩, .slice none 0 0, .slice none 0 0, .slice none 0 0, .int .i64 0] 51))
    (b1 : W.heap[n + 1]? = some (.cells #[.string ⟨#[97]⟩, .int .i64 1, .string ⟨#[97, 98]⟩, .slice none 0 0, .slice none 0 0, .slice none 0 0, .int .i64 0, .string ⟨#[97]⟩, .int .i64 1, .string ⟨#[97, 98]⟩, .slice none 0 0, .slice none 0 0, .slice none 0 0, .int .i64 0] 51))
    (b2 : W.heap[n + 1 + 1]? = some (.cells #[.string ⟨#[97]⟩, .int .i64 1, .string ⟨#[97, 98]⟩, .slice none 0 0, .slice none 0 0, .slice none 0 0, .int .i64 (-1)] 51))
    (b3 : W.heap[n + 1 + 1 + 1]? = some (.cells #[.string ⟨#[97]⟩, .int .i64 2, .string ⟨#[]⟩, .slice none 0 0, .slice none 0 0, .slice none 0 0, .int .i64 0] 51))
    (b4 : W.heap[n + 1 + 1 + 1 + 1]? = some (.cells #[.string ⟨#[97]⟩, .int .i64 0, .string ⟨#[]⟩, .slice none 0 0, .slice none 0 0, .slice none 0 0, .int .i64 0] 51))
    {t5 t7 t9 : TypeId}
    (b5 : W.heap[n + 1 + 1 + 1 + 1 + 1]? = some (.cells #[.string ⟨#[97]⟩, .float .f64 4611686018427387904, .string ⟨#[98]⟩, .float .f64 4607182418800017408] t5))
    (b6 : W.heap[n + 1 + 1 + 1 + 1 + 1 + 1]? = some (.cells #[.string ⟨#[97]⟩, .int .i64 5, .string ⟨#[]⟩, .slice none 0 0, .slice none 0 0, .slice (some ⟨n + 1 + 1 + 1 + 1 + 1, 0, none⟩) 2 2, .int .i64 0] 51))
    (b7 : W.heap[n + 1 + 1 + 1 + 1 + 1 + 1 + 1]? = some (.cells #[.string ⟨#[98]⟩, .string ⟨#[97]⟩] t7))
    (b8 : W.heap[n + 1 + 1 + 1 + 1 + 1 + 1 + 1 + 1]? = some (.cells #[.string ⟨#[97]⟩, .int .i64 4, .string ⟨#[]⟩, .slice (some ⟨n + 1 + 1 + 1 + 1 + 1 + 1 + 1, 0, none⟩) 2 2, .slice none 0 0, .slice none 0 0, .int .i64 0] 51))
    (b9 : W.heap[n + 1 + 1 + 1 + 1 + 1 + 1 + 1 + 1 + 1]? = some (.cells #[.slice (some ⟨n, 0, none⟩) 2 2, .slice (some ⟨n + 1, 0, none⟩) 2 2, .slice (some ⟨n + 1 + 1, 0, none⟩) 1 1, .slice (some ⟨n + 1 + 1 + 1, 0, none⟩) 1 1, .slice (some ⟨n + 1 + 1 + 1 + 1, 0, none⟩) 1 1,
      .slice (some ⟨n + 1 + 1 + 1 + 1 + 1 + 1, 0, none⟩) 1 1, .slice (some ⟨n + 1 + 1 + 1 + 1 + 1 + 1 + 1 + 1, 0, none⟩) 1 1] t9)) :
    ∀ j, j < 7 → ∃ l g m, l ∈ kBad ∧ l.length = m ∧ W.cell? ⟨n + 1 + 1 + 1 + 1 + 1 + 1 + 1 + 1 + 1, j, none⟩ = some (.slice (some ⟨g, 0, none⟩) m m) ∧ SRow W (some ⟨g, 0, none⟩) l := by
  have hp0 : ∀ p : PD, p.items = [] → p.pairs = [] → p.ranks = [] → PlainAt W p none none none := fun p h1 h2 h3 => ⟨by rw [h1]; exact Rd.nil _ _, by rw [h2]; exact Rd.nil _ _, by rw [h3]; exact Rd.nil _ _⟩
  have hr5 := rd_at b5 (by intro u hu; simp at hu; rcases hu with rfl | rfl | rfl | rfl <;> rfl)
  have hr7 := rd_at b7 (by intro u hu; simp at hu; rcases hu with rfl | rfl <;> rfl)
  intro j hj
  obtain rfl | rfl | rfl | rfl | rfl | rfl | rfl : j = 0 ∨ j = 1 ∨ j = 2 ∨ j = 3 ∨ j = 4 ∨ j = 5 ∨ j = 6 := by omega
  · exact ⟨kR0, _, 2, by simp [kBad], rfl, cell_of_row W _ 0 _ _ _ b9, row_two (se_at b0 0 _ none none none 0 0 0 rfl (hp0 _ rfl rfl rfl)) (se_at b0 7 _ none none none 0 0 0 rfl (hp0 _ rfl rfl rfl))⟩
  · exact ⟨kR1, _, 2, by simp [kBad], rfl, cell_of_row W _ 1 _ _ _ b9, row_two (se_at b1 0 _ none none none 0 0 0 rfl (hp0 _ rfl rfl rfl)) (se_at b1 7 _ none none none 0 0 0 rfl (hp0 _ rfl rfl rfl))⟩
  · exact ⟨kR2, _, 1, by simp [kBad], rfl, cell_of_row W _ 2 _ _ _ b9, row_one (se_at b2 0 _ none none none 0 0 0 rfl (hp0 _ rfl rfl rfl))⟩
  · exact ⟨kR3, _, 1, by simp [kBad], rfl, cell_of_row W _ 3 _ _ _ b9, row_one (se_at b3 0 _ none none none 0 0 0 rfl (hp0 _ rfl rfl rfl))⟩
  · exact ⟨kR4, _, 1, by simp [kBad], rfl, cell_of_row W _ 4 _ _ _ b9, row_one (se_at b4 0 _ none none none 0 0 0 rfl (hp0 _ rfl rfl rfl))⟩
  · exact ⟨kR5, _, 1, by simp [kBad], rfl, cell_of_row W _ 5 _ _ _ b9, row_one (se_at b6 0 _ none none _ 0 0 2 rfl ⟨Rd.nil _ _, Rd.nil _ _, hr5⟩)⟩
  · exact ⟨kR6, _, 1, by simp [kBad], rfl, cell_of_row W _ 6 _ _ _ b9, row_one (se_at b8 0 _ _ none none 2 0 0 rfl ⟨hr7, Rd.nil _ _, Rd.nil _ _⟩)⟩
theorem new_load (W : World) (C : Array Value) (fz : Nat × Nat) (l : List UInt8) (hC : C.toList = b8 l) (hl : l.length ≤ 1000) (n : Nat) (hn : l.length = n) {ec : Int} (he : loadR l = .error ec) :
    Calls Tryz.prog 18 #[.slice (some ⟨W.heap.size, 0, none⟩) n n] (W.alloc (.cells C 5 fz)) (Loaded (W.alloc (.cells C 5 fz)) (.error ec)) := by
  have h := barg_new W C fz l hC hl
  rw [hn] at h
  rw [← he]
  exact h.load
theorem own_load {W : World} {base g c : Nat} {l : List UInt8} {ec : Int} (h : OwnB W base 5 (.slice (some ⟨g, 0, none⟩) 26 c) l) (hl : l.length = 26) (he : loadR l = .error ec) :
    Calls Tryz.prog 18 #[.slice (some ⟨g, 0, none⟩) 26 c] W (Loaded W (.error ec)) := by
  obtain ⟨a, cc, hv, hba⟩ := ownB_barg h (by rw [hl]; decide)
  obtain ⟨rfl, -, rfl⟩ := Value.slice.inj hv
  rw [hl] at hba
  rw [← he]
  exact hba.load
attribute [-go_sem] Builtin.append_
set_option maxRecDepth 100000 in
set_option maxHeartbeats 16000000 in
theorem known_any (w : World) : Calls Tryz.prog 8 #[] w (SamePost true w) := by
  have HW := Lib.hid (wakes29_any w)
  have HSM : ∀ W, Hid (Calls Tryz.prog 24 #[.slice none 0 0] W fun e w' => e = .returned (.int .u64 0) ∧ W = w') := fun W => Lib.hid (by
    have h := sum_any none 0 0 [] W rfl (by decide) (Rd.nil _ _)
    rw [show sumB [] = 0 by decide +kernel] at h
    exact h)
  have HS5 : ∀ W, Hid (Calls Tryz.prog 11 #[.int .i64 5, .slice none 0 0] W (SavePost (.ok kB5) W)) := fun W => Lib.hid (by rw [← k_b5]; exact save_any W 5 none 0 0 [] rfl (Nat.le_refl _) (srow_nil _ _) none_big)
  go_enter Tryz.func8, Tryz.ntmps8
  go_upto_region 4 with (first
    | (go_at_call 21; refine HW.out.mono ?_; rintro e w1 ⟨rfl, hb1⟩; have HB1 := Lib.hid hb1; clear hb1)
    | (go_at_call 24; refine (HSM _).out.mono ?_; rintro e w2 ⟨rfl, rfl⟩)
    | (go_at_call 11; refine (HS5 _).out.mono ?_; rintro e w3 ⟨hb3, v3, rfl, ho3⟩
       obtain ⟨a3, c3, rfl, hba⟩ := ownB_barg ho3 (by rw [k_b5_len]; decide)
       have HB3 := Lib.hid (HB1.out.trans (hb3.mono HB1.out.size))
       have HBA := Lib.hid hba
       clear hb3 ho3 hba))
  rw [k_b5_len] at HBA ⊢
  have hc3 := HBA.out.cap
  have hm3 := HBA.out.max
  obtain ⟨x3, rfl⟩ : ∃ x, a3 = some x := by
    cases a3 with
    | none => have := HBA.out.nil rfl; omega
    | some x => exact ⟨x, rfl⟩
  have hc3i : (10 : Int) ≤ (c3 : Int) := by omega
  have HEQ := Lib.hid (sameB_self29 (some x3) (some ⟨w3.heap.size, 0, none⟩) 10 c3 10 [112, 97, 110, 116, 114, 121, 0, 1, 5, 0] (w3.alloc (.cells #[.int .u8 112, .int .u8 97, .int .u8 110, .int .u8 116, .int .u8 114, .int .u8 121, .int .u8 0, .int .u8 1, .int .u8 5, .int .u8 0] 5)) rfl (by decide)
    (by rw [← k_b5_take]; exact ((HBA.out.take (k := 10) (by decide)).rd).alloc _)
    (barg_new w3 #[.int .u8 112, .int .u8 97, .int .u8 110, .int .u8 116, .int .u8 114, .int .u8 121, .int .u8 0, .int .u8 1, .int .u8 5, .int .u8 0] (0, 0) [112, 97, 110, 116, 114, 121, 0, 1, 5, 0] rfl (by decide)).rd)
  go_upto_region 6 with (go_at_call 12; refine HEQ.out.mono ?_; rintro e w4 ⟨rfl, q4, rfl⟩)
  obtain ⟨W4, hW4⟩ : ∃ W4, ((w3.alloc (.cells #[.int .u8 112, .int .u8 97, .int .u8 110, .int .u8 116, .int .u8 114, .int .u8 121, .int .u8 0, .int .u8 1, .int .u8 5, .int .u8 0] 5)).drewN q4) = W4 := ⟨_, rfl⟩
  have HB4 : Hid (Below w.heap.size w W4) := Lib.hid (by rw [← hW4]; exact (HB3.out.alloc HB3.out.size _).trans ⟨rfl, rfl, rfl, Nat.le_refl _, fun _ _ => rfl⟩)
  rw [hW4]
  clear hW4 HEQ HBA HW HSM HS5 hc3 hm3 hc3i
  go_upto_region 7 with fail
  obtain ⟨A5, hA5⟩ : ∃ A5, W4.alloc (.cells #[.int .i64 1, .string ⟨#[97, 98]⟩, .slice none 0 0, .slice none 0 0, .slice none 0 0] 49) = A5 := ⟨_, rfl⟩
  rw [hA5]
  obtain ⟨A6, hA6⟩ : ∃ A6, A5.alloc (.cells #[.string ⟨#[107]⟩, .int .i64 1, .string ⟨#[97, 98]⟩, .slice none 0 0, .slice none 0 0, .slice none 0 0, .int .i64 300] 51) = A6 := ⟨_, rfl⟩
  have hb5 : Below W4.heap.size W4 A5 := by rw [← hA5]; exact (Below.refl _ _).alloc (Nat.le_refl _) _
  have hT : A5.heap[W4.heap.size]? = some (.cells #[.int .i64 1, .string ⟨#[97, 98]⟩, .slice none 0 0, .slice none 0 0, .slice none 0 0] 49) := by rw [← hA5]; exact heap_alloc_new W4 _
  have hb6 : Below A5.heap.size A5 A6 := by rw [← hA6]; exact (Below.refl _ _).alloc (Nat.le_refl _) _
  have h6 : A6.heap[A5.heap.size]? = some (.cells #[.string ⟨#[107]⟩, .int .i64 1, .string ⟨#[97, 98]⟩, .slice none 0 0, .slice none 0 0, .slice none 0 0, .int .i64 300] 51) := by rw [← hA6]; exact heap_alloc_new A5 _
  have hsr : SRow A6 (some ⟨A5.heap.size, 0, none⟩) kOne := by
    intro i x hx
    have hi : i = 0 := by
      have := (List.getElem?_eq_some_iff.1 hx).1
      simp [kOne] at this; exact this
    subst hi
    obtain rfl : x = ⟨[107], kText, 300⟩ := by simpa [kOne] using hx.symm
    refine ⟨_, rfl, none, none, none, 0, 0, 0, fun j u hu => ?_, Rd.nil _ _, Rd.nil _ _, Rd.nil _ _⟩
    rw [Nat.zero_mul, Addr.add_base, Addr.add_base, cell_of_row A6 _ j _ _ _ h6]
    simpa [seC, kText] using hu
  have HT6 := Lib.hid ((hb6.block _ (Array.getElem?_eq_some_iff.1 hT).1).trans hT)
  have HB6 := Lib.hid ((HB4.out.trans (hb5.mono HB4.out.size)).trans (hb6.mono (Nat.le_trans HB4.out.size hb5.size)))
  have HSV : Hid (Calls Tryz.prog 11 #[.int .i64 0, .slice (some ⟨A5.heap.size, 0, none⟩) 1 1] A6 (SavePost (.ok kC) A6)) := Lib.hid (by rw [← k_c]; exact save_any A6 0 (some ⟨A5.heap.size, 0, none⟩) 1 1 kOne rfl (Nat.le_refl _) hsr one_big)
  have hs5 : A5.heap.size = W4.heap.size + 1 := by rw [← hA5]; simp
  obtain ⟨T, hTT⟩ : ∃ T, W4.heap.size = T := ⟨_, rfl⟩
  rw [hs5, hTT] at HSV
  rw [hTT] at hs5
  obtain ⟨⟨e0, e1, e2, e3, e4⟩, -⟩ := five_cells hT
  rw [hTT] at HT6 e0 e1 e2 e3 e4 ⊢
  clear hb5 hb6 h6 hsr hT
  go_upto_region 8 with (go_at_call 11; refine HSV.out.mono ?_; rintro e w7 ⟨hb7, v7, rfl, ho7⟩
                         obtain ⟨g7, c7, n7, rfl, hn7⟩ := ho7.row (fun e => by have := k_c_len; rw [e] at this; cases this)
                         have HB7 := Lib.hid (HB6.out.trans (hb7.mono HB6.out.size))
                         have HO7 := Lib.hid ho7
                         have HN7 := Lib.hid hn7
                         have HT7 := Lib.hid ((hb7.block _ (Array.getElem?_eq_some_iff.1 HT6.out).1).trans HT6.out)
                         have HZ7 := Lib.hid hb7.size
                         clear hb7 ho7 hn7)
  obtain rfl : n7 = 26 := HN7.out.trans k_c_len
  obtain ⟨ac, cc, hv7, hba⟩ := ownB_barg HO7.out (by rw [k_c_len]; decide)
  obtain ⟨rfl, -, rfl⟩ := Value.slice.inj hv7
  rw [k_c_len] at hba
  have hc7 := hba.cap
  have hm7 := hba.max
  have hc7i : (18 : Int) ≤ (c7 : Int) := by omega
  have HEQ := Lib.hid (sameB_self29 (some ⟨g7, 6, none⟩) (some ⟨w7.heap.size, 0, none⟩) 12 (c7 - 6) 12 [0, 1, 0, 1, 1, 107, 172, 2, 1, 2, 97, 98] (w7.alloc (.cells #[.int .u8 0, .int .u8 1, .int .u8 0, .int .u8 1, .int .u8 1, .int .u8 107, .int .u8 172, .int .u8 2, .int .u8 1, .int .u8 2, .int .u8 97, .int .u8 98] 5)) rfl (by decide)
    (by
      have h := ((hba.drop (k := 6) (by decide)).take (k := 12) (by decide)).rd.alloc (.cells #[.int .u8 0, .int .u8 1, .int .u8 0, .int .u8 1, .int .u8 1, .int .u8 107, .int .u8 172, .int .u8 2, .int .u8 1, .int .u8 2, .int .u8 97, .int .u8 98] 5)
      rw [k_c_mid, Addr.add_base] at h
      exact h)
    (barg_new w7 #[.int .u8 0, .int .u8 1, .int .u8 0, .int .u8 1, .int .u8 1, .int .u8 107, .int .u8 172, .int .u8 2, .int .u8 1, .int .u8 2, .int .u8 97, .int .u8 98] (0, 0) [0, 1, 0, 1, 1, 107, 172, 2, 1, 2, 97, 98] rfl (by decide)).rd)
  have HSE : ∀ W, Hid (Calls Tryz.prog 11 #[.int .i64 (-1), .slice none 0 0] W (SavePost (.error 3) W)) := fun W => Lib.hid (by rw [← k_early]; exact save_any W (-1) none 0 0 [] rfl (Nat.le_refl _) (srow_nil _ _) none_big)
  have HSL : ∀ W, Hid (Calls Tryz.prog 11 #[.int .i64 9007199254740993, .slice none 0 0] W (SavePost (.error 3) W)) := fun W => Lib.hid (by rw [← k_late]; exact save_any W 9007199254740993 none 0 0 [] rfl (Nat.le_refl _) (srow_nil _ _) none_big)
  clear hba hm7 HSV hv7 e0 e1 e2 e3 e4 hA5 hA6 hs5 hTT
  go_upto_region 10 with (go_at_call 12; refine HEQ.out.mono ?_; rintro e w8 ⟨rfl, q8, rfl⟩)
  obtain ⟨W8, hW8⟩ : ∃ W8, ((w7.alloc (.cells #[.int .u8 0, .int .u8 1, .int .u8 0, .int .u8 1, .int .u8 1, .int .u8 107, .int .u8 172, .int .u8 2, .int .u8 1, .int .u8 2, .int .u8 97, .int .u8 98] 5)).drewN q8) = W8 := ⟨_, rfl⟩
  have hb78 : Below w7.heap.size w7 W8 := by rw [← hW8]; exact ((Below.refl _ w7).alloc (Nat.le_refl _) _).trans ⟨rfl, rfl, rfl, Nat.le_refl _, fun _ _ => rfl⟩
  rw [hW8]
  have HB78 := Lib.hid hb78
  clear hW8 hb78
  go_upto_region 11 with (go_at_call 11; refine (HSE _).out.mono ?_; rintro e w9 ⟨hb9, rfl⟩; have HB79 := Lib.hid (HB78.out.trans (hb9.mono HB78.out.size)); clear hb9)
  clear HSE
  go_upto_region 12 with (go_at_call 11; refine (HSL _).out.mono ?_; rintro e w10 ⟨hb10, rfl⟩; have HB10 := Lib.hid (HB79.out.trans (hb10.mono HB79.out.size)); clear hb10)
  clear HSL
  go_upto_region 14 with fail
  have hT10 := (HB10.out.block _ (Array.getElem?_eq_some_iff.1 HT7.out).1).trans HT7.out
  have hlt := (Array.getElem?_eq_some_iff.1 hT10).1
  have hT11 := fun o => (((Below.refl w10.heap.size w10).alloc (Nat.le_refl _) o).block _ hlt).trans hT10
  have hT12 := fun o p => (((Below.refl (w10.alloc o).heap.size (w10.alloc o)).alloc (Nat.le_refl _) p).block _ (Array.getElem?_eq_some_iff.1 (hT11 o)).1).trans (hT11 o)
  obtain ⟨⟨e0, e1, e2, e3, e4⟩, -⟩ := five_cells hT10
  have f0 := fun o => (five_cells (hT11 o)).1.1
  have f1 := fun o => (five_cells (hT11 o)).1.2.1
  have f2 := fun o => (five_cells (hT11 o)).1.2.2.1
  have f3 := fun o => (five_cells (hT11 o)).1.2.2.2.1
  have f4 := fun o => (five_cells (hT11 o)).1.2.2.2.2
  have g0 := fun o p => (five_cells (hT12 o p)).1.1
  have g1 := fun o p => (five_cells (hT12 o p)).1.2.1
  have g2 := fun o p => (five_cells (hT12 o p)).1.2.2.1
  have g3 := fun o p => (five_cells (hT12 o p)).1.2.2.2.1
  have g4 := fun o p => (five_cells (hT12 o p)).1.2.2.2.2
  clear hT10 hT11 hT12 hlt HEQ
  go_upto_region 15 with fail
  refine ten_allocs ?_
  intro W14 hb14 b0 b1 b2 b3 b4 b5 b6 b7 b8 b9
  have HLT := Lib.hid (Array.getElem?_eq_some_iff.1 b9).1
  have HRW := Lib.hid (k_rows b0 b1 b2 b3 b4 b5 b6 b7 b8 b9)
  have HB14 := Lib.hid (HB10.out.trans (hb14.mono HB10.out.size))
  clear b0 b1 b2 b3 b4 b5 b6 b7 b8 b9 hb14 e0 e1 e2 e3 e4 f0 f1 f2 f3 f4 g0 g1 g2 g3 g4
  go_wp2_with fail
  go_loopw [120] (fun i wr => ∃ j : Nat, j ≤ 7 ∧ i = .int .i64 j ∧ Hid (Below W14.heap.size W14 wr)) (fun i _ => 7 - (intOf i).toNat)
  case atStart => exact ⟨0, by omega, rfl, Lib.hid (Below.refl _ _)⟩
  case round =>
    obtain ⟨j, hj, rfl, HBX⟩ := hrel
    by_cases hlt : j < 7
    · have hlti : (j : Int) < 7 := by omega
      obtain ⟨l, g, m, hl, hm, hc, hs⟩ := HRW.out j hlt
      have hcx := (HBX.out.cell (p := ⟨w10.heap.size + 1 + 1 + 1 + 1 + 1 + 1 + 1 + 1 + 1, j, none⟩) HLT.out).trans hc
      have HSV := Lib.hid (save_any wr 0 (some ⟨g, 0, none⟩) m m l hm (Nat.le_refl _) (hs.below HBX.out) (k_sbig hl))
      rw [k_bad_at hl] at HSV
      clear hl hm hc hs
      go_wp2_with (go_at_call 11; refine HSV.out.mono ?_; rintro e wy ⟨hby, rfl⟩; have HBY := Lib.hid (HBX.out.trans (hby.mono HBX.out.size)); clear hby)
      go_roundw
      case rel => exact ⟨j + 1, by omega, by go_num, HBY⟩
      case measure => simp [intOf]; omega
    · have hge : ¬ (j : Int) < 7 := by omega
      have HBW := Lib.hid (HB14.out.trans (HBX.out.mono HB14.out.size))
      have ho := HO7.out.below HBW.out
      obtain ⟨c1, z1, hg7, ho1⟩ := ownB_set ho k_c5
      have ho1 := ho1 122
      rw [show ((121 : UInt8).toNat : Int) = 121 by decide] at c1
      rw [show ((122 : UInt8).toNat : Int) = 122 by decide] at ho1
      have HO1 := Lib.hid ho1
      have hwg : w.heap.size ≤ g7 := Nat.le_trans HB6.out.size hg7
      have HBWr := Lib.hid (HB7.out.trans (HBW.out.mono HB7.out.size))
      clear ho ho1
      go_upto_region 22 with fail
      have hx := HBWr.out.setCell (p := ⟨g7, 5, none⟩) hwg (.int .u8 122)
      obtain ⟨WA, hWA⟩ : ∃ W, wr.setCell ⟨g7, 5, none⟩ (.int .u8 122) = W := ⟨_, rfl⟩
      rw [hWA] at HO1 hx ⊢
      have HBA := Lib.hid hx
      have HL1 := Lib.hid (own_load HO1.out (by rw [List.length_set, k_c_len]) k_wrong)
      clear hWA hx c1 z1
      go_upto_region 23 with (go_at_call 18; refine HL1.out.mono ?_; rintro e wb ⟨hbb, rfl⟩; have HBB := Lib.hid hbb; clear hbb)
      obtain ⟨c2, z2, -, ho2⟩ := ownB_set (HO1.out.below HBB.out) k_set5
      have ho2 := ho2 121
      rw [show ((122 : UInt8).toNat : Int) = 122 by decide] at c2
      rw [show ((121 : UInt8).toNat : Int) = 121 by decide, k_back] at ho2
      have HO2 := Lib.hid ho2
      have HBB2 := Lib.hid (HBA.out.trans (HBB.out.mono HBA.out.size))
      clear ho2 HL1
      go_upto_region 24 with fail
      have hx := HBB2.out.setCell (p := ⟨g7, 5, none⟩) hwg (.int .u8 121)
      obtain ⟨WB, hWB⟩ : ∃ W, wb.setCell ⟨g7, 5, none⟩ (.int .u8 121) = W := ⟨_, rfl⟩
      rw [hWB] at HO2 hx ⊢
      have HBC := Lib.hid hx
      obtain ⟨c3, z3, -, ho3⟩ := ownB_set HO2.out k_c25
      have ho3 := ho3 38
      rw [show ((34 : UInt8).toNat : Int) = 34 by decide] at c3
      rw [show ((38 : UInt8).toNat : Int) = 38 by decide] at ho3
      have HO3 := Lib.hid ho3
      clear ho3 hWB hx c2 z2
      have hbx : bits BinOp.xor IntKind.u8 34 4 = 38 := by decide
      go_upto_region 25 with fail
      have hx := HBC.out.setCell (p := ⟨g7, 25, none⟩) hwg (.int .u8 38)
      obtain ⟨WC, hWC⟩ : ∃ W, WB.setCell ⟨g7, 25, none⟩ (.int .u8 38) = W := ⟨_, rfl⟩
      rw [hWC] at HO3 hx ⊢
      have HBD := Lib.hid hx
      have HL2 := Lib.hid (own_load HO3.out (by rw [List.length_set, k_c_len]) k_sum)
      clear hWC hx c3 z3 hbx
      go_upto_region 26 with (go_at_call 18; refine HL2.out.mono ?_; rintro e we ⟨hbe, rfl⟩; have HBE := Lib.hid (HBD.out.trans (hbe.mono HBD.out.size)); clear hbe)
      have HL3 := Lib.hid (barg_nil we).load
      rw [k_none] at HL3
      go_upto_region 27 with (go_at_call 18; refine HL3.out.mono ?_; rintro e wf ⟨hbf, rfl⟩; have HBF := Lib.hid (HBE.out.trans (hbf.mono HBE.out.size)); clear hbf)
      have HL4 := Lib.hid (new_load wf #[.int .u8 113] (1, 2) [113] rfl (by decide) 1 rfl k_other)
      have hconv := run_marked wf #[.int .u8 113] 1 1
      clear HL2 HL3
      go_upto_region 28 with (go_at_call 18; refine HL4.out.mono ?_; rintro e wg ⟨hbg, rfl⟩; have HBG := Lib.hid ((HBF.out.alloc HBF.out.size _).trans (hbg.mono (Nat.le_trans HBF.out.size (by simp)))); clear hbg)
      have HL5 := Lib.hid (new_load wg #[.int .u8 112, .int .u8 97, .int .u8 110, .int .u8 116, .int .u8 114, .int .u8 121, .int .u8 0, .int .u8 1, .int .u8 133, .int .u8 0, .int .u8 0] (0, 0) [112, 97, 110, 116, 114, 121, 0, 1, 133, 0, 0] rfl (by decide) 11 rfl k_two)
      clear HL4
      go_wp2_with (go_at_call 18; refine HL5.out.mono ?_; rintro e wh ⟨hbh, rfl⟩; have HBH := Lib.hid ((HBG.out.alloc HBG.out.size _).trans (hbh.mono (Nat.le_trans HBG.out.size (by simp)))); clear hbh)
      go_ret
      exact ⟨rfl, HBH.out⟩
end Go.Proofs.YteiklgbjjmlmaaaGreat
