
/- The law's own great (printed by tools/gen-great.py). -/
import Derived.Test.YteiklgbjjmlmaaaGreatZSnRg2
set_option linter.unusedVariables false
set_option linter.unusedSimpArgs false
namespace Pantry
def grI (l : List (List UInt8)) : Nat := (l.map fun s => 4 + s.length).sum
def grP (l : List Fld) : Nat := (l.map fun x => 8 + x.1.length + x.2.length).sum
def grR (l : List Mb) : Nat := (l.map fun x => 12 + x.1.length).sum
def grE (x : SE) : Nat := 20 + x.key.length + x.val.text.length + (grI x.val.items + (grP x.val.pairs + grR x.val.ranks))
def greatN (l : List SE) : Nat := (l.map grE).sum
theorem sum_take {α : Type} {f : α → Nat} {l : List α} {k : Nat} {x : α} (h : l[k]? = some x) : ((l.take (k + 1)).map f).sum = ((l.take k).map f).sum + f x ∧ ((l.take k).map f).sum + f x ≤ (l.map f).sum := by
  obtain ⟨h1, h2⟩ := List.getElem?_eq_some_iff.1 h
  have e : ((l.take (k + 1)).map f).sum = ((l.take k).map f).sum + f x := by
    rw [List.take_succ_eq_append_getElem h1, h2, List.map_append, List.sum_append]; simp
  refine ⟨e, ?_⟩
  have e2 : (l.map f).sum = ((l.take (k + 1)).map f).sum + ((l.drop (k + 1)).map f).sum := by rw [← List.sum_append, ← List.map_append, List.take_append_drop]
  omega
end Pantry
namespace Go.Proofs.YteiklgbjjmlmaaaGreat
open Go.RowKit Pantry

set_option maxRecDepth 100000 in
set_option maxHeartbeats 16000000 in
theorem great_any (w : World) (a : Option Addr) (n c : Nat) (l : List SE) (hl : l.length = n) (hn : n ≤ 1172812402961) (hr : SRow w a l) (hB : ∀ x ∈ l, PlainBig x.val) (hk : ∀ x ∈ l, x.key.length < 281474976710656) (hT : greatN l < 9223372036854775808) :
    Calls Tryz.prog 23 #[.slice a n c] w (fun e w' => e = .returned (.int .i64 (greatN l : Nat)) ∧ Below w.heap.size w w') := by
  have HR := Lib.hid hr
  have HL := Lib.hid hl
  have HPB := Lib.hid hB
  have HKY := Lib.hid hk
  obtain ⟨T, hTT⟩ : ∃ T, greatN l = T := ⟨_, rfl⟩
  rw [hTT] at hT ⊢
  have HTT := Lib.hid hTT
  clear hr hl hB hk hTT
  go_enter Tryz.func23, Tryz.ntmps23
  go_wp2_with fail
  go_loopw [3, 14] (fun s i wr => ∃ (j : Nat), j ≤ n ∧ i = .int .i64 j ∧ s = .int .i64 (greatN (l.take j) : Nat) ∧ Hid (Below w.heap.size w wr)) (fun _ i _ => n - (intOf i).toNat)
  case atStart => exact ⟨0, Nat.zero_le _, rfl, rfl, Lib.hid (Below.refl _ _)⟩
  case round =>
    obtain ⟨j, hj, rfl, rfl, HBR⟩ := hrel
    by_cases hlt : j < n
    · have hlti : (j : Int) < (n : Int) := by omega
      obtain ⟨x, hx⟩ : ∃ x, l[j]? = some x := ⟨_, List.getElem?_eq_getElem (by rw [HL.out]; exact hlt)⟩
      have hmem := List.mem_of_getElem? hx
      obtain ⟨p, rfl, a1, a2, a3, c1, c2, c3, hcl, hpl⟩ := (HR.out.below HBR.out) j x hx
      obtain ⟨A, hA⟩ : ∃ A, wr.alloc (.cells (seC x a1 a2 a3 c1 c2 c3).toArray 51) = A := ⟨_, rfl⟩
      have hbA : Below wr.heap.size wr A := by rw [← hA]; exact (Below.refl _ _).alloc (Nat.le_refl _) _
      have hX : A.heap[wr.heap.size]? = some (.cells (seC x a1 a2 a3 c1 c2 c3).toArray 51) := by rw [← hA]; exact heap_alloc_new wr _
      have HSZ := Lib.hid (show (Tryz.prog.info? 51).map (·.size) = some (seC x a1 a2 a3 c1 c2 c3).length by kernel_rfl)
      have HCL := Lib.hid hcl
      have HPL := Lib.hid (hpl.below hbA)
      have hbg := HPB.out x hmem
      have hkl := HKY.out x hmem
      obtain ⟨s1, s2⟩ := sum_take (f := grE) hx
      have HS1 := Lib.hid s1
      have hle : greatN (l.take j) + grE x ≤ T := by rw [← HTT.out]; exact s2
      have HBX := Lib.hid (HBR.out.trans (hbA.mono HBR.out.size))
      simp only [seC] at hX HSZ HCL hA
      have HX := Lib.hid hX
      obtain ⟨⟨e0, e1, e2, e3, e4, e5, e6⟩, -⟩ := seven_cells hX
      obtain ⟨tx, htx⟩ : ∃ tx, x.val.text = tx := ⟨_, rfl⟩
      obtain ⟨ky, hky⟩ : ∃ ky, x.key = ky := ⟨_, rfl⟩
      obtain ⟨its, hits⟩ : ∃ its, x.val.items = its := ⟨_, rfl⟩
      obtain ⟨prs, hprs⟩ : ∃ prs, x.val.pairs = prs := ⟨_, rfl⟩
      obtain ⟨rks, hrks⟩ : ∃ rks, x.val.ranks = rks := ⟨_, rfl⟩
      obtain ⟨g0, hg0⟩ : ∃ g0, greatN (l.take j) = g0 := ⟨_, rfl⟩
      have hge : grE x = 20 + ky.length + tx.length + (grI its + (grP prs + grR rks)) := by unfold grE; rw [hky, htx, hits, hprs, hrks]
      have HNX : Hid (greatN (l.take (j + 1)) = g0 + (20 + ky.length + tx.length + (grI its + (grP prs + grR rks)))) := Lib.hid (by rw [← hg0, ← hge]; exact HS1.out)
      have hbt := hbg.text
      have hbi := hbg.items
      have hbp := hbg.pairs
      have hbr := hbg.ranks
      have HPI := Lib.hid hpl.items
      have HPT : Hid (∀ s ∈ its, s.length < 281474976710656) := Lib.hid (by rw [← hits]; exact hbg.texts)
      have HPP : Hid (∀ f ∈ prs, f.1.length < 281474976710656 ∧ f.2.length < 281474976710656) := Lib.hid (by rw [← hprs]; exact fun f hf => ⟨hbg.names f hf, hbg.vals f hf⟩)
      have HPR : Hid (∀ f ∈ rks, f.1.length < 281474976710656) := Lib.hid (by rw [← hrks]; exact hbg.mems)
      have HR1 : Hid (Rd A a1 (its.map txC)) := Lib.hid (by rw [← hits]; exact HPL.out.items)
      have HR2 : Hid (Rd A a2 (fdCells prs)) := Lib.hid (by rw [← hprs]; exact HPL.out.pairs)
      have HR3 : Hid (Rd A a3 (rkCells rks)) := Lib.hid (by rw [← hrks]; exact HPL.out.ranks)
      rw [hge, hg0] at hle
      rw [htx] at hbt
      rw [hky] at hkl
      rw [hits] at hbi
      rw [hprs] at hbp
      rw [hrks] at hbr
      simp only [htx, hky, hits, hprs, hrks] at hA HCL HSZ HX e0 e1 e2 e3 e4 e5 e6
      rw [hg0]
      clear hx hmem hcl hpl hbA hX hbg s1 s2 htx hky hits hprs hrks hg0 hge HPI HPL HS1
      go_wp2_with (refine wpl_load_at rfl 51 _ rfl (p.add (j * 7)) rfl _ _ HCL.out Tryz.underlying51 rfl HSZ.out ?_)
      clear hA
      go_loopw [3, 33] (fun s i wx => ∃ k : Nat, k ≤ its.length ∧ i = .int .i64 k ∧ s = .int .i64 ((g0 + (20 + ky.length + tx.length) + grI (its.take k) : Nat) : Int) ∧ Hid (Below A.heap.size A wx)) (fun _ i _ => its.length - (intOf i).toNat)
      case atStart => exact ⟨0, Nat.zero_le _, rfl, by simp [grI], Lib.hid (Below.refl _ _)⟩
      case round =>
        clear e0 e1 e2 e3 e4 e5 e6
        obtain ⟨k, hk, rfl, rfl, HAX⟩ := hrel
        by_cases hlt2 : k < its.length
        · have hlti2 : (k : Int) < (its.length : Int) := by omega
          obtain ⟨s, hs⟩ : ∃ s, its[k]? = some s := ⟨_, List.getElem?_eq_getElem hlt2⟩
          obtain ⟨-, y, rfl, hy⟩ := (HR1.out.below HAX.out) k (.string ⟨s.toArray⟩) (by rw [List.getElem?_map, hs]; rfl)
          obtain ⟨t1, t2⟩ := sum_take (f := fun s : List UInt8 => 4 + s.length) hs
          have HT1 : Hid (grI (its.take (k + 1)) = grI (its.take k) + (4 + s.length)) := Lib.hid t1
          have ht2 : grI (its.take k) + (4 + s.length) ≤ grI its := t2
          have hsl := HPT.out s (List.mem_of_getElem? hs)
          obtain ⟨q1, hq1⟩ : ∃ q1, grI (its.take k) = q1 := ⟨_, rfl⟩
          rw [hq1] at HT1 ht2 ⊢
          clear hs t1 t2 hq1
          go_wp2_with fail
          go_roundw
          case rel => exact ⟨k + 1, by omega, by go_num, by rw [HT1.out]; go_num, HAX⟩
          case measure => simp [intOf]; omega
        · obtain rfl : k = its.length := by omega
          rw [List.take_length]
          clear hlt2 hk
          obtain ⟨q1, hq1⟩ : ∃ q1, grI its = q1 := ⟨_, rfl⟩
          rw [hq1] at hle HNX ⊢
          obtain ⟨⟨e0, e1, e2, e3, e4, e5, e6⟩, -⟩ := seven_cells ((HAX.out.block _ (Array.getElem?_eq_some_iff.1 HX.out).1).trans HX.out)
          clear HR1 HPT hq1
          go_wp2_with fail
          go_loopw [3, 47] (fun s i wx => ∃ k : Nat, k ≤ prs.length ∧ i = .int .i64 k ∧ s = .int .i64 ((g0 + (20 + ky.length + tx.length) + q1 + grP (prs.take k) : Nat) : Int) ∧ Hid (Below A.heap.size A wx)) (fun _ i _ => prs.length - (intOf i).toNat)
          case atStart => exact ⟨0, Nat.zero_le _, rfl, by simp [grP], HAX⟩
          case round =>
            clear e0 e1 e2 e3 e4 e5 e6
            obtain ⟨k, hk, rfl, rfl, HAX⟩ := hrel
            by_cases hlt2 : k < prs.length
            · have hlti2 : (k : Int) < (prs.length : Int) := by omega
              obtain ⟨f, hf⟩ : ∃ f, prs[k]? = some f := ⟨_, List.getElem?_eq_getElem hlt2⟩
              obtain ⟨y, rfl, hy⟩ := fd_cells (HR2.out.below HAX.out) hf
              have HY : Hid (∀ j u, ([.string ⟨f.1.toArray⟩, .string ⟨f.2.toArray⟩] : List Value)[j]? = some u → wr.cell? ((y.add (k * 2)).add j) = some u) := Lib.hid hy
              have HSP : Hid ((Tryz.prog.info? 71).map (·.size) = some 2) := Lib.hid (by kernel_rfl)
              obtain ⟨t1, t2⟩ := sum_take (f := fun x : Fld => 8 + x.1.length + x.2.length) hf
              have HT1 : Hid (grP (prs.take (k + 1)) = grP (prs.take k) + (8 + f.1.length + f.2.length)) := Lib.hid t1
              have ht2 : grP (prs.take k) + (8 + f.1.length + f.2.length) ≤ grP prs := t2
              obtain ⟨hsl1, hsl2⟩ := HPP.out f (List.mem_of_getElem? hf)
              obtain ⟨q2, hq2⟩ : ∃ q2, grP (prs.take k) = q2 := ⟨_, rfl⟩
              rw [hq2] at HT1 ht2 ⊢
              have HBN := Lib.hid (fun o => HAX.out.alloc HAX.out.size o)
              clear hf hy t1 t2 hq2
              go_wp2_with (refine wpl_load_at rfl 71 _ rfl (y.add (k * 2)) rfl _ _ HY.out Tryz.underlying71 rfl HSP.out ?_)
              go_roundw
              case rel => exact ⟨k + 1, by omega, by go_num, by rw [HT1.out]; go_num, Lib.hid (HBN.out _)⟩
              case measure => simp [intOf]; omega
            · obtain rfl : k = prs.length := by omega
              rw [List.take_length]
              clear hlt2 hk
              obtain ⟨q2, hq2⟩ : ∃ q2, grP prs = q2 := ⟨_, rfl⟩
              rw [hq2] at hle HNX ⊢
              obtain ⟨⟨e0, e1, e2, e3, e4, e5, e6⟩, -⟩ := seven_cells ((HAX.out.block _ (Array.getElem?_eq_some_iff.1 HX.out).1).trans HX.out)
              clear HR2 HPP hq2
              go_wp2_with fail
              go_loopw [3, 66] (fun s i wx => ∃ k : Nat, k ≤ rks.length ∧ i = .int .i64 k ∧ s = .int .i64 ((g0 + (20 + ky.length + tx.length) + q1 + q2 + grR (rks.take k) : Nat) : Int) ∧ Hid (Below A.heap.size A wx)) (fun _ i _ => rks.length - (intOf i).toNat)
              case atStart => exact ⟨0, Nat.zero_le _, rfl, by simp [grR], HAX⟩
              case round =>
                clear e0 e1 e2 e3 e4 e5 e6
                obtain ⟨k, hk, rfl, rfl, HAX⟩ := hrel
                by_cases hlt2 : k < rks.length
                · have hlti2 : (k : Int) < (rks.length : Int) := by omega
                  obtain ⟨f, hf⟩ : ∃ f, rks[k]? = some f := ⟨_, List.getElem?_eq_getElem hlt2⟩
                  obtain ⟨y, rfl, hy⟩ := rk_cells (HR3.out.below HAX.out) hf
                  have HY : Hid (∀ j u, ([.string ⟨f.1.toArray⟩, .float .f64 f.2] : List Value)[j]? = some u → wr.cell? ((y.add (k * 2)).add j) = some u) := Lib.hid (fun j u hu => by rw [Addr.add_add]; exact hy j u hu)
                  have HSP : Hid ((Tryz.prog.info? 54).map (·.size) = some 2) := Lib.hid (by kernel_rfl)
                  obtain ⟨t1, t2⟩ := sum_take (f := fun x : Mb => 12 + x.1.length) hf
                  have HT1 : Hid (grR (rks.take (k + 1)) = grR (rks.take k) + (12 + f.1.length)) := Lib.hid t1
                  have ht2 : grR (rks.take k) + (12 + f.1.length) ≤ grR rks := t2
                  have hsl1 := HPR.out f (List.mem_of_getElem? hf)
                  obtain ⟨q3, hq3⟩ : ∃ q3, grR (rks.take k) = q3 := ⟨_, rfl⟩
                  rw [hq3] at HT1 ht2 ⊢
                  have HBN := Lib.hid (fun o => HAX.out.alloc HAX.out.size o)
                  clear hf hy t1 t2 hq3
                  go_wp2_with (refine wpl_load_at rfl 54 _ rfl (y.add (k * 2)) rfl _ _ HY.out Tryz.underlying54 rfl HSP.out ?_)
                  go_roundw
                  case rel => exact ⟨k + 1, by omega, by go_num, by rw [HT1.out]; go_num, Lib.hid (HBN.out _)⟩
                  case measure => simp [intOf]; omega
                · obtain rfl : k = rks.length := by omega
                  rw [List.take_length]
                  clear hlt2 hk
                  go_wp2_with fail
                  go_roundw
                  case rel => exact ⟨j + 1, by omega, by go_num, by rw [HNX.out]; go_num, Lib.hid (HBX.out.trans (HAX.out.mono HBX.out.size))⟩
                  case measure => simp [intOf]; omega
    · obtain rfl : j = n := by omega
      have HE : Hid (greatN (l.take j) = T) := Lib.hid (by rw [← HTT.out, List.take_of_length_le (by rw [HL.out]; exact Nat.le_refl _)])
      rw [HE.out]
      go_wp2_with fail
      go_ret
      exact ⟨rfl, HBR.out⟩
end Go.Proofs.YteiklgbjjmlmaaaGreat


/- SnapshotBack's walk: keys that may be saved are loaded as they were saved; what is loaded is saved as the same bytes. -/
set_option linter.unusedVariables false
set_option linter.unusedSimpArgs false
namespace Pantry
theorem numF_small : ∀ (f k n : Nat), n < 128 ^ k → 1 ≤ k → (numF f n).length ≤ k
  | 0, k, n, h, hk => by simp [numF]; omega
  | f + 1, k, n, h, hk => by
    unfold numF
    split
    · simp; omega
    · rename_i hn
      obtain ⟨j, rfl⟩ : ∃ j, k = j + 1 := ⟨k - 1, by omega⟩
      have hj : 1 ≤ j := by
        rcases Nat.eq_zero_or_pos j with h0 | h0
        · subst h0; simp at h; omega
        · exact h0
      have hd : n / 128 < 128 ^ j := by rw [Nat.div_lt_iff_lt_mul (by decide)]; rwa [Nat.pow_succ] at h
      have := numF_small f j (n / 128) hd hj
      rw [List.length_cons]; omega
theorem text_small {s : List UInt8} (h : s.length ≤ 1048576) : (textB s).length ≤ 3 + s.length := by
  have := numF_small 9 3 s.length (by omega) (by decide)
  unfold textB numB
  rw [List.length_append]; omega
theorem flat_sum {α : Type} {f : α → List UInt8} {g : α → Nat} : ∀ {l : List α}, (∀ x ∈ l, (f x).length ≤ g x) → (l.flatMap f).length ≤ (l.map g).sum
  | [], _ => by simp
  | x :: l, h => by
    have h1 := h x List.mem_cons_self
    have h2 := flat_sum fun y hy => h y (List.mem_cons_of_mem _ hy)
    rw [List.flatMap_cons, List.length_append, List.map_cons, List.sum_cons]
    omega
theorem val_small {p : PD} (h : Shaped p) : (valB p).length ≤ 4 + p.text.length + (grI p.items + (grP p.pairs + grR p.ranks)) := by
  unfold valB
  rw [List.length_cons]
  split
  · rename_i hk
    have := text_small (h.text hk)
    omega
  · split
    · rename_i hk
      obtain ⟨-, h2, h3⟩ := h.pairs hk
      have hf := flat_sum (f := fldB) (g := fun x => 8 + x.1.length + x.2.length) (l := p.pairs) fun x hx => by
        have a := text_small (h3 x hx).1
        have b := text_small (h3 x hx).2
        unfold fldB
        rw [List.length_append]; omega
      have hn := numF_small 9 3 p.pairs.length (by omega) (by decide)
      rw [List.length_append]
      unfold numB grP
      omega
    · split
      · rename_i hk
        obtain ⟨-, h2, h3⟩ := h.ranks hk
        have hf := flat_sum (f := mbB) (g := fun x => 12 + x.1.length) (l := p.ranks) fun x hx => by
          have a := text_small (h3 x hx).1
          unfold mbB
          rw [List.length_append, eightB_len]; omega
        have hn := numF_small 9 3 p.ranks.length (by omega) (by decide)
        rw [List.length_append]
        unfold numB grR
        omega
      · split
        · rename_i hk
          obtain ⟨-, h2, h3⟩ := h.items hk
          have hf := flat_sum (f := textB) (g := fun s => 4 + s.length) (l := p.items) fun x hx => by
            have a := text_small (h3 x hx)
            omega
          have hn := numF_small 9 3 p.items.length (by omega) (by decide)
          rw [List.length_append]
          unfold numB grI
          omega
        · simp; omega
theorem sum_most {α : Type} {f : α → Nat} {B : Nat} : ∀ {l : List α}, (∀ x ∈ l, f x ≤ B) → (l.map f).sum ≤ l.length * B
  | [], _ => by simp
  | x :: l, h => by
    have h1 := h x List.mem_cons_self
    have h2 := sum_most fun y hy => h y (List.mem_cons_of_mem _ hy)
    rw [List.map_cons, List.sum_cons, List.length_cons, Nat.add_mul]
    omega
theorem great_most {x : SE} (hk : x.key.length ≤ 1048576) (h : Shaped x.val) : grE x ≤ 4398100000000 := by
  have hi : grI x.val.items ≤ 1099515822080 := by
    by_cases hk : x.val.kind = 2 ∨ x.val.kind = 4
    · obtain ⟨-, h2, h3⟩ := h.items hk
      have := sum_most (f := fun s : List UInt8 => 4 + s.length) (B := 1048580) (l := x.val.items) fun s hs => by have := h3 s hs; omega
      have := Nat.mul_le_mul_right 1048580 h2
      unfold grI; omega
    · rw [h.noItems (fun e => hk (.inl e)) (fun e => hk (.inr e))]; simp [grI]
  have hp : grP x.val.pairs ≤ 2199031644160 := by
    by_cases hk : x.val.kind = 3
    · obtain ⟨-, h2, h3⟩ := h.pairs hk
      have := sum_most (f := fun x : Fld => 8 + x.1.length + x.2.length) (B := 2097160) (l := x.val.pairs) fun s hs => by have := h3 s hs; omega
      have := Nat.mul_le_mul_right 2097160 h2
      unfold grP; omega
    · rw [h.noPairs hk]; simp [grP]
  have hr : grR x.val.ranks ≤ 1099524210688 := by
    by_cases hk : x.val.kind = 5
    · obtain ⟨-, h2, h3⟩ := h.ranks hk
      have := sum_most (f := fun x : Mb => 12 + x.1.length) (B := 1048588) (l := x.val.ranks) fun s hs => by have := (h3 s hs).1; omega
      have := Nat.mul_le_mul_right 1048588 h2
      unfold grR; omega
    · rw [h.noRanks hk]; simp [grR]
  have ht : x.val.text.length ≤ 1048576 := by
    by_cases hk : x.val.kind = 1
    · exact h.text hk
    · rw [h.noText hk]; simp
  unfold grE
  omega
end Pantry
namespace Go.Proofs.YteiklgbjjmlmaaaGreat
open Go.RowKit Pantry

theorem ent_small {x : SE} (hg : GoodE x) : (entB x).length ≤ grE x := by
  have h1 := text_small hg.key
  have h2 := val_small (rightP_shaped hg.val hg.bits)
  have h3 := numF_small 9 8 x.dl.toNat (by have := hg.dl; have e : (128 : Nat) ^ 8 = 72057594037927936 := by decide
                                           omega) (by decide)
  unfold entB grE numB
  simp only [List.length_append]
  omega
theorem body_small {t : Nat} {l : List SE} (h : RightL l) (ht : t ≤ 9007199254740992) : (bodyB t l).length ≤ 26 + greatN l := by
  have h1 := flat_sum (f := entB) (g := grE) (l := l) fun x hx => ent_small (h.good x hx)
  have h2 := numB_len t
  have h3 := numB_len l.length
  have h4 : headB.length = 8 := rfl
  have h5 := numF_small 9 8 t (by have e : (128 : Nat) ^ 8 = 72057594037927936 := by decide
                                  omega) (by decide)
  unfold bodyB greatN numB at *
  simp only [List.length_append]
  omega
theorem RightL.great {l : List SE} (h : RightL l) (hn : l.length ≤ 1048576) : greatN l < 9223372036854775808 := by
  have h1 := sum_most (f := grE) (B := 4398100000000) (l := l) fun x hx => great_most (h.good x hx).key (h.shaped hx)
  have h2 := Nat.mul_le_mul_right 4398100000000 hn
  unfold greatN
  omega
theorem RightL.save {t : Nat} {l : List SE} (h : RightL l) (ht : t ≤ 9007199254740992) : (saveR (t : Int) l = .error 2 ∧ 16777216 < (bodyB t l).length + 8) ∨ ∃ b, saveR (t : Int) l = .ok b := by
  unfold saveR
  rw [if_neg (by omega), h.right, if_neg (by simp), Int.toNat_natCast]
  by_cases hb : 16777216 < (bodyB t l).length + 8
  · rw [if_pos hb]; exact .inl ⟨rfl, hb⟩
  · rw [if_neg hb]; exact .inr ⟨_, rfl⟩
theorem saved_len {t : Nat} {l : List SE} {b : List UInt8} (h : saveR (t : Int) l = .ok b) : b.length ≤ 16777216 ∧ 18 ≤ b.length := by
  obtain ⟨h1, h2, h3, rfl⟩ := saveR_ok h
  rw [List.length_append, eightB_len]
  have n1 : ∀ n, 1 ≤ (numB n).length := fun n => List.length_pos_iff.2 (numF_ne _ _)
  have := n1 (t : Int).toNat
  have := n1 l.length
  have e : headB.length = 8 := rfl
  refine ⟨by omega, ?_⟩
  unfold bodyB
  simp only [List.length_append, e]
  omega
attribute [-go_sem] Builtin.append_
set_option maxRecDepth 100000 in
set_option maxHeartbeats 16000000 in
theorem back_any (w : World) (now : Int) (hnow : -9223372036854775808 ≤ now ∧ now ≤ 9223372036854775807) (a : Option Addr) (n c : Nat) (l : List SE) (hl : l.length = n) (hn : n ≤ 1048576) (hr : SRow w a l) (hB : ∀ x ∈ l, PlainBig x.val) (hk : ∀ x ∈ l, x.key.length < 281474976710656)
    (hd : ∀ x ∈ l, -9223372036854775808 ≤ x.dl ∧ x.dl ≤ 9223372036854775807) (h64 : Bits64 l) :
    Calls Tryz.prog 5 #[.int .i64 now, .slice a n c] w (SamePost true w) := by
  have HW := Lib.hid (wakes29_any w)
  have HRG := Lib.hid (fun w1 (hb : Below w.heap.size w w1) => lright_any w1 now hnow a n c l hl (by omega) (hr.below hb) hB hk hd h64)
  clear hl hr hB hk hd h64
  go_enter Tryz.func5, Tryz.ntmps5
  go_upto_region 4 with (first
    | (go_at_call 21; refine HW.out.mono ?_; rintro e w1 ⟨rfl, hb1⟩; have HB1 := Lib.hid hb1; have HR1 := Lib.hid (HRG.out w1 hb1); clear hb1)
    | (go_at_call 22; refine HR1.out.mono ?_; rintro e w2 ⟨t, L, v, rfl, ht, hb2, ho, hrl, hln⟩
       have HB2 := Lib.hid (HB1.out.trans (hb2.mono HB1.out.size))
       have HO := Lib.hid ho
       have HRL := Lib.hid hrl
       obtain ⟨ay, cy, rfl, hlc, hsr⟩ := ho.srow
       have HSR := Lib.hid hsr
       clear hb2 ho hrl hsr))
  clear HRG HR1 HW
  obtain ⟨m, hm⟩ : ∃ m, L.length = m := ⟨_, rfl⟩
  rw [hm] at hlc hln ⊢
  obtain ⟨L2, hL2⟩ : ∃ L2, L.map (·.1) = L2 := ⟨_, rfl⟩
  have HLM : Hid (L2.length = m) := Lib.hid (by rw [← hL2, List.length_map, hm])
  rw [hL2] at HRL HSR
  have HBG := Lib.hid (HRL.out.big (by rw [HLM.out]; omega))
  have HSV := Lib.hid (save_any w2 (t : Int) ay m cy L2 HLM.out hlc HSR.out HBG.out)
  clear hL2 hm
  rcases HRL.out.save ht with ⟨hsv, hlong⟩ | ⟨b, hsv⟩
  · rw [hsv] at HSV
    have HGT := Lib.hid (HRL.out.great (by rw [HLM.out]; omega))
    obtain ⟨G, hG⟩ : ∃ G, greatN L2 = G := ⟨_, rfl⟩
    have hbig : 8388608 < G := by
      have := body_small HRL.out ht
      rw [hG] at this
      omega
    have hbi : (8388608 : Int) < (G : Int) := by omega
    have HGR : Hid (∀ w3, Below w2.heap.size w2 w3 → Calls Tryz.prog 23 #[.slice ay m cy] w3 (fun e w' => e = .returned (.int .i64 (G : Nat)) ∧ Below w3.heap.size w3 w')) := Lib.hid fun w3 hb => by
      rw [← hG]
      exact great_any w3 ay m cy L2 HLM.out (by omega) (HSR.out.below hb) HBG.out.val HBG.out.key HGT.out
    clear hsv hlong hG hbig
    go_wp2_with (first
      | (go_at_call 11; refine HSV.out.mono ?_; rintro e w3 ⟨hb3, rfl⟩; have HB3 := Lib.hid (HB2.out.trans (hb3.mono HB2.out.size)); have HG3 := Lib.hid (HGR.out w3 hb3); clear hb3)
      | (go_at_call 23; refine HG3.out.mono ?_; rintro e w4 ⟨rfl, hb4⟩; have HB4 := Lib.hid (HB3.out.trans (hb4.mono HB3.out.size)); clear hb4))
    go_ret
    exact ⟨rfl, HB4.out⟩
  · rw [hsv] at HSV
    obtain ⟨h24, h18⟩ := saved_len hsv
    have hld := save_load hsv HRL.out.bits
    rw [Int.toNat_natCast] at hld
    have HLD := Lib.hid hld
    have HS2 := Lib.hid hsv
    obtain ⟨nb, hnb⟩ : ∃ nb, b.length = nb := ⟨_, rfl⟩
    rw [hnb] at h24 h18
    have HNB := Lib.hid hnb
    clear hsv hld hnb
    go_upto_region 12 with (first
      | (go_at_call 11; refine HSV.out.mono ?_; rintro e w3 ⟨hb3, vb, rfl, hob⟩
         have HB3 := Lib.hid (HB2.out.trans (hb3.mono HB2.out.size))
         have HB23 := Lib.hid hb3
         obtain ⟨ab, cb, rfl, hba⟩ := ownB_barg hob (by rw [HNB.out]; omega)
         rw [HNB.out] at hba ⊢
         have HBA := Lib.hid hba
         have HLO := Lib.hid hba.load
         rw [HLD.out] at HLO
         clear HSV hb3 hob hba)
      | (go_at_call 18; refine HLO.out.mono ?_; rintro e w4 ⟨hb4, v4, L4, rfl, ho4, hl4⟩
         have HB4 := Lib.hid (HB3.out.trans (hb4.mono HB3.out.size))
         have HB34 := Lib.hid hb4
         obtain ⟨a4, c4, rfl, hs4⟩ := ho4.srow
         have hn4 : L4.length = m := by rw [← List.length_map (f := (·.1)), hl4, HLM.out]
         have hc4 := ownsRow_cap ho4.row
         rw [hn4] at hc4 ⊢
         rw [hl4] at hs4
         have HS4 := Lib.hid hs4
         have HC4 := Lib.hid hc4
         have HSS := Lib.hid (sameS_self29 w4 a4 ay m c4 cy L2 HLM.out (by omega) hs4 ((HSR.out.below HB23.out).below hb4) HBG.out.val)
         clear HLO hb4 ho4 hl4 hs4 hn4 hc4)
      | (go_at_call 13; refine HSS.out.mono ?_; rintro e w5 ⟨rfl, hb5⟩
         have HB5 := Lib.hid (HB4.out.trans (hb5.mono HB4.out.size))
         have HB35 := Lib.hid (HB34.out.trans (hb5.mono HB34.out.size))
         have HSV := Lib.hid (save_any w5 (t : Int) a4 m c4 L2 HLM.out HC4.out (HS4.out.below hb5) HBG.out)
         rw [HS2.out] at HSV
         clear HSS hb5))
    go_upto_region 13 with (go_at_call 11; refine HSV.out.mono ?_; rintro e w6 ⟨hb6, vc, rfl, hoc⟩
                            have HB6 := Lib.hid (HB5.out.trans (hb6.mono HB5.out.size))
                            obtain ⟨ac, dc, rfl, hbc⟩ := ownB_barg hoc (by rw [HNB.out]; omega)
                            rw [HNB.out] at hbc ⊢
                            have HEQ := Lib.hid (sameB_self29 ab ac nb cb dc b w6 HNB.out (by omega) ((HBA.out.below HB35.out).below hb6).rd hbc.rd)
                            clear HSV hb6 hoc hbc)
    go_wp2_with (go_at_call 12; refine HEQ.out.mono ?_; rintro e w7 ⟨rfl, q7, rfl⟩)
    go_ret
    exact ⟨rfl, HB6.out.trans ⟨rfl, rfl, rfl, Nat.le_refl _, fun _ _ => rfl⟩⟩
end Go.Proofs.YteiklgbjjmlmaaaGreat
