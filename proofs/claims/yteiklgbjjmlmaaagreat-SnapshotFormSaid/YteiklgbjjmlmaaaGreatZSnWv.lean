
/- The writer of a snapshot: values. -/
import Derived.Test.YteiklgbjjmlmaaaGreatZSnWr
import Derived.Test.YteiklgbjjmlmaaaGreatZSnVal
import Derived.Test.YteiklgbjjmlmaaaGreatZVTold
import Derived.Deep.Cut
set_option linter.unusedVariables false
set_option linter.unusedSimpArgs false
namespace Pantry
theorem flat_le {α : Type} {f : α → List UInt8} {B : Nat} : ∀ {l : List α}, (∀ x ∈ l, (f x).length ≤ B) → (l.flatMap f).length ≤ l.length * B
  | [], _ => by simp
  | x :: l, h => by
    have h1 := h x List.mem_cons_self
    have h2 := flat_le fun y hy => h y (List.mem_cons_of_mem _ hy)
    rw [List.flatMap_cons, List.length_append, List.length_cons, Nat.add_mul, Nat.one_mul]
    omega
theorem textB_len (s : List UInt8) : (textB s).length ≤ s.length + 10 := by
  unfold textB
  have := numB_len s.length
  rw [List.length_append]; omega
theorem flat_take {α : Type} {f : α → List UInt8} {l : List α} {k : Nat} {x : α} (h : l[k]? = some x) : (l.take (k + 1)).flatMap f = (l.take k).flatMap f ++ f x := by
  obtain ⟨h1, h2⟩ := List.getElem?_eq_some_iff.1 h
  rw [List.take_succ_eq_append_getElem h1, h2, List.flatMap_append, List.flatMap_singleton]
end Pantry
namespace Go.Proofs.YteiklgbjjmlmaaaGreat
open Go.RowKit Pantry

/-- Plain data that stays while what lies ahead of N stays. -/
def PlainIn (N : Nat) (w : World) (p : PD) (a1 a2 a3 : Option Addr) : Prop := ∀ wr, Below N w wr → PlainAt wr p a1 a2 a3
/-- One byte more, in a region that draws. -/
theorem WrAt.byte {N W : Nat} {A : World} {out : List UInt8} (h : WrAt N A W out) (c : UInt8) (hl : out.length ≤ 140737488355000) (hN : N ≤ A.heap.size) : ∃ v g2 cap2 n2 w2, A.cell? ⟨W, 0, none⟩ = some v ∧ ((A.alloc (.cells #[.int .u8 (c.toNat : Int)] 5)).drew).cell? ⟨W, 0, none⟩ = some v ∧
    (Builtin.append_ #[24, 24] 24 #[v, .slice (some ⟨A.heap.size, 0, none⟩) 1 1]).run Tryz.prog ((A.alloc (.cells #[.int .u8 (c.toNat : Int)] 5)).drew) = .ok (.slice (some ⟨g2, 0, none⟩) n2 cap2) w2 ∧
    w2.cell? ⟨W, 0, none⟩ = some v ∧ w2.frozen? ⟨W, 0, none⟩ = false ∧ WrAt N (w2.setCell ⟨W, 0, none⟩ (.slice (some ⟨g2, 0, none⟩) n2 cap2)) W (out ++ [c]) ∧ Below N A (w2.setCell ⟨W, 0, none⟩ (.slice (some ⟨g2, 0, none⟩) n2 cap2)) ∧ KeepT A (w2.setCell ⟨W, 0, none⟩ (.slice (some ⟨g2, 0, none⟩) n2 cap2)) := by
  obtain ⟨v, hWv, hO⟩ := h.ex
  have cW : A.cell? ⟨W, 0, none⟩ = some v := cell_of_row A W 0 _ _ _ hWv
  have hbA : Below A.heap.size A ((A.alloc (.cells #[.int .u8 (c.toNat : Int)] 5)).drew) := ((Below.refl _ A).alloc (Nat.le_refl _) _).drew
  obtain ⟨v2, w2, hrun, hO2, hg2⟩ := run_appendB snT (24 : TypeId) (hO.below hbA) (k := [c]) (m := 1) (c := 1) rfl ((Rd.new A #[.int .u8 (c.toNat : Int)] 5 (0, 0) (by simp [Value.oneCell'])).drew) (by omega) (Nat.le_trans hN hbA.size)
  obtain ⟨g2, cap2, n2, rfl, -⟩ := hO2.row (by simp)
  obtain ⟨c2, f2, hW2, hb2, hk2⟩ := WrAt.store h.ge hWv hO hO2 (grownBy_alloc_first (grownBy_drew_first hg2)) hN
  exact ⟨v, g2, cap2, n2, w2, cW, (hbA.cell (p := ⟨W, 0, none⟩) h.lt).trans cW, hrun, c2, f2, hW2, hb2, hk2⟩
theorem Shaped.len {p : PD} (h : Shaped p) : (valB p).length ≤ 2199125000000 := by
  unfold valB
  rw [List.length_cons]
  have n1 := numB_len p.items.length
  have n2 := numB_len p.pairs.length
  have n3 := numB_len p.ranks.length
  split
  · rename_i hk
    have := textB_len p.text
    have := h.text hk
    omega
  · split
    · rename_i hk
      obtain ⟨-, h2, h3⟩ := h.pairs hk
      have hf := flat_le (f := fldB) (B := 2097172) (l := p.pairs) fun x hx => by
        have := h3 x hx
        have a := textB_len x.1
        have b := textB_len x.2
        unfold fldB
        rw [List.length_append]; omega
      have := Nat.mul_le_mul_right 2097172 h2
      rw [List.length_append]; omega
    · split
      · rename_i hk
        obtain ⟨-, h2, h3⟩ := h.ranks hk
        have hf := flat_le (f := mbB) (B := 2097172) (l := p.ranks) fun x hx => by
          have := h3 x hx
          have a := textB_len x.1
          unfold mbB
          rw [List.length_append, eightB_len]; omega
        have := Nat.mul_le_mul_right 2097172 h2
        rw [List.length_append]; omega
      · split
        · rename_i hk
          obtain ⟨-, h2, h3⟩ := h.items hk
          have hf := flat_le (f := textB) (B := 2097172) (l := p.items) fun x hx => by
            have := h3 x hx
            have a := textB_len x
            omega
          have := Nat.mul_le_mul_right 2097172 h2
          rw [List.length_append]; omega
        · simp

theorem tobits29 (b : Nat) (w : World) : (callFunc 37 #[.float .f64 b]).run Tryz.prog w = .ok (.value (.int .u64 b)) w := run_callFunc_extern (e := Extern.MathFloatBits.float64bits) Tryz.func37 (by kernel_rfl) (by kernel_rfl) (by kernel_rfl) (by kernel_rfl) _ w
attribute [-go_sem] Builtin.append_
set_option maxRecDepth 100000 in
set_option maxHeartbeats 4000000 in
theorem wval_text {N W : Nat} {w : World} {out : List UInt8} (h : WrAt N w W out) (tx : List UInt8) (its : List (List UInt8)) (prs : List Fld) (rks : List Mb) (a1 a2 a3 : Option Addr) (c1 c2 c3 : Nat) (ht : tx.length ≤ 1048576) (hl : out.length ≤ 1099511627776) (hN : N ≤ w.heap.size) :
    Calls Tryz.prog 34 #[.pointer (some ⟨W, 0, none⟩), .agg (Tryz.plainCells ⟨1, tx, its, prs, rks⟩ a1 a2 a3 c1 c2 c3)] w (WrPost N W (out ++ ([o8 1] ++ textB tx)) w) := by
  simp only [Tryz.plainCells]
  obtain ⟨A, hA⟩ : ∃ A, w.alloc (.cells #[.int .i64 1, .string ⟨tx.toArray⟩, .slice a1 its.length c1, .slice a2 prs.length c2, .slice a3 rks.length c3] 49) = A := ⟨_, rfl⟩
  have hbA : Below w.heap.size w A := by rw [← hA]; exact (Below.refl _ _).alloc (Nat.le_refl _) _
  have hX : A.heap[w.heap.size]? = some (.cells #[.int .i64 1, .string ⟨tx.toArray⟩, .slice a1 its.length c1, .slice a2 prs.length c2, .slice a3 rks.length c3] 49) := by rw [← hA]; exact heap_alloc_new w _
  have hNA : N ≤ A.heap.size := Nat.le_trans hN hbA.size
  have x0 := cell_of_row A w.heap.size 0 _ _ _ hX
  obtain ⟨v, g2, cap2, n2, w2, k1, k2, k3, k4, k5, hW2, hb2, hk2⟩ := (h.below hbA).byte (o8 1) (by omega) hNA
  have hX2 := hk2 _ _ _ _ hX (by decide) (by decide)
  have y0 := cell_of_row _ w.heap.size 0 _ _ _ hX2
  have y1 := cell_of_row _ w.heap.size 1 _ _ _ hX2
  obtain ⟨O, hO⟩ : ∃ O, out ++ ([o8 1] ++ textB tx) = O := ⟨_, rfl⟩
  have HO := Lib.hid (show out ++ [o8 1] ++ textB tx = O by rw [← hO, List.append_assoc])
  rw [hO]
  clear hO
  have HT := Lib.hid (wtext_any hW2 tx (by rw [List.length_append, List.length_singleton]; omega) (Nat.le_trans hNA hb2.size))
  have HX2 := Lib.hid hX2
  have HB := Lib.hid ((hbA.mono hN).trans hb2)
  have HK := Lib.hid ((KeepT.of_below hbA).trans hk2)
  have HNN := Lib.hid hN
  have x0' : A.drew.cell? ⟨w.heap.size, 0, none⟩ = _ := x0
  rw [show ((o8 1).toNat : Int) = 1 from rfl] at k2 k3
  clear h hX hX2 hbA hb2 hk2 hW2 hl
  go_enter Tryz.func34, Tryz.ntmps34
  go_upto_region 1 with fail
  clear hA
  go_region
  go_wp2_with (go_at_call 33; refine HT.out.mono ?_; rintro e w3 ⟨rfl, hW3, hb3, hk3⟩; rw [HO.out] at hW3; have HF := Lib.hid (And.intro hW3 (And.intro (HB.out.trans hb3) (HK.out.trans hk3))); clear hW3 hb3 hk3)
  refine bodyPost_end (results_none rfl _ _ _) rfl ?_
  exact ⟨rfl, HF.out⟩
set_option maxRecDepth 100000 in
set_option maxHeartbeats 4000000 in
theorem wval_list {N W : Nat} {w : World} {out : List UInt8} (h : WrAt N w W out) (tx : List UInt8) (its : List (List UInt8)) (prs : List Fld) (rks : List Mb) (a1 a2 a3 : Option Addr) (c1 c2 c3 : Nat) (hP : ∀ wr, Below N w wr → Rd wr a1 (its.map txC)) (hf : its.length ≤ 1048576) (ht : ∀ s ∈ its, s.length ≤ 1048576) (hl : out.length ≤ 1099511627776) (hN : N ≤ w.heap.size) :
    Calls Tryz.prog 34 #[.pointer (some ⟨W, 0, none⟩), .agg (Tryz.plainCells ⟨2, tx, its, prs, rks⟩ a1 a2 a3 c1 c2 c3)] w (WrPost N W (out ++ ([o8 2] ++ (numB its.length ++ its.flatMap textB))) w) := by
  simp only [Tryz.plainCells]
  obtain ⟨A, hA⟩ : ∃ A, w.alloc (.cells #[.int .i64 2, .string ⟨tx.toArray⟩, .slice a1 its.length c1, .slice a2 prs.length c2, .slice a3 rks.length c3] 49) = A := ⟨_, rfl⟩
  have hbA : Below w.heap.size w A := by rw [← hA]; exact (Below.refl _ _).alloc (Nat.le_refl _) _
  have hX : A.heap[w.heap.size]? = some (.cells #[.int .i64 2, .string ⟨tx.toArray⟩, .slice a1 its.length c1, .slice a2 prs.length c2, .slice a3 rks.length c3] 49) := by rw [← hA]; exact heap_alloc_new w _
  have hNA : N ≤ A.heap.size := Nat.le_trans hN hbA.size
  have x0 := cell_of_row A w.heap.size 0 _ _ _ hX
  obtain ⟨v, g2, cap2, n2, w2, k1, k2, k3, k4, k5, hW2, hb2, hk2⟩ := (h.below hbA).byte (o8 2) (by omega) hNA
  have hX2 := hk2 _ _ _ _ hX (by decide) (by decide)
  have y0 := cell_of_row _ w.heap.size 0 _ _ _ hX2
  have y2 := cell_of_row _ w.heap.size 2 _ _ _ hX2
  obtain ⟨O, hO⟩ : ∃ O, out ++ ([o8 2] ++ (numB its.length ++ its.flatMap textB)) = O := ⟨_, rfl⟩
  have HO := Lib.hid (show (out ++ [o8 2] ++ numB its.length) ++ its.flatMap textB = O by rw [← hO]; simp)
  rw [hO]
  clear hO
  have HT := Lib.hid (wnum_any hW2 its.length (by omega) (by rw [List.length_append, List.length_singleton]; omega) (Nat.le_trans hNA hb2.size))
  have HP := Lib.hid hP
  have HTT := Lib.hid ht
  have HOL : Hid ((out ++ [o8 2] ++ numB its.length).length ≤ 1099511627800) := Lib.hid (by have := numB_len its.length; simp only [List.length_append, List.length_singleton]; omega)
  obtain ⟨n, hn⟩ : ∃ n, its.length = n := ⟨_, rfl⟩
  rw [hn] at HT y2 HO HOL hf hA hX hX2
  have HNL := Lib.hid hn
  clear hP ht
  have HX2 := Lib.hid hX2
  have HB := Lib.hid ((hbA.mono hN).trans hb2)
  have HK := Lib.hid ((KeepT.of_below hbA).trans hk2)
  have HNN := Lib.hid hN
  have x0' : A.drew.cell? ⟨w.heap.size, 0, none⟩ = _ := x0
  rw [show ((o8 2).toNat : Int) = 2 from rfl] at k2 k3
  rw [hn]
  clear h hX hX2 hbA hb2 hk2 hW2 hl hn
  go_enter Tryz.func34, Tryz.ntmps34
  go_upto_region 1 with fail
  clear hA
  go_region
  go_upto_region 8 with (go_at_call 32; refine HT.out.mono ?_; rintro e w3 ⟨rfl, hW3, hb3, hk3⟩
                         have hX3 := hk3 _ _ _ _ HX2.out (by decide) (by decide)
                         have HW3 := Lib.hid hW3
                         have HB3 := Lib.hid (HB.out.trans hb3)
                         have HK3 := Lib.hid (HK.out.trans hk3)
                         clear hW3 hb3 hk3 y0 y2)
  have y0 := cell_of_row _ w.heap.size 0 _ _ _ hX3
  have y2 := cell_of_row _ w.heap.size 2 _ _ _ hX3
  clear hX3
  go_wp2_with fail
  go_loopw [41] (fun i wr => ∃ k : Nat, k ≤ n ∧ i = .int .i64 k ∧ WrAt N wr W ((out ++ [o8 2] ++ numB n) ++ (its.take k).flatMap textB) ∧ Below N w wr ∧ Hid (KeepT w wr)) (fun i _ => n - (intOf i).toNat)
  case atStart => exact ⟨0, Nat.zero_le _, rfl, by rw [List.take_zero, List.flatMap_nil, List.append_nil]; exact HW3.out, HB3.out, HK3⟩
  case round =>
    obtain ⟨k, hk, rfl, hW, hb, HKT⟩ := hrel
    have HW := Lib.hid hW
    have HBR := Lib.hid hb
    clear hW hb
    by_cases hlt : k < n
    · have hlti : (k : Int) < (n : Int) := by omega
      obtain ⟨s, hs⟩ : ∃ s, its[k]? = some s := ⟨_, List.getElem?_eq_getElem (by rw [HNL.out]; exact hlt)⟩
      have hrd := HP.out wr HBR.out
      obtain ⟨-, x, rfl, hc⟩ := hrd k (.string ⟨s.toArray⟩) (by rw [List.getElem?_map, hs]; rfl)
      have hfl := flat_le (f := textB) (B := 1048586) (l := its.take k) (fun y hy => by
        have := HTT.out y (List.mem_of_mem_take hy)
        have := textB_len y
        omega)
      have hsl := HTT.out s (List.mem_of_getElem? hs)
      have hlk : (its.take k).length ≤ k := by rw [List.length_take]; omega
      have hmul : (its.take k).length * 1048586 ≤ 1048576 * 1048586 := Nat.mul_le_mul_right _ (by omega)
      have HNX := Lib.hid (flat_take (f := textB) hs)
      have HTX := Lib.hid (wtext_any HW.out s (by have := HOL.out; rw [List.length_append]; omega) (Nat.le_trans HNN.out HBR.out.size))
      clear hs hrd hfl hsl hlk hmul
      go_wp2_with (go_at_call 33; refine HTX.out.mono ?_; rintro e w4 ⟨rfl, hW4, hb4, hk4⟩; rw [List.append_assoc, ← HNX.out] at hW4; have HF := Lib.hid (And.intro hW4 (And.intro (HBR.out.trans hb4) (HKT.out.trans hk4))); clear hW4 hb4 hk4)
      go_roundw
      case rel => exact ⟨k + 1, by omega, by go_num, HF.out.1, HF.out.2.1, Lib.hid HF.out.2.2⟩
      case measure => simp [intOf]; omega
    · obtain rfl : k = n := by omega
      have HE : Hid (its.take k = its) := Lib.hid (by rw [← HNL.out]; exact List.take_length)
      rw [HE.out, HO.out] at HW
      go_wp2_with fail
      refine bodyPost_end (results_none rfl _ _ _) rfl ?_
      exact ⟨rfl, HW.out, HBR.out, HKT.out⟩
set_option maxRecDepth 100000 in
set_option maxHeartbeats 4000000 in
theorem wval_flock {N W : Nat} {w : World} {out : List UInt8} (h : WrAt N w W out) (tx : List UInt8) (its : List (List UInt8)) (prs : List Fld) (rks : List Mb) (a1 a2 a3 : Option Addr) (c1 c2 c3 : Nat) (hP : ∀ wr, Below N w wr → Rd wr a1 (its.map txC)) (hf : its.length ≤ 1048576) (ht : ∀ s ∈ its, s.length ≤ 1048576) (hl : out.length ≤ 1099511627776) (hN : N ≤ w.heap.size) :
    Calls Tryz.prog 34 #[.pointer (some ⟨W, 0, none⟩), .agg (Tryz.plainCells ⟨4, tx, its, prs, rks⟩ a1 a2 a3 c1 c2 c3)] w (WrPost N W (out ++ ([o8 4] ++ (numB its.length ++ its.flatMap textB))) w) := by
  simp only [Tryz.plainCells]
  obtain ⟨A, hA⟩ : ∃ A, w.alloc (.cells #[.int .i64 4, .string ⟨tx.toArray⟩, .slice a1 its.length c1, .slice a2 prs.length c2, .slice a3 rks.length c3] 49) = A := ⟨_, rfl⟩
  have hbA : Below w.heap.size w A := by rw [← hA]; exact (Below.refl _ _).alloc (Nat.le_refl _) _
  have hX : A.heap[w.heap.size]? = some (.cells #[.int .i64 4, .string ⟨tx.toArray⟩, .slice a1 its.length c1, .slice a2 prs.length c2, .slice a3 rks.length c3] 49) := by rw [← hA]; exact heap_alloc_new w _
  have hNA : N ≤ A.heap.size := Nat.le_trans hN hbA.size
  have x0 := cell_of_row A w.heap.size 0 _ _ _ hX
  obtain ⟨v, g2, cap2, n2, w2, k1, k2, k3, k4, k5, hW2, hb2, hk2⟩ := (h.below hbA).byte (o8 4) (by omega) hNA
  have hX2 := hk2 _ _ _ _ hX (by decide) (by decide)
  have y0 := cell_of_row _ w.heap.size 0 _ _ _ hX2
  have y2 := cell_of_row _ w.heap.size 2 _ _ _ hX2
  obtain ⟨O, hO⟩ : ∃ O, out ++ ([o8 4] ++ (numB its.length ++ its.flatMap textB)) = O := ⟨_, rfl⟩
  have HO := Lib.hid (show (out ++ [o8 4] ++ numB its.length) ++ its.flatMap textB = O by rw [← hO]; simp)
  rw [hO]
  clear hO
  have HT := Lib.hid (wnum_any hW2 its.length (by omega) (by rw [List.length_append, List.length_singleton]; omega) (Nat.le_trans hNA hb2.size))
  have HP := Lib.hid hP
  have HTT := Lib.hid ht
  have HOL : Hid ((out ++ [o8 4] ++ numB its.length).length ≤ 1099511627800) := Lib.hid (by have := numB_len its.length; simp only [List.length_append, List.length_singleton]; omega)
  obtain ⟨n, hn⟩ : ∃ n, its.length = n := ⟨_, rfl⟩
  rw [hn] at HT y2 HO HOL hf hA hX hX2
  have HNL := Lib.hid hn
  clear hP ht
  have HX2 := Lib.hid hX2
  have HB := Lib.hid ((hbA.mono hN).trans hb2)
  have HK := Lib.hid ((KeepT.of_below hbA).trans hk2)
  have HNN := Lib.hid hN
  have x0' : A.drew.cell? ⟨w.heap.size, 0, none⟩ = _ := x0
  rw [show ((o8 4).toNat : Int) = 4 from rfl] at k2 k3
  rw [hn]
  clear h hX hX2 hbA hb2 hk2 hW2 hl hn
  go_enter Tryz.func34, Tryz.ntmps34
  go_upto_region 1 with fail
  clear hA
  go_region
  go_upto_region 8 with (go_at_call 32; refine HT.out.mono ?_; rintro e w3 ⟨rfl, hW3, hb3, hk3⟩
                         have hX3 := hk3 _ _ _ _ HX2.out (by decide) (by decide)
                         have HW3 := Lib.hid hW3
                         have HB3 := Lib.hid (HB.out.trans hb3)
                         have HK3 := Lib.hid (HK.out.trans hk3)
                         clear hW3 hb3 hk3 y0 y2)
  have y0 := cell_of_row _ w.heap.size 0 _ _ _ hX3
  have y2 := cell_of_row _ w.heap.size 2 _ _ _ hX3
  clear hX3
  go_wp2_with fail
  go_loopw [41] (fun i wr => ∃ k : Nat, k ≤ n ∧ i = .int .i64 k ∧ WrAt N wr W ((out ++ [o8 4] ++ numB n) ++ (its.take k).flatMap textB) ∧ Below N w wr ∧ Hid (KeepT w wr)) (fun i _ => n - (intOf i).toNat)
  case atStart => exact ⟨0, Nat.zero_le _, rfl, by rw [List.take_zero, List.flatMap_nil, List.append_nil]; exact HW3.out, HB3.out, HK3⟩
  case round =>
    obtain ⟨k, hk, rfl, hW, hb, HKT⟩ := hrel
    have HW := Lib.hid hW
    have HBR := Lib.hid hb
    clear hW hb
    by_cases hlt : k < n
    · have hlti : (k : Int) < (n : Int) := by omega
      obtain ⟨s, hs⟩ : ∃ s, its[k]? = some s := ⟨_, List.getElem?_eq_getElem (by rw [HNL.out]; exact hlt)⟩
      have hrd := HP.out wr HBR.out
      obtain ⟨-, x, rfl, hc⟩ := hrd k (.string ⟨s.toArray⟩) (by rw [List.getElem?_map, hs]; rfl)
      have hfl := flat_le (f := textB) (B := 1048586) (l := its.take k) (fun y hy => by
        have := HTT.out y (List.mem_of_mem_take hy)
        have := textB_len y
        omega)
      have hsl := HTT.out s (List.mem_of_getElem? hs)
      have hlk : (its.take k).length ≤ k := by rw [List.length_take]; omega
      have hmul : (its.take k).length * 1048586 ≤ 1048576 * 1048586 := Nat.mul_le_mul_right _ (by omega)
      have HNX := Lib.hid (flat_take (f := textB) hs)
      have HTX := Lib.hid (wtext_any HW.out s (by have := HOL.out; rw [List.length_append]; omega) (Nat.le_trans HNN.out HBR.out.size))
      clear hs hrd hfl hsl hlk hmul
      go_wp2_with (go_at_call 33; refine HTX.out.mono ?_; rintro e w4 ⟨rfl, hW4, hb4, hk4⟩; rw [List.append_assoc, ← HNX.out] at hW4; have HF := Lib.hid (And.intro hW4 (And.intro (HBR.out.trans hb4) (HKT.out.trans hk4))); clear hW4 hb4 hk4)
      go_roundw
      case rel => exact ⟨k + 1, by omega, by go_num, HF.out.1, HF.out.2.1, Lib.hid HF.out.2.2⟩
      case measure => simp [intOf]; omega
    · obtain rfl : k = n := by omega
      have HE : Hid (its.take k = its) := Lib.hid (by rw [← HNL.out]; exact List.take_length)
      rw [HE.out, HO.out] at HW
      go_wp2_with fail
      refine bodyPost_end (results_none rfl _ _ _) rfl ?_
      exact ⟨rfl, HW.out, HBR.out, HKT.out⟩
set_option maxRecDepth 100000 in
set_option maxHeartbeats 4000000 in
theorem wval_record {N W : Nat} {w : World} {out : List UInt8} (h : WrAt N w W out) (tx : List UInt8) (its : List (List UInt8)) (prs : List Fld) (rks : List Mb) (a1 a2 a3 : Option Addr) (c1 c2 c3 : Nat) (hP : ∀ wr, Below N w wr → Rd wr a2 (fdCells prs)) (hf : prs.length ≤ 1048576) (ht : ∀ x ∈ prs, x.1.length ≤ 1048576 ∧ x.2.length ≤ 1048576) (hl : out.length ≤ 1099511627776) (hN : N ≤ w.heap.size) :
    Calls Tryz.prog 34 #[.pointer (some ⟨W, 0, none⟩), .agg (Tryz.plainCells ⟨3, tx, its, prs, rks⟩ a1 a2 a3 c1 c2 c3)] w (WrPost N W (out ++ ([o8 3] ++ (numB prs.length ++ prs.flatMap fldB))) w) := by
  simp only [Tryz.plainCells]
  obtain ⟨A, hA⟩ : ∃ A, w.alloc (.cells #[.int .i64 3, .string ⟨tx.toArray⟩, .slice a1 its.length c1, .slice a2 prs.length c2, .slice a3 rks.length c3] 49) = A := ⟨_, rfl⟩
  have hbA : Below w.heap.size w A := by rw [← hA]; exact (Below.refl _ _).alloc (Nat.le_refl _) _
  have hX : A.heap[w.heap.size]? = some (.cells #[.int .i64 3, .string ⟨tx.toArray⟩, .slice a1 its.length c1, .slice a2 prs.length c2, .slice a3 rks.length c3] 49) := by rw [← hA]; exact heap_alloc_new w _
  have hNA : N ≤ A.heap.size := Nat.le_trans hN hbA.size
  have x0 := cell_of_row A w.heap.size 0 _ _ _ hX
  obtain ⟨v, g2, cap2, n2, w2, k1, k2, k3, k4, k5, hW2, hb2, hk2⟩ := (h.below hbA).byte (o8 3) (by omega) hNA
  have hX2 := hk2 _ _ _ _ hX (by decide) (by decide)
  have y0 := cell_of_row _ w.heap.size 0 _ _ _ hX2
  have y2 := cell_of_row _ w.heap.size 3 _ _ _ hX2
  obtain ⟨O, hO⟩ : ∃ O, out ++ ([o8 3] ++ (numB prs.length ++ prs.flatMap fldB)) = O := ⟨_, rfl⟩
  have HO := Lib.hid (show (out ++ [o8 3] ++ numB prs.length) ++ prs.flatMap fldB = O by rw [← hO]; simp)
  rw [hO]
  clear hO
  have HT := Lib.hid (wnum_any hW2 prs.length (by omega) (by rw [List.length_append, List.length_singleton]; omega) (Nat.le_trans hNA hb2.size))
  have HP := Lib.hid hP
  have HTT := Lib.hid ht
  have HOL : Hid ((out ++ [o8 3] ++ numB prs.length).length ≤ 1099511627800) := Lib.hid (by have := numB_len prs.length; simp only [List.length_append, List.length_singleton]; omega)
  obtain ⟨n, hn⟩ : ∃ n, prs.length = n := ⟨_, rfl⟩
  rw [hn] at HT y2 HO HOL hf hA hX hX2
  have HNL := Lib.hid hn
  clear hP ht
  have HX2 := Lib.hid hX2
  have HB := Lib.hid ((hbA.mono hN).trans hb2)
  have HK := Lib.hid ((KeepT.of_below hbA).trans hk2)
  have HNN := Lib.hid hN
  have x0' : A.drew.cell? ⟨w.heap.size, 0, none⟩ = _ := x0
  rw [show ((o8 3).toNat : Int) = 3 from rfl] at k2 k3
  rw [hn]
  clear h hX hX2 hbA hb2 hk2 hW2 hl hn
  go_enter Tryz.func34, Tryz.ntmps34
  go_upto_region 1 with fail
  clear hA
  go_region
  go_upto_region 15 with (go_at_call 32; refine HT.out.mono ?_; rintro e w3 ⟨rfl, hW3, hb3, hk3⟩
                          have hX3 := hk3 _ _ _ _ HX2.out (by decide) (by decide)
                          have HW3 := Lib.hid hW3
                          have HB3 := Lib.hid (HB.out.trans hb3)
                          have HK3 := Lib.hid (HK.out.trans hk3)
                          clear hW3 hb3 hk3 y0 y2)
  have y0 := cell_of_row _ w.heap.size 0 _ _ _ hX3
  have y2 := cell_of_row _ w.heap.size 3 _ _ _ hX3
  clear hX3
  go_wp2_with fail
  go_loopw [59] (fun i wr => ∃ k : Nat, k ≤ n ∧ i = .int .i64 k ∧ WrAt N wr W ((out ++ [o8 3] ++ numB n) ++ (prs.take k).flatMap fldB) ∧ Below N w wr ∧ Hid (KeepT w wr)) (fun i _ => n - (intOf i).toNat)
  case atStart => exact ⟨0, Nat.zero_le _, rfl, by rw [List.take_zero, List.flatMap_nil, List.append_nil]; exact HW3.out, HB3.out, HK3⟩
  case round =>
    obtain ⟨k, hk, rfl, hW, hb, HKT⟩ := hrel
    have HW := Lib.hid hW
    have HBR := Lib.hid hb
    clear hW hb
    by_cases hlt : k < n
    · have hlti : (k : Int) < (n : Int) := by omega
      obtain ⟨s, hs⟩ : ∃ s, prs[k]? = some s := ⟨_, List.getElem?_eq_getElem (by rw [HNL.out]; exact hlt)⟩
      have hrd := HP.out wr HBR.out
      obtain ⟨y, rfl, hcl⟩ := fd_cells hrd hs
      have HCL := Lib.hid (show ∀ j u, ([.string ⟨s.1.toArray⟩, .string ⟨s.2.toArray⟩] : List Value)[j]? = some u → wr.cell? ((y.add (k * 2)).add j) = some u from hcl)
      have HSZ := Lib.hid (show (Tryz.prog.info? 71).map (·.size) = some 2 by kernel_rfl)
      have hfl := flat_le (f := fldB) (B := 2097172) (l := prs.take k) (fun y hy => by
        have := HTT.out y (List.mem_of_mem_take hy)
        have := textB_len y.1
        have := textB_len y.2
        unfold fldB
        rw [List.length_append]; omega)
      have hsl := HTT.out s (List.mem_of_getElem? hs)
      have hlk : (prs.take k).length ≤ k := by rw [List.length_take]; omega
      have hmul : (prs.take k).length * 2097172 ≤ 1048576 * 2097172 := Nat.mul_le_mul_right _ (by omega)
      have HNX := Lib.hid (show (prs.take (k + 1)).flatMap fldB = (prs.take k).flatMap fldB ++ (textB s.1 ++ textB s.2) from flat_take (f := fldB) hs)
      have hbB : Below wr.heap.size wr (wr.alloc (.cells #[.string ⟨s.1.toArray⟩, .string ⟨s.2.toArray⟩] 71)) := (Below.refl _ _).alloc (Nat.le_refl _) _
      have hNB : N ≤ wr.heap.size := Nat.le_trans HNN.out HBR.out.size
      have HBX := Lib.hid (heap_alloc_new wr (.cells #[.string ⟨s.1.toArray⟩, .string ⟨s.2.toArray⟩] 71))
      have hlen1 : ((out ++ [o8 3] ++ numB n) ++ (prs.take k).flatMap fldB).length ≤ 3298555900000 := by have := HOL.out; rw [List.length_append]; omega
      have HTX := Lib.hid (wtext_any (HW.out.below hbB) s.1 (by omega) (Nat.le_trans hNB hbB.size))
      have HBA := Lib.hid (And.intro ((HBR.out.trans (hbB.mono hNB))) (HKT.out.trans (KeepT.of_below hbB)))
      have HL2 := Lib.hid (And.intro hlen1 hsl)
      have b0 := cell_of_row _ wr.heap.size 0 _ _ _ HBX.out
      clear hs hrd hfl hsl hlk hmul hcl hbB hNB hlen1
      go_upto_region 19 with (first
        | (refine wpl_load_at rfl 71 _ rfl (y.add (k * 2)) rfl _ _ HCL.out Tryz.underlying71 rfl HSZ.out ?_)
        | (go_at_call 33; refine HTX.out.mono ?_; rintro e w4 ⟨rfl, hW4, hb4, hk4⟩
           have hbx4 := hk4 _ _ _ _ HBX.out (by decide) (by decide)
           have b1 := cell_of_row _ wr.heap.size 1 _ _ _ hbx4
           have HTY := Lib.hid (wtext_any hW4 s.2 (by have h1 := HL2.out; have h2 := textB_len s.1; rw [List.length_append]; omega) (Nat.le_trans HNN.out (HBA.out.1.trans hb4).size))
           have HBA4 := Lib.hid (And.intro (HBA.out.1.trans hb4) (HBA.out.2.trans hk4))
           clear hW4 hb4 hk4 hbx4 b0))
      go_wp2_with (go_at_call 33; refine HTY.out.mono ?_; rintro e w5 ⟨rfl, hW5, hb5, hk5⟩; rw [List.append_assoc, List.append_assoc, ← HNX.out] at hW5; have HF := Lib.hid (And.intro hW5 (And.intro (HBA4.out.1.trans hb5) (HBA4.out.2.trans hk5))); clear hW5 hb5 hk5)
      go_roundw
      case rel => exact ⟨k + 1, by omega, by go_num, HF.out.1, HF.out.2.1, Lib.hid HF.out.2.2⟩
      case measure => simp [intOf]; omega
    · obtain rfl : k = n := by omega
      have HE : Hid (prs.take k = prs) := Lib.hid (by rw [← HNL.out]; exact List.take_length)
      rw [HE.out, HO.out] at HW
      go_wp2_with fail
      refine bodyPost_end (results_none rfl _ _ _) rfl ?_
      exact ⟨rfl, HW.out, HBR.out, HKT.out⟩
set_option maxRecDepth 100000 in
set_option maxHeartbeats 4000000 in
theorem wval_ranks {N W : Nat} {w : World} {out : List UInt8} (h : WrAt N w W out) (tx : List UInt8) (its : List (List UInt8)) (prs : List Fld) (rks : List Mb) (a1 a2 a3 : Option Addr) (c1 c2 c3 : Nat) (hP : ∀ wr, Below N w wr → Rd wr a3 (rkCells rks)) (hf : rks.length ≤ 1048576) (ht : ∀ x ∈ rks, x.1.length ≤ 1048576 ∧ x.2 < 18446744073709551616) (hl : out.length ≤ 1099511627776) (hN : N ≤ w.heap.size) :
    Calls Tryz.prog 34 #[.pointer (some ⟨W, 0, none⟩), .agg (Tryz.plainCells ⟨5, tx, its, prs, rks⟩ a1 a2 a3 c1 c2 c3)] w (WrPost N W (out ++ ([o8 5] ++ (numB rks.length ++ rks.flatMap mbB))) w) := by
  simp only [Tryz.plainCells]
  obtain ⟨A, hA⟩ : ∃ A, w.alloc (.cells #[.int .i64 5, .string ⟨tx.toArray⟩, .slice a1 its.length c1, .slice a2 prs.length c2, .slice a3 rks.length c3] 49) = A := ⟨_, rfl⟩
  have hbA : Below w.heap.size w A := by rw [← hA]; exact (Below.refl _ _).alloc (Nat.le_refl _) _
  have hX : A.heap[w.heap.size]? = some (.cells #[.int .i64 5, .string ⟨tx.toArray⟩, .slice a1 its.length c1, .slice a2 prs.length c2, .slice a3 rks.length c3] 49) := by rw [← hA]; exact heap_alloc_new w _
  have hNA : N ≤ A.heap.size := Nat.le_trans hN hbA.size
  have x0 := cell_of_row A w.heap.size 0 _ _ _ hX
  obtain ⟨v, g2, cap2, n2, w2, k1, k2, k3, k4, k5, hW2, hb2, hk2⟩ := (h.below hbA).byte (o8 5) (by omega) hNA
  have hX2 := hk2 _ _ _ _ hX (by decide) (by decide)
  have y0 := cell_of_row _ w.heap.size 0 _ _ _ hX2
  have y2 := cell_of_row _ w.heap.size 4 _ _ _ hX2
  obtain ⟨O, hO⟩ : ∃ O, out ++ ([o8 5] ++ (numB rks.length ++ rks.flatMap mbB)) = O := ⟨_, rfl⟩
  have HO := Lib.hid (show (out ++ [o8 5] ++ numB rks.length) ++ rks.flatMap mbB = O by rw [← hO]; simp)
  rw [hO]
  clear hO
  have HT := Lib.hid (wnum_any hW2 rks.length (by omega) (by rw [List.length_append, List.length_singleton]; omega) (Nat.le_trans hNA hb2.size))
  have HP := Lib.hid hP
  have HTT := Lib.hid ht
  have HOL : Hid ((out ++ [o8 5] ++ numB rks.length).length ≤ 1099511627800) := Lib.hid (by have := numB_len rks.length; simp only [List.length_append, List.length_singleton]; omega)
  obtain ⟨n, hn⟩ : ∃ n, rks.length = n := ⟨_, rfl⟩
  rw [hn] at HT y2 HO HOL hf hA hX hX2
  have HNL := Lib.hid hn
  clear hP ht
  have HX2 := Lib.hid hX2
  have HB := Lib.hid ((hbA.mono hN).trans hb2)
  have HK := Lib.hid ((KeepT.of_below hbA).trans hk2)
  have HNN := Lib.hid hN
  have x0' : A.drew.cell? ⟨w.heap.size, 0, none⟩ = _ := x0
  rw [show ((o8 5).toNat : Int) = 5 from rfl] at k2 k3
  rw [hn]
  clear h hX hX2 hbA hb2 hk2 hW2 hl hn
  go_enter Tryz.func34, Tryz.ntmps34
  go_upto_region 1 with fail
  clear hA
  go_region
  go_upto_region 23 with (go_at_call 32; refine HT.out.mono ?_; rintro e w3 ⟨rfl, hW3, hb3, hk3⟩
                          have hX3 := hk3 _ _ _ _ HX2.out (by decide) (by decide)
                          have HW3 := Lib.hid hW3
                          have HB3 := Lib.hid (HB.out.trans hb3)
                          have HK3 := Lib.hid (HK.out.trans hk3)
                          clear hW3 hb3 hk3 y0 y2)
  have y0 := cell_of_row _ w.heap.size 0 _ _ _ hX3
  have y2 := cell_of_row _ w.heap.size 4 _ _ _ hX3
  clear hX3
  go_wp2_with fail
  go_loopw [82] (fun i wr => ∃ k : Nat, k ≤ n ∧ i = .int .i64 k ∧ WrAt N wr W ((out ++ [o8 5] ++ numB n) ++ (rks.take k).flatMap mbB) ∧ Below N w wr ∧ Hid (KeepT w wr)) (fun i _ => n - (intOf i).toNat)
  case atStart => exact ⟨0, Nat.zero_le _, rfl, by rw [List.take_zero, List.flatMap_nil, List.append_nil]; exact HW3.out, HB3.out, HK3⟩
  case round =>
    obtain ⟨k, hk, rfl, hW, hb, HKT⟩ := hrel
    have HW := Lib.hid hW
    have HBR := Lib.hid hb
    clear hW hb
    by_cases hlt : k < n
    · have hlti : (k : Int) < (n : Int) := by omega
      obtain ⟨s, hs⟩ : ∃ s, rks[k]? = some s := ⟨_, List.getElem?_eq_getElem (by rw [HNL.out]; exact hlt)⟩
      have hrd := HP.out wr HBR.out
      obtain ⟨y, rfl, hcl⟩ := rk_cells hrd hs
      have HCL := Lib.hid (show ∀ j u, ([.string ⟨s.1.toArray⟩, .float .f64 s.2] : List Value)[j]? = some u → wr.cell? ((y.add (k * 2)).add j) = some u from fun j u hj => by rw [Addr.add_add]; exact hcl j u hj)
      have HSZ := Lib.hid (show (Tryz.prog.info? 54).map (·.size) = some 2 by kernel_rfl)
      have hfl := flat_le (f := mbB) (B := 2097172) (l := rks.take k) (fun y hy => by
        have := HTT.out y (List.mem_of_mem_take hy)
        have := textB_len y.1
        unfold mbB
        rw [List.length_append, eightB_len]; omega)
      have hsl := HTT.out s (List.mem_of_getElem? hs)
      have hlk : (rks.take k).length ≤ k := by rw [List.length_take]; omega
      have hmul : (rks.take k).length * 2097172 ≤ 1048576 * 2097172 := Nat.mul_le_mul_right _ (by omega)
      have HNX := Lib.hid (show (rks.take (k + 1)).flatMap mbB = (rks.take k).flatMap mbB ++ (textB s.1 ++ eightB s.2) from flat_take (f := mbB) hs)
      have hbB : Below wr.heap.size wr (wr.alloc (.cells #[.string ⟨s.1.toArray⟩, .float .f64 s.2] 54)) := (Below.refl _ _).alloc (Nat.le_refl _) _
      have hNB : N ≤ wr.heap.size := Nat.le_trans HNN.out HBR.out.size
      have HBX := Lib.hid (heap_alloc_new wr (.cells #[.string ⟨s.1.toArray⟩, .float .f64 s.2] 54))
      have hlen1 : ((out ++ [o8 5] ++ numB n) ++ (rks.take k).flatMap mbB).length ≤ 3298555900000 := by have := HOL.out; rw [List.length_append]; omega
      have HTX := Lib.hid (wtext_any (HW.out.below hbB) s.1 (by omega) (Nat.le_trans hNB hbB.size))
      have HBA := Lib.hid (And.intro ((HBR.out.trans (hbB.mono hNB))) (HKT.out.trans (KeepT.of_below hbB)))
      have HL2 := Lib.hid (And.intro hlen1 hsl)
      have b0 := cell_of_row _ wr.heap.size 0 _ _ _ HBX.out
      clear hs hrd hfl hsl hlk hmul hcl hbB hNB hlen1
      go_upto_region 27 with (first
        | (refine wpl_load_at rfl 54 _ rfl (y.add (k * 2)) rfl _ _ HCL.out Tryz.underlying54 rfl HSZ.out ?_)
        | (go_at_call 33; refine HTX.out.mono ?_; rintro e w4 ⟨rfl, hW4, hb4, hk4⟩
           have hbx4 := hk4 _ _ _ _ HBX.out (by decide) (by decide)
           have b1 := cell_of_row _ wr.heap.size 1 _ _ _ hbx4
           have HTY := Lib.hid (w8_any hW4 s.2 HL2.out.2.2 (by have h1 := HL2.out; have h2 := textB_len s.1; rw [List.length_append]; omega) (Nat.le_trans HNN.out (HBA.out.1.trans hb4).size))
           have HBA4 := Lib.hid (And.intro (HBA.out.1.trans hb4) (HBA.out.2.trans hk4))
           clear hW4 hb4 hk4 hbx4 b0))
      have hbits := fun W => tobits29 s.2 W
      go_wp2_with (go_at_call 35; refine HTY.out.mono ?_; rintro e w5 ⟨rfl, hW5, hb5, hk5⟩; rw [List.append_assoc, List.append_assoc, ← HNX.out] at hW5; have HF := Lib.hid (And.intro hW5 (And.intro (HBA4.out.1.trans hb5) (HBA4.out.2.trans hk5))); clear hW5 hb5 hk5)
      go_roundw
      case rel => exact ⟨k + 1, by omega, by go_num, HF.out.1, HF.out.2.1, Lib.hid HF.out.2.2⟩
      case measure => simp [intOf]; omega
    · obtain rfl : k = n := by omega
      have HE : Hid (rks.take k = rks) := Lib.hid (by rw [← HNL.out]; exact List.take_length)
      rw [HE.out, HO.out] at HW
      go_wp2_with fail
      refine bodyPost_end (results_none rfl _ _ _) rfl ?_
      exact ⟨rfl, HW.out, HBR.out, HKT.out⟩
theorem wval_any {N W : Nat} {w : World} {out : List UInt8} (h : WrAt N w W out) (p : PD) (a1 a2 a3 : Option Addr) (c1 c2 c3 : Nat) (hP : PlainIn N w p a1 a2 a3) (hs : Shaped p) (hl : out.length ≤ 1099511627776) (hN : N ≤ w.heap.size) :
    Calls Tryz.prog 34 #[.pointer (some ⟨W, 0, none⟩), .agg (Tryz.plainCells p a1 a2 a3 c1 c2 c3)] w (WrPost N W (out ++ valB p) w) := by
  obtain ⟨kd, tx, its, prs, rks⟩ := p
  have hk := hs.kind
  simp only at hk
  have hk5 : kd = 1 ∨ kd = 2 ∨ kd = 3 ∨ kd = 4 ∨ kd = 5 := by omega
  rcases hk5 with rfl | rfl | rfl | rfl | rfl
  · exact wval_text h tx its prs rks a1 a2 a3 c1 c2 c3 (hs.text rfl) hl hN
  · exact wval_list h tx its prs rks a1 a2 a3 c1 c2 c3 (fun wr h => (hP wr h).items) (hs.items (.inl rfl)).2.1 (hs.items (.inl rfl)).2.2 hl hN
  · exact wval_record h tx its prs rks a1 a2 a3 c1 c2 c3 (fun wr h => (hP wr h).pairs) (hs.pairs rfl).2.1 (hs.pairs rfl).2.2 hl hN
  · exact wval_flock h tx its prs rks a1 a2 a3 c1 c2 c3 (fun wr h => (hP wr h).items) (hs.items (.inr rfl)).2.1 (hs.items (.inr rfl)).2.2 hl hN
  · exact wval_ranks h tx its prs rks a1 a2 a3 c1 c2 c3 (fun wr h => (hP wr h).ranks) (hs.ranks rfl).2.1 (hs.ranks rfl).2.2 hl hN
end Go.Proofs.YteiklgbjjmlmaaaGreat
