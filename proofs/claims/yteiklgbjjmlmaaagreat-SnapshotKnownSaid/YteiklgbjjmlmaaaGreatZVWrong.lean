
/- Why plain data makes no value: the walk. -/
import Derived.Test.YteiklgbjjmlmaaaGreatZVHeld
set_option linter.unusedVariables false
set_option linter.unusedSimpArgs false
namespace Pantry
open Go Go.RowKit
theorem longT_snoc (m : Int) (l : List (List UInt8)) (s : List UInt8) : longT m (l ++ [s]) = max (longT m l) (s.length : Int) := by simp [longT]
theorem longF_snoc (m : Int) (l : List Fld) (x : Fld) : longF m (l ++ [x]) = max (longF m l) (max (x.1.length : Int) (x.2.length : Int)) := by simp [longF]
theorem longM_snoc (m : Int) (l : List Mb) (x : Mb) : longM m (l ++ [x]) = max (longM m l) (x.1.length : Int) := by simp [longM]
theorem nanB_snoc (l : List Mb) (x : Mb) : nanB (l ++ [x]) = (nanB l || decide (fnan x.2)) := by simp [nanB]
theorem namesT_zero (p : PD) : namesT p 0 = [] := by simp [namesT]
theorem fdCells_drop (l : List Fld) (i : Nat) : (fdCells l).drop (i * 2) = fdCells (l.drop i) := by
  induction l generalizing i with
  | nil => simp [fdCells]
  | cons p l ih =>
    cases i with
    | zero => simp [fdCells]
    | succ i =>
      have := ih i
      simp only [fdCells, List.flatMap_cons, List.drop_succ_cons, fdC] at *
      rw [show (i + 1) * 2 = i * 2 + 1 + 1 by omega]
      simp [this]
theorem fdCells_get {l : List Fld} {k : Nat} {p : Fld} (h : l[k]? = some p) (j : Nat) (hj : j < 2) : (fdCells l)[k * 2 + j]? = (fdC p)[j]? := by
  have h1 : (fdCells l).drop (k * 2) = fdCells (l.drop k) := fdCells_drop l k
  rw [← List.getElem?_drop, h1]
  obtain ⟨hk, rfl⟩ := List.getElem?_eq_some_iff.1 h
  rw [List.drop_eq_getElem_cons hk]
  simp only [fdCells, List.flatMap_cons]
  rw [List.getElem?_append_left (by simp [fdC]; omega)]
theorem fd_cells {w : World} {a : Option Addr} {l : List Fld} (h : Rd w a (fdCells l)) {k : Nat} {p : Fld} (hk : l[k]? = some p) : ∃ y, a = some y ∧ ∀ j u, (fdC p)[j]? = some u → w.cell? ((y.add (k * 2)).add j) = some u := by
  have h0 := fdCells_get hk 0 (by omega)
  obtain ⟨-, y, hy, -⟩ := h (k * 2 + 0) (.string ⟨p.1.toArray⟩) (by rw [h0]; rfl)
  refine ⟨y, hy, fun j u hj => ?_⟩
  have hj2 : j < 2 := (List.getElem?_eq_some_iff.1 hj).1
  obtain ⟨-, y', hy', hc⟩ := h (k * 2 + j) u (by rw [fdCells_get hk j hj2]; exact hj)
  rw [hy] at hy'; cases hy'
  rw [Addr.add_add]
  exact hc
/-- The names up to a pair; up to a member. -/
def names2 (p : PD) (k : Nat) : List (List UInt8) := namesT p p.items.length ++ (p.pairs.take k).map (·.1)
def names3 (p : PD) (k : Nat) : List (List UInt8) := names2 p p.pairs.length ++ (p.ranks.take k).map (·.1)
theorem names2_zero (p : PD) : names2 p 0 = namesT p p.items.length := by simp [names2]
theorem names3_zero (p : PD) : names3 p 0 = names2 p p.pairs.length := by simp [names3]
theorem names2_snoc {p : PD} {k : Nat} {x : Fld} (h : p.pairs.take (k + 1) = p.pairs.take k ++ [x]) : names2 p (k + 1) = names2 p k ++ [x.1] := by simp [names2, h]
theorem names3_snoc {p : PD} {k : Nat} {x : Mb} (h : p.ranks.take (k + 1) = p.ranks.take k ++ [x]) : names3 p (k + 1) = names3 p k ++ [x.1] := by simp [names3, h]
theorem names3_all (p : PD) : names3 p p.ranks.length = namesP p := by simp [names3, names2, namesP]
theorem namesT_len (p : PD) (k : Nat) : (namesT p k).length ≤ p.items.length := by
  unfold namesT
  split
  · simp; omega
  · simp
theorem names2_len (p : PD) (k : Nat) : (names2 p k).length ≤ p.items.length + p.pairs.length := by
  have := namesT_len p p.items.length
  simp [names2]
  omega
theorem names3_len (p : PD) (k : Nat) : (names3 p k).length ≤ p.items.length + p.pairs.length + p.ranks.length := by
  have := names2_len p p.pairs.length
  simp [names3]
  omega
theorem take_succ_get {α : Type} (l : List α) (k : Nat) (h : k < l.length) : l.take (k + 1) = l.take k ++ [l[k]] := by
  rw [List.take_add_one, List.getElem?_eq_getElem h]; rfl
end Pantry
namespace Go.Proofs.YteiklgbjjmlmaaaGreat
open Go.RowKit Pantry

theorem OnBox.chg {w : World} {p : PD} {a1 a2 a3 : Option Addr} {c1 c2 c3 : Nat} {W W' : World} {S : Nat → Prop} (h : OnBox w p a1 a2 a3 c1 c2 c3 W) (hc : Chg S W W') (hS : ∀ k, S k → w.heap.size + 1 ≤ k) : OnBox w p a1 a2 a3 c1 c2 c3 W' :=
  ⟨Nat.le_trans h.1 hc.size, ⟨hc.os.trans h.2.1.os, hc.tape.trans h.2.1.tape, hc.output.trans h.2.1.output, Nat.le_trans h.2.1.size hc.size, fun k hk => (hc.block k (by have := h.1; omega) (fun e => by have := hS k e; omega)).trans (h.2.1.block k hk)⟩, hc.heap h.2.2 (fun e => by have := hS _ e; omega)⟩
/-- The state of the three loops. -/
structure WSt (w : World) (p : PD) (a1 a2 a3 : Option Addr) (c1 c2 c3 : Nat) (bt bm m : Nat) (tw : Bool) (l : List (List UInt8)) (W : World) : Prop where
  box : OnBox w p a1 a2 a3 c1 c2 c3 W
  nms : Names W bt bm m tw l
  gt : w.heap.size + 1 ≤ bt ∧ w.heap.size + 1 ≤ bm ∧ w.heap.size + 1 ≤ m
theorem WSt.call {w : World} {p : PD} {a1 a2 a3 : Option Addr} {c1 c2 c3 : Nat} {bt bm m : Nat} {tw : Bool} {l : List (List UInt8)} {W : World} (h : WSt w p a1 a2 a3 c1 c2 c3 bt bm m tw l W) (s : List UInt8) (hs : s.length ≤ maxLen) (hl : l.length < maxLen) :
    Calls Tryz.prog 78 #[.string ⟨s.toArray⟩, .pointer (some ⟨bt, 0, none⟩), .pointer (some ⟨bm, 0, none⟩)] W fun e W' => e = .returned (.tuple #[]) ∧ WSt w p a1 a2 a3 c1 c2 c3 bt bm m (tw || decide (s ∈ l)) (l ++ [s]) W' ∧ Chg (fun k => k = bt ∨ k = m) W W' := by
  refine (name_any W s bt bm m tw l h.nms hs hl).mono ?_
  rintro e W' ⟨rfl, h1, h2⟩
  exact ⟨rfl, ⟨h.box.chg h2 (fun k hk => by obtain ⟨g1, g2, g3⟩ := h.gt; rcases hk with rfl | rfl <;> omega), h1, h.gt⟩, h2⟩
theorem WSt.alloc {w : World} {p : PD} {a1 a2 a3 : Option Addr} {c1 c2 c3 : Nat} {bt bm m : Nat} {tw : Bool} {l : List (List UInt8)} {W : World} (h : WSt w p a1 a2 a3 c1 c2 c3 bt bm m tw l W) (o : Obj) : WSt w p a1 a2 a3 c1 c2 c3 bt bm m tw l (W.alloc o) :=
  ⟨h.box.to ((Below.refl _ W).alloc (Nat.le_refl _) _), h.nms.keep (S := fun _ => False) (Chg.of_below ((Below.refl _ W).alloc (Nat.le_refl _) _)) id id id, h.gt⟩
theorem WSt.store {w : World} {p : PD} {a1 a2 a3 : Option Addr} {c1 c2 c3 : Nat} {bt bm m : Nat} {tw : Bool} {l : List (List UInt8)} {W : World} (h : WSt w p a1 a2 a3 c1 c2 c3 bt bm m tw l W) (t : Bool) : WSt w p a1 a2 a3 c1 c2 c3 bt bm m t l (W.setCell ⟨bt, 0, none⟩ (.bool t)) := by
  have hc : Chg (fun k => k = bt) W (W.setCell ⟨bt, 0, none⟩ (.bool t)) := Chg.setCell (S := fun k => k = bt) (Chg.refl _ W) (p := ⟨bt, 0, none⟩) (fun _ => rfl) _
  obtain ⟨n1, n2, n3⟩ := h.nms.ne
  exact ⟨h.box.chg hc (fun k hk => by have := h.gt.1; omega), ⟨one_setCell h.nms.tw, hc.heap h.nms.mp (fun e => n2 e.symm), h.nms.own.keep hc (fun e => n1 e.symm)⟩, h.gt⟩
theorem WSt.cells {w : World} {p : PD} {a1 a2 a3 : Option Addr} {c1 c2 c3 : Nat} {bt bm m : Nat} {tw : Bool} {l : List (List UInt8)} {W : World} (h : WSt w p a1 a2 a3 c1 c2 c3 bt bm m tw l W) :
    W.cell? ⟨w.heap.size, 0, none⟩ = some (.int .i64 p.kind) ∧ W.cell? ⟨w.heap.size, 2, none⟩ = some (.slice a1 p.items.length c1) ∧
    W.cell? ⟨w.heap.size, 3, none⟩ = some (.slice a2 p.pairs.length c2) ∧ W.cell? ⟨w.heap.size, 4, none⟩ = some (.slice a3 p.ranks.length c3) ∧
    W.cell? ⟨bt, 0, none⟩ = some (.bool tw) ∧ W.frozen? ⟨bt, 0, none⟩ = false :=
  ⟨h.box.kind, h.box.fields.2.1, h.box.fields.2.2.1, h.box.fields.2.2.2, cell_of_row _ _ 0 _ _ _ h.nms.tw, frozen_of_row _ _ 0 _ _ h.nms.tw⟩

theorem WSt.start {w : World} {p : PD} {a1 a2 a3 : Option Addr} {c1 c2 c3 : Nat} {W : World} (h : OnBox w p a1 a2 a3 c1 c2 c3 W) :
    WSt w p a1 a2 a3 c1 c2 c3 W.heap.size (W.heap.size + 1 + 1) (W.heap.size + 1) false [] (((W.alloc (.cells #[.bool false] 4)).alloc (.map #[] 0)).alloc (.cells #[.map (some (W.heap.size + 1))] 130)) := by
  have b1 : Below W.heap.size W (W.alloc (.cells #[.bool false] 4)) := (Below.refl _ W).alloc (Nat.le_refl _) _
  have b2 := b1.alloc b1.size (.map #[] 0)
  have b3 := b2.alloc b2.size (.cells #[.map (some (W.heap.size + 1))] 130)
  have e1 : (W.alloc (.cells #[.bool false] 4)).heap.size = W.heap.size + 1 := by simp
  have e2 : ((W.alloc (.cells #[.bool false] 4)).alloc (.map #[] 0)).heap.size = W.heap.size + 1 + 1 := by simp
  refine ⟨h.to b3, ⟨?_, ?_, ?_⟩, ?_⟩
  · rw [heap_alloc_old (by simp; omega), heap_alloc_old (by simp)]
    exact heap_alloc_new W _
  · rw [← e2]
    exact heap_alloc_new _ _
  · have := Seen.made (W.alloc (.cells #[.bool false] 4))
    rw [e1] at this
    exact World.ownsMap.alloc this _
  · have := h.1
    exact ⟨by omega, by omega, by omega⟩

set_option maxHeartbeats 16000000 in
theorem wrong_go (w : World) (p : PD) (a1 a2 a3 : Option Addr) (c1 c2 c3 : Nat) (hP : PlainAt w p a1 a2 a3) (hB : PlainBig p) (h1 : ¬ p.kind < 1) (h5 : ¬ 5 < p.kind)
    (hu1 : belT p = true) (hu2 : belI p = true) (hu3 : belF p = true) (hu4 : belR p = true) :
    Calls Tryz.prog 59 #[.agg (Tryz.plainCells p a1 a2 a3 c1 c2 c3)] w (QPost w (.int .i64 (if twiceP p then 3 else if 1048576 < longP p then 2 else if 1048576 < mostP p then 4 else 0))) := by
  obtain ⟨W0, hW0⟩ : ∃ W, w.alloc (.cells (Tryz.plainCells p a1 a2 a3 c1 c2 c3) 49) = W := ⟨_, rfl⟩
  have H0 := Lib.hid (OnBox.start w p a1 a2 a3 c1 c2 c3)
  rw [hW0] at H0
  have hs0 : W0.heap.size = w.heap.size + 1 := by rw [← hW0]; simp
  have hk0 := H0.out.kind
  obtain ⟨f1, f2, f3, f4⟩ := H0.out.fields
  have HT := Lib.hid (OnBox.callT H0.out hu1 hs0.symm)
  replace hu2 := Lib.hid hu2
  replace hu3 := Lib.hid hu3
  replace hu4 := Lib.hid hu4
  clear hu1
  replace hP := Lib.hid hP
  replace hB := Lib.hid hB
  have hmm := @run_makeMap Tryz.prog
  obtain ⟨res, hres⟩ : ∃ r : Int, (if twiceP p then 3 else if 1048576 < longP p then 2 else if 1048576 < mostP p then 4 else 0) = r := ⟨_, rfl⟩
  rw [hres]
  replace hres := Lib.hid hres
  unfold Tryz.plainCells at hW0 ⊢
  go_enter Tryz.func59, Tryz.ntmps59
  go_wp2_with (first
      | (go_at_call 77
         refine HT.out.mono ?_
         rintro e w2 ⟨rfl, H2⟩
         obtain ⟨f12, f22, f32, f42⟩ := H2.fields
         have H2' := Lib.hid H2
         clear H2 HT)
      | (go_at_call 77
         refine (H2'.out.callI hu2.out rfl).mono ?_
         rintro e w3 ⟨rfl, H3⟩
         obtain ⟨f13, f23, f33, f43⟩ := H3.fields
         have H3' := Lib.hid H3
         clear H3 hu2)
      | (go_at_call 77
         refine (H3'.out.callF hu3.out rfl).mono ?_
         rintro e w4 ⟨rfl, H4⟩
         obtain ⟨f14, f24, f34, f44⟩ := H4.fields
         have H4' := Lib.hid H4
         clear H4 hu3)
      | (go_at_call 77
         refine (H4'.out.callR hu4.out rfl).mono ?_
         rintro e w5 ⟨rfl, H5⟩
         obtain ⟨f15, f25, f35, f45⟩ := H5.fields
         have k5 := H5.kind
         have HS := WSt.start H5
         obtain ⟨k6, f26, f36, f46, t6, fz6⟩ := HS.cells
         have HS' := Lib.hid HS
         clear H5 hu4 HS))
  go_loopw [4, 67] (fun lg i wr => ∃ k : Nat, k ≤ p.items.length ∧ i = .int .i64 k ∧ lg = .int .i64 (longT p.text.length (p.items.take k)) ∧
      WSt w p a1 a2 a3 c1 c2 c3 w5.heap.size (w5.heap.size + 1 + 1) (w5.heap.size + 1) (dupB (namesT p k)) (namesT p k) wr)
    (fun _ i _ => p.items.length - (intOf i).toNat)
  case atStart => exact ⟨0, Nat.zero_le _, rfl, rfl, by rw [namesT_zero]; exact HS'.out⟩
  case round =>
    obtain ⟨k, hk, rfl, rfl, hO⟩ := hrel
    have hbi := hB.out.items
    obtain ⟨L, hL⟩ : ∃ L, longT p.text.length (p.items.take k) = L := ⟨_, rfl⟩
    rw [hL]
    obtain ⟨kk, q2, q3, q4, q5, q6⟩ := hO.cells
    clear H0 hW0 hs0 hk0 f1 f2 f3 f4 f12 f22 f32 f42 f13 f23 f33 f43 f14 f24 f34 f44 f15 f25 f35 f45 k5 k6 f26 f36 f46 t6 fz6 H2' H3' H4' HS'
    by_cases hlt : k < p.items.length
    · have hRd : Rd wr a1 (p.items.map txC) := hP.out.items.below hO.box.2.1
      obtain ⟨x, hx, hcx⟩ := hRd.cell k (by simpa using hlt)
      rw [List.getElem_map] at hcx
      have hsl := hB.out.texts p.items[k] (List.getElem_mem hlt)
      have hget := Lib.hid (take_succ_get p.items k hlt)
      obtain ⟨s, hs⟩ : ∃ s, p.items[k] = s := ⟨_, rfl⟩
      rw [hs] at hcx hsl hget
      change wr.cell? (x.add k) = some (.string ⟨s.toArray⟩) at hcx
      clear hRd
      subst hx
      by_cases h4 : p.kind = 4
      · have hnl : (namesT p k).length < maxLen := by simp [namesT, h4]; unfold maxLen; omega
        have HC := Lib.hid (hO.call s (by unfold maxLen; omega) hnl)
        clear hnl
        rw [h4] at kk
        replace h4 := Lib.hid h4
        replace hO := Lib.hid hO
        go_wp2_with (go_at_call 78; refine HC.out.mono ?_; rintro e W2 ⟨rfl, HN, -⟩; replace HN := Lib.hid HN; clear HC)
        go_roundw
        case rel =>
          refine ⟨k + 1, by omega, by go_num, ?_, ?_⟩
          · rw [hget.out, longT_snoc, hL]
          · have e : namesT p (k + 1) = namesT p k ++ [s] := by simp [namesT, h4.out, hget.out]
            rw [e, dupB_snoc]
            exact HN.out
        case measure => simp [intOf]; omega
      · have h4' : (p.kind == 4) = false := by simp [h4]
        replace hO := Lib.hid hO
        go_wp2_with fail
        go_roundw
        case rel =>
          refine ⟨k + 1, by omega, by go_num, ?_, ?_⟩
          · rw [hget.out, longT_snoc, hL]
          · have e : namesT p (k + 1) = namesT p k := by simp [namesT, h4]
            rw [e]
            exact hO.out
        case measure => simp [intOf]; omega
    · obtain rfl : k = p.items.length := by omega
      rw [List.take_length] at hL
      clear hlt hk q2 q3 q4 q5 q6 kk
      have q3 := hO.cells.2.2.1
      replace hO := Lib.hid hO
      go_wp2_with fail
      go_loopw [4, 85] (fun lg i wr => ∃ k : Nat, k ≤ p.pairs.length ∧ i = .int .i64 k ∧ lg = .int .i64 (longF L (p.pairs.take k)) ∧
          WSt w p a1 a2 a3 c1 c2 c3 w5.heap.size (w5.heap.size + 1 + 1) (w5.heap.size + 1) (dupB (names2 p k)) (names2 p k) wr)
        (fun _ i _ => p.pairs.length - (intOf i).toNat)
      case atStart => exact ⟨0, Nat.zero_le _, rfl, rfl, by rw [names2_zero]; exact hO.out⟩
      case round =>
        obtain ⟨k, hk, rfl, rfl, hO2⟩ := hrel
        have hbp := hB.out.pairs
        obtain ⟨L2, hL2⟩ : ∃ L', longF L (p.pairs.take k) = L' := ⟨_, rfl⟩
        rw [hL2]
        obtain ⟨kk, q2, q3, q4, q5, q6⟩ := hO2.cells
        clear hO
        by_cases hlt : k < p.pairs.length
        · have hRd : Rd wr a2 (fdCells p.pairs) := hP.out.pairs.below hO2.box.2.1
          obtain ⟨x, hx⟩ : ∃ x, p.pairs[k]? = some x := ⟨_, List.getElem?_eq_getElem hlt⟩
          have hget := Lib.hid (show p.pairs.take (k + 1) = p.pairs.take k ++ [x] from by rw [take_succ_get _ _ hlt]; simp [List.getElem?_eq_getElem hlt] at hx; rw [hx])
          have hsl := hB.out.names x (List.mem_of_getElem? hx)
          obtain ⟨y, rfl, hcl⟩ := fd_cells hRd hx
          have HCL := Lib.hid (show ∀ j u, ([.string ⟨x.1.toArray⟩, .string ⟨x.2.toArray⟩] : List Value)[j]? = some u → wr.cell? ((y.add (k * 2)).add j) = some u from hcl)
          have HSZ := Lib.hid (show (Tryz.prog.info? 71).map (·.size) = some 2 by kernel_rfl)
          have hnl : (names2 p k).length < maxLen := by have := names2_len p k; unfold maxLen; omega
          have HC := Lib.hid ((hO2.alloc (.cells #[.string ⟨x.1.toArray⟩, .string ⟨x.2.toArray⟩] 71)).call x.1 (by unfold maxLen; omega) hnl)
          replace hO2 := Lib.hid hO2
          clear hRd hcl hnl hx
          go_wp2_with (first
            | (refine wpl_load_at rfl 71 _ rfl (y.add (k * 2)) rfl _ _ HCL.out Tryz.underlying71 rfl HSZ.out ?_; clear HCL)
            | (go_at_call 78; refine HC.out.mono ?_; rintro e W2 ⟨rfl, HN, -⟩; replace HN := Lib.hid HN; clear HC))
          go_roundw
          case rel =>
            refine ⟨k + 1, by omega, by go_num, ?_, ?_⟩
            · rw [hget.out, longF_snoc, hL2]
            · rw [names2_snoc hget.out, dupB_snoc]
              exact HN.out
          case measure => simp [intOf]; omega
        · obtain rfl : k = p.pairs.length := by omega
          rw [List.take_length] at hL2
          clear hlt hk q2 q3 q4 q5 q6 kk
          have q4 := hO2.cells.2.2.2.1
          replace hO2 := Lib.hid hO2
          go_wp2_with fail
          go_loopw [4, 105] (fun lg i wr => ∃ k : Nat, k ≤ p.ranks.length ∧ i = .int .i64 k ∧ lg = .int .i64 (longM L2 (p.ranks.take k)) ∧
              WSt w p a1 a2 a3 c1 c2 c3 w5.heap.size (w5.heap.size + 1 + 1) (w5.heap.size + 1) (dupB (names3 p k) || nanB (p.ranks.take k)) (names3 p k) wr)
            (fun _ i _ => p.ranks.length - (intOf i).toNat)
          case atStart => exact ⟨0, Nat.zero_le _, rfl, rfl, by rw [names3_zero]; simpa [nanB] using hO2.out⟩
          case round =>
            obtain ⟨k, hk, rfl, rfl, hO3⟩ := hrel
            have hbr := hB.out.ranks
            obtain ⟨L3, hL3⟩ : ∃ L', longM L2 (p.ranks.take k) = L' := ⟨_, rfl⟩
            rw [hL3]
            obtain ⟨kk, q2, q3, q4, q5, q6⟩ := hO3.cells
            clear hO2
            by_cases hlt : k < p.ranks.length
            · have hRd : Rd wr a3 (rkCells p.ranks) := hP.out.ranks.below hO3.box.2.1
              obtain ⟨x, hx⟩ : ∃ x, p.ranks[k]? = some x := ⟨_, List.getElem?_eq_getElem hlt⟩
              have hget := Lib.hid (show p.ranks.take (k + 1) = p.ranks.take k ++ [x] from by rw [take_succ_get _ _ hlt]; simp [List.getElem?_eq_getElem hlt] at hx; rw [hx])
              have hsl := hB.out.mems x (List.mem_of_getElem? hx)
              obtain ⟨y, rfl, hcl⟩ := rk_cells hRd hx
              have HCL := Lib.hid (show ∀ j u, ([.string ⟨x.1.toArray⟩, .float .f64 x.2] : List Value)[j]? = some u → wr.cell? ((y.add (k * 2)).add j) = some u from fun j u hj => by rw [Addr.add_add]; exact hcl j u hj)
              have HSZ := Lib.hid (show (Tryz.prog.info? 54).map (·.size) = some 2 by kernel_rfl)
              have hnl : (names3 p k).length < maxLen := by have := names3_len p k; unfold maxLen; omega
              have HNAN := fun W => Lib.hid (isNaN_any W x.2)
              have HFR : Hid (∀ W2, Chg (fun k => k = w5.heap.size ∨ k = w5.heap.size + 1) (wr.alloc (.cells #[.string ⟨x.1.toArray⟩, .float .f64 x.2] 54)) W2 → W2.cell? ⟨wr.heap.size, 1, none⟩ = some (.float .f64 x.2)) := Lib.hid fun W2 hc => by
                have h1 := hO3.nms.tw
                have l1 := block_lt h1
                have l2 := World.ownsMap.lt hO3.nms.own
                exact cell_of_row _ _ 1 _ _ _ (hc.heap (heap_alloc_new wr _) (by omega))
              have HC := Lib.hid ((hO3.alloc (.cells #[.string ⟨x.1.toArray⟩, .float .f64 x.2] 54)).call x.1 (by unfold maxLen; omega) hnl)
              obtain ⟨t, ht⟩ : ∃ t, (dupB (names3 p k) || nanB (p.ranks.take k) || decide (x.1 ∈ names3 p k)) = t := ⟨_, rfl⟩
              obtain ⟨nn, hnn⟩ : ∃ t, decide (fnan x.2) = t := ⟨_, rfl⟩
              rw [ht] at HC
              have HREL : Hid (∀ W, WSt w p a1 a2 (some y) c1 c2 c3 w5.heap.size (w5.heap.size + 1 + 1) (w5.heap.size + 1) (t || nn) (names3 p k ++ [x.1]) W → WSt w p a1 a2 (some y) c1 c2 c3 w5.heap.size (w5.heap.size + 1 + 1) (w5.heap.size + 1) (dupB (names3 p (k + 1)) || nanB (p.ranks.take (k + 1))) (names3 p (k + 1)) W) := Lib.hid fun W h => by
                have e : (dupB (names3 p k ++ [x.1]) || nanB (p.ranks.take k ++ [x])) = (t || nn) := by
                  rw [dupB_snoc, nanB_snoc, ← ht, ← hnn]
                  cases dupB (names3 p k) <;> cases nanB (p.ranks.take k) <;> simp
                rw [names3_snoc hget.out, hget.out, e]
                exact h
              rw [hnn] at HNAN
              replace hO3 := Lib.hid hO3
              clear hRd hcl hnl hx ht hnn
              cases t
              · go_wp2_with (first
                  | (refine wpl_load_at rfl 54 _ rfl (y.add (k * 2)) rfl _ _ HCL.out Tryz.underlying54 rfl HSZ.out ?_; clear HCL)
                  | (go_at_call 79; refine (HNAN _).out.mono ?_; rintro e W3 ⟨rfl, rfl⟩)
                  | (go_at_call 78; refine HC.out.mono ?_; rintro e W2 ⟨rfl, HN, HCH⟩; have hfr := HFR.out W2 HCH; have htw := HN.cells.2.2.2.2.1; have hff := HN.cells.2.2.2.2.2; replace HN := Lib.hid HN; clear HC HCH))
                go_roundw
                case rel =>
                  refine ⟨k + 1, by omega, by go_num, ?_, ?_⟩
                  · rw [hget.out, longM_snoc, hL3]
                  · exact HREL.out _ (HN.out.store _)
                case measure => simp [intOf]; omega
              · go_wp2_with (first
                  | (refine wpl_load_at rfl 54 _ rfl (y.add (k * 2)) rfl _ _ HCL.out Tryz.underlying54 rfl HSZ.out ?_; clear HCL)
                  | (go_at_call 78; refine HC.out.mono ?_; rintro e W2 ⟨rfl, HN, HCH⟩; have hfr := HFR.out W2 HCH; have htw := HN.cells.2.2.2.2.1; have hff := HN.cells.2.2.2.2.2; replace HN := Lib.hid HN; clear HC HCH))
                go_roundw
                case rel =>
                  refine ⟨k + 1, by omega, by go_num, ?_, ?_⟩
                  · rw [hget.out, longM_snoc, hL3]
                  · exact HREL.out _ (by rw [Bool.true_or]; exact HN.out.store _)
                case measure => simp [intOf]; omega
            · obtain rfl : k = p.ranks.length := by omega
              rw [List.take_length] at hL3
              have hres2 := hres.out
              have e1 : (dupB (names3 p p.ranks.length) || nanB (p.ranks.take p.ranks.length)) = twiceP p := by rw [names3_all, List.take_length]; rfl
              have e2 : longP p = L3 := by rw [← hL3, ← hL2, ← hL]; rfl
              rw [e1] at q5 hO3
              rw [e2] at hres2
              have HO3 := Lib.hid hO3.box.2.1
              clear hO3 hlt hk e1 e2 hres
              obtain ⟨t, ht⟩ : ∃ t, twiceP p = t := ⟨_, rfl⟩
              rw [ht] at q5 hres2
              clear ht
              cases t
              · obtain ⟨M, hM⟩ : ∃ M, mostP p = M := ⟨_, rfl⟩
                have hM' : max (p.items.length : Int) (max (p.pairs.length : Int) (p.ranks.length : Int)) = M := hM
                rw [hM] at hres2
                clear hM
                by_cases hl : 1048576 < L3
                · obtain rfl : res = 2 := by rw [← hres2]; simp [hl]
                  go_wp2_with fail
                  go_ret
                  exact ⟨rfl, HO3.out⟩
                · by_cases hm : 1048576 < M
                  · obtain rfl : res = 4 := by rw [← hres2]; simp [hl, hm]
                    go_wp2_with fail
                    go_ret
                    exact ⟨rfl, HO3.out⟩
                  · obtain rfl : res = 0 := by rw [← hres2]; simp [hl, hm]
                    go_wp2_with fail
                    go_ret
                    exact ⟨rfl, HO3.out⟩
              · obtain rfl : res = 3 := by rw [← hres2]; simp
                go_wp2_with fail
                go_ret
                exact ⟨rfl, HO3.out⟩
theorem wrong_any (w : World) (p : PD) (a1 a2 a3 : Option Addr) (c1 c2 c3 : Nat) (hP : PlainAt w p a1 a2 a3) (hB : PlainBig p) :
    Calls Tryz.prog 59 #[.agg (Tryz.plainCells p a1 a2 a3 c1 c2 c3)] w (QPost w (.int .i64 (wrongP p))) := by
  unfold wrongP
  by_cases h1 : p.kind < 1
  · rw [if_pos (.inl h1)]
    exact wrong_kind w p a1 a2 a3 c1 c2 c3 (.inl h1)
  · by_cases h5 : 5 < p.kind
    · rw [if_pos (.inr (.inl h5))]
      exact wrong_kind w p a1 a2 a3 c1 c2 c3 (.inr h5)
    · by_cases hb : belT p = false ∨ belI p = false ∨ belF p = false ∨ belR p = false
      · rw [if_pos (.inr (.inr hb))]
        exact wrong_part w p a1 a2 a3 c1 c2 c3 h1 h5 hb
      · rw [if_neg (by rintro (h | h | h); exact h1 h; exact h5 h; exact hb h)]
        simp only [not_or, Bool.not_eq_false] at hb
        exact wrong_go w p a1 a2 a3 c1 c2 c3 hP hB h1 h5 hb.1 hb.2.1 hb.2.2.1 hb.2.2.2
end Go.Proofs.YteiklgbjjmlmaaaGreat
