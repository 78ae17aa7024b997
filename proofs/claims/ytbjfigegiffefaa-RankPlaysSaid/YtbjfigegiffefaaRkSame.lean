/- The law's alike and same. -/
import Derived.Test.YtbjfigegiffefaaRkUse
set_option linter.unusedVariables false
set_option linter.unusedSimpArgs false
namespace Pantry
open Go Go.RowKit
def alikeB (x y : Nat) : Bool := if fnan x then decide (fnan y) else if fnan y then false else decide (x = y)
theorem alikeB_num {x y : Nat} (hx : ¬ fnan x) (hy : ¬ fnan y) : alikeB x y = decide (x = y) := by rw [alikeB, if_neg hx, if_neg hy]
/-- Two members alike, bit by bit. -/
def mbB (p q : Mb) : Bool := decide (p.1 = q.1) && alikeB p.2 q.2
def sameB : List Mb → List Mb → Bool
  | [], [] => true
  | p :: l, q :: k => mbB p q && sameB l k
  | _, _ => false
theorem sameB_length {l k : List Mb} (h : sameB l k = true) : l.length = k.length := by
  induction l generalizing k with
  | nil => cases k with
    | nil => rfl
    | cons q k => cases h
  | cons p l ih => cases k with
    | nil => cases h
    | cons q k =>
      simp only [sameB, Bool.and_eq_true] at h
      rw [List.length_cons, List.length_cons, ih h.2]
theorem sameB_snoc {l k : List Mb} {p q : Mb} (h : sameB l k = true) : sameB (l ++ [p]) (k ++ [q]) = mbB p q := by
  induction l generalizing k with
  | nil => cases k with
    | nil => simp [sameB]
    | cons q k => cases h
  | cons a l ih => cases k with
    | nil => cases h
    | cons b k =>
      simp only [sameB, Bool.and_eq_true] at h
      simp only [List.cons_append, sameB, h.1, Bool.true_and]
      exact ih h.2
theorem sameB_take {l k : List Mb} {j : Nat} {p q : Mb} (hj : l[j]? = some p) (hk : k[j]? = some q) (h : mbB p q = false) : sameB l k = false := by
  induction l generalizing k j with
  | nil => cases hj
  | cons a l ih => cases k with
    | nil => cases hk
    | cons b k =>
      cases j with
      | zero =>
        cases hj; cases hk
        simp [sameB, h]
      | succ j =>
        simp only [sameB, ih (by simpa using hj) (by simpa using hk), Bool.and_false]
theorem sameB_step {l k : List Mb} {j : Nat} {p q : Mb} (hj : l[j]? = some p) (hk : k[j]? = some q) (h : sameB (l.take j) (k.take j) = true) (hm : mbB p q = true) : sameB (l.take (j + 1)) (k.take (j + 1)) = true := by
  obtain ⟨h1, rfl⟩ := List.getElem?_eq_some_iff.1 hj
  obtain ⟨h2, rfl⟩ := List.getElem?_eq_some_iff.1 hk
  rw [List.take_succ_eq_append_getElem h1, List.take_succ_eq_append_getElem h2, sameB_snoc h, hm]
theorem sameB_refl {l : List Mb} : sameB l l = true := by
  induction l with
  | nil => rfl
  | cons p l ih =>
    simp only [sameB, ih, Bool.and_true, mbB, decide_true, Bool.true_and, alikeB]
    split
    · rename_i h; simpa using h
    · simp_all
end Pantry
namespace Go.Proofs.Ytbjfigegiffefaa
open Go.RowKit Pantry

set_option maxHeartbeats 1000000 in
theorem alike_any (w : World) (x y : Nat) : Calls Try.prog 16 #[.float .f64 x, .float .f64 y] w fun e w' => e = .returned (.bool (alikeB x y)) ∧ w = w' := by
  have hx := f_self (x := x)
  have hy := f_self (x := y)
  have ht := tobits
  obtain ⟨a, ha⟩ : ∃ a, decide (fnan x) = a := ⟨_, rfl⟩
  obtain ⟨b, hb⟩ : ∃ b, decide (fnan y) = b := ⟨_, rfl⟩
  rw [ha] at hx
  rw [hb] at hy
  cases a
  · cases b
    · have HV := Lib.hid (alikeB_num (of_decide_eq_false ha) (of_decide_eq_false hb))
      clear ha hb
      go_enter Try.func16, Try.ntmps16
      go_wp2_with fail
      go_ret
      refine ⟨?_, rfl⟩
      rw [HV.out]
      by_cases e : x = y
      · simp [e]
      · simp [e]; omega
    · have HV : Hid (alikeB x y = false) := Lib.hid (by rw [alikeB, if_neg (of_decide_eq_false ha), if_pos (of_decide_eq_true hb)])
      clear ha hb
      go_enter Try.func16, Try.ntmps16
      go_wp2_with fail
      go_ret
      exact ⟨by rw [HV.out]; rfl, rfl⟩
  · have HV : Hid (alikeB x y = b) := Lib.hid (by rw [alikeB, if_pos (of_decide_eq_true ha)]; exact hb)
    clear ha hb
    cases b
    all_goals
      go_enter Try.func16, Try.ntmps16
      go_wp2_with fail
      go_ret
      exact ⟨by rw [HV.out]; rfl, rfl⟩
theorem mb_cells {w : World} {a : Option Addr} {l : List Mb} (h : Rd w a (rkCells l)) {j : Nat} {p : Mb} (hj : l[j]? = some p) : ∃ y, a = some y ∧ w.cell? (y.add (j * 2)) = some (.string ⟨p.1.toArray⟩) ∧ w.cell? { block := (y.add (j * 2)).block, off := (y.add (j * 2)).off + 1 } = some (.float .f64 p.2) := by
  obtain ⟨y, hy, hcl⟩ := rk_cells h hj
  have e0 := hcl 0 _ rfl
  have e1 := hcl 1 _ rfl
  rw [← Addr.add_add] at e0 e1
  exact ⟨y, hy, e0, e1⟩
set_option maxHeartbeats 1000000 in
theorem same_any (a b : Option Addr) (n m c d : Nat) (l k : List Mb) (w : World) (hl : l.length = n) (hk : k.length = m) (hn : n ≤ 268435456)
    (ha : Rd w a (rkCells l)) (hb : Rd w b (rkCells k)) :
    Calls Try.prog 20 #[.slice a n c, .slice b m d] w (QRet w (.bool (sameB l k))) := by
  by_cases hnm : n = m
  · subst hnm
    have HL := Lib.hid hl
    have HK := Lib.hid hk
    have HAL := fun w x y => Lib.hid (alike_any w x y)
    clear hl hk
    go_enter Try.func20, Try.ntmps20
    go_wp2_with fail
    go_loopw [5, 13] (fun _ i wr => ∃ k' : Nat, k' ≤ n ∧ i = .int .i64 k' ∧ Hid (sameB (l.take k') (k.take k') = true) ∧ Hid (∃ q, wr = w.drewN q)) (fun _ i _ => n - (intOf i).toNat)
    case atStart => exact ⟨0, by omega, rfl, Lib.hid rfl, Lib.hid ⟨0, rfl⟩⟩
    case round =>
      obtain ⟨j, hj, rfl, heq, HQ⟩ := hrel
      have ha : Rd wr a (rkCells l) := by obtain ⟨q, hq⟩ := HQ.out; rw [hq]; exact ha
      have hb : Rd wr b (rkCells k) := by obtain ⟨q, hq⟩ := HQ.out; rw [hq]; exact hb
      have HQD : ∀ m, Hid (∃ q, wr.drewN m = w.drewN q) := fun m => Lib.hid (by obtain ⟨q, hq⟩ := HQ.out; exact ⟨q + m, by rw [hq, World.drewN_drewN]⟩)
      by_cases hlt : j < n
      · obtain ⟨xl, hxl⟩ : ∃ x, l[j]? = some x := ⟨_, List.getElem?_eq_getElem (by rw [HL.out]; exact hlt)⟩
        obtain ⟨xk, hxk⟩ : ∃ x, k[j]? = some x := ⟨_, List.getElem?_eq_getElem (by rw [HK.out]; exact hlt)⟩
        obtain ⟨x, rfl, hx, hx2⟩ := mb_cells ha hxl
        obtain ⟨y, rfl, hy, hy2⟩ := mb_cells hb hxk
        have HX := Lib.hid hxl
        have HY := Lib.hid hxk
        have HST := fun hm => Lib.hid (sameB_step hxl hxk heq.out hm)
        have HNO := fun hm => Lib.hid (sameB_take hxl hxk hm)
        clear hxl hxk
        obtain ⟨t, ht⟩ : ∃ t, decide (xl.1 = xk.1) = t := ⟨_, rfl⟩
        obtain ⟨u, hu⟩ : ∃ u, alikeB xl.2 xk.2 = u := ⟨_, rfl⟩
        have ht2 : (xl.1 == xk.1) = t := by rw [← ht]; by_cases e : xl.1 = xk.1 <;> simp [e]
        have HA := fun w => Lib.hid (alike_any w xl.2 xk.2)
        rw [hu] at HA
        have HM : Hid (mbB xl xk = (t && u)) := Lib.hid (by rw [mbB, ht, hu])
        clear ht hu HAL
        cases t
        · have HN := HNO (by rw [HM.out]; rfl)
          clear HNO HST
          go_wp2_with fail
          go_quiet (fail)
          go_wp2_with fail
          go_ret
          rw [HN.out]
          exact ⟨rfl, (HQD _).out⟩
        · cases u
          · have HN := HNO (by rw [HM.out]; rfl)
            clear HNO HST
            go_wp2_with fail
            go_quiet (first | (go_at_call 16; exact Calls.quiet_of_same ((HA _).out.mono fun e w' h => ⟨h.1, h.2.symm⟩)))
            go_wp2_with fail
            go_ret
            rw [HN.out]
            exact ⟨rfl, (HQD _).out⟩
          · have HS := HST (by rw [HM.out]; rfl)
            clear HNO HST
            go_wp2_with fail
            go_quiet (first | (go_at_call 16; exact Calls.quiet_of_same ((HA _).out.mono fun e w' h => ⟨h.1, h.2.symm⟩)))
            go_wp2_with fail
            go_roundw
            case rel => exact ⟨j + 1, by omega, by go_num, HS, HQD _⟩
            case measure => simp [intOf]; omega
      · have HE : Hid (sameB l k = true) := Lib.hid (by
          have := heq.out
          rwa [List.take_of_length_le (by rw [HL.out]; omega), List.take_of_length_le (by rw [HK.out]; omega)] at this)
        go_wp2_with fail
        go_ret
        rw [HE.out]
        exact ⟨rfl, HQ.out⟩
  · have HF : Hid (sameB l k = false) := Lib.hid (by
      cases h : sameB l k with
      | false => rfl
      | true => exact absurd (sameB_length h) (by omega))
    clear hl hk
    go_enter Try.func20, Try.ntmps20
    go_wp2_with fail
    go_ret
    rw [HF.out]
    exact QRet.same rfl
end Go.Proofs.Ytbjfigegiffefaa
