/- The law's sameTexts and sameInts. -/
import Derived.Test.YtefoieloakfhfaaRow
import Derived.BigQuiet
namespace Pantry
open Go Go.RowKit
theorem ints_cell {w : World} {a : Option Addr} {l : List Nat} (h : Rd w a (intsL l)) {j x : Nat} (hj : l[j]? = some x) : ∃ y, a = some y ∧ w.cell? (y.add j) = some (.int .i64 (x : Int)) :=
  (h j (.int .i64 (x : Int)) (by rw [intsL_get, hj]; rfl)).2
end Pantry
namespace Go.Proofs.Ytefoieloakfhfaa
open Go.RowKit Pantry

set_option maxHeartbeats 400000 in
theorem same_any (a b : Option Addr) (n m c d : Nat) (l k : List (List UInt8)) (w : World) (hl : l.length = n) (hk : k.length = m) (hn : n ≤ 9223372036854775807)
    (ha : Rd w a (txts l)) (hb : Rd w b (txts k)) :
    Calls Try.prog 21 #[.slice a n c, .slice b m d] w (QRet w (.bool (decide (l = k)))) := by
  by_cases hnm : n = m
  · subst hnm
    have HL := Lib.hid hl
    have HK := Lib.hid hk
    clear hl hk
    go_enter Try.func21, Try.ntmps21
    go_wp2
    go_loopw [5, 13] (fun _ i wr => ∃ k' : Nat, k' ≤ n ∧ i = .int .i64 k' ∧ l.take k' = k.take k' ∧ ∃ q, wr = w.drewN q) (fun _ i _ => n - (intOf i).toNat)
    case atStart => exact ⟨0, by omega, rfl, rfl, 0, rfl⟩
    case round =>
      obtain ⟨j, hj, rfl, heq, q, rfl⟩ := hrel
      by_cases hlt : j < n
      · obtain ⟨xl, hxl⟩ : ∃ x, l[j]? = some x := ⟨_, List.getElem?_eq_getElem (by rw [HL.out]; exact hlt)⟩
        obtain ⟨xk, hxk⟩ : ∃ x, k[j]? = some x := ⟨_, List.getElem?_eq_getElem (by rw [HK.out]; exact hlt)⟩
        obtain ⟨x, rfl, hx⟩ := txts_cell ha hxl
        obtain ⟨y, rfl, hy⟩ := txts_cell hb hxk
        unfold txt at hx hy
        have HX := Lib.hid hxl
        have HY := Lib.hid hxk
        clear hxl hxk
        go_wp2
        go_quiet (fail)
        by_cases hx : xl = xk
        · rw [show (xl == xk) = true by simp [hx], Bool.not_true]
          go_wp2
          go_roundw
          case rel => exact ⟨j + 1, by omega, by go_num, take_step (d := []) heq (by rw [HL.out]; exact hlt) (by rw [HK.out]; exact hlt) (by rw [HX.out, HY.out, hx]), _, rfl⟩
          case measure => simp [intOf]; omega
        · rw [show (xl == xk) = false by simp [hx], Bool.not_false]
          go_wp2
          go_ret
          rw [decide_eq_false (fun h : l = k => hx (by have := HX.out; rw [h, HY.out] at this; exact (Option.some.inj this).symm))]
          exact QRet.after (QRet.draws _ rfl)
      · go_wp2
        go_ret
        exact QRet.draws _ (ret_bool (decide_eq_true (take_whole heq HL.out HK.out hlt)).symm)
  · go_enter Try.func21, Try.ntmps21
    go_wp2
    go_ret
    exact QRet.same (ret_bool (by rw [eq_comm, decide_eq_false_iff_not]; rintro rfl; omega))

set_option maxHeartbeats 400000 in
theorem ints_any (a b : Option Addr) (n m c d : Nat) (l k : List Nat) (w : World) (hl : l.length = n) (hk : k.length = m) (hn : n ≤ 9223372036854775807)
    (ha : Rd w a (intsL l)) (hb : Rd w b (intsL k)) :
    Calls Try.prog 25 #[.slice a n c, .slice b m d] w (QRet w (.bool (decide (l = k)))) := by
  by_cases hnm : n = m
  · subst hnm
    have HL := Lib.hid hl
    have HK := Lib.hid hk
    clear hl hk
    go_enter Try.func25, Try.ntmps25
    go_wp2
    go_loopw [5, 13] (fun _ i wr => ∃ k' : Nat, k' ≤ n ∧ i = .int .i64 k' ∧ l.take k' = k.take k' ∧ ∃ q, wr = w.drewN q) (fun _ i _ => n - (intOf i).toNat)
    case atStart => exact ⟨0, by omega, rfl, rfl, 0, rfl⟩
    case round =>
      obtain ⟨j, hj, rfl, heq, q, rfl⟩ := hrel
      by_cases hlt : j < n
      · obtain ⟨xl, hxl⟩ : ∃ x, l[j]? = some x := ⟨_, List.getElem?_eq_getElem (by rw [HL.out]; exact hlt)⟩
        obtain ⟨xk, hxk⟩ : ∃ x, k[j]? = some x := ⟨_, List.getElem?_eq_getElem (by rw [HK.out]; exact hlt)⟩
        obtain ⟨x, rfl, hx⟩ := ints_cell ha hxl
        obtain ⟨y, rfl, hy⟩ := ints_cell hb hxk
        have HX := Lib.hid hxl
        have HY := Lib.hid hxk
        clear hxl hxk
        go_wp2
        go_quiet (fail)
        by_cases hx : xl = xk
        · rw [show ((xl : Int) != (xk : Int)) = false by simp [hx]]
          go_wp2
          go_roundw
          case rel => exact ⟨j + 1, by omega, by go_num, take_step (d := 0) heq (by rw [HL.out]; exact hlt) (by rw [HK.out]; exact hlt) (by rw [HX.out, HY.out, hx]), _, rfl⟩
          case measure => simp [intOf]; omega
        · rw [show ((xl : Int) != (xk : Int)) = true by simp [bne]; omega]
          go_wp2
          go_ret
          rw [decide_eq_false (fun h : l = k => hx (by have := HX.out; rw [h, HY.out] at this; exact (Option.some.inj this).symm))]
          exact QRet.after (QRet.draws _ rfl)
      · go_wp2
        go_ret
        exact QRet.draws _ (ret_bool (decide_eq_true (take_whole heq HL.out HK.out hlt)).symm)
  · go_enter Try.func25, Try.ntmps25
    go_wp2
    go_ret
    exact QRet.same (ret_bool (by rw [eq_comm, decide_eq_false_iff_not]; rintro rfl; omega))
end Go.Proofs.Ytefoieloakfhfaa
