/- Bytes lent to the program, and looked at again: what lentBytes, sameBytes and keptBytes return. -/
import Derived.Test.YtdoddnnggamaiaaSums
import Derived.Test.YtdoddnnggamaiaaOpen
namespace Go.Proofs.Ytdoddnnggamaiaa
open Go.RowKit Pantry

theorem Try.bytesT : ElemT Try.prog 22 5 1 1 (.int .u8 0) := ⟨Try.underlying22, by kernel_rfl, rfl, by decide, by decide⟩

theorem lentStep (l : List Nat) (k : Nat) : u8s (l ++ List.replicate k 165) ++ [.int .u8 165] = u8s (l ++ List.replicate (k + 1) 165) := by
  simp [u8s, List.replicate_succ']

set_option maxHeartbeats 400000 in
theorem lent_any (a : Option Addr) (len cap : Nat) (l : List Nat) (w : World)
   (hl : l.length = len) (hm : len ≤ 140737488351232) (hnil : a = none → cap = 0) (hr : Rd w a (u8s l)) :
    Calls Try.prog 11 #[.slice a len cap] w fun e w' => ∃ g c, e = .returned (.slice (some ⟨g, 0, none⟩) len c) ∧
      w'.ownsRow w.heap.size 5 1 (.slice (some ⟨g, 0, none⟩) (len + 70) c) (len + 70) (u8s (l ++ List.replicate 70 165)) ∧ Below w.heap.size w w' := by
  have HLL := Lib.hid (show (u8s l).length = len * 1 by rw [u8s_length, hl, Nat.mul_one])
  have HC := Lib.hid hr
  have HN := Lib.hid hnil
  clear hl hr hnil
  go_enter Try.func11, Try.ntmps11
  go_wp2_with (first
    | (at_make; refine wpl_make Try.bytesT rfl _ _ rfl w.heap.size .i64 .i64 (len + 70) rfl rfl (by simp) (by omega) (Nat.le_refl _) ?_; intro w0 hown0 hgrow0)
    | (at_builtin; refine wpl_append Try.bytesT rfl _ _ rfl w.heap.size rfl hown0 rfl HN.out HLL.out (HC.out.grown hgrow0 (by simp)) (by omega) hgrow0.size ?_; intro v1 w1 hown1 hgrow1 hnil1))
  have hb1 : Below w.heap.size w w1 := grownBy_below (row := some w.heap.size) (grownBy_below (Below.refl _ _) hgrow0 (by simp) (Nat.le_refl _)) hgrow1 (by rintro k ⟨⟩; exact Nat.le_refl _) (Nat.le_refl _)
  simp only [Nat.zero_add, List.nil_append] at hown1
  clear hgrow0 hgrow1 hnil1 hown0 HC HN HLL
  go_loopw [3, 11] (fun v i wr => ∃ k : Nat, k ≤ 70 ∧ i = .int .i64 k ∧ wr.ownsRow w.heap.size 5 1 v (len + k) (u8s (l ++ List.replicate k 165)) ∧ Below w.heap.size w wr) (fun _ i _ => 70 - (intOf i).toNat)
  case atStart => exact ⟨0, by omega, rfl, by simpa using hown1, hb1⟩
  case round =>
    obtain ⟨k, hk, rfl, hown, hb⟩ := hrel
    by_cases hlt : k < 70
    · have hsz := hb.size
      go_wp2_with (at_builtin; refine wpl_append Try.bytesT rfl _ _ rfl w.heap.size rfl (hown.alloc _) rfl (by simp) rfl (Rd.new wr #[.int .u8 165] 5 (0, 0) (by simp [Value.oneCell'])) (by omega) (by simp; omega) ?_; intro v2 w2 hown2 hgrow2 hnil2)
      rw [show (#[Value.int .u8 165]).toList = [Value.int .u8 165] from rfl, lentStep] at hown2
      have hb2 : Below w.heap.size w w2 := grownBy_below (hb.alloc hb.size _) hgrow2 (fun k hk => (hown.lt k hk).1) (Nat.le_refl _)
      clear hgrow2 hnil2 hown
      go_roundw
      case rel => exact ⟨k + 1, by omega, by go_num, hown2, hb2⟩
      case measure => simp [intOf]; omega
    · obtain rfl : k = 70 := by omega
      rcases hown.2 with ⟨_, h0⟩ | ⟨g, c, cur, rfl, hg⟩
      · omega
      · clear hlt
        go_wp2
        go_ret
        exact ⟨g, c, rfl, hown, hb⟩

set_option maxHeartbeats 400000 in
theorem sameBytes_any (a b : Option Addr) (n m c d : Nat) (l k : List Nat) (w : World) (hl : l.length = n) (hk : k.length = m) (hn : n ≤ 9223372036854775807)
    (ha : Rd w a (u8s l)) (hb : Rd w b (u8s k)) :
    Calls Try.prog 29 #[.slice a n c, .slice b m d] w (QRet w (.bool (decide (l = k)))) := by
  by_cases hnm : n = m
  · subst hnm
    have HL := Lib.hid hl
    have HK := Lib.hid hk
    clear hl hk
    go_enter Try.func29, Try.ntmps29
    go_wp2
    go_loopw [5, 13] (fun _ i wr => ∃ k' : Nat, k' ≤ n ∧ i = .int .i64 k' ∧ l.take k' = k.take k' ∧ ∃ q, wr = w.drewN q) (fun _ i _ => n - (intOf i).toNat)
    case atStart => exact ⟨0, by omega, rfl, rfl, 0, rfl⟩
    case round =>
      obtain ⟨j, hj, rfl, heq, q, rfl⟩ := hrel
      by_cases hlt : j < n
      · obtain ⟨x, rfl, hx⟩ := u8s_cell ha j (by rw [HL.out]; exact hlt)
        obtain ⟨y, rfl, hy⟩ := u8s_cell hb j (by rw [HK.out]; exact hlt)
        go_wp2
        go_quiet (fail)
        go_wp2
        · go_ret
          rename_i hne
          rw [bne_iff_ne] at hne
          rw [decide_eq_false (fun h : l = k => hne (by rw [h]))]
          exact QRet.after (QRet.draws _ rfl)
        · go_roundw
          case rel =>
            rename_i hne
            rw [bne_eq_false_iff_eq] at hne
            exact ⟨j + 1, by omega, by go_num, take_step heq (by rw [HL.out]; exact hlt) (by rw [HK.out]; exact hlt) (Int.ofNat.inj hne), _, rfl⟩
          case measure => simp [intOf]; omega
      · go_wp2
        go_ret
        exact QRet.draws _ (ret_bool (decide_eq_true (take_whole heq HL.out HK.out hlt)).symm)
  · go_enter Try.func29, Try.ntmps29
    go_wp2
    go_ret
    exact QRet.same (ret_bool (by rw [eq_comm, decide_eq_false_iff_not]; rintro rfl; omega))


theorem mark_at (l : List Nat) (n j : Nat) (h1 : l.length ≤ j) (h2 : j < l.length + n) : (l ++ List.replicate n 165).getD j 0 = 165 := by
  rw [List.getD_eq_getElem?_getD, List.getElem?_append_right h1, List.getElem?_replicate, if_pos (by omega)]
  rfl
set_option maxHeartbeats 400000 in
/-- What lies behind the lent bytes is looked at: the 70 marks are there. -/
theorem kept_any (g : Nat) (b : Option Addr) (len c d : Nat) (l : List Nat) (w : World) (base : Nat) (hl : l.length = len) (hn : len ≤ 140737488351232)
    (hown : w.ownsRow base 5 1 (.slice (some ⟨g, 0, none⟩) (len + 70) c) (len + 70) (u8s (l ++ List.replicate 70 165))) (hb : Rd w b (u8s l)) :
    Calls Try.prog 14 #[.slice (some ⟨g, 0, none⟩) len c, .slice b len d] w (QRet w (.bool true)) := by
  obtain ⟨a', c', hv, hr⟩ := ownsRow_rd hown (u8s_one _)
  obtain ⟨rfl, -, rfl⟩ := Value.slice.inj hv
  have hcap : len + 70 ≤ c := by rcases hown.2 with ⟨h0, _⟩ | ⟨g', c', cur, h0, _, _, h1, _⟩ <;> cases h0; exact h1
  have hr1 : Rd w (some ⟨g, 0, none⟩) (u8s l) := by
    have := hr.take len
    rwa [u8s, ← List.map_take, List.take_left' hl] at this
  have hmark : ∀ j, len ≤ j → j < len + 70 → w.cell? ⟨g, j, none⟩ = some (.int .u8 165) := by
    intro j h1 h2
    obtain ⟨x, hx, hc⟩ := u8s_cell hr j (by simp [hl]; omega)
    cases hx
    rw [Addr.add_base] at hc
    rw [hc, mark_at l 70 j (by omega) (by omega)]
    rfl
  clear hr hown
  go_enter Try.func14, Try.ntmps14
  go_wp2_with (go_at_call 29; refine (sameBytes_any (some ⟨g, 0, none⟩) b len len c d l l w hl hl (by omega) hr1 hb).mono ?_; rintro e w' ⟨rfl, q, rfl⟩)
  go_loop [6] (fun i => ∃ k : Nat, len ≤ k ∧ k ≤ len + 70 ∧ i = .int .i64 k) (fun i => len + 70 - (intOf i).toNat)
  case atStart => exact ⟨len, by omega, by omega, rfl⟩
  case round =>
    obtain ⟨k, h1, h2, rfl⟩ := hrel
    by_cases hlt : k < len + 70
    · have hm := hmark k h1 hlt
      go_wp2
      go_round
      case rel => exact ⟨k + 1, by omega, by omega, by go_num⟩
      case measure => simp [intOf]; omega
    · go_wp2
      go_ret
      exact QRet.draws _ rfl

end Go.Proofs.Ytdoddnnggamaiaa
