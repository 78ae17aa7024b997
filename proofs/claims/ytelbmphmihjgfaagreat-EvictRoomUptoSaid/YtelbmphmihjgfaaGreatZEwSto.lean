/- EvictRoom's own helpers: sameStored, stored, past. -/
import Derived.Test.YtelbmphmihjgfaaGreatZEwCfg
import Derived.Test.YtelbmphmihjgfaaGreatZRegRound
set_option linter.unusedVariables false
set_option linter.unusedSimpArgs false
namespace Go.Proofs.YtelbmphmihjgfaaGreat.DEnt
open Go.RowKit Pantry Go.Maps Go.Sort

/-- A row of stored keys, read. -/
structure StoAt (w : World) (a : Option Addr) (n : Nat) (l : List KE) : Prop where
  len : l.length = n
  few : n ≤ 8388608
  cells : ∀ (i : Nat) (e : KE), l[i]? = some e → ∃ p, a = some p ∧ ∀ (j : Nat) (u : Value), (stoC e)[j]? = some u → w.cell? ((p.add (i * 7)).add j) = some u
theorem StoAt.below {w w' : World} {a : Option Addr} {n : Nat} {l : List KE} (h : StoAt w a n l) (hb : Below w.heap.size w w') : StoAt w' a n l :=
  ⟨h.len, h.few, fun i e he => by
    obtain ⟨p, hp, hc⟩ := h.cells i e he
    refine ⟨p, hp, fun j u hu => ?_⟩
    have h0 := hc j u hu
    exact (hb.cell (p := (p.add (i * 7)).add j) (World.block_lt_of_cell? _ _ h0)).trans h0⟩
theorem StoAt.four {w : World} {a : Option Addr} {n : Nat} {l : List KE} (h : StoAt w a n l) {i : Nat} {e : KE} (he : l[i]? = some e) : ∃ p, a = some p ∧
    w.cell? (p.add (i * 7)) = some (.string ⟨e.key.toArray⟩) ∧ w.cell? ((p.add (i * 7)).add 1) = some (.int .i64 1) ∧ w.cell? ((p.add (i * 7)).add 2) = some (.string ⟨(zeros e.cost).toArray⟩) ∧ w.cell? ((p.add (i * 7)).add 6) = some (.int .i64 e.dl) := by
  obtain ⟨p, hp, hc⟩ := h.cells i e he
  exact ⟨p, hp, by have := hc 0 _ rfl; rwa [show (p.add (i * 7)).add 0 = p.add (i * 7) from rfl] at this, hc 1 _ rfl, hc 2 _ rfl, hc 6 _ rfl⟩
set_option maxRecDepth 100000 in
set_option maxHeartbeats 4000000 in
theorem stored_any (w : World) (a : Option Addr) (n k : Nat) (l : List KE) (key : List UInt8) (rv : Int) (h : StoAt w a n l) (at_ : Nat) (hat : at_ ≤ n) (hno : ∀ i e, i < at_ → l[i]? = some e → e.key ≠ key) (hyes : ∀ e, l[at_]? = some e → e.key = key) (h1 : at_ < n → rv = at_) (h2 : at_ = n → rv = -1) :
    Calls Tryz.prog 19 #[.slice a n k, .string ⟨key.toArray⟩] w (QRet w (.int .i64 rv)) := by
  have H := Lib.hid h
  have HNO := Lib.hid hno
  have HYES := Lib.hid hyes
  have HV1 := Lib.hid h1
  have HV2 := Lib.hid h2
  have hfew := h.few
  have HLN := Lib.hid h.len
  clear h hno hyes h1 h2
  go_enter Tryz.func19, Tryz.ntmps19
  go_wp2
  go_loopw [5] (fun i wr => ∃ j : Nat, j ≤ at_ ∧ i = .int .i64 j ∧ ∃ q, wr = w.drewN q) (fun i _ => n - (intOf i).toNat)
  case atStart => exact ⟨0, by omega, rfl, 0, rfl⟩
  case round =>
    obtain ⟨j, hj, rfl, q, rfl⟩ := hrel
    by_cases hlt : j < n
    · obtain ⟨e, he⟩ : ∃ e, l[j]? = some e := ⟨_, List.getElem?_eq_getElem (by rw [HLN.out]; exact hlt)⟩
      obtain ⟨p, rfl, c0, -, -, -⟩ := H.out.four he
      have hjn : (j : Int) < (n : Int) := by omega
      by_cases hj2 : j < at_
      · have hne : (e.key == key) = false := by simpa using HNO.out j e hj2 he
        clear he
        go_wp2_with fail
        refine ⟨⟨j + 1, by omega, by go_num, q, rfl⟩, ?_⟩
        simp [intOf]; omega
      · obtain rfl : j = at_ := by omega
        have heq : e.key = key := HYES.out e he
        have hrv : rv = (j : Int) := HV1.out hlt
        subst heq hrv
        clear he
        go_wp2_with fail
        go_ret
        exact QRet.draws _ rfl
    · obtain rfl : j = n := by omega
      obtain rfl : at_ = j := by omega
      have hrv : rv = -1 := HV2.out rfl
      subst hrv
      go_wp2_with fail
      go_ret
      exact QRet.draws _ rfl
def PastQ (w : World) (b : Bool) (e : Ending) (w' : World) : Prop := e = .returned (.bool b) ∧ Below w.heap.size w w'
set_option maxHeartbeats 1000000 in
theorem lpast_any (w : World) (e : KE) (now : Nat) : Calls Tryz.prog 20 #[.agg (stoC e).toArray, .int .i64 now] w (PastQ w (e.past now)) := by
  have HE : Hid (∀ o, PastQ w (e.past now) (.returned (.bool (e.past now))) (w.alloc o)) := Lib.hid fun o => ⟨rfl, (Below.refl _ _).alloc (Nat.le_refl _) _⟩
  obtain ⟨b, hb⟩ : ∃ b, e.past now = b := ⟨_, rfl⟩
  obtain ⟨d, hd⟩ : ∃ d, e.dl = d := ⟨_, rfl⟩
  have hbd : (decide (0 < d) && decide (d ≤ now)) = b := by rw [← hb, ← hd]; rfl
  rw [hb] at HE ⊢
  simp only [stoC, hd]
  obtain ⟨ky, hky⟩ : ∃ x, e.key = x := ⟨_, rfl⟩
  obtain ⟨co, hco⟩ : ∃ x, zeros e.cost = x := ⟨_, rfl⟩
  rw [hky, hco]
  clear hb hd hky hco
  by_cases h0 : d = 0
  · subst h0
    have hbf : b = false := by rw [← hbd]; simp
    subst hbf
    clear hbd
    go_enter Tryz.func20, Tryz.ntmps20
    go_wp2_with fail
    go_ret
    exact HE.out _
  · have h1 : ¬ (d : Int) = 0 := by omega
    by_cases h2 : d ≤ now
    · have hbf : b = true := by rw [← hbd]; simp; omega
      have h1b : ((d : Int) != 0) = true := by simpa using h0
      subst hbf
      clear hbd
      have h3 : (d : Int) ≤ (now : Int) := by omega
      go_enter Tryz.func20, Tryz.ntmps20
      go_wp2_with fail
      go_ret
      exact HE.out _
    · have hbf : b = false := by rw [← hbd]; simp; omega
      subst hbf
      clear hbd
      have h3 : ¬ (d : Int) ≤ (now : Int) := by omega
      go_enter Tryz.func20, Tryz.ntmps20
      go_wp2_with fail
      go_ret
      exact HE.out _
set_option maxRecDepth 100000 in
set_option maxHeartbeats 4000000 in
theorem lsame_any (w : World) (a b : Option Addr) (n k k2 : Nat) (l : List KE) (h : StoAt w a n l) (h2 : StoAt w b n l) :
    Calls Tryz.prog 18 #[.slice a n k, .slice b n k2] w (QRet w (.bool true)) := by
  have HA := Lib.hid h
  have HB := Lib.hid h2
  have hfew := h.few
  have HLN := Lib.hid h.len
  clear h h2
  go_enter Tryz.func18, Tryz.ntmps18
  go_wp2
  go_loopw [5] (fun i wr => ∃ j : Nat, j ≤ n ∧ i = .int .i64 j ∧ ∃ q, wr = w.drewN q) (fun i _ => n - (intOf i).toNat)
  case atStart => exact ⟨0, by omega, rfl, 0, rfl⟩
  case round =>
    obtain ⟨j, hj, rfl, q, rfl⟩ := hrel
    by_cases hlt : j < n
    · obtain ⟨e, he⟩ : ∃ e, l[j]? = some e := ⟨_, List.getElem?_eq_getElem (by rw [HLN.out]; exact hlt)⟩
      obtain ⟨p, rfl, c0, c1, c2, c3⟩ := HA.out.four he
      obtain ⟨p2, rfl, e0, e1, e2, e3⟩ := HB.out.four he
      have hjn : (j : Int) < (n : Int) := by omega
      have cell_add : ∀ (y : Addr) (m : Nat) (u : Value), w.cell? (y.add (m + 1)) = some u → w.cell? ⟨y.block, y.off + (m + 1), none⟩ = some u := fun y m u h => by unfold Addr.add at h; rwa [if_neg (Nat.succ_ne_zero m)] at h
      have c1' := cell_add _ _ _ c1
      have c2' := cell_add _ _ _ c2
      have c3' := cell_add _ _ _ c3
      have e1' := cell_add _ _ _ e1
      have e2' := cell_add _ _ _ e2
      have e3' := cell_add _ _ _ e3
      clear he cell_add
      go_wp2_with fail
      refine wp_region_quiet_lit (by kernel_rfl) (by kernel_rfl) ?_
      repeat (quiet_step (fail))
      refine wpQuiet_nil ?_
      intro _ hw'
      obtain ⟨nq, hw2⟩ := hw'
      subst hw2
      go_wp2_with fail
      go_roundw
      case rel => exact ⟨j + 1, by omega, by go_num, _, rfl⟩
      case measure => simp [intOf]; omega
    · obtain rfl : j = n := by omega
      go_wp2_with fail
      go_ret
      exact QRet.draws _ rfl
end Go.Proofs.YtelbmphmihjgfaaGreat.DEnt
