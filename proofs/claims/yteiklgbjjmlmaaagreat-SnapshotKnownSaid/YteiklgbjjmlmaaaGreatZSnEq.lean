
/- slices.Equal at texts and at pairs, slices.EqualFunc at ranks by the snapshot's closure. -/
import Derived.Test.YteiklgbjjmlmaaaGreatZVTold
import Derived.Test.YteiklgbjjmlmaaaGreatZSnWr
import Derived.Laws.StructEq
import Derived.Test.YteiklgbjjmlmaaaGreatZSnVal
import Derived.Test.YteiklgbjjmlmaaaGreatZVKind
import Derived.Deep.RegionHeld3
set_option linter.unusedVariables false
set_option linter.unusedSimpArgs false
namespace Pantry
theorem take_all_eq {α : Type} {l k : List α} {n : Nat} (hl : l.length = n) (hk : k.length = n) (h : l.take n = k.take n) : l = k := by
  rw [← hl, List.take_length, hl, ← hk, List.take_length] at h
  exact h
theorem take_ne {α : Type} {l k : List α} {j : Nat} {x y : α} (hx : l[j]? = some x) (hy : k[j]? = some y) (h : x ≠ y) : l ≠ k := by
  rintro rfl
  rw [hx] at hy
  exact h (Option.some.inj hy)
theorem take_eq_succ {α : Type} {l k : List α} {j : Nat} {x : α} (hx : l[j]? = some x) (hy : k[j]? = some x) (h : l.take j = k.take j) : l.take (j + 1) = k.take (j + 1) := by
  obtain ⟨h1, e1⟩ := List.getElem?_eq_some_iff.1 hx
  obtain ⟨h2, e2⟩ := List.getElem?_eq_some_iff.1 hy
  rw [List.take_succ_eq_append_getElem h1, List.take_succ_eq_append_getElem h2, h, e1, e2]
open Go Go.RowKit
theorem wpQuiet_load29 {P : Program} {ops : Array Oper} {C : World → Prop} {rest : List Oper} {o : Oper} {a : Act} {Q : Act → Prop} (hw : Region.wanted o (yielded ops a.tmps) = true) (ty : TypeId) (x : Operand) (ho : o.op = .load ty x)
    (p : Addr) (hx : a.eval x = .pointer (some p)) (cs : List Value) (d : TypeDesc) (hc : ∀ w, C w → ∀ j u, cs[j]? = some u → w.cell? (p.add j) = some u)
    (hu : P.underlying ty = some d) (hd : (match d with | .struct _ | .array _ _ => true | _ => false) = true) (hi : (P.info? ty).map (·.size) = some cs.length)
    (h : wpQuiet P ops C Q rest (a.put o.dst (.agg cs.toArray))) : wpQuiet P ops C Q (o :: rest) a := by
  show if _ then _ else _
  rw [if_pos hw]
  refine ⟨_, fun w hC => ?_, h⟩
  unfold Oper.quietAt execOp
  simp only [ho, hx, Instr.loadAt, Instr.sureAddr, Sem.run_bind, Sem.run_pure, Result.andThen_ok, run_loadVar_at w p ty cs d (hc w hC) hu hd hi]
  exact ⟨rfl, rfl⟩
end Pantry
namespace Go.Proofs.YteiklgbjjmlmaaaGreat
open Go.RowKit Pantry

set_option maxRecDepth 100000 in
set_option maxHeartbeats 4000000 in
theorem eqTexts_any (w : World) (a b : Option Addr) (n m c d : Nat) (l k : List (List UInt8)) (hl : l.length = n) (hk : k.length = m) (ha : Rd w a (l.map txC)) (hb : Rd w b (k.map txC)) (hn : n < 9223372036854775808) (hm : m < 9223372036854775808) :
    Calls Tryz.prog 100 #[.slice a n c, .slice b m d] w (QRet w (.bool (decide (l = k)))) := by
  have HA := Lib.hid ha
  have HB := Lib.hid hb
  have HL := Lib.hid hl
  have HK := Lib.hid hk
  obtain ⟨r, hr⟩ : ∃ r, decide (l = k) = r := ⟨_, rfl⟩
  rw [hr]
  have HR := Lib.hid hr
  clear hr ha hb hl hk
  by_cases hnm : n = m
  · subst hnm
    go_enter Tryz.func100, Tryz.ntmps100
    go_wp2_with fail
    go_loopw [13] (fun i wr => ∃ j : Nat, j ≤ n ∧ i = .int .i64 j ∧ Hid (l.take j = k.take j) ∧ ∃ q, wr = w.drewN q) (fun i _ => n - (intOf i).toNat)
    case atStart => exact ⟨0, Nat.zero_le _, rfl, Lib.hid rfl, 0, rfl⟩
    case round =>
      obtain ⟨j, hj, rfl, HE, q, rfl⟩ := hrel
      by_cases hlt : j < n
      · have hlti : (j : Int) < (n : Int) := by omega
        obtain ⟨x, hx⟩ : ∃ x, l[j]? = some x := ⟨_, List.getElem?_eq_getElem (by rw [HL.out]; exact hlt)⟩
        obtain ⟨y, hy⟩ : ∃ y, k[j]? = some y := ⟨_, List.getElem?_eq_getElem (by rw [HK.out]; exact hlt)⟩
        obtain ⟨-, p1, rfl, e1⟩ := HA.out j (.string ⟨x.toArray⟩) (by rw [List.getElem?_map, hx]; rfl)
        obtain ⟨-, p2, rfl, e2⟩ := HB.out j (.string ⟨y.toArray⟩) (by rw [List.getElem?_map, hy]; rfl)
        by_cases hxy : x = y
        · subst hxy
          have HNX := Lib.hid (take_eq_succ hx hy HE.out)
          clear hx hy
          go_upto_region 6 with fail
          go_quiet (fail)
          go_wp2_with fail
          go_roundw
          case rel => exact ⟨j + 1, by omega, by go_num, HNX, _, rfl⟩
          case measure => simp [intOf]; omega
        · have hne : (x == y) = false := by simpa using hxy
          obtain rfl : r = false := by rw [← HR.out]; exact decide_eq_false (take_ne hx hy hxy)
          clear hx hy hxy
          go_upto_region 6 with fail
          go_quiet (fail)
          go_wp2_with fail
          go_ret
          exact QRet.after (QRet.draws _ rfl)
      · obtain rfl : j = n := by omega
        obtain rfl : r = true := by rw [← HR.out]; exact decide_eq_true (take_all_eq HL.out HK.out HE.out)
        go_wp2_with fail
        go_ret
        exact ⟨rfl, _, rfl⟩
  · have hne : ((n : Int) != (m : Int)) = true := by simp; omega
    obtain rfl : r = false := by rw [← HR.out]; exact decide_eq_false (fun e => hnm (by rw [← HL.out, ← HK.out, e]))
    go_enter Tryz.func100, Tryz.ntmps100
    go_wp2_with fail
    go_ret
    exact ⟨rfl, 0, rfl⟩
theorem eqPair29 (a b c d : List UInt8) (w : World) : (Op.equalIn 10000 71 (.agg #[.string ⟨a.toArray⟩, .string ⟨b.toArray⟩]) (.agg #[.string ⟨c.toArray⟩, .string ⟨d.toArray⟩])).run Tryz.prog w = .ok (a == c && b == d) w := by
  have u3 := Tryz.underlying9
  have a3 := Tryz.isAgg9
  have z3 := Tryz.sizeOf9
  have hS : Tryz.prog.underlying 71 = some (.struct (Tryz.prog.fieldsOf 71)) := by kernel_rfl
  have hp : Tryz.prog.stoodInHeld 71 = false := by kernel_rfl
  rw [show (10000 : Nat) = 9999 + 1 from rfl, run_equalIn_agg w 9999 71 _ _ hS hp]
  simp only [Program.fieldsOf, Tryz.underlying71]
  go_simp
  by_cases h1 : a = c <;> by_cases h2 : b = d <;> simp [h1, h2]
set_option maxRecDepth 100000 in
set_option maxHeartbeats 4000000 in
theorem eqPairs_any (w : World) (a b : Option Addr) (n m c d : Nat) (l k : List Fld) (hl : l.length = n) (hk : k.length = m) (ha : Rd w a (fdCells l)) (hb : Rd w b (fdCells k)) (hn : n < 9223372036854775808) (hm : m < 9223372036854775808) :
    Calls Tryz.prog 101 #[.slice a n c, .slice b m d] w (QRet w (.bool (decide (l = k)))) := by
  have HA := Lib.hid ha
  have HB := Lib.hid hb
  have HL := Lib.hid hl
  have HK := Lib.hid hk
  obtain ⟨r, hr⟩ : ∃ r, decide (l = k) = r := ⟨_, rfl⟩
  rw [hr]
  have HR := Lib.hid hr
  clear hr ha hb hl hk
  by_cases hnm : n = m
  · subst hnm
    go_enter Tryz.func101, Tryz.ntmps101
    go_wp2_with fail
    go_loopw [13] (fun i wr => ∃ j : Nat, j ≤ n ∧ i = .int .i64 j ∧ Hid (l.take j = k.take j) ∧ ∃ q, wr = w.drewN q) (fun i _ => n - (intOf i).toNat)
    case atStart => exact ⟨0, Nat.zero_le _, rfl, Lib.hid rfl, 0, rfl⟩
    case round =>
      obtain ⟨j, hj, rfl, HE, q, rfl⟩ := hrel
      by_cases hlt : j < n
      · have hlti : (j : Int) < (n : Int) := by omega
        obtain ⟨x, hx⟩ : ∃ x, l[j]? = some x := ⟨_, List.getElem?_eq_getElem (by rw [HL.out]; exact hlt)⟩
        obtain ⟨y, hy⟩ : ∃ y, k[j]? = some y := ⟨_, List.getElem?_eq_getElem (by rw [HK.out]; exact hlt)⟩
        obtain ⟨p1, rfl, hc1⟩ := fd_cells HA.out hx
        obtain ⟨p2, rfl, hc2⟩ := fd_cells HB.out hy
        obtain ⟨xa, xb⟩ := x
        obtain ⟨ya, yb⟩ := y
        have HY : Hid (∀ w', (∃ n, w' = (w.drewN q).drewN n) → ∀ i u, ([.string ⟨xa.toArray⟩, .string ⟨xb.toArray⟩] : List Value)[i]? = some u → w'.cell? ((p1.add (j * 2)).add i) = some u) := Lib.hid (by rintro w' ⟨n, rfl⟩ i u hu; exact hc1 i u hu)
        have HZ : Hid (∀ w', (∃ n, w' = (w.drewN q).drewN n) → ∀ i u, ([.string ⟨ya.toArray⟩, .string ⟨yb.toArray⟩] : List Value)[i]? = some u → w'.cell? ((p2.add (j * 2)).add i) = some u) := Lib.hid (by rintro w' ⟨n, rfl⟩ i u hu; exact hc2 i u hu)
        have HSZ := Lib.hid (show (Tryz.prog.info? 71).map (·.size) = some 2 by kernel_rfl)
        have hgt : Tryz.prog.eqGuardType Tryz.prog.depth 71 = false := by kernel_rfl
        have heq := fun W => eqPair29 xa xb ya yb W
        clear hc1 hc2
        by_cases hxy : (xa, xb) = (ya, yb)
        · obtain ⟨rfl, rfl⟩ : xa = ya ∧ xb = yb := by simpa using hxy
          clear hxy
          have HNX := Lib.hid (take_eq_succ hx hy HE.out)
          clear hx hy
          go_upto_region 6 with fail
          refine wp_region_quiet_lit (by kernel_rfl) (by kernel_rfl) ?_
          repeat (first
            | (refine wpQuiet_load29 (by rfl) 71 _ rfl (p1.add (j * 2)) rfl _ _ HY.out Tryz.underlying71 rfl HSZ.out ?_; clear HY)
            | (refine wpQuiet_load29 (by rfl) 71 _ rfl (p2.add (j * 2)) rfl _ _ HZ.out Tryz.underlying71 rfl HSZ.out ?_; clear HZ)
            | quiet_step (fail))
          refine wpQuiet_nil ?_
          intro _ hw'
          obtain ⟨nq, hw2⟩ := hw'
          subst hw2
          go_wp2_with fail
          go_roundw
          case rel => exact ⟨j + 1, by omega, by go_num, HNX, _, rfl⟩
          case measure => simp [intOf]; omega
        · have hne : (xa == ya && xb == yb) = false := by simp only [Prod.mk.injEq, not_and] at hxy; simp; exact hxy
          obtain rfl : r = false := by rw [← HR.out]; exact decide_eq_false (take_ne hx hy hxy)
          clear hx hy hxy
          go_upto_region 6 with fail
          refine wp_region_quiet_lit (by kernel_rfl) (by kernel_rfl) ?_
          repeat (first
            | (refine wpQuiet_load29 (by rfl) 71 _ rfl (p1.add (j * 2)) rfl _ _ HY.out Tryz.underlying71 rfl HSZ.out ?_; clear HY)
            | (refine wpQuiet_load29 (by rfl) 71 _ rfl (p2.add (j * 2)) rfl _ _ HZ.out Tryz.underlying71 rfl HSZ.out ?_; clear HZ)
            | quiet_step (fail))
          refine wpQuiet_nil ?_
          intro _ hw'
          obtain ⟨nq, hw2⟩ := hw'
          subst hw2
          go_wp2_with fail
          go_ret
          exact QRet.after (QRet.draws _ rfl)
      · obtain rfl : j = n := by omega
        obtain rfl : r = true := by rw [← HR.out]; exact decide_eq_true (take_all_eq HL.out HK.out HE.out)
        go_wp2_with fail
        go_ret
        exact ⟨rfl, _, rfl⟩
  · have hne : ((n : Int) != (m : Int)) = true := by simp; omega
    obtain rfl : r = false := by rw [← HR.out]; exact decide_eq_false (fun e => hnm (by rw [← HL.out, ← HK.out, e]))
    go_enter Tryz.func101, Tryz.ntmps101
    go_wp2_with fail
    go_ret
    exact ⟨rfl, 0, rfl⟩
/-- The closure: members and scores bit by bit. -/
def SamePost (b : Bool) (w : World) (e : Ending) (w' : World) : Prop := e = .returned (.bool b) ∧ Below w.heap.size w w'
set_option maxHeartbeats 2000000 in
theorem same1_any (w : World) (x y : Mb) : Calls Tryz.prog 103 #[.agg #[.string ⟨x.1.toArray⟩, .float .f64 x.2], .agg #[.string ⟨y.1.toArray⟩, .float .f64 y.2]] w (SamePost (decide (x = y)) w) := by
  obtain ⟨xk, xs⟩ := x
  obtain ⟨yk, ys⟩ := y
  obtain ⟨r, hr⟩ : ∃ r, decide ((xk, xs) = (yk, ys)) = r := ⟨_, rfl⟩
  rw [hr]
  have HR := Lib.hid hr
  simp only
  have hb1 := fun W => tobits29 xs W
  have hb2 := fun W => tobits29 ys W
  have HBE : Hid (∀ o o' q, Below w.heap.size w (((w.alloc o).alloc o').drewN q)) := Lib.hid fun o o' q => by
    have h : Below w.heap.size w ((w.alloc o).alloc o') := ((Below.refl _ _).alloc (Nat.le_refl _) _).alloc (by simp) _
    exact ⟨h.os, h.tape, h.output, h.size, h.block⟩
  clear hr
  by_cases hk : xk = yk
  · subst hk
    by_cases hs : xs = ys
    · obtain rfl : r = true := by rw [← HR.out, hs]; simp
      have hsb : ((xs : Int) == (ys : Int)) = true := by simp [hs]
      subst hs
      go_enter Tryz.func103, Tryz.ntmps103
      go_upto_region 1 with fail
      go_quiet (fail)
      go_wp2_with fail
      go_ret
      exact ⟨rfl, HBE.out _ _ _⟩
    · obtain rfl : r = false := by rw [← HR.out]; simp [hs]
      have hsb : ((xs : Int) == (ys : Int)) = false := by simp; omega
      have hsb2 : decide (xs = ys) = false := decide_eq_false hs
      clear hs
      go_enter Tryz.func103, Tryz.ntmps103
      go_upto_region 1 with fail
      go_quiet (fail)
      go_wp2_with fail
      go_ret
      exact ⟨rfl, HBE.out _ _ _⟩
  · obtain rfl : r = false := by rw [← HR.out]; simp [hk]
    have hkb : (xk == yk) = false := by simpa using hk
    clear hk
    go_enter Tryz.func103, Tryz.ntmps103
    go_upto_region 1 with fail
    go_quiet (fail)
    go_wp2_with fail
    go_ret
    exact ⟨rfl, HBE.out _ _ _⟩
set_option maxRecDepth 100000 in
set_option maxHeartbeats 4000000 in
theorem eqRanks_any (w : World) (a b : Option Addr) (n m c d : Nat) (l k : List Mb) (hl : l.length = n) (hk : k.length = m) (ha : Rd w a (rkCells l)) (hb : Rd w b (rkCells k)) (hn : n < 9223372036854775808) (hm : m < 9223372036854775808) :
    Calls Tryz.prog 102 #[.slice a n c, .slice b m d, .func (.func 103) #[] #[]] w (SamePost (decide (l = k)) w) := by
  have HA := Lib.hid ha
  have HB := Lib.hid hb
  have HL := Lib.hid hl
  have HK := Lib.hid hk
  have hent : ∀ args W, (callFunc 103 args).run Tryz.prog W = .ok (.enter 103 args) W := enters_of Tryz.func103 (by kernel_rfl) rfl
  obtain ⟨r, hr⟩ : ∃ r, decide (l = k) = r := ⟨_, rfl⟩
  rw [hr]
  have HR := Lib.hid hr
  clear hr ha hb hl hk
  by_cases hnm : n = m
  · subst hnm
    go_enter Tryz.func102, Tryz.ntmps102
    go_wp2_with fail
    go_loopw [17] (fun i wr => ∃ j : Nat, j ≤ n ∧ i = .int .i64 j ∧ Hid (l.take j = k.take j) ∧ Below w.heap.size w wr) (fun i _ => n - (intOf i).toNat)
    case atStart => exact ⟨0, Nat.zero_le _, rfl, Lib.hid rfl, Below.refl _ _⟩
    case round =>
      obtain ⟨j, hj, rfl, HE, hbr⟩ := hrel
      have HBR := Lib.hid hbr
      clear hbr
      by_cases hlt : j < n
      · have hlti : (j : Int) < (n : Int) := by omega
        obtain ⟨x, hx⟩ : ∃ x, l[j]? = some x := ⟨_, List.getElem?_eq_getElem (by rw [HL.out]; exact hlt)⟩
        obtain ⟨y, hy⟩ : ∃ y, k[j]? = some y := ⟨_, List.getElem?_eq_getElem (by rw [HK.out]; exact hlt)⟩
        obtain ⟨p1, rfl, hc1⟩ := rk_cells HA.out hx
        obtain ⟨p2, rfl, hc2⟩ := rk_cells HB.out hy
        have hcell : ∀ W, Below w.heap.size w W → ∀ p u, w.cell? p = some u → W.cell? p = some u := fun W hW p u hu => (hW.cell (p := p) (World.block_lt_of_cell? _ _ hu)).trans hu
        have HY : ∀ W, Hid (Below w.heap.size w W → ∀ i u, ([.string ⟨x.1.toArray⟩, .float .f64 x.2] : List Value)[i]? = some u → W.cell? ((p1.add (j * 2)).add i) = some u) := fun W => Lib.hid fun hW i u hu => by rw [Addr.add_add]; exact hcell W hW _ _ (hc1 i u hu)
        have HZ : ∀ W, Hid (Below w.heap.size w W → ∀ i u, ([.string ⟨y.1.toArray⟩, .float .f64 y.2] : List Value)[i]? = some u → W.cell? ((p2.add (j * 2)).add i) = some u) := fun W => Lib.hid fun hW i u hu => by rw [Addr.add_add]; exact hcell W hW _ _ (hc2 i u hu)
        have HSZ := Lib.hid (show (Tryz.prog.info? 54).map (·.size) = some 2 by kernel_rfl)
        have HS1 := fun W => Lib.hid (same1_any W x y)
        have hn1 : Below w.heap.size w (wr.alloc (.cells #[.string ⟨x.1.toArray⟩, .float .f64 x.2] 54)) := HBR.out.alloc HBR.out.size _
        have hn2 : Below w.heap.size w ((wr.alloc (.cells #[.string ⟨x.1.toArray⟩, .float .f64 x.2] 54)).alloc (.cells #[.string ⟨y.1.toArray⟩, .float .f64 y.2] 54)) := hn1.alloc hn1.size _
        have HN1 := Lib.hid hn1
        have HN2 := Lib.hid hn2
        have HXY := Lib.hid (And.intro hx hy)
        clear hc1 hc2 hcell hn1 hn2
        clear hx hy
        by_cases hxy : x = y
        · have HX := Lib.hid hxy
          have HD : Hid (decide (x = y) = true) := Lib.hid (decide_eq_true hxy)
          clear hxy
          go_wp2_with (first
            | (refine wpl_load_at rfl 54 _ rfl (p1.add (j * 2)) rfl _ _ ((HY _).out HBR.out) Tryz.underlying54 rfl HSZ.out ?_)
            | (refine wpl_load_at rfl 54 _ rfl (p2.add (j * 2)) rfl _ _ ((HZ _).out HN1.out) Tryz.underlying54 rfl HSZ.out ?_)
            | (go_at_call 103; refine (HS1 _).out.mono ?_; rintro e w3 ⟨rfl, hb3⟩; rw [HD.out]; have HB3 := Lib.hid (HN2.out.trans (hb3.mono HN2.out.size)); clear hb3))
          refine ⟨⟨j + 1, by omega, by go_num, ?_, HB3.out⟩, ?_⟩
          · have h1 := HXY.out.1
            have h2 := HXY.out.2
            rw [← HX.out] at h2
            exact Lib.hid (take_eq_succ h1 h2 HE.out)
          · simp [intOf]; omega
        · have HD : Hid (decide (x = y) = false) := Lib.hid (decide_eq_false hxy)
          obtain rfl : r = false := by rw [← HR.out]; exact decide_eq_false (take_ne HXY.out.1 HXY.out.2 hxy)
          clear hxy
          go_wp2_with (first
            | (refine wpl_load_at rfl 54 _ rfl (p1.add (j * 2)) rfl _ _ ((HY _).out HBR.out) Tryz.underlying54 rfl HSZ.out ?_)
            | (refine wpl_load_at rfl 54 _ rfl (p2.add (j * 2)) rfl _ _ ((HZ _).out HN1.out) Tryz.underlying54 rfl HSZ.out ?_)
            | (go_at_call 103; refine (HS1 _).out.mono ?_; rintro e w3 ⟨rfl, hb3⟩; rw [HD.out]; have HB3 := Lib.hid (HN2.out.trans (hb3.mono HN2.out.size)); clear hb3))
          go_ret
          exact ⟨rfl, HB3.out⟩
      · obtain rfl : j = n := by omega
        obtain rfl : r = true := by rw [← HR.out]; exact decide_eq_true (take_all_eq HL.out HK.out HE.out)
        go_wp2_with fail
        go_ret
        exact ⟨rfl, HBR.out⟩
  · have hne : ((n : Int) != (m : Int)) = true := by simp; omega
    obtain rfl : r = false := by rw [← HR.out]; exact decide_eq_false (fun e => hnm (by rw [← HL.out, ← HK.out, e]))
    go_enter Tryz.func102, Tryz.ntmps102
    go_wp2_with fail
    go_ret
    exact ⟨rfl, Below.refl _ _⟩
end Go.Proofs.YteiklgbjjmlmaaaGreat


/- snapshot.same and snapshot.right. -/
set_option linter.unusedVariables false
set_option linter.unusedSimpArgs false
namespace Go.Proofs.YteiklgbjjmlmaaaGreat
open Go.RowKit Pantry

set_option maxRecDepth 100000 in
set_option maxHeartbeats 8000000 in
theorem same_any (w : World) (p q : PD) (a1 a2 a3 b1 b2 b3 : Option Addr) (c1 c2 c3 d1 d2 d3 : Nat) (hP : PlainAt w p a1 a2 a3) (hQ : PlainAt w q b1 b2 b3) (hp : PlainBig p) (hq : PlainBig q) :
    Calls Tryz.prog 75 #[.agg (Tryz.plainCells p a1 a2 a3 c1 c2 c3), .agg (Tryz.plainCells q b1 b2 b3 d1 d2 d3)] w (SamePost (decide (p = q)) w) := by
  obtain ⟨kd, tx, its, prs, rks⟩ := p
  obtain ⟨kd2, tx2, its2, prs2, rks2⟩ := q
  obtain ⟨r, hr⟩ : ∃ r, decide ((⟨kd, tx, its, prs, rks⟩ : PD) = ⟨kd2, tx2, its2, prs2, rks2⟩) = r := ⟨_, rfl⟩
  rw [hr]
  have HR : Hid (r = decide (kd = kd2 ∧ tx = tx2 ∧ its = its2 ∧ prs = prs2 ∧ rks = rks2)) := Lib.hid (by rw [← hr]; simp)
  simp only [Tryz.plainCells]
  obtain ⟨W0, hW0⟩ : ∃ W, (w.alloc (.cells #[.int .i64 kd, .string ⟨tx.toArray⟩, .slice a1 its.length c1, .slice a2 prs.length c2, .slice a3 rks.length c3] 49)).alloc (.cells #[.int .i64 kd2, .string ⟨tx2.toArray⟩, .slice b1 its2.length d1, .slice b2 prs2.length d2, .slice b3 rks2.length d3] 49) = W := ⟨_, rfl⟩
  have hb0 : Below w.heap.size w W0 := by rw [← hW0]; exact ((Below.refl _ _).alloc (Nat.le_refl _) _).alloc (by simp) _
  have h1 : W0.heap[w.heap.size]? = some (.cells #[.int .i64 kd, .string ⟨tx.toArray⟩, .slice a1 its.length c1, .slice a2 prs.length c2, .slice a3 rks.length c3] 49) := by rw [← hW0, heap_alloc_old (by simp)]; exact heap_alloc_new w _
  have h2 : W0.heap[w.heap.size + 1]? = some (.cells #[.int .i64 kd2, .string ⟨tx2.toArray⟩, .slice b1 its2.length d1, .slice b2 prs2.length d2, .slice b3 rks2.length d3] 49) := by
    have := heap_alloc_new (w.alloc (.cells #[.int .i64 kd, .string ⟨tx.toArray⟩, .slice a1 its.length c1, .slice a2 prs.length c2, .slice a3 rks.length c3] 49)) (.cells #[.int .i64 kd2, .string ⟨tx2.toArray⟩, .slice b1 its2.length d1, .slice b2 prs2.length d2, .slice b3 rks2.length d3] 49)
    rw [World.size_alloc] at this
    rw [← hW0]; exact this
  obtain ⟨⟨x0, x1, x2, x3, x4⟩, -⟩ := fiveP h1
  obtain ⟨⟨y0, y1, y2, y3, y4⟩, -⟩ := fiveP h2
  have bi := hp.items; have bp := hp.pairs; have br := hp.ranks
  have bi2 := hq.items; have bp2 := hq.pairs; have br2 := hq.ranks
  simp only at bi bp br bi2 bp2 br2
  have HT := Lib.hid (eqTexts_any W0 a1 b1 its.length its2.length c1 d1 its its2 rfl rfl (hP.items.below hb0) (hQ.items.below hb0) (by omega) (by omega))
  have HPR := fun q => Lib.hid (eqPairs_any (W0.drewN q) a2 b2 prs.length prs2.length c2 d2 prs prs2 rfl rfl (hP.pairs.below hb0).drewN (hQ.pairs.below hb0).drewN (by omega) (by omega))
  have HRK := fun q => Lib.hid (eqRanks_any (W0.drewN q) a3 b3 rks.length rks2.length c3 d3 rks rks2 rfl rfl (hP.ranks.below hb0).drewN (hQ.ranks.below hb0).drewN (by omega) (by omega))
  have HB0 : ∀ q, Hid (Below w.heap.size w (W0.drewN q)) := fun q => Lib.hid ⟨hb0.os, hb0.tape, hb0.output, hb0.size, hb0.block⟩
  obtain ⟨ra, hra⟩ : ∃ ra, decide (its = its2) = ra := ⟨_, rfl⟩
  obtain ⟨rb, hrb⟩ : ∃ rb, decide (prs = prs2) = rb := ⟨_, rfl⟩
  obtain ⟨rc, hrc⟩ : ∃ rc, decide (rks = rks2) = rc := ⟨_, rfl⟩
  rw [hra] at HT
  simp only [hrb] at HPR
  simp only [hrc] at HRK
  have HRR : Hid (r = (decide (kd = kd2) && (decide (tx = tx2) && (ra && (rb && rc))))) := Lib.hid (by rw [HR.out, ← hra, ← hrb, ← hrc]; simp)
  obtain ⟨n1, e1⟩ : ∃ n, its.length = n := ⟨_, rfl⟩
  obtain ⟨n2, e2⟩ : ∃ n, prs.length = n := ⟨_, rfl⟩
  obtain ⟨n3, e3⟩ : ∃ n, rks.length = n := ⟨_, rfl⟩
  obtain ⟨m1, g1⟩ : ∃ n, its2.length = n := ⟨_, rfl⟩
  obtain ⟨m2, g2⟩ : ∃ n, prs2.length = n := ⟨_, rfl⟩
  obtain ⟨m3, g3⟩ : ∃ n, rks2.length = n := ⟨_, rfl⟩
  simp only [e1, e2, e3, g1, g2, g3] at *
  clear hr HR hra hrb hrc hP hQ hp hq h1 h2 e1 e2 e3 g1 g2 g3 hb0
  by_cases hk : kd = kd2
  · by_cases ht : tx = tx2
    · have HK := Lib.hid (And.intro hk ht)
      subst hk ht
      rw [show (decide (kd = kd) && (decide (tx = tx) && (ra && (rb && rc)))) = (ra && (rb && rc)) by simp] at HRR
      cases ra with
      | false =>
        obtain rfl : r = false := HRR.out
        go_enter Tryz.func75, Tryz.ntmps75
        go_wp2_with (go_at_call 100; refine HT.out.mono ?_; rintro e w2 ⟨rfl, qq, rfl⟩)
        go_ret
        exact ⟨rfl, (HB0 _).out⟩
      | true =>
        cases rb with
        | false =>
          obtain rfl : r = false := HRR.out
          go_enter Tryz.func75, Tryz.ntmps75
          go_wp2_with (first
            | (go_at_call 100; refine HT.out.mono ?_; rintro e w2 ⟨rfl, qq, rfl⟩)
            | (go_at_call 101; refine (HPR _).out.mono ?_; intro e w3 hq3; have hb3 := hq3.below; obtain ⟨rfl, q3, rfl⟩ := hq3))
          go_ret
          exact ⟨rfl, (HB0 _).out⟩
        | true =>
          obtain rfl : r = rc := HRR.out
          go_enter Tryz.func75, Tryz.ntmps75
          go_wp2_with (first
            | (go_at_call 100; refine HT.out.mono ?_; rintro e w2 ⟨rfl, qq, rfl⟩)
            | (go_at_call 101; refine (HPR _).out.mono ?_; intro e w3 hq3; have hb3 := hq3.below; obtain ⟨rfl, q3, rfl⟩ := hq3)
            | (go_at_call 102; refine (HRK _).out.mono ?_; rintro e w4 ⟨rfl, hb4⟩))
          go_ret
          exact ⟨rfl, (HB0 _).out.trans (hb4.mono (HB0 _).out.size)⟩
    · have htb : (tx == tx2) = false := by simpa using ht
      obtain rfl : r = false := by rw [HRR.out]; simp [ht]
      subst hk
      clear ht
      go_enter Tryz.func75, Tryz.ntmps75
      go_wp2_with fail
      go_ret
      exact ⟨rfl, (HB0 0).out⟩
  · have hkb : (kd == kd2) = false := by simpa using hk
    obtain rfl : r = false := by rw [HRR.out]; simp [hk]
    clear hk
    go_enter Tryz.func75, Tryz.ntmps75
    go_wp2_with fail
    go_ret
    exact ⟨rfl, (HB0 0).out⟩
theorem canon_self {p q : PD} (hf : Fine p) (hc : Canon p q) : q = p ↔ sortedP p = true := by
  obtain ⟨kd, tx, its, prs, rks⟩ := p
  have n1 := hf.noText
  have n2 := hf.noItems
  have n3 := hf.noPairs
  have n4 := hf.noRanks
  simp only at n1 n2 n3 n4
  cases hc with
  | text h =>
    have h : kd = 1 := h
    subst h
    rw [n2 (by decide) (by decide), n3 (by decide), n4 (by decide)]
    simp [sortedP]
  | list h =>
    have h : kd = 2 := h
    subst h
    rw [n1 (by decide), n3 (by decide), n4 (by decide)]
    simp [sortedP]
  | record h =>
    have h : kd = 3 := h
    subst h
    have hn := hf.pairKeys
    rw [n1 (by decide), n2 (by decide) (by decide), n4 (by decide)]
    simp only [sortedP, if_true, decide_eq_true_eq, PD.mk.injEq, true_and, and_true]
    constructor
    · intro e; rw [← e]; exact sortK_rises hn
    · intro e; exact (sortK_unique (List.Perm.refl _) e).symm
  | flock h =>
    have h : kd = 4 := h
    subst h
    have hn := hf.itemKeys rfl
    rw [n1 (by decide), n3 (by decide), n4 (by decide)]
    simp only [sortedP, PD.mk.injEq, true_and, and_true]
    rw [if_neg (by decide), if_pos trivial, decide_eq_true_eq]
    constructor
    · intro e; rw [← e]; exact sortT_rises hn
    · intro e; exact (sortT_unique (List.Perm.refl _) e).symm
  | ranks l h hl hr =>
    have h : kd = 5 := h
    subst h
    rw [n1 (by decide), n2 (by decide) (by decide), n3 (by decide)]
    simp only [sortedP, PD.mk.injEq, true_and]
    rw [if_neg (by decide), if_neg (by decide), if_pos trivial, decide_eq_true_eq]
    constructor
    · intro e; rw [← e]; exact hr
    · intro e; exact ranks_unique hl hr e
theorem right_eq {p q : PD} (h : wrongP p = 0) (hc : Canon p q) : (!emptyP q && decide (q = p)) = rightP p := by
  have hs := canon_self (wrongP_zero h) hc
  unfold rightP
  by_cases hq : q = p
  · rw [hs.1 hq, hq]; simp [h]
  · have : sortedP p = false := by
      cases hsp : sortedP p with
      | false => rfl
      | true => exact absurd (hs.2 hsp) hq
    rw [this]; simp [hq]
set_option maxRecDepth 100000 in
set_option maxHeartbeats 8000000 in
theorem right_any (w : World) (p : PD) (a1 a2 a3 : Option Addr) (c1 c2 c3 : Nat) (hP : PlainAt w p a1 a2 a3) (hB : PlainBig p) :
    Calls Tryz.prog 55 #[.agg (Tryz.plainCells p a1 a2 a3 c1 c2 c3)] w (SamePost (rightP p) w) := by
  obtain ⟨W0, hW0⟩ : ∃ W, w.alloc (.cells (Tryz.plainCells p a1 a2 a3 c1 c2 c3) 49) = W := ⟨_, rfl⟩
  have hb0 : Below w.heap.size w W0 := by rw [← hW0]; exact (Below.refl _ _).alloc (Nat.le_refl _) _
  have hX : W0.heap[w.heap.size]? = some (.cells (Tryz.plainCells p a1 a2 a3 c1 c2 c3) 49) := by rw [← hW0]; exact heap_alloc_new w _
  have hs0 : W0.heap.size = w.heap.size + 1 := by rw [← hW0]; simp
  have HX : ∀ W, Hid (Below W0.heap.size W0 W → W.cell? ⟨w.heap.size, 0, none⟩ = some (.int .i64 p.kind) ∧ W.cell? ⟨w.heap.size, 1, none⟩ = some (.string ⟨p.text.toArray⟩) ∧ W.cell? ⟨w.heap.size, 2, none⟩ = some (.slice a1 p.items.length c1) ∧ W.cell? ⟨w.heap.size, 3, none⟩ = some (.slice a2 p.pairs.length c2) ∧ W.cell? ⟨w.heap.size, 4, none⟩ = some (.slice a3 p.ranks.length c3)) := fun W => Lib.hid fun hW =>
    (fiveP ((hW.block _ (by omega)).trans hX)).1
  have HB0 := Lib.hid hb0
  obtain ⟨x0, x1, x2, x3, x4⟩ := (HX W0).out (Below.refl _ _)
  by_cases hz : wrongP p = 0
  · have HOF := Lib.hid (of_any W0 p a1 a2 a3 c1 c2 c3 0 (by decide) (hP.below hb0) hB hz)
    have HSM : ∀ W q b1 b2 b3 d1 d2 d3, Hid (Canon p q → Below w.heap.size w W → PlainAt W q b1 b2 b3 → Calls Tryz.prog 75 #[.agg (Tryz.plainCells q b1 b2 b3 d1 d2 d3), .agg (Tryz.plainCells p a1 a2 a3 c1 c2 c3)] W (SamePost (decide (q = p)) W)) := fun W q b1 b2 b3 d1 d2 d3 => Lib.hid fun hc hW hq =>
      same_any W q p b1 b2 b3 a1 a2 a3 d1 d2 d3 c1 c2 c3 hq (hP.below hW) (Fine.big (hc.fine (wrongP_zero hz))) hB
    have HRE : ∀ q, Hid (Canon p q → (!emptyP q && decide (q = p)) = rightP p) := fun q => Lib.hid (right_eq hz)
    simp only [Tryz.plainCells] at hW0 HOF HSM ⊢
    generalize rightP p = rp at HRE ⊢
    clear hP hB hX hz hb0
    go_enter Tryz.func55, Tryz.ntmps55
    go_upto_region 2 with (go_at_call 49; refine HOF.out.mono ?_; rintro e w2 ⟨v, q, rfl, hc, hv, hb2⟩)
    have HE := fun W (hW : Below w2.heap.size w2 W) => Lib.hid (empty_any (hv.below hW))
    have HT := fun W (hW : Below w2.heap.size w2 W) => Lib.hid (told_any (hv.below hW))
    have HB2 := Lib.hid hb2
    have HC := Lib.hid hc
    obtain ⟨em, hem⟩ : ∃ em, emptyP q = em := ⟨_, rfl⟩
    have hre := (HRE q).out hc
    obtain ⟨de, hde⟩ : ∃ de, decide (q = p) = de := ⟨_, rfl⟩
    have HDE := Lib.hid hde
    rw [hem, hde] at hre
    simp only [hem] at HE
    clear x0 x1 x2 x3 x4 hb2 hc hv hem hde HRE
    obtain ⟨x0, x1, x2, x3, x4⟩ := (HX w2).out HB2.out
    cases em with
    | true =>
      obtain rfl : rp = false := by rw [← hre]; simp
      clear hre
      first
      | go_region_with (go_at_call 50; refine (HE _ ((Below.refl _ _).drew)).out.mono ?_; rintro e w3 ⟨rfl, hb3⟩; have HB3 := Lib.hid (HB2.out.drew.trans (hb3.mono HB2.out.size)); clear hb3)
      | fail "region"
      all_goals (go_wp2_with fail)
      all_goals go_ret
      all_goals exact ⟨rfl, HB0.out.trans (HB3.out.mono HB0.out.size)⟩
    | false =>
      obtain rfl : rp = de := by rw [← hre]; simp
      clear hre
      go_region_held3 (fun w' => w'.cell? ⟨w.heap.size, 0, none⟩ = some (.int .i64 p.kind) ∧ w'.cell? ⟨w.heap.size, 1, none⟩ = some (.string ⟨p.text.toArray⟩) ∧ w'.cell? ⟨w.heap.size, 2, none⟩ = some (.slice a1 p.items.length c1) ∧ w'.cell? ⟨w.heap.size, 3, none⟩ = some (.slice a2 p.pairs.length c2) ∧ w'.cell? ⟨w.heap.size, 4, none⟩ = some (.slice a3 p.ranks.length c3))
        (exact (HX _).out (by first | exact HB2.out | exact HB2.out.drew | (have h := HB3.out; assumption) | (have h := HB4.out; assumption)))
        (first
        | (go_at_call 50; refine (HE _ ((Below.refl _ _).drew)).out.mono ?_; rintro e w3 ⟨rfl, hb3⟩; have HB23 := Lib.hid (((Below.refl _ w2).drew).trans (hb3.mono (Nat.le_refl _))); have HB3 := Lib.hid (HB2.out.trans (HB23.out.mono HB2.out.size)); clear hb3)
        | (go_at_call 51; refine (HT _ HB23.out).out.mono ?_; rintro e w4 ⟨b1, b2, b3, d1, d2, d3, rfl, hpl, hb4⟩; have HPL := Lib.hid hpl; have HB4 := Lib.hid (HB3.out.trans (hb4.mono HB3.out.size)); clear hb4 hpl)
        | (go_at_call 75; refine ((HSM _ _ _ _ _ _ _ _).out HC.out (HB0.out.trans (HB4.out.mono HB0.out.size)) HPL.out).mono ?_; rintro e w5 ⟨rfl, hb5⟩; have HB5 := Lib.hid (HB4.out.trans (hb5.mono HB4.out.size)); clear hb5))
      all_goals (go_wp2_with fail)
      all_goals go_ret
      all_goals (refine ⟨by rw [HDE.out]; rfl, ?_⟩)
      all_goals exact HB0.out.trans (HB5.out.mono HB0.out.size)
  · have hr : rightP p = false := by unfold rightP; simp [hz]
    have hcode : wrongP p = 2 ∨ wrongP p = 3 ∨ wrongP p = 4 := by rcases wrongP_cases p with h | h; exact absurd h hz; exact h
    have HOW := Lib.hid (of_wrong W0 p a1 a2 a3 c1 c2 c3 0 (hP.below hb0) hB hz)
    rw [hr]
    generalize wrongP p = wc at hcode HOW
    simp only [Tryz.plainCells] at hW0 HOW ⊢
    clear hP hB hX hz hb0 hr HX
    rcases hcode with rfl | rfl | rfl
    all_goals (
      go_enter Tryz.func55, Tryz.ntmps55
      go_upto_region 2 with (go_at_call 49; refine HOW.out.mono ?_; rintro e w2 ⟨rfl, hb2⟩; have HB2 := Lib.hid hb2; clear hb2)
      (first | go_region_with fail | fail "region")
      all_goals (go_wp2_with fail)
      all_goals go_ret
      all_goals exact ⟨rfl, HB0.out.trans (HB2.out.drew.mono HB0.out.size)⟩)
end Go.Proofs.YteiklgbjjmlmaaaGreat
