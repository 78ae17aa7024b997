/- The law's text of a call. -/
import Derived.Test.YtefoieloakfhfaaZRef10
import Derived.Test.YtefoieloakfhfaaZOpenOps
import Derived.Test.YtefoieloakfhfaaZBytes
import Derived.Test.YtefoieloakfhfaaZSame
import Derived.Deep.RegionHeld3
namespace Pantry
open Go Go.RowKit
/-- A slice of zeroes, within a region that draws its order. -/
theorem step_make_full {P : Program} (w : World) {ops : Array Oper} {o : Oper} {a : Act} {K : Act → World → Prop} {Q : Exit → Act → World → Prop} {E' : Prop} (hgd : o.guard = none) (l c : Operand) (t : TypeId) (hop : o.op = Op.makeSlice t l c)
    (base : Nat) (e : TypeId) (i : TypeInfo) (z : Value) (size : Nat) (h1 : P.underlying t = some (.slice e)) (h2 : P.info? e = some i) (h3 : i.zero = some z) (h4 : i.size = size)
    (kl kc : IntKind) (L C : Int) (n : Nat) (hl : a.eval l = .int kl L) (hc : a.eval c = .int kc C) (hL : L = (n : Int)) (hC : C = (n : Int)) (b2 : i.bytes * n ≤ 281474976710656) (b3 : n ≤ maxLen) (b4 : base ≤ w.heap.size)
    (hK : ∀ w', w'.ownsRow base e size (.slice (some ⟨w.heap.size, 0, none⟩) n n) n (madeCells z.cells (n * size)).toList → w.grownBy w' none → K (a.put o.dst (.slice (some ⟨w.heap.size, 0, none⟩) n n)) w') :
    if Region.wanted o (yielded ops a.tmps) = true then Oper.wp P o a w K Q else E' := by
  have hw : Region.wanted o (yielded ops a.tmps) = true := by simp [Region.wanted, hgd]
  rw [if_pos hw]
  obtain ⟨w', hrun, r1, r2⟩ := run_make_full (P := P) w base t e i z size h1 h2 h3 h4 kl kc n b2 b3 b4
  subst hL
  subst hC
  unfold Oper.wp
  simp [execOp, hop, hl, hc, hrun, Result.andThen]
  exact hK w' r1 r2
theorem step_string_of {P : Program} {src dst e : TypeId} (hs : P.underlying src = some (.slice e)) (he : P.underlying e = some (.int .u8)) (hd : P.underlying dst = some .string)
    {w : World} {ops : Array Oper} {o : Oper} {a : Act} {K : Act → World → Prop} {Q : Exit → Act → World → Prop} {E' : Prop} (hgd : o.guard = none) (x : Operand) (ho : o.op = .convert src dst x)
    {ad : Option Addr} {n c : Nat} (l : List UInt8) (hx : a.eval x = .slice ad n c) (hl : l.length = n) (hr : Rd w ad (b8 l))
    (h : K (a.put o.dst (.string ⟨l.toArray⟩)) w) :
    if Region.wanted o (yielded ops a.tmps) = true then Oper.wp P o a w K Q else E' := by
  have hw : Region.wanted o (yielded ops a.tmps) = true := by simp [Region.wanted, hgd]
  rw [if_pos hw]
  unfold Oper.wp execOp
  simp only [ho, hx, Sem.run_bind, run_string_of hs he hd hl hr, Result.andThen_ok]
  exact h
/-- How many zeroes come behind the text. -/
def moreOf (o : Op7) : Nat := if o.big ≤ 1048578 then o.big.toNat else 1048578
/-- The text of a call. -/
def txtOf (o : Op7) : Txt := if o.big ≤ 0 then o.s else o.s ++ List.replicate (moreOf o) 0
theorem txtOf_length {o : Op7} (h : o.Ok) : (txtOf o).length ≤ 281474976710656 := by
  have h1 := h.s
  unfold txtOf moreOf
  split
  · omega
  · rw [List.length_append, List.length_replicate]
    split <;> omega
end Pantry
namespace Go.Proofs.Ytefoieloakfhfaa
open Go.RowKit Pantry

set_option maxHeartbeats 4000000 in
set_option maxRecDepth 100000 in
theorem text_any (w : World) (o : Op7) (ho : o.Ok) : Calls Try.prog 43 #[.agg o.cells.toArray] w fun e w' => e = .returned (.string ⟨(txtOf o).toArray⟩) ∧ Below w.heap.size w w' := by
  obtain ⟨i0, hi, hz0, hz1, hz2⟩ := info_parts u8I
  obtain ⟨who, act, oi, oj, flag, s, big⟩ := o
  unfold Op7.cells
  have hs := ho.s
  simp only at hs
  by_cases hb : big ≤ 0
  · have e : txtOf ⟨who, act, oi, oj, flag, s, big⟩ = s := by unfold txtOf; rw [if_pos hb]
    rw [e]
    clear ho
    go_enter Try.func43, Try.ntmps43
    go_wp2_with fail
    go_ret
    exact ⟨rfl, (Below.refl _ w).alloc (Nat.le_refl _) _⟩
  · obtain ⟨N, hN⟩ : ∃ N, moreOf ⟨who, act, oi, oj, flag, s, big⟩ = N := ⟨_, rfl⟩
    have e : txtOf ⟨who, act, oi, oj, flag, s, big⟩ = s ++ List.replicate N 0 := by unfold txtOf; rw [if_neg hb, hN]
    rw [e]
    have hmin : (N : Int) = if big ≤ 1048578 then big else 1048578 := by
      rw [← hN]; unfold moreOf; simp only; split <;> omega
    have hN2 : N ≤ 1048578 := by
      rw [← hN]; unfold moreOf; simp only; split <;> omega
    have hmb : i0.bytes * N ≤ 281474976710656 := by rw [hz2]; omega
    have hml : N ≤ maxLen := by unfold maxLen; omega
    have hmin2 : min big 1048578 = (N : Int) := by rw [hmin]; split <;> omega
    clear ho hN e hmin
    go_enter Try.func43, Try.ntmps43
    go_wp2_with fail
    have hc5 : (w.alloc (Obj.cells #[.int .i64 who, .int .i64 act, .int .i64 oi, .int .i64 oj, .bool flag, .string ⟨s.toArray⟩, .int .i64 big] 39)).cell? ⟨w.heap.size, 5, none⟩ = some (.string ⟨s.toArray⟩) := by simp [go_sem]
    have hc6 : (w.alloc (Obj.cells #[.int .i64 who, .int .i64 act, .int .i64 oi, .int .i64 oj, .bool flag, .string ⟨s.toArray⟩, .int .i64 big] 39)).cell? ⟨w.heap.size, 6, none⟩ = some (.int .i64 big) := by simp [go_sem]
    have hb1 : Below w.heap.size w (w.alloc (Obj.cells #[.int .i64 who, .int .i64 act, .int .i64 oi, .int .i64 oj, .bool flag, .string ⟨s.toArray⟩, .int .i64 big] 39)) := (Below.refl _ w).alloc (Nat.le_refl _) _
    have hsz1 : w.heap.size < (w.alloc (Obj.cells #[.int .i64 who, .int .i64 act, .int .i64 oi, .int .i64 oj, .bool flag, .string ⟨s.toArray⟩, .int .i64 big] 39)).heap.size := by simp
    generalize w.alloc (Obj.cells #[.int .i64 who, .int .i64 act, .int .i64 oi, .int .i64 oj, .bool flag, .string ⟨s.toArray⟩, .int .i64 big] 39) = w1 at hc5 hc6 hb1 hsz1 ⊢
    obtain ⟨w2, hrun, hown2, hg2⟩ := run_make_full (P := Try.prog) w1.drew w1.heap.size 36 5 i0 (.int .u8 0) 1 Try.underlying36 hi hz0 hz1 .i64 .i64 N hmb hml (Nat.le_refl _)
    rw [Nat.mul_one, show (Value.int .u8 0).cells = #[.int .u8 0] from rfl, toList_madeCells_one, zeros_b8] at hown2
    have hconv : (convert 36 9 (.slice (some ⟨w1.heap.size, 0, none⟩) N N)).run Try.prog w2 = .ok (.string ⟨(List.replicate N 0).toArray⟩) w2 := run_string_of Try.underlying36 Try.underlying5 Try.underlying9 List.length_replicate (rdOf hown2 (b8_one _))
    have hb2 : Below w1.heap.size w1 w2 := (Below.refl _ w1).drew.grown hg2 (Nat.le_refl _) (fun k hk => by cases hk)
    have hc52 := (hb2.cell (p := ⟨w.heap.size, 5, none⟩) hsz1).trans hc5
    have hc62 := (hb2.cell (p := ⟨w.heap.size, 6, none⟩) hsz1).trans hc6
    have HB2 := Lib.hid (hb1.trans (hb2.mono hb1.size))
    clear hown2 hg2 hb2 hb1 hsz1
    go_region
    all_goals
      go_wp2_with fail
      go_ret
      refine ⟨?_, HB2.out⟩
      exact congrArg Ending.returned (congrArg Value.string (ByteArray.ext (by simp [ByteArray.data_append])))
end Go.Proofs.Ytefoieloakfhfaa
