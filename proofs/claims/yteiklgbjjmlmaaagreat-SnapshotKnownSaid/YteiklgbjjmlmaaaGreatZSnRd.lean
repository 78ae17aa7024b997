
/- The reader of a snapshot: must, take, numbers, texts, eights. -/
import Derived.Test.YteiklgbjjmlmaaaGreatZMem
import Derived.Test.YteiklgbjjmlmaaaGreatZBytes
import Derived.Test.YteiklgbjjmlmaaaGreatZSnBuf
import Derived.Test.YteiklgbjjmlmaaaGreatRows
import Derived.Recover
import Derived.Deep.Cut
set_option linter.unusedVariables false
set_option linter.unusedSimpArgs false
namespace Go.Proofs.YteiklgbjjmlmaaaGreat
open Go.RowKit Pantry

/-- A panic with an error. -/
abbrev Tryz.dies (c : Int) : Ending := .panicked [{ v := .iface 25 (.int .i64 c), recovered := false }]
theorem must_yes (w : World) (c : Int) : Calls Tryz.prog 43 #[.bool true, .int .i64 c] w fun e w' => e = .returned (.tuple #[]) ∧ w = w' := by
  go_enter Tryz.func43, Tryz.ntmps43
  go_wp2_with fail
  refine bodyPost_end (results_none rfl _ _ _) rfl ?_
  exact ⟨rfl, rfl⟩
theorem must_no (w : World) (c : Int) : Calls Tryz.prog 43 #[.bool false, .int .i64 c] w fun e w' => e = Tryz.dies c ∧ w = w' := by
  go_enter Tryz.func43, Tryz.ntmps43
  go_wp2_with fail
  exact ⟨rfl, rfl, rfl⟩
/-- What must does. -/
def MustQ : Bool → Int → World → Ending → World → Prop
  | true, _, w, e, w' => e = .returned (.tuple #[]) ∧ w = w'
  | false, c, w, e, w' => e = Tryz.dies c ∧ w = w'
theorem must_any (w : World) (b : Bool) (c : Int) : Calls Tryz.prog 43 #[.bool b, .int .i64 c] w (MustQ b c w) := by
  cases b with
  | true => exact must_yes w c
  | false => exact must_no w c
/-- What reading turns: the reader's own block, and what is new. -/
def RdK (R : Nat) (w w' : World) : Prop := Chg (fun k => k = R) w w'
theorem RdK.refl (R : Nat) (w : World) : RdK R w w := Chg.refl _ _
theorem RdK.trans {R : Nat} {a b c : World} (h : RdK R a b) (k : RdK R b c) : RdK R a c := Chg.trans h k (fun _ _ h => h)
theorem RdK.below {R N : Nat} {w w' : World} (h : RdK R w w') (hN : N ≤ w.heap.size) (hR : N ≤ R) : Below N w w' := Chg.below h hN (fun k hk => hk ▸ hR)
theorem RdK.size {R : Nat} {w w' : World} (h : RdK R w w') : w.heap.size ≤ w'.heap.size := Chg.size h
theorem RdK.set (R : Nat) (w : World) (u : Value) : RdK R w (w.setCell ⟨R, 0, none⟩ u) := Chg.setCell (S := fun k => k = R) (p := ⟨R, 0, none⟩) (Chg.refl _ w) (fun _ => rfl) u
theorem RdK.of_below {R : Nat} {w w' : World} (h : Below w.heap.size w w') : RdK R w w' := Chg.of_below h
theorem RdK.block {R k : Nat} {w w' : World} (h : RdK R w w') (hk : k < w.heap.size) (hne : k ≠ R) : w'.heap[k]? = w.heap[k]? := Chg.block h k hk hne
/-- Block R is a reader before which these bytes lie; it lies from N on, the bytes ahead of N. -/
structure RdAt (N : Nat) (w : World) (R : Nat) (src : List UInt8) : Prop where
  ge : N ≤ R
  ex : ∃ a c, w.heap[R]? = some (.cells #[.slice a src.length c] 81) ∧ Rd w a (b8 src) ∧ src.length ≤ c ∧ c ≤ 9223372036854775807 ∧ (a = none → c = 0) ∧ ∀ x, a = some x → src ≠ [] → x.block < N
/-- What reading leaves: an error, or what was read, and the rest. -/
def Tryz.RdPost {α : Type} (N : Nat) (w : World) (R : Nat) (res : Rdd α) (ok : α → Ending → World → Prop) (e : Ending) (w' : World) : Prop :=
  RdK R w w' ∧ match res with
  | .error c => e = Tryz.dies c
  | .ok (x, r) => ok x e w' ∧ RdAt N w' R r
/-- What take answers. -/
def Took (n : Nat) (l : List UInt8) (e : Ending) (w : World) : Prop := ∃ a c, e = .returned (.slice a n c) ∧ Rd w a (b8 l)
theorem RdAt.lt {N R : Nat} {w : World} {src : List UInt8} (h : RdAt N w R src) : R < w.heap.size := by
  obtain ⟨a, c, h1, -⟩ := h.ex
  exact (Array.getElem?_eq_some_iff.1 h1).1
theorem Rd.keepN {N : Nat} {w w' : World} {a : Option Addr} {src : List UInt8} (h : Rd w a (b8 src)) (hb : Below N w w') (h6 : ∀ x, a = some x → src ≠ [] → x.block < N) : Rd w' a (b8 src) := by
  by_cases h0 : src = []
  · subst h0
    exact Rd.nil _ _
  · exact h.of_block fun x hx _ => hb.block _ (h6 x hx h0)
theorem RdAt.keep {N R : Nat} {w w' : World} {src : List UInt8} (h : RdAt N w R src) (hb : Below N w w') (hR : w'.heap[R]? = w.heap[R]?) : RdAt N w' R src := by
  obtain ⟨a, c, h1, h2, h3, h4, h5, h6⟩ := h.ex
  refine ⟨h.ge, a, c, hR.trans h1, Rd.keepN h2 hb h6, h3, h4, h5, h6⟩
theorem RdAt.below {N R : Nat} {w w' : World} {src : List UInt8} (h : RdAt N w R src) (hb : Below w.heap.size w w') : RdAt N w' R src :=
  h.keep (hb.mono (Nat.le_trans h.ge (Nat.le_of_lt h.lt))) (hb.block R h.lt)
theorem WrLike {N R : Nat} {w : World} {v : Value} {t : TypeId} (hR : N ≤ R) (h : w.heap[R]? = some (.cells #[v] t)) (u : Value) : (w.setCell ⟨R, 0, none⟩ u).heap[R]? = some (.cells #[u] t) := by
  rw [setCell_eq_setRow w R 0 _ _ (0, 0) _ h]
  exact setRow_heap w R _ _ _ _ h
set_option maxRecDepth 100000 in
set_option maxHeartbeats 2000000 in
theorem take_any {N R : Nat} {w : World} {src : List UInt8} (h : RdAt N w R src) (n : Nat) (hn : n < 9223372036854775808) :
    Calls Tryz.prog 44 #[.pointer (some ⟨R, 0, none⟩), .int .i64 n] w (Tryz.RdPost N w R (takeR n src) (Took n)) := by
  obtain ⟨a, c, h1, h2, h3, h4, h5, h6⟩ := h.ex
  have cR := cell_of_row w R 0 _ _ _ h1
  have fR := frozen_of_row w R 0 _ _ h1
  have H := Lib.hid h
  have H1 := Lib.hid h1
  by_cases hle : n ≤ src.length
  · have hlei : (n : Int) ≤ (src.length : Int) := by omega
    cases a with
    | none =>
      have hc0 := h5 rfl
      subst hc0
      obtain rfl : src = [] := List.length_eq_zero_iff.1 (by omega)
      obtain rfl : n = 0 := by simpa using hle
      clear h h2 h3 h5 h6
      simp only [List.length_nil] at cR hlei
      go_enter Tryz.func44, Tryz.ntmps44
      go_wp2_with (go_at_call 43; refine (must_yes _ _).mono ?_; rintro e w1 ⟨rfl, rfl⟩)
      go_ret
      refine ⟨RdK.set R w _, ?_⟩
      have hs := WrLike H.out.ge H1.out (.slice none 0 0)
      exact ⟨⟨none, 0, rfl, Rd.nil _ _⟩, H.out.ge, none, 0, hs, Rd.nil _ _, Nat.le_refl _, by decide, fun _ => rfl, fun x hx _ => by cases hx⟩
    | some x =>
      have ht : takeR n src = .ok (src.take n, src.drop n) := by unfold takeR; rw [if_pos hle]
      rw [ht]
      have HR := Lib.hid h2
      have HC := Lib.hid (And.intro h3 h4)
      have HX := Lib.hid h6
      obtain ⟨q, hq⟩ : ∃ q, src.length = q := ⟨_, rfl⟩
      rw [hq] at cR hlei h3
      have HQ := Lib.hid hq
      have hlc : (n : Int) ≤ (c : Int) := by omega
      clear h h1 h2 h5 h6 hq hle
      go_enter Tryz.func44, Tryz.ntmps44
      go_wp2_with (go_at_call 43; refine (must_yes _ _).mono ?_; rintro e w1 ⟨rfl, rfl⟩)
      · go_ret
        refine ⟨RdK.set R w _, ?_⟩
        have hq := HQ.out
        have hn0 : n - n = 0 := by omega
        have hqn : q = n := by have := HC.out; omega
        have hd : src.drop n = [] := List.drop_eq_nil_of_le (by omega)
        have hb : Below N w (w.setCell ⟨R, 0, none⟩ (.slice (some x) (q - n) 0)) := (Below.refl N w).setCell (p := ⟨R, 0, none⟩) H.out.ge _
        refine ⟨⟨_, _, rfl, ?_⟩, H.out.ge, some x, 0, ?_, ?_, ?_, by decide, fun h => (by cases h), fun y hy hne => HX.out y hy (fun e => hne (by rw [e]; exact List.drop_nil))⟩
        · rw [List.take_of_length_le (by omega)]
          exact Rd.keepN HR.out hb HX.out
        · have hs := WrLike H.out.ge H1.out (.slice (some x) (q - n) 0)
          rw [hd]
          rw [hqn, hn0] at hs ⊢
          exact hs
        · rw [hd]; exact Rd.nil _ _
        · rw [hd]; exact Nat.le_refl _
      · go_ret
        refine ⟨RdK.set R w _, ?_⟩
        have hq := HQ.out
        have hb : Below N w (w.setCell ⟨R, 0, none⟩ (.slice (some (x.add n)) (q - n) (c - n))) := (Below.refl N w).setCell (p := ⟨R, 0, none⟩) H.out.ge _
        have hR2 : Rd (w.setCell ⟨R, 0, none⟩ (.slice (some (x.add n)) (q - n) (c - n))) (some x) (b8 src) := Rd.keepN HR.out hb HX.out
        have hdl : (src.drop n).length = q - n := by rw [List.length_drop, hq]
        refine ⟨⟨_, _, rfl, ?_⟩, H.out.ge, some (x.add n), c - n, ?_, ?_, ?_, ?_, fun h => (by cases h), ?_⟩
        · have := hR2.take n
          rwa [show (b8 src).take n = b8 (src.take n) by simp [b8, List.map_take]] at this
        · rw [hdl]
          exact WrLike H.out.ge H1.out _
        · intro j u hu
          have hu' : (b8 src)[n + j]? = some u := by
            rw [show b8 (src.drop n) = (b8 src).drop n by simp [b8, List.map_drop], List.getElem?_drop] at hu
            exact hu
          obtain ⟨k1, y, hy, k2⟩ := hR2 _ _ hu'
          obtain rfl : x = y := by simpa using hy
          exact ⟨k1, _, rfl, by rw [Addr.add_add]; exact k2⟩
        · rw [hdl]; have := HC.out; omega
        · have := HC.out; omega
        · intro y hy hne
          obtain rfl : x.add n = y := by simpa using hy
          rw [Addr.add_block]
          exact HX.out x rfl (fun e => hne (by rw [e]; exact List.drop_nil))
  · have hlei : ¬ (n : Int) ≤ (src.length : Int) := by omega
    have ht : takeR n src = .error 5 := takeR_short (by omega)
    rw [ht]
    clear h h1 h2 h3 h4 h5 h6
    go_enter Tryz.func44, Tryz.ntmps44
    go_wp2_with (go_at_call 43; refine (must_no _ _).mono ?_; rintro e w1 ⟨rfl, rfl⟩)
    exact ⟨rfl, RdK.refl _ _, rfl⟩
/-- One byte more. -/
theorem take_one {N R : Nat} {w : World} {c : UInt8} {src : List UInt8} (h : RdAt N w R (c :: src)) :
    Calls Tryz.prog 44 #[.pointer (some ⟨R, 0, none⟩), .int .i64 1] w fun e w' => RdK R w w' ∧ ∃ x k, e = .returned (.slice (some x) 1 k) ∧ w'.cell? x = some (.int .u8 (c.toNat : Int)) ∧ RdAt N w' R src := by
  refine (take_any h 1 (by decide)).mono ?_
  rintro e w' ⟨hb, hr⟩
  have ht : takeR 1 (c :: src) = .ok ([c], src) := by unfold takeR; rw [if_pos (by simp)]; rfl
  rw [ht] at hr
  obtain ⟨⟨a, k, rfl, hrd⟩, hR⟩ := hr
  obtain ⟨-, x, rfl, hc⟩ := hrd 0 _ rfl
  exact ⟨hb, x, k, rfl, hc, hR⟩
theorem take_none {N R : Nat} {w : World} (h : RdAt N w R []) :
    Calls Tryz.prog 44 #[.pointer (some ⟨R, 0, none⟩), .int .i64 1] w fun e w' => RdK R w w' ∧ e = Tryz.dies 5 := by
  refine (take_any h 1 (by decide)).mono ?_
  rintro e w' ⟨hb, hr⟩
  exact ⟨hb, hr⟩
theorem u64_digit (a k d : Nat) (hk : k ≤ 8) (ha : a < 128 ^ k) (hd : d < 256) : bits BinOp.or IntKind.u64 (a : Int) (IntKind.u64.wrap (IntKind.u64.wrap (bits BinOp.and IntKind.u8 (d : Int) 127) * 2 ^ (7 * k))) = ((a + d % 128 * 128 ^ k : Nat) : Int) ∧ a + d % 128 * 128 ^ k < 128 ^ (k + 1) := by
  have e1 : bits BinOp.and IntKind.u8 (d : Int) 127 = ((d % 128 : Nat) : Int) := by
    have := bits_mask .u8 8 (by decide) wraps_u8 7 (by decide) (d : Int) (by omega) (by omega)
    rw [show ((2 : Int) ^ 7 - 1) = 127 from rfl, show ((2 : Int) ^ 7) = 128 from rfl] at this
    rw [this]; omega
  have e0 : IntKind.u64.wrap ((d % 128 : Nat) : Int) = ((d % 128 : Nat) : Int) := by rw [IntKind.wrap_u64]; omega
  have e2 : ((2 : Int) ^ (7 * k)) = ((128 ^ k : Nat) : Int) := by rw [show (128 : Nat) = 2 ^ 7 from rfl, ← Nat.pow_mul]; simp
  have h9 : 128 ^ k * 128 ≤ 128 ^ 9 := by rw [← Nat.pow_succ]; exact Nat.pow_le_pow_right (by decide) (by omega)
  have h63 : (128 : Nat) ^ 9 = 9223372036854775808 := by decide
  have h3 : d % 128 * 128 ^ k ≤ 127 * 128 ^ k := Nat.mul_le_mul_right _ (by omega)
  have h4 : d % 128 * 128 ^ k < 9223372036854775808 := by omega
  have e3 : IntKind.u64.wrap (((d % 128 : Nat) : Int) * ((128 ^ k : Nat) : Int)) = ((d % 128 * 128 ^ k : Nat) : Int) := by
    rw [IntKind.wrap_u64, ← Int.natCast_mul]
    omega
  refine ⟨?_, by rw [Nat.pow_succ]; omega⟩
  rw [e1, e0, e2, e3, bits_or_u64_nat a _ (by omega) (by omega)]
  have h5 := Nat.two_pow_add_eq_or_of_lt (i := 7 * k) (b := a) (by rw [Nat.pow_mul]; exact ha) (d % 128)
  rw [Nat.or_comm, show d % 128 * 128 ^ k = 2 ^ (7 * k) * (d % 128) by rw [Nat.pow_mul, Nat.mul_comm], ← h5, Nat.add_comm]
/-- What number answers. -/
def Numb (n : Nat) (e : Ending) (w : World) : Prop := e = .returned (.int .i64 n)
set_option maxRecDepth 100000 in
set_option maxHeartbeats 4000000 in
theorem rnum_any {N R : Nat} {w : World} {src : List UInt8} (h : RdAt N w R src) (least most : Nat) (hm : most < 9223372036854775808) (hl : least < 9223372036854775808) (hN : N ≤ w.heap.size) :
    Calls Tryz.prog 45 #[.pointer (some ⟨R, 0, none⟩), .int .i64 least, .int .i64 most] w (Tryz.RdPost N w R (numR least most src) Numb) := by
  have H := Lib.hid h
  have HM := Lib.hid hm
  have HLE := Lib.hid hl
  have HNN := Lib.hid hN
  clear h hm hl hN
  go_enter Tryz.func45, Tryz.ntmps45
  go_wp2
  go_loopw [7, 8] (fun n s wr => ∃ (k acc : Nat) (rest : List UInt8), n = .int .u64 acc ∧ s = .int .i64 ((7 * k : Nat) : Int) ∧ k ≤ 8 ∧ acc < 128 ^ k ∧ RdAt N wr R rest ∧ RdK R w wr ∧ Hid (rdNum 0 0 src = rdNum k acc rest)) (fun _ s _ => 63 - (intOf s).toNat)
  case atStart => exact ⟨0, 0, src, rfl, rfl, by omega, by decide, H.out, RdK.refl _ _, Lib.hid rfl⟩
  case round =>
    obtain ⟨k, acc, rest, rfl, rfl, hk, hacc, hR, hb, HEQ⟩ := hrel
    have HR := Lib.hid hR
    have HB := Lib.hid hb
    have HK := Lib.hid (And.intro hk hacc)
    clear hR hb
    cases rest with
    | nil =>
      go_wp2_with (go_at_call 44; refine (take_none HR.out).mono ?_; rintro e w1 ⟨hb1, rfl⟩; have HB1 := Lib.hid (HB.out.trans hb1); clear hb1)
      refine ⟨rfl, HB1.out, ?_⟩
      have : numR least most src = .error 5 := by unfold numR; rw [HEQ.out]; rfl
      rw [this]
    | cons d r =>
      have hd := d.toNat_lt
      obtain ⟨s7, hs7⟩ : ∃ s7, 7 * k = s7 := ⟨_, rfl⟩
      rw [hs7]
      obtain ⟨dn, hdn⟩ : ∃ dn, d.toNat = dn := ⟨_, rfl⟩
      rw [hdn] at hd
      obtain ⟨hbit, hac2⟩ := u64_digit acc k dn HK.out.1 HK.out.2 hd
      rw [hs7] at hbit
      have HS7 := Lib.hid hs7
      have HDN := Lib.hid hdn
      obtain ⟨ac2, ha2⟩ : ∃ ac2, acc + dn % 128 * 128 ^ k = ac2 := ⟨_, rfl⟩
      rw [ha2] at hbit hac2
      have HA2 := Lib.hid ha2
      have HAC := Lib.hid hac2
      have hmax : ac2 < 9223372036854775808 := Nat.lt_of_lt_of_le hac2 (Nat.le_trans (Nat.pow_le_pow_right (by decide) (by have := HK.out.1; omega : k + 1 ≤ 9)) (by decide))
      have hs64 : s7 < 64 := by have := HK.out.1; omega
      clear hs7 hdn ha2 hac2
      by_cases h128 : (dn : Int) < 128
      · by_cases hz : dn = 0 ∧ k ≠ 0
        · have hne : ((s7 : Int) == 0) = false := by have := HS7.out; simp; omega
          obtain ⟨rfl, -⟩ := hz
          go_wp2_with (first
            | (go_at_call 44; refine (take_one HR.out).mono ?_; rintro e w1 ⟨hb1, x, cx, rfl, hx, hR1⟩; have HB1 := Lib.hid (HB.out.trans hb1); have HR1 := Lib.hid hR1; rw [HDN.out] at hx; clear hb1 hR1)
            | (go_at_call 43; refine (must_any _ _ _).mono ?_; rintro e w2 ⟨rfl, rfl⟩))
          refine ⟨rfl, HB1.out, ?_⟩
          have : numR least most src = .error 290 := by
            unfold numR
            rw [HEQ.out, rdNum, if_pos (by rw [HDN.out]; decide), if_pos ⟨HDN.out, by have := HS7.out; simp at hne; omega⟩]
          rw [this]
        · have hnum : Hid (numR least most src = if least ≤ ac2 ∧ ac2 ≤ most then .ok (ac2, r) else .error 290) := Lib.hid (by
            have h1 : d.toNat < 128 := by rw [HDN.out]; omega
            have h2 : ¬ (d.toNat = 0 ∧ k ≠ 0) := by rw [HDN.out]; exact hz
            have h3 : rdNum k acc (d :: r) = .ok (ac2, r) := by rw [rdNum, if_pos h1, if_neg h2, HDN.out, HA2.out]
            unfold numR
            rw [HEQ.out, h3])
          have hz2 : (dn = 0 ∧ k = 0) ∨ dn ≠ 0 := by omega
          have hr2 : (least ≤ ac2 ∧ ac2 ≤ most) ∨ ¬ least ≤ ac2 ∨ (least ≤ ac2 ∧ ¬ ac2 ≤ most) := by omega
          have hif1 : Hid (least ≤ ac2 ∧ ac2 ≤ most → numR least most src = .ok (ac2, r)) := Lib.hid fun h => by rw [hnum.out, if_pos h]
          have hif2 : Hid (¬ (least ≤ ac2 ∧ ac2 ≤ most) → numR least most src = .error 290) := Lib.hid fun h => by rw [hnum.out, if_neg h]
          have hw : IntKind.i64.wrap (ac2 : Int) = (ac2 : Int) := by rw [IntKind.wrap_i64]; omega
          clear hnum
          rcases hz2 with ⟨rfl, rfl⟩ | hdn0
          · obtain rfl : s7 = 0 := by have := HS7.out; omega
            obtain rfl : acc = 0 := by have := HK.out.2; simp at this; exact this
            obtain rfl : ac2 = 0 := by have := HA2.out; simp at this; exact this.symm
            clear hz hbit hw
            have hb0 : bits BinOp.and IntKind.u8 0 127 = 0 := by decide
            have hb1 : bits BinOp.or IntKind.u64 0 0 = 0 := by decide
            rcases hr2 with ⟨r1, r2⟩ | r1 | ⟨r1, r2⟩
            · have q1 : (least : Int) ≤ 0 := by omega
              have q2 : (0 : Int) ≤ (most : Int) := by omega
              have HR1 := Lib.hid (And.intro r1 r2)
              clear r1 r2
              go_wp2_with (first
                | (go_at_call 44; refine (take_one HR.out).mono ?_; rintro e w1 ⟨hb1, x, cx, rfl, hx, hR1⟩; have HB1 := Lib.hid (HB.out.trans hb1); have HRR := Lib.hid hR1; rw [HDN.out] at hx; clear hb1 hR1)
                | (go_at_call 43; refine (must_any _ _ _).mono ?_; rintro e w2 ⟨rfl, rfl⟩))
              go_ret
              refine ⟨HB1.out, ?_⟩
              rw [hif1.out HR1.out]
              exact ⟨rfl, HRR.out⟩
            · have q1 : ¬ (least : Int) ≤ 0 := by omega
              have HR1 := Lib.hid r1
              clear r1
              go_wp2_with (first
                | (go_at_call 44; refine (take_one HR.out).mono ?_; rintro e w1 ⟨hb1, x, cx, rfl, hx, hR1⟩; have HB1 := Lib.hid (HB.out.trans hb1); have HRR := Lib.hid hR1; rw [HDN.out] at hx; clear hb1 hR1)
                | (go_at_call 43; refine (must_any _ _ _).mono ?_; rintro e w2 ⟨rfl, rfl⟩))
              refine ⟨rfl, HB1.out, ?_⟩
              rw [hif2.out fun h => HR1.out h.1]
            · exact absurd (Nat.zero_le _) r2
          · have hdnb : ((dn : Int) != 0) = true := by simpa using hdn0
            clear hz hdn0
            rcases hr2 with ⟨r1, r2⟩ | r1 | ⟨r1, r2⟩
            · have q1 : (least : Int) ≤ (ac2 : Int) := by omega
              have q2 : (ac2 : Int) ≤ (most : Int) := by omega
              have HR1 := Lib.hid (And.intro r1 r2)
              clear r1 r2
              go_wp2_with (first
                | (go_at_call 44; refine (take_one HR.out).mono ?_; rintro e w1 ⟨hb1, x, cx, rfl, hx, hR1⟩; have HB1 := Lib.hid (HB.out.trans hb1); have HRR := Lib.hid hR1; rw [HDN.out] at hx; clear hb1 hR1)
                | (go_at_call 43; refine (must_any _ _ _).mono ?_; rintro e w2 ⟨rfl, rfl⟩))
              go_ret
              refine ⟨HB1.out, ?_⟩
              rw [hif1.out HR1.out]
              exact ⟨rfl, HRR.out⟩
            · have q1 : ¬ (least : Int) ≤ (ac2 : Int) := by omega
              have q1b : decide (least ≤ ac2) = false := decide_eq_false r1
              have HR1 := Lib.hid r1
              clear r1
              go_wp2_with (first
                | (go_at_call 44; refine (take_one HR.out).mono ?_; rintro e w1 ⟨hb1, x, cx, rfl, hx, hR1⟩; have HB1 := Lib.hid (HB.out.trans hb1); have HRR := Lib.hid hR1; rw [HDN.out] at hx; clear hb1 hR1)
                | (go_at_call 43; refine (must_any _ _ _).mono ?_; rintro e w2 ⟨rfl, rfl⟩))
              refine ⟨rfl, HB1.out, ?_⟩
              rw [hif2.out fun h => HR1.out h.1]
            · have q1 : (least : Int) ≤ (ac2 : Int) := by omega
              have q2 : ¬ (ac2 : Int) ≤ (most : Int) := by omega
              have q2b : decide (ac2 ≤ most) = false := decide_eq_false r2
              have HR1 := Lib.hid r2
              clear r1 r2
              go_wp2_with (first
                | (go_at_call 44; refine (take_one HR.out).mono ?_; rintro e w1 ⟨hb1, x, cx, rfl, hx, hR1⟩; have HB1 := Lib.hid (HB.out.trans hb1); have HRR := Lib.hid hR1; rw [HDN.out] at hx; clear hb1 hR1)
                | (go_at_call 43; refine (must_any _ _ _).mono ?_; rintro e w2 ⟨rfl, rfl⟩))
              refine ⟨rfl, HB1.out, ?_⟩
              rw [hif2.out fun h => HR1.out h.2]
      · have h1 : Hid (¬ d.toNat < 128) := Lib.hid (by rw [HDN.out]; omega)
        have h128b : decide ((dn : Int) < 128) = false := decide_eq_false h128
        have h128c : (128 : Int) ≤ (dn : Int) := by omega
        clear h128
        by_cases hk8 : k < 8
        · have hlt : ((s7 : Int) + 7 < 63) := by have := HS7.out; omega
          have HK8 := Lib.hid hk8
          go_wp2_with (first
            | (go_at_call 44; refine (take_one HR.out).mono ?_; rintro e w1 ⟨hb1, x, cx, rfl, hx, hR1⟩; have HB1 := Lib.hid (HB.out.trans hb1); have HRR := Lib.hid hR1; rw [HDN.out] at hx; clear hb1 hR1)
            | (go_at_call 43; refine (must_any _ _ _).mono ?_; rintro e w2 ⟨rfl, rfl⟩))
          go_roundw
          case rel => exact ⟨k + 1, ac2, r, rfl, by rw [← HS7.out]; go_num, by have := HK8.out; omega, HAC.out, HRR.out, HB1.out, Lib.hid (by rw [HEQ.out, rdNum, if_neg h1.out, if_pos HK8.out, HDN.out, HA2.out])⟩
          case measure => have := HS7.out; simp [intOf]; omega
        · obtain rfl : k = 8 := by have := HK.out.1; omega
          obtain rfl : s7 = 56 := by have := HS7.out; omega
          have HK8 := Lib.hid hk8
          clear hk8
          go_wp2_with (first
            | (go_at_call 44; refine (take_one HR.out).mono ?_; rintro e w1 ⟨hb1, x, cx, rfl, hx, hR1⟩; have HB1 := Lib.hid (HB.out.trans hb1); have HRR := Lib.hid hR1; rw [HDN.out] at hx; clear hb1 hR1)
            | (go_at_call 43; refine (must_any _ _ _).mono ?_; rintro e w2 ⟨rfl, rfl⟩))
          refine ⟨rfl, HB1.out, ?_⟩
          have : numR least most src = .error 290 := by
            unfold numR
            rw [HEQ.out, rdNum, if_neg h1.out, if_neg HK8.out]
          rw [this]
end Go.Proofs.YteiklgbjjmlmaaaGreat


/- The reader of a snapshot: texts, eights. -/
set_option linter.unusedVariables false
set_option linter.unusedSimpArgs false
namespace Go.Proofs.YteiklgbjjmlmaaaGreat
open Go.RowKit Pantry

/-- What text answers. -/
def Texted (s : List UInt8) (e : Ending) (w : World) : Prop := e = .returned (.string ⟨s.toArray⟩)
set_option maxRecDepth 100000 in
set_option maxHeartbeats 2000000 in
theorem rtext_any {N R : Nat} {w : World} {src : List UInt8} (h : RdAt N w R src) (hN : N ≤ w.heap.size) :
    Calls Tryz.prog 46 #[.pointer (some ⟨R, 0, none⟩)] w (Tryz.RdPost N w R (textR src) Texted) := by
  have HNU := Lib.hid (rnum_any h 0 1048576 (by decide) (by decide) hN)
  have HTX : Hid (∀ e, numR 0 1048576 src = .error e → textR src = .error e) := Lib.hid fun e he => by unfold textR; rw [he]
  have HTY : Hid (∀ n r, numR 0 1048576 src = .ok (n, r) → textR src = takeR n r) := Lib.hid fun n r he => by unfold textR; rw [he]
  have HNM : Hid (∀ n r, numR 0 1048576 src = .ok (n, r) → n ≤ 1048576) := Lib.hid fun n r he => ((num_exact 0 1048576 (by decide)).only src n r he).1.2
  clear h hN
  generalize textR src = tr at HTX HTY ⊢
  cases hq : numR 0 1048576 src with
  | error c =>
    rw [hq] at HNU HTX
    obtain rfl := HTX.out c rfl
    clear hq
    go_enter Tryz.func46, Tryz.ntmps46
    go_wp2_with (go_at_call 45; refine HNU.out.mono ?_; rintro e w1 ⟨hb1, rfl⟩; have HB1 := Lib.hid hb1; clear hb1)
    exact ⟨rfl, HB1.out, rfl⟩
  | ok q =>
    obtain ⟨n, r⟩ := q
    rw [hq] at HNU HTY HNM
    obtain rfl := HTY.out n r rfl
    have hn := HNM.out n r rfl
    clear hq
    have HT : Hid (∀ w1, RdK R w w1 → RdAt N w1 R r → Calls Tryz.prog 44 #[.pointer (some ⟨R, 0, none⟩), .int .i64 n] w1 (Tryz.RdPost N w R (takeR n r) (Took n))) := Lib.hid fun w1 hb hR => (take_any hR n (by omega)).mono fun e w' h => ⟨hb.trans h.1, h.2⟩
    cases ht : takeR n r with
    | error c =>
      rw [ht] at HT
      clear ht
      go_enter Tryz.func46, Tryz.ntmps46
      go_wp2_with (first
        | (go_at_call 45; refine HNU.out.mono ?_; rintro e w1 ⟨hb1, hv, hR1⟩; obtain rfl : e = .returned (.int .i64 n) := hv; have HB1 := Lib.hid hb1; have HR1 := Lib.hid hR1; clear hb1 hR1)
        | (go_at_call 44; refine (HT.out _ HB1.out HR1.out).mono ?_; rintro e w2 ⟨hb2, rfl⟩; have HB2 := Lib.hid hb2; clear hb2))
      exact ⟨rfl, HB2.out, rfl⟩
    | ok q =>
      obtain ⟨l, r2⟩ := q
      rw [ht] at HT
      have hln := (takeR_only ht).1
      have HLN := Lib.hid hln
      clear ht hln
      go_enter Tryz.func46, Tryz.ntmps46
      go_wp2_with (first
        | (go_at_call 45; refine HNU.out.mono ?_; rintro e w1 ⟨hb1, hv, hR1⟩; obtain rfl : e = .returned (.int .i64 n) := hv; have HB1 := Lib.hid hb1; have HR1 := Lib.hid hR1; clear hb1 hR1)
        | (go_at_call 44; refine (HT.out _ HB1.out HR1.out).mono ?_; rintro e w2 ⟨hb2, ⟨a, c, rfl, hrd⟩, hR2⟩; have HB2 := Lib.hid hb2; have HR2 := Lib.hid hR2; have HRD := Lib.hid hrd; clear hb2 hR2 hrd)
        | (refine wpl_string_of Tryz.underlying24 Tryz.underlying5 Tryz.underlying9 rfl _ rfl l rfl HLN.out HRD.out ?_))
      go_ret
      exact ⟨HB2.out, rfl, HR2.out⟩
theorem u64_byte (a k c : Nat) (hk : k < 8) (ha : a < 256 ^ k) (hc : c < 256) : bits BinOp.or IntKind.u64 (a : Int) (IntKind.u64.wrap ((c : Int) * 2 ^ (8 * k))) = ((a + c * 256 ^ k : Nat) : Int) ∧ a + c * 256 ^ k < 256 ^ (k + 1) := by
  have e2 : ((2 : Int) ^ (8 * k)) = ((256 ^ k : Nat) : Int) := by rw [show (256 : Nat) = 2 ^ 8 from rfl, ← Nat.pow_mul]; simp
  have h9 : 256 ^ k * 256 ≤ 256 ^ 8 := by rw [← Nat.pow_succ]; exact Nat.pow_le_pow_right (by decide) (by omega)
  have h64 : (256 : Nat) ^ 8 = 18446744073709551616 := by decide
  have h3 : c * 256 ^ k ≤ 255 * 256 ^ k := Nat.mul_le_mul_right _ (by omega)
  have h4 : c * 256 ^ k < 18446744073709551616 := by omega
  have e3 : IntKind.u64.wrap ((c : Int) * ((256 ^ k : Nat) : Int)) = ((c * 256 ^ k : Nat) : Int) := by
    rw [IntKind.wrap_u64, ← Int.natCast_mul]
    omega
  refine ⟨?_, by rw [Nat.pow_succ]; omega⟩
  rw [e2, e3, bits_or_u64_nat a _ (by omega) (by omega)]
  have h5 := Nat.two_pow_add_eq_or_of_lt (i := 8 * k) (b := a) (by rw [Nat.pow_mul]; exact ha) c
  rw [Nat.or_comm, show c * 256 ^ k = 2 ^ (8 * k) * c by rw [Nat.pow_mul, Nat.mul_comm], ← h5, Nat.add_comm]
theorem leN_snoc : ∀ (l : List UInt8) (c : UInt8), leN (l ++ [c]) = leN l + c.toNat * 256 ^ l.length
  | [], c => by simp [leN]
  | d :: l, c => by
    rw [List.cons_append, leN, leN_snoc l c, leN, List.length_cons, Nat.pow_succ]
    have : 256 * (c.toNat * 256 ^ l.length) = c.toNat * (256 ^ l.length * 256) := by rw [Nat.mul_comm 256, Nat.mul_assoc]
    omega
def Eighted (u : Nat) (e : Ending) (w : World) : Prop := e = .returned (.int .u64 u)
set_option maxRecDepth 100000 in
set_option maxHeartbeats 2000000 in
theorem reight_any {N R : Nat} {w : World} {src : List UInt8} (h : RdAt N w R src) (hN : N ≤ w.heap.size) :
    Calls Tryz.prog 48 #[.pointer (some ⟨R, 0, none⟩)] w (Tryz.RdPost N w R (eightR src) Eighted) := by
  have HT := Lib.hid (take_any h 8 (by decide))
  have HNN := Lib.hid hN
  unfold eightR
  cases ht : takeR 8 src with
  | error c =>
    rw [ht] at HT
    clear ht h hN
    go_enter Tryz.func48, Tryz.ntmps48
    go_wp2_with (go_at_call 44; refine HT.out.mono ?_; rintro e w2 ⟨hb2, rfl⟩; have HB2 := Lib.hid hb2; clear hb2)
    exact ⟨rfl, HB2.out, rfl⟩
  | ok q =>
    obtain ⟨l, r2⟩ := q
    rw [ht] at HT
    have HLN := Lib.hid (takeR_only ht).1
    clear ht h hN
    go_enter Tryz.func48, Tryz.ntmps48
    go_wp2_with (go_at_call 44; refine HT.out.mono ?_; rintro e w2 ⟨hb2, ⟨a, c, rfl, hrd⟩, hR2⟩; have HB2 := Lib.hid hb2; have HR2 := Lib.hid hR2; have HRD := Lib.hid hrd; clear hb2 hR2 hrd)
    go_loopw [3, 9] (fun u i wr => ∃ k : Nat, k ≤ 8 ∧ i = .int .i64 k ∧ u = .int .u64 (leN (l.take k) : Nat) ∧ ∃ q, wr = w2.drewN q) (fun _ i _ => 8 - (intOf i).toNat)
    case atStart => exact ⟨0, by omega, rfl, rfl, 0, rfl⟩
    case round =>
      obtain ⟨k, hk, rfl, rfl, q, rfl⟩ := hrel
      by_cases hlt : k < 8
      · have hlti : (k : Int) < 8 := by omega
        obtain ⟨c, hc⟩ : ∃ c, l[k]? = some c := ⟨_, List.getElem?_eq_getElem (by rw [HLN.out]; exact hlt)⟩
        obtain ⟨-, x, rfl, hcell⟩ := HRD.out k _ (by rw [b8_get, hc]; rfl)
        replace hcell : w2.cell? (x.add k) = some (.int .u8 (c.toNat : Int)) := hcell
        have hlk : (l.take k).length = k := by rw [List.length_take, HLN.out]; omega
        have HNX := Lib.hid (show leN (l.take (k + 1)) = leN (l.take k) + c.toNat * 256 ^ k by
          have h1 := (List.getElem?_eq_some_iff.1 hc)
          rw [List.take_succ_eq_append_getElem h1.1, h1.2, leN_snoc, hlk])
        have hal := leN_lt (l.take k)
        rw [hlk] at hal
        have hcl := c.toNat_lt
        obtain ⟨cn, hcn⟩ : ∃ cn, c.toNat = cn := ⟨_, rfl⟩
        rw [hcn] at hcell hcl HNX
        obtain ⟨ac, hac⟩ : ∃ ac, leN (l.take k) = ac := ⟨_, rfl⟩
        rw [hac] at hal HNX ⊢
        obtain ⟨hbit, hac2⟩ := u64_byte ac k cn hlt hal hcl
        obtain ⟨ac2, ha2⟩ : ∃ ac2, ac + cn * 256 ^ k = ac2 := ⟨_, rfl⟩
        rw [ha2] at hbit HNX
        obtain ⟨s8, hs8⟩ : ∃ s8, 8 * k = s8 := ⟨_, rfl⟩
        have hs64 : s8 < 64 := by omega
        have hw8 : IntKind.i64.wrap (8 * (k : Int)) = (s8 : Int) := by rw [IntKind.wrap_i64]; omega
        rw [hs8] at hbit
        clear hc hlk hac hal hcn ha2 hac2 hs8
        go_wp2_with fail
        go_roundw
        case rel => exact ⟨k + 1, by omega, by go_num, by rw [HNX.out], q, rfl⟩
        case measure => simp [intOf]; omega
      · obtain rfl : k = 8 := by omega
        have HE : Hid (l.take 8 = l) := Lib.hid (List.take_of_length_le (by rw [HLN.out]; exact Nat.le_refl _))
        rw [HE.out]
        go_wp2_with fail
        go_ret
        have hdn : Below w2.heap.size w2 (w2.drewN q) := ⟨rfl, rfl, rfl, Nat.le_refl _, fun _ _ => rfl⟩
        exact ⟨HB2.out.trans (RdK.of_below hdn), rfl, HR2.out.below hdn⟩
end Go.Proofs.YteiklgbjjmlmaaaGreat


/- The reader of a snapshot: values. -/
set_option linter.unusedVariables false
set_option linter.unusedSimpArgs false
namespace Go.Proofs.YteiklgbjjmlmaaaGreat
open Go.RowKit Pantry

theorem five_cells {w : World} {g : Nat} {c0 c1 c2 c3 c4 : Value} {t : TypeId} (h : w.heap[g]? = some (.cells #[c0, c1, c2, c3, c4] t)) :
    (w.cell? ⟨g, 0, none⟩ = some c0 ∧ w.cell? ⟨g, 1, none⟩ = some c1 ∧ w.cell? ⟨g, 2, none⟩ = some c2 ∧ w.cell? ⟨g, 3, none⟩ = some c3 ∧ w.cell? ⟨g, 4, none⟩ = some c4) ∧
    (w.frozen? ⟨g, 0, none⟩ = false ∧ w.frozen? ⟨g, 1, none⟩ = false ∧ w.frozen? ⟨g, 2, none⟩ = false ∧ w.frozen? ⟨g, 3, none⟩ = false ∧ w.frozen? ⟨g, 4, none⟩ = false) :=
  ⟨⟨cell_of_row w g 0 _ _ _ h, cell_of_row w g 1 _ _ _ h, cell_of_row w g 2 _ _ _ h, cell_of_row w g 3 _ _ _ h, cell_of_row w g 4 _ _ _ h⟩,
   frozen_of_row w g 0 _ _ h, frozen_of_row w g 1 _ _ h, frozen_of_row w g 2 _ _ h, frozen_of_row w g 3 _ _ h, frozen_of_row w g 4 _ _ h⟩
theorem heap_set_here {w : World} {g j : Nat} {c : Array Value} {t : TypeId} (h : w.heap[g]? = some (.cells c t)) (u : Value) : (w.setCell ⟨g, j, none⟩ u).heap[g]? = some (.cells (c.setIfInBounds j u) t) := by
  rw [setCell_eq_setRow w g j _ _ (0, 0) _ h]
  exact setRow_heap w g _ _ _ _ h
theorem heap_set_off {w : World} {g k j : Nat} {o : Obj} (h : w.heap[k]? = some o) (hne : k ≠ g) (u : Value) : (w.setCell ⟨g, j, none⟩ u).heap[k]? = some o := by
  have hc : Chg (fun i => i = g) w (w.setCell ⟨g, j, none⟩ u) := Chg.setCell (S := fun i => i = g) (Chg.refl _ w) (p := ⟨g, j, none⟩) (fun _ => rfl) _
  exact hc.heap h hne
/-- A struct of five cells is written whole. -/
theorem heap_fill5 {w : World} {g : Nat} {d0 d1 d2 d3 d4 : Value} {t : TypeId} (h : w.heap[g]? = some (.cells #[d0, d1, d2, d3, d4] t)) (c0 c1 c2 c3 c4 : Value) :
    (((((w.setCell ⟨g, 0, none⟩ c0).setCell ⟨g, 1, none⟩ c1).setCell ⟨g, 2, none⟩ c2).setCell ⟨g, 3, none⟩ c3).setCell ⟨g, 4, none⟩ c4).heap[g]? = some (.cells #[c0, c1, c2, c3, c4] t) :=
  heap_set_here (heap_set_here (heap_set_here (heap_set_here (heap_set_here h c0) c1) c2) c3) c4
theorem RdK.set_new {R g j : Nat} {a w : World} (h : RdK R a w) (hg : a.heap.size ≤ g) (u : Value) : RdK R a (w.setCell ⟨g, j, none⟩ u) :=
  Chg.setCell (S := fun k => k = R) (p := ⟨g, j, none⟩) h (fun hlt => absurd hlt (Nat.not_lt.2 hg)) u
theorem RdK.drew {R : Nat} {a w : World} (h : RdK R a w) : RdK R a w.drew := Chg.drew h
theorem RdK.grown {R : Nat} {a w w' : World} {row : Option Nat} (h : RdK R a w) (hg : w.grownBy w' row) (hr : ∀ k, row = some k → a.heap.size ≤ k) (ha : a.heap.size ≤ w.heap.size) : RdK R a w' :=
  ⟨hg.os.trans h.os, hg.tape.trans h.tape, hg.output.trans h.output, Nat.le_trans ha hg.size, fun k hk hne => (hg.block k (Nat.lt_of_lt_of_le hk ha) (fun e => absurd (hr k e.symm) (Nat.not_le.2 hk))).trans (Chg.block h k hk hne)⟩
theorem RdAt.set_off {N R g j : Nat} {w : World} {src : List UInt8} (h : RdAt N w R src) (hN : N ≤ g) (hne : R ≠ g) (u : Value) : RdAt N (w.setCell ⟨g, j, none⟩ u) R src := by
  refine h.keep ((Below.refl N w).setCell (p := ⟨g, j, none⟩) hN u) ?_
  obtain ⟨a, c, h1, -⟩ := h.ex
  exact (heap_set_off h1 hne u).trans h1.symm
theorem RdAt.grown {N R : Nat} {w w' : World} {row : Option Nat} {src : List UInt8} (h : RdAt N w R src) (hg : w.grownBy w' row) (hr : ∀ k, row = some k → R < k) : RdAt N w' R src :=
  h.keep ((Below.refl N w).grown hg (Nat.le_trans h.ge (Nat.le_of_lt h.lt)) fun k hk => Nat.le_trans h.ge (Nat.le_of_lt (hr k hk))) (hg.block R h.lt fun e => Nat.lt_irrefl _ (hr R e.symm))
/-- A variable of five cells is written whole, the reader stays. -/
theorem RdAt.fill5 {N R g : Nat} {w : World} {src : List UInt8} (h : RdAt N w R src) (hN : N ≤ g) (hne : R ≠ g) (c0 c1 c2 c3 c4 : Value) :
    RdAt N (((((w.setCell ⟨g, 0, none⟩ c0).setCell ⟨g, 1, none⟩ c1).setCell ⟨g, 2, none⟩ c2).setCell ⟨g, 3, none⟩ c3).setCell ⟨g, 4, none⟩ c4) R src :=
  ((((h.set_off hN hne _).set_off hN hne _).set_off hN hne _).set_off hN hne _).set_off hN hne _
theorem RdK.fill5 {R g : Nat} {a w : World} (h : RdK R a w) (hg : a.heap.size ≤ g) (c0 c1 c2 c3 c4 : Value) :
    RdK R a (((((w.setCell ⟨g, 0, none⟩ c0).setCell ⟨g, 1, none⟩ c1).setCell ⟨g, 2, none⟩ c2).setCell ⟨g, 3, none⟩ c3).setCell ⟨g, 4, none⟩ c4) :=
  ((((h.set_new hg _).set_new hg _).set_new hg _).set_new hg _).set_new hg _
theorem Tryz.RdPost.err {α : Type} {N R : Nat} {w w' : World} {res : Rdd α} {ok : α → Ending → World → Prop} {c : Int} (h : res = .error c) (hk : RdK R w w') : Tryz.RdPost N w R res ok (Tryz.dies c) w' := by
  subst h
  exact ⟨hk, rfl⟩
theorem Tryz.RdPost.made {α : Type} {N R : Nat} {w w' : World} {res : Rdd α} {ok : α → Ending → World → Prop} {e : Ending} {x : α} {r : List UInt8} (h : res = .ok (x, r)) (hk : RdK R w w') (ho : ok x e w') (hr : RdAt N w' R r) : Tryz.RdPost N w R res ok e w' := by
  subst h
  exact ⟨hk, ho, hr⟩
/-- How a function ends whose result is a variable of five cells. -/
theorem bodyPost_five {fn : Func} {Q : Ending → World → Prop} {a : Act} {w : World} (g : Nat) (c0 c1 c2 c3 c4 : Value) (hres : fn.results = #[.cell 2 49])
    (h2 : a.tmps.getD 2 undef = .pointer (some ⟨g, 0, none⟩)) (hd : a.defers = []) (hw : w.heap[g]? = some (.cells #[c0, c1, c2, c3, c4] 49))
    (hQ : Q (.returned (.agg #[c0, c1, c2, c3, c4])) w) : bodyPost Tryz.prog fn Q .ret a w := by
  obtain ⟨⟨d0, d1, d2, d3, d4⟩, -⟩ := five_cells hw
  have h2' : a.tmps[2]?.getD undef = .pointer (some ⟨g, 0, none⟩) := by simpa using h2
  refine bodyPost_ret (v := .agg #[c0, c1, c2, c3, c4]) ?_ hd hQ
  simp [results, hres, go_sem, h2', d0, d1, d2, d3, d4]
set_option maxRecDepth 100000 in
set_option maxHeartbeats 4000000 in
theorem rval_none {N R : Nat} {w : World} (h : RdAt N w R []) :
    Calls Tryz.prog 47 #[.pointer (some ⟨R, 0, none⟩)] w fun e w' => RdK R w w' ∧ e = Tryz.dies 5 := by
  obtain ⟨A, hA⟩ : ∃ A, w.alloc (.cells #[.int .i64 0, .string ⟨#[]⟩, .slice none 0 0, .slice none 0 0, .slice none 0 0] 49) = A := ⟨_, rfl⟩
  have hbA : Below w.heap.size w A := by rw [← hA]; exact (Below.refl _ _).alloc (Nat.le_refl _) _
  have HT := Lib.hid (take_none (h.below hbA))
  have HB := Lib.hid (RdK.of_below (R := R) hbA)
  clear h hbA
  go_enter Tryz.func47, Tryz.ntmps47
  go_wp2_with (go_at_call 44; refine HT.out.mono ?_; rintro e w1 ⟨hb1, rfl⟩; have HB1 := Lib.hid (HB.out.trans hb1); clear hb1)
  exact ⟨rfl, HB1.out, rfl⟩
set_option maxRecDepth 100000 in
set_option maxHeartbeats 4000000 in
theorem rval_kind {N R : Nat} {w : World} {c : UInt8} {src : List UInt8} (h : RdAt N w R (c :: src)) (hc : ¬ (1 ≤ c.toNat ∧ c.toNat ≤ 5)) :
    Calls Tryz.prog 47 #[.pointer (some ⟨R, 0, none⟩)] w fun e w' => RdK R w w' ∧ e = Tryz.dies 290 := by
  obtain ⟨A, hA⟩ : ∃ A, w.alloc (.cells #[.int .i64 0, .string ⟨#[]⟩, .slice none 0 0, .slice none 0 0, .slice none 0 0] 49) = A := ⟨_, rfl⟩
  have hbA : Below w.heap.size w A := by rw [← hA]; exact (Below.refl _ _).alloc (Nat.le_refl _) _
  have HT := Lib.hid (take_one (h.below hbA))
  have HB := Lib.hid (RdK.of_below (R := R) hbA)
  have hcl := c.toNat_lt
  obtain ⟨cn, hcn⟩ : ∃ cn, c.toNat = cn := ⟨_, rfl⟩
  rw [hcn] at hc hcl
  have HCN := Lib.hid hcn
  clear h hbA hcn
  by_cases h1 : 1 ≤ cn
  · have h5 : decide ((cn : Int) ≤ 5) = false := decide_eq_false (by omega)
    have h1' : (1 : Int) ≤ (cn : Int) := by omega
    go_enter Tryz.func47, Tryz.ntmps47
    go_wp2_with (first
      | (go_at_call 44; refine HT.out.mono ?_; rintro e w1 ⟨hb1, x, cx, rfl, hx, hR1⟩; have HB1 := Lib.hid (HB.out.trans hb1); have HR1 := Lib.hid hR1; rw [HCN.out] at hx; clear hb1 hR1)
      | (go_at_call 43; refine (must_any _ _ _).mono ?_; rintro e w2 ⟨rfl, rfl⟩))
    exact ⟨rfl, (HB1.out.trans (RdK.of_below ((Below.refl _ w1).alloc (Nat.le_refl _) _))), rfl⟩
  · have h1' : ¬ (1 : Int) ≤ (cn : Int) := by omega
    have h1b : decide ((1 : Int) ≤ (cn : Int)) = false := decide_eq_false h1'
    clear h1
    go_enter Tryz.func47, Tryz.ntmps47
    go_wp2_with (first
      | (go_at_call 44; refine HT.out.mono ?_; rintro e w1 ⟨hb1, x, cx, rfl, hx, hR1⟩; have HB1 := Lib.hid (HB.out.trans hb1); have HR1 := Lib.hid hR1; rw [HCN.out] at hx; clear hb1 hR1)
      | (go_at_call 43; refine (must_any _ _ _).mono ?_; rintro e w2 ⟨rfl, rfl⟩))
    exact ⟨rfl, (HB1.out.trans (RdK.of_below ((Below.refl _ w1).alloc (Nat.le_refl _) _))), rfl⟩
theorem numR_lt {src r : List UInt8} {least most n : Nat} (h : numR least most src = .ok (n, r)) : least ≤ n ∧ n ≤ most := by
  unfold numR at h
  split at h
  · cases h
  · split at h
    · rename_i h2; cases h; exact h2
    · cases h
set_option maxRecDepth 100000 in
set_option maxHeartbeats 4000000 in
theorem rval_text {N R : Nat} {w : World} {src : List UInt8} (h : RdAt N w R (1 :: src)) :
    Calls Tryz.prog 47 #[.pointer (some ⟨R, 0, none⟩)] w (Tryz.RdPost N w R (textR src) fun s e w' => e = .returned (.agg #[.int .i64 1, .string ⟨s.toArray⟩, .slice none 0 0, .slice none 0 0, .slice none 0 0])) := by
  obtain ⟨A, hA⟩ : ∃ A, w.alloc (.cells #[.int .i64 0, .string ⟨#[]⟩, .slice none 0 0, .slice none 0 0, .slice none 0 0] 49) = A := ⟨_, rfl⟩
  have hbA : Below w.heap.size w A := by rw [← hA]; exact (Below.refl _ _).alloc (Nat.le_refl _) _
  have hX : A.heap[w.heap.size]? = some (.cells #[.int .i64 0, .string ⟨#[]⟩, .slice none 0 0, .slice none 0 0, .slice none 0 0] 49) := by rw [← hA]; exact heap_alloc_new w _
  have HT := Lib.hid (take_one (h.below hbA))
  have HB := Lib.hid (RdK.of_below (R := R) hbA)
  have HRR := Lib.hid h.lt
  have HX := Lib.hid hX
  have HN := Lib.hid h.ge
  clear h hbA hX
  go_enter Tryz.func47, Tryz.ntmps47
  go_upto_region 2 with (go_at_call 44; refine HT.out.mono ?_; rintro e w1 ⟨hb1, x, cx, rfl, hx, hR1⟩; have HB1 := Lib.hid (HB.out.trans hb1); have HR1 := Lib.hid hR1; have HX1 := Lib.hid ((hb1.block (Array.getElem?_eq_some_iff.1 HX.out).1 (Nat.ne_of_gt HRR.out)).trans HX.out)
                         rw [show (((1 : UInt8).toNat : Nat) : Int) = 1 from rfl] at hx
                         have HZ1 := Lib.hid hb1.size
                         clear hb1 hR1)
  obtain ⟨W, hW⟩ : ∃ W, w1.alloc (.cells #[.int .i64 1, .string ⟨#[]⟩, .slice none 0 0, .slice none 0 0, .slice none 0 0] 49) = W := ⟨_, rfl⟩
  have hY : W.heap[w1.heap.size]? = some (.cells #[.int .i64 1, .string ⟨#[]⟩, .slice none 0 0, .slice none 0 0, .slice none 0 0] 49) := by rw [← hW]; exact heap_alloc_new w1 _
  have hbW : Below w1.heap.size w1 W := by rw [← hW]; exact (Below.refl _ _).alloc (Nat.le_refl _) _
  have HR2 := Lib.hid (HR1.out.below hbW)
  rw [hW]
  obtain ⟨T3, hT3⟩ : ∃ T3, w1.heap.size = T3 := ⟨_, rfl⟩
  rw [hT3] at hY ⊢
  have y0 := cell_of_row W T3 0 _ _ _ hY
  have HBW := Lib.hid (HB1.out.trans (RdK.of_below hbW))
  have hw3 : w.heap.size < T3 := by rw [← hT3]; have h1 := HZ1.out; have h2 := (Array.getElem?_eq_some_iff.1 HX.out).1; omega
  have hWX := (hbW.block _ (Array.getElem?_eq_some_iff.1 HX1.out).1).trans HX1.out
  have HTX := Lib.hid (rtext_any HR2.out (Nat.le_trans HN.out (Nat.le_trans (Nat.le_of_lt HRR.out) (by have := (Array.getElem?_eq_some_iff.1 hY).1; omega))))
  cases ht : textR src with
  | error c =>
    rw [ht] at HTX
    go_wp2_with (first
      | (go_at_call 43; refine (must_any _ _ _).mono ?_; rintro e wm ⟨rfl, rfl⟩)
      | (go_at_call 46; refine HTX.out.mono ?_; rintro e w2 ⟨hb2, rfl⟩; have HB2 := Lib.hid (HBW.out.trans hb2); clear hb2))
    exact ⟨rfl, .err ht HB2.out⟩
  | ok q =>
    obtain ⟨s, r⟩ := q
    rw [ht] at HTX
    have HTE := Lib.hid ht
    have HF := Lib.hid (And.intro hY hWX)
    have hRB : R < w.heap.size := HRR.out
    have hNB : N ≤ w.heap.size := Nat.le_trans HN.out (Nat.le_of_lt hRB)
    clear hY hWX hbW hW ht
    go_wp2_with (first
      | (go_at_call 43; refine (must_any _ _ _).mono ?_; rintro e wm ⟨rfl, rfl⟩)
      | (go_at_call 46; refine HTX.out.mono ?_; rintro e w2 ⟨hb2, rfl, hR3⟩
         have h3 := (hb2.block (Array.getElem?_eq_some_iff.1 HF.out.1).1 (Nat.ne_of_gt (Nat.lt_trans HRR.out hw3))).trans HF.out.1
         have h2 := (hb2.block (Array.getElem?_eq_some_iff.1 HF.out.2).1 (Nat.ne_of_gt HRR.out)).trans HF.out.2
         have HB2 := Lib.hid (HBW.out.trans hb2)
         have HR3 := Lib.hid hR3
         have H2 := Lib.hid h2
         have H3 := Lib.hid h3
         obtain ⟨⟨a0, a1, a2, a3, a4⟩, b0, b1, b2, b3, b4⟩ := five_cells h3
         obtain ⟨⟨d0, d1, d2, d3, d4⟩, e0, e1, e2, e3, e4⟩ := five_cells h2
         clear hb2 hR3 h2 h3))
    refine bodyPost_five w.heap.size _ _ _ _ _ Tryz.results47 rfl rfl (heap_fill5 (heap_set_off H2.out (Nat.ne_of_lt hw3) _) _ _ _ _ _) ?_
    exact .made HTE.out ((HB2.out.set_new (Nat.le_of_lt hw3) _).fill5 (Nat.le_refl _) _ _ _ _ _) rfl ((HR3.out.set_off (Nat.le_trans hNB (Nat.le_of_lt hw3)) (Nat.ne_of_lt (Nat.lt_trans hRB hw3)) _).fill5 hNB (Nat.ne_of_lt hRB) _ _ _ _ _)
end Go.Proofs.YteiklgbjjmlmaaaGreat
