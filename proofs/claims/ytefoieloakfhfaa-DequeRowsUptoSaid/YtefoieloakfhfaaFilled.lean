/- The law's filled: so many texts of one byte. -/
import Derived.Test.YtefoieloakfhfaaQueuesP
namespace Go.Proofs.Ytefoieloakfhfaa
open Go.RowKit Pantry

/-- n texts of one byte, pushed behind. -/
def fillC : Nat → List (List Txt)
  | 0 => []
  | k + 1 => pushC false [UInt8.ofNat k] (fillC k)
theorem total_push (a : Bool) (s : Txt) (cs : List (List Txt)) : total (pushC a s cs) = total cs + 1 := by
  rw [← flatten_length, push_row, ← flatten_length cs]
  cases a <;> simp
theorem fillC_total (k : Nat) : total (fillC k) = k := by
  induction k with
  | zero => rfl
  | succ k ih => rw [fillC, total_push, ih]
theorem byteRd (w : World) {k : Nat} (hk : k < 256) : Rd (w.alloc (.cells #[.int .u8 (k : Int)] 5)) (some ⟨w.heap.size, 0, none⟩) (b8 [UInt8.ofNat k]) := by
  have h := Rd.new w #[.int .u8 (k : Int)] 5 (0, 0) (by simp [Value.oneCell'])
  have e : b8 [UInt8.ofNat k] = [.int .u8 (k : Int)] := by
    simp only [b8, List.map_cons, List.map_nil]
    rw [UInt8.toNat_ofNat_of_lt' (by simpa using hk)]
  rw [e]; exact h
theorem wrap_byte {k : Nat} (hk : k < 256) : IntKind.u8.wrap (k : Int) = (k : Int) := by
  simp only [IntKind.wrap, IntKind.signed, IntKind.bits]
  simp; omega

set_option maxHeartbeats 4000000 in
set_option maxRecDepth 100000 in
theorem filled_any (n : Nat) (hn : n ≤ 200) (w : World) : Calls Try.prog 24 #[.int .i64 n] w fun e w' => ∃ d, e = .returned (.pointer (some ⟨d, 0, none⟩)) ∧ w.heap.size ≤ d ∧ Dq w w' d (fillC n) := by
  have HN := Lib.hid (Dq.new w)
  go_enter Try.func24, Try.ntmps24
  go_wp2_with (go_at_call 10; refine HN.out.mono ?_; rintro e w1 ⟨rfl, hd1, -⟩; have HD1 := Lib.hid hd1; clear hd1)
  go_loopw [7] (fun i wr => ∃ k : Nat, k ≤ n ∧ i = .int .i64 k ∧ Hid (Dq w wr w.heap.size (fillC k))) (fun i _ => n - (intOf i).toNat)
  case atStart => exact ⟨0, Nat.zero_le _, rfl, HD1⟩
  case round =>
    obtain ⟨k, hk, rfl, HD⟩ := hrel
    by_cases hlt : k < n
    · have hw8 := wrap_byte (k := k) (by omega)
      have HRD := Lib.hid (byteRd wr (k := k) (by omega))
      have HP := Lib.hid ((HD.out.quiet ((Chg.refl _ wr).alloc (.cells #[.int .u8 (k : Int)] 5))).push false (s := [UInt8.ofNat k]) (by simp) (by rw [fillC_total]; omega))
      go_wp2_with (first
        | (refine wpl_string_of Try.underlying36 Try.underlying5 Try.underlying9 rfl _ rfl [UInt8.ofNat k] rfl rfl HRD.out ?_)
        | (go_at_call 11; refine HP.out.mono ?_; clear HP; rintro e w2 ⟨rfl, hd2, -⟩; have HD2 := Lib.hid hd2; clear hd2))
      go_roundw
      case rel => exact ⟨k + 1, by omega, by go_num, HD2⟩
      case measure => simp [intOf]; omega
    · obtain rfl : k = n := by omega
      go_wp2_with fail
      go_ret
      exact ⟨_, rfl, Nat.le_refl _, HD.out⟩
theorem costOf_flat (cs : List (List Txt)) : costOf cs = (cs.flatten.map fun x => 16 + x.length).sum := by
  induction cs with
  | nil => rfl
  | cons c cs ih =>
    rw [List.flatten_cons, List.map_append, List.sum_append, ← ih]
    simp [costOf]
theorem total_flat {cs : List (List Txt)} {l : List Txt} (h : cs.flatten = l) : total cs = l.length := by rw [← flatten_length, h]
theorem sum_replicate (k : Nat) : ((List.replicate k ([] : Txt)).map fun x => 16 + x.length).sum = 16 * k := by
  induction k with
  | zero => rfl
  | succ k ih => rw [List.replicate_succ, List.map_cons, List.sum_cons, ih]; simp; omega
theorem Dq.pushFull {w0 w : World} {d : Nat} {cs : List (List Txt)} (h : Dq w0 w d cs) (a : Bool) {s : Txt} (hs : s.length ≤ 1048576) (ht : 1048576 ≤ total cs) :
    Calls Try.prog 11 #[.pointer (some ⟨d, 0, none⟩), .bool a, .string ⟨s.toArray⟩] w fun e w' => e = .returned (.int .i64 4) ∧ w = w' :=
  h.stay fun v gs hd => push_full w d v gs cs a s hd hs ht
theorem Dq.insFull {w0 w : World} {d : Nat} {cs : List (List Txt)} (h : Dq w0 w d cs) {i : Int} (hi : 0 ≤ i ∧ i ≤ (total cs : Int)) {s : Txt} (hs : s.length ≤ 1048576) (ht : 1048576 ≤ total cs) :
    Calls Try.prog 15 #[.pointer (some ⟨d, 0, none⟩), .int .i64 i, .string ⟨s.toArray⟩] w fun e w' => e = .returned (.int .i64 4) ∧ w = w' :=
  h.stay fun v gs hd => ins_refused w d v gs cs i _ 4 hd hi rfl (refused_full w d v gs cs s hd hs ht)
theorem Dq.insArg {w0 w : World} {d : Nat} {cs : List (List Txt)} (h : Dq w0 w d cs) {i : Int} (hi : i < 0 ∨ (total cs : Int) < i) (s : ByteArray) :
    Calls Try.prog 15 #[.pointer (some ⟨d, 0, none⟩), .int .i64 i, .string s] w fun e w' => e = .returned (.int .i64 3) ∧ w = w' :=
  h.stay fun v gs hd => ins_arg w d v gs cs i s hd hi
theorem total_ins {cs : List (List Txt)} (hg : DGood cs) {i : Nat} (hi : i ≤ total cs) (s : Txt) : total (insC i s cs) = total cs + 1 := by
  rw [← flatten_length, insC_row hg hi, ← flatten_length cs]
  have : i ≤ cs.flatten.length := by rw [flatten_length]; exact hi
  simp only [putIn, List.length_append, List.length_take, List.length_drop, List.length_singleton]
  omega
theorem get_zero {cs : List (List Txt)} {k : Nat} (h : cs.flatten = List.replicate k []) (hk : 0 < k) : cs.flatten[popAt true cs]? = some [] := by
  obtain ⟨m, rfl⟩ : ∃ m, k = m + 1 := ⟨k - 1, by omega⟩
  rw [h]; rfl
theorem zeros_b8 (n : Nat) : List.replicate n (Value.int .u8 0) = b8 (List.replicate n 0) := by simp [b8]
theorem u8I : (Try.prog.info? 5).map (fun i => (i.zero, i.size, i.bytes)) = some (some (.int .u8 0), 1, 1) := by kernel_rfl
theorem Dq.at_ {w0 w : World} {d : Nat} {cs : List (List Txt)} (h : Dq w0 w d cs) {i : Nat} {x : Txt} (hx : cs.flatten[i]? = some x) :
    Calls Try.prog 23 #[.pointer (some ⟨d, 0, none⟩), .int .i64 i] w fun e w' => e = .returned (.tuple #[.string ⟨x.toArray⟩, .bool true]) ∧ w = w' :=
  h.stay fun v gs hd => at_in w d v gs cs i x hd h.good.toFits hx
theorem Dq2.of {w0 w w' : World} {d e : Nat} {cs ks : List (List Txt)} (h : Dq w0 w d cs) (k : Dq w w' e ks) : Dq2 w0 w' d cs e ks := by
  obtain ⟨h1, hb, v, gs, hd, hf⟩ := h
  obtain ⟨k1, kb, v2, gs2, kd, kf⟩ := k
  have hc : Chg (fun _ => False) w w' := Chg.of_below kb
  exact ⟨h1, k1, hb.trans (kb.mono hb.size), v, gs, v2, gs2, hd.chg hc fun _ _ e => e, kd, hf, fun j hj => Nat.le_trans hb.size (kf j hj), fun j a b => absurd (hd.lt j a) (by have := kf j b; omega)⟩
theorem Dq2.ins {w0 w : World} {d e : Nat} {cs ks : List (List Txt)} (h : Dq2 w0 w d cs e ks) {i : Nat} (hi : i ≤ total cs) {s : Txt} (hs : s.length ≤ 1048576) (ht : total cs < 1048576) :
    Calls Try.prog 15 #[.pointer (some ⟨d, 0, none⟩), .int .i64 i, .string ⟨s.toArray⟩] w (Dq2Post w0 d (insC i s cs) e ks (.int .i64 0) w) :=
  h.step (h.1.ins hi hs ht) fun v gs hd => ins_ok w d v gs cs i s hd h.1 hi hs ht
end Go.Proofs.Ytefoieloakfhfaa
