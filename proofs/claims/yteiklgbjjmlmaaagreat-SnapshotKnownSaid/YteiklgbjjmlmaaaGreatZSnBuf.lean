
/- Plain laws on the sum over bytes: the step on one bit, on one byte, on a list. -/
import Derived.WalkKit
import Derived.Test.YteiklgbjjmlmaaaGreatZMem
import Derived.Deep.RegionHeld3
import Derived.Deep.AppendLies
import Derived.Test.YteiklgbjjmlmaaaGreatZBytes
import Derived.Lib.AppendStr
namespace Pantry.Crc
open Go
def top : Nat := 18446744073709551616
def poly : Nat := 14514072000185962306
def bit (r : Nat) : Nat := if r % 2 = 1 then (r / 2) ^^^ poly else r / 2
def iter : Nat → Nat → Nat
  | 0, r => r
  | j + 1, r => bit (iter j r)
def byte (r c : Nat) : Nat := iter 8 (r ^^^ c)
def start : Nat := 18446744073709551615
def run (l : List Nat) : Nat := l.foldl byte start
def flip (r : Nat) : Nat := start ^^^ r
def sum (l : List Nat) : Nat := flip (run l)

theorem xor_lt {a b : Nat} (ha : a < top) (hb : b < top) : a ^^^ b < top :=
  Nat.xor_lt_two_pow (n := 64) ha hb
theorem bit_lt {r : Nat} (h : r < top) : bit r < top := by
  unfold bit
  have h2 : r / 2 < top := by omega
  split
  · exact xor_lt h2 (by decide)
  · exact h2
theorem iter_lt {r : Nat} (h : r < top) : ∀ j, iter j r < top
  | 0 => h
  | j + 1 => bit_lt (iter_lt h j)
theorem byte_lt {r c : Nat} (h : r < top) (hc : c < 256) : byte r c < top :=
  iter_lt (xor_lt h (Nat.lt_trans hc (by decide))) 8
theorem run_snoc (l : List Nat) (c : Nat) : run (l ++ [c]) = byte (run l) c := by simp [run]
theorem run_lt : ∀ (l : List Nat), (∀ c ∈ l, c < 256) → run l < top := by
  intro l h
  suffices ∀ (l : List Nat) (r : Nat), (∀ c ∈ l, c < 256) → r < top → l.foldl byte r < top from this l start h (by decide)
  intro l
  induction l with
  | nil => intro r _ hr; exact hr
  | cons a l ih => intro r h hr; exact ih _ (fun c hc => h c (by simp [hc])) (byte_lt hr (h a (by simp)))

theorem xor_int {a b : Nat} (ha : a < top) (hb : b < top) : bits .xor .u64 (a : Int) (b : Int) = ((a ^^^ b : Nat) : Int) := bits_xor_u64_nat a b ha hb
theorem and_int {a b : Nat} (ha : a < top) (hb : b < top) : bits .and .u64 (a : Int) (b : Int) = ((a &&& b : Nat) : Int) := bits_and_u64_nat a b ha hb
theorem flip_int {r : Nat} (h : r < top) : bits .xor .u64 IntKind.u64.max (r : Int) = ((flip r : Nat) : Int) := by
  have e : IntKind.u64.max = ((start : Nat) : Int) := by decide
  rw [e]
  exact xor_int (by decide) h
theorem and_one {n : Nat} (h : n < top) : bits .and .u64 (n : Int) 1 = ((n % 2 : Nat) : Int) := by
  have e := and_int (a := n) (b := 1) h (by decide)
  rw [Nat.and_one_is_mod] at e
  exact e
theorem low_one {n : Nat} (h : n < top) (h1 : (bits .and .u64 (n : Int) 1 == 1) = true) :
    bits .xor .u64 ((n : Int) / 2) 14514072000185962306 = ((bit n : Nat) : Int) := by
  rw [and_one h, beq_iff_eq] at h1
  have h3 : n % 2 = 1 := by omega
  have h2 : n / 2 < top := by omega
  have e : ((n : Int) / 2) = ((n / 2 : Nat) : Int) := by omega
  rw [e, bit, if_pos h3]
  exact xor_int h2 (by decide)
theorem low_zero {n : Nat} (h : n < top) (h1 : (bits .and .u64 (n : Int) 1 == 1) = false) :
    ((n : Int) / 2) = ((bit n : Nat) : Int) := by
  rw [and_one h, beq_eq_false_iff_ne] at h1
  have h3 : ¬ n % 2 = 1 := by omega
  have e : ((n : Int) / 2) = ((n / 2 : Nat) : Int) := by omega
  rw [e, bit, if_neg h3]
theorem int_u64 {a b : Int} (h : a = b) : Value.int .u64 a = Value.int .u64 b := by rw [h]
end Pantry.Crc


/- Numbers, eights and texts as bytes of a snapshot: written and read (plain). -/
set_option linter.unusedVariables false
namespace Pantry
open Go

def o8 (n : Nat) : UInt8 := UInt8.ofNat n
theorem o8_nat (n : Nat) : (o8 n).toNat = n % 256 := by simp [o8]
theorem o8_of (c : UInt8) : o8 c.toNat = c := by simp [o8]
theorem o8_eq {n : Nat} {c : UInt8} (h : c.toNat = n) : o8 n = c := by rw [← h, o8_of]
/-- A number, seven bits a byte. -/
def numF : Nat → Nat → List UInt8
  | 0, n => [o8 n]
  | f + 1, n => if n < 128 then [o8 n] else o8 (n % 128 + 128) :: numF f (n / 128)
def numB (n : Nat) : List UInt8 := numF 9 n
def eightB (u : Nat) : List UInt8 := (List.range 8).map fun i => o8 (u / 256 ^ i)
def textB (s : List UInt8) : List UInt8 := numB s.length ++ s
/-- What reading answers: what was read, and what stands behind; or an error. -/
abbrev Rdd (α : Type) := Except Int (α × List UInt8)
/-- The digits of a number, from the k-th on. -/
def rdNum (k acc : Nat) : List UInt8 → Rdd Nat
  | [] => .error 5
  | d :: r =>
    if d.toNat < 128 then if d.toNat = 0 ∧ k ≠ 0 then .error 290 else .ok (acc + d.toNat % 128 * 128 ^ k, r)
    else if k < 8 then rdNum (k + 1) (acc + d.toNat % 128 * 128 ^ k) r else .error 290
def numR (least most : Nat) (b : List UInt8) : Rdd Nat :=
  match rdNum 0 0 b with
  | .error e => .error e
  | .ok (n, r) => if least ≤ n ∧ n ≤ most then .ok (n, r) else .error 290
def takeR (n : Nat) (b : List UInt8) : Rdd (List UInt8) := if n ≤ b.length then .ok (b.take n, b.drop n) else .error 5
def textR (b : List UInt8) : Rdd (List UInt8) :=
  match numR 0 1048576 b with
  | .error e => .error e
  | .ok (n, r) => takeR n r
def leN : List UInt8 → Nat
  | [] => 0
  | c :: l => c.toNat + 256 * leN l
def eightR (b : List UInt8) : Rdd Nat :=
  match takeR 8 b with
  | .error e => .error e
  | .ok (l, r) => .ok (leN l, r)

/-- Reading takes just what writing made. -/
structure Exact {α : Type} (rd : List UInt8 → Rdd α) (wr : α → List UInt8) (good : α → Prop) : Prop where
  back : ∀ x r, good x → rd (wr x ++ r) = .ok (x, r)
  only : ∀ b x r, rd b = .ok (x, r) → good x ∧ b = wr x ++ r
  short : ∀ x, good x → ∀ k, k < (wr x).length → rd ((wr x).take k) = .error 5

theorem numF_len : ∀ (f n : Nat), (numF f n).length ≤ f + 1
  | 0, n => by simp [numF]
  | f + 1, n => by
    unfold numF
    split
    · simp
    · rw [List.length_cons]
      have := numF_len f (n / 128)
      omega
theorem numB_len (n : Nat) : (numB n).length ≤ 10 := numF_len 9 n
theorem rdNum_back : ∀ (f k acc n : Nat) (r : List UInt8), f + k = 9 → n < 128 ^ f → (k ≠ 0 → n ≠ 0) → rdNum k acc (numF f n ++ r) = .ok (acc + n * 128 ^ k, r)
  | 0, k, acc, n, r, hf, hn, h0 => by
    have : n = 0 := by simpa using hn
    exact absurd this (h0 (by omega))
  | f + 1, k, acc, n, r, hf, hn, h0 => by
    unfold numF
    by_cases h : n < 128
    · rw [if_pos h]
      have hd : (o8 n).toNat = n := by rw [o8_nat]; omega
      simp only [List.cons_append, List.nil_append, rdNum, hd]
      rw [if_pos h, if_neg (by rintro ⟨h1, h2⟩; exact h0 h2 h1), Nat.mod_eq_of_lt h]
    · rw [if_neg h]
      have hd : (o8 (n % 128 + 128)).toNat = n % 128 + 128 := by rw [o8_nat]; omega
      simp only [List.cons_append, rdNum, hd]
      have hk : k < 8 := by
        refine Nat.lt_of_not_le fun h8 => h ?_
        have : f = 0 := by omega
        subst this
        simpa using hn
      rw [if_neg (by omega), if_pos hk]
      have hlt : n / 128 < 128 ^ f := by
        rw [Nat.div_lt_iff_lt_mul (by decide)]
        rwa [Nat.pow_succ] at hn
      rw [rdNum_back f (k + 1) _ (n / 128) r (by omega) hlt (fun _ => by omega)]
      congr 2
      have e : (n % 128 + 128) % 128 = n % 128 := by omega
      rw [e, Nat.pow_succ, Nat.add_assoc]
      congr 1
      have h2 := Nat.div_add_mod n 128
      calc n % 128 * 128 ^ k + n / 128 * (128 ^ k * 128) = (128 * (n / 128) + n % 128) * 128 ^ k := by
            rw [Nat.add_mul, Nat.add_comm, Nat.mul_comm (128 ^ k) 128, ← Nat.mul_assoc, Nat.mul_comm (n / 128) 128]
        _ = n * 128 ^ k := by rw [h2]
theorem rdNum_only : ∀ (b : List UInt8) (f k acc n : Nat) (r : List UInt8), f + k = 9 → k ≤ 8 → rdNum k acc b = .ok (n, r) → ∃ m, n = acc + m * 128 ^ k ∧ m < 128 ^ f ∧ (k ≠ 0 → m ≠ 0) ∧ b = numF f m ++ r
  | [], f, k, acc, n, r, hf, hk, h => by simp [rdNum] at h
  | d :: b, f, k, acc, n, r, hf, hk, h => by
    obtain ⟨g, rfl⟩ : ∃ g, f = g + 1 := ⟨f - 1, by omega⟩
    have hd256 := d.toNat_lt
    unfold rdNum at h
    by_cases h1 : d.toNat < 128
    · rw [if_pos h1] at h
      by_cases h2 : d.toNat = 0 ∧ k ≠ 0
      · rw [if_pos h2] at h; cases h
      · rw [if_neg h2, Nat.mod_eq_of_lt h1] at h
        cases h
        refine ⟨d.toNat, rfl, ?_, fun hk0 h0 => h2 ⟨h0, hk0⟩, ?_⟩
        · exact Nat.lt_of_lt_of_le h1 (by rw [Nat.pow_succ]; exact Nat.le_mul_of_pos_left _ (Nat.pow_pos (by decide)))
        · unfold numF
          rw [if_pos h1, o8_of]; rfl
    · rw [if_neg h1] at h
      by_cases h3 : k < 8
      · rw [if_pos h3] at h
        obtain ⟨m, rfl, hm, hm0, rfl⟩ := rdNum_only b g (k + 1) _ n r (by omega) (by omega) h
        have hm1 : m ≠ 0 := hm0 (by omega)
        have hdm : (d.toNat % 128 + m * 128) / 128 = m := by omega
        have hdr : (d.toNat % 128 + m * 128) % 128 = d.toNat % 128 := by omega
        refine ⟨d.toNat % 128 + m * 128, ?_, ?_, fun _ => by omega, ?_⟩
        · rw [Nat.add_mul, Nat.add_assoc, Nat.pow_succ, Nat.mul_comm (128 ^ k) 128, ← Nat.mul_assoc]
        · rw [Nat.pow_succ]; omega
        · rw [numF, if_neg (by omega), hdm, hdr]
          have : d = o8 (d.toNat % 128 + 128) := (o8_eq (by omega)).symm
          rw [List.cons_append, ← this]
      · rw [if_neg h3] at h; cases h
theorem rdNum_short : ∀ (f k acc n j : Nat), f + k = 9 → n < 128 ^ f → (k ≠ 0 → n ≠ 0) → j < (numF f n).length → rdNum k acc ((numF f n).take j) = .error 5
  | f, k, acc, n, 0, hf, hn, h0, hj => by simp [rdNum]
  | 0, k, acc, n, j + 1, hf, hn, h0, hj => by simp [numF] at hj
  | f + 1, k, acc, n, j + 1, hf, hn, h0, hj => by
    unfold numF at hj ⊢
    by_cases h : n < 128
    · rw [if_pos h] at hj; simp at hj
    · rw [if_neg h] at hj ⊢
      have hd : (o8 (n % 128 + 128)).toNat = n % 128 + 128 := by rw [o8_nat]; omega
      simp only [List.take_succ_cons, rdNum, hd]
      have hk : k < 8 := by
        refine Nat.lt_of_not_le fun h8 => h ?_
        have : f = 0 := by omega
        subst this
        simpa using hn
      rw [if_neg (by omega), if_pos hk]
      have hlt : n / 128 < 128 ^ f := by
        rw [Nat.div_lt_iff_lt_mul (by decide)]
        rwa [Nat.pow_succ] at hn
      exact rdNum_short f (k + 1) _ (n / 128) j (by omega) hlt (fun _ => by omega) (by simpa using hj)
theorem num_exact (least most : Nat) (hm : most < 9223372036854775808) : Exact (numR least most) numB (fun n => least ≤ n ∧ n ≤ most) where
  back n r h := by
    have := rdNum_back 9 0 0 n r rfl (by show n < 9223372036854775808; omega) (by simp)
    unfold numR numB
    rw [this]
    simp [h.1, h.2]
  only b n r h := by
    unfold numR at h
    cases hr : rdNum 0 0 b with
    | error e => rw [hr] at h; cases h
    | ok p =>
      obtain ⟨m, r'⟩ := p
      rw [hr] at h
      simp only at h
      split at h
      · rename_i hl
        cases h
        obtain ⟨m, rfl, -, -, hb⟩ := rdNum_only b 9 0 0 _ r rfl (by decide) hr
        exact ⟨hl, by simpa [numB] using hb⟩
      · cases h
  short n h k hk := by
    unfold numR numB
    rw [rdNum_short 9 0 0 n k rfl (by show n < 9223372036854775808; omega) (by simp) hk]

theorem takeR_app (l r : List UInt8) : takeR l.length (l ++ r) = .ok (l, r) := by
  unfold takeR
  rw [if_pos (by simp), List.take_left' rfl, List.drop_left' rfl]
theorem takeR_app' {n : Nat} {l : List UInt8} (h : l.length = n) (r : List UInt8) : takeR n (l ++ r) = .ok (l, r) := by subst h; exact takeR_app l r
theorem takeR_only {n : Nat} {b l r : List UInt8} (h : takeR n b = .ok (l, r)) : l.length = n ∧ b = l ++ r := by
  unfold takeR at h
  split at h
  · rename_i hn
    cases h
    exact ⟨by simp; omega, (List.take_append_drop n b).symm⟩
  · cases h
theorem takeR_short {n : Nat} {b : List UInt8} (h : b.length < n) : takeR n b = .error 5 := by unfold takeR; rw [if_neg (by omega)]
theorem take_cut {α : Type} {l r : List α} {k : Nat} (h : l.length ≤ k) : (l ++ r).take k = l ++ r.take (k - l.length) := by
  rw [List.take_append, List.take_of_length_le h]
theorem take_in {α : Type} {l r : List α} {k : Nat} (h : k < l.length) : (l ++ r).take k = l.take k := by
  rw [List.take_append, show k - l.length = 0 by omega]; simp
theorem text_exact : Exact textR textB (fun s => s.length ≤ 1048576) where
  back s r h := by
    unfold textR textB
    rw [List.append_assoc, (num_exact 0 1048576 (by decide)).back s.length _ ⟨Nat.zero_le _, h⟩]
    exact takeR_app s r
  only b s r h := by
    unfold textR at h
    cases hr : numR 0 1048576 b with
    | error e => rw [hr] at h; cases h
    | ok p =>
      obtain ⟨n, r'⟩ := p
      rw [hr] at h
      obtain ⟨hl, hb⟩ := (num_exact 0 1048576 (by decide)).only b n r' hr
      obtain ⟨h1, h2⟩ := takeR_only h
      exact ⟨by omega, by unfold textB; rw [List.append_assoc, hb, h2, h1]⟩
  short s h k hk := by
    unfold textR textB
    unfold textB at hk
    by_cases h1 : k < (numB s.length).length
    · rw [take_in h1, (num_exact 0 1048576 (by decide)).short s.length ⟨Nat.zero_le _, h⟩ k h1]
    · rw [take_cut (by omega), (num_exact 0 1048576 (by decide)).back s.length _ ⟨Nat.zero_le _, h⟩]
      exact takeR_short (by rw [List.length_append] at hk; rw [List.length_take]; omega)

theorem leN_lt : ∀ (l : List UInt8), leN l < 256 ^ l.length
  | [] => by simp [leN]
  | c :: l => by
    have h1 := leN_lt l
    have h2 := c.toNat_lt
    simp only [leN, List.length_cons, Nat.pow_succ]
    omega
def eightF : Nat → Nat → List UInt8
  | 0, _ => []
  | k + 1, u => o8 u :: eightF k (u / 256)
theorem eightF_map : ∀ (k u : Nat), eightF k u = (List.range k).map fun i => o8 (u / 256 ^ i)
  | 0, u => rfl
  | k + 1, u => by
    rw [eightF, eightF_map k, List.range_succ_eq_map]
    simp only [List.map_cons, Nat.pow_zero, Nat.div_one, List.map_map]
    congr 1
    refine List.map_congr_left fun i _ => ?_
    show o8 (u / 256 / 256 ^ i) = o8 (u / 256 ^ (i + 1))
    rw [Nat.div_div_eq_div_mul, Nat.pow_succ, Nat.mul_comm 256]
theorem eightB_eq (u : Nat) : eightB u = eightF 8 u := (eightF_map 8 u).symm
theorem eightB_len (u : Nat) : (eightB u).length = 8 := by simp [eightB]
theorem leN_eightF : ∀ (k u : Nat), u < 256 ^ k → leN (eightF k u) = u
  | 0, u, h => by simp at h; subst h; rfl
  | k + 1, u, h => by
    rw [eightF, leN, o8_nat, leN_eightF k (u / 256) (by rw [Nat.div_lt_iff_lt_mul (by decide)]; rwa [Nat.pow_succ] at h)]
    omega
theorem eightF_leN : ∀ (l : List UInt8), eightF l.length (leN l) = l
  | [] => rfl
  | c :: l => by
    have h2 := c.toNat_lt
    rw [List.length_cons, eightF, leN]
    have e1 : (c.toNat + 256 * leN l) / 256 = leN l := by omega
    have e2 : o8 (c.toNat + 256 * leN l) = c := by
      rw [← UInt8.toNat_inj, o8_nat]; omega
    rw [e1, e2, eightF_leN l]
theorem eight_exact : Exact eightR eightB (fun u => u < 18446744073709551616) where
  back u r h := by
    unfold eightR
    rw [takeR_app' (eightB_len u), eightB_eq]
    simp only [leN_eightF 8 u h]
  only b u r h := by
    unfold eightR at h
    cases hr : takeR 8 b with
    | error e => rw [hr] at h; cases h
    | ok p =>
      obtain ⟨l, r'⟩ := p
      rw [hr] at h
      cases h
      obtain ⟨h1, h2⟩ := takeR_only hr
      have h3 := leN_lt l
      have h4 := eightF_leN l
      rw [h1] at h3 h4
      exact ⟨h3, by rw [eightB_eq, h4]; exact h2⟩
  short u h k hk := by
    unfold eightR
    rw [takeR_short (by rw [List.length_take]; rw [eightB_len] at *; omega)]
end Pantry


/- Parsers in a row: one behind another, many (plain). -/
set_option linter.unusedVariables false
namespace Pantry
open Go

/-- One thing, then another one that may hang on it. -/
def seqR {α β : Type} (r1 : List UInt8 → Rdd α) (r2 : α → List UInt8 → Rdd β) (b : List UInt8) : Rdd (α × β) :=
  match r1 b with
  | .error e => .error e
  | .ok (x, r) => match r2 x r with
    | .error e => .error e
    | .ok (y, r') => .ok ((x, y), r')
theorem seqR_ok {α β : Type} {r1 : List UInt8 → Rdd α} {r2 : α → List UInt8 → Rdd β} {b r : List UInt8} {x : α} (h : r1 b = .ok (x, r)) :
    seqR r1 r2 b = match r2 x r with | .error e => .error e | .ok (y, r') => .ok ((x, y), r') := by unfold seqR; rw [h]
theorem seq_exact {α β : Type} {r1 : List UInt8 → Rdd α} {r2 : α → List UInt8 → Rdd β} {w1 : α → List UInt8} {w2 : α → β → List UInt8} {g1 : α → Prop} {g2 : α → β → Prop}
    (h1 : Exact r1 w1 g1) (h2 : ∀ x, g1 x → Exact (r2 x) (w2 x) (g2 x)) : Exact (seqR r1 r2) (fun p => w1 p.1 ++ w2 p.1 p.2) (fun p => g1 p.1 ∧ g2 p.1 p.2) where
  back p r h := by
    unfold seqR
    rw [List.append_assoc, h1.back p.1 _ h.1]
    simp only [(h2 p.1 h.1).back p.2 r h.2]
  only b p r h := by
    unfold seqR at h
    cases hr : r1 b with
    | error e => rw [hr] at h; cases h
    | ok q =>
      obtain ⟨x, r'⟩ := q
      rw [hr] at h
      simp only at h
      cases hr2 : r2 x r' with
      | error e => rw [hr2] at h; cases h
      | ok q =>
        obtain ⟨y, r2'⟩ := q
        rw [hr2] at h
        cases h
        obtain ⟨k1, rfl⟩ := h1.only b x r' hr
        obtain ⟨k2, rfl⟩ := (h2 x k1).only r' y r hr2
        exact ⟨⟨k1, k2⟩, by simp⟩
  short p h k hk := by
    unfold seqR
    by_cases hk1 : k < (w1 p.1).length
    · rw [take_in hk1, h1.short p.1 h.1 k hk1]
    · rw [take_cut (by omega), h1.back p.1 _ h.1]
      simp only
      rw [(h2 p.1 h.1).short p.2 h.2 _ (by rw [List.length_append] at hk; omega)]
/-- The same told otherwise. -/
theorem Exact.map {α β : Type} {rd : List UInt8 → Rdd α} {wr : α → List UInt8} {good : α → Prop} (h : Exact rd wr good) (f : α → β) (g : β → α) (hfg : ∀ x, good x → g (f x) = x)
    (rd' : List UInt8 → Rdd β) (wr' : β → List UInt8) (good' : β → Prop) (hr : ∀ b, rd' b = match rd b with | .error e => .error e | .ok (x, r) => .ok (f x, r)) (hw : ∀ y, good' y → wr' y = wr (g y))
    (hg : ∀ y, good' y → good (g y) ∧ f (g y) = y) (hg' : ∀ x, good x → good' (f x)) : Exact rd' wr' good' where
  back y r hy := by
    rw [hr, hw y hy, h.back _ r (hg y hy).1]
    simp only [(hg y hy).2]
  only b y r hb := by
    rw [hr] at hb
    cases hq : rd b with
    | error e => rw [hq] at hb; cases hb
    | ok q =>
      obtain ⟨x, r'⟩ := q
      rw [hq] at hb
      cases hb
      obtain ⟨k1, k2⟩ := h.only b x r hq
      exact ⟨hg' x k1, by rw [hw _ (hg' x k1), hfg x k1]; exact k2⟩
  short y hy k hk := by
    rw [hw y hy] at hk ⊢
    rw [hr, h.short _ (hg y hy).1 k hk]
def manyR {α : Type} (rd : List UInt8 → Rdd α) : Nat → List UInt8 → Rdd (List α)
  | 0, b => .ok ([], b)
  | n + 1, b => match rd b with
    | .error e => .error e
    | .ok (x, r) => match manyR rd n r with
      | .error e => .error e
      | .ok (l, r') => .ok (x :: l, r')
theorem many_exact {α : Type} {rd : List UInt8 → Rdd α} {wr : α → List UInt8} {good : α → Prop} (h : Exact rd wr good) (n : Nat) : Exact (manyR rd n) (fun l => l.flatMap wr) (fun l => l.length = n ∧ ∀ x ∈ l, good x) where
  back l r hl := by
    obtain ⟨rfl, hg⟩ := hl
    induction l with
    | nil => rfl
    | cons x l ih =>
      simp only [List.flatMap_cons, List.append_assoc, List.length_cons, manyR]
      rw [h.back x _ (hg x List.mem_cons_self)]
      simp only [ih fun y hy => hg y (List.mem_cons_of_mem _ hy)]
  only b l r hb := by
    induction n generalizing b l with
    | zero => cases hb; exact ⟨⟨rfl, by simp⟩, rfl⟩
    | succ n ih =>
      unfold manyR at hb
      cases hq : rd b with
      | error e => rw [hq] at hb; cases hb
      | ok q =>
        obtain ⟨x, r'⟩ := q
        rw [hq] at hb
        simp only at hb
        cases hq2 : manyR rd n r' with
        | error e => rw [hq2] at hb; cases hb
        | ok q =>
          obtain ⟨l', r2⟩ := q
          rw [hq2] at hb
          cases hb
          obtain ⟨k1, rfl⟩ := h.only b x r' hq
          obtain ⟨⟨k2, k3⟩, rfl⟩ := ih r' l' hq2
          refine ⟨⟨by simp [k2], fun y hy => ?_⟩, by simp⟩
          rcases List.mem_cons.1 hy with rfl | hy
          · exact k1
          · exact k3 y hy
  short l hl k hk := by
    obtain ⟨rfl, hg⟩ := hl
    induction l generalizing k with
    | nil => simp at hk
    | cons x l ih =>
      simp only [List.flatMap_cons, List.length_cons, manyR, List.length_append] at hk ⊢
      by_cases h1 : k < (wr x).length
      · rw [take_in h1, h.short x (hg x List.mem_cons_self) k h1]
      · rw [take_cut (by omega), h.back x _ (hg x List.mem_cons_self)]
        simp only
        rw [ih (k - (wr x).length) (by omega) fun y hy => hg y (List.mem_cons_of_mem _ hy)]
/-- One more, behind those that were read. -/
theorem manyR_snoc {α : Type} (rd : List UInt8 → Rdd α) : ∀ (n : Nat) (b : List UInt8), manyR rd (n + 1) b = match manyR rd n b with
    | .error e => .error e
    | .ok (l, r) => match rd r with
      | .error e => .error e
      | .ok (x, r') => .ok (l ++ [x], r')
  | 0, b => by
    simp only [manyR]
    cases rd b with
    | error e => rfl
    | ok q => obtain ⟨x, r⟩ := q; rfl
  | n + 1, b => by
    rw [manyR]
    cases hq : rd b with
    | error e => simp only [manyR, hq]
    | ok q =>
      obtain ⟨x, r⟩ := q
      simp only [manyR, hq]
      have ih := manyR_snoc rd n r
      rw [manyR] at ih
      rw [ih]
      cases hq2 : manyR rd n r with
      | error e => rfl
      | ok q =>
        obtain ⟨l, r2⟩ := q
        simp only
        cases rd r2 with
        | error e => rfl
        | ok q => obtain ⟨y, r3⟩ := q; simp
theorem manyR_err {α : Type} (rd : List UInt8 → Rdd α) (b : List UInt8) (e : Int) : ∀ (m k : Nat), manyR rd m b = .error e → manyR rd (m + k) b = .error e
  | m, 0, h => h
  | m, k + 1, h => by
    rw [← Nat.add_assoc, manyR_snoc, manyR_err rd b e m k h]
end Pantry


/- An append of one element within a region that draws its order. -/
namespace Pantry
open Go Go.RowKit
theorem grownBy_drew_first {w w' : World} {row : Option Nat} (h : w.drew.grownBy w' row) : w.grownBy w' row := ⟨h.os, h.tape, h.output, h.size, h.block⟩
end Pantry


/- A row of bytes of the call's own that may have begun as []byte(s): appended to, byte by byte and by strings (general). -/
set_option linter.unusedVariables false
namespace Pantry
open Go Go.RowKit

/-- v is a row of bytes l of the call's own; what is frozen of its block lies behind the row. -/
def OwnB (w : World) (base : Nat) (e : TypeId) (v : Value) (l : List UInt8) : Prop :=
  (v = .slice none 0 0 ∧ l = []) ∨ ∃ g cap cur fz, v = .slice (some ⟨g, 0, none⟩) l.length cap ∧ base ≤ g ∧ w.heap[g]? = some (.cells cur e fz) ∧ (fz = (0, 0) ∨ cap ≤ fz.1) ∧ l.length ≤ cap ∧ cap ≤ maxLen ∧ cur.size = cap ∧
    cur.toList.take l.length = b8 l
theorem OwnB.keep {w w' : World} {base : Nat} {e : TypeId} {v : Value} {l : List UInt8} (h : OwnB w base e v l) (hb : ∀ k, v.ownBlock = some k → k < w.heap.size → w'.heap[k]? = w.heap[k]?) : OwnB w' base e v l := by
  rcases h with h | ⟨g, cap, cur, fz, rfl, h1, h2, h3⟩
  · exact .inl h
  · exact .inr ⟨g, cap, cur, fz, rfl, h1, (hb g rfl (Array.getElem?_eq_some_iff.1 h2).1).trans h2, h3⟩
theorem OwnB.lt {w : World} {base : Nat} {e : TypeId} {v : Value} {l : List UInt8} (h : OwnB w base e v l) : ∀ k, v.ownBlock = some k → base ≤ k ∧ k < w.heap.size := by
  intro k hk
  rcases h with ⟨rfl, -⟩ | ⟨g, cap, cur, fz, rfl, h1, h2, h3⟩
  · cases hk
  · cases hk
    exact ⟨h1, (Array.getElem?_eq_some_iff.1 h2).1⟩
theorem OwnB.type {w : World} {base : Nat} {e : TypeId} {v : Value} {l : List UInt8} (h : OwnB w base e v l) {k : Nat} (hk : v.ownBlock = some k) : ∃ c fz, w.heap[k]? = some (.cells c e fz) := by
  rcases h with ⟨rfl, -⟩ | ⟨g, cap, cur, fz, rfl, h1, h2, -⟩
  · cases hk
  · cases hk
    exact ⟨_, _, h2⟩
theorem OwnB.row {w : World} {base : Nat} {e : TypeId} {v : Value} {l : List UInt8} (h : OwnB w base e v l) (hl : l ≠ []) : ∃ g cap n, v = .slice (some ⟨g, 0, none⟩) n cap ∧ n = l.length := by
  rcases h with ⟨-, h0⟩ | ⟨g, cap, cur, fz, rfl, -⟩
  · exact absurd h0 hl
  · exact ⟨g, cap, _, rfl, rfl⟩
theorem OwnB.sl {w : World} {base : Nat} {e : TypeId} {v : Value} {l : List UInt8} (h : OwnB w base e v l) : ∃ a n cap, v = .slice a n cap := by
  rcases h with ⟨h0, -⟩ | ⟨g, cap, cur, fz, rfl, -⟩
  · exact ⟨_, _, _, h0⟩
  · exact ⟨_, _, _, rfl⟩
theorem OwnB.below {w w' : World} {base : Nat} {e : TypeId} {v : Value} {l : List UInt8} (h : OwnB w base e v l) (hb : Below w.heap.size w w') : OwnB w' base e v l := h.keep fun k _ hk => hb.block k hk
theorem OwnB.val {w : World} {base : Nat} {e : TypeId} {v : Value} {l : List UInt8} (h : OwnB w base e v l) : ∃ a c, v = .slice a l.length c ∧ Rd w a (b8 l) ∧ (a = none → c = 0) := by
  rcases h with ⟨rfl, rfl⟩ | ⟨g, cap, cur, fz, rfl, h1, h2, h3, h4, h5, h6, h7⟩
  · exact ⟨none, 0, rfl, Rd.nil _ _, fun _ => rfl⟩
  · refine ⟨_, cap, rfl, fun j u hu => ⟨b8_one l u (List.mem_of_getElem? hu), _, rfl, ?_⟩, fun h => by cases h⟩
    rw [Addr.add_base, cell_of_row w g j cur e fz h2]
    rw [← h7, List.getElem?_take] at hu
    split at hu
    · simpa using hu
    · cases hu
theorem run_storeX (P : Program) (g o : Nat) (t : TypeId) (fz : Nat × Nat) : ∀ (vs : List Value) (i : Nat) (cur : Array Value) (w : World), w.heap[g]? = some (.cells cur t fz) → (∀ j, o + i ≤ j → j < o + i + vs.length → ¬ (fz.1 ≤ j ∧ j < fz.2)) →
    o + i + vs.length ≤ cur.size → (∀ v ∈ vs, v.oneCell' = true) → (storeCells ⟨g, o, none⟩ vs i).run P w = .ok () (w.setRow g (cur.toList.take (o + i) ++ vs ++ cur.toList.drop (o + i + vs.length)).toArray)
  | [], i, cur, w, hg, _, _, _ => by
    rw [List.append_nil, List.length_nil, Nat.add_zero, List.take_append_drop, Array.toArray_toList, setRow_self w g cur t fz hg]
    rfl
  | v :: vs, i, cur, w, hg, hfz, hl, h1 => by
    rw [List.length_cons] at hl hfz
    have hi : o + i < cur.size := by omega
    have hst : (store ((⟨g, o, none⟩ : Addr).add i) v).run P w = .ok () (w.setRow g (cur.setIfInBounds (o + i) v)) := by
      have hcell : w.cell? ⟨g, o + i, none⟩ = some cur[o + i] := by rw [cell_of_row w g (o + i) cur t fz hg]; exact Array.getElem?_eq_getElem hi
      have hfro : w.frozen? ⟨g, o + i, none⟩ = false := by
        have := hfz (o + i) (Nat.le_refl _) (by omega)
        obtain ⟨lo, hi2⟩ := fz
        simp only [World.frozen?, hg]
        simp at this ⊢
        omega
      rw [Addr.add_lit, run_store P w _ v _ (h1 v List.mem_cons_self), hcell]
      simp [hfro, setCell_eq_setRow w g (o + i) cur t fz v hg]
    have ih := run_storeX P g o t fz vs (i + 1) (cur.setIfInBounds (o + i) v) (w.setRow g (cur.setIfInBounds (o + i) v)) (setRow_heap w g cur _ t _ hg) (fun j h2 h3 => hfz j (by omega) (by omega)) (by rw [Array.size_setIfInBounds]; omega)
      fun x hx => h1 x (List.mem_cons_of_mem _ hx)
    have e := list_seg_step cur.toList (o + i) v vs (by rw [Array.length_toList]; omega)
    simp only [storeCells, Sem.run_bind, hst, Result.andThen_ok, ih, setRow_setRow]
    rw [List.length_cons]
    congr 3
    simpa [Array.toList_setIfInBounds, Nat.add_assoc] using e

section
variable {P : Program} {t u e : TypeId} {i : TypeInfo}
/-- Of what type the bytes are. -/
structure BytesT (P : Program) (t e : TypeId) : Prop where
  under : P.underlying t = some (.slice e)
  info : ∃ i, P.info? e = some i ∧ i.size = 1 ∧ i.bytes = 1 ∧ i.zero = some (.int .u8 0)
theorem b8_str (l : List UInt8) : Lib.strCells ⟨l.toArray⟩ = b8 l := by simp [Lib.strCells, b8]
theorem take_room {cur : List Value} {l k : List UInt8} (h : cur.take l.length = b8 l) (hl : l.length + k.length ≤ cur.length) :
    (cur.take l.length ++ b8 k ++ cur.drop (l.length + k.length)).take (l ++ k).length = b8 (l ++ k) := by
  rw [h, ← b8_append, List.take_left' (b8_length _)]
/-- append(v, k...) with bytes that are read. -/
theorem run_appendB (hT : BytesT P t e) (ty : TypeId) {w : World} {base : Nat} {v : Value} {l k : List UInt8} (h : OwnB w base e v l) {a : Addr} {m c : Nat} (hm : k.length = m) (hk : Rd w (some a) (b8 k)) (hb : l.length + m ≤ 140737488355328) (hbase : base ≤ w.heap.size) :
    ∃ v' w', (Builtin.append_ #[t, t] ty #[v, .slice (some a) m c]).run P w = .ok v' w' ∧ OwnB w' base e v' (l ++ k) ∧ w.grownBy w' v.ownBlock := by
  obtain ⟨i, hi, hs1, hby, hz⟩ := hT.info
  subst hm
  have hnews : ∀ j u, (b8 k)[j]? = some u → w.cell? (a.add j) = some u := fun j u hu => by
    obtain ⟨-, x, hx, hc⟩ := hk j u hu
    cases hx; exact hc
  have hlk : (l ++ k).length = l.length + k.length := List.length_append
  rcases h with ⟨rfl, rfl⟩ | ⟨g, cap, cur, fz, rfl, h1, h2, h3, h4, h5, h6, h7⟩
  · obtain ⟨v', w', r1, r2, r3, r4⟩ := run_append_own (P := P) w base t ty e i (.int .u8 0) 1 1 hT.under hi hz hs1 hby rfl (by decide) (.slice none 0 0) 0 [] ⟨rfl, .inl ⟨rfl, rfl⟩⟩ a k.length c (b8 k) (by rw [b8_length, Nat.mul_one]) hnews (b8_one k) (by unfold maxLen; simp at hb; omega) (by simpa using hb) hbase
    refine ⟨v', w', r1, ?_, r3⟩
    rcases r2.2 with ⟨rfl, h0⟩ | ⟨g, cap, cur, rfl, q1, q2, q3, q4, q5, q6⟩
    · have : k = [] := List.length_eq_zero_iff.1 (by omega)
      subst this
      exact .inl ⟨rfl, rfl⟩
    · refine .inr ⟨g, cap, cur, (0, 0), by simp, q1, q2, .inl rfl, by simpa using q3, q4, by simpa using q5, by simpa using q6⟩
  · by_cases hroom : l.length + k.length ≤ cap
    · have hroom2 : l.length + k.length ≤ cur.toList.length := by
        have hcz : cur.toList.length = cap := h6
        omega
      have hf := run_firstCells_some (P := P) w i.size k.length a k.length c (b8 k) (by rw [b8_length, hs1, Nat.mul_one]) hnews
      rw [hs1] at hf
      have hst := run_storeX P g (l.length * i.size) e fz (b8 k) 0 cur w h2 (fun j q1 q2 q3 => by
        rw [hs1, b8_length] at q2
        rcases h3 with rfl | h3
        · simp at q3
        · omega) (by rw [b8_length, hs1]; omega) (b8_one k)
      simp only [Nat.add_zero] at hst
      refine ⟨.slice (some ⟨g, 0, none⟩) (l.length + k.length) cap, w.setRow g (cur.toList.take l.length ++ b8 k ++ cur.toList.drop (l.length + k.length)).toArray, ?_, ?_, ?_⟩
      · rw [hs1, b8_length, Nat.mul_one] at hst
        simp [Builtin.append_, run_underlying hT.under, Go.sizeOf, typeInfo, hi, Builtin.lenOf, hroom, hf, Addr.add_lit, hst, hs1]
      · refine .inr ⟨g, cap, _, fz, by rw [hlk], h1, setRow_heap w g cur _ e _ h2, h3, by rw [hlk]; exact hroom, h5, ?_, take_room (cur := cur.toList) (l := l) (k := k) h7 hroom2⟩
        simp only [List.size_toArray, List.length_append, List.length_take, List.length_drop, Array.length_toList, b8_length]
        omega
      · exact ⟨rfl, rfl, rfl, by simp, fun j _ hj => setRow_other w g j _ fun e => hj (by simp [Value.ownBlock, e])⟩
    · have holds : ∀ j u, (b8 l)[j]? = some u → w.cell? ((⟨g, 0, none⟩ : Addr).add j) = some u := fun j u hu => by
        rw [Addr.add_base, cell_of_row w g j cur e fz h2]
        rw [← h7, List.getElem?_take] at hu
        split at hu
        · simpa using hu
        · cases hu
      have hr := run_append_grow (P := P) w t ty e i (.int .u8 0) hT.under hi hz ⟨g, 0, none⟩ l.length cap (b8 l) (by rw [b8_length, hs1, Nat.mul_one]) holds a k.length c (b8 k) (by rw [b8_length, hs1, Nat.mul_one]) hnews (by omega) (by omega) (growslice_fits (by omega) (by rw [hby]; omega))
      have hge := grownCap_ge w (l.length + k.length) cap e
      have hcm2 : grownCap w (l.length + k.length) cap e ≤ maxLen := grownCap_le_maxLen w (l.length + k.length) cap e (by unfold maxLen; omega)
      refine ⟨_, _, hr, .inr ⟨w.heap.size, _, _, (0, 0), by rw [hlk], hbase, heap_alloc_new w.drew _, .inl rfl, by rw [hlk]; exact hge, hcm2, ?_, ?_⟩, rfl, rfl, rfl, by simp, fun j hj _ => Below.heap_alloc w.drew _ j hj⟩
      · have hz1 : (Value.int IntKind.u8 0).cells.size = 1 := rfl
        simp only [Array.size_append, List.size_toArray, size_zeroCells, hz1, b8_length]
        omega
      · simp only [Array.toList_append, List.append_assoc]
        rw [← List.append_assoc, ← b8_append, List.take_left' (b8_length _)]
/-- append(v, s...) with a string. -/
theorem run_appendS (hT : BytesT P t e) (hu : P.underlying u = some .string) (ty : TypeId) {w : World} {base : Nat} {v : Value} {l k : List UInt8} (h : OwnB w base e v l) (hb : l.length + k.length ≤ 140737488355328) (hbase : base ≤ w.heap.size) :
    ∃ v' w', (Builtin.append_ #[t, u] ty #[v, .string ⟨k.toArray⟩]).run P w = .ok v' w' ∧ OwnB w' base e v' (l ++ k) ∧ w.grownBy w' v.ownBlock := by
  obtain ⟨i, hi, hs1, hby, hz⟩ := hT.info
  have hlk : (l ++ k).length = l.length + k.length := List.length_append
  have hks : (⟨k.toArray⟩ : ByteArray).size = k.length := by simp [ByteArray.size]
  rcases h with ⟨rfl, rfl⟩ | ⟨g, cap, cur, fz, rfl, h1, h2, h3, h4, h5, h6, h7⟩
  · obtain ⟨v', w', r1, r2, r3, r4⟩ := Lib.run_append_own_string (P := P) w base t u ty e i hT.under hu hi hz hs1 hby (.slice none 0 0) 0 [] ⟨rfl, .inl ⟨rfl, rfl⟩⟩ ⟨k.toArray⟩ (by rw [hks]; unfold maxLen; simp at hb; omega) (by rw [hks]; simpa using hb) hbase
    refine ⟨v', w', r1, ?_, r3⟩
    rw [hks, b8_str] at r2
    rcases r2.2 with ⟨rfl, h0⟩ | ⟨g, cap, cur, rfl, q1, q2, q3, q4, q5, q6⟩
    · have : k = [] := List.length_eq_zero_iff.1 (by omega)
      subst this
      exact .inl ⟨rfl, rfl⟩
    · refine .inr ⟨g, cap, cur, (0, 0), by simp, q1, q2, .inl rfl, by simpa using q3, q4, by simpa using q5, by simpa using q6⟩
  · by_cases hroom : l.length + k.length ≤ cap
    · have hroom2 : l.length + k.length ≤ cur.toList.length := by
        have hcz : cur.toList.length = cap := h6
        omega
      have hf := Lib.run_firstCells_string (P := P) w 1 ⟨k.toArray⟩
      rw [hks, b8_str] at hf
      have hst := run_storeX P g l.length e fz (b8 k) 0 cur w h2 (fun j q1 q2 q3 => by
        rw [b8_length] at q2
        rcases h3 with rfl | h3
        · simp at q3
        · omega) (by rw [b8_length]; omega) (b8_one k)
      simp only [Nat.add_zero] at hst
      refine ⟨.slice (some ⟨g, 0, none⟩) (l.length + k.length) cap, w.setRow g (cur.toList.take l.length ++ b8 k ++ cur.toList.drop (l.length + k.length)).toArray, ?_, ?_, ?_⟩
      · rw [b8_length] at hst
        simp [Builtin.append_, run_underlying hT.under, run_underlying hu, Go.sizeOf, typeInfo, hi, Builtin.lenOf, hks, hroom, hf, Addr.add_lit, hst, hs1]
      · refine .inr ⟨g, cap, _, fz, by rw [hlk], h1, setRow_heap w g cur _ e _ h2, h3, by rw [hlk]; exact hroom, h5, ?_, take_room (cur := cur.toList) (l := l) (k := k) h7 hroom2⟩
        simp only [List.size_toArray, List.length_append, List.length_take, List.length_drop, Array.length_toList, b8_length]
        omega
      · exact ⟨rfl, rfl, rfl, by simp, fun j _ hj => setRow_other w g j _ fun e => hj (by simp [Value.ownBlock, e])⟩
    · have holds : ∀ j u, (b8 l)[j]? = some u → w.cell? ((⟨g, 0, none⟩ : Addr).add j) = some u := fun j u hu => by
        rw [Addr.add_base, cell_of_row w g j cur e fz h2]
        rw [← h7, List.getElem?_take] at hu
        split at hu
        · simpa using hu
        · cases hu
      have hr := Lib.run_append_grow_string (P := P) w t u ty e i (.int .u8 0) hT.under hu hi hz ⟨g, 0, none⟩ l.length cap (b8 l) (by rw [b8_length, hs1, Nat.mul_one]) holds ⟨k.toArray⟩ (by rw [hks]; omega) (by rw [hks]; omega) (by rw [hby, hks]; exact growslice_fits (by omega) (by omega))
      rw [hks, b8_str] at hr
      have hge := grownCap_ge w (l.length + k.length) cap e
      have hcm2 : grownCap w (l.length + k.length) cap e ≤ maxLen := grownCap_le_maxLen w (l.length + k.length) cap e (by unfold maxLen; omega)
      refine ⟨_, _, hr, .inr ⟨w.heap.size, _, _, (0, 0), by rw [hlk], hbase, heap_alloc_new w.drew _, .inl rfl, by rw [hlk]; exact hge, hcm2, ?_, ?_⟩, rfl, rfl, rfl, by simp, fun j hj _ => Below.heap_alloc w.drew _ j hj⟩
      · have hz1 : (Value.int IntKind.u8 0).cells.size = 1 := rfl
        simp only [Array.size_append, List.size_toArray, size_zeroCells, hz1, b8_length]
        omega
      · simp only [Array.toList_append, List.append_assoc]
        rw [← List.append_assoc, ← b8_append, List.take_left' (b8_length _)]
end
end Pantry
