/- VerbsLong: too many words, or one that is too long, are refused; at the bounds they are not. No condition. -/
import Derived.Test.YtdoddnnggamaiaaOpenWords
import Derived.Test.YtdoddnnggamaiaaVerbsNames
import Derived.Test.YtdoddnnggamaiaaLent
import Derived.Deep.DeepCutAuto
import Derived.Laws.OwnMore
namespace Pantry
open Go Go.RowKit
/-- That many zero bytes. -/
def zs (n : Nat) : List UInt8 := List.replicate n 0
theorem zs_length (n : Nat) : (zs n).length = n := by simp [zs]
/-- A name, and that many empty texts. -/
def longs (x : List UInt8) (n : Nat) : List (List UInt8) := x :: List.replicate n []
theorem longs_length (x : List UInt8) (n : Nat) : (longs x n).length = n + 1 := by simp [longs]
theorem wpl_make_len {P : Program} {t e : TypeId} {bytes : Nat} {z : Value} (E : ElemT P t e 1 bytes z) {w : World} {ops : Array Oper} {rest : List Oper} {o : Oper} {a : Act} {Q : Exit → Act → World → Prop}
    (hg : o.guard = none) (l c : Operand) (hop : o.op = Op.makeSlice t l c) (hz : z.cells = #[z])
    (kl kc : IntKind) {L C : Int} (n : Nat) (hl : a.eval l = .int kl L) (hc : a.eval c = .int kc C) (hL : L = (n : Int)) (hC : C = (n : Int)) (b2 : bytes * n ≤ 281474976710656)
    (hK : ∀ w', w'.ownsRow w.heap.size e 1 (.slice (some ⟨w.heap.size, 0, none⟩) n n) n (List.replicate n z) → Below w.heap.size w w' → w.heap.size < w'.heap.size → wpList P ops Q rest (a.put o.dst (.slice (some ⟨w.heap.size, 0, none⟩) n n)) w') :
    wpList P ops Q (o :: rest) a w := by
  obtain ⟨i0, hi, hz0, hz1, hz2⟩ := info_parts E.info
  have hnm : n ≤ bytes * n := Nat.le_mul_of_pos_left _ E.bpos
  refine wpList_make_full w hg l c t hop w.heap.size e i0 z 1 E.under hi hz0 hz1 kl kc L C n hl hc hL hC (by rw [hz2]; exact b2) (by unfold maxLen; omega) (Nat.le_refl _) ?_
  intro w' h1 h2
  rw [hz, Nat.mul_one, toList_madeCells_one] at h1
  exact hK w' h1 (grownBy_below (Below.refl _ _) h2 (by simp) (Nat.le_refl _)) (h1.lt _ rfl).2
theorem rep_b8 (n : Nat) : List.replicate n (Value.int .u8 0) = b8 (zs n) := by simp [b8, zs]
theorem rep_txts (n : Nat) : List.replicate n (Value.string ByteArray.empty) = txts (List.replicate n []) := by
  simp only [txts, List.map_replicate]; rfl
theorem longs_set (x y : List UInt8) (n : Nat) : (txts (longs x n)).set 0 (.string ⟨y.toArray⟩) = txts (longs y n) := by simp [longs, txts, txt]
theorem longs_first (y : List UInt8) (m n : Nat) (h : m = n + 1) : (List.replicate m (Value.string ByteArray.empty)).set 0 (.string ⟨y.toArray⟩) = txts (longs y n) := by
  rw [h, List.replicate_succ, List.set_cons_zero, rep_txts]; rfl
namespace Verbs
theorem check_many {l : List (List UInt8)} (h : 1024 < l.length) : (check l).2 = 2 := by
  unfold check
  cases l with
  | nil => simp at h
  | cons x l' => simp only; rw [if_pos (Or.inl h)]
theorem check_long {l : List (List UInt8)} (h : tooLong l = true) (hne : l ≠ []) : (check l).2 = 2 := by
  unfold check
  cases l with
  | nil => exact absurd rfl hne
  | cons x l' => simp only; rw [if_pos (Or.inr h)]
theorem check_is {x : List UInt8} {l : List (List UInt8)} {r : Row} (h1 : (x :: l).length ≤ 1024) (h2 : tooLong (x :: l) = false) (h3 : get all (upL x) = some r) (h4 : ¬ (0 < r.arity ∧ ((x :: l).length : Int) ≠ r.arity)) (h5 : ¬ ((x :: l).length : Int) < - r.arity) : check (x :: l) = (r, 0) := by
  unfold check
  simp only
  rw [if_neg (by rw [h2]; simp at h1 ⊢; omega), h3]
  simp only
  rw [if_neg (by omega)]
theorem get_echo : ∃ r, get all (upL [101, 99, 104, 111]) = some r ∧ r.arity = 2 := by
  have h : ((get all (upL [101, 99, 104, 111])).map fun r => r.arity) = some 2 := by decide +kernel
  cases hg : get all (upL [101, 99, 104, 111]) with
  | none => rw [hg] at h; cases h
  | some r => rw [hg] at h; exact ⟨r, rfl, by simpa using h⟩
theorem get_del : ∃ r, get all (upL [100, 101, 108]) = some r ∧ r.arity = -2 ∧ r.first = 1 ∧ r.last = -1 ∧ r.jump = 1 := by
  have h : ((get all (upL [100, 101, 108])).map fun r => (r.arity, r.first, r.last, r.jump)) = some (-2, 1, -1, 1) := by decide +kernel
  cases hg : get all (upL [100, 101, 108]) with
  | none => rw [hg] at h; cases h
  | some r => rw [hg] at h; refine ⟨r, rfl, ?_⟩; simpa using h
theorem code_echo : (check [[101, 99, 104, 111], zs 1048576]).2 = 0 := by
  obtain ⟨r, h1, h2⟩ := get_echo
  rw [check_is (r := r) (by simp) (by simp [tooLong, longest, total, zs_length]) h1 (by simp; omega) (by simp; omega)]
theorem code_two (x : List UInt8) (m : Nat) (hm : 0 < m) : (check [x, zs (1048576 + m)]).2 = 2 :=
  check_long (by simp [tooLong, longest, zs_length]; omega) (by simp)
theorem code_del3 : (check [[100, 101, 108], zs 1048576, zs 1048576, zs 1048576, zs 1048573]).2 = 0 := by
  obtain ⟨r, h1, h2, -⟩ := get_del
  rw [check_is (r := r) (by simp) (by simp [tooLong, longest, total, zs_length]) h1 (by simp; omega) (by simp; omega)]
theorem code_del2 : (check [[100, 101, 108], zs 1048576, zs 1048576, zs 1048576, zs 1048574]).2 = 2 :=
  check_long (by simp [tooLong, total, zs_length]) (by simp)
theorem fold_max_zero (n : Nat) : ∀ m : Nat, (List.replicate n 0).foldl max m = m := by
  induction n with
  | zero => intro m; rfl
  | succ n ih => intro m; rw [List.replicate_succ, List.foldl_cons, ih]; omega
theorem fold_add_zero (n : Nat) : ∀ m : Nat, (List.replicate n 0).foldl (· + ·) m = m := by
  induction n with
  | zero => intro m; rfl
  | succ n ih => intro m; rw [List.replicate_succ, List.foldl_cons, ih]; omega
theorem tooLong_del (n : Nat) : tooLong (longs [100, 101, 108] n) = false := by
  simp only [tooLong, longs, longest, total, List.map_cons, List.map_replicate, List.length_nil, List.foldl_cons, fold_max_zero, fold_add_zero]
  rfl
theorem check_del : ∃ r, check (longs [100, 101, 108] 1023) = (r, 0) ∧ r.first = 1 ∧ r.last = -1 ∧ r.jump = 1 := by
  obtain ⟨r, h1, h2, h3⟩ := get_del
  obtain ⟨N, hN⟩ : ∃ N : Nat, N = 1023 := ⟨_, rfl⟩
  rw [← hN]
  have hl := longs_length [100, 101, 108] N
  unfold longs at hl ⊢
  exact ⟨r, check_is (r := r) (by rw [hl]; omega) (tooLong_del N) h1 (by omega) (by rw [hl, h2]; omega), h3⟩
theorem keys_del : (keys (longs [100, 101, 108] 1023)).length = 1023 := by
  obtain ⟨r, h1, h2, h3, h4⟩ := check_del
  rw [keys_eq (J := 1) (by rw [h1]) (by rw [h1]; exact h2) (by rw [h1]; exact h4), keysTo_length, h1, longs_length]
  simp only [keyCount, lastOf, h2, h3, h4]
  rfl
end Verbs
end Pantry
namespace Go.Proofs.Ytdoddnnggamaiaa.verbsLong
open Go.RowKit Pantry
open Go.ChangeShapes Go.WideShapes Go.ChangeAt
open Go.ChangeMaps (open_string shut_string)

theorem addr_add0 (y : Addr) : y.add 0 = y := by
  unfold Addr.add
  split <;> simp_all
/-- It returns a row and this code. -/
def CodeIs (c : Int) (w : World) (e : Ending) (w' : World) : Prop := ∃ r : Verbs.Row, e = .returned (.tuple #[rowAgg r, .int .i64 c]) ∧ Below w.heap.size w w'
theorem code_is (a : Option Addr) (n c : Nat) (l : List (List UInt8)) (code : Int) (hc : (Verbs.check l).2 = code) (hn : n ≤ 140737488351232) (w : World) (h : WordsIn w a n l) : Calls Try.prog 24 #[.slice a n c] w (CodeIs code w) :=
  (check_any a n c l w h hn).mono fun e w' ⟨h1, h2⟩ => ⟨(Verbs.check l).1, by rw [h1, hc], h2⟩
/-- It returns a list of n words. -/
def KeysIs (n : Nat) (w : World) (e : Ending) (w' : World) : Prop := ∃ a c, e = .returned (.slice a n c) ∧ Below w.heap.size w w'
theorem keys_is (a : Option Addr) (n c : Nat) (l : List (List UInt8)) (K : Nat) (hK : (Verbs.keys l).length = K) (hn : n ≤ 140737488351232) (w : World) (h : WordsIn w a n l) : Calls Try.prog 26 #[.slice a n c] w (KeysIs K w) :=
  (keys_any a n c l w h hn).mono fun e w' ⟨v, h1, h2, h3⟩ => by
    obtain ⟨a', c', rfl, -⟩ := ownsRow_rd h2 (txts_one _)
    exact ⟨a', c', by rw [h1, hK], h3⟩

theorem words_cell0 {w : World} {base g n c : Nat} (h : w.ownsRow base 9 1 (.slice (some ⟨g, 0, none⟩) n c) n (List.replicate n (.string ByteArray.empty))) (hn : 0 < n) : w.cell? ⟨g, 0, none⟩ = some (.string ByteArray.empty) := by
  rw [h.cellAt 0 (by omega), List.getElem?_replicate, if_pos hn]
theorem longs_ok (x : List UInt8) (n : Nat) (hx : x.length ≤ 140737488351232) : ∀ y ∈ longs x n, y.length ≤ 140737488351232 := by
  intro y hy
  rcases List.mem_cons.1 hy with rfl | hy
  · exact hx
  · rw [(List.mem_replicate.1 hy).2]; simp
theorem words_owned {w : World} {base : Nat} {g n c : Nat} {l : List (List UInt8)} (h : w.ownsRow base 9 1 (.slice (some ⟨g, 0, none⟩) n c) n (txts l)) (hl : ∀ y ∈ l, y.length ≤ 140737488351232) : WordsIn w (some ⟨g, 0, none⟩) n l := by
  obtain ⟨a', c', e1, hrd⟩ := ownsRow_rd h (txts_one _)
  cases e1
  exact ⟨by have := h.1; simpa [txts] using this, hrd, hl⟩

theorem below_step {A W V : World} (h2 : Below W.heap.size W V) (h1 : Below A.heap.size A W) : Below A.heap.size A V := h1.trans (h2.mono h1.size)
theorem bytes_owned {w : World} {base : Nat} {g n c m : Nat} (h : w.ownsRow base 5 1 (.slice (some ⟨g, 0, none⟩) n c) n (List.replicate m (.int .u8 0))) : Rd w (some ⟨g, 0, none⟩) (b8 (zs m)) := by
  rw [rep_b8] at h
  obtain ⟨a', c', e1, hrd⟩ := ownsRow_rd h (b8_one _)
  cases e1
  exact hrd
theorem ok2 {x y : List UInt8} (hx : x.length ≤ 140737488351232) (hy : y.length ≤ 140737488351232) : ∀ z ∈ [x, y], z.length ≤ 140737488351232 := by
  intro z hz
  simp at hz
  rcases hz with rfl | rfl
  · exact hx
  · exact hy
theorem ok5 {x y : List UInt8} (hx : x.length ≤ 1048576) (hy : y.length ≤ 1048576) : ∀ z ∈ [[100, 101, 108], x, x, x, y], z.length ≤ 140737488351232 := by
  intro z hz
  simp at hz
  rcases hz with rfl | rfl | rfl
  · simp
  · omega
  · omega

theorem words_take {w : World} {a : Option Addr} {n k : Nat} {l : List (List UInt8)} (h : WordsIn w a n l) (hk : k ≤ n) : WordsIn w a k (l.take k) :=
  ⟨by rw [List.length_take, h.1]; omega, by have := h.2.1.take k; rwa [show (txts l).take k = txts (l.take k) by simp [txts, List.map_take]] at this, fun x hx => h.2.2 x (List.mem_of_mem_take hx)⟩
theorem longs_take {x : List UInt8} (m n : Nat) (h : m ≤ n) : (longs x n).take (m + 1) = longs x m := by
  simp only [longs, List.take_succ_cons, List.take_replicate]
  rw [Nat.min_eq_left h]
theorem zs_extract (M j : Nat) : (⟨(zs M).toArray⟩ : ByteArray).extract j M = ⟨(zs (M - j)).toArray⟩ := by
  have h := Lib.extract_data ⟨(zs M).toArray⟩ j M
  have h2 : ((⟨(zs M).toArray⟩ : ByteArray).extract j M).data.toList = zs (M - j) := by rw [h]; simp [zs]
  generalize (⟨(zs M).toArray⟩ : ByteArray).extract j M = E at h2 ⊢
  obtain ⟨⟨l⟩⟩ := E
  have h3 : l = zs (M - j) := h2
  rw [h3]

set_option maxHeartbeats 4000000 in
set_option maxRecDepth 100000 in
theorem walk (s : ByteArray) (m : Int) (w : World) (hs : s.size ≤ 140737488351232) :
    Calls Try.prog 9 #[.string s, .int .i64 m] w fun e w' => e = .returned (.bool true) ∧ Below w.heap.size w w' := by
  by_cases hm : m < 1
  all_goals
    go_enter Try.func9, Try.ntmps9
    go_upto_if 26 with fail
    go_cut [1] (fun s1 wx => ∃ k : Nat, s1 = .int .i64 k ∧ 1 ≤ k ∧ k ≤ 100 ∧ Below w.heap.size w wx)
    case first =>
      by_cases h2 : 100 < m
      · go_wp2_with fail
        go_meet
        exact ⟨1, rfl, by omega, by omega, Below.refl _ _⟩
      · go_wp2_with fail
        go_meet
        first | exact ⟨1, rfl, by omega, by omega, Below.refl _ _⟩ | exact ⟨m.toNat, by rw [Int.toNat_of_nonneg (by omega)], by omega, by omega, Below.refl _ _⟩
    case rest =>
      obtain ⟨k, rfl, hk1, hk2, hb0⟩ := hcut
      clear hm
      go_upto_if 29 with fail
      go_cut [0] (fun s0 wx => ∃ x : List UInt8, s0 = .string ⟨x.toArray⟩ ∧ x.length ≤ 1000 ∧ Below w.heap.size w wx)
      case first =>
        by_cases h1 : 1000 < s.size
        · go_wp2_with fail
          go_meet
          exact ⟨[110, 111, 112, 101], rfl, by decide, hb0⟩
        · go_wp2_with fail
          go_meet
          exact ⟨s.data.toList, rfl, by rw [Array.length_toList]; show s.size ≤ _; omega, hb0⟩
      case rest =>
        obtain ⟨x, rfl, hx, hb1⟩ := hcut
        clear hb0 hs
        have HB1 := Lib.hid hb1
        clear hb1
        have tok1 : True := trivial
        go_wp2_with (at_make; have _tok := tok1; refine wpl_make_len Try.textsT rfl _ _ rfl rfl .i64 .i64 (1024 + k) rfl rfl (by simp) (by simp) (by omega) ?_; clear tok1; intro w2 hown2 hb2 hlt2; have c0 := words_cell0 hown2 (by omega); have f0 := hown2.frozenAt 0)
        have hown3 := (hown2.stored 0 (.string ⟨x.toArray⟩)).1
        rw [longs_first x (1024 + k) (1023 + k) (by omega)] at hown3
        clear hown2 c0 f0
        obtain ⟨w3, hw3⟩ : ∃ w3, w2.setCell ⟨wc.heap.size, 0, none⟩ (.string ⟨x.toArray⟩) = w3 := ⟨_, rfl⟩
        have hb3 : Below wc.heap.size wc w3 := by rw [← hw3]; exact hb2.setCell (Nat.le_refl _) _
        have hlt3 : wc.heap.size < w3.heap.size := by rw [← hw3]; simpa using hlt2
        rw [hw3] at hown3 ⊢
        clear hw3 hb2 hlt2
        have HW3 := Lib.hid hb3
        have HOWN3 := Lib.hid hown3
        clear hown3 hb3
        refine (code_is _ _ _ (longs x (1023 + k)) 2 (Verbs.check_many (by rw [longs_length]; omega)) (by omega) _ (words_owned (HOWN3.out) (longs_ok _ _ (by omega)))).mono ?_
        rintro e w4 ⟨r4, rfl, hb4⟩
        rw [rowAgg, rowCells]
        have HB4 := Lib.hid (hb4.alloc hb4.size (.cells #[.string ⟨r4.name.toArray⟩, .int .i64 r4.arity, .int .i64 r4.flags, .int .i64 r4.first, .int .i64 r4.last, .int .i64 r4.jump] 29))
        clear hb4
        obtain ⟨N, hN⟩ : ∃ N : Nat, N = 1048576 + k := ⟨_, rfl⟩
        have hN2 : (1048576 : Int) + (k : Int) = (N : Int) := by omega
        have hN3 : N ≤ 2000000 := by omega
        have HN := Lib.hid hN
        have HN2 := Lib.hid hN2
        clear hN hN2
        go_wp2_with (first
          | (at_make; refine wpl_make_len Try.bytesT rfl _ _ rfl rfl .i64 .i64 N rfl rfl HN2.out HN2.out (by omega) ?_; intro w5 hown5 hb5 hlt5)
          | (refine wpl_string_of Try.underlying22 Try.underlying5 Try.underlying9 rfl _ rfl (zs N) rfl (zs_length _) (bytes_owned hown5) ?_))
        have HB5 := Lib.hid (below_step hb5 HB4.out)
        clear hb5 hlt5 hown5
        refine (code_is _ 2 2 [x, zs N] 2 (by rw [HN.out]; exact Verbs.code_two x k hk1) (by omega) _ (words_new w5 [x, zs N] (ok2 (by omega) (by rw [zs_length]; omega)))).mono ?_
        rintro e w6 ⟨r6, rfl, hb6⟩
        rw [rowAgg, rowCells]
        have HB6 := Lib.hid ((below_step hb6 (HB5.out.alloc HB5.out.size _)).alloc (below_step hb6 (HB5.out.alloc HB5.out.size _)).size (.cells #[.string ⟨r6.name.toArray⟩, .int .i64 r6.arity, .int .i64 r6.flags, .int .i64 r6.first, .int .i64 r6.last, .int .i64 r6.jump] 29))
        clear hb6
        obtain ⟨M, hM⟩ : ∃ M : Nat, M = 1048576 := ⟨_, rfl⟩
        have hM2 : (1048576 : Int) = (M : Int) := by omega
        have hM3 : M ≤ 2000000 := by omega
        have hM4 : 3 ≤ M := by omega
        have HM := Lib.hid hM
        have HM2 := Lib.hid hM2
        clear hM hM2
        go_wp2_with (first
          | (at_make; refine wpl_make_len Try.bytesT rfl _ _ rfl rfl .i64 .i64 M rfl rfl HM2.out HM2.out (by omega) ?_; intro w7 hown7 hb7 hlt7)
          | (refine wpl_string_of Try.underlying22 Try.underlying5 Try.underlying9 rfl _ rfl (zs M) rfl (zs_length _) (bytes_owned hown7) ?_))
        have HB7 := Lib.hid (below_step hb7 HB6.out)
        clear hb7 hlt7 hown7
        refine (code_is _ 2 2 [[101, 99, 104, 111], zs M] 0 (by rw [HM.out]; exact Verbs.code_echo) (by omega) _ (words_new w7 [[101, 99, 104, 111], zs M] (ok2 (by simp) (by rw [zs_length]; omega)))).mono ?_
        rintro e w8 ⟨r8, rfl, hb8⟩
        rw [rowAgg, rowCells]
        have HB8 := Lib.hid ((below_step hb8 (HB7.out.alloc HB7.out.size _)).alloc (below_step hb8 (HB7.out.alloc HB7.out.size _)).size (.cells #[.string ⟨r8.name.toArray⟩, .int .i64 r8.arity, .int .i64 r8.flags, .int .i64 r8.first, .int .i64 r8.last, .int .i64 r8.jump] 29))
        clear hb8
        have hsz : ByteArray.size ⟨(zs M).toArray⟩ = M := by rw [mk_size, zs_length]
        go_wp2_with (first
          | (at_make; refine wpl_make_len Try.bytesT rfl _ _ rfl rfl .i64 .i64 M rfl rfl HM2.out HM2.out (by omega) ?_; intro w9 hown9 hb9 hlt9)
          | (refine wpl_string_of Try.underlying22 Try.underlying5 Try.underlying9 rfl _ rfl (zs M) rfl (zs_length _) (bytes_owned hown9) ?_))
        have HB9 := Lib.hid (below_step hb9 HB8.out)
        clear hb9 hlt9 hown9
        rw [zs_extract]
        refine (code_is _ 5 5 [[100, 101, 108], zs M, zs M, zs M, zs (M - 3)] 0 (by rw [HM.out]; exact Verbs.code_del3) (by omega) _ (words_new w9 [[100, 101, 108], zs M, zs M, zs M, zs (M - 3)] (ok5 (by rw [zs_length, HM.out]; omega) (by rw [zs_length, HM.out]; omega)))).mono ?_
        rintro e w10 ⟨r10, rfl, hb10⟩
        rw [rowAgg, rowCells]
        have HB10 := Lib.hid ((below_step hb10 (HB9.out.alloc HB9.out.size _)).alloc (below_step hb10 (HB9.out.alloc HB9.out.size _)).size (.cells #[.string ⟨r10.name.toArray⟩, .int .i64 r10.arity, .int .i64 r10.flags, .int .i64 r10.first, .int .i64 r10.last, .int .i64 r10.jump] 29))
        clear hb10
        go_wp2_with fail
        rw [zs_extract]
        obtain ⟨w11, hw11⟩ : ∃ x, w10.alloc (.cells #[.string ⟨r10.name.toArray⟩, .int .i64 r10.arity, .int .i64 r10.flags, .int .i64 r10.first, .int .i64 r10.last, .int .i64 r10.jump] 29) = x := ⟨_, rfl⟩
        have hs11 : w11.heap.size = w10.heap.size + 1 := by rw [← hw11]; simp
        have HB11 := Lib.hid (show Below w3.heap.size w3 w11 by rw [← hw11]; exact HB10.out)
        rw [hw11, ← hs11]
        clear hw11 hs11
        refine (code_is _ 5 5 [[100, 101, 108], zs M, zs M, zs M, zs (M - 2)] 2 (by rw [HM.out]; exact Verbs.code_del2) (by omega) _ (words_new w11 [[100, 101, 108], zs M, zs M, zs M, zs (M - 2)] (ok5 (by rw [zs_length, HM.out]; omega) (by rw [zs_length, HM.out]; omega)))).mono ?_
        rintro e w12 ⟨r12, rfl, hb12⟩
        rw [rowAgg, rowCells]
        have HB12 := Lib.hid ((below_step hb12 (HB11.out.alloc HB11.out.size _)).alloc (below_step hb12 (HB11.out.alloc HB11.out.size _)).size (.cells #[.string ⟨r12.name.toArray⟩, .int .i64 r12.arity, .int .i64 r12.flags, .int .i64 r12.first, .int .i64 r12.last, .int .i64 r12.jump] 29))
        clear hb12
        have hown12 := ownsRow_below HOWN3.out HB12.out (by intro k hk; cases hk; exact hlt3)
        have c0 := hown12.cellAt 0 (by omega)
        have f0 := hown12.frozenAt 0
        rw [show (txts (longs x (1023 + k)))[0]? = some (.string ⟨x.toArray⟩) from rfl] at c0
        clear hown12
        go_wp2_with fail
        have hb13 : Below wc.heap.size wc ((w12.alloc (.cells #[.string ⟨r12.name.toArray⟩, .int .i64 r12.arity, .int .i64 r12.flags, .int .i64 r12.first, .int .i64 r12.last, .int .i64 r12.jump] 29)).setCell ⟨wc.heap.size, 0, none⟩ (.string ⟨#[100, 101, 108]⟩)) :=
          (HW3.out.trans (HB12.out.mono (Nat.le_of_lt hlt3))).setCell (Nat.le_refl _) _
        have hown13 := ((ownsRow_below HOWN3.out HB12.out (by intro k hk; cases hk; exact hlt3)).stored 0 (.string ⟨#[100, 101, 108]⟩)).1
        rw [show (txts (longs x (1023 + k))).set 0 (.string ⟨#[100, 101, 108]⟩) = txts (longs [100, 101, 108] (1023 + k)) from longs_set x [100, 101, 108] _] at hown13
        obtain ⟨w13, hw13⟩ : ∃ v, (w12.alloc (.cells #[.string ⟨r12.name.toArray⟩, .int .i64 r12.arity, .int .i64 r12.flags, .int .i64 r12.first, .int .i64 r12.last, .int .i64 r12.jump] 29)).setCell ⟨wc.heap.size, 0, none⟩ (.string ⟨#[100, 101, 108]⟩) = v := ⟨_, rfl⟩
        rw [hw13] at hb13 hown13 ⊢
        have hlt13 : wc.heap.size < w13.heap.size := (hown13.lt _ rfl).2
        clear hw13 c0 f0
        have HW13 := Lib.hid (words_owned hown13 (longs_ok _ _ (by simp)))
        have HB13 := Lib.hid (HB1.out.trans (hb13.mono HB1.out.size))
        clear hown13 hb13
        have HT13 := Lib.hid (show WordsIn w13 (some ⟨wc.heap.size, 0, none⟩) 1024 (longs [100, 101, 108] 1023) by
          have h := words_take (k := 1024) HW13.out (by omega)
          rw [longs_take 1023 (1023 + k) (by omega)] at h
          exact h)
        have hk0 := Verbs.check_del
        obtain ⟨rd, hk1, hk2⟩ := hk0
        refine (code_is _ _ _ (longs [100, 101, 108] 1023) 0 (by rw [hk1]) (by omega) _ HT13.out).mono ?_
        clear hk1 hk2
        rintro e w14 ⟨r14, rfl, hb14⟩
        rw [rowAgg, rowCells]
        have HB14 := Lib.hid (hb14.alloc hb14.size (.cells #[.string ⟨r14.name.toArray⟩, .int .i64 r14.arity, .int .i64 r14.flags, .int .i64 r14.first, .int .i64 r14.last, .int .i64 r14.jump] 29))
        clear hb14
        go_wp2_with fail
        refine (code_is none 0 0 [] 3 rfl (by omega) _ ⟨rfl, Rd.nil _ _, by simp⟩).mono ?_
        rintro e w15 ⟨r15, rfl, hb15⟩
        rw [rowAgg, rowCells]
        have HB15 := Lib.hid ((below_step hb15 HB14.out).alloc (below_step hb15 HB14.out).size (.cells #[.string ⟨r15.name.toArray⟩, .int .i64 r15.arity, .int .i64 r15.flags, .int .i64 r15.first, .int .i64 r15.last, .int .i64 r15.jump] 29))
        clear hb15
        go_wp2_with fail
        refine (keys_is _ _ _ (longs [100, 101, 108] (1023 + k)) 0 (by rw [Verbs.keys_none (Or.inl (by rw [Verbs.check_many (by rw [longs_length]; omega)]; decide))]; rfl) (by omega) _ (HW13.out.below HB15.out)).mono ?_
        rintro e w16 ⟨a16, c16, rfl, hb16⟩
        have HB16 := Lib.hid (below_step hb16 HB15.out)
        clear hb16
        go_wp2_with fail
        refine (keys_is _ _ _ (longs [100, 101, 108] 1023) 1023 Verbs.keys_del (by omega) _ (HT13.out.below HB16.out)).mono ?_
        rintro e w17 ⟨a17, c17, rfl, hb17⟩
        have HB17 := Lib.hid (below_step hb17 HB16.out)
        clear hb17
        go_wp2_with fail
        go_ret
        exact ⟨rfl, HB13.out.trans (HB17.out.mono HB13.out.size)⟩
set_option linter.unusedVariables false

theorem own : ownKnob Try.prog.godebug = none := by kernel_rfl
theorem laidOut : laidOutB Try.prog = true := by kernel_rfl

set_option maxRecDepth 100000 in
theorem lifted (os : Os) (started : os.Started) (H : Type) (enc : TypeId × Value → H) :
    ReturnsInHanded {} Try.checked os 9 .any (Rows.verbsLongSpec.pre6 enc Try.prog Try.f9 Rows.verbsLongRow.domain false) (Rows.verbsLongSpec.post enc Try.prog Try.f9 false true false false) := by
  refine returnsInHanded_of_change_sized (C := Try.checked) own started (by kernel_rfl) Try.func9
    (ChangeSpec.witness6 (enc := enc) (C := Try.checked) false ⟨#[], #[.string ByteArray.empty, .int .i64 0], []⟩ 8 (by kernel_rfl) (by kernel_rfl) (by kernel_rfl) (by kernel_rfl)) ?_
  intro W base args ds gs before hval0 hW hcnd hsz _
  have hval : ∀ (j : Nat) t v, Try.f9.params[j]? = some t → args[j]? = some v → Value.okWide Try.prog W .any base t v := hval0
  have hW' := hW
  obtain ⟨p, q, hA0, hV, rfl, hfz, hnd⟩ := hW
  have hA : DataW.TrodAll enc Try.prog W 0 (fun _ => true) true Try.f9.params.toList args.toList ds p := hA0
  rw [Try.params9] at hA hval hsz
  obtain ⟨v0, vs0, d0, ds0, p0, q0, hargs, rfl, rfl, h0, r0⟩ := trodAll_cons hA
  obtain ⟨v1, vs1, d1, ds1, p1, q1, rfl, rfl, rfl, h1, r1⟩ := trodAll_cons r0
  obtain ⟨rfl, rfl, rfl⟩ := trodAll_nil r1
  obtain rfl : args = #[v0, v1] := by cases args; simp_all
  obtain ⟨rfl, rfl⟩ := trodVars_none hV
  have k0 := h0
  have k1 := h1
  obtain ⟨s, rfl, rfl, rfl, hs⟩ := open_string Try.underlying9 (hval 0 9 v0 rfl rfl) h0
  obtain ⟨n, rfl, rfl, rfl, hwf⟩ := open_int Try.underlying3 (hval 1 3 v1 rfl rfl) h1
  have hs2 : s.size ≤ 140737488351232 := by
    have h2 := reach_arg (j := 0) hsz rfl rfl s.data.toList.length (by simp [DataW.weights])
    unfold reachBytes at h2
    rw [Array.length_toList] at h2
    exact h2
  clear hA0 hval0 hsz
  refine (walk s n W hs2).mono fun e W' ⟨he, bel⟩ => ?_
  subst he
  exact ⟨_, rfl, _, _, _, [], _, [], hW', trodAll_mk1 (shut_bool Try.underlying4 _), (trodAll_cons_mk (Below.trod laidOut (by kernel_rfl) (of_decide_eq_true (by kernel_rfl)) k0 bel (by simp)) (trodAll_cons_mk (Below.trod laidOut (by kernel_rfl) (of_decide_eq_true (by kernel_rfl)) k1 bel (by simp)) trodAll_mk0)), rfl, bel.frame _, fun h => by cases h⟩

theorem over : Rows.verbsLongRow.holds Try.pinned (OpenSpec.ofChange Rows.verbsLongSpec) :=
  OpenClaim.holds_of_wide 9 Try.f9 rfl rfl rfl rfl rfl rfl rfl ⟨rfl, rfl, rfl, rfl, rfl⟩ rfl rfl rfl rfl rfl (by kernel_rfl) Try.func9 (by kernel_rfl)
    (of_decide_eq_true (by kernel_rfl)) (by unfold Func.isWrapper; first | (rw [if_pos (by decide +kernel)]; kernel_rfl) | (rw [if_neg (by decide +kernel)]; exact ⟨rfl, rfl⟩))
    (fun os started H enc _ => lifted os started H enc)

theorem proved : Rows.VerbsLongSaid := over
#print axioms proved

end Go.Proofs.Ytdoddnnggamaiaa.verbsLong
