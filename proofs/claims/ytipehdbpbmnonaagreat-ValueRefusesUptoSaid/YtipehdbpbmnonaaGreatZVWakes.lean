/- value.Cost; the law's wakes. -/
import Derived.Test.YtipehdbpbmnonaaGreatZVTold
import Derived.Test.YtipehdbpbmnonaaGreatZVSame
set_option linter.unusedVariables false
set_option linter.unusedSimpArgs false
namespace Pantry
open Go Go.RowKit
theorem textCost_perm {l m : List (List UInt8)} (h : l.Perm m) : textCost l = textCost m := (h.map _).sum_nat
theorem rkCost_perm12 {l m : List Mb} (h : l.Perm m) : rkCost l = rkCost m := (h.map _).sum_nat
theorem Canon.kind {p q : PD} (h : Canon p q) : q.kind = p.kind := by cases h <;> simp_all
theorem Canon.cost {p q : PD} (h : Canon p q) : costP q = costP p := by
  cases h with
  | text h => simp [costP, h]
  | list h => simp [costP, h]
  | record h => simp only [costP, h]; exact recCost_perm (sortK_perm _)
  | flock h => simp only [costP, h]; exact flkCost_perm (sortT_perm _)
  | ranks l h hl hr => simp only [costP, h]; exact rkCost_perm12 hl
end Pantry
namespace Go.Proofs.YtipehdbpbmnonaaGreat
open Go.RowKit Pantry

def Tryz.costF (p : PD) : Nat := if wrongP p = 0 then costP p else 0
theorem cost_nil12 (w : World) : Calls Tryz.prog 15 #[.pointer none] w fun e w' => e = .returned (.int .i64 0) ∧ w = w' := by
  go_enter Tryz.func15, Tryz.ntmps15
  go_wp2_with fail
  go_ret
  exact ⟨rfl, rfl⟩
set_option maxHeartbeats 2000000 in
theorem costP_any (w : World) (p : PD) (a1 a2 a3 : Option Addr) (c1 c2 c3 : Nat) (hP : PlainAt w p a1 a2 a3) (hB : PlainBig p) :
    Calls Tryz.prog 16 #[.agg (Tryz.plainCells p a1 a2 a3 c1 c2 c3)] w (QPost w (.int .i64 (Tryz.costF p : Nat))) := by
  obtain ⟨W0, hW0⟩ : ∃ W, w.alloc (.cells (Tryz.plainCells p a1 a2 a3 c1 c2 c3) 31) = W := ⟨_, rfl⟩
  have H0 := Lib.hid (OnBox.start w p a1 a2 a3 c1 c2 c3)
  rw [hW0] at H0
  have k0 := H0.out.kind
  obtain ⟨g1, g2, g3, g4⟩ := H0.out.fields
  by_cases hz : wrongP p = 0
  · have hC : Tryz.costF p = costP p := if_pos hz
    have HOF := Lib.hid (of_any W0 p a1 a2 a3 c1 c2 c3 0 (by omega) (hP.below H0.out.2.1) hB hz)
    have HC : Hid (∀ v q w2, Canon p q → ValIs w2 v q → Calls Tryz.prog 15 #[.pointer (some ⟨v, 0, none⟩)] w2 (QPost w2 (.int .i64 (Tryz.costF p : Nat)))) := Lib.hid fun v q w2 hq hv => by
      rw [hC, ← hq.cost]
      exact vcost_any hv
    obtain ⟨u, hu⟩ : ∃ u, Tryz.costF p = u := ⟨_, rfl⟩
    rw [hu] at HC ⊢
    clear hC hu hz hP hB
    unfold Tryz.plainCells at hW0 HOF ⊢
    go_enter Tryz.func16, Tryz.ntmps16
    go_wp2_with (first
      | (go_at_call 10
         refine HOF.out.mono ?_
         rintro e w2 ⟨v, q, rfl, hq, hv, hb⟩
         have HC2 := Lib.hid (HC.out v q w2 hq hv)
         have HB2 := Lib.hid (H0.out.2.1.trans (hb.mono H0.out.2.1.size))
         clear HOF HC hq hv hb)
      | (go_at_call 15
         refine HC2.out.mono ?_
         rintro e w3 ⟨rfl, hb⟩
         have HB3 := Lib.hid (HB2.out.trans (hb.mono HB2.out.size))
         clear HC2 hb))
    go_ret
    exact ⟨rfl, HB3.out⟩
  · have hC : Tryz.costF p = 0 := if_neg hz
    rw [hC]
    have HOF := Lib.hid (of_wrong W0 p a1 a2 a3 c1 c2 c3 0 (hP.below H0.out.2.1) hB hz)
    clear hC hz hP hB
    obtain ⟨z, hz⟩ : ∃ z, wrongP p = z := ⟨_, rfl⟩
    rw [hz] at HOF
    clear hz
    unfold Tryz.plainCells at hW0 HOF ⊢
    go_enter Tryz.func16, Tryz.ntmps16
    go_wp2_with (first
      | (go_at_call 10
         refine HOF.out.mono ?_
         rintro e w2 ⟨rfl, hb⟩
         have HB2 := Lib.hid (H0.out.2.1.trans (hb.mono H0.out.2.1.size))
         clear HOF hb)
      | (go_at_call 15; refine (cost_nil12 _).mono ?_; rintro e w3 ⟨rfl, rfl⟩))
    go_ret
    exact ⟨rfl, HB2.out⟩
theorem field_items (k : Int) (s : ByteArray) (a1 a2 a3 : Option Addr) (n1 n2 n3 c1 c2 c3 : Nat) (w : World) : (Instr.field 31 (.agg #[.int .i64 k, .string s, .slice a1 n1 c1, .slice a2 n2 c2, .slice a3 n3 c3]) 2).run Tryz.prog w = .ok (.slice a1 n1 c1) w := by kernel_rfl
def Tryz.pdW : PD := ⟨4, [], [[98], [97]], [], []⟩
theorem wrong_pdW : wrongP Tryz.pdW = 0 := by decide +kernel
set_option maxRecDepth 100000 in
set_option maxHeartbeats 4000000 in
theorem wakes12 (w : World) : Calls Tryz.prog 8 #[] w (QPost w (.bool true)) := by
  have hb0 : ∀ c, Below w.heap.size w (w.alloc c) := fun c => (Below.refl _ _).alloc (Nat.le_refl _) c
  have hPA : PlainAt (w.alloc (.cells #[.string ⟨#[98]⟩, .string ⟨#[97]⟩] 9)) Tryz.pdW (some ⟨w.heap.size, 0, none⟩) none none := by
    refine ⟨?_, Rd.nil _ _, Rd.nil _ _⟩
    exact Rd.new w #[.string ⟨#[98]⟩, .string ⟨#[97]⟩] 9 (0, 0) (by intro u hu; simp at hu; rcases hu with rfl | rfl <;> rfl)
  have hPB : PlainBig Tryz.pdW := ⟨by decide, by decide, by decide, by decide, by decide, by decide, by decide, by decide⟩
  have HOF : Hid (Calls Tryz.prog 10 #[.agg #[.int .i64 4, .string ⟨#[]⟩, .slice (some ⟨w.heap.size, 0, none⟩) 2 2, .slice none 0 0, .slice none 0 0], .int .u64 5] (w.alloc (.cells #[.string ⟨#[98]⟩, .string ⟨#[97]⟩] 9)) (OfPost Tryz.pdW (w.alloc (.cells #[.string ⟨#[98]⟩, .string ⟨#[97]⟩] 9)))) := Lib.hid (of_any _ Tryz.pdW (some ⟨w.heap.size, 0, none⟩) none none 2 0 0 5 (by omega) hPA hPB wrong_pdW)
  have HCAN : Hid (∀ q, Canon Tryz.pdW q → q = ⟨4, [], [[97], [98]], [], []⟩ ∧ costP q = 50) := Lib.hid fun q hq => by
    have hc := hq.cost
    have : costP Tryz.pdW = 50 := by decide +kernel
    cases hq with
    | flock h =>
      have hs : sortT [[98], [97]] = [[97], [98]] := (sortT_unique (List.Perm.swap _ _ _) (by decide +kernel)).symm
      exact ⟨by show (⟨4, [], sortT [[98], [97]], [], []⟩ : PD) = _; rw [hs], by rw [hc]; exact this⟩
    | text h => exact absurd h (by decide)
    | list h => exact absurd h (by decide)
    | record h => exact absurd h (by decide)
    | ranks l h hl hr => exact absurd h (by decide)
  clear hPA hPB
  have HNX : Hid (∀ v q w2, Canon Tryz.pdW q → ValIs w2 v q → Below w.heap.size w w2 → Calls Tryz.prog 15 #[.pointer (some ⟨v, 0, none⟩)] w2 (fun e w3 => e = .returned (.int .i64 50) ∧ Below w.heap.size w w3 ∧
      Calls Tryz.prog 13 #[.pointer (some ⟨v, 0, none⟩)] w3 (fun e w4 => ∃ a1 a2 a3 c1 c2 c3, e = .returned (.agg #[.int .i64 4, .string ⟨#[]⟩, .slice a1 2 c1, .slice a2 0 c2, .slice a3 0 c3]) ∧ Below w.heap.size w w4 ∧
        Calls Tryz.prog 14 #[.slice a1 2 c1, .slice (some ⟨w4.heap.size, 0, none⟩) 2 2] (w4.alloc (.cells #[.string ⟨#[97]⟩, .string ⟨#[98]⟩] 9)) (fun e w5 => e = .returned (.bool true) ∧ Below w.heap.size w w5)))) := Lib.hid (by
    intro v q w2 hq hv hb2
    obtain ⟨rfl, hc⟩ := HCAN.out q hq
    have h1 := vcost_any hv
    rw [hc] at h1
    refine h1.mono ?_
    rintro e w3 ⟨rfl, hb3⟩
    have hb03 := hb2.trans (hb3.mono hb2.size)
    refine ⟨rfl, hb03, (told_any (hv.below hb3)).mono ?_⟩
    rintro e w4 ⟨a1, a2, a3, c1, c2, c3, rfl, hpl, hb4⟩
    have hb04 := hb03.trans (hb4.mono hb03.size)
    refine ⟨a1, a2, a3, c1, c2, c3, rfl, hb04, ?_⟩
    have hb5 : Below w4.heap.size w4 (w4.alloc (.cells #[.string ⟨#[97]⟩, .string ⟨#[98]⟩] 9)) := (Below.refl _ _).alloc (Nat.le_refl _) _
    refine (sameT_self a1 (some ⟨w4.heap.size, 0, none⟩) 2 c1 2 [[97], [98]] _ rfl (by omega) (hpl.items.below hb5) (Rd.new w4 #[.string ⟨#[97]⟩, .string ⟨#[98]⟩] 9 (0, 0) (by intro u hu; simp at hu; rcases hu with rfl | rfl <;> rfl))).mono ?_
    rintro e w5 ⟨rfl, q, rfl⟩
    exact ⟨rfl, belowN (hb04.trans (hb5.mono hb04.size))⟩)
  clear HCAN
  have hfi := field_items
  go_enter Tryz.func8, Tryz.ntmps8
  go_wp2_with (first
    | (go_at_call 10
       refine HOF.out.mono ?_
       rintro e w2 ⟨v, q, rfl, hq, hv, hb⟩
       have HN := Lib.hid (HNX.out v q w2 hq hv ((hb0 _).trans (hb.mono (by simp))))
       clear HOF HNX hq hv hb)
    | (go_at_call 15
       refine HN.out.mono ?_
       rintro e w3 ⟨rfl, hb, hn⟩
       have HN2 := Lib.hid hn
       clear HN hn)
    | (go_at_call 13
       refine HN2.out.mono ?_
       rintro e w4 ⟨a1, a2, a3, c1, c2, c3, rfl, hb4, hn⟩
       have HN3 := Lib.hid hn
       clear HN2 hn)
    | (go_at_call 14
       refine HN3.out.mono ?_
       rintro e w5 ⟨rfl, hb5⟩
       have HB5 := Lib.hid hb5
       clear HN3))
  go_ret
  exact ⟨rfl, HB5.out⟩
end Go.Proofs.YtipehdbpbmnonaaGreat

/- What a value is told as makes the same value again: the plain law. -/
set_option linter.unusedVariables false
set_option linter.unusedSimpArgs false
namespace Pantry
open Go Go.RowKit
theorem longT_le {B : Int} (m : Int) (l : List (List UInt8)) (hm : m ≤ B) (h : ∀ s ∈ l, (s.length : Int) ≤ B) : longT m l ≤ B := by
  induction l generalizing m with
  | nil => exact hm
  | cons x l ih => exact ih (max m (x.length : Int)) (by have := h x List.mem_cons_self; omega) fun s hs => h s (List.mem_cons_of_mem _ hs)
theorem longF_le {B : Int} (m : Int) (l : List Fld) (hm : m ≤ B) (h : ∀ s ∈ l, (s.1.length : Int) ≤ B ∧ (s.2.length : Int) ≤ B) : longF m l ≤ B := by
  induction l generalizing m with
  | nil => exact hm
  | cons x l ih => exact ih (max m (max (x.1.length : Int) (x.2.length : Int))) (by have := h x List.mem_cons_self; omega) fun s hs => h s (List.mem_cons_of_mem _ hs)
theorem longM_le {B : Int} (m : Int) (l : List Mb) (hm : m ≤ B) (h : ∀ s ∈ l, (s.1.length : Int) ≤ B) : longM m l ≤ B := by
  induction l generalizing m with
  | nil => exact hm
  | cons x l ih => exact ih (max m (x.1.length : Int)) (by have := h x List.mem_cons_self; omega) fun s hs => h s (List.mem_cons_of_mem _ hs)
theorem Fine.wrong {p : PD} (h : Fine p) : wrongP p = 0 := by
  have hk := h.kind
  have b1 : belT p = true := by
    unfold belT
    by_cases e : p.kind = 1
    · simp [e]
    · simp [h.noText e]
  have b2 : belI p = true := by
    unfold belI
    by_cases e : p.kind = 2
    · simp [e]
    · by_cases e4 : p.kind = 4
      · simp [e4]
      · simp [h.noItems e e4]
  have b3 : belF p = true := by
    unfold belF
    by_cases e : p.kind = 3
    · simp [e]
    · simp [h.noPairs e]
  have b4 : belR p = true := by
    unfold belR
    by_cases e : p.kind = 5
    · simp [e]
    · simp [h.noRanks e]
  have ht : twiceP p = false := by
    unfold twiceP
    rw [Bool.or_eq_false_iff]
    refine ⟨by simp [dupB, h.names], ?_⟩
    unfold nanB
    rw [List.any_eq_false]
    intro x hx
    simpa using h.num x hx
  have hl : ¬ 1048576 < longP p := by
    have h1 : longP p ≤ 1048576 := longM_le _ _ (longF_le _ _ (longT_le _ _ (by have := h.text; omega) fun s hs => by have := h.items s hs; omega) fun s hs => by have := h.flds s hs; omega) fun s hs => by have := h.mems s hs; omega
    omega
  have hm : ¬ 1048576 < mostP p := by
    have := h.few
    unfold mostP
    omega
  unfold wrongP
  rw [if_neg (by rw [b1, b2, b3, b4]; simp; omega), ht, if_neg (by simp), if_neg hl, if_neg hm]
theorem wrongP_cases (p : PD) : wrongP p = 0 ∨ wrongP p = 2 ∨ wrongP p = 3 ∨ wrongP p = 4 := by
  unfold wrongP
  split
  · simp
  · split
    · simp
    · split
      · simp
      · split <;> simp
theorem Canon.fine {p q : PD} (h : Fine p) (hc : Canon p q) : Fine q := by
  have hfew := h.few
  cases hc with
  | text hk => exact ⟨by simp, h.text, by simp, by simp, by simp, by simp, by simp [namesP, namesT], by simp, by simp, by simp, by simp, by simp⟩
  | list hk => exact ⟨by simp, by simp, h.items, by simp, by simp, by simp; omega, by simp [namesP, namesT], by simp, by simp, by simp, by simp, by simp⟩
  | record hk =>
    have hn : (p.pairs.map (·.1)).Nodup := by
      have := h.names
      unfold namesP at this
      rw [List.append_assoc] at this
      exact (List.nodup_append.1 (List.nodup_append.1 this).2.1).1
    refine ⟨by simp, by simp, by simp, fun x hx => h.flds x ((sortK_perm p.pairs).mem_iff.1 hx), by simp, ?_, ?_, by simp, by simp, by simp, by simp, by simp⟩
    · have := (sortK_perm p.pairs).length_eq
      simp; omega
    · simp only [namesP, namesT, List.take_nil, List.map_nil, List.append_nil]
      rw [if_neg (by decide), List.nil_append]
      exact ((sortK_perm p.pairs).map (·.1)).nodup_iff.2 hn
  | flock hk =>
    have hn : p.items.Nodup := by
      have := h.names
      unfold namesP namesT at this
      rw [if_pos hk, List.take_length, List.append_assoc] at this
      exact (List.nodup_append.1 this).1
    refine ⟨by simp, by simp, fun s hs => h.items s ((sortT_perm p.items).mem_iff.1 hs), by simp, by simp, ?_, ?_, by simp, by simp, by simp, by simp, by simp⟩
    · have := (sortT_perm p.items).length_eq
      simp; omega
    · simp only [namesP, namesT, List.map_nil, List.append_nil, List.take_length]
      simp only [if_true]
      exact (sortT_perm p.items).nodup_iff.2 hn
  | ranks l hk hl hr =>
    have hn : (p.ranks.map (·.1)).Nodup := by
      have := h.names
      unfold namesP at this
      exact (List.nodup_append.1 this).2.1
    refine ⟨by simp, by simp, by simp, by simp, fun x hx => h.mems x (hl.mem_iff.1 hx), ?_, ?_, fun x hx => h.num x (hl.mem_iff.1 hx), by simp, by simp, by simp, by simp⟩
    · have := hl.length_eq
      simp; omega
    · simp only [namesP, namesT, List.take_nil, List.map_nil, List.nil_append]
      rw [if_neg (by decide), List.nil_append]
      exact (hl.map (·.1)).nodup_iff.2 hn
theorem ranks_unique {l l' : List Mb} (h : l.Perm l') (h1 : Rises l) (h2 : Rises l') : l = l' :=
  rising_unique (R := fun a b : Mb => cmpR a b < 0) (fun a => cmpR_irrefl a) (fun h1 h2 => cmpR_trans h1 h2) h h1 h2
/-- Two tellings of the same data are the same. -/
theorem Canon.unique {p q q' : PD} (h1 : Canon p q) (h2 : Canon p q') : q = q' := by
  cases h1 <;> cases h2 <;> try (first | rfl | omega)
  rename_i l hk hl hr l' hk' hl' hr'
  rw [ranks_unique (hl.trans hl'.symm) hr hr']
theorem Fine.pairKeys {p : PD} (h : Fine p) : (p.pairs.map (·.1)).Nodup := by
  have := h.names
  unfold namesP at this
  rw [List.append_assoc] at this
  exact (List.nodup_append.1 (List.nodup_append.1 this).2.1).1
theorem Fine.itemKeys {p : PD} (h : Fine p) (hk : p.kind = 4) : p.items.Nodup := by
  have := h.names
  unfold namesP namesT at this
  rw [if_pos hk, List.take_length, List.append_assoc] at this
  exact (List.nodup_append.1 this).1
theorem Canon.again {p q q' : PD} (h : Fine p) (h1 : Canon p q) (h2 : Canon q q') : q' = q := by
  cases h1 with
  | text hk => cases h2 <;> first | rfl | simp_all
  | list hk => cases h2 <;> first | rfl | simp_all
  | record hk =>
    cases h2 with
    | record h3 => show (⟨3, [], [], sortK (sortK p.pairs), []⟩ : PD) = _; rw [sortK_congr (sortK_perm _) h.pairKeys]
    | text h3 => simp at h3
    | list h3 => simp at h3
    | flock h3 => simp at h3
    | ranks l h3 _ _ => simp at h3
  | flock hk =>
    cases h2 with
    | flock h3 => show (⟨4, [], sortT (sortT p.items), [], []⟩ : PD) = _; rw [sortT_congr (sortT_perm _) (h.itemKeys hk)]
    | text h3 => simp at h3
    | list h3 => simp at h3
    | record h3 => simp at h3
    | ranks l h3 _ _ => simp at h3
  | ranks l hk hl hr =>
    cases h2 with
    | ranks l' h3 hl' hr' => rw [ranks_unique hl' hr' hr]
    | text h3 => simp at h3
    | list h3 => simp at h3
    | record h3 => simp at h3
    | flock h3 => simp at h3
end Pantry
namespace Go.Proofs.YtipehdbpbmnonaaGreat
open Pantry
theorem Fine.big {p : PD} (h : Fine p) : PlainBig p :=
  ⟨by have := h.text; omega, by have := h.few; omega, by have := h.few; omega, by have := h.few; omega, fun s hs => by have := h.items s hs; omega, fun x hx => by have := h.flds x hx; omega, fun x hx => by have := h.flds x hx; omega, fun x hx => by have := h.mems x hx; omega⟩
end Go.Proofs.YtipehdbpbmnonaaGreat
