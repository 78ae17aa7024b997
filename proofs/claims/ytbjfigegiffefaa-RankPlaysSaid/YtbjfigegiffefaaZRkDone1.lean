/- A step of the law: its plain part; what it leaves. -/
import Derived.Test.YtbjfigegiffefaaRkSteps
import Derived.Deep.Cut
import Derived.Laws.Rows
import Derived.Laws.Tables
import Derived.Deep.CutRange
set_option linter.unusedVariables false
set_option linter.unusedSimpArgs false
namespace Pantry
open Go Go.RowKit
/-- What a step makes of the members. -/
def stepL (l : List Mb) (o : Stp) : List Mb := if o.act = 0 then (setL l o.s o.x).1 else if o.act = 1 then dropKey l o.s else l
theorem split_at {l : List Mb} {i : Nat} {p : Mb} (h : l[i]? = some p) : l = l.take i ++ p :: l.drop (i + 1) ∧ (l.take i).length = i := by
  obtain ⟨hi, rfl⟩ := List.getElem?_eq_some_iff.1 h
  exact ⟨by rw [← List.drop_eq_getElem_cons hi, List.take_append_drop], by rw [List.length_take]; omega⟩
theorem cut_perm {l : List Mb} {i : Nat} {p : Mb} (h : l[i]? = some p) : l.Perm (p :: cutR l i) := by
  obtain ⟨e, -⟩ := split_at h
  conv => lhs; rw [e]
  exact List.perm_middle
/-- The entry at a place gets another number. -/
theorem set_perm {l L : List Mb} (hp : L.Perm l) {i i' j : Nat} {p q : Mb} (hL : L[i]? = some p) (hl : l[i']? = some p) : (L.set i q).Perm (insR (cutR l i') q j) := by
  have h1 : (cutR L i).Perm (cutR l i') := List.Perm.cons_inv ((cut_perm hL).symm.trans (hp.trans (cut_perm hl)))
  have h2 : (L.set i q).Perm (q :: cutR L i) := by
    obtain ⟨e, he⟩ := split_at hL
    have : L.set i q = L.take i ++ q :: L.drop (i + 1) := by
      conv => lhs; rw [e]
      rw [List.set_append_right _ _ (by omega), he, Nat.sub_self, List.set_cons_zero]
    rw [this]
    exact List.perm_middle
  refine h2.trans ((h1.cons q).trans ?_)
  unfold insR
  exact (ins_perm _ j q).symm
theorem drop_last {A C : List Mb} {p z z' : Mb} (hz : (A ++ p :: (C ++ [z']))[(A ++ p :: (C ++ [z'])).length - 1]? = some z) : ((A ++ p :: (C ++ [z'])).set A.length z).take ((A ++ p :: (C ++ [z'])).length - 1) = A ++ z' :: C := by
  have hl : (A ++ p :: (C ++ [z'])).length - 1 = A.length + (C.length + 1) := by simp
  rw [hl] at hz ⊢
  rw [List.getElem?_append_right (by omega), Nat.add_sub_cancel_left, List.getElem?_cons_succ, List.getElem?_append_right (by omega), Nat.sub_self] at hz
  obtain rfl : z' = z := by simpa using hz
  rw [List.set_append_right _ _ (by omega), Nat.sub_self, List.set_cons_zero, List.take_append, List.take_of_length_le (by omega), Nat.add_sub_cancel_left, List.take_succ_cons, List.take_left]
theorem drop_perm {l L : List Mb} (hp : L.Perm l) {i i' : Nat} {p z : Mb} (hL : L[i]? = some p) (hl : l[i']? = some p) (hz : L[L.length - 1]? = some z) : ((L.set i z).take (L.length - 1)).Perm (cutR l i') := by
  have h1 : (cutR L i).Perm (cutR l i') := List.Perm.cons_inv ((cut_perm hL).symm.trans (hp.trans (cut_perm hl)))
  refine List.Perm.trans ?_ h1
  obtain ⟨e, he⟩ := split_at hL
  have hi := (List.getElem?_eq_some_iff.1 hL).1
  unfold cutR
  rcases List.eq_nil_or_concat (L.drop (i + 1)) with hB | ⟨C, z', hB⟩
  · have hn : i = L.length - 1 := by have := congrArg List.length hB; simp at this; omega
    rw [hB, List.append_nil]
    have : (L.set i z).take (L.length - 1) = L.take i := by
      rw [← hn, List.take_set, List.set_eq_of_length_le (by rw [List.length_take]; omega)]
    rw [this]
  · rw [List.concat_eq_append] at hB
    rw [hB]
    rw [hB] at e
    generalize L.take i = A at e he ⊢
    subst he
    subst e
    rw [drop_last hz]
    exact List.Perm.append_left _ (List.perm_append_comm (l₁ := [z']))
theorem rkCells_set1 (L : List Mb) {i : Nat} {k : List UInt8} {x y : Nat} (h : L[i]? = some (k, y)) : (rkCells L).set (i * 2 + 1) (.float .f64 x) = rkCells (L.set i (k, x)) := by
  induction L generalizing i with
  | nil => cases h
  | cons p L ih =>
    cases i with
    | zero => cases h; simp [rkCells, mbC]
    | succ i =>
      have := ih (by simpa using h)
      simp only [rkCells, List.flatMap_cons, mbC, List.set_cons_succ] at *
      rw [show (i + 1) * 2 + 1 = i * 2 + 1 + 1 + 1 by omega]
      simp [this]
theorem rkCells_set2 (L : List Mb) {i : Nat} (hi : i < L.length) (q : Mb) : ((rkCells L).set (i * 2) (.string ⟨q.1.toArray⟩)).set (i * 2 + 1) (.float .f64 q.2) = rkCells (L.set i q) := by
  induction L generalizing i with
  | nil => cases hi
  | cons p L ih =>
    cases i with
    | zero => simp [rkCells, mbC]
    | succ i =>
      have := ih (by simpa using hi)
      simp only [rkCells, List.flatMap_cons, mbC, List.set_cons_succ] at *
      rw [show (i + 1) * 2 = i * 2 + 1 + 1 by omega, show i * 2 + 1 + 1 + 1 = (i * 2 + 1) + 1 + 1 by omega]
      simp [this]
/-- A shorter row in the same block. -/
theorem own_short {w : World} {base : Nat} {e : TypeId} {size n m c : Nat} {a : Option Addr} {xs : List Value} (h : w.ownsRow base e size (.slice a n c) n xs) (hm : m ≤ n) : w.ownsRow base e size (.slice a m c) m (xs.take (m * size)) := by
  have hmn : m * size ≤ n * size := Nat.mul_le_mul_right _ hm
  refine ⟨by rw [List.length_take, h.1]; omega, ?_⟩
  rcases h.2 with ⟨hv, hn⟩ | ⟨g, cap, cur, hv, h1, h2, h3, h4, h5, h6⟩
  · cases hv
    exact .inl ⟨by rw [show m = 0 by omega], by omega⟩
  · cases hv
    exact .inr ⟨g, c, cur, rfl, h1, h2, by omega, h4, h5, by rw [← h6, List.take_take, Nat.min_eq_left hmn]⟩
end Pantry
namespace Go.Proofs.Ytbjfigegiffefaa
open Go.RowKit Pantry

/-- What a step leaves: the ranks and the list, alike. -/
structure DoneTo (r : Nat) (S : Nat → Prop) (v : Value) (l : List Mb) (o : Stp) (w : World) (v' : Value) (w' : World) : Prop where
  ex : ∃ S' L', Rk w' r S' (stepL l o) ∧ (∀ k, S' k → S k ∨ w.heap.size ≤ k) ∧ L'.Perm (stepL l o) ∧ w'.ownsRow 0 41 2 v' L'.length (rkCells L') ∧ ∀ k, v'.ownBlock = some k → ¬ S' k
  own : ∀ k, v'.ownBlock = some k → v.ownBlock = some k ∨ w.heap.size ≤ k
  chg : Chg (fun k => S k ∨ v.ownBlock = some k) w w'
def DonePost (r : Nat) (S : Nat → Prop) (v : Value) (l : List Mb) (o : Stp) (w : World) (e : Ending) (w' : World) : Prop := ∃ v', e = .returned (.tuple #[v', .bool true]) ∧ DoneTo r S v l o w v' w'
theorem DoneTo.before {r : Nat} {S : Nat → Prop} {v : Value} {l : List Mb} {o : Stp} {w0 w : World} {v' : Value} {w' : World} (h : DoneTo r S v l o w v' w') (hb : Below w0.heap.size w0 w) : DoneTo r S v l o w0 v' w' := by
  obtain ⟨⟨S', L', h1, h2, h3⟩, h4, h5⟩ := h
  exact ⟨⟨S', L', h1, fun k hk => (h2 k hk).imp id fun hh => Nat.le_trans hb.size hh, h3⟩, fun k hk => (h4 k hk).imp id fun hh => Nat.le_trans hb.size hh, (Chg.of_below hb).trans h5 fun _ _ hh => hh⟩
theorem entT : ElemT Try.prog 26 41 2 24 zRk := ⟨Try.underlying26, by kernel_rfl, rfl, by decide, by decide⟩
/-- The ranks have been stepped; the list is as it was. -/
theorem DoneTo.rank {r : Nat} {S : Nat → Prop} {v : Value} {l L : List Mb} {o : Stp} {w w' : World} (h : RkTo r S (stepL l o) w w') (hp : L.Perm (stepL l o)) (hv : w.ownsRow 0 41 2 v L.length (rkCells L)) (hvS : ∀ k, v.ownBlock = some k → ¬ S k) : DoneTo r S v l o w v w' := by
  obtain ⟨⟨S', h1, h2⟩, hc⟩ := h
  exact ⟨⟨S', L, h1, h2, hp, Chg.ownsRow hv hc hvS, fun k hk hs => (h2 k hs).elim (hvS k hk) fun hh => by have := (hv.lt k hk).2; omega⟩, fun k hk => .inl hk, hc.mono fun k _ hk => .inl hk⟩
/-- The ranks have been stepped; then the list has been written. -/
theorem DoneTo.list {r : Nat} {S : Nat → Prop} {v v' : Value} {l L L' : List Mb} {o : Stp} {w w1 w' : World} (h : RkTo r S (stepL l o) w w1) (hp : L'.Perm (stepL l o)) (hv : w.ownsRow 0 41 2 v L.length (rkCells L)) (hvS : ∀ k, v.ownBlock = some k → ¬ S k)
    (hv' : w'.ownsRow 0 41 2 v' L'.length (rkCells L')) (hc : Chg (fun k => v.ownBlock = some k) w1 w') (ho : ∀ k, v'.ownBlock = some k → v.ownBlock = some k ∨ w1.heap.size ≤ k) : DoneTo r S v l o w v' w' := by
  obtain ⟨⟨S', h1, h2⟩, hc1⟩ := h
  have hx : ∀ k, S' k → v.ownBlock ≠ some k := fun k hs hk => (h2 k hs).elim (hvS k hk) fun hh => by have := (hv.lt k hk).2; omega
  refine ⟨⟨S', L', h1.chg hc fun k hk => hx k hk, h2, hp, hv', fun k hk hs => ?_⟩, fun k hk => (ho k hk).imp id fun hh => Nat.le_trans hc1.size hh, (hc1.mono fun k _ hk => .inl hk).trans hc fun k _ hk => .inr hk⟩
  rcases ho k hk with hh | hh
  · exact hx k hs hh
  · have := h1.lt k hs; omega
end Go.Proofs.Ytbjfigegiffefaa

/- A step of the law, behind the search in the list. -/
set_option linter.unusedVariables false
set_option linter.unusedSimpArgs false
namespace Go.Proofs.Ytbjfigegiffefaa
open Go.RowKit Pantry

/-- Where the list's entry of this name stands: nowhere (-1), or there. -/
def AtIs (L : List Mb) (key : List UInt8) (at_ : Int) : Prop := ((∀ p ∈ L, p.1 ≠ key) ∧ at_ = -1) ∨ ∃ (i y : Nat), L[i]? = some (key, y) ∧ at_ = i
structure TailIn (w : World) (r : Nat) (S : Nat → Prop) (l L : List Mb) (a : Option Addr) (n c b : Nat) (o : Stp) (at_ : Int) : Prop where
  rk : Rk w r S l
  perm : L.Perm l
  own : w.ownsRow 0 41 2 (.slice a n c) n (rkCells L)
  len : L.length = n
  apart : ∀ k, (Value.slice a n c).ownBlock = some k → ¬ S k
  box : w.heap[b]? = some (.cells o.cells.toArray 52)
  boxS : ¬ S b
  ok : o.Ok
  at_ : AtIs L o.s at_
theorem TailIn.box_cells {w : World} {r : Nat} {S : Nat → Prop} {l L : List Mb} {a : Option Addr} {n c b : Nat} {o : Stp} {at_ : Int} (h : TailIn w r S l L a n c b o at_) :
    (w.cell? ⟨b, 1, none⟩ = some (.int .i64 o.act) ∧ w.cell? ⟨b, 4, none⟩ = some (.string ⟨o.s.toArray⟩) ∧ w.cell? ⟨b, 5, none⟩ = some (.int .u64 o.x)) ∧ n ≤ 1048576 :=
  ⟨⟨cell_of_row w b 1 _ _ _ h.box, cell_of_row w b 4 _ _ _ h.box, cell_of_row w b 5 _ _ _ h.box⟩, by rw [← h.len, h.perm.length_eq]; exact h.rk.good.few⟩
theorem TailIn.after {w w' : World} {r : Nat} {S : Nat → Prop} {l L : List Mb} {a : Option Addr} {n c b : Nat} {o : Stp} {at_ : Int} (h : TailIn w r S l L a n c b o at_) (hc : Chg S w w') :
    (w'.cell? ⟨b, 4, none⟩ = some (.string ⟨o.s.toArray⟩) ∧ w'.cell? ⟨b, 5, none⟩ = some (.int .u64 o.x)) ∧ w'.ownsRow 0 41 2 (.slice a n c) n (rkCells L) := by
  have hb := hc.heap h.box h.boxS
  exact ⟨⟨cell_of_row w' b 4 _ _ _ hb, cell_of_row w' b 5 _ _ _ hb⟩, Chg.ownsRow h.own hc h.apart⟩
theorem at_none {L l : List Mb} {key : List UInt8} {at_ : Int} (h : AtIs L key at_) (hp : L.Perm l) (hk : ∀ p ∈ l, p.1 ≠ key) : at_ = -1 := by
  rcases h with ⟨-, h⟩ | ⟨i, y, hi, -⟩
  · exact h
  · exact absurd rfl (hk _ (hp.mem_iff.1 (List.mem_of_getElem? hi)))
theorem at_some {L l : List Mb} {key : List UInt8} {at_ : Int} (h : AtIs L key at_) (hp : L.Perm l) (hn : (l.map (·.1)).Nodup) {y : Nat} (hy : (key, y) ∈ l) : ∃ i : Nat, L[i]? = some (key, y) ∧ at_ = i := by
  rcases h with ⟨h, -⟩ | ⟨i, y', hi, rfl⟩
  · exact absurd rfl (h _ (hp.mem_iff.2 hy))
  · have : (L.map (·.1)).Nodup := (hp.map _).nodup_iff.2 hn
    rw [key_uniq this (List.mem_of_getElem? hi) (hp.mem_iff.2 hy)] at hi
    exact ⟨i, hi, rfl⟩
/-- An entry of the list, its cells. -/
theorem own_entry {w : World} {a : Option Addr} {n c : Nat} {L : List Mb} (h : w.ownsRow 0 41 2 (.slice a n c) n (rkCells L)) {i : Nat} {p : Mb} (hi : L[i]? = some p) :
    ∃ g, a = some ⟨g, 0, none⟩ ∧ (w.cell? ⟨g, i * 2, none⟩ = some (.string ⟨p.1.toArray⟩) ∧ w.cell? ⟨g, i * 2 + 1, none⟩ = some (.float .f64 p.2)) ∧ (∀ j, w.frozen? ⟨g, j, none⟩ = false) ∧ n ≤ c ∧ i < n := by
  have hil := (List.getElem?_eq_some_iff.1 hi).1
  have hlen := h.1
  rw [rkCells_length] at hlen
  rcases h.2 with ⟨hv, hn⟩ | ⟨g, cap, cur, hv, h1, h2, h3, h4, h5, h6⟩
  · omega
  · cases hv
    refine ⟨g, rfl, ⟨?_, ?_⟩, fun j => h.frozenAt j, h3, by omega⟩
    · rw [h.cellAt _ (by omega), show i * 2 = i * 2 + 0 from rfl, rkCells_get hi 0 (by omega)]; rfl
    · rw [h.cellAt _ (by omega), rkCells_get hi 1 (by omega)]; rfl
theorem f_ne {x y : Nat} (hx : ¬ fnan x) (hy : ¬ fnan y) : (FloatKind.f64.format.order x y != some .eq) = !decide (fkey x = fkey y) := by
  have := f_eq hx hy
  simp only [bne, this]
theorem stepL_set {l l' : List Mb} {o : Stp} {new : Bool} {code : Int} (ha : o.act = 0) (h : SetC l o.s o.x l' new code) (hn : (l.map (·.1)).Nodup) : stepL l o = l' := by
  unfold stepL
  rw [if_pos ha, setC_fn h hn]
theorem stepL_del {l : List Mb} {o : Stp} (ha : o.act = 1) {i y : Nat} (h : l[i]? = some (o.s, y)) (hn : (l.map (·.1)).Nodup) : stepL l o = cutR l i := by
  unfold stepL
  rw [if_neg (by omega), if_pos ha, dropKey_cut hn h]
theorem dropKey_no {l : List Mb} {key : List UInt8} (h : ∀ p ∈ l, p.1 ≠ key) : dropKey l key = l := by
  unfold dropKey
  exact List.filter_eq_self.2 fun p hp => by simpa using h p hp
set_option maxHeartbeats 8000000 in
set_option maxRecDepth 100000 in
theorem done_set (w1 : World) (r : Nat) (S : Nat → Prop) (l L : List Mb) (a : Option Addr) (n c b : Nat) (o : Stp) (at_ : Int) (h : TailIn w1 r S l L a n c b o at_) (ha : o.act = 0) (u2 u3 u4 u6 u7 u9 u10 u11 u12 u13 u14 u15 u16 u17 u18 u19 u20 u21 u22 u23 u24 u25 u26 u27 u28 u29 u30 u31 u32 u33 u34 u35 u36 u37 u38 u39 u40 u41 u42 u43 u44 u45 u46 u47 u48 u49 u50 u51 u52 u53 u54 u55 u56 u57 u58 u59 u60 u61 u62 u63 u64 u65 u66 u67 u68 u69 u70 u71 u72 u73 u74 u75 u76 u77 u78 u79 u80 u81 u82 u83 u84 u85 u86 u87 u88 u89 u90 u91 u92 u93 u94 u95 u96 u97 u98 u99 u100 u101 u102 u103 u104 u105 u106 u107 u108 u109 u110 u111 u112 u113 u114 u115 u116 u117 u118 u119 u120 u121 u122 u123 u124 u125 u126 u127 u128 u129 u130 u131 u132 u133 u134 u135 u136 u137 u138 : Value) :
    ∀ cc, cfst (cskip 3 (cbody Try.f22)) = cc → ∀ cr, csnd (cskip 3 (cbody Try.f22)) = cr → ∀ R : Ending → World → Prop, Hid (∀ e w', DonePost r S (.slice a n c) l o w1 e w' → R e w') → ∀ K : Act → World → Prop, (∀ x y, Code.wp Try.prog cr (bodyPost Try.prog Try.f22 R) x y → K x y) →
      Code.wp Try.prog cc (Exit.then K (bodyPost Try.prog Try.f22 R)) { tmps := #[.pointer (some ⟨r, 0, none⟩), .slice a n c, u2, u3, u4, .pointer (some ⟨b, 0, none⟩), u6, u7, .int .i64 at_, u9, u10, u11, u12, u13, u14, u15, u16, u17, u18, u19, u20, u21, u22, u23, u24, u25, u26, u27, u28, u29, u30, u31, u32, u33, u34, u35, u36, u37, u38, u39, u40, u41, u42, u43, u44, u45, u46, u47, u48, u49, u50, u51, u52, u53, u54, u55, u56, u57, u58, u59, u60, u61, u62, u63, u64, u65, u66, u67, u68, u69, u70, u71, u72, u73, u74, u75, u76, u77, u78, u79, u80, u81, u82, u83, u84, u85, u86, u87, u88, u89, u90, u91, u92, u93, u94, u95, u96, u97, u98, u99, u100, u101, u102, u103, u104, u105, u106, u107, u108, u109, u110, u111, u112, u113, u114, u115, u116, u117, u118, u119, u120, u121, u122, u123, u124, u125, u126, u127, u128, u129, u130, u131, u132, u133, u134, u135, u136, u137, u138], defers := [] } w1 := by
  have H := Lib.hid h
  obtain ⟨⟨b1, b4, b5⟩, hnl⟩ := h.box_cells
  have hfb := frombits
  clear h
  have HSET := Lib.hid (H.out.rk.set o.s o.x H.out.ok.s)
  have HA := Lib.hid ha
  rw [ha] at b1
  clear ha
  intro cc hcc cr hcr R hR K hK
  conv at hcc => lhs; whnf
  conv at hcr => lhs; whnf
  subst hcc hcr
  dsimp only
  go_wp2_with fail
  refine HSET.out.mono ?_
  rintro e w2 ⟨l', new, code, hC, rfl, hto⟩
  obtain ⟨⟨d4, d5⟩, hown⟩ := H.out.after hto.chg
  have HO := Lib.hid hown
  have HST := Lib.hid (stepL_set HA.out hC H.out.rk.keys)
  have HTO : Hid (RkTo r S (stepL l o) w1 w2) := Lib.hid (by rw [HST.out]; exact hto)
  clear b1 b4 b5 HSET hto hown
  cases hC with
  | long hlen =>
    have HE : Hid (DoneTo r S (.slice a n c) l o w1 (.slice a n c) w2) := Lib.hid (DoneTo.rank (L := L) HTO.out (by rw [HST.out]; exact H.out.perm) (by rw [H.out.len]; exact H.out.own) H.out.apart)
    go_wp2_with fail
    exact hR.out _ _ ⟨_, rfl, HE.out⟩
  | nan hlen hx =>
    have HE : Hid (DoneTo r S (.slice a n c) l o w1 (.slice a n c) w2) := Lib.hid (DoneTo.rank (L := L) HTO.out (by rw [HST.out]; exact H.out.perm) (by rw [H.out.len]; exact H.out.own) H.out.apart)
    have hlen2 : ¬ 1048576 < o.s.length := by omega
    have hf := f_self (x := o.x)
    rw [decide_eq_true hx] at hf
    clear hx
    go_wp2_with fail
    exact hR.out _ _ ⟨_, rfl, HE.out⟩
  | full hlen hx hk hf =>
    have HE : Hid (DoneTo r S (.slice a n c) l o w1 (.slice a n c) w2) := Lib.hid (DoneTo.rank (L := L) HTO.out (by rw [HST.out]; exact H.out.perm) (by rw [H.out.len]; exact H.out.own) H.out.apart)
    have hlen2 : ¬ 1048576 < o.s.length := by omega
    have hs := f_self (x := o.x)
    rw [decide_eq_false hx] at hs
    obtain rfl := at_none H.out.at_ H.out.perm hk
    have hnf : decide ((1048576 : Int) ≤ (n : Int)) = true := by
      rw [← H.out.perm.length_eq, H.out.len] at hf
      simp; omega
    clear hx hk hf
    go_wp2_with fail
    exact hR.out _ _ ⟨_, rfl, HE.out⟩
  | same hlen hx y hy he =>
    have HE : Hid (DoneTo r S (.slice a n c) l o w1 (.slice a n c) w2) := Lib.hid (DoneTo.rank (L := L) HTO.out (by rw [HST.out]; exact H.out.perm) (by rw [H.out.len]; exact H.out.own) H.out.apart)
    have hlen2 : ¬ 1048576 < o.s.length := by omega
    have hs := f_self (x := o.x)
    rw [decide_eq_false hx] at hs
    obtain ⟨i, hi, rfl⟩ := at_some H.out.at_ H.out.perm H.out.rk.keys hy
    obtain ⟨g, rfl, ⟨e0, e1⟩, ef, hnc, hin⟩ := own_entry HO.out hi
    have hne := f_ne (H.out.rk.good.num _ hy) hx
    rw [decide_eq_true he] at hne
    have hneg : decide ((i : Int) < 0) = false := by simp
    have hneg2 : ¬ (i : Int) < 0 := by omega
    clear hx hy he hi
    go_wp2_with fail
    exact hR.out _ _ ⟨_, rfl, HE.out⟩
  | moved hlen hx i' y j hy he hj =>
    have hlen2 : ¬ 1048576 < o.s.length := by omega
    have hs := f_self (x := o.x)
    rw [decide_eq_false hx] at hs
    obtain ⟨i, hi, rfl⟩ := at_some H.out.at_ H.out.perm H.out.rk.keys (List.mem_of_getElem? hy)
    obtain ⟨g, rfl, ⟨e0, e1⟩, ef, hnc, hin⟩ := own_entry HO.out hi
    have ef1 := ef (i * 2 + 1)
    have hne := f_ne (H.out.rk.good.num _ (List.mem_of_getElem? hy)) hx
    rw [decide_eq_false he] at hne
    have hneg : decide ((i : Int) < 0) = false := by simp
    have hneg2 : ¬ (i : Int) < 0 := by omega
    have HE : Hid (DoneTo r S (.slice (some ⟨g, 0, none⟩) n c) l o w1 (.slice (some ⟨g, 0, none⟩) n c) (w2.setCell ⟨g, i * 2 + 1, none⟩ (.float .f64 o.x))) := Lib.hid (by
      have hst := HO.out.stored (i * 2 + 1) (.float .f64 o.x)
      rw [rkCells_set1 L hi] at hst
      refine DoneTo.list HTO.out (L' := L.set i (o.s, o.x)) (by rw [HST.out]; exact set_perm H.out.perm hi hy) (by rw [H.out.len]; exact H.out.own) H.out.apart (by rw [List.length_set, H.out.len]; exact hst.1) (Chg.of_grown hst.2 fun k hk => by cases hk; rfl) (fun k hk => .inl hk))
    clear hx hy he hi ef hj
    go_wp2_with fail
    exact hR.out _ _ ⟨_, rfl, HE.out⟩
  | fresh hlen hx hk hf j hj =>
    have hlen2 : ¬ 1048576 < o.s.length := by omega
    have hs := f_self (x := o.x)
    rw [decide_eq_false hx] at hs
    obtain rfl := at_none H.out.at_ H.out.perm hk
    have hnf : decide ((1048576 : Int) ≤ (n : Int)) = false := by
      rw [← H.out.perm.length_eq, H.out.len] at hf
      simp; omega
    have HP : Hid ((L ++ [(o.s, o.x)]).Perm (stepL l o)) := Lib.hid (by
      rw [HST.out]
      exact (List.perm_append_comm.trans ((H.out.perm.cons _).trans (ins_perm l j _).symm)))
    have HT := Lib.hid entT
    clear hx hk hf hj
    go_wp2_with (at_builtin; refine wpl_append1 HT.out rfl _ _ rfl 0 rfl HO.out #[.string ⟨o.s.toArray⟩, .float .f64 o.x] rfl rfl (by simp [Value.oneCell']) (by omega) (Nat.zero_le _) ?_
                 intro v' w3 hown3 hg3 _hb3 hv3
                 have HE : Hid (DoneTo r S (.slice a n c) l o w1 v' w3) := Lib.hid (DoneTo.list HTO.out HP.out (by rw [H.out.len]; exact H.out.own) H.out.apart (by rw [List.length_append, H.out.len, rkCells_append]; exact hown3) (Chg.of_grown hg3 fun k hk => hk) hv3)
                 obtain ⟨a3, c3, rfl, -⟩ := ownsRow_rd hown3 (by rw [show (#[Value.string ⟨o.s.toArray⟩, Value.float .f64 o.x] : Array Value).toList = rkCells [(o.s, o.x)] from rfl, ← rkCells_append]; exact rkCells_one _)
                 clear hown3 hg3 hv3)
    exact hR.out _ _ ⟨_, rfl, HE.out⟩
set_option maxHeartbeats 8000000 in
set_option maxRecDepth 100000 in
theorem done_del (w1 : World) (r : Nat) (S : Nat → Prop) (l L : List Mb) (a : Option Addr) (n c b : Nat) (o : Stp) (at_ : Int) (h : TailIn w1 r S l L a n c b o at_) (ha : o.act = 1) (u2 u3 u4 u6 u7 u9 u10 u11 u12 u13 u14 u15 u16 u17 u18 u19 u20 u21 u22 u23 u24 u25 u26 u27 u28 u29 u30 u31 u32 u33 u34 u35 u36 u37 u38 u39 u40 u41 u42 u43 u44 u45 u46 u47 u48 u49 u50 u51 u52 u53 u54 u55 u56 u57 u58 u59 u60 u61 u62 u63 u64 u65 u66 u67 u68 u69 u70 u71 u72 u73 u74 u75 u76 u77 u78 u79 u80 u81 u82 u83 u84 u85 u86 u87 u88 u89 u90 u91 u92 u93 u94 u95 u96 u97 u98 u99 u100 u101 u102 u103 u104 u105 u106 u107 u108 u109 u110 u111 u112 u113 u114 u115 u116 u117 u118 u119 u120 u121 u122 u123 u124 u125 u126 u127 u128 u129 u130 u131 u132 u133 u134 u135 u136 u137 u138 : Value) :
    ∀ cc, cfst (cskip 3 (cbody Try.f22)) = cc → ∀ cr, csnd (cskip 3 (cbody Try.f22)) = cr → ∀ R : Ending → World → Prop, Hid (∀ e w', DonePost r S (.slice a n c) l o w1 e w' → R e w') → ∀ K : Act → World → Prop, (∀ x y, Code.wp Try.prog cr (bodyPost Try.prog Try.f22 R) x y → K x y) →
      Code.wp Try.prog cc (Exit.then K (bodyPost Try.prog Try.f22 R)) { tmps := #[.pointer (some ⟨r, 0, none⟩), .slice a n c, u2, u3, u4, .pointer (some ⟨b, 0, none⟩), u6, u7, .int .i64 at_, u9, u10, u11, u12, u13, u14, u15, u16, u17, u18, u19, u20, u21, u22, u23, u24, u25, u26, u27, u28, u29, u30, u31, u32, u33, u34, u35, u36, u37, u38, u39, u40, u41, u42, u43, u44, u45, u46, u47, u48, u49, u50, u51, u52, u53, u54, u55, u56, u57, u58, u59, u60, u61, u62, u63, u64, u65, u66, u67, u68, u69, u70, u71, u72, u73, u74, u75, u76, u77, u78, u79, u80, u81, u82, u83, u84, u85, u86, u87, u88, u89, u90, u91, u92, u93, u94, u95, u96, u97, u98, u99, u100, u101, u102, u103, u104, u105, u106, u107, u108, u109, u110, u111, u112, u113, u114, u115, u116, u117, u118, u119, u120, u121, u122, u123, u124, u125, u126, u127, u128, u129, u130, u131, u132, u133, u134, u135, u136, u137, u138], defers := [] } w1 := by
  have H := Lib.hid h
  obtain ⟨⟨b1, b4, b5⟩, hnl⟩ := h.box_cells
  have hfb := frombits
  clear h
  have HDEL := Lib.hid (H.out.rk.del o.s H.out.ok.s)
  have HA := Lib.hid ha
  rw [ha] at b1
  clear ha
  intro cc hcc cr hcr R hR K hK
  conv at hcc => lhs; whnf
  conv at hcr => lhs; whnf
  subst hcc hcr
  dsimp only
  go_wp2_with fail
  refine HDEL.out.mono ?_
  rintro e w2 (⟨i', y, hy, rfl, hto⟩ | ⟨hk, rfl, hto⟩)
  · obtain ⟨⟨d4, d5⟩, hown⟩ := H.out.after hto.chg
    have HO := Lib.hid hown
    have HST := Lib.hid (stepL_del HA.out hy H.out.rk.keys)
    have HTO : Hid (RkTo r S (stepL l o) w1 w2) := Lib.hid (by rw [HST.out]; exact hto)
    obtain ⟨i, hi, rfl⟩ := at_some H.out.at_ H.out.perm H.out.rk.keys (List.mem_of_getElem? hy)
    obtain ⟨g, rfl, ⟨e0, e1⟩, ef, hnc, hin⟩ := own_entry HO.out hi
    obtain ⟨m, rfl⟩ : ∃ m, n = m + 1 := ⟨n - 1, by omega⟩
    obtain ⟨z, hz⟩ : ∃ z, L[m]? = some z := ⟨_, List.getElem?_eq_getElem (by have := H.out.len; omega)⟩
    obtain ⟨g', hg', ⟨e2, e3⟩, -, -, -⟩ := own_entry HO.out hz
    cases hg'
    have ef0 := ef (i * 2)
    have ef1 := ef (i * 2 + 1)
    have hneg : decide ((i : Int) < 0) = false := by simp
    have hneg2 : ¬ (i : Int) < 0 := by omega
    have HE : Hid (DoneTo r S (.slice (some ⟨g, 0, none⟩) (m + 1) c) l o w1 (.slice (some ⟨g, 0, none⟩) m c) ((w2.setCell ⟨g, i * 2, none⟩ (.string ⟨z.1.toArray⟩)).setCell ⟨g, i * 2 + 1, none⟩ (.float .f64 z.2))) := Lib.hid (by
      have hs1 := HO.out.stored (i * 2) (.string ⟨z.1.toArray⟩)
      have hs2 := hs1.1.stored (i * 2 + 1) (.float .f64 z.2)
      rw [rkCells_set2 L (by have := H.out.len; omega)] at hs2
      have hs3 := own_short hs2.1 (Nat.le_succ m)
      rw [rkCells_take] at hs3
      have hl : ((L.set i z).take m).length = m := by rw [List.length_take, List.length_set, H.out.len]; omega
      refine DoneTo.list HTO.out (L' := (L.set i z).take m) ?_ (by rw [H.out.len]; exact H.out.own) H.out.apart (by rw [hl]; exact hs3) ((Chg.of_grown hs1.2 fun k hk => by cases hk; rfl).trans (Chg.of_grown hs2.2 (S := fun k => some k = some g) fun k hk => by cases hk; rfl) fun k _ hk => by cases hk; rfl) (fun k hk => .inl hk)
      rw [HST.out]
      have := drop_perm H.out.perm hi hy (z := z) (by rw [H.out.len]; exact hz)
      rwa [H.out.len] at this)
    clear b1 b4 b5 HDEL hto hown hy hi hz ef
    go_wp2_with fail
    exact hR.out _ _ ⟨_, rfl, HE.out⟩
  · obtain ⟨⟨d4, d5⟩, hown⟩ := H.out.after hto.chg
    have HST : Hid (stepL l o = l) := Lib.hid (by unfold stepL; rw [if_neg (by rw [HA.out]; decide), if_pos HA.out, dropKey_no hk])
    have HE : Hid (DoneTo r S (.slice a n c) l o w1 (.slice a n c) w2) := Lib.hid (DoneTo.rank (L := L) (by rw [HST.out]; exact hto) (by rw [HST.out]; exact H.out.perm) (by rw [H.out.len]; exact H.out.own) H.out.apart)
    obtain rfl := at_none H.out.at_ H.out.perm hk
    clear b1 b4 b5 HDEL hto hown hk
    go_wp2_with fail
    exact hR.out _ _ ⟨_, rfl, HE.out⟩
set_option maxHeartbeats 8000000 in
set_option maxRecDepth 100000 in
theorem done_else (w1 : World) (r : Nat) (S : Nat → Prop) (l L : List Mb) (a : Option Addr) (n c b : Nat) (o : Stp) (at_ : Int) (h : TailIn w1 r S l L a n c b o at_) (ha : o.act ≠ 0) (hb : o.act ≠ 1) (u2 u3 u4 u6 u7 u9 u10 u11 u12 u13 u14 u15 u16 u17 u18 u19 u20 u21 u22 u23 u24 u25 u26 u27 u28 u29 u30 u31 u32 u33 u34 u35 u36 u37 u38 u39 u40 u41 u42 u43 u44 u45 u46 u47 u48 u49 u50 u51 u52 u53 u54 u55 u56 u57 u58 u59 u60 u61 u62 u63 u64 u65 u66 u67 u68 u69 u70 u71 u72 u73 u74 u75 u76 u77 u78 u79 u80 u81 u82 u83 u84 u85 u86 u87 u88 u89 u90 u91 u92 u93 u94 u95 u96 u97 u98 u99 u100 u101 u102 u103 u104 u105 u106 u107 u108 u109 u110 u111 u112 u113 u114 u115 u116 u117 u118 u119 u120 u121 u122 u123 u124 u125 u126 u127 u128 u129 u130 u131 u132 u133 u134 u135 u136 u137 u138 : Value) :
    ∀ cc, cfst (cskip 3 (cbody Try.f22)) = cc → ∀ cr, csnd (cskip 3 (cbody Try.f22)) = cr → ∀ R : Ending → World → Prop, Hid (∀ e w', DonePost r S (.slice a n c) l o w1 e w' → R e w') → ∀ K : Act → World → Prop, (∀ x y, Code.wp Try.prog cr (bodyPost Try.prog Try.f22 R) x y → K x y) →
      Code.wp Try.prog cc (Exit.then K (bodyPost Try.prog Try.f22 R)) { tmps := #[.pointer (some ⟨r, 0, none⟩), .slice a n c, u2, u3, u4, .pointer (some ⟨b, 0, none⟩), u6, u7, .int .i64 at_, u9, u10, u11, u12, u13, u14, u15, u16, u17, u18, u19, u20, u21, u22, u23, u24, u25, u26, u27, u28, u29, u30, u31, u32, u33, u34, u35, u36, u37, u38, u39, u40, u41, u42, u43, u44, u45, u46, u47, u48, u49, u50, u51, u52, u53, u54, u55, u56, u57, u58, u59, u60, u61, u62, u63, u64, u65, u66, u67, u68, u69, u70, u71, u72, u73, u74, u75, u76, u77, u78, u79, u80, u81, u82, u83, u84, u85, u86, u87, u88, u89, u90, u91, u92, u93, u94, u95, u96, u97, u98, u99, u100, u101, u102, u103, u104, u105, u106, u107, u108, u109, u110, u111, u112, u113, u114, u115, u116, u117, u118, u119, u120, u121, u122, u123, u124, u125, u126, u127, u128, u129, u130, u131, u132, u133, u134, u135, u136, u137, u138], defers := [] } w1 := by
  have H := Lib.hid h
  obtain ⟨⟨b1, b4, b5⟩, hnl⟩ := h.box_cells
  have hfb := frombits
  clear h
  have HE : Hid (DoneTo r S (.slice a n c) l o w1 (.slice a n c) w1) := Lib.hid (by
    have hst : stepL l o = l := by unfold stepL; rw [if_neg ha, if_neg hb]
    exact DoneTo.rank (L := L) (by rw [hst]; exact ⟨⟨S, H.out.rk, fun k hk => .inl hk⟩, Chg.refl _ _⟩) (by rw [hst]; exact H.out.perm) (by rw [H.out.len]; exact H.out.own) H.out.apart)
  have h0 : (o.act == 0) = false := by simpa using ha
  have h1 : (o.act == 1) = false := by simpa using hb
  clear ha hb
  intro cc hcc cr hcr R hR K hK
  conv at hcc => lhs; whnf
  conv at hcr => lhs; whnf
  subst hcc hcr
  dsimp only
  go_wp2_with fail
  exact hR.out _ _ ⟨_, rfl, HE.out⟩
theorem done_tail (w1 : World) (r : Nat) (S : Nat → Prop) (l L : List Mb) (a : Option Addr) (n c b : Nat) (o : Stp) (at_ : Int) (h : TailIn w1 r S l L a n c b o at_) (u2 u3 u4 u6 u7 u9 u10 u11 u12 u13 u14 u15 u16 u17 u18 u19 u20 u21 u22 u23 u24 u25 u26 u27 u28 u29 u30 u31 u32 u33 u34 u35 u36 u37 u38 u39 u40 u41 u42 u43 u44 u45 u46 u47 u48 u49 u50 u51 u52 u53 u54 u55 u56 u57 u58 u59 u60 u61 u62 u63 u64 u65 u66 u67 u68 u69 u70 u71 u72 u73 u74 u75 u76 u77 u78 u79 u80 u81 u82 u83 u84 u85 u86 u87 u88 u89 u90 u91 u92 u93 u94 u95 u96 u97 u98 u99 u100 u101 u102 u103 u104 u105 u106 u107 u108 u109 u110 u111 u112 u113 u114 u115 u116 u117 u118 u119 u120 u121 u122 u123 u124 u125 u126 u127 u128 u129 u130 u131 u132 u133 u134 u135 u136 u137 u138 : Value) :
    ∀ cc, cfst (cskip 3 (cbody Try.f22)) = cc → ∀ cr, csnd (cskip 3 (cbody Try.f22)) = cr → ∀ R : Ending → World → Prop, Hid (∀ e w', DonePost r S (.slice a n c) l o w1 e w' → R e w') → ∀ K : Act → World → Prop, (∀ x y, Code.wp Try.prog cr (bodyPost Try.prog Try.f22 R) x y → K x y) →
      Code.wp Try.prog cc (Exit.then K (bodyPost Try.prog Try.f22 R)) { tmps := #[.pointer (some ⟨r, 0, none⟩), .slice a n c, u2, u3, u4, .pointer (some ⟨b, 0, none⟩), u6, u7, .int .i64 at_, u9, u10, u11, u12, u13, u14, u15, u16, u17, u18, u19, u20, u21, u22, u23, u24, u25, u26, u27, u28, u29, u30, u31, u32, u33, u34, u35, u36, u37, u38, u39, u40, u41, u42, u43, u44, u45, u46, u47, u48, u49, u50, u51, u52, u53, u54, u55, u56, u57, u58, u59, u60, u61, u62, u63, u64, u65, u66, u67, u68, u69, u70, u71, u72, u73, u74, u75, u76, u77, u78, u79, u80, u81, u82, u83, u84, u85, u86, u87, u88, u89, u90, u91, u92, u93, u94, u95, u96, u97, u98, u99, u100, u101, u102, u103, u104, u105, u106, u107, u108, u109, u110, u111, u112, u113, u114, u115, u116, u117, u118, u119, u120, u121, u122, u123, u124, u125, u126, u127, u128, u129, u130, u131, u132, u133, u134, u135, u136, u137, u138], defers := [] } w1 := by
  by_cases h0 : o.act = 0
  · exact done_set w1 r S l L a n c b o at_ h h0 _ _ _ _ _ _ _ _ _ _ _ _ _ _ _ _ _ _ _ _ _ _ _ _ _ _ _ _ _ _ _ _ _ _ _ _ _ _ _ _ _ _ _ _ _ _ _ _ _ _ _ _ _ _ _ _ _ _ _ _ _ _ _ _ _ _ _ _ _ _ _ _ _ _ _ _ _ _ _ _ _ _ _ _ _ _ _ _ _ _ _ _ _ _ _ _ _ _ _ _ _ _ _ _ _ _ _ _ _ _ _ _ _ _ _ _ _ _ _ _ _ _ _ _ _ _ _ _ _ _ _ _ _ _ _
  · by_cases h1 : o.act = 1
    · exact done_del w1 r S l L a n c b o at_ h h1 _ _ _ _ _ _ _ _ _ _ _ _ _ _ _ _ _ _ _ _ _ _ _ _ _ _ _ _ _ _ _ _ _ _ _ _ _ _ _ _ _ _ _ _ _ _ _ _ _ _ _ _ _ _ _ _ _ _ _ _ _ _ _ _ _ _ _ _ _ _ _ _ _ _ _ _ _ _ _ _ _ _ _ _ _ _ _ _ _ _ _ _ _ _ _ _ _ _ _ _ _ _ _ _ _ _ _ _ _ _ _ _ _ _ _ _ _ _ _ _ _ _ _ _ _ _ _ _ _ _ _ _ _ _ _
    · exact done_else w1 r S l L a n c b o at_ h h0 h1 _ _ _ _ _ _ _ _ _ _ _ _ _ _ _ _ _ _ _ _ _ _ _ _ _ _ _ _ _ _ _ _ _ _ _ _ _ _ _ _ _ _ _ _ _ _ _ _ _ _ _ _ _ _ _ _ _ _ _ _ _ _ _ _ _ _ _ _ _ _ _ _ _ _ _ _ _ _ _ _ _ _ _ _ _ _ _ _ _ _ _ _ _ _ _ _ _ _ _ _ _ _ _ _ _ _ _ _ _ _ _ _ _ _ _ _ _ _ _ _ _ _ _ _ _ _ _ _ _ _ _ _ _ _ _
end Go.Proofs.Ytbjfigegiffefaa

/- A step of the law, whole: it answers true, and ranks and list go on alike. -/
set_option linter.unusedVariables false
set_option linter.unusedSimpArgs false
namespace Pantry
open Go Go.RowKit
end Pantry
namespace Go.Proofs.Ytbjfigegiffefaa
open Go.RowKit Pantry

theorem AtIs.snoc {L : List Mb} {key : List UInt8} {at_ : Int} {k : Nat} {p : Mb} (h : AtIs (L.take k) key at_) (hp : L[k]? = some p) : AtIs (L.take (k + 1)) key (if p.1 = key then (k : Int) else at_) := by
  obtain ⟨hk, rfl⟩ := List.getElem?_eq_some_iff.1 hp
  have e := List.take_succ_eq_append_getElem hk
  have hl : (L.take k).length = k := by rw [List.length_take]; omega
  by_cases hq : L[k].1 = key
  · rw [if_pos hq]
    refine .inr ⟨k, L[k].2, ?_, rfl⟩
    rw [e, List.getElem?_append_right (by omega), hl, Nat.sub_self, ← hq]
    rfl
  · rw [if_neg hq]
    rcases h with ⟨h1, h2⟩ | ⟨i, y, h1, h2⟩
    · refine .inl ⟨fun q hm => ?_, h2⟩
      rw [e] at hm
      rcases List.mem_append.1 hm with hm | hm
      · exact h1 q hm
      · rw [List.mem_singleton.1 hm]; exact hq
    · exact .inr ⟨i, y, by rw [e, List.getElem?_append_left (List.getElem?_eq_some_iff.1 h1).1]; exact h1, h2⟩
set_option maxHeartbeats 8000000 in
set_option maxRecDepth 100000 in
theorem done_any (w : World) (r : Nat) (S : Nat → Prop) (l L : List Mb) (v : Value) (o : Stp) (hr : Rk w r S l) (hp : L.Perm l) (hv : w.ownsRow 0 41 2 v L.length (rkCells L)) (hvS : ∀ k, v.ownBlock = some k → ¬ S k) (hok : o.Ok) :
    Calls Try.prog 22 #[.pointer (some ⟨r, 0, none⟩), v, .agg o.cells.toArray] w (DonePost r S v l o w) := by
  obtain ⟨a, c, rfl, hrd⟩ := ownsRow_rd hv (rkCells_one L)
  have hf : L.length ≤ 1048576 := by rw [hp.length_eq]; exact hr.good.few
  obtain ⟨n, hn⟩ : ∃ n, L.length = n := ⟨_, rfl⟩
  rw [hn] at hv hvS hf ⊢
  obtain ⟨wb, hwb⟩ : ∃ wb, w.alloc (.cells o.cells.toArray 52) = wb := ⟨_, rfl⟩
  have hbb : Below w.heap.size w wb := by rw [← hwb]; exact (Below.refl _ w).alloc (Nat.le_refl _) _
  have hbx : wb.heap[w.heap.size]? = some (.cells o.cells.toArray 52) := by rw [← hwb]; exact heap_alloc_new w _
  have hsz : w.heap.size < wb.heap.size := block_lt hbx
  have HR := Lib.hid hr
  have HP := Lib.hid hp
  have HV := Lib.hid hv
  have HVS := Lib.hid hvS
  have HN := Lib.hid hn
  have HRD := Lib.hid hrd
  have HBB := Lib.hid hbb
  have HBX := Lib.hid hbx
  have HOK := Lib.hid hok
  have HTAIL : Hid (∀ W at_, Below w.heap.size w W → W.heap[w.heap.size]? = some (.cells o.cells.toArray 52) → AtIs L o.s at_ → TailIn W r S l L a n c w.heap.size o at_ ∧ Hid (∀ e w', DonePost r S (.slice a n c) l o W e w' → DonePost r S (.slice a n c) l o w e w')) := Lib.hid fun W at_ hW hbx hat => by
    have hc : Chg (fun _ => False) w W := Chg.of_below hW
    exact ⟨⟨HR.out.below hW, HP.out, Chg.ownsRow HV.out hc (fun _ _ e => e), HN.out, HVS.out, hbx, fun hs => by have := HR.out.lt _ hs; omega, HOK.out, hat⟩, Lib.hid fun e w' ⟨v', h1, h2⟩ => ⟨v', h1, h2.before hW⟩⟩
  obtain ⟨who, act, oi, oj, s, x, y, ox, oy⟩ := o
  show Calls Try.prog 22 #[.pointer (some ⟨r, 0, none⟩), .slice a n c, .agg #[.int .i64 who, .int .i64 act, .int .i64 oi, .int .i64 oj, .string ⟨s.toArray⟩, .int .u64 x, .int .u64 y, .bool ox, .bool oy]] w (DonePost r S (.slice a n c) l ⟨who, act, oi, oj, s, x, y, ox, oy⟩ w)
  replace hwb : w.alloc (.cells #[.int .i64 who, .int .i64 act, .int .i64 oi, .int .i64 oj, .string ⟨s.toArray⟩, .int .u64 x, .int .u64 y, .bool ox, .bool oy] 52) = wb := hwb
  clear hr hp hv hvS hn hrd hbb hbx hok
  go_enter Try.func22, Try.ntmps22
  go_wp2_with fail
  go_loopw [8, 17] (fun t i wr => ∃ (k : Nat) (at_ : Int), k ≤ n ∧ i = .int .i64 k ∧ t = .int .i64 at_ ∧ Hid (AtIs (L.take k) s at_) ∧ Hid (Below wb.heap.size wb wr)) (fun _ i _ => n - (intOf i).toNat)
  case atStart => exact ⟨0, -1, by omega, rfl, rfl, Lib.hid (.inl ⟨fun p hp => by simp at hp, rfl⟩), Lib.hid (Below.refl _ _)⟩
  case round =>
    clear hwb
    obtain ⟨k, at_, hk, rfl, rfl, HAT, HB⟩ := hrel
    have hbw : wr.heap[w.heap.size]? = _ := (HB.out.block _ hsz).trans HBX.out
    have HBW := Lib.hid hbw
    by_cases hlt : k < n
    · obtain ⟨p, hm⟩ : ∃ p, L[k]? = some p := ⟨_, List.getElem?_eq_getElem (by rw [HN.out]; exact hlt)⟩
      obtain ⟨y', rfl, e2, e3⟩ := mb_cells (HRD.out.below (HBB.out.trans (HB.out.mono HBB.out.size))) hm
      have HM := Lib.hid hm
      obtain ⟨ps, px⟩ := p
      obtain ⟨w5, hw5⟩ : ∃ w5, wr.alloc (.cells #[.string ⟨ps.toArray⟩, .float .f64 px] 41) = w5 := ⟨_, rfl⟩
      have hb5 : Below wr.heap.size wr w5 := by rw [← hw5]; exact (Below.refl _ wr).alloc (Nat.le_refl _) _
      have hx5 : w5.heap[wr.heap.size]? = some (.cells #[.string ⟨ps.toArray⟩, .float .f64 px] 41) := by rw [← hw5]; exact heap_alloc_new wr _
      obtain ⟨⟨f0, f1⟩, -⟩ := two hx5
      have f4 : w5.cell? ⟨w.heap.size, 4, none⟩ = some (.string ⟨s.toArray⟩) := cell_of_row w5 _ 4 _ _ _ ((hb5.block _ (block_lt hbw)).trans hbw)
      have HB5 := Lib.hid (HB.out.trans (hb5.mono HB.out.size))
      have HW5 := Lib.hid hw5
      clear hm hb5 hx5 hw5 hbw
      by_cases hq : ps = s
      · have hqb : (ps == s) = true := by simpa using hq
        have HA2 : Hid (AtIs (L.take (k + 1)) s (k : Int)) := Lib.hid (by have := HAT.out.snoc HM.out; rwa [if_pos hq] at this)
        clear hq
        go_upto_region 5 with fail
        rw [HW5.out]
        go_wp2_with fail
        go_roundw
        case rel => exact ⟨k + 1, k, by omega, by go_num, rfl, HA2, HB5⟩
        case measure => simp [intOf]; omega
      · have hqb : (ps == s) = false := by simpa using hq
        have HA2 : Hid (AtIs (L.take (k + 1)) s at_) := Lib.hid (by have := HAT.out.snoc HM.out; rwa [if_neg hq] at this)
        clear hq
        go_upto_region 5 with fail
        rw [HW5.out]
        go_wp2_with fail
        go_roundw
        case rel => exact ⟨k + 1, at_, by omega, by go_num, rfl, HA2, HB5⟩
        case measure => simp [intOf]; omega
    · obtain rfl : k = n := by omega
      obtain ⟨ht, hpost⟩ := HTAIL.out wr at_ (HBB.out.trans (HB.out.mono HBB.out.size)) hbw (by have := HAT.out; rwa [List.take_of_length_le (by rw [HN.out]; omega)] at this)
      have HT := Lib.hid ht
      clear ht hbw HAT
      go_upto_region 8 with fail
      exact done_tail wr r S l L a k c w.heap.size _ at_ HT.out _ _ _ _ _ _ _ _ _ _ _ _ _ _ _ _ _ _ _ _ _ _ _ _ _ _ _ _ _ _ _ _ _ _ _ _ _ _ _ _ _ _ _ _ _ _ _ _ _ _ _ _ _ _ _ _ _ _ _ _ _ _ _ _ _ _ _ _ _ _ _ _ _ _ _ _ _ _ _ _ _ _ _ _ _ _ _ _ _ _ _ _ _ _ _ _ _ _ _ _ _ _ _ _ _ _ _ _ _ _ _ _ _ _ _ _ _ _ _ _ _ _ _ _ _ _ _ _ _ _ _ _ _ _ _ _ rfl _ rfl _ hpost _ (by assumption)
end Go.Proofs.Ytbjfigegiffefaa

/- Ranks and a plain list behind a script. -/
set_option linter.unusedVariables false
set_option linter.unusedSimpArgs false
namespace Pantry
open Go Go.RowKit
theorem ownsRow_up {w : World} {e : TypeId} {size : Nat} {B : Nat} {v : Value} {n : Nat} {xs : List Value} (h : w.ownsRow 0 e size v n xs) (hB : ∀ k, v.ownBlock = some k → B ≤ k) : w.ownsRow B e size v n xs := by
  refine ⟨h.1, ?_⟩
  rcases h.2 with hn | ⟨g, cap, cur, rfl, h1, r⟩
  · exact .inl hn
  · exact .inr ⟨g, cap, cur, rfl, hB g rfl, r⟩
theorem copied {wr w3 : World} {z cells : Array Value} {t : TypeId} (hw : (wr.alloc (.cells z t)).setRow wr.heap.size cells = w3) : w3.heap[wr.heap.size]? = some (.cells cells t) ∧ w3.heap.size = wr.heap.size + 1 ∧ Below wr.heap.size wr w3 := by
  subst hw
  refine ⟨setRow_heap _ _ _ _ _ _ (heap_alloc_new wr _), by simp [World.setRow], ?_⟩
  exact (((Chg.refl (fun _ => False) wr).alloc _).setRow (fun e => absurd e (Nat.lt_irrefl _)) _).below (Nat.le_refl _) fun _ h => h.elim
end Pantry
namespace Go.Proofs.Ytbjfigegiffefaa
open Go.RowKit Pantry

/-- Ranks and a list of the law's own: the list holds what the ranks hold. -/
structure Twin (w : World) (r : Nat) (v : Value) (l : List Mb) (wr : World) : Prop where
  ex : ∃ S L, Rk wr r S l ∧ (∀ k, S k → w.heap.size ≤ k) ∧ L.Perm l ∧ wr.ownsRow 0 41 2 v L.length (rkCells L) ∧ ∀ k, v.ownBlock = some k → ¬ S k ∧ w.heap.size ≤ k
  under : Below w.heap.size w wr
theorem Twin.below {w : World} {r : Nat} {v : Value} {l : List Mb} {wr w' : World} (h : Twin w r v l wr) (hb : Below wr.heap.size wr w') : Twin w r v l w' := by
  obtain ⟨⟨S, L, h1, h2, h3, h4, h5⟩, h6⟩ := h
  exact ⟨⟨S, L, h1.below hb, h2, h3, ownsRow_belowAll h4 hb, h5⟩, h6.trans (hb.mono h6.size)⟩
theorem Twin.done {w : World} {r : Nat} {v : Value} {l : List Mb} {wr : World} (h : Twin w r v l wr) (o : Stp) (hok : o.Ok) :
    Calls Try.prog 22 #[.pointer (some ⟨r, 0, none⟩), v, .agg o.cells.toArray] wr fun e w' => ∃ v', e = .returned (.tuple #[v', .bool true]) ∧ Twin w r v' (stepL l o) w' := by
  obtain ⟨⟨S, L, h1, h2, h3, h4, h5⟩, h6⟩ := h
  refine (done_any wr r S l L v o h1 h3 h4 (fun k hk => (h5 k hk).1) hok).mono ?_
  rintro e w' ⟨v', rfl, ⟨S', L', q1, q2, q3, q4, q5⟩, q6, q7⟩
  refine ⟨v', rfl, ⟨S', L', q1, fun k hk => (q2 k hk).elim (h2 k) fun hh => Nat.le_trans h6.size hh, q3, q4, fun k hk => ⟨q5 k hk, (q6 k hk).elim (fun hh => (h5 k hh).2) fun hh => Nat.le_trans h6.size hh⟩⟩, h6.trans (q7.below h6.size ?_)⟩
  rintro k (hk | hk)
  · exact h2 k hk
  · exact (h5 k hk).2
theorem Twin.slice {w : World} {r : Nat} {v : Value} {l : List Mb} {wr : World} (h : Twin w r v l wr) : ∃ a c, v = .slice a l.length c := by
  obtain ⟨⟨S, L, h1, h2, h3, h4, h5⟩, h6⟩ := h
  obtain ⟨a, c, rfl, -⟩ := ownsRow_rd h4 (rkCells_one L)
  exact ⟨a, c, by rw [h3.length_eq]⟩
/-- The members behind a script. -/
def runL (ops : List Stp) : List Mb := ops.foldl stepL []
theorem runL_snoc {ops : List Stp} {k : Nat} {o : Stp} (h : ops[k]? = some o) : stepL (runL (ops.take k)) o = runL (ops.take (k + 1)) := by
  obtain ⟨hk, rfl⟩ := List.getElem?_eq_some_iff.1 h
  unfold runL
  rw [List.take_succ_eq_append_getElem hk, List.foldl_append]
  rfl
def BuiltPost (ops : List Stp) (w : World) (e : Ending) (w' : World) : Prop := ∃ r v, e = .returned (.tuple #[.pointer (some ⟨r, 0, none⟩), v, .bool true]) ∧ Twin w r v (runL ops) w'
set_option maxHeartbeats 8000000 in
set_option maxRecDepth 100000 in
theorem built_any (w : World) (seed : Nat) (hs : seed < 18446744073709551616) (a : Option Addr) (n c : Nat) (ops : List Stp) (hl : OpsAt w a n ops) : Calls Try.prog 11 #[.int .u64 seed, .slice a n c] w (BuiltPost ops w) := by
  have HN1 := Lib.hid (Rk.new w seed hs)
  have HL := Lib.hid hl
  have hn := hl.few
  clear hl hs
  have HS9 := Lib.hid (show (Try.prog.info? 52).map (·.size) = some 9 by kernel_rfl)
  go_enter Try.func11, Try.ntmps11
  go_wp2_with (go_at_call 18; refine HN1.out.mono ?_; rintro e w1 ⟨r, S, rfl, hr, hb, hS⟩
               have HT : Hid (Twin w r (.slice none 0 0) (runL (ops.take 0)) w1) := Lib.hid ⟨⟨S, [], hr, hS, List.Perm.refl _, World.ownsRow_nil _ _ _ _, fun k hk => by cases hk⟩, hb⟩
               clear hr hb hS)
  clear HN1
  go_loopw [8, 17] (fun v i wr => ∃ k : Nat, k ≤ n ∧ i = .int .i64 k ∧ Hid (Twin w r v (runL (ops.take k)) wr)) (fun _ i _ => n - (intOf i).toNat)
  case atStart => exact ⟨0, by omega, rfl, HT⟩
  case round =>
    clear HT
    obtain ⟨k, hk, rfl, HT⟩ := hrel
    by_cases hlt : k < n
    · obtain ⟨o, hok⟩ : ∃ o, ops[k]? = some o := ⟨_, List.getElem?_eq_getElem (by rw [HL.out.len]; exact hlt)⟩
      obtain ⟨y, hy, hcells⟩ := (HL.out.keep HT.out.under).cell k _ hok
      subst hy
      have HCL := Lib.hid (show ∀ j u, o.cells[j]? = some u → wr.cell? ((y.add (k * 9)).add j) = some u from fun j u hj => by rw [Addr.add_add]; exact hcells j u hj)
      have HOK := Lib.hid (HL.out.ok _ (List.mem_of_getElem? hok))
      have HRS := Lib.hid (runL_snoc hok)
      have HD := Lib.hid (fun W (hW : Below wr.heap.size wr W) => (HT.out.below hW).done o HOK.out)
      obtain ⟨va, vc, rfl⟩ := HT.out.slice
      clear hok hcells
      go_wp2_with (first
        | (refine wpl_load_at rfl _ _ rfl _ rfl _ _ HCL.out Try.underlying52 rfl HS9.out ?_)
        | (refine wpList_store_row rfl _ _ _ rfl wr.heap.size o.cells.toArray rfl rfl _ _ (heap_alloc_new wr _) HS9.out rfl (cells_one _) ?_
           generalize hw3 : World.setRow _ wr.heap.size o.cells.toArray = w3
           obtain ⟨f1, f2, f3⟩ := copied hw3
           have HF1 := Lib.hid f1
           have HD3 := Lib.hid (HD.out w3 f3)
           clear hw3 f1 f2 f3 HD)
        | (refine wpList_load_row rfl _ _ rfl wr.heap.size rfl _ o.cells.toArray (0, 0) _ HF1.out Try.underlying52 rfl HS9.out ?_)
        | (go_at_call 22; refine HD3.out.mono ?_; clear HD3; rintro e w4 ⟨v', rfl, ht⟩
           rw [HRS.out] at ht
           have HT4 := Lib.hid ht
           clear ht))
      go_roundw
      case rel => exact ⟨k + 1, by omega, by go_num, HT4⟩
      case measure => simp [intOf]; omega
    · obtain rfl : k = n := by omega
      obtain ⟨va, vc, rfl⟩ := HT.out.slice
      have HE : Hid (BuiltPost ops w (.returned (.tuple #[.pointer (some ⟨r, 0, none⟩), .slice va (runL (ops.take k)).length vc, .bool true])) wr) := Lib.hid ⟨r, _, rfl, by have := HT.out; rw [List.take_of_length_le (by rw [HL.out.len]; exact Nat.le_refl _)] at this ⊢; exact this⟩
      go_wp2_with fail
      go_ret3
      exact HE.out
end Go.Proofs.Ytbjfigegiffefaa

/- Two seeds, and the members set in the opposite order: the same row. The walk. -/
set_option linter.unusedVariables false
set_option linter.unusedSimpArgs false
namespace Pantry
open Go Go.RowKit
theorem rises_uniq : ∀ {l k : List Mb}, Rises l → Rises k → l.Perm k → l = k
  | [], k, _, _, hp => by simpa using hp.symm.eq_nil
  | p :: l, [], _, _, hp => by simp at hp
  | p :: l, q :: k, hl, hk, hp => by
    have hl' := List.pairwise_cons.1 hl
    have hk' := List.pairwise_cons.1 hk
    have e : p = q := by
      rcases List.mem_cons.1 (hp.mem_iff.1 List.mem_cons_self) with h | h
      · exact h
      · rcases List.mem_cons.1 (hp.mem_iff.2 List.mem_cons_self) with h2 | h2
        · exact h2.symm
        · have h3 := hk'.1 p h
          have h4 := hl'.1 q h2
          exact absurd (cmpR_trans h3 h4) (cmpR_irrefl q)
    subst e
    rw [rises_uniq hl'.2 hk'.2 (List.Perm.cons_inv hp)]
theorem segR_all (l : List Mb) : segR l 0 (l.length : Nat) = l := by
  unfold segR
  rw [show (max (0 : Int) 0).toNat = 0 by omega, show (min ((l.length : Nat) : Int) (l.length : Nat)).toNat = l.length by omega, List.take_length, List.drop_zero]
end Pantry
namespace Go.Proofs.Ytbjfigegiffefaa
open Go.RowKit Pantry

/-- A member that is new to ranks with room is taken. -/
theorem SetC.taken {l l' : List Mb} {key : List UInt8} {x : Nat} {new : Bool} {code : Int} (h : SetC l key x l' new code) (hk : ∀ p ∈ l, p.1 ≠ key) (ht : key.length ≤ 1048576) (hx : ¬ fnan x) (hf : l.length < 1048576) : new = true ∧ code = 0 ∧ l'.Perm ((key, x) :: l) := by
  cases h with
  | long h => omega
  | nan h hx' => exact absurd hx' hx
  | full h hx' hk' hf' => omega
  | same h hx' y hy he => exact absurd rfl (hk _ hy)
  | moved h hx' i y j hy he hj => exact absurd rfl (hk _ (List.mem_of_getElem? hy))
  | fresh h hx' hk' hf' j hj => exact ⟨rfl, rfl, ins_perm l j _⟩
/-- The entries, read. -/
theorem Twin.entries {w : World} {r : Nat} {v : Value} {l : List Mb} {wr : World} (h : Twin w r v l wr) : ∃ L a c, v = .slice a l.length c ∧ L.Perm l ∧ Rd wr a (rkCells L) ∧ L.length = l.length := by
  obtain ⟨⟨S, L, h1, h2, h3, h4, h5⟩, h6⟩ := h
  obtain ⟨a, c, rfl, hrd⟩ := ownsRow_rd h4 (rkCells_one L)
  exact ⟨L, a, c, by rw [h3.length_eq], h3, hrd, h3.length_eq⟩
theorem Twin.good {w : World} {r : Nat} {v : Value} {l : List Mb} {wr : World} (h : Twin w r v l wr) : RkGood l ∧ (l.map (·.1)).Nodup := by
  obtain ⟨⟨S, L, h1, h2, h3, h4, h5⟩, h6⟩ := h
  exact ⟨h1.good, h1.keys⟩
theorem Twin.range {w : World} {r : Nat} {v : Value} {l : List Mb} {wr : World} (h : Twin w r v l wr) (x y : Int) {m : List Mb} {n : Nat} (hm : segR l x y = m) (hn : m.length = n) : Calls Try.prog 12 #[.pointer (some ⟨r, 0, none⟩), .int .i64 x, .int .i64 y] wr (RowPost n m wr) := by
  obtain ⟨⟨S, L, h1, h2, h3, h4, h5⟩, h6⟩ := h
  exact St.range (w := w) (N := fun _ => False) ⟨S, h1, h2, h6, fun _ _ e => e, fun _ e => e.elim⟩ x y hm hn
theorem Twin.len {w : World} {r : Nat} {v : Value} {l : List Mb} {wr : World} (h : Twin w r v l wr) : Calls Try.prog 13 #[.pointer (some ⟨r, 0, none⟩)] wr fun e w' => e = .returned (.int .i64 (l.length : Nat)) ∧ wr = w' := by
  obtain ⟨⟨S, L, h1, h2, h3, h4, h5⟩, h6⟩ := h
  exact h1.len
theorem Twin.cost {w : World} {r : Nat} {v : Value} {l : List Mb} {wr : World} (h : Twin w r v l wr) : Calls Try.prog 17 #[.pointer (some ⟨r, 0, none⟩)] wr fun e w' => e = .returned (.int .i64 (rkCost l : Nat)) ∧ wr = w' := by
  obtain ⟨⟨S, L, h1, h2, h3, h4, h5⟩, h6⟩ := h
  exact h1.cost
set_option maxHeartbeats 8000000 in
set_option maxRecDepth 100000 in
theorem anyway_walk (w : World) (one two : Nat) (h1 : one < 18446744073709551616) (h2 : two < 18446744073709551616) (a : Option Addr) (n c : Nat) (ops : List Stp) (hl : OpsAt w a n ops) :
    Calls Try.prog 4 #[.int .u64 one, .int .u64 two, .slice a n c] w (OkPost w) := by
  have HW := Lib.hid (wakes_any w)
  have HL := Lib.hid hl
  have H1 := Lib.hid h1
  have HN := Lib.hid (fun W => Rk.new W two h2)
  clear hl h1 h2
  go_enter Try.func4, Try.ntmps4
  go_wp2_with (first
    | (go_at_call 10; refine HW.out.mono ?_; rintro e w1 ⟨rfl, hb⟩
       have HB := Lib.hid hb
       have HBU := Lib.hid (built_any w1 one H1.out a n c ops (HL.out.keep hb))
       clear hb)
    | (go_at_call 11; refine HBU.out.mono ?_; rintro e w2 ⟨r, v, rfl, ht⟩
       have HT := Lib.hid ht
       have HN2 := Lib.hid (HN.out w2)
       obtain ⟨L, a2, c2, rfl, hp, hrd, hlen⟩ := ht.entries
       have hf := ht.good.1.few
       obtain ⟨m, hm⟩ : ∃ m, (runL ops).length = m := ⟨_, rfl⟩
       rw [hm] at hlen hf
       have HLL := Lib.hid (show _ ∧ _ ∧ _ ∧ _ from ⟨hp, hrd, hlen, hm⟩)
       rw [hm]
       rw [hm] at HT
       clear ht hp hrd hlen hm HBU)
    | (go_at_call 18; refine HN2.out.mono ?_; rintro e w3 ⟨b, S, rfl, hr, hb, hS⟩
       have HST := Lib.hid (St.made (Below.refl _ w2) hr hb hS)
       clear hr hb hS HN2))
  clear HN HW
  go_loopw [11] (fun i wr => ∃ (k : Nat) (lb : List Mb), k ≤ m ∧ i = .int .i64 ((k : Int) - 1) ∧ Hid (St w2 b lb (fun _ => False) wr) ∧ Hid (lb.Perm (L.drop k))) (fun i _ => ((intOf i) + 1).toNat)
  case atStart => exact ⟨m, [], Nat.le_refl _, rfl, HST, Lib.hid (by rw [List.drop_of_length_le (by rw [HLL.out.2.2.1]; exact Nat.le_refl _)])⟩
  case round =>
    obtain ⟨k, lb, hk, rfl, HS, HPM⟩ := hrel
    cases k with
    | succ j =>
      rw [show (((j + 1 : Nat) : Int) - 1) = (j : Int) by omega]
      obtain ⟨p, hj⟩ : ∃ p, L[j]? = some p := ⟨_, List.getElem?_eq_getElem (by rw [HLL.out.2.2.1]; omega)⟩
      obtain ⟨y, rfl, e2, e3⟩ := mb_cells (HLL.out.2.1.below HS.out.under) hj
      have hdrop : L.drop j = p :: L.drop (j + 1) := by
        obtain ⟨hjl, rfl⟩ := List.getElem?_eq_some_iff.1 hj
        exact List.drop_eq_getElem_cons hjl
      have HSET : Hid (Calls Try.prog 19 #[.pointer (some ⟨b, 0, none⟩), .string ⟨p.1.toArray⟩, .float .f64 p.2] wr.drew fun e w' => e = .returned (.tuple #[.bool true, .int .i64 0]) ∧ ∃ lb', St w2 b lb' (fun _ => False) w' ∧ lb'.Perm (L.drop j)) := Lib.hid (by
        have hpl : p ∈ runL ops := HLL.out.1.mem_iff.1 (List.mem_of_getElem? hj)
        obtain ⟨hg, hnd⟩ := HT.out.good
        have hst : St w2 b lb (fun _ => False) wr.drew := HS.out.below (Below.refl _ _).drew
        refine (hst.set p.1 p.2 (by have := hg.text p hpl; omega)).mono ?_
        rintro e w' ⟨⟨l', new, code, q1, rfl, q3⟩, -⟩
        obtain ⟨rfl, rfl, hpm⟩ := SetC.taken q1 (by
          intro q hq hqk
          have hq2 := HPM.out.mem_iff.1 hq
          have hnL : (L.map (·.1)).Nodup := (HLL.out.1.map _).nodup_iff.2 hnd
          rw [← List.take_append_drop j L, hdrop, List.map_append, List.map_cons, List.nodup_append] at hnL
          exact (List.nodup_cons.1 hnL.2.1).1 (List.mem_map.2 ⟨q, hq2, hqk⟩)) (hg.text p hpl) (hg.num p hpl) (by
          rw [HPM.out.length_eq, List.length_drop, HLL.out.2.2.1]
          omega)
        exact ⟨rfl, l', q3, by rw [hdrop]; exact hpm.trans (HPM.out.cons p)⟩)
      have hjm : j < m := by omega
      have hge : decide ((0 : Int) ≤ (j : Int)) = true := by simp
      clear hj hdrop
      go_wp2_with fail
      go_region_with (go_at_call 19; refine HSET.out.mono ?_; clear HSET; rintro e w5 ⟨rfl, lb', hst, hpm⟩
                      have HS5 := Lib.hid hst
                      have HP5 := Lib.hid hpm
                      clear hst hpm)
      all_goals
        go_wp2_with fail
        go_roundw
        case rel => exact ⟨j, lb', by omega, by first | rfl | go_num, HS5, HP5⟩
        case measure => simp [intOf]; try omega
    | zero =>
      have hlt : decide ((0 : Int) ≤ ((0 : Nat) : Int) - 1) = false := by simp
      have hlb : lb = runL ops := rises_uniq HS.out.good.rises HT.out.good.1.rises (by have := HPM.out; rw [List.drop_zero] at this; exact this.trans HLL.out.1)
      subst hlb
      have HTW := Lib.hid (HT.out.below HS.out.under)
      have HM := Lib.hid HLL.out.2.2.2
      have HLN := Lib.hid HTW.out.len
      have HLN2 := Lib.hid HS.out.len
      rw [HM.out] at HLN HLN2
      have HR1 := Lib.hid (HTW.out.range 0 m (m := runL ops) (n := m) (by have := segR_all (runL ops); rwa [HM.out] at this) HM.out)
      have HSM := Lib.hid (sameB_refl (l := runL ops))
      have HUN := Lib.hid (HB.out.trans ((HT.out.under.trans (HS.out.under.mono HT.out.under.size)).mono HB.out.size))
      clear HPM
      go_wp2_with (first
        | (go_at_call 13; refine HLN.out.mono ?_; clear HLN; rintro e w6 ⟨rfl, rfl⟩)
        | (go_at_call 12; refine HR1.out.mono ?_; clear HR1; rintro e w7 ⟨a7, c7, rfl, hrd, -, hb7⟩
           have HRD7 := Lib.hid hrd
           have HTW7 := Lib.hid (HTW.out.below hb7)
           have HS7 := Lib.hid (HS.out.below hb7)
           have HUN7 := Lib.hid (HUN.out.trans (hb7.mono HUN.out.size))
           have HLN3 := Lib.hid HS7.out.len
           rw [HM.out] at HLN3
           have HR2 := Lib.hid (HS7.out.range 0 m (m := runL ops) (n := m) (by have := segR_all (runL ops); rwa [HM.out] at this) HM.out)
           clear hrd hb7 HLN2)
        | (go_at_call 13; refine HLN3.out.mono ?_; clear HLN3; rintro e w8 ⟨rfl, rfl⟩)
        | (go_at_call 12; refine HR2.out.mono ?_; clear HR2; rintro e w9 ⟨a9, c9, rfl, hrd, -, hb9⟩
           have HRD9 := Lib.hid hrd
           have HRD8 := Lib.hid (HRD7.out.below hb9)
           have HTW9 := Lib.hid (HTW7.out.below hb9)
           have HS9 := Lib.hid (HS7.out.below hb9)
           have HUN9 := Lib.hid (HUN7.out.trans (hb9.mono HUN7.out.size))
           clear hrd hb9)
        | (go_at_call 20; refine (same_any _ _ m m _ _ (runL ops) (runL ops) _ HM.out HM.out (by omega) HRD8.out HRD9.out).mono ?_; rintro e w10 ⟨rfl, q10, rfl⟩
           rw [HSM.out]
           have hq : Below w9.heap.size w9 (w9.drewN q10) := belowN (Below.refl _ _)
           have HC1 := Lib.hid ((HTW9.out.below hq).cost)
           have HC2 := Lib.hid ((HS9.out.below hq).cost)
           have HU10 := Lib.hid (HUN9.out.trans (hq.mono HUN9.out.size))
           clear hq)
        | (go_at_call 17; refine HC1.out.mono ?_; clear HC1; rintro e w11 ⟨rfl, rfl⟩)
        | (go_at_call 17; refine HC2.out.mono ?_; clear HC2; rintro e w11 ⟨rfl, rfl⟩))
      go_ret
      exact ⟨by simp, HU10.out⟩
end Go.Proofs.Ytbjfigegiffefaa

/- Behind every script all members stand once, in order, each at its place. The walk. -/
set_option linter.unusedVariables false
set_option linter.unusedSimpArgs false
namespace Pantry
open Go Go.RowKit
theorem rkCost_take {l : List Mb} {k : Nat} {p : Mb} (h : l[k]? = some p) : rkCost (l.take (k + 1)) = rkCost (l.take k) + (40 + p.1.length) := by
  obtain ⟨hk, rfl⟩ := List.getElem?_eq_some_iff.1 h
  rw [List.take_succ_eq_append_getElem hk]
  simp only [rkCost, List.map_append, List.sum_append, List.map_cons, List.map_nil, List.sum_cons, List.sum_nil]
  omega
end Pantry
namespace Go.Proofs.Ytbjfigegiffefaa
open Go.RowKit Pantry

/-- The block of a slice. -/
def BlkOf (a : Option Addr) (k : Nat) : Prop := ∃ x, a = some x ∧ x.block = k
theorem rd_stay {N : Nat → Prop} {w w' : World} {a : Option Addr} {xs : List Value} (h : Rd w a xs) (hs : Stay N w w') (hN : ∀ k, BlkOf a k → N k) : Rd w' a xs :=
  h.of_block fun x hx _ => hs.2 _ (hN _ ⟨x, hx, rfl⟩)
theorem St.sub {w : World} {r : Nat} {l : List Mb} {N M : Nat → Prop} {wr : World} (h : St w r l N wr) (hM : ∀ k, M k → N k) : St w r l M wr := by
  obtain ⟨S, h1, h2, h3, h4, h5⟩ := h
  exact ⟨S, h1, h2, h3, fun k hk hm => h4 k hk (hM k hm), fun k hk => h5 k (hM k hk)⟩
theorem Stay.below {N : Nat → Prop} {w w' : World} (hb : Below w.heap.size w w') (hN : ∀ k, N k → k < w.heap.size) : Stay N w w' := ⟨hb.size, fun k hk => hb.block k (hN k hk)⟩
theorem Twin.st {w : World} {r : Nat} {a : Option Addr} {n c : Nat} {l : List Mb} {wr : World} (h : Twin w r (.slice a n c) l wr) : St w r l (BlkOf a) wr := by
  obtain ⟨⟨S, L, h1, h2, h3, h4, h5⟩, h6⟩ := h
  have hown : ∀ k, BlkOf a k → (Value.slice a n c).ownBlock = some k := by
    rintro k ⟨x, rfl, rfl⟩
    rcases h4.2 with ⟨hv, -⟩ | ⟨g, cap, cur, hv, -⟩ <;> cases hv <;> rfl
  exact ⟨S, h1, h2, h6, fun k hk hb => (h5 k (hown k hb)).1 hk, fun k hk => (h4.lt k (hown k hk)).2⟩
theorem cmpR_split {p q : Mb} (h : cmpR q p < 0) : fkey q.2 < fkey p.2 ∨ (fkey q.2 = fkey p.2 ∧ Op.bytesLess q.1 p.1 = true) := by
  rcases cmpR_lt.1 h with h | ⟨h1, h2⟩
  · exact .inl h
  · exact .inr ⟨h1, by rw [bytesLess_iff]; simpa using h2⟩
set_option maxHeartbeats 16000000 in
set_option maxRecDepth 100000 in
theorem orders_walk (w : World) (seed : Nat) (hs : seed < 18446744073709551616) (a : Option Addr) (n c : Nat) (ops : List Stp) (hl : OpsAt w a n ops) :
    Calls Try.prog 3 #[.int .u64 seed, .slice a n c] w (OkPost w) := by
  have HW := Lib.hid (wakes_any w)
  have HL := Lib.hid hl
  have H1 := Lib.hid hs
  clear hl hs
  go_enter Try.func3, Try.ntmps3
  go_wp2_with (first
    | (go_at_call 10; refine HW.out.mono ?_; rintro e w1 ⟨rfl, hb⟩
       have HB := Lib.hid hb
       have HBU := Lib.hid (built_any w1 seed H1.out a n c ops (HL.out.keep hb))
       clear hb)
    | (go_at_call 11; refine HBU.out.mono ?_; rintro e w2 ⟨r, v, rfl, ht⟩
       have HT := Lib.hid ht
       have HG := Lib.hid ht.good
       obtain ⟨L, a2, c2, rfl, hp, hrd, hlen⟩ := ht.entries
       have hf := ht.good.1.few
       obtain ⟨l, hll⟩ : ∃ l, runL ops = l := ⟨_, rfl⟩
       rw [hll] at hlen hf hp HG HT
       rw [hll]
       obtain ⟨m, hm⟩ : ∃ m, l.length = m := ⟨_, rfl⟩
       rw [hm] at hlen hf HT
       rw [hm]
       have HLL := Lib.hid (show _ ∧ _ ∧ _ ∧ _ from ⟨hp, hrd, hlen, hm⟩)
       have HLN := Lib.hid (HT.out.len)
       rw [hm] at HLN
       have HR1 := Lib.hid (HT.out.range 0 m (m := l) (n := m) (by have := segR_all l; rwa [hm] at this) hm)
       have HST2 := Lib.hid HT.out.st
       clear ht hp hrd hlen hm hll HBU)
    | (go_at_call 13; refine HLN.out.mono ?_; rintro e w3 ⟨rfl, rfl⟩)
    | (go_at_call 12; refine HR1.out.mono ?_; clear HR1; rintro e w3 ⟨a3, c3, rfl, hrd, hblk, hb⟩
       have HRD3 := Lib.hid hrd
       have HRL3 := Lib.hid (HLL.out.2.1.below hb)
       have HST3 : Hid (St w1 r l (fun k => BlkOf a3 k ∨ BlkOf a2 k) w3) := Lib.hid (HST2.out.watch hb fun k hk => by
         rcases hk with ⟨x, hx, rfl⟩ | hk
         · exact ⟨.inl (hblk x hx).1, (hblk x hx).2⟩
         · exact ⟨.inr hk, Nat.lt_of_lt_of_le (HST2.out.own k hk) hb.size⟩)
       have HLN3 := Lib.hid HST3.out.len
       rw [HLL.out.2.2.2] at HLN3
       clear hrd hblk hb HLN)
    | (go_at_call 13; refine HLN3.out.mono ?_; rintro e w4 ⟨rfl, rfl⟩))
  clear HW HLN3 HST2
  go_loopw [9, 50] (fun x i wr => ∃ k : Nat, k ≤ m ∧ i = .int .i64 k ∧ x = .int .i64 (rkCost (l.take k) : Nat) ∧ Hid (St w1 r l (fun k => BlkOf a3 k ∨ BlkOf a2 k) wr) ∧ Hid (Rd wr a3 (rkCells l)) ∧ Hid (Rd wr a2 (rkCells L))) (fun _ i _ => m - (intOf i).toNat)
  case atStart => exact ⟨0, by omega, rfl, rfl, HST3, HRD3, HRL3⟩
  case round =>
    clear HST3 HRD3 HRL3
    obtain ⟨k, hk, rfl, rfl, HS, HRR, HRL⟩ := hrel
    by_cases hlt : k < m
    · obtain ⟨p, hp⟩ : ∃ p, l[k]? = some p := ⟨_, List.getElem?_eq_getElem (by rw [HLL.out.2.2.2]; exact hlt)⟩
      obtain ⟨y, rfl, e2, e3⟩ := mb_cells HRR.out hp
      have hct := rkCost_take hp
      have hcb := rkCost_le (l := l.take (k + 1)) fun q hq => HG.out.1.text q (List.mem_of_mem_take hq)
      have hcl : (l.take (k + 1)).length ≤ 1048576 := by rw [List.length_take]; have := HG.out.1.few; omega
      have hcb2 : rkCost (l.take (k + 1)) ≤ 1048576 * 1048616 := Nat.le_trans hcb (Nat.mul_le_mul_right _ hcl)
      obtain ⟨w5, hw5⟩ : ∃ w5, wr.alloc (.cells #[.string ⟨p.1.toArray⟩, .float .f64 p.2] 34) = w5 := ⟨_, rfl⟩
      have hb5 : Below wr.heap.size wr w5 := by rw [← hw5]; exact (Below.refl _ wr).alloc (Nat.le_refl _) _
      have hs5 : w5.heap.size = wr.heap.size + 1 := by rw [← hw5]; simp
      have hx5 : w5.heap[wr.heap.size]? = some (.cells #[.string ⟨p.1.toArray⟩, .float .f64 p.2] 34) := by rw [← hw5]; exact heap_alloc_new wr _
      have HNUM := Lib.hid (HG.out.1.num p (List.mem_of_getElem? hp))
      have HTXT := HG.out.1.text p (List.mem_of_getElem? hp)
      -- what Rank and Score do behind here
      have HRK : Hid (∀ W, Below wr.heap.size wr W → W.heap[wr.heap.size]? = some (.cells #[.string ⟨p.1.toArray⟩, .float .f64 p.2] 34) → St w1 r l (fun j => (BlkOf (some y) j ∨ BlkOf a2 j) ∨ j = wr.heap.size) W ∧ Rd W (some y) (rkCells l) ∧ Rd W a2 (rkCells L)) := Lib.hid fun W hW hx =>
        ⟨HS.out.watch hW fun j hj => by
          rcases hj with hj | rfl
          · exact ⟨.inr hj, Nat.lt_of_lt_of_le (HS.out.own j hj) hW.size⟩
          · exact ⟨.inl (Nat.le_refl _), block_lt hx⟩, HRR.out.below hW, HRL.out.below hW⟩
      have HAL := Lib.hid (fun W => alike_any W p.2 p.2)
      have HAB : Hid (alikeB p.2 p.2 = true) := Lib.hid (by rw [alikeB_num HNUM.out HNUM.out]; simp)
      have HP := Lib.hid hp
      have HB5 := Lib.hid hb5
      have HX5 := Lib.hid hx5
      obtain ⟨⟨g0, g1⟩, -⟩ := two hx5
      have HW5 := Lib.hid hw5
      have HCT := Lib.hid hct
      obtain ⟨c0, hc0⟩ : ∃ c0, rkCost (l.take k) = c0 := ⟨_, rfl⟩
      have HC0 := Lib.hid hc0
      rw [hc0] at hct
      rw [hct] at hcb2
      rw [hc0]
      clear hp hb5 hx5 hw5 hct hcb hcl hc0
      by_cases hk0 : k = 0
      · have hgt : decide ((0 : Int) < (k : Int)) = false := by simp; omega
        have hgt2 : ¬ (0 : Int) < (k : Int) := by omega
        obtain ⟨hst5, hr5, hr5'⟩ := HRK.out w5 HB5.out HX5.out
        have HRC := Lib.hid (hst5.rankK (i := k) p.1 p.2 HP.out (by omega))
        have HRD5 := Lib.hid (show _ ∧ _ from ⟨hr5, hr5'⟩)
        clear hst5 hr5 hr5' hk0
        go_upto_region 13 with fail
        rw [HW5.out]
        go_wp2_with (first
          | (go_at_call 14; refine HRC.out.mono ?_; clear HRC; rintro e w7 ⟨rfl, hst, hsy⟩
             obtain ⟨⟨g0', g1'⟩, -⟩ := two ((hsy.2 _ (.inr rfl)).trans HX5.out)
             have HX7 := Lib.hid ((hsy.2 _ (.inr rfl)).trans HX5.out)
             have HRD7 := Lib.hid (show _ ∧ _ from ⟨rd_stay HRD5.out.1 hsy fun j hj => .inl (.inl hj), rd_stay HRD5.out.2 hsy fun j hj => .inl (.inr hj)⟩)
             have HSC := Lib.hid (hst.scoreK (List.mem_of_getElem? HP.out) (by omega))
             clear hst hsy)
          | (go_at_call 15; refine HSC.out.mono ?_; clear HSC; rintro e w8 ⟨rfl, hst, hsy⟩
             obtain ⟨⟨g0'', g1''⟩, -⟩ := two ((hsy.2 _ (.inr rfl)).trans HX7.out)
             have HRD8 := Lib.hid (show _ ∧ _ from ⟨rd_stay HRD7.out.1 hsy fun j hj => .inl (.inl hj), rd_stay HRD7.out.2 hsy fun j hj => .inl (.inr hj)⟩)
             have HS8 := Lib.hid (hst.sub (M := fun k => BlkOf (some y) k ∨ BlkOf a2 k) fun j hj => .inl hj)
             clear hst hsy)
          | (go_at_call 16; refine (HAL.out _).mono ?_; rintro e w9 ⟨rfl, rfl⟩; rw [HAB.out]))
        go_roundw
        case rel => exact ⟨k + 1, by omega, by go_num, by rw [HCT.out, HC0.out]; go_num, HS8, Lib.hid HRD8.out.1, Lib.hid HRD8.out.2⟩
        case measure => simp [intOf]; omega
      · obtain ⟨j, rfl⟩ : ∃ j, k = j + 1 := ⟨k - 1, by omega⟩
        obtain ⟨q, hq⟩ : ∃ q, l[j]? = some q := ⟨_, List.getElem?_eq_getElem (by rw [HLL.out.2.2.2]; omega)⟩
        obtain ⟨y', hy', d2, d3⟩ := mb_cells (HRR.out.below HB5.out) hq
        cases hy'
        have hcm := HG.out.1.rises.get (Nat.lt_succ_self j) hq HP.out
        have HNUQ := Lib.hid (HG.out.1.num q (List.mem_of_getElem? hq))
        have h1 := f_lt HNUQ.out HNUM.out
        have h2 := f_eq HNUQ.out HNUM.out
        have hgt : decide ((0 : Int) < ((j + 1 : Nat) : Int)) = true := by simp <;> omega
        obtain ⟨w6, hw6⟩ : ∃ w6, w5.alloc (.cells #[.string ⟨q.1.toArray⟩, .float .f64 q.2] 34) = w6 := ⟨_, rfl⟩
        have hb6 : Below w5.heap.size w5 w6 := by rw [← hw6]; exact (Below.refl _ w5).alloc (Nat.le_refl _) _
        have hx6 : w6.heap[w5.heap.size]? = some (.cells #[.string ⟨q.1.toArray⟩, .float .f64 q.2] 34) := by rw [← hw6]; exact heap_alloc_new w5 _
        have hx65 := (hb6.block _ (block_lt HX5.out)).trans HX5.out
        obtain ⟨⟨i0, i1⟩, -⟩ := two hx6
        obtain ⟨⟨j0, j1⟩, -⟩ := two hx65
        rw [hs5] at i0 i1
        obtain ⟨hst5, hr5, hr5'⟩ := HRK.out w6 (HB5.out.trans (hb6.mono HB5.out.size)) hx65
        have HX65 := Lib.hid hx65
        have HRC := Lib.hid (hst5.rankK (i := j + 1) p.1 p.2 HP.out (by omega))
        have HRD5 := Lib.hid (show _ ∧ _ from ⟨hr5, hr5'⟩)
        have HW6 := Lib.hid hw6
        have hj1 : ((j + 1 : Nat) : Int) - 1 = (j : Int) := by omega
        clear hst5 hr5 hr5' hk0 hq hb6 hx6 hx65 hw6
        rcases cmpR_split hcm with hlt1 | ⟨heq1, hls⟩
        · rw [decide_eq_true hlt1] at h1
          clear hcm hlt1 h2
          go_upto_region 13 with fail
          rw [HW5.out]
          go_upto_region 15 with fail
          rw [HW6.out]
          go_wp2_with (first
            | (go_at_call 14; refine HRC.out.mono ?_; clear HRC; rintro e w7 ⟨rfl, hst, hsy⟩
               obtain ⟨⟨g0', g1'⟩, -⟩ := two ((hsy.2 _ (.inr rfl)).trans HX65.out)
               have HX7 := Lib.hid ((hsy.2 _ (.inr rfl)).trans HX65.out)
               have HRD7 := Lib.hid (show _ ∧ _ from ⟨rd_stay HRD5.out.1 hsy fun j hj => .inl (.inl hj), rd_stay HRD5.out.2 hsy fun j hj => .inl (.inr hj)⟩)
               have HSC := Lib.hid (hst.scoreK (List.mem_of_getElem? HP.out) (by omega))
               clear hst hsy)
            | (go_at_call 15; refine HSC.out.mono ?_; clear HSC; rintro e w8 ⟨rfl, hst, hsy⟩
               obtain ⟨⟨g0'', g1''⟩, -⟩ := two ((hsy.2 _ (.inr rfl)).trans HX7.out)
               have HRD8 := Lib.hid (show _ ∧ _ from ⟨rd_stay HRD7.out.1 hsy fun j hj => .inl (.inl hj), rd_stay HRD7.out.2 hsy fun j hj => .inl (.inr hj)⟩)
               have HS8 := Lib.hid (hst.sub (M := fun k => BlkOf (some y) k ∨ BlkOf a2 k) fun j hj => .inl hj)
               clear hst hsy)
            | (go_at_call 16; refine (HAL.out _).mono ?_; rintro e w9 ⟨rfl, rfl⟩; rw [HAB.out]))
          go_roundw
          case rel => exact ⟨j + 1 + 1, by omega, by go_num, by rw [HCT.out, HC0.out]; go_num, HS8, Lib.hid HRD8.out.1, Lib.hid HRD8.out.2⟩
          case measure => simp [intOf]; omega
        · rw [decide_eq_false (by omega)] at h1
          rw [decide_eq_true heq1] at h2
          clear hcm heq1
          go_upto_region 13 with fail
          rw [HW5.out]
          go_upto_region 15 with fail
          rw [HW6.out]
          go_wp2_with (first
            | (go_at_call 14; refine HRC.out.mono ?_; clear HRC; rintro e w7 ⟨rfl, hst, hsy⟩
               obtain ⟨⟨g0', g1'⟩, -⟩ := two ((hsy.2 _ (.inr rfl)).trans HX65.out)
               have HX7 := Lib.hid ((hsy.2 _ (.inr rfl)).trans HX65.out)
               have HRD7 := Lib.hid (show _ ∧ _ from ⟨rd_stay HRD5.out.1 hsy fun j hj => .inl (.inl hj), rd_stay HRD5.out.2 hsy fun j hj => .inl (.inr hj)⟩)
               have HSC := Lib.hid (hst.scoreK (List.mem_of_getElem? HP.out) (by omega))
               clear hst hsy)
            | (go_at_call 15; refine HSC.out.mono ?_; clear HSC; rintro e w8 ⟨rfl, hst, hsy⟩
               obtain ⟨⟨g0'', g1''⟩, -⟩ := two ((hsy.2 _ (.inr rfl)).trans HX7.out)
               have HRD8 := Lib.hid (show _ ∧ _ from ⟨rd_stay HRD7.out.1 hsy fun j hj => .inl (.inl hj), rd_stay HRD7.out.2 hsy fun j hj => .inl (.inr hj)⟩)
               have HS8 := Lib.hid (hst.sub (M := fun k => BlkOf (some y) k ∨ BlkOf a2 k) fun j hj => .inl hj)
               clear hst hsy)
            | (go_at_call 16; refine (HAL.out _).mono ?_; rintro e w9 ⟨rfl, rfl⟩; rw [HAB.out]))
          go_roundw
          case rel => exact ⟨j + 1 + 1, by omega, by go_num, by rw [HCT.out, HC0.out]; go_num, HS8, Lib.hid HRD8.out.1, Lib.hid HRD8.out.2⟩
          case measure => simp [intOf]; omega
    · obtain rfl : k = m := by omega
      have HCE : Hid (rkCost (l.take k) = rkCost l) := Lib.hid (by rw [List.take_of_length_le (by rw [HLL.out.2.2.2]; exact Nat.le_refl _)])
      rw [HCE.out]
      obtain ⟨cc, hcc⟩ : ∃ cc, rkCost l = cc := ⟨_, rfl⟩
      rw [hcc]
      have HCC := Lib.hid hcc
      clear hcc HRR
      go_wp2_with fail
      go_loopw [123] (fun i wr => ∃ j : Nat, j ≤ k ∧ i = .int .i64 j ∧ Hid (St w1 r l (fun k => BlkOf a3 k ∨ BlkOf a2 k) wr) ∧ Hid (Rd wr a2 (rkCells L))) (fun i _ => k - (intOf i).toNat)
      case atStart => exact ⟨0, by omega, rfl, HS, HRL⟩
      case round =>
        clear HS HRL
        obtain ⟨j, hj, rfl, HS, HRL⟩ := hrel
        by_cases hjl : j < k
        · obtain ⟨p, hp⟩ : ∃ p, L[j]? = some p := ⟨_, List.getElem?_eq_getElem (by rw [HLL.out.2.2.1]; exact hjl)⟩
          obtain ⟨y, rfl, e2, e3⟩ := mb_cells HRL.out hp
          have hpl : p ∈ l := HLL.out.1.mem_iff.1 (List.mem_of_getElem? hp)
          obtain ⟨w5, hw5⟩ : ∃ w5, wr.alloc (.cells #[.string ⟨p.1.toArray⟩, .float .f64 p.2] 41) = w5 := ⟨_, rfl⟩
          have hb5 : Below wr.heap.size wr w5 := by rw [← hw5]; exact (Below.refl _ wr).alloc (Nat.le_refl _) _
          have hx5 : w5.heap[wr.heap.size]? = some (.cells #[.string ⟨p.1.toArray⟩, .float .f64 p.2] 41) := by rw [← hw5]; exact heap_alloc_new wr _
          have HNUM := Lib.hid (HG.out.1.num p hpl)
          have HTXT := HG.out.1.text p hpl
          have HAL := Lib.hid (fun W => alike_any W p.2 p.2)
          have HAB : Hid (alikeB p.2 p.2 = true) := Lib.hid (by rw [alikeB_num HNUM.out HNUM.out]; simp)
          have HST5 : St w1 r l (fun j => (BlkOf a3 j ∨ BlkOf (some y) j) ∨ j = wr.heap.size) w5 := HS.out.watch hb5 fun j hj => by
            rcases hj with hj | rfl
            · exact ⟨.inr hj, Nat.lt_of_lt_of_le (HS.out.own j hj) hb5.size⟩
            · exact ⟨.inl (Nat.le_refl _), block_lt hx5⟩
          have HSC := Lib.hid (HST5.scoreK hpl (by omega))
          obtain ⟨⟨g0, g1⟩, -⟩ := two hx5
          have HX5 := Lib.hid hx5
          have HRL5 := Lib.hid (HRL.out.below hb5)
          have HW5 := Lib.hid hw5
          clear hp hpl hb5 hx5 hw5 HST5
          go_upto_region 26 with fail
          rw [HW5.out]
          go_wp2_with (first
            | (go_at_call 15; refine HSC.out.mono ?_; clear HSC; rintro e w8 ⟨rfl, hst, hsy⟩
               obtain ⟨⟨g0'', g1''⟩, -⟩ := two ((hsy.2 _ (.inr rfl)).trans HX5.out)
               have HRL8 := Lib.hid (rd_stay HRL5.out hsy fun j hj => .inl (.inr hj))
               have HS8 := Lib.hid (hst.sub (M := fun k => BlkOf a3 k ∨ BlkOf (some y) k) fun j hj => .inl hj)
               clear hst hsy)
            | (go_at_call 16; refine (HAL.out _).mono ?_; rintro e w9 ⟨rfl, rfl⟩; rw [HAB.out]))
          go_roundw
          case rel => exact ⟨j + 1, by omega, by go_num, HS8, HRL8⟩
          case measure => simp [intOf]; omega
        · have HCO := Lib.hid HS.out.cost
          rw [HCC.out] at HCO
          have HU := Lib.hid (HB.out.trans (HS.out.under.mono HB.out.size))
          clear hj
          go_wp2_with (go_at_call 17; refine HCO.out.mono ?_; rintro e w10 ⟨rfl, rfl⟩)
          go_ret
          exact ⟨by simp, HU.out⟩
end Go.Proofs.Ytbjfigegiffefaa

/- A copy goes its own way. The walk. -/
set_option linter.unusedVariables false
set_option linter.unusedSimpArgs false
namespace Go.Proofs.Ytbjfigegiffefaa
open Go.RowKit Pantry

/-- Ranks and a list of the law's own; what lies in N is neither's. -/
structure TwinN (w : World) (r : Nat) (v : Value) (l : List Mb) (N : Nat → Prop) (wr : World) : Prop where
  ex : ∃ S L, Rk wr r S l ∧ (∀ k, S k → w.heap.size ≤ k) ∧ L.Perm l ∧ wr.ownsRow 0 41 2 v L.length (rkCells L) ∧ (∀ k, v.ownBlock = some k → ¬ S k ∧ w.heap.size ≤ k) ∧ ∀ k, S k ∨ v.ownBlock = some k → ¬ N k
  lt : ∀ k, N k → k < wr.heap.size
  under : Below w.heap.size w wr
theorem TwinN.twin {w : World} {r : Nat} {v : Value} {l : List Mb} {N : Nat → Prop} {wr : World} (h : TwinN w r v l N wr) : Twin w r v l wr := by
  obtain ⟨⟨S, L, h1, h2, h3, h4, h5, h6⟩, h7, h8⟩ := h
  exact ⟨⟨S, L, h1, h2, h3, h4, h5⟩, h8⟩
theorem Twin.watch {w : World} {r : Nat} {v : Value} {l : List Mb} {w2 w' : World} {N : Nat → Prop} (h : Twin w r v l w2) (hb : Below w2.heap.size w2 w') (hN : ∀ k, N k → w2.heap.size ≤ k ∧ k < w'.heap.size) : TwinN w r v l N w' := by
  obtain ⟨⟨S, L, h1, h2, h3, h4, h5⟩, h6⟩ := h
  refine ⟨⟨S, L, h1.below hb, h2, h3, ownsRow_belowAll h4 hb, h5, ?_⟩, fun k hk => (hN k hk).2, h6.trans (hb.mono h6.size)⟩
  rintro k (hk | hk) hn
  · have := h1.lt k hk; have := (hN k hn).1; omega
  · have := (h4.lt k hk).2; have := (hN k hn).1; omega
theorem TwinN.below {w : World} {r : Nat} {v : Value} {l : List Mb} {N : Nat → Prop} {wr w' : World} (h : TwinN w r v l N wr) (hb : Below wr.heap.size wr w') : TwinN w r v l N w' := by
  obtain ⟨⟨S, L, h1, h2, h3, h4, h5, h6⟩, h7, h8⟩ := h
  exact ⟨⟨S, L, h1.below hb, h2, h3, ownsRow_belowAll h4 hb, h5, h6⟩, fun k hk => Nat.lt_of_lt_of_le (h7 k hk) hb.size, h8.trans (hb.mono h8.size)⟩
theorem TwinN.done {w : World} {r : Nat} {v : Value} {l : List Mb} {N : Nat → Prop} {wr : World} (h : TwinN w r v l N wr) (o : Stp) (hok : o.Ok) :
    Calls Try.prog 22 #[.pointer (some ⟨r, 0, none⟩), v, .agg o.cells.toArray] wr fun e w' => ∃ v', e = .returned (.tuple #[v', .bool true]) ∧ TwinN w r v' (stepL l o) N w' ∧ Chg (fun k => ¬ N k) wr w' := by
  obtain ⟨⟨S, L, h1, h2, h3, h4, h5, h8⟩, h7, h6⟩ := h
  refine (done_any wr r S l L v o h1 h3 h4 (fun k hk => (h5 k hk).1) hok).mono ?_
  rintro e w' ⟨v', rfl, ⟨S', L', q1, q2, q3, q4, q5⟩, q6, q7⟩
  refine ⟨v', rfl, ⟨⟨S', L', q1, fun k hk => (q2 k hk).elim (h2 k) fun hh => Nat.le_trans h6.size hh, q3, q4, fun k hk => ⟨q5 k hk, (q6 k hk).elim (fun hh => (h5 k hh).2) fun hh => Nat.le_trans h6.size hh⟩, ?_⟩, fun k hk => Nat.lt_of_lt_of_le (h7 k hk) q7.size, h6.trans (q7.below h6.size ?_)⟩, q7.mono fun k _ hk => h8 k hk⟩
  · rintro k (hk | hk) hn
    · rcases q2 k hk with hh | hh
      · exact h8 k (.inl hh) hn
      · have := h7 k hn; omega
    · rcases q6 k hk with hh | hh
      · exact h8 k (.inr hh) hn
      · have := h7 k hn; omega
  · rintro k (hk | hk)
    · exact h2 k hk
    · exact (h5 k hk).2
theorem Twin.copy {w : World} {r : Nat} {v : Value} {l : List Mb} {wr : World} (h : Twin w r v l wr) : Calls Try.prog 21 #[.pointer (some ⟨r, 0, none⟩)] wr (RkMade l wr) := by
  obtain ⟨⟨S, L, h1, h2, h3, h4, h5⟩, h6⟩ := h
  exact h1.copy
theorem Twin.hnil {w : World} {r : Nat} {a : Option Addr} {n c : Nat} {l : List Mb} {wr : World} (h : Twin w r (.slice a n c) l wr) : a = none → c = 0 := by
  obtain ⟨⟨S, L, h1, h2, h3, h4, h5⟩, h6⟩ := h
  rintro rfl
  rcases h4.2 with ⟨hv, -⟩ | ⟨g, cap, cur, hv, -⟩ <;> cases hv
  rfl
/-- The members behind more steps. -/
def moreL (l : List Mb) (ops : List Stp) : List Mb := ops.foldl stepL l
theorem moreL_snoc {l : List Mb} {ops : List Stp} {k : Nat} {o : Stp} (h : ops[k]? = some o) : stepL (moreL l (ops.take k)) o = moreL l (ops.take (k + 1)) := by
  obtain ⟨hk, rfl⟩ := List.getElem?_eq_some_iff.1 h
  unfold moreL
  rw [List.take_succ_eq_append_getElem hk, List.foldl_append]
  rfl
theorem rd_chg {N : Nat → Prop} {w w' : World} {a : Option Addr} {xs : List Value} (h : Rd w a xs) (hc : Chg (fun k => ¬ N k) w w') (hN : ∀ k, BlkOf a k → N k) : Rd w' a xs :=
  hc.rd h fun x hx hn => hn (hN _ ⟨x, hx, rfl⟩)
theorem Rk.rangeAll {w : World} {r : Nat} {S : Nat → Prop} {l : List Mb} (h : Rk w r S l) {n : Nat} (hn : l.length = n) : Calls Try.prog 12 #[.pointer (some ⟨r, 0, none⟩), .int .i64 0, .int .i64 n] w (RowPost n l w) := by
  subst hn
  refine (h.range 0 l.length).mono ?_
  rintro e w' ⟨v, rfl, ⟨hrow⟩, hb⟩
  rw [segR_all] at hrow
  obtain ⟨a, c, rfl, hrd⟩ := ownsRow_rd hrow (rkCells_one _)
  exact ⟨a, c, rfl, hrd, own_block hrow, hb⟩
theorem Twin.rangeAll {w : World} {r : Nat} {v : Value} {l : List Mb} {wr : World} (h : Twin w r v l wr) {n : Nat} (hn : l.length = n) : Calls Try.prog 12 #[.pointer (some ⟨r, 0, none⟩), .int .i64 0, .int .i64 n] wr (RowPost n l wr) := by
  obtain ⟨⟨S, L, h1, h2, h3, h4, h5⟩, h6⟩ := h
  exact h1.rangeAll hn
set_option maxHeartbeats 16000000 in
set_option maxRecDepth 100000 in
theorem copies_walk (w : World) (seed : Nat) (hs : seed < 18446744073709551616) (a : Option Addr) (n c : Nat) (ops : List Stp) (hl : OpsAt w a n ops) (a' : Option Addr) (n' c' : Nat) (more : List Stp) (hl' : OpsAt w a' n' more) :
    Calls Try.prog 5 #[.int .u64 seed, .slice a n c, .slice a' n' c'] w (OkPost w) := by
  have HW := Lib.hid (wakes_any w)
  have HL := Lib.hid hl
  have HL' := Lib.hid hl'
  have hn' := hl'.few
  have H1 := Lib.hid hs
  have HS9 := Lib.hid (show (Try.prog.info? 52).map (·.size) = some 9 by kernel_rfl)
  have HET := Lib.hid entT
  clear hl hl' hs
  go_enter Try.func5, Try.ntmps5
  go_wp2_with (first
    | (go_at_call 10; refine HW.out.mono ?_; rintro e w1 ⟨rfl, hb⟩
       have HB := Lib.hid hb
       have HBU := Lib.hid (built_any w1 seed H1.out a n c ops (HL.out.keep hb))
       clear hb)
    | (go_at_call 11; refine HBU.out.mono ?_; rintro e w2 ⟨r, v, rfl, ht⟩
       obtain ⟨L, a2, c2, rfl, hp, hrd, hlen⟩ := ht.entries
       have hf := ht.good.1.few
       obtain ⟨l, hll⟩ : ∃ l, runL ops = l := ⟨_, rfl⟩
       rw [hll] at hlen hf hp ht
       rw [hll]
       obtain ⟨m, hm⟩ : ∃ m, l.length = m := ⟨_, rfl⟩
       rw [hm] at hlen hf ht
       rw [hm]
       have HT := Lib.hid ht
       have HLL := Lib.hid (show _ ∧ _ ∧ _ ∧ _ from ⟨hp, hrd, hlen, hm⟩)
       have HLN := Lib.hid ht.len
       rw [hm] at HLN
       have HR1 := Lib.hid (ht.rangeAll hm)
       clear ht hp hrd hlen hm hll HBU)
    | (go_at_call 13; refine HLN.out.mono ?_; clear HLN; rintro e w3 ⟨rfl, rfl⟩)
    | (go_at_call 12; refine HR1.out.mono ?_; clear HR1; rintro e w3 ⟨a3, c3, rfl, hrd, hblk, hb⟩
       have HRD3 := Lib.hid hrd
       have HT3 := Lib.hid (HT.out.below hb)
       have HRL3 := Lib.hid (HLL.out.2.1.below hb)
       have HCP := Lib.hid HT3.out.copy
       clear hrd hb hblk)
    | (go_at_call 21; refine HCP.out.mono ?_; clear HCP; rintro e w4 ⟨cc, Sc, rfl, hrk, hb, hS⟩
       have HRK4 := Lib.hid hrk
       have HBS := Lib.hid (show _ ∧ _ from ⟨hb, hS⟩)
       have HLN2 := Lib.hid hrk.len
       rw [HLL.out.2.2.2] at HLN2
       have HR2 := Lib.hid (hrk.rangeAll HLL.out.2.2.2)
       clear hrk hb hS)
    | (go_at_call 13; refine HLN2.out.mono ?_; clear HLN2; rintro e w3 ⟨rfl, rfl⟩)
    | (go_at_call 12; refine HR2.out.mono ?_; clear HR2; rintro e w5 ⟨a5, c5, rfl, hrd, hblk, hb⟩
       have HRD5 := Lib.hid hrd
       have HB5 := Lib.hid (HBS.out.1.trans (hb.mono HBS.out.1.size))
       have HRK5 := Lib.hid (HRK4.out.below hb)
       have HRD35 := Lib.hid (HRD3.out.below (HBS.out.1.trans (hb.mono HBS.out.1.size)))
       clear hrd hb hblk)
    | (go_at_call 20; refine (same_any _ _ m m _ _ l l _ HLL.out.2.2.2 HLL.out.2.2.2 (by omega) HRD5.out HRD35.out).mono ?_; rintro e w6 ⟨rfl, q6, rfl⟩
       rw [sameB_refl]
       have hq : Below w5.heap.size w5 (w5.drewN q6) := belowN (Below.refl _ _)
       have HB6 := Lib.hid (HB5.out.trans (hq.mono HB5.out.size))
       have HRK6 := Lib.hid (HRK5.out.below hq)
       have HT6 := Lib.hid (HT3.out.below HB6.out)
       have HC1 := Lib.hid HRK6.out.cost
       have HC2 := Lib.hid HT6.out.cost
       clear hq HRD5 HRD35)
    | (go_at_call 17; refine HC1.out.mono ?_; clear HC1; rintro e w7 ⟨rfl, rfl⟩)
    | (go_at_call 17; refine HC2.out.mono ?_; clear HC2; rintro e w7 ⟨rfl, rfl⟩)
    | (at_make; refine wpl_make HET.out rfl _ _ rfl w3.heap.size _ _ m rfl rfl rfl (by omega) HB6.out.size ?_
       intro w7 hown7 hg7
       have HO7 := Lib.hid hown7
       have HB7 : Hid (Below (w5.drewN q6).heap.size (w5.drewN q6) w7) := Lib.hid ((Below.refl _ _).grown hg7 (Nat.le_refl _) (fun k hk => by cases hk))
       clear hown7 hg7)
    | (at_builtin; refine wpl_append HET.out rfl _ _ rfl w3.heap.size rfl HO7.out (ad := a2) (m := m) (c := c2) (news := rkCells L) rfl HT.out.hnil (by rw [rkCells_length, HLL.out.2.2.1]) (HRL3.out.below (HB6.out.trans (HB7.out.mono HB6.out.size))) (by omega) (Nat.le_trans HB6.out.size HB7.out.size) ?_
       intro v8 w8 hown8 hg8 hv8
       have hb8 : Below (w5.drewN q6).heap.size (w5.drewN q6) w8 := HB7.out.grown hg8 HB7.out.size (fun k hk => by cases hk; exact Nat.le_refl _)
       have HT8 : Hid (Twin w3 cc v8 (moreL l (more.take 0)) w8) := Lib.hid ⟨⟨Sc, L, HRK6.out.below hb8, HBS.out.2, HLL.out.1, by have := ownsRow_base hown8 (Nat.zero_le _); rwa [Nat.zero_add, List.nil_append, ← HLL.out.2.2.1] at this, fun k hk => by
         have hk2 : (w5.drewN q6).heap.size ≤ k := (hv8 k hk).elim (fun hh => by cases hh; exact Nat.le_refl _) fun hh => Nat.le_trans HB7.out.size hh
         exact ⟨fun hs => by have := HRK6.out.lt k hs; omega, Nat.le_trans HB6.out.size hk2⟩⟩, HB6.out.trans (hb8.mono HB6.out.size)⟩
       obtain ⟨a8, c8, hve⟩ := HT8.out.slice
       rw [show moreL l (more.take 0) = l from rfl, HLL.out.2.2.2] at hve
       subst hve
       clear hown8 hg8 hv8 hb8))
  clear HW HRK4 HRK5 HRK6 HBS HB5 HB6 HB7 HO7 HRL3
  go_loopw [12, 65] (fun v i wr => ∃ k : Nat, k ≤ n' ∧ i = .int .i64 k ∧ Hid (Twin w3 cc v (moreL l (more.take k)) wr)) (fun _ i _ => n' - (intOf i).toNat)
  case atStart => exact ⟨0, by omega, rfl, HT8⟩
  case round =>
    clear HT8
    obtain ⟨k, hk, rfl, HTC⟩ := hrel
    by_cases hlt : k < n'
    · obtain ⟨o, hok⟩ : ∃ o, more[k]? = some o := ⟨_, List.getElem?_eq_getElem (by rw [HL'.out.len]; exact hlt)⟩
      have hbel : Below w.heap.size w wr := HB.out.trans ((HT3.out.under.trans (HTC.out.under.mono HT3.out.under.size)).mono HB.out.size)
      obtain ⟨y, hy, hcells⟩ := (HL'.out.keep hbel).cell k _ hok
      subst hy
      have HCL := Lib.hid (show ∀ j u, o.cells[j]? = some u → wr.cell? ((y.add (k * 9)).add j) = some u from fun j u hj => by rw [Addr.add_add]; exact hcells j u hj)
      have HOK := Lib.hid (HL'.out.ok _ (List.mem_of_getElem? hok))
      have HRS := Lib.hid (moreL_snoc (l := l) hok)
      have HD := Lib.hid (fun W (hW : Below wr.heap.size wr W) => (HTC.out.below hW).done o HOK.out)
      obtain ⟨va, vc, rfl⟩ := HTC.out.slice
      clear hok hcells hbel
      go_wp2_with (first
        | (refine wpl_load_at rfl _ _ rfl _ rfl _ _ HCL.out Try.underlying52 rfl HS9.out ?_)
        | (refine wpList_store_row rfl _ _ _ rfl wr.heap.size o.cells.toArray rfl rfl _ _ (heap_alloc_new wr _) HS9.out rfl (cells_one _) ?_
           generalize hw3 : World.setRow _ wr.heap.size o.cells.toArray = w9
           obtain ⟨f1, f2, f3⟩ := copied hw3
           have HF1 := Lib.hid f1
           have HD3 := Lib.hid (HD.out w9 f3)
           clear hw3 f1 f2 f3 HD)
        | (refine wpList_load_row rfl _ _ rfl wr.heap.size rfl _ o.cells.toArray (0, 0) _ HF1.out Try.underlying52 rfl HS9.out ?_)
        | (go_at_call 22; refine HD3.out.mono ?_; clear HD3; rintro e w10 ⟨v', rfl, ht⟩
           rw [HRS.out] at ht
           have HT4 := Lib.hid ht
           clear ht))
      go_roundw
      case rel => exact ⟨k + 1, by omega, by go_num, HT4⟩
      case measure => simp [intOf]; omega
    · obtain rfl : k = n' := by omega
      obtain ⟨va, vc, rfl⟩ := HTC.out.slice
      obtain ⟨lc, hlc⟩ : ∃ lc, moreL l more = lc := ⟨_, rfl⟩
      have htk : moreL l (more.take k) = lc := by rw [List.take_of_length_le (by rw [HL'.out.len]; exact Nat.le_refl _)]; exact hlc
      rw [htk] at HTC ⊢
      have HLC := Lib.hid hlc
      obtain ⟨mc, hmc⟩ : ∃ mc, lc.length = mc := ⟨_, rfl⟩
      rw [hmc] at HTC ⊢
      have HMC := Lib.hid hmc
      have hmcf : mc ≤ 1048576 := by rw [← hmc]; exact HTC.out.good.1.few
      have HUN := Lib.hid HTC.out.under
      have HT9 := Lib.hid (HT3.out.below HUN.out)
      have HW9 := Lib.hid (HRD3.out.below HUN.out)
      have HLN := Lib.hid HT9.out.len
      rw [HLL.out.2.2.2] at HLN
      have HR9 := Lib.hid (HT9.out.rangeAll HLL.out.2.2.2)
      clear hlc htk hmc hlt hk
      go_wp2_with (first
        | (go_at_call 13; refine HLN.out.mono ?_; clear HLN; rintro e w10 ⟨rfl, rfl⟩)
        | (go_at_call 12; refine HR9.out.mono ?_; clear HR9; rintro e w10 ⟨a10, c10, rfl, hrd, hblk, hb⟩
           have HRD10 := Lib.hid hrd
           have HW10 := Lib.hid (HW9.out.below hb)
           have HT10 := Lib.hid (HTC.out.below hb)
           clear hrd hblk hb)
        | (go_at_call 20; refine (same_any _ _ m m _ _ l l _ HLL.out.2.2.2 HLL.out.2.2.2 (by omega) HRD10.out HW10.out).mono ?_; clear HRD10; rintro e w11 ⟨rfl, q11, rfl⟩
           rw [sameB_refl]
           have HT11 := Lib.hid (HT10.out.below (belowN (q := q11) (Below.refl _ _)))
           have HLN2 := Lib.hid HT11.out.len
           rw [HMC.out] at HLN2
           have HR11 := Lib.hid (HT11.out.rangeAll HMC.out)
           clear HW10)
        | (go_at_call 13; refine HLN2.out.mono ?_; rintro e w12 ⟨rfl, rfl⟩)
        | (go_at_call 12; refine HR11.out.mono ?_; clear HR11; rintro e w12 ⟨a12, c12, rfl, hrd, hblk, hb⟩
           have HRD12 := Lib.hid hrd
           have HT12 := Lib.hid (HT11.out.below hb)
           have HBK := Lib.hid (show ∀ x, a12 = some x → w3.heap.size ≤ x.block ∧ x.block < w12.heap.size from fun x hx => ⟨Nat.le_trans HT11.out.under.size (hblk x hx).1, (hblk x hx).2⟩)
           clear hrd hblk hb))
      clear HLN2 HT9 HW9 HTC HT10 HT11 HUN
      obtain ⟨⟨Sd, Ld, hk1, hk2, -⟩, -⟩ := HT12.out
      have HRK := Lib.hid hk1
      obtain ⟨N, hN⟩ : ∃ N : Nat → Prop, N = fun k => Sd k ∨ BlkOf a12 k := ⟨_, rfl⟩
      have HN := Lib.hid (show (∀ k, Sd k → N k) ∧ (∀ k, BlkOf a12 k → N k) from ⟨fun k hk => by rw [hN]; exact .inl hk, fun k hk => by rw [hN]; exact .inr hk⟩)
      have HTN : Hid (TwinN w1 r (.slice a2 m c2) (moreL l (more.take 0)) N w12) := Lib.hid (HT3.out.watch HT12.out.under fun k hk => by
        rw [hN] at hk
        rcases hk with hk | ⟨x, hx, rfl⟩
        · exact ⟨hk2 k hk, hk1.lt k hk⟩
        · exact HBK.out x hx)
      clear hk1 hk2 hN
      go_loopw [8, 100] (fun v i wr => ∃ j : Nat, j ≤ k ∧ i = .int .i64 j ∧ Hid (TwinN w1 r v (moreL l (more.take j)) N wr) ∧ Hid (Chg (fun q => ¬ N q) w12 wr)) (fun _ i _ => k - (intOf i).toNat)
      case atStart => exact ⟨0, by omega, rfl, HTN, Lib.hid (Chg.refl _ _)⟩
      case round =>
        clear HTN
        obtain ⟨j, hj, rfl, HTR, HCH⟩ := hrel
        by_cases hlt : j < k
        · obtain ⟨o, hok⟩ : ∃ o, more[j]? = some o := ⟨_, List.getElem?_eq_getElem (by rw [HL'.out.len]; exact hlt)⟩
          obtain ⟨y, hy, hcells⟩ := (HL'.out.keep (HB.out.trans (HTR.out.under.mono HB.out.size))).cell j _ hok
          subst hy
          have HCL := Lib.hid (show ∀ i u, o.cells[i]? = some u → wr.cell? ((y.add (j * 9)).add i) = some u from fun i u hi => by rw [Addr.add_add]; exact hcells i u hi)
          have HOK := Lib.hid (HL'.out.ok _ (List.mem_of_getElem? hok))
          have HRS := Lib.hid (moreL_snoc (l := l) hok)
          have HD := Lib.hid (fun W (hW : Below wr.heap.size wr W) => (HTR.out.below hW).done o HOK.out)
          obtain ⟨va', vc', rfl⟩ := HTR.out.twin.slice
          clear hok hcells
          go_wp2_with (first
            | (refine wpl_load_at rfl _ _ rfl _ rfl _ _ HCL.out Try.underlying52 rfl HS9.out ?_)
            | (refine wpList_store_row rfl _ _ _ rfl wr.heap.size o.cells.toArray rfl rfl _ _ (heap_alloc_new wr _) HS9.out rfl (cells_one _) ?_
               generalize hw3 : World.setRow _ wr.heap.size o.cells.toArray = w13
               obtain ⟨f1, f2, f3⟩ := copied hw3
               have HF1 := Lib.hid f1
               have HD3 := Lib.hid (HD.out w13 f3)
               have HC3 : Hid (Chg (fun q => ¬ N q) w12 w13) := Lib.hid (HCH.out.trans (Chg.of_below (S := fun _ => False) f3) fun _ _ e => e.elim)
               clear hw3 f1 f2 f3 HD)
            | (refine wpList_load_row rfl _ _ rfl wr.heap.size rfl _ o.cells.toArray (0, 0) _ HF1.out Try.underlying52 rfl HS9.out ?_)
            | (go_at_call 22; refine HD3.out.mono ?_; clear HD3; rintro e w14 ⟨v', rfl, ht, hch⟩
               rw [HRS.out] at ht
               have HT4 := Lib.hid ht
               have HC4 : Hid (Chg (fun q => ¬ N q) w12 w14) := Lib.hid (HC3.out.trans hch fun _ _ e => e)
               clear ht hch))
          go_roundw
          case rel => exact ⟨j + 1, by omega, by go_num, HT4, HC4⟩
          case measure => simp [intOf]; omega
        · obtain rfl : j = k := by omega
          have htk : moreL l (more.take j) = lc := by rw [List.take_of_length_le (by rw [HL'.out.len]; exact Nat.le_refl _)]; exact HLC.out
          rw [htk] at HTR
          have HRK9 := Lib.hid (HRK.out.chg HCH.out fun q hq hn => hn (HN.out.1 q hq))
          have HNOW := Lib.hid (rd_chg HRD12.out HCH.out HN.out.2)
          have HLN := Lib.hid HRK9.out.len
          rw [HMC.out] at HLN
          have HR9 := Lib.hid (HRK9.out.rangeAll HMC.out)
          clear htk HRK HRD12 HCH
          go_wp2_with (first
            | (go_at_call 13; refine HLN.out.mono ?_; clear HLN; rintro e w15 ⟨rfl, rfl⟩)
            | (go_at_call 12; refine HR9.out.mono ?_; clear HR9; rintro e w15 ⟨a15, c15, rfl, hrd, hblk, hb⟩
               have HRD15 := Lib.hid hrd
               have HNOW15 := Lib.hid (HNOW.out.below hb)
               have HTR15 := Lib.hid (HTR.out.twin.below hb)
               clear hrd hblk hb)
            | (go_at_call 20; refine (same_any _ _ mc mc _ _ lc lc _ HMC.out HMC.out (by omega) HRD15.out HNOW15.out).mono ?_; clear HRD15; rintro e w16 ⟨rfl, q16, rfl⟩
               rw [sameB_refl]
               have hq : Below w15.heap.size w15 (w15.drewN q16) := belowN (Below.refl _ _)
               have HT16 := Lib.hid (HTR15.out.below hq)
               have HNOW16 := Lib.hid (HNOW15.out.below hq)
               have HLN2 := Lib.hid HT16.out.len
               rw [HMC.out] at HLN2
               have HR16 := Lib.hid (HT16.out.rangeAll HMC.out)
               clear hq HNOW15)
            | (go_at_call 13; refine HLN2.out.mono ?_; clear HLN2; rintro e w17 ⟨rfl, rfl⟩)
            | (go_at_call 12; refine HR16.out.mono ?_; clear HR16; rintro e w17 ⟨a17, c17, rfl, hrd, hblk, hb⟩
               have HRD17 := Lib.hid hrd
               have HNOW17 := Lib.hid (HNOW16.out.below hb)
               have HU17 := Lib.hid (HB.out.trans ((HT16.out.below hb).under.mono HB.out.size))
               clear hrd hblk hb)
            | (go_at_call 20; refine (same_any _ _ mc mc _ _ lc lc _ HMC.out HMC.out (by omega) HRD17.out HNOW17.out).mono ?_; rintro e w18 ⟨rfl, q18, rfl⟩
               rw [sameB_refl]))
          go_ret
          exact ⟨rfl, belowN HU17.out⟩
end Go.Proofs.Ytbjfigegiffefaa

/- Who stands within a stretch. The walk. -/
set_option linter.unusedVariables false
set_option linter.unusedSimpArgs false
namespace Pantry
open Go Go.RowKit
/-- Those from one place up to another are those within. -/
structure Stretch (l : List Mb) (P : Nat → Bool) (A B : Nat) : Prop where
  le : A ≤ B
  len : B ≤ l.length
  iff : ∀ (k : Nat) (p : Mb), l[k]? = some p → P p.2 = decide (A ≤ k ∧ k < B)
theorem Stretch.count {l : List Mb} {P : Nat → Bool} {A B : Nat} (h : Stretch l P A B) : l.countP (fun p => P p.2) = B - A := by
  have e : l = l.take A ++ ((l.take B).drop A ++ l.drop B) := by
    rw [← List.append_assoc]
    have h1 : l.take A = (l.take B).take A := by rw [List.take_take, Nat.min_eq_left h.le]
    rw [h1, List.take_append_drop, List.take_append_drop]
  have hl := h.len
  have hle := h.le
  conv => lhs; rw [e]
  rw [List.countP_append, List.countP_append]
  have c1 : (l.take A).countP (fun p => P p.2) = 0 := by
    rw [List.countP_eq_zero]
    intro q hq
    obtain ⟨k, hk, rfl⟩ := List.mem_iff_getElem.1 hq
    rw [List.length_take] at hk
    rw [List.getElem_take, h.iff k l[k] (List.getElem?_eq_getElem (by omega))]
    simp; omega
  have c2 : ((l.take B).drop A).countP (fun p => P p.2) = B - A := by
    rw [List.countP_eq_length.2]
    · rw [List.length_drop, List.length_take]; omega
    · intro q hq
      obtain ⟨k, hk, rfl⟩ := List.mem_iff_getElem.1 hq
      rw [List.length_drop, List.length_take] at hk
      rw [List.getElem_drop, List.getElem_take, h.iff (A + k) l[A + k] (List.getElem?_eq_getElem (by omega))]
      simp; omega
  have c3 : (l.drop B).countP (fun p => P p.2) = 0 := by
    rw [List.countP_eq_zero]
    intro q hq
    obtain ⟨k, hk, rfl⟩ := List.mem_iff_getElem.1 hq
    rw [List.length_drop] at hk
    rw [List.getElem_drop, h.iff (B + k) l[B + k] (List.getElem?_eq_getElem (by omega))]
    simp
  omega
theorem Stretch.seg {l : List Mb} {P : Nat → Bool} {A B : Nat} (h : Stretch l P A B) : segR l (A : Nat) (B : Nat) = (l.take B).drop A ∧ ((l.take B).drop A).length = B - A ∧ ∀ (k : Nat) (p : Mb), ((l.take B).drop A)[k]? = some p → P p.2 = true := by
  have hl := h.len
  have hle := h.le
  refine ⟨?_, by rw [List.length_drop, List.length_take]; omega, fun k p hk => ?_⟩
  · unfold segR
    rw [show (max ((A : Nat) : Int) 0).toNat = A by omega, show (min ((B : Nat) : Int) ((l.length : Nat) : Int)).toNat = B by omega]
  · rw [List.getElem?_drop, List.getElem?_take] at hk
    split at hk
    · rw [h.iff _ p hk]; simp; omega
    · cases hk
end Pantry
namespace Go.Proofs.Ytbjfigegiffefaa
open Go.RowKit Pantry

theorem WithinPost.stretch {l : List Mb} {a : Nat} {oa : Bool} {b : Nat} {ob : Bool} {w : World} {e : Ending} {w' : World} (h : WithinPost l a oa b ob w e w') (hg : RkGood l) :
    ∃ A B : Nat, e = .returned (.tuple #[.int .i64 A, .int .i64 B]) ∧ Stretch l (fun x => withinF x a oa b ob) A B ∧ Below w.heap.size w w' := by
  rcases h.1 with ⟨hn, rfl⟩ | ⟨ha, hb, i, j, hi, hj, rfl⟩
  · exact ⟨0, 0, rfl, ⟨Nat.le_refl _, Nat.zero_le _, fun k p hk => by rw [within_nan hn]; simp⟩, h.2⟩
  · refine ⟨i, max i j, rfl, ⟨by omega, by have := hi.le; have := hj.le; omega, fun k p hk => ?_⟩, h.2⟩
    have hx := hg.num p (List.mem_of_getElem? hk)
    have h1 := within_upto (x := p.2) (a := a) (oa := !oa) hx ha
    have h2 := within_upto (x := p.2) (a := b) (oa := ob) hx hb
    rw [withinF_num hx ha hb]
    by_cases hki : k < i
    · have h3 := h1.1 (hi.lo k p hki hk)
      rw [decide_eq_false (by omega : ¬ (i ≤ k ∧ k < max i j))]
      rcases h3 with h3 | ⟨h3, h4⟩
      · rw [decide_eq_false (by omega), decide_eq_false (by omega)]; rfl
      · have : oa = true := by simpa using h4
        rw [decide_eq_false (by omega), this]; simp
    · have h3 : ¬ (fkey p.2 < fkey a ∨ (fkey p.2 = fkey a ∧ (!oa) = false)) := fun hh => by
        have := h1.2 hh
        rw [hi.hi k p (by omega) hk] at this
        cases this
      have hlow : (decide (fkey a < fkey p.2) || (decide (fkey p.2 = fkey a) && !oa)) = true := by
        rcases Int.lt_trichotomy (fkey p.2) (fkey a) with q | q | q
        · exact absurd (.inl q) h3
        · have : oa = false := by
            cases oa
            · rfl
            · exact absurd (.inr ⟨q, rfl⟩) h3
          rw [this, decide_eq_true q]; simp
        · rw [decide_eq_true q]; rfl
      rw [hlow, Bool.true_and]
      by_cases hkj : k < j
      · have h4 := h2.1 (hj.lo k p hkj hk)
        rw [decide_eq_true (by omega : i ≤ k ∧ k < max i j)]
        rcases h4 with h4 | ⟨h4, h5⟩
        · rw [decide_eq_true h4]; rfl
        · rw [decide_eq_true h4, h5]; simp
      · have h4 : ¬ (fkey p.2 < fkey b ∨ (fkey p.2 = fkey b ∧ ob = false)) := fun hh => by
          have := h2.2 hh
          rw [hj.hi k p (by omega) hk] at this
          cases this
        rw [decide_eq_false (by omega : ¬ (i ≤ k ∧ k < max i j)), decide_eq_false (fun hh => h4 (.inl hh))]
        cases ob
        · rw [decide_eq_false (fun hh => h4 (.inr ⟨hh, rfl⟩))]; rfl
        · simp
theorem Twin.within {w : World} {r : Nat} {v : Value} {l : List Mb} {wr : World} (h : Twin w r v l wr) (a : Nat) (oa : Bool) (b : Nat) (ob : Bool) :
    Calls Try.prog 24 #[.pointer (some ⟨r, 0, none⟩), .agg #[.float .f64 a, .bool oa], .agg #[.float .f64 b, .bool ob]] wr (fun e w' => ∃ A B : Nat, e = .returned (.tuple #[.int .i64 A, .int .i64 B]) ∧ Stretch l (fun x => withinF x a oa b ob) A B ∧ Below wr.heap.size wr w') := by
  obtain ⟨⟨S, L, h1, h2, h3, h4, h5⟩, h6⟩ := h
  exact (h1.within a oa b ob).mono fun e w' hp => hp.stretch h1.good
theorem Twin.rangeSeg {w : World} {r : Nat} {v : Value} {l : List Mb} {wr : World} (h : Twin w r v l wr) (x y : Int) {m : List Mb} {n : Nat} (hm : segR l x y = m) (hn : m.length = n) : Calls Try.prog 12 #[.pointer (some ⟨r, 0, none⟩), .int .i64 x, .int .i64 y] wr (RowPost n m wr) := h.range x y hm hn
set_option maxHeartbeats 16000000 in
set_option maxRecDepth 100000 in
theorem stretches_walk (w : World) (seed : Nat) (hs : seed < 18446744073709551616) (a : Option Addr) (n c : Nat) (ops : List Stp) (hl : OpsAt w a n ops) (x y : Nat) (ox oy : Bool) :
    Calls Try.prog 6 #[.int .u64 seed, .slice a n c, .int .u64 x, .int .u64 y, .bool ox, .bool oy] w (OkPost w) := by
  have HW := Lib.hid (wakes_any w)
  have HL := Lib.hid hl
  have H1 := Lib.hid hs
  have hfb := frombits
  clear hl hs
  go_enter Try.func6, Try.ntmps6
  go_wp2_with (first
    | (go_at_call 10; refine HW.out.mono ?_; rintro e w1 ⟨rfl, hb⟩
       have HB := Lib.hid hb
       have HBU := Lib.hid (built_any w1 seed H1.out a n c ops (HL.out.keep hb))
       clear hb)
    | (go_at_call 11; refine HBU.out.mono ?_; rintro e w2 ⟨r, v, rfl, ht⟩
       obtain ⟨L, a2, c2, rfl, hp, hrd, hlen⟩ := ht.entries
       have hf := ht.good.1.few
       obtain ⟨l, hll⟩ : ∃ l, runL ops = l := ⟨_, rfl⟩
       rw [hll] at hlen hf hp ht
       rw [hll]
       obtain ⟨m, hm⟩ : ∃ m, l.length = m := ⟨_, rfl⟩
       rw [hm] at hlen hf ht
       rw [hm]
       have HT := Lib.hid ht
       have HLL := Lib.hid (show _ ∧ _ ∧ _ ∧ _ from ⟨hp, hrd, hlen, hm⟩)
       clear ht hp hrd hlen hm hll HBU))
  obtain ⟨w4, hw4⟩ : ∃ w4, (w2.alloc (.cells #[.float .f64 x, .bool ox] 58)).alloc (.cells #[.float .f64 y, .bool oy] 58) = w4 := ⟨_, rfl⟩
  have hb4 : Below w2.heap.size w2 w4 := by rw [← hw4]; exact ((Below.refl _ w2).alloc (Nat.le_refl _) _).alloc (by simp) _
  have hx4 : w4.heap[w2.heap.size]? = some (.cells #[.float .f64 x, .bool ox] 58) := by rw [← hw4, heap_alloc_old (by simp)]; exact heap_alloc_new w2 _
  have hy4 : w4.heap[w2.heap.size + 1]? = some (.cells #[.float .f64 y, .bool oy] 58) := by
    rw [← hw4]
    have := heap_alloc_new (w2.alloc (.cells #[.float .f64 x, .bool ox] 58)) (.cells #[.float .f64 y, .bool oy] 58)
    simpa using this
  have HX4 := Lib.hid hx4
  have HY4 := Lib.hid hy4
  have HT4 := Lib.hid (HT.out.below hb4)
  have HRL4 := Lib.hid (HLL.out.2.1.below hb4)
  have HWI := Lib.hid (HT4.out.within x ox y oy)
  rw [hw4]
  clear hb4 hx4 hy4 hw4 HW
  refine HWI.out.mono ?_
  rintro e w5 ⟨A, B, rfl, hst, hb5⟩
  have HST := Lib.hid hst
  have hAB := hst.le
  have hBl := hst.len
  rw [HLL.out.2.2.2] at hBl
  have HT5 := Lib.hid (HT4.out.below hb5)
  have HRL5 := Lib.hid (HRL4.out.below hb5)
  have HX5 := Lib.hid ((hb5.block _ (block_lt HX4.out)).trans HX4.out)
  have HY5 := Lib.hid ((hb5.block _ (block_lt HY4.out)).trans HY4.out)
  have HLN := Lib.hid HT5.out.len
  rw [HLL.out.2.2.2] at HLN
  have h1 : decide ((A : Int) < 0) = false := by simp
  have h2 : decide ((B : Int) < (A : Int)) = false := by simp; omega
  have h3 : decide ((m : Int) < (B : Int)) = false := by simp; omega
  have h4 : decide (B < A) = false := by simp; omega
  have h5 : decide (m < B) = false := by simp; omega
  clear hst hb5 HWI HT4 HRL4 HX4 HY4
  go_wp2_with (go_at_call 13; refine HLN.out.mono ?_; rintro e w6 ⟨rfl, rfl⟩)
  clear HLN h1 h2 h3 h4 h5
  go_loopw [20, 67] (fun z i wr => ∃ k : Nat, k ≤ m ∧ i = .int .i64 k ∧ z = .int .i64 ((L.take k).countP (fun p => withinF p.2 x ox y oy) : Nat) ∧ Hid (Below w5.heap.size w5 wr)) (fun _ i _ => m - (intOf i).toNat)
  case atStart => exact ⟨0, by omega, rfl, rfl, Lib.hid (Below.refl _ _)⟩
  case round =>
    obtain ⟨k, hk, rfl, rfl, HBW⟩ := hrel
    have hxw := (HBW.out.block _ (block_lt HX5.out)).trans HX5.out
    have hyw := (HBW.out.block _ (block_lt HY5.out)).trans HY5.out
    by_cases hlt : k < m
    · obtain ⟨p, hp⟩ : ∃ p, L[k]? = some p := ⟨_, List.getElem?_eq_getElem (by rw [HLL.out.2.2.1]; exact hlt)⟩
      obtain ⟨z, rfl, e2, e3⟩ := mb_cells (HRL5.out.below HBW.out) hp
      obtain ⟨w6, hw6⟩ : ∃ w6, wr.alloc (.cells #[.string ⟨p.1.toArray⟩, .float .f64 p.2] 41) = w6 := ⟨_, rfl⟩
      have hb6 : Below wr.heap.size wr w6 := by rw [← hw6]; exact (Below.refl _ wr).alloc (Nat.le_refl _) _
      have hx6 : w6.heap[wr.heap.size]? = some (.cells #[.string ⟨p.1.toArray⟩, .float .f64 p.2] 41) := by rw [← hw6]; exact heap_alloc_new wr _
      obtain ⟨⟨g0, g1⟩, -⟩ := two hx6
      obtain ⟨⟨i0, i1⟩, -⟩ := two ((hb6.block _ (block_lt hxw)).trans hxw)
      obtain ⟨⟨j0, j1⟩, -⟩ := two ((hb6.block _ (block_lt hyw)).trans hyw)
      have HB6 := Lib.hid (HBW.out.trans (hb6.mono HBW.out.size))
      have HW6 := Lib.hid hw6
      have HWF := Lib.hid (within_any w6 p.2 x ox y oy)
      have HCT : Hid ((L.take (k + 1)).countP (fun p => withinF p.2 x ox y oy) = (L.take k).countP (fun p => withinF p.2 x ox y oy) + (if withinF p.2 x ox y oy then 1 else 0)) := Lib.hid (by
        obtain ⟨hk2, rfl⟩ := List.getElem?_eq_some_iff.1 hp
        rw [List.take_succ_eq_append_getElem hk2, List.countP_append, List.countP_singleton])
      have hcb : (L.take k).countP (fun p => withinF p.2 x ox y oy) ≤ 1048576 := Nat.le_trans List.countP_le_length (by rw [List.length_take]; omega)
      obtain ⟨t, ht⟩ : ∃ t, withinF p.2 x ox y oy = t := ⟨_, rfl⟩
      rw [ht] at HWF HCT
      obtain ⟨ct, hct⟩ : ∃ ct, (L.take k).countP (fun p => withinF p.2 x ox y oy) = ct := ⟨_, rfl⟩
      rw [hct] at HCT hcb ⊢
      clear hp hb6 hx6 hw6 hxw hyw ht hct
      cases t
      all_goals
        go_upto_region 15 with fail
        rw [HW6.out]
        go_wp2_with (go_at_call 25; refine HWF.out.mono ?_; clear HWF; rintro e w7 ⟨rfl, hb7⟩
                     have HB7 := Lib.hid (HB6.out.trans (hb7.mono HB6.out.size))
                     clear hb7)
        go_roundw
        case rel => exact ⟨k + 1, by omega, by go_num, by rw [HCT.out]; first | rfl | go_num, HB7⟩
        case measure => simp [intOf]; omega
    · obtain rfl : k = m := by omega
      have HCE : Hid ((L.take k).countP (fun p => withinF p.2 x ox y oy) = B - A) := Lib.hid (by
        rw [List.take_of_length_le (by rw [HLL.out.2.2.1]; exact Nat.le_refl _), HLL.out.1.countP_eq]
        exact HST.out.count)
      rw [HCE.out]
      obtain ⟨hs1, hs2, hs3⟩ := HST.out.seg
      obtain ⟨d, hd⟩ : ∃ d, B - A = d := ⟨_, rfl⟩
      rw [hd] at hs2 ⊢
      obtain ⟨sg, hsg⟩ : ∃ sg, (l.take B).drop A = sg := ⟨_, rfl⟩
      rw [hsg] at hs1 hs2 hs3
      have HSG := Lib.hid (show _ ∧ _ from ⟨hs2, hs3⟩)
      have hsub : (B : Int) - (A : Int) = (d : Int) := by omega
      have HTW := Lib.hid (HT5.out.below HBW.out)
      have HRG := Lib.hid (HTW.out.range A B hs1 hs2)
      have HXW := Lib.hid hxw
      have HYW := Lib.hid hyw
      have hdb : d ≤ 1048576 := by omega
      clear hs1 hs2 hs3 hsg hd hxw hyw
      go_wp2_with (go_at_call 12; refine HRG.out.mono ?_; clear HRG; rintro e w8 ⟨a8, c8, rfl, hrd, -, hb8⟩
                   have HRD8 := Lib.hid hrd
                   have HB8 := Lib.hid hb8
                   have HX8 := Lib.hid ((hb8.block _ (block_lt HXW.out)).trans HXW.out)
                   have HY8 := Lib.hid ((hb8.block _ (block_lt HYW.out)).trans HYW.out)
                   have HU8 := Lib.hid (HB.out.trans ((HTW.out.below hb8).under.mono HB.out.size))
                   clear hrd hb8)
      go_loopw [96] (fun i wr => ∃ j : Nat, j ≤ d ∧ i = .int .i64 j ∧ Hid (Below w8.heap.size w8 wr)) (fun i _ => d - (intOf i).toNat)
      case atStart => exact ⟨0, by omega, rfl, Lib.hid (Below.refl _ _)⟩
      case round =>
        obtain ⟨j, hj, rfl, HBV⟩ := hrel
        have hxw := (HBV.out.block _ (block_lt HX8.out)).trans HX8.out
        have hyw := (HBV.out.block _ (block_lt HY8.out)).trans HY8.out
        by_cases hjl : j < d
        · obtain ⟨p, hp⟩ : ∃ p, sg[j]? = some p := ⟨_, List.getElem?_eq_getElem (by rw [HSG.out.1]; exact hjl)⟩
          obtain ⟨z, rfl, e2, e3⟩ := mb_cells (HRD8.out.below HBV.out) hp
          obtain ⟨w6, hw6⟩ : ∃ w6, wr.alloc (.cells #[.string ⟨p.1.toArray⟩, .float .f64 p.2] 34) = w6 := ⟨_, rfl⟩
          have hb6 : Below wr.heap.size wr w6 := by rw [← hw6]; exact (Below.refl _ wr).alloc (Nat.le_refl _) _
          have hx6 : w6.heap[wr.heap.size]? = some (.cells #[.string ⟨p.1.toArray⟩, .float .f64 p.2] 34) := by rw [← hw6]; exact heap_alloc_new wr _
          obtain ⟨⟨g0, g1⟩, -⟩ := two hx6
          obtain ⟨⟨i0, i1⟩, -⟩ := two ((hb6.block _ (block_lt hxw)).trans hxw)
          obtain ⟨⟨j0, j1⟩, -⟩ := two ((hb6.block _ (block_lt hyw)).trans hyw)
          have HB6 := Lib.hid (HBV.out.trans (hb6.mono HBV.out.size))
          have HW6 := Lib.hid hw6
          have HWF := Lib.hid (within_any w6 p.2 x ox y oy)
          have ht : withinF p.2 x ox y oy = true := HSG.out.2 j p hp
          rw [ht] at HWF
          clear hp hb6 hx6 hw6 hxw hyw ht
          go_upto_region 24 with fail
          rw [HW6.out]
          go_wp2_with (go_at_call 25; refine HWF.out.mono ?_; clear HWF; rintro e w7 ⟨rfl, hb7⟩
                       have HB7 := Lib.hid (HB6.out.trans (hb7.mono HB6.out.size))
                       clear hb7)
          go_roundw
          case rel => exact ⟨j + 1, by omega, by go_num, HB7⟩
          case measure => simp [intOf]; omega
        · clear hxw hyw
          go_wp2_with fail
          go_ret
          exact ⟨rfl, HU8.out.trans (HBV.out.mono HU8.out.size)⟩
end Go.Proofs.Ytbjfigegiffefaa
