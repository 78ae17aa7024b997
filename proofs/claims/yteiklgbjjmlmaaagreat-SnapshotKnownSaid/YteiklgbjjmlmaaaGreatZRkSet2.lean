
/- Set of ranks: behind the tests. -/
import Derived.Test.YteiklgbjjmlmaaaGreatZRkSet1
set_option linter.unusedVariables false
set_option linter.unusedSimpArgs false
namespace Go.Proofs.YteiklgbjjmlmaaaGreat
open Go.RowKit Pantry

set_option maxHeartbeats 8000000 in
set_option maxRecDepth 100000 in
theorem rset_tail (w : World) (r seed d : Nat) (D : Dc) (v : Value) (l : List Mb) (key : List UInt8) (x : Nat) (was : Bool) (h : RkAt w r seed d D v l) (hk : ∀ p ∈ l, p.1 ≠ key) (ht : key.length ≤ 1048576) (hx : ¬ fnan x) (hf : l.length < 1048576)
    (R : Ending → World → Prop) (hR : Hid (∀ j w', AtPlace l (key, x) j → ROp r seed d D v (l.take j ++ [(key, x)] ++ l.drop j) w w' → R (.returned (.tuple #[.bool (!was), .int .i64 0])) w')) (u3 u4 u5 u6 u7 u8 u10 u11 u12 u13 u14 u15 u16 u17 u18 u19 u20 u21 u22 u23 u24 u25 u26 u27 u28 u29 u30 u31 u32 u33 u34 u35 u36 u37 u38 u39 u40 u41 u42 u43 u44 u45 u46 u47 u48 u49 u50 u51 u52 u53 u54 u55 u56 u57 u58 u59 u60 u61 u62 u63 u64 u65 u66 u67 u68 u69 u70 u71 u72 u73 u74 u75 u76 u77 u78 u79 u80 u81 u82 u83 u84 u85 : Value) :
    ∀ c, cfst (cskip 5 (cbody Tryz.f71)) = c → ∀ cr, csnd (cskip 5 (cbody Tryz.f71)) = cr → ∀ K : Act → World → Prop, (∀ a v, Code.wp Tryz.prog cr (bodyPost Tryz.prog Tryz.f71 R) a v → K a v) →
      Code.wp Tryz.prog c (Exit.then K (bodyPost Tryz.prog Tryz.f71 R)) { tmps := #[.pointer (some ⟨r, 0, none⟩), .string ⟨key.toArray⟩, .float .f64 x, u3, u4, u5, u6, u7, u8, .bool was, u10, u11, u12, u13, u14, u15, u16, u17, u18, u19, u20, u21, u22, u23, u24, u25, u26, u27, u28, u29, u30, u31, u32, u33, u34, u35, u36, u37, u38, u39, u40, u41, u42, u43, u44, u45, u46, u47, u48, u49, u50, u51, u52, u53, u54, u55, u56, u57, u58, u59, u60, u61, u62, u63, u64, u65, u66, u67, u68, u69, u70, u71, u72, u73, u74, u75, u76, u77, u78, u79, u80, u81, u82, u83, u84, u85], defers := [] } w := by
  have HK := Lib.hid hk
  have HX := Lib.hid hx
  obtain ⟨⟨h0, h1, h2, h3⟩, hfz⟩ := four h.head
  obtain ⟨va, vc, rfl, -⟩ := h.slice
  have hrl := block_lt h.head
  obtain ⟨n, hn⟩ : ∃ n, l.length = n := ⟨_, rfl⟩
  have HN := Lib.hid hn
  rw [hn] at h h2 hf hR
  have H := Lib.hid h
  obtain ⟨wb, hwb⟩ : ∃ wb, w.alloc (.cells #[.string ⟨key.toArray⟩, .float .f64 x] 54) = wb := ⟨_, rfl⟩
  have hbb : Below w.heap.size w wb := by rw [← hwb]; exact (Below.refl _ w).alloc (Nat.le_refl _) _
  have hbx : wb.heap[w.heap.size]? = some (.cells #[.string ⟨key.toArray⟩, .float .f64 x] 54) := by rw [← hwb]; exact heap_alloc_new w _
  have hrb : wb.heap[r]? = w.heap[r]? := hbb.block r hrl
  have hnv : (Value.slice va n vc).ownBlock ≠ some r := fun hk => by
    obtain ⟨c, hc⟩ := row_type h.row hk
    exact types_ne hc h.head (by decide) rfl
  have hnH : (Value.slice va n vc).ownBlock ≠ some w.heap.size := fun hk => by
    obtain ⟨c, hc⟩ := row_type h.row hk
    have := block_lt hc
    omega
  have HBB := Lib.hid hbb
  have HNV := Lib.hid (show _ ∧ _ ∧ wb.heap.size = w.heap.size + 1 from ⟨hnv, hnH, by rw [← hwb]; simp⟩)
  have HS : Hid (∀ W : World, W.heap[r]? = wb.heap[r]? → W.heap[w.heap.size]? = wb.heap[w.heap.size]? → W.cell? ⟨r, 2, none⟩ = some (.slice va n vc) ∧ W.cell? ⟨w.heap.size, 0, none⟩ = some (.string ⟨key.toArray⟩) ∧ W.cell? ⟨w.heap.size, 1, none⟩ = some (.float .f64 x) ∧ W.frozen? ⟨r, 2, none⟩ = false) := Lib.hid (by
    intro W e1 e2
    have hh := (e1.trans hrb).trans h.head
    obtain ⟨⟨-, -, q, -⟩, qf⟩ := four hh
    exact ⟨q, row_cells (e2.trans hbx) 0 _ rfl, row_cells (e2.trans hbx) 1 _ rfl, qf 2⟩)
  have hrl2 : r < wb.heap.size := by rw [HNV.out.2.2]; omega
  have hHl2 : w.heap.size < wb.heap.size := by rw [HNV.out.2.2]; omega
  have HSW := Lib.hid (show ∀ W : World, Below wb.heap.size wb W → _ from fun W hb => HS.out W (hb.block r hrl2) (hb.block w.heap.size hHl2))
  have hbd := Lib.hid (Below.refl wb.heap.size wb).drew
  have hbd2 := Lib.hid ((Below.refl wb.heap.size wb).alloc (Nat.le_refl _) (.cells #[.string ⟨key.toArray⟩, .float .f64 x] 54)).drew
  have HS0 := Lib.hid (HSW.out wb.drew hbd.out)
  have HSA := Lib.hid (HSW.out (wb.alloc (.cells #[.string ⟨key.toArray⟩, .float .f64 x] 54)).drew hbd2.out)
  have HPL : Hid (∀ W, Below w.heap.size w W → Calls Tryz.prog 96 #[.pointer (some ⟨r, 0, none⟩), .agg #[.string ⟨key.toArray⟩, .float .f64 x]] W (PlacePost l (key, x) W)) := Lib.hid fun W hb => place_any W r seed d D _ l (key, x) (H.out.below hb) HX.out
  have HPA := Lib.hid (HPL.out wb.drew hbb.drew)
  have HPB := Lib.hid (HPL.out (wb.alloc (.cells #[.string ⟨key.toArray⟩, .float .f64 x] 54)).drew (hbb.alloc (by rw [HNV.out.2.2]; omega) _).drew)
  have hvB : Hid ((wb.alloc (.cells #[.string ⟨key.toArray⟩, .float .f64 x] 54)).drew.heap[wb.heap.size]? = some (.cells #[.string ⟨key.toArray⟩, .float .f64 x] 54)) := Lib.hid (heap_alloc_new wb _)
  clear h hk hx h0 h1 h2 h3 hfz hn hbb hbx hrb hnv hnH
  intro c hc cr hcr K hK
  conv at hc => lhs; whnf
  conv at hcr => lhs; whnf
  subst hc hcr
  dsimp only
  go_wp2_with fail
  clear hwb
  obtain ⟨g1, g2, g3, g4⟩ := HSW.out wb (Below.refl _ wb)
  have G1 : ∀ o, (wb.alloc o).cell? ⟨r, 2, none⟩ = some (.slice va n vc) := fun o => (HSW.out _ ((Below.refl wb.heap.size wb).alloc (Nat.le_refl _) o)).1
  have G2 : ∀ o, (wb.alloc o).cell? ⟨w.heap.size, 0, none⟩ = some (.string ⟨key.toArray⟩) := fun o => (HSW.out _ ((Below.refl wb.heap.size wb).alloc (Nat.le_refl _) o)).2.1
  have G3 : ∀ o, (wb.alloc o).cell? ⟨w.heap.size, 1, none⟩ = some (.float .f64 x) := fun o => (HSW.out _ ((Below.refl wb.heap.size wb).alloc (Nat.le_refl _) o)).2.2.1
  go_region_with (first
      | (go_at_call 96; first
           | (refine HPA.out.mono ?_; rintro e w2 ⟨j, rfl, hat, hb2⟩
              have HAT := Lib.hid hat
              have HW2 := Lib.hid (hbd.out.trans hb2)
              have HB2 := Lib.hid (HBB.out.trans (HW2.out.mono HBB.out.size))
              have HI2 := Lib.hid (ins_call (x := (key, x)) H.out HN.out (HB2.out.alloc HB2.out.size (.cells #[.string ⟨key.toArray⟩, .float .f64 x] 54)) (heap_alloc_new w2 _) HB2.out.size hat.le)
              obtain ⟨k1, k2, k3, k4⟩ := HSW.out w2 HW2.out
              have K1 : ∀ o, (w2.alloc o).cell? ⟨r, 2, none⟩ = some (.slice va n vc) := fun o => (HSW.out _ (HW2.out.alloc HW2.out.size o)).1
              have K2 : ∀ o, (w2.alloc o).cell? ⟨w.heap.size, 0, none⟩ = some (.string ⟨key.toArray⟩) := fun o => (HSW.out _ (HW2.out.alloc HW2.out.size o)).2.1
              have K3 : ∀ o, (w2.alloc o).cell? ⟨w.heap.size, 1, none⟩ = some (.float .f64 x) := fun o => (HSW.out _ (HW2.out.alloc HW2.out.size o)).2.2.1
              clear hat hb2 HPA HPB)
           | (refine HPB.out.mono ?_; rintro e w2 ⟨j, rfl, hat, hb2⟩
              have HAT := Lib.hid hat
              have HW2 := Lib.hid (hbd2.out.trans (hb2.mono hbd2.out.size))
              have HB2 := Lib.hid (HBB.out.trans (HW2.out.mono HBB.out.size))
              have HI2 := Lib.hid (ins_call (x := (key, x)) H.out HN.out HB2.out ((hb2.block wb.heap.size (by simp)).trans hvB.out) (Nat.le_of_lt hHl2) hat.le)
              obtain ⟨k1, k2, k3, k4⟩ := HSW.out w2 HW2.out
              clear hat hb2 HPA HPB))
      | (go_at_call 95; refine HI2.out.mono ?_; rintro e w3 ⟨a3, c3, W3, rfl, hW3, hr3, hg3, hv3⟩
         have hh3 : w3.heap[r]? = _ := (hg3.block r (Nat.lt_of_lt_of_le hrl hW3.size) (fun e => HNV.out.1 e.symm)).trans ((hW3.block r hrl).trans H.out.head)
         have HR3 := Lib.hid (show _ ∧ _ ∧ _ ∧ _ from ⟨hW3, hr3, hg3, hv3⟩)
         obtain ⟨⟨m0, m1, m2, m3⟩, mf⟩ := four hh3
         have mf2 := mf 2
         clear hW3 hr3 hg3 hv3 HI2 hh3 m0 m1 m3 mf))
  all_goals
    go_upto_region 16 with fail
    exact rset_end w W3 w3 r seed d D _ l key x j was a3 n c3 H.out HN.out HK.out ht HX.out hf HAT.out HR3.out.1 HR3.out.2.1 HR3.out.2.2.1 HR3.out.2.2.2 R hR _ _ _ _ _ _ _ _ _ _ _ _ _ _ _ _ _ _ _ _ _ _ _ _ _ _ _ _ _ _ _ _ _ _ _ _ _ _ _ _ _ _ _ _ _ _ _ _ _ _ _ _ _ _ _ _ _ _ _ _ _ _ _ _ _ _ _ _ _ _ _ _ _ _ _ _ _ _ _ _ _ _ _ rfl _ rfl _ (by assumption)
end Go.Proofs.YteiklgbjjmlmaaaGreat


/- Set of ranks. -/
set_option linter.unusedVariables false
set_option linter.unusedSimpArgs false
namespace Pantry
open Go
def insR (l : List Mb) (p : Mb) (j : Nat) : List Mb := l.take j ++ [p] ++ l.drop j
def cutR (l : List Mb) (i : Nat) : List Mb := l.take i ++ l.drop (i + 1)
/-- What Set makes of the members, whether the member is new, and the code. -/
inductive SetC (l : List Mb) (key : List UInt8) (x : Nat) : List Mb → Bool → Int → Prop
  | long (h : 1048576 < key.length) : SetC l key x l false 2
  | nan (h : key.length ≤ 1048576) (hx : fnan x) : SetC l key x l false 20
  | full (h : key.length ≤ 1048576) (hx : ¬ fnan x) (hk : ∀ p ∈ l, p.1 ≠ key) (hf : 1048576 ≤ l.length) : SetC l key x l false 4
  | same (h : key.length ≤ 1048576) (hx : ¬ fnan x) (y : Nat) (hy : (key, y) ∈ l) (he : fkey y = fkey x) : SetC l key x l false 0
  | moved (h : key.length ≤ 1048576) (hx : ¬ fnan x) (i y j : Nat) (hy : l[i]? = some (key, y)) (he : fkey y ≠ fkey x) (hj : AtPlace (cutR l i) (key, x) j) : SetC l key x (insR (cutR l i) (key, x) j) false 0
  | fresh (h : key.length ≤ 1048576) (hx : ¬ fnan x) (hk : ∀ p ∈ l, p.1 ≠ key) (hf : l.length < 1048576) (j : Nat) (hj : AtPlace l (key, x) j) : SetC l key x (insR l (key, x) j) true 0
end Pantry
namespace Go.Proofs.YteiklgbjjmlmaaaGreat
open Go.RowKit Pantry

theorem isNaN_any (w : World) (x : Nat) : Calls Tryz.prog 79 #[.float .f64 x] w fun e w' => e = .returned (.bool (decide (fnan x))) ∧ w = w' := by
  have h := f_self (x := x)
  go_enter Tryz.func79, Tryz.ntmps79
  go_wp2_with fail
  go_ret
  exact ⟨by first | rfl | (rw [← h]; rfl) | simp [h], rfl⟩
theorem ROp.join {w w1 w2 : World} {r seed d : Nat} {D D1 : Dc} {v v1 : Value} {l' : List Mb} (h : ROp r seed d D1 v1 l' w1 w2) (f : ∀ k, RFoot r d D1 v1 k → RFoot r d D v k ∨ w.heap.size ≤ k) (g : Chg (RFoot r d D v) w w1) : ROp r seed d D v l' w w2 := by
  obtain ⟨⟨D2, v2, h1, h2⟩, h3⟩ := h
  refine ⟨⟨D2, v2, h1, fun k hk => ?_⟩, g.trans h3 fun j hj hf => ?_⟩
  · rcases h2 k hk with hh | hh
    · exact f k hh
    · exact .inr (Nat.le_trans g.size hh)
  · rcases f j hf with hh | hh
    · exact hh
    · omega
theorem key_uniq {l : List Mb} (h : (l.map (·.1)).Nodup) {k : List UInt8} {x y : Nat} (hx : (k, x) ∈ l) (hy : (k, y) ∈ l) : x = y := by
  induction l with
  | nil => cases hx
  | cons p l ih =>
    rw [List.map_cons, List.nodup_cons] at h
    rcases List.mem_cons.1 hx with hg | hx
    · subst hg
      rcases List.mem_cons.1 hy with hh | hy
      · cases hh; rfl
      · exact (h.1 (List.mem_map.2 ⟨(k, y), hy, rfl⟩)).elim
    · rcases List.mem_cons.1 hy with hh | hy
      · subst hh
        exact (h.1 (List.mem_map.2 ⟨(k, x), by assumption, rfl⟩)).elim
      · exact ih h.2 hx hy
theorem cut_keys {l : List Mb} (h : (l.map (·.1)).Nodup) {i : Nat} {k : List UInt8} {x : Nat} (hi : l[i]? = some (k, x)) : ∀ p ∈ cutR l i, p.1 ≠ k := by
  intro p hp hk
  have hf : mbKv p ∈ (cutR l i).map mbKv := List.mem_map.2 ⟨p, hp, rfl⟩
  rw [cutR, ← cut_filter hi h] at hf
  have := (List.mem_filter.1 hf).2
  simp [mbKv, hk] at this
theorem RDelPost.there {r seed d : Nat} {D : Dc} {v : Value} {l : List Mb} {key : List UInt8} {w : World} {y : Nat} (hn : (l.map (·.1)).Nodup) (hy : (key, y) ∈ l) {e : Ending} {w' : World} (h : RDelPost r seed d D v l key w e w') :
    e = .returned (.bool true) ∧ ∃ i, l[i]? = some (key, y) ∧ ROp r seed d D v (cutR l i) w w' := by
  rcases h with ⟨i, x, hi, he, ho⟩ | ⟨hk, -⟩
  · obtain rfl := key_uniq hn (List.mem_of_getElem? hi) hy
    exact ⟨he, i, hi, ho⟩
  · exact absurd rfl (hk _ hy)
def RSetPost (r seed d : Nat) (D : Dc) (v : Value) (l : List Mb) (key : List UInt8) (x : Nat) (w : World) (e : Ending) (w' : World) : Prop :=
  ∃ l' new code, SetC l key x l' new code ∧ e = .returned (.tuple #[.bool new, .int .i64 code]) ∧ ROp r seed d D v l' w w'
set_option maxHeartbeats 8000000 in
set_option maxRecDepth 100000 in
theorem rkSet_any (w : World) (r seed d : Nat) (D : Dc) (v : Value) (l : List Mb) (key : List UInt8) (x : Nat) (h : RkAt w r seed d D v l) (hs : key.length ≤ 140737488351232) :
    Calls Tryz.prog 71 #[.pointer (some ⟨r, 0, none⟩), .string ⟨key.toArray⟩, .float .f64 x] w (RSetPost r seed d D v l key x w) := by
  obtain ⟨⟨h0, h1, h2, h3⟩, -⟩ := four h.head
  have HH := Lib.hid h
  have HG := Lib.hid (get_any w d D key h.dict h.wf hs)
  have HP : ∀ e w', GetPost d D key w e w' → ((∃ y, (key, y) ∈ l ∧ e = .returned (.tuple #[.float .f64 y, .bool true])) ∨ ((∀ p ∈ l, p.1 ≠ key) ∧ e = .returned (.tuple #[.float .f64 0, .bool false]))) ∧ ∃ D1, RkAt w' r seed d D1 v l ∧ (∀ k, RFoot r d D1 v k → RFoot r d D v k) ∧ Chg (RFoot r d D v) w w' := by
    rintro e w' ⟨h1, D', hw', hI⟩
    obtain ⟨g1, g2, g3⟩ := HH.out.dicts hI hw'
    refine ⟨?_, D', g1, g3, g2⟩
    rcases h1 with ⟨x, hx, rfl, rfl⟩ | ⟨hx, rfl⟩
    · obtain ⟨y, hy, hv⟩ := mem_kv HH.out.kv hx
      exact .inl ⟨y, hy, by rw [hv]⟩
    · refine .inr ⟨fun p hp hk => ?_, rfl⟩
      obtain ⟨e, he, h1, -⟩ := kv_mem HH.out.kv hp
      exact hx e he (h1.trans hk)
  have HPP := Lib.hid HP
  have hnan := fun w => Lib.hid (isNaN_any w x)
  clear h h0 h2 h3 HP
  go_enter Tryz.func71, Tryz.ntmps71
  go_wp2_with fail
  refine HG.out.mono ?_
  intro e w1 hp
  obtain ⟨hres, D1, h1', f1, g1⟩ := HPP.out e w1 hp
  have H1 := Lib.hid h1'
  have HFG := Lib.hid (show _ ∧ _ from ⟨f1, g1⟩)
  have HSAME : Hid (ROp r seed d D v l w w1) := Lib.hid ⟨⟨D1, v, h1', fun k hk => .inl (f1 k hk)⟩, g1⟩
  obtain ⟨⟨-, -, q2, -⟩, -⟩ := four h1'.head
  obtain ⟨va, vc, rfl, -⟩ := h1'.slice
  obtain ⟨n, hn⟩ : ∃ n, l.length = n := ⟨_, rfl⟩
  have HN := Lib.hid hn
  rw [hn] at q2
  clear hp h1' f1 g1 HPP HG hn h1
  rcases hres with ⟨y, hy, rfl⟩ | ⟨hk, rfl⟩
  · have HY := Lib.hid hy
    have hny := HH.out.good.num _ hy
    have HNY := Lib.hid hny
    clear hy hny
    by_cases hlong : 1048576 < key.length
    · have HLG := Lib.hid hlong
      go_wp2_with fail
      go_ret2
      exact ⟨l, false, 2, .long HLG.out, rfl, HSAME.out⟩
    · have HLG := Lib.hid (Nat.le_of_not_lt hlong)
      by_cases hx : fnan x
      · have HX := Lib.hid hx
        have hd : decide (fnan x) = true := decide_eq_true hx
        clear hx
        go_wp2_with (go_at_call 79; refine (hnan _).out.mono ?_; rintro e w2 ⟨rfl, rfl⟩)
        go_ret2
        exact ⟨l, false, 20, .nan HLG.out HX.out, rfl, HSAME.out⟩
      · have HX := Lib.hid hx
        have hd : decide (fnan x) = false := decide_eq_false hx
        have he := f_eq HNY.out hx
        clear hx
        by_cases heq : fkey y = fkey x
        · have HE := Lib.hid heq
          rw [decide_eq_true heq] at he
          clear heq
          go_wp2_with (go_at_call 79; refine (hnan _).out.mono ?_; rintro e w2 ⟨rfl, rfl⟩)
          go_ret2
          exact ⟨l, false, 0, .same HLG.out HX.out y HY.out HE.out, rfl, HSAME.out⟩
        · have HE := Lib.hid heq
          rw [decide_eq_false heq] at he
          clear heq
          have HD := Lib.hid ((rkDel_any w1 r seed d D1 _ l key H1.out hs).mono fun e w' hp => hp.there H1.out.keys HY.out)
          go_upto_region 14 with (first
            | (go_at_call 79; refine (hnan _).out.mono ?_; rintro e w2 ⟨rfl, rfl⟩)
            | (go_at_call 94; refine HD.out.mono ?_; rintro e w2 ⟨rfl, i, hi, hop⟩
               have HI := Lib.hid hi
               have HOP := Lib.hid hop
               clear hi hop HD))
          obtain ⟨⟨D2, v2, h2, f2⟩, g2⟩ := HOP.out
          have HF2 : Hid (∀ k, RFoot r d D2 v2 k → RFoot r d D (.slice va l.length vc) k ∨ w.heap.size ≤ k) := Lib.hid fun k hk => (f2 k hk).imp (HFG.out.1 k) fun hh => Nat.le_trans HFG.out.2.size hh
          have HG2 : Hid (Chg (RFoot r d D (.slice va l.length vc)) w w2) := Lib.hid (HFG.out.2.trans g2 fun k _ hk => HFG.out.1 k hk)
          exact rset_tail w2 r seed d D2 v2 (cutR l i) key x true h2 (cut_keys H1.out.keys HI.out) HLG.out HX.out (by have := (List.getElem?_eq_some_iff.1 HI.out).1; have := H1.out.good.few; simp [cutR]; omega) _
            (Lib.hid fun j w' hat hop2 => ⟨insR (cutR l i) (key, x) j, false, 0, .moved HLG.out HX.out i y j HI.out HE.out hat, rfl, ROp.join hop2 HF2.out HG2.out⟩) _ _ _ _ _ _ _ _ _ _ _ _ _ _ _ _ _ _ _ _ _ _ _ _ _ _ _ _ _ _ _ _ _ _ _ _ _ _ _ _ _ _ _ _ _ _ _ _ _ _ _ _ _ _ _ _ _ _ _ _ _ _ _ _ _ _ _ _ _ _ _ _ _ _ _ _ _ _ _ _ _ _ _ rfl _ rfl _ (by assumption)
  · have HK := Lib.hid hk
    clear hk
    by_cases hlong : 1048576 < key.length
    · have HLG := Lib.hid hlong
      go_wp2_with fail
      go_ret2
      exact ⟨l, false, 2, .long HLG.out, rfl, HSAME.out⟩
    · have HLG := Lib.hid (Nat.le_of_not_lt hlong)
      by_cases hx : fnan x
      · have HX := Lib.hid hx
        have hd : decide (fnan x) = true := decide_eq_true hx
        clear hx
        go_wp2_with (go_at_call 79; refine (hnan _).out.mono ?_; rintro e w2 ⟨rfl, rfl⟩)
        go_ret2
        exact ⟨l, false, 20, .nan HLG.out HX.out, rfl, HSAME.out⟩
      · have HX := Lib.hid hx
        have hd : decide (fnan x) = false := decide_eq_false hx
        clear hx
        by_cases hfull : 1048576 ≤ n
        · have HF := Lib.hid hfull
          have hb : decide ((1048576 : Int) ≤ (n : Int)) = true := by simp; omega
          clear hfull
          go_wp2_with (go_at_call 79; refine (hnan _).out.mono ?_; rintro e w2 ⟨rfl, rfl⟩)
          go_ret2
          exact ⟨l, false, 4, .full HLG.out HX.out HK.out (by rw [HN.out]; exact HF.out), rfl, HSAME.out⟩
        · have HF := Lib.hid (Nat.lt_of_not_le hfull)
          have hb : decide ((1048576 : Int) ≤ (n : Int)) = false := by simp; omega
          clear hfull
          go_upto_region 14 with (first
            | (go_at_call 79; refine (hnan _).out.mono ?_; rintro e w2 ⟨rfl, rfl⟩))
          exact rset_tail w1 r seed d D1 _ l key x false H1.out HK.out HLG.out HX.out (by rw [HN.out]; exact HF.out) _
            (Lib.hid fun j w' hat hop2 => ⟨insR l (key, x) j, true, 0, .fresh HLG.out HX.out HK.out (by rw [HN.out]; exact HF.out) j hat, rfl, ROp.join hop2 (fun k hk => .inl (HFG.out.1 k hk)) HFG.out.2⟩) _ _ _ _ _ _ _ _ _ _ _ _ _ _ _ _ _ _ _ _ _ _ _ _ _ _ _ _ _ _ _ _ _ _ _ _ _ _ _ _ _ _ _ _ _ _ _ _ _ _ _ _ _ _ _ _ _ _ _ _ _ _ _ _ _ _ _ _ _ _ _ _ _ _ _ _ _ _ _ _ _ _ _ rfl _ rfl _ (by assumption)
end Go.Proofs.YteiklgbjjmlmaaaGreat
