/- The law's even and put. -/
import Derived.Test.YtefoieloakfhfaaFilled
namespace Pantry
open Go Go.RowKit
theorem step_append_gen {P : Program} {t e : TypeId} {size bytes : Nat} {z : Value} (E : ElemT P t e size bytes z) {w : World} {ops : Array Oper} {o : Oper} {a : Act} {K : Act → World → Prop} {Q : Exit → Act → World → Prop} {E' : Prop} (hgd : o.guard = none) (s x : Operand)
    (ho : o.op = .call { callee := .builtin .append, args := #[s, x], argTypes := #[t, t] })
    (base : Nat) {v : Value} {n : Nat} {xs : List Value} (hs : a.eval s = v) (hown : w.ownsRow base e size v n xs)
    {ad : Option Addr} {m c : Nat} {news : List Value} (hx : a.eval x = .slice ad m c) (hnil : ad = none → c = 0) (hl : news.length = m * size) (hrd : Rd w ad news)
    (hbytes : (n + m) * bytes ≤ 140737488355328) (hbase : base ≤ w.heap.size)
    (h : ∀ v' w', w'.ownsRow base e size v' (n + m) (xs ++ news) → w.grownBy w' v.ownBlock → K (a.put o.dst v') w') :
    if Region.wanted o (yielded ops a.tmps) = true then Oper.wp P o a w K Q else E' := by
  have hw : Region.wanted o (yielded ops a.tmps) = true := by simp [Region.wanted, hgd]
  rw [if_pos hw]
  obtain ⟨v', w', hr, h1, h2, _, _⟩ := run_append (P := P) E o.type base hown hnil hl hrd hbytes hbase
  exact Lib.wp_append_run w s x t t ho v (.slice ad m c) hs hx _ _ hr (h v' w' h1 h2)
/-- An append of one element behind other new blocks. -/
theorem wpl_append1_at {P : Program} {t e : TypeId} {size bytes : Nat} {z : Value} (E : ElemT P t e size bytes z) {w : World} {ops : Array Oper} {rest : List Oper} {o : Oper} {a : Act} {Q : Exit → Act → World → Prop} (hgd : o.guard = none) (s x : Operand)
    (ho : o.op = .call { callee := .builtin .append, args := #[s, x], argTypes := #[t, t] })
    (base : Nat) {v : Value} {n : Nat} {xs : List Value} (hs : a.eval s = v) (hown : w.ownsRow base e size v n xs)
    (us : Array Value) {H : Nat} (hx : a.eval x = .slice (some ⟨H, 0, none⟩) 1 1) (hH : w.heap.size = H) (hl : us.size = size) (h1 : ∀ u ∈ us, u.oneCell' = true)
    (hbytes : (n + 1) * bytes ≤ 140737488355328) (hbase : base ≤ w.heap.size)
    (h : ∀ v' w', w'.ownsRow base e size v' (n + 1) (xs ++ us.toList) → w.grownBy w' v.ownBlock → Below base w w' → (∀ k, v'.ownBlock = some k → v.ownBlock = some k ∨ w.heap.size ≤ k) → wpList P ops Q rest (a.put o.dst v') w') : wpList P ops Q (o :: rest) a (w.alloc (.cells us e)) := by
  subst hH
  exact wpl_append1 E hgd s x ho base hs hown us hx hl h1 hbytes hbase h
theorem own_empty (w : World) (base : Nat) (e : TypeId) (hb : base ≤ w.heap.size) : (w.alloc (.cells #[] e)).ownsRow base e 1 (.slice (some ⟨w.heap.size, 0, none⟩) 0 0) 0 [] :=
  World.ownsRow_made w #[] 0 hb (Nat.zero_le _) rfl
end Pantry
namespace Go.Proofs.Ytefoieloakfhfaa
open Go.RowKit Pantry

theorem strT : ElemT Try.prog 22 9 1 16 (.string ⟨#[]⟩) := ⟨Try.underlying22, strI, rfl, by decide, by decide⟩
/-- A row of texts of one's own. -/
def TRowPost (l : List Txt) (w : World) (e : Ending) (w' : World) : Prop := ∃ v, e = .returned v ∧ w'.ownsRow w.heap.size 9 1 v l.length (txts l) ∧ Below w.heap.size w w'
theorem txts_app (l m : List Txt) : txts (l ++ m) = txts l ++ txts m := by simp [txts]
theorem txts_take (l : List Txt) (n : Nat) : txts (l.take n) = (txts l).take n := by simp [txts, List.map_take]
theorem txts_drop (l : List Txt) (n : Nat) : txts (l.drop n) = (txts l).drop n := by simp [txts, List.map_drop]
theorem Rd.part {w : World} {y : Addr} {xs : List Value} (h : Rd w (some y) xs) (i m : Nat) : Rd w (some (y.add i)) ((xs.drop i).take m) := fun j u hj => by
  rw [List.getElem?_take] at hj
  by_cases hm : j < m
  · rw [if_pos hm, List.getElem?_drop] at hj
    obtain ⟨h1, x, hx, hc⟩ := h (i + j) u hj
    cases hx
    refine ⟨h1, _, rfl, ?_⟩
    have e : (y.add i).add j = y.add (i + j) := Addr.add_add y i j
    rw [e]; exact hc
  · rw [if_neg hm] at hj; cases hj
theorem Rd.keep {w w' : World} {a : Option Addr} {xs : List Value} (h : Rd w a xs) (hb : Below w.heap.size w w') : Rd w' a xs := fun j u hj => by
  obtain ⟨h1, x, hx, hc⟩ := h j u hj
  exact ⟨h1, x, hx, (hb.cell (World.block_lt_of_cell? w _ hc)).trans hc⟩
theorem own_cast {w : World} {base : Nat} {e : TypeId} {size : Nat} {v : Value} {n m : Nat} {xs ys : List Value} (h : w.ownsRow base e size v n xs) (hn : n = m) (hx : xs = ys) : w.ownsRow base e size v m ys := by
  subst hn hx; exact h
set_option maxHeartbeats 4000000 in
set_option maxRecDepth 100000 in
theorem lput_any (w : World) (a : Option Addr) (n c i : Nat) (l : List Txt) (s : Txt) (hl : l.length = n) (hn : n ≤ 1048576) (hr : Rd w a (txts l)) (hnil : a = none → c = 0) (hnc : n ≤ c) (hi : i ≤ n) :
    Calls Try.prog 17 #[.slice a n c, .int .i64 i, .string ⟨s.toArray⟩] w (TRowPost (putIn l i s) w) := by
  have HL := Lib.hid hl
  clear hl
  have HO0 := Lib.hid (World.ownsRow_nil w w.heap.size 9 1)
  cases a with
  | none =>
    obtain rfl : c = 0 := hnil rfl
    obtain rfl : n = 0 := by omega
    obtain rfl : i = 0 := by omega
    obtain rfl : l = [] := List.eq_nil_of_length_eq_zero HL.out
    clear hnil hnc hi hr hn
    go_enter Try.func17, Try.ntmps17
    go_wp2_with (first
      | (at_builtin; refine wpl_append strT rfl _ _ rfl w.heap.size rfl HO0.out (news := []) rfl (fun _ => rfl) rfl (Rd.nil _ _) (by decide) (Nat.le_refl _) ?_; clear HO0; intro v2 w2 hown2 hg2 hv2
         have HO2 := Lib.hid hown2
         have hb2 := ((Below.refl w.heap.size w).grown hg2 (Nat.le_refl _) (fun k hk => by cases hk))
         have HB2 := Lib.hid hb2
         have hsz2 := hb2.size
         clear hown2 hg2 hb2 hv2)
      | (at_builtin; refine wpl_append1 strT rfl _ _ rfl w.heap.size rfl HO2.out #[.string ⟨s.toArray⟩] rfl rfl (by simp [Value.oneCell']) (by omega) hsz2 ?_; clear HO2; intro v3 w3 hown3 hg3 hb3 hv3
         have HO3 := Lib.hid hown3
         have HB3 := Lib.hid (HB2.out.trans hb3)
         have hsz3 := hb3.size
         clear hown3 hg3 hb3 hv3)
      | (at_builtin; refine wpl_append strT rfl _ _ rfl w.heap.size rfl HO3.out (news := []) rfl (fun _ => rfl) rfl (Rd.nil _ _) (by decide) (by omega) ?_; intro v4 w4 hown4 hg4 hv4
         have HB4 := Lib.hid (HB3.out.grown hg4 HB3.out.size fun k hk => (HO3.out.lt k hk).1)
         clear HO3
         have HO4 := Lib.hid hown4
         have HG4 := Lib.hid hg4
         clear hown4 hg4 hv4))
    go_ret
    exact ⟨v4, rfl, HO4.out, HB4.out⟩
  | some y =>
    clear hnil
    by_cases hci : i = c
    · obtain rfl : i = n := by omega
      subst hci
      go_enter Try.func17, Try.ntmps17
      go_wp2_with (first
        | (at_builtin; refine wpl_append strT rfl _ _ rfl w.heap.size rfl HO0.out (news := txts (l.take i)) rfl (fun h => by cases h) (by rw [txts_length, List.length_take, HL.out]; omega) (by have := Rd.part hr 0 i; rw [List.drop_zero, ← txts_take] at this; exact this) (by omega) (Nat.le_refl _) ?_; clear HO0; intro v2 w2 hown2 hg2 hv2
           have HO2 := Lib.hid hown2
           have hb2 := ((Below.refl w.heap.size w).grown hg2 (Nat.le_refl _) (fun k hk => by cases hk))
           have HB2 := Lib.hid hb2
           have hsz2 := hb2.size
           clear hown2 hg2 hb2 hv2)
        | (at_builtin; refine wpl_append1 strT rfl _ _ rfl w.heap.size rfl HO2.out #[.string ⟨s.toArray⟩] rfl rfl (by simp [Value.oneCell']) (by omega) hsz2 ?_; clear HO2; intro v3 w3 hown3 hg3 hb3 hv3
           have HO3 := Lib.hid hown3
           have HB3 := Lib.hid (HB2.out.trans hb3)
           have hsz3 := hb3.size
           clear hown3 hg3 hb3 hv3)
        | (at_builtin; refine wpl_append strT rfl _ _ rfl w.heap.size rfl HO3.out (news := txts (l.drop i)) rfl (fun h => by cases h) (by rw [txts_length, List.length_drop, HL.out]; omega) (by rw [List.drop_eq_nil_of_le (by rw [HL.out]; exact Nat.le_refl _)]; exact Rd.nil _ _) (by omega) (by omega) ?_; intro v4 w4 hown4 hg4 hv4
           have HB4 := Lib.hid (HB3.out.grown hg4 HB3.out.size fun k hk => (HO3.out.lt k hk).1)
           clear HO3
           have HO4 := Lib.hid hown4
           have HG4 := Lib.hid hg4
           clear hown4 hg4 hv4))
      go_ret
      refine ⟨v4, rfl, ?_, HB4.out⟩
      exact own_cast HO4.out (by simp [putIn, HL.out]; try omega) (by simp [putIn, txts, txt])
    · have hci2 : ¬ c = i := fun e => hci e.symm
      go_enter Try.func17, Try.ntmps17
      go_wp2_with (first
        | (at_builtin; refine wpl_append strT rfl _ _ rfl w.heap.size rfl HO0.out (news := txts (l.take i)) rfl (fun h => by cases h) (by rw [txts_length, List.length_take, HL.out]; omega) (by have := Rd.part hr 0 i; rw [List.drop_zero, ← txts_take] at this; exact this) (by omega) (Nat.le_refl _) ?_; clear HO0; intro v2 w2 hown2 hg2 hv2
           have HO2 := Lib.hid hown2
           have hb2 := ((Below.refl w.heap.size w).grown hg2 (Nat.le_refl _) (fun k hk => by cases hk))
           have HB2 := Lib.hid hb2
           have hsz2 := hb2.size
           clear hown2 hg2 hb2 hv2)
        | (at_builtin; refine wpl_append1 strT rfl _ _ rfl w.heap.size rfl HO2.out #[.string ⟨s.toArray⟩] rfl rfl (by simp [Value.oneCell']) (by omega) hsz2 ?_; clear HO2; intro v3 w3 hown3 hg3 hb3 hv3
           have HO3 := Lib.hid hown3
           have HB3 := Lib.hid (HB2.out.trans hb3)
           have hsz3 := hb3.size
           clear hown3 hg3 hb3 hv3)
        | (at_builtin; refine wpl_append strT rfl _ _ rfl w.heap.size rfl HO3.out (news := txts (l.drop i)) rfl (fun h => by cases h) (by rw [txts_length, List.length_drop, HL.out]; omega) ((by have := Rd.part hr i (n - i); rw [← txts_drop, List.take_of_length_le (by rw [txts_length, List.length_drop, HL.out]; exact Nat.le_refl _)] at this; exact Rd.keep this HB3.out)) (by omega) (by omega) ?_; intro v4 w4 hown4 hg4 hv4
           have HB4 := Lib.hid (HB3.out.grown hg4 HB3.out.size fun k hk => (HO3.out.lt k hk).1)
           clear HO3
           have HO4 := Lib.hid hown4
           have HG4 := Lib.hid hg4
           clear hown4 hg4 hv4))
      go_ret
      refine ⟨v4, rfl, ?_, HB4.out⟩
      exact own_cast HO4.out (by simp [putIn, HL.out]; try omega) (by simp [putIn, txts, txt])

theorem sizes_sum (cs : List (List Txt)) : (sizesL cs).sum = total cs := rfl
def costs (l : List Txt) : Nat := (l.map fun x => 16 + x.length).sum
theorem costs_snoc (l : List Txt) (x : Txt) : costs (l ++ [x]) = costs l + (16 + x.length) := by simp [costs]
theorem costs_take {l : List Txt} {k : Nat} {x : Txt} (h : l[k]? = some x) : costs (l.take (k + 1)) = costs (l.take k) + (16 + x.length) := by
  rw [List.take_add_one, h, Option.toList_some, costs_snoc]
theorem costs_mono (l : List Txt) (k : Nat) : costs (l.take k) ≤ costs l := by
  have h : costs l = costs (l.take k) + costs (l.drop k) := by
    unfold costs
    rw [← List.sum_append, ← List.map_append, List.take_append_drop]
  omega
theorem total_take_le (cs : List (List Txt)) (k : Nat) : total (cs.take k) ≤ total cs := by
  have h : total cs = total (cs.take k) + total (cs.drop k) := by
    unfold total
    rw [← List.sum_append, ← List.map_append, List.take_append_drop]
  omega
theorem total_step {cs : List (List Txt)} {k : Nat} {c : List Txt} (h : cs[k]? = some c) : total (cs.take (k + 1)) = total (cs.take k) + c.length := by
  rw [List.take_add_one, h]; simp [total]

set_option maxHeartbeats 4000000 in
set_option maxRecDepth 100000 in
theorem even_any {w0 w : World} {d : Nat} {cs : List (List Txt)} (h : Dq w0 w d cs) (a : Option Addr) (n c : Nat) (l : List Txt) (hcs : cs.flatten = l) (hl : l.length = n) (hr : Rd w a (txts l)) :
    Calls Try.prog 22 #[.pointer (some ⟨d, 0, none⟩), .slice a n c] w (OkPost w) := by
  have hn : n ≤ 1048576 := by rw [← hl, ← hcs, flatten_length]; exact h.good.total
  have hrl := h.good.rows
  have hcl := costOf_le h.good.text
  have hct := costOf_flat cs
  have htot := h.good.total
  rw [hcs] at hct
  have htn : total cs = n := by rw [← flatten_length, hcs, hl]
  have HH := Lib.hid h
  have HC := Lib.hid h.chunks
  have HL := Lib.hid hl
  have HR := Lib.hid hr
  obtain ⟨m, hm⟩ : ∃ m, cs.length = m := ⟨_, rfl⟩
  obtain ⟨C, hC⟩ : ∃ C, costOf cs = C := ⟨_, rfl⟩
  rw [hm] at hrl
  rw [hC] at hcl hct
  have hCb : C ≤ 1048576 * 1048592 := Nat.le_trans hcl (Nat.mul_le_mul_right _ htot)
  have HM := Lib.hid hm
  have HCO := Lib.hid hC
  have HCT := Lib.hid (show costs l = C from hct.symm)
  have HTN := Lib.hid htn
  clear h hl hr hcs hm hC hcl hct htot htn
  go_enter Try.func22, Try.ntmps22
  go_wp2_with (go_at_call 13; refine HC.out.mono ?_; clear HC; rintro e w1 ⟨v1, rfl, hown1, hb1⟩
               obtain ⟨a1, c1, rfl, hrd1⟩ := intsRd hown1
               rw [show (sizesL cs).length = m by simp [sizesL, HM.out]]
               have HR1 := Lib.hid hrd1
               have HB1 := Lib.hid hb1
               clear hown1 hb1 hrd1)
  go_loopw [5, 14] (fun s i wr => ∃ k t : Nat, k ≤ m ∧ s = .int .i64 t ∧ i = .int .i64 k ∧ Hid (t = total (cs.take k)) ∧ wr = w1) (fun _ i _ => m - (intOf i).toNat)
  case atStart => exact ⟨0, 0, Nat.zero_le _, rfl, rfl, Lib.hid rfl, rfl⟩
  case round =>
    obtain ⟨k, t, hk, rfl, rfl, HT, rfl⟩ := hrel
    have htk : t ≤ 1048576 := by have := total_take_le cs k; rw [HTN.out] at this; rw [HT.out]; omega
    by_cases hlt : k < m
    · obtain ⟨ck, hck⟩ : ∃ c, cs[k]? = some c := ⟨_, List.getElem?_eq_getElem (by rw [HM.out]; exact hlt)⟩
      obtain ⟨y, hy, hcell⟩ := ints_cell HR1.out (show (sizesL cs)[k]? = some ck.length by simp [sizesL, hck])
      subst hy
      have h32 := HH.out.good.chunk ck (List.mem_of_getElem? hck)
      have h1 : ck.length ≠ 0 := fun e => HH.out.good.some_ ck (List.mem_of_getElem? hck) (List.eq_nil_of_length_eq_zero e)
      have HST := Lib.hid (total_step hck)
      obtain ⟨q, hq⟩ : ∃ q, ck.length = q := ⟨_, rfl⟩
      rw [hq] at hcell h32 h1 HST
      have hq1 : ¬ (q : Int) < 1 := by omega
      have hq2 : ¬ (32 : Int) < (q : Int) := by omega
      clear hck hq
      go_wp2_with fail
      go_roundw
      case rel => exact ⟨k + 1, t + q, by omega, by go_num, by go_num, Lib.hid (by have h1 := HT.out; have h2 := HST.out; omega), trivial⟩
      case measure => simp [intOf]; omega
    · obtain rfl : k = m := by omega
      have HS := Lib.hid (show t = n by rw [HT.out, ← HTN.out, List.take_of_length_le (by rw [HM.out]; exact Nat.le_refl _)])
      go_wp2_with fail
      have HLEN := Lib.hid (HH.out.quiet (Chg.of_below HB1.out)).len
      have HCST := Lib.hid (HH.out.quiet (Chg.of_below HB1.out)).cost
      rw [HTN.out] at HLEN
      rw [HCO.out] at HCST
      rw [HS.out]
      go_loopw [8, 30] (fun s i wx => ∃ j u : Nat, j ≤ n ∧ s = .int .i64 u ∧ i = .int .i64 j ∧ Hid (u = costs (l.take j)) ∧ wx = wr) (fun _ i _ => n - (intOf i).toNat)
      case atStart => exact ⟨0, 0, Nat.zero_le _, rfl, rfl, Lib.hid rfl, rfl⟩
      case round =>
        obtain ⟨j, u, hj, rfl, rfl, HU, rfl⟩ := hrel
        by_cases hlt2 : j < n
        · obtain ⟨x, hxj⟩ : ∃ x, l[j]? = some x := ⟨_, List.getElem?_eq_getElem (by rw [HL.out]; exact hlt2)⟩
          obtain ⟨y, hy, hcell⟩ := txts_cell (Rd.keep HR.out HB1.out) hxj
          subst hy
          unfold txt at hcell
          have hsz := mk_size x
          have hst := costs_take hxj
          have hmo := costs_mono l (j + 1)
          rw [HCT.out, hst, ← HU.out] at hmo
          have HST := Lib.hid hst
          clear hxj hst
          have hb : u + (16 + x.length) ≤ 1048576 * 1048592 := Nat.le_trans hmo hCb
          go_wp2_with fail
          go_roundw
          case rel => exact ⟨j + 1, u + (16 + x.length), by omega, by go_num, by go_num, Lib.hid (by have h1 := HU.out; have h2 := HST.out; omega), trivial⟩
          case measure => simp [intOf]; omega
        · obtain rfl : j = n := by omega
          have HS2 := Lib.hid (show u = C by rw [HU.out, List.take_of_length_le (by rw [HL.out]; exact Nat.le_refl _)]; exact HCT.out)
          rw [HS2.out]
          go_wp2_with (first
            | (go_at_call 16; refine HLEN.out.mono ?_; clear HLEN; rintro e w3 ⟨rfl, rfl⟩)
            | (go_at_call 14; refine HCST.out.mono ?_; clear HCST; rintro e w4 ⟨rfl, rfl⟩))
          go_ret
          exact ⟨rfl, HB1.out⟩
end Go.Proofs.Ytefoieloakfhfaa
