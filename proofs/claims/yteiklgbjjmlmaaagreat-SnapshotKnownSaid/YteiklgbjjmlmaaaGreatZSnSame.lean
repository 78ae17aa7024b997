
/- The law's own sameBytes, sameTexts and sameStored, of what is the same (printed by tools/gen-samest.py). -/
import Derived.Test.YteiklgbjjmlmaaaGreatZSnFo
import Derived.BigQuiet
import Derived.Laws.Externs
import Derived.Deep.RegionHeld3
set_option linter.unusedVariables false
set_option linter.unusedSimpArgs false
namespace Go.Proofs.YteiklgbjjmlmaaaGreat
open Go.RowKit Pantry

theorem tobits29s (b : Nat) (w : World) : (callFunc 37 #[.float .f64 b]).run Tryz.prog w = .ok (.value (.int .u64 b)) w :=
  run_callFunc_extern (e := Extern.MathFloatBits.float64bits) Tryz.func37 (by kernel_rfl) (by kernel_rfl) (by kernel_rfl) (by kernel_rfl) _ w
theorem mb_cells29 {w : World} {a : Option Addr} {l : List Mb} (h : Rd w a (rkCells l)) {j : Nat} {p : Mb} (hj : l[j]? = some p) : ∃ y, a = some y ∧ w.cell? (y.add (j * 2)) = some (.string ⟨p.1.toArray⟩) ∧ w.cell? { block := (y.add (j * 2)).block, off := (y.add (j * 2)).off + 1 } = some (.float .f64 p.2) := by
  obtain ⟨y, hy, hcl⟩ := rk_cells h hj
  have e0 := hcl 0 _ rfl
  have e1 := hcl 1 _ rfl
  rw [← Addr.add_add] at e0 e1
  exact ⟨y, hy, e0, e1⟩
set_option maxHeartbeats 1000000 in
theorem sameB_self29 (a b : Option Addr) (n c d : Nat) (l : List UInt8) (w : World) (hl : l.length = n) (hn : n ≤ 9223372036854775807) (ha : Rd w a (b8 l))  (hb : Rd w b (b8 l)) :
    Calls Tryz.prog 12 #[.slice a n c, .slice b n d] w (QRet w (.bool true)) := by
  have HL := Lib.hid hl
  clear hl
  go_enter Tryz.func12, Tryz.ntmps12
  go_wp2
  go_loopw [5, 13] (fun _ i wr => ∃ k' : Nat, k' ≤ n ∧ i = .int .i64 k' ∧ ∃ q, wr = w.drewN q) (fun _ i _ => n - (intOf i).toNat)
  case atStart => exact ⟨0, by omega, rfl, 0, rfl⟩
  case round =>
    obtain ⟨j, hj, rfl, q, rfl⟩ := hrel
    by_cases hlt : j < n
    · have hjl : j < l.length := by rw [HL.out]; exact hlt
      obtain ⟨s, hs⟩ : ∃ s, l[j]? = some s := ⟨_, List.getElem?_eq_getElem hjl⟩
      obtain ⟨-, x, rfl, hx⟩ := ha j (.int .u8 (s.toNat : Int)) (by rw [b8_get, hs]; rfl)
      obtain ⟨-, y, rfl, hy⟩ := hb j (.int .u8 (s.toNat : Int)) (by rw [b8_get, hs]; rfl)
      clear hs hjl
      go_wp2
      go_quiet (fail)
      go_wp2
      go_roundw
      case rel => exact ⟨j + 1, by omega, by go_num, _, rfl⟩
      case measure => simp [intOf]; omega
    · go_wp2
      go_ret
      exact QRet.draws _ rfl
set_option maxHeartbeats 1000000 in
theorem sameT_self29 (a b : Option Addr) (n c d : Nat) (l : List (List UInt8)) (w : World) (hl : l.length = n) (hn : n ≤ 9223372036854775807) (ha : Rd w a (l.map txC))  (hb : Rd w b (l.map txC)) :
    Calls Tryz.prog 36 #[.slice a n c, .slice b n d] w (QRet w (.bool true)) := by
  have HL := Lib.hid hl
  clear hl
  go_enter Tryz.func36, Tryz.ntmps36
  go_wp2
  go_loopw [5, 13] (fun _ i wr => ∃ k' : Nat, k' ≤ n ∧ i = .int .i64 k' ∧ ∃ q, wr = w.drewN q) (fun _ i _ => n - (intOf i).toNat)
  case atStart => exact ⟨0, by omega, rfl, 0, rfl⟩
  case round =>
    obtain ⟨j, hj, rfl, q, rfl⟩ := hrel
    by_cases hlt : j < n
    · have hjl : j < l.length := by rw [HL.out]; exact hlt
      obtain ⟨s, hs⟩ : ∃ s, l[j]? = some s := ⟨_, List.getElem?_eq_getElem hjl⟩
      obtain ⟨-, x, rfl, hx⟩ := ha j (.string ⟨s.toArray⟩) (by rw [List.getElem?_map, hs]; rfl)
      obtain ⟨-, y, rfl, hy⟩ := hb j (.string ⟨s.toArray⟩) (by rw [List.getElem?_map, hs]; rfl)
      clear hs hjl
      go_wp2
      go_quiet (fail)
      go_wp2
      go_roundw
      case rel => exact ⟨j + 1, by omega, by go_num, _, rfl⟩
      case measure => simp [intOf]; omega
    · go_wp2
      go_ret
      exact QRet.draws _ rfl
/-- The five cells of a value within a stored key. -/
theorem SEAt.val {w : World} {p : Addr} {x : SE} {a1 a2 a3 : Option Addr} {c1 c2 c3 : Nat} (h : ∀ j u, (seC x a1 a2 a3 c1 c2 c3)[j]? = some u → w.cell? (p.add j) = some u) :
    ∀ j u, (Tryz.plainCells x.val a1 a2 a3 c1 c2 c3).toList[j]? = some u → w.cell? ((⟨p.block, p.off + 1, none⟩ : Addr).add j) = some u := by
  intro j u hu
  have h1 : (seC x a1 a2 a3 c1 c2 c3)[1 + j]? = some u := by
    simp only [Tryz.plainCells] at hu
    match j, hu with
    | 0, hu => exact hu
    | 1, hu => exact hu
    | 2, hu => exact hu
    | 3, hu => exact hu
    | 4, hu => exact hu
  have h2 := h _ _ h1
  rw [← Addr.add_add] at h2
  have h3 : p.add 1 = ⟨p.block, p.off + 1, none⟩ := by unfold Addr.add; rfl
  rwa [h3] at h2
attribute [-go_sem] Builtin.append_
set_option maxRecDepth 100000 in
set_option maxHeartbeats 16000000 in
theorem sameS_self29 (w : World) (a b : Option Addr) (n c d : Nat) (l : List SE) (hl : l.length = n) (hn : n < 9223372036854775808) (ha : SRow w a l) (hb : SRow w b l) (hB : ∀ x ∈ l, PlainBig x.val) :
    Calls Tryz.prog 13 #[.slice a n c, .slice b n d] w (SamePost true w) := by
  have HL := Lib.hid hl
  have HA := Lib.hid ha
  have HBB := Lib.hid hb
  have HPB := Lib.hid hB
  have hmx : Tryz.prog.follows .mixedOrders = true := by kernel_rfl
  have htb := tobits29s
  clear hl ha hb hB
  go_enter Tryz.func13, Tryz.ntmps13
  go_wp2_with fail
  go_loopw [5, 19] (fun _ i wr => ∃ k : Nat, k ≤ n ∧ i = .int .i64 k ∧ Hid (Below w.heap.size w wr)) (fun _ i _ => n - (intOf i).toNat)
  case atStart => exact ⟨0, by omega, rfl, Lib.hid (Below.refl _ _)⟩
  case round =>
    obtain ⟨k, hk, rfl, HBR⟩ := hrel
    by_cases hlt : k < n
    · have hlti : (k : Int) < (n : Int) := by omega
      obtain ⟨x, hx⟩ : ∃ x, l[k]? = some x := ⟨_, List.getElem?_eq_getElem (by rw [HL.out]; exact hlt)⟩
      have hpb := HPB.out x (List.mem_of_getElem? hx)
      obtain ⟨p, rfl, a1, a2, a3, c1, c2, c3, hcl, hpl⟩ := (HA.out.below HBR.out) k x hx
      obtain ⟨q, rfl, b1, b2, b3, d1, d2, d3, hdl, hql⟩ := (HBB.out.below HBR.out) k x hx
      obtain ⟨W0, hW0⟩ : ∃ W, (wr.alloc (.cells (Tryz.plainCells x.val a1 a2 a3 c1 c2 c3) 49)).alloc (.cells (Tryz.plainCells x.val b1 b2 b3 d1 d2 d3) 49) = W := ⟨_, rfl⟩
      have hB0 : Below wr.heap.size wr W0 := by rw [← hW0]; exact ((Below.refl _ _).alloc (Nat.le_refl _) _).alloc (by simp) _
      have h0 : W0.heap[wr.heap.size]? = some (.cells (Tryz.plainCells x.val a1 a2 a3 c1 c2 c3) 49) := by rw [← hW0, heap_alloc_old (by simp)]; exact heap_alloc_new wr _
      have h1 : W0.heap[wr.heap.size + 1]? = some (.cells (Tryz.plainCells x.val b1 b2 b3 d1 d2 d3) 49) := by
        have := heap_alloc_new (wr.alloc (.cells (Tryz.plainCells x.val a1 a2 a3 c1 c2 c3) 49)) (.cells (Tryz.plainCells x.val b1 b2 b3 d1 d2 d3) 49)
        rw [World.size_alloc] at this
        rw [← hW0]; exact this
      have HC1 : Hid (∀ j u, (Tryz.plainCells x.val a1 a2 a3 c1 c2 c3).toList[j]? = some u → wr.cell? ((⟨(p.add (k * 7)).block, (p.add (k * 7)).off + 1, none⟩ : Addr).add j) = some u) := Lib.hid (SEAt.val hcl)
      have hA1 : Below wr.heap.size wr (wr.alloc (.cells (Tryz.plainCells x.val a1 a2 a3 c1 c2 c3) 49)) := (Below.refl _ _).alloc (Nat.le_refl _) _
      have HC2 : Hid (∀ j u, (Tryz.plainCells x.val b1 b2 b3 d1 d2 d3).toList[j]? = some u → (wr.alloc (.cells (Tryz.plainCells x.val a1 a2 a3 c1 c2 c3) 49)).cell? ((⟨(q.add (k * 7)).block, (q.add (k * 7)).off + 1, none⟩ : Addr).add j) = some u) := Lib.hid fun j u hu => by
        have h2 := SEAt.val hdl j u hu
        exact (hA1.cell (World.block_lt_of_cell? _ _ h2)).trans h2
      have HSZ := Lib.hid (show (Tryz.prog.info? 49).map (·.size) = some 5 by kernel_rfl)
      have hbW := hB0
      have HSF : Hid (∀ w', Below W0.heap.size W0 w' → (w'.cell? (p.add (k * 7)) = some (.string ⟨x.key.toArray⟩) ∧ w'.cell? ⟨(p.add (k * 7)).block, (p.add (k * 7)).off + 6, none⟩ = some (.int .i64 x.dl) ∧ w'.cell? (q.add (k * 7)) = some (.string ⟨x.key.toArray⟩) ∧ w'.cell? ⟨(q.add (k * 7)).block, (q.add (k * 7)).off + 6, none⟩ = some (.int .i64 x.dl) ∧
          (w'.cell? ⟨wr.heap.size, 0, none⟩ = some (.int .i64 x.val.kind) ∧ w'.cell? ⟨wr.heap.size, 1, none⟩ = some (.string ⟨x.val.text.toArray⟩) ∧ w'.cell? ⟨wr.heap.size, 2, none⟩ = some (.slice a1 x.val.items.length c1) ∧ w'.cell? ⟨wr.heap.size, 3, none⟩ = some (.slice a2 x.val.pairs.length c2) ∧ w'.cell? ⟨wr.heap.size, 4, none⟩ = some (.slice a3 x.val.ranks.length c3)) ∧
          (w'.cell? ⟨wr.heap.size + 1, 0, none⟩ = some (.int .i64 x.val.kind) ∧ w'.cell? ⟨wr.heap.size + 1, 1, none⟩ = some (.string ⟨x.val.text.toArray⟩) ∧ w'.cell? ⟨wr.heap.size + 1, 2, none⟩ = some (.slice b1 x.val.items.length d1) ∧ w'.cell? ⟨wr.heap.size + 1, 3, none⟩ = some (.slice b2 x.val.pairs.length d2) ∧ w'.cell? ⟨wr.heap.size + 1, 4, none⟩ = some (.slice b3 x.val.ranks.length d3)))) := Lib.hid fun w' hw' => by
        have hb' := hB0.trans (hw'.mono hB0.size)
        have g : ∀ {ad : Addr} {u : Value}, wr.cell? ad = some u → w'.cell? ad = some u := fun {ad u} h => (hb'.cell (World.block_lt_of_cell? _ _ h)).trans h
        have g0 := (hw'.block _ (Array.getElem?_eq_some_iff.1 h0).1).trans h0
        have g1 := (hw'.block _ (Array.getElem?_eq_some_iff.1 h1).1).trans h1
        exact ⟨g (hcl 0 _ rfl), g (hcl 6 _ rfl), g (hdl 0 _ rfl), g (hdl 6 _ rfl), ⟨cell_of_row w' _ 0 _ _ _ g0, cell_of_row w' _ 1 _ _ _ g0, cell_of_row w' _ 2 _ _ _ g0, cell_of_row w' _ 3 _ _ _ g0, cell_of_row w' _ 4 _ _ _ g0⟩,
          ⟨cell_of_row w' _ 0 _ _ _ g1, cell_of_row w' _ 1 _ _ _ g1, cell_of_row w' _ 2 _ _ _ g1, cell_of_row w' _ 3 _ _ _ g1, cell_of_row w' _ 4 _ _ _ g1⟩⟩
      have HT := Lib.hid (sameT_self29 a1 b1 x.val.items.length c1 d1 x.val.items W0.drew rfl (by have := hpb.items; omega) (hpl.items.below hbW).drew (hql.items.below hbW).drew)
      have HPA := Lib.hid (hpl.below hB0)
      have HQA := Lib.hid (hql.below hB0)
      have HBW := Lib.hid (HBR.out.trans (hB0.mono HBR.out.size))
      obtain ⟨n2, hn2⟩ : ∃ n, x.val.pairs.length = n := ⟨_, rfl⟩
      obtain ⟨n3, hn3⟩ : ∃ n, x.val.ranks.length = n := ⟨_, rfl⟩
      have hbp := hpb.pairs
      have hbr := hpb.ranks
      unfold Tryz.plainCells at hW0 HC1 HC2
      rw [hn2] at hbp
      rw [hn3] at hbr
      rw [hn2, hn3] at hW0 HC1 HC2 HSF
      have HN2 := Lib.hid hn2
      have HN3 := Lib.hid hn3
      clear hx hpb hcl hpl hdl hql h0 h1 hA1 hbW hn2 hn3 hB0
      go_upto_region 8 with (first
        | (refine wpl_load_at rfl 49 _ rfl ⟨(p.add (k * 7)).block, (p.add (k * 7)).off + 1, none⟩ rfl _ _ HC1.out Tryz.underlying49 rfl HSZ.out ?_)
        | (refine wpl_load_at rfl 49 _ rfl ⟨(q.add (k * 7)).block, (q.add (k * 7)).off + 1, none⟩ rfl _ _ HC2.out Tryz.underlying49 rfl HSZ.out ?_))
      obtain ⟨S0, hS0⟩ : ∃ S : World → Prop, S = (fun w' => w'.cell? (p.add (k * 7)) = some (.string ⟨x.key.toArray⟩) ∧ w'.cell? ⟨(p.add (k * 7)).block, (p.add (k * 7)).off + 6, none⟩ = some (.int .i64 x.dl) ∧ w'.cell? (q.add (k * 7)) = some (.string ⟨x.key.toArray⟩) ∧ w'.cell? ⟨(q.add (k * 7)).block, (q.add (k * 7)).off + 6, none⟩ = some (.int .i64 x.dl) ∧ (w'.cell? ⟨wr.heap.size, 0, none⟩ = some (.int .i64 x.val.kind) ∧ w'.cell? ⟨wr.heap.size, 1, none⟩ = some (.string ⟨x.val.text.toArray⟩) ∧ w'.cell? ⟨wr.heap.size, 2, none⟩ = some (.slice a1 x.val.items.length c1) ∧ w'.cell? ⟨wr.heap.size, 3, none⟩ = some (.slice a2 n2 c2) ∧ w'.cell? ⟨wr.heap.size, 4, none⟩ = some (.slice a3 n3 c3)) ∧ (w'.cell? ⟨wr.heap.size + 1, 0, none⟩ = some (.int .i64 x.val.kind) ∧ w'.cell? ⟨wr.heap.size + 1, 1, none⟩ = some (.string ⟨x.val.text.toArray⟩) ∧ w'.cell? ⟨wr.heap.size + 1, 2, none⟩ = some (.slice b1 x.val.items.length d1) ∧ w'.cell? ⟨wr.heap.size + 1, 3, none⟩ = some (.slice b2 n2 d2) ∧ w'.cell? ⟨wr.heap.size + 1, 4, none⟩ = some (.slice b3 n3 d3))) := ⟨_, rfl⟩
      clear hW0
      refine wp_region_held_drew (S := S0) hmx (by rw [hS0]; exact HSF.out _ ((Below.refl _ W0).drew)) (fun hHeld => ?_)
      simp only [List.size_toArray, List.length_cons, List.length_nil, Nat.zero_add, Nat.reduceAdd]
      refine wpAnyH_take (i := 0) (v := ?vv1) rfl (by kernel_rfl) (by kernel_rfl) (by kernel_rfl) (fun _ _ _ h => h) (Or.inl ⟨by rfl, ?hy1⟩) hHeld ?rest1
      case hy1 =>
        intro W hSw
        rw [hS0] at hSw; obtain ⟨s0, s1, s2, s3, ⟨x0, x1, x2, x3, x4⟩, ⟨y0, y1, y2, y3, y4⟩⟩ := hSw
        go_simp
        all_goals with_reducible rfl
      try simp only [Act.put, List.setIfInBounds_toArray, List.set_cons_zero, List.set_cons_succ, List.getElem_toArray, List.getElem_cons_zero, List.getElem_cons_succ]
      refine wpAnyH_take (i := 1) (v := ?vv2) rfl (by kernel_rfl) (by kernel_rfl) (by kernel_rfl) (fun _ _ _ h => h) (Or.inl ⟨by rfl, ?hy2⟩) hHeld ?rest2
      case hy2 =>
        intro W hSw
        rw [hS0] at hSw; obtain ⟨s0, s1, s2, s3, ⟨x0, x1, x2, x3, x4⟩, ⟨y0, y1, y2, y3, y4⟩⟩ := hSw
        go_simp
        all_goals with_reducible rfl
      try simp only [Act.put, List.setIfInBounds_toArray, List.set_cons_zero, List.set_cons_succ, List.getElem_toArray, List.getElem_cons_zero, List.getElem_cons_succ]
      refine wpAnyH_take (i := 2) (v := ?vv3) rfl (by kernel_rfl) (by kernel_rfl) (by kernel_rfl) (fun _ _ _ h => h) (Or.inl ⟨by rfl, ?hy3⟩) hHeld ?rest3
      case hy3 =>
        intro W hSw
        rw [hS0] at hSw; obtain ⟨s0, s1, s2, s3, ⟨x0, x1, x2, x3, x4⟩, ⟨y0, y1, y2, y3, y4⟩⟩ := hSw
        go_simp
        all_goals with_reducible rfl
      try simp only [Act.put, List.setIfInBounds_toArray, List.set_cons_zero, List.set_cons_succ, List.getElem_toArray, List.getElem_cons_zero, List.getElem_cons_succ]
      refine wpAnyH_take (i := 3) (v := ?vv4) rfl (by kernel_rfl) (by kernel_rfl) (by kernel_rfl) (fun _ _ _ h => h) (Or.inl ⟨by rfl, ?hy4⟩) hHeld ?rest4
      case hy4 =>
        intro W hSw
        rw [hS0] at hSw; obtain ⟨s0, s1, s2, s3, ⟨x0, x1, x2, x3, x4⟩, ⟨y0, y1, y2, y3, y4⟩⟩ := hSw
        go_simp
        all_goals with_reducible rfl
      try simp only [Act.put, List.setIfInBounds_toArray, List.set_cons_zero, List.set_cons_succ, List.getElem_toArray, List.getElem_cons_zero, List.getElem_cons_succ]
      refine wpAnyH_take (i := 4) (v := ?vv5) rfl (by kernel_rfl) (by kernel_rfl) (by kernel_rfl) (fun _ _ _ h => h) (Or.inl ⟨by rfl, ?hy5⟩) hHeld ?rest5
      case hy5 =>
        intro W hSw
        rw [hS0] at hSw; obtain ⟨s0, s1, s2, s3, ⟨x0, x1, x2, x3, x4⟩, ⟨y0, y1, y2, y3, y4⟩⟩ := hSw
        go_simp
        all_goals with_reducible rfl
      try simp only [Act.put, List.setIfInBounds_toArray, List.set_cons_zero, List.set_cons_succ, List.getElem_toArray, List.getElem_cons_zero, List.getElem_cons_succ]
      refine wpAnyH_take (i := 5) (v := ?vv6) rfl (by kernel_rfl) (by kernel_rfl) (by kernel_rfl) (fun _ _ _ h => h) (Or.inl ⟨by rfl, ?hy6⟩) hHeld ?rest6
      case hy6 =>
        intro W hSw
        rw [hS0] at hSw; obtain ⟨s0, s1, s2, s3, ⟨x0, x1, x2, x3, x4⟩, ⟨y0, y1, y2, y3, y4⟩⟩ := hSw
        go_simp
        all_goals with_reducible rfl
      try simp only [Act.put, List.setIfInBounds_toArray, List.set_cons_zero, List.set_cons_succ, List.getElem_toArray, List.getElem_cons_zero, List.getElem_cons_succ]
      refine wpAnyH_take (i := 6) (v := ?vv7) rfl (by kernel_rfl) (by kernel_rfl) (by kernel_rfl) (fun _ _ _ h => h) (Or.inl ⟨by rfl, ?hy7⟩) hHeld ?rest7
      case hy7 =>
        intro W hSw
        rw [hS0] at hSw; obtain ⟨s0, s1, s2, s3, ⟨x0, x1, x2, x3, x4⟩, ⟨y0, y1, y2, y3, y4⟩⟩ := hSw
        go_simp
        all_goals with_reducible rfl
      try simp only [Act.put, List.setIfInBounds_toArray, List.set_cons_zero, List.set_cons_succ, List.getElem_toArray, List.getElem_cons_zero, List.getElem_cons_succ]
      refine wpAnyH_take (i := 7) (v := ?vv8) rfl (by kernel_rfl) (by kernel_rfl) (by kernel_rfl) (fun _ _ _ h => h) (Or.inl ⟨by rfl, ?hy8⟩) hHeld ?rest8
      case hy8 =>
        intro W hSw
        rw [hS0] at hSw; obtain ⟨s0, s1, s2, s3, ⟨x0, x1, x2, x3, x4⟩, ⟨y0, y1, y2, y3, y4⟩⟩ := hSw
        go_simp
        all_goals with_reducible rfl
      try simp only [Act.put, List.setIfInBounds_toArray, List.set_cons_zero, List.set_cons_succ, List.getElem_toArray, List.getElem_cons_zero, List.getElem_cons_succ]
      refine wpAnyH_take (i := 8) (v := ?vv9) rfl (by kernel_rfl) (by kernel_rfl) (by kernel_rfl) (fun _ _ _ h => h) (Or.inl ⟨by rfl, ?hy9⟩) hHeld ?rest9
      case hy9 =>
        intro W hSw
        rw [hS0] at hSw; obtain ⟨s0, s1, s2, s3, ⟨x0, x1, x2, x3, x4⟩, ⟨y0, y1, y2, y3, y4⟩⟩ := hSw
        go_simp
        all_goals with_reducible rfl
      try simp only [Act.put, List.setIfInBounds_toArray, List.set_cons_zero, List.set_cons_succ, List.getElem_toArray, List.getElem_cons_zero, List.getElem_cons_succ]
      refine wpAnyH_take (i := 9) (v := ?vv10) rfl (by kernel_rfl) (by kernel_rfl) (by kernel_rfl) (fun _ _ _ h => h) (Or.inl ⟨by rfl, ?hy10⟩) hHeld ?rest10
      case hy10 =>
        intro W hSw
        rw [hS0] at hSw; obtain ⟨s0, s1, s2, s3, ⟨x0, x1, x2, x3, x4⟩, ⟨y0, y1, y2, y3, y4⟩⟩ := hSw
        go_simp
        all_goals with_reducible rfl
      try simp only [Act.put, List.setIfInBounds_toArray, List.set_cons_zero, List.set_cons_succ, List.getElem_toArray, List.getElem_cons_zero, List.getElem_cons_succ]
      refine wpAnyH_take (i := 10) (v := ?vv11) rfl (by kernel_rfl) (by kernel_rfl) (by kernel_rfl) (fun _ _ _ h => h) (Or.inl ⟨by rfl, ?hy11⟩) hHeld ?rest11
      case hy11 =>
        intro W hSw
        rw [hS0] at hSw; obtain ⟨s0, s1, s2, s3, ⟨x0, x1, x2, x3, x4⟩, ⟨y0, y1, y2, y3, y4⟩⟩ := hSw
        go_simp
        all_goals with_reducible rfl
      try simp only [Act.put, List.setIfInBounds_toArray, List.set_cons_zero, List.set_cons_succ, List.getElem_toArray, List.getElem_cons_zero, List.getElem_cons_succ]
      refine wpAnyH_take (i := 11) (v := ?vv12) rfl (by kernel_rfl) (by kernel_rfl) (by kernel_rfl) (fun _ _ _ h => h) (Or.inl ⟨by rfl, ?hy12⟩) hHeld ?rest12
      case hy12 =>
        intro W hSw
        rw [hS0] at hSw; obtain ⟨s0, s1, s2, s3, ⟨x0, x1, x2, x3, x4⟩, ⟨y0, y1, y2, y3, y4⟩⟩ := hSw
        go_simp
        all_goals with_reducible rfl
      try simp only [Act.put, List.setIfInBounds_toArray, List.set_cons_zero, List.set_cons_succ, List.getElem_toArray, List.getElem_cons_zero, List.getElem_cons_succ]
      refine wpAnyH_take (i := 12) (v := ?vv13) rfl (by kernel_rfl) (by kernel_rfl) (by kernel_rfl) (fun _ _ _ h => h) (Or.inl ⟨by rfl, ?hy13⟩) hHeld ?rest13
      case hy13 =>
        intro W hSw
        rw [hS0] at hSw; obtain ⟨s0, s1, s2, s3, ⟨x0, x1, x2, x3, x4⟩, ⟨y0, y1, y2, y3, y4⟩⟩ := hSw
        go_simp
        all_goals with_reducible rfl
      try simp only [Act.put, List.setIfInBounds_toArray, List.set_cons_zero, List.set_cons_succ, List.getElem_toArray, List.getElem_cons_zero, List.getElem_cons_succ]
      refine wpAnyH_take (i := 13) (v := ?vv14) rfl (by kernel_rfl) (by kernel_rfl) (by kernel_rfl) (fun _ _ _ h => h) (Or.inl ⟨by rfl, ?hy14⟩) hHeld ?rest14
      case hy14 =>
        intro W hSw
        rw [hS0] at hSw; obtain ⟨s0, s1, s2, s3, ⟨x0, x1, x2, x3, x4⟩, ⟨y0, y1, y2, y3, y4⟩⟩ := hSw
        go_simp
        all_goals with_reducible rfl
      try simp only [Act.put, List.setIfInBounds_toArray, List.set_cons_zero, List.set_cons_succ, List.getElem_toArray, List.getElem_cons_zero, List.getElem_cons_succ]
      refine wpAnyH_take (i := 14) (v := ?vv15) rfl (by kernel_rfl) (by kernel_rfl) (by kernel_rfl) (fun _ _ _ h => h) (Or.inl ⟨by rfl, ?hy15⟩) hHeld ?rest15
      case hy15 =>
        intro W hSw
        rw [hS0] at hSw; obtain ⟨s0, s1, s2, s3, ⟨x0, x1, x2, x3, x4⟩, ⟨y0, y1, y2, y3, y4⟩⟩ := hSw
        go_simp
        all_goals with_reducible rfl
      try simp only [Act.put, List.setIfInBounds_toArray, List.set_cons_zero, List.set_cons_succ, List.getElem_toArray, List.getElem_cons_zero, List.getElem_cons_succ]
      refine wpAnyH_take (i := 15) (v := ?vv16) rfl (by kernel_rfl) (by kernel_rfl) (by kernel_rfl) (fun _ _ _ h => h) (Or.inl ⟨by rfl, ?hy16⟩) hHeld ?rest16
      case hy16 =>
        intro W hSw
        rw [hS0] at hSw; obtain ⟨s0, s1, s2, s3, ⟨x0, x1, x2, x3, x4⟩, ⟨y0, y1, y2, y3, y4⟩⟩ := hSw
        go_simp
        all_goals with_reducible rfl
      try simp only [Act.put, List.setIfInBounds_toArray, List.set_cons_zero, List.set_cons_succ, List.getElem_toArray, List.getElem_cons_zero, List.getElem_cons_succ]
      refine wpAnyH_take (i := 16) (v := ?vv17) rfl (by kernel_rfl) (by kernel_rfl) (by kernel_rfl) (fun _ _ _ h => h) (Or.inl ⟨by rfl, ?hy17⟩) hHeld ?rest17
      case hy17 =>
        intro W hSw
        rw [hS0] at hSw; obtain ⟨s0, s1, s2, s3, ⟨x0, x1, x2, x3, x4⟩, ⟨y0, y1, y2, y3, y4⟩⟩ := hSw
        go_simp
        all_goals with_reducible rfl
      try simp only [Act.put, List.setIfInBounds_toArray, List.set_cons_zero, List.set_cons_succ, List.getElem_toArray, List.getElem_cons_zero, List.getElem_cons_succ]
      refine wpAnyH_take (i := 17) (v := ?vv18) rfl (by kernel_rfl) (by kernel_rfl) (by kernel_rfl) (fun _ _ _ h => h) (Or.inl ⟨by rfl, ?hy18⟩) hHeld ?rest18
      case hy18 =>
        intro W hSw
        rw [hS0] at hSw; obtain ⟨s0, s1, s2, s3, ⟨x0, x1, x2, x3, x4⟩, ⟨y0, y1, y2, y3, y4⟩⟩ := hSw
        go_simp
        all_goals with_reducible rfl
      try simp only [Act.put, List.setIfInBounds_toArray, List.set_cons_zero, List.set_cons_succ, List.getElem_toArray, List.getElem_cons_zero, List.getElem_cons_succ]
      refine wpAnyH_take (i := 18) (v := ?vv19) rfl (by kernel_rfl) (by kernel_rfl) (by kernel_rfl) (fun _ _ _ h => h) (Or.inl ⟨by rfl, ?hy19⟩) hHeld ?rest19
      case hy19 =>
        intro W hSw
        rw [hS0] at hSw; obtain ⟨s0, s1, s2, s3, ⟨x0, x1, x2, x3, x4⟩, ⟨y0, y1, y2, y3, y4⟩⟩ := hSw
        go_simp
        all_goals with_reducible rfl
      try simp only [Act.put, List.setIfInBounds_toArray, List.set_cons_zero, List.set_cons_succ, List.getElem_toArray, List.getElem_cons_zero, List.getElem_cons_succ]
      refine wpAnyH_take (i := 19) (v := ?vv20) rfl (by kernel_rfl) (by kernel_rfl) (by kernel_rfl) (fun _ _ _ h => h) (Or.inl ⟨by rfl, ?hy20⟩) hHeld ?rest20
      case hy20 =>
        intro W hSw
        rw [hS0] at hSw; obtain ⟨s0, s1, s2, s3, ⟨x0, x1, x2, x3, x4⟩, ⟨y0, y1, y2, y3, y4⟩⟩ := hSw
        go_simp
        all_goals with_reducible rfl
      try simp only [Act.put, List.setIfInBounds_toArray, List.set_cons_zero, List.set_cons_succ, List.getElem_toArray, List.getElem_cons_zero, List.getElem_cons_succ]
      refine wpAnyH_take (i := 20) (v := ?vv21) rfl (by kernel_rfl) (by kernel_rfl) (by kernel_rfl) (fun _ _ _ h => h) (Or.inl ⟨by rfl, ?hy21⟩) hHeld ?rest21
      case hy21 =>
        intro W hSw
        rw [hS0] at hSw; obtain ⟨s0, s1, s2, s3, ⟨x0, x1, x2, x3, x4⟩, ⟨y0, y1, y2, y3, y4⟩⟩ := hSw
        go_simp
        all_goals with_reducible rfl
      try simp only [Act.put, List.setIfInBounds_toArray, List.set_cons_zero, List.set_cons_succ, List.getElem_toArray, List.getElem_cons_zero, List.getElem_cons_succ]
      refine wpAnyH_take (i := 21) (v := ?vv22) rfl (by kernel_rfl) (by kernel_rfl) (by kernel_rfl) (fun _ _ _ h => h) (Or.inl ⟨by rfl, ?hy22⟩) hHeld ?rest22
      case hy22 =>
        intro W hSw
        rw [hS0] at hSw; obtain ⟨s0, s1, s2, s3, ⟨x0, x1, x2, x3, x4⟩, ⟨y0, y1, y2, y3, y4⟩⟩ := hSw
        go_simp
        all_goals with_reducible rfl
      try simp only [Act.put, List.setIfInBounds_toArray, List.set_cons_zero, List.set_cons_succ, List.getElem_toArray, List.getElem_cons_zero, List.getElem_cons_succ]
      refine wpAnyH_take (i := 22) (v := ?vv23) rfl (by kernel_rfl) (by kernel_rfl) (by kernel_rfl) (fun _ _ _ h => h) (Or.inl ⟨by rfl, ?hy23⟩) hHeld ?rest23
      case hy23 =>
        intro W hSw
        rw [hS0] at hSw; obtain ⟨s0, s1, s2, s3, ⟨x0, x1, x2, x3, x4⟩, ⟨y0, y1, y2, y3, y4⟩⟩ := hSw
        go_simp
        all_goals with_reducible rfl
      try simp only [Act.put, List.setIfInBounds_toArray, List.set_cons_zero, List.set_cons_succ, List.getElem_toArray, List.getElem_cons_zero, List.getElem_cons_succ]
      refine wpAnyH_take (i := 23) (v := ?vv24) rfl (by kernel_rfl) (by kernel_rfl) (by kernel_rfl) (fun _ _ _ h => h) (Or.inl ⟨by rfl, ?hy24⟩) hHeld ?rest24
      case hy24 =>
        intro W hSw
        rw [hS0] at hSw; obtain ⟨s0, s1, s2, s3, ⟨x0, x1, x2, x3, x4⟩, ⟨y0, y1, y2, y3, y4⟩⟩ := hSw
        go_simp
        all_goals with_reducible rfl
      try simp only [Act.put, List.setIfInBounds_toArray, List.set_cons_zero, List.set_cons_succ, List.getElem_toArray, List.getElem_cons_zero, List.getElem_cons_succ]
      refine wpAnyH_take (i := 24) (v := ?vv25) rfl (by kernel_rfl) (by kernel_rfl) (by kernel_rfl) (fun _ _ _ h => h) (Or.inl ⟨by rfl, ?hy25⟩) hHeld ?rest25
      case hy25 =>
        intro W hSw
        rw [hS0] at hSw; obtain ⟨s0, s1, s2, s3, ⟨x0, x1, x2, x3, x4⟩, ⟨y0, y1, y2, y3, y4⟩⟩ := hSw
        go_simp
        all_goals with_reducible rfl
      try simp only [Act.put, List.setIfInBounds_toArray, List.set_cons_zero, List.set_cons_succ, List.getElem_toArray, List.getElem_cons_zero, List.getElem_cons_succ]
      refine wpAnyH_take (i := 25) (v := ?vv26) rfl (by kernel_rfl) (by kernel_rfl) (by kernel_rfl) (fun _ _ _ h => h) (Or.inl ⟨by rfl, ?hy26⟩) hHeld ?rest26
      case hy26 =>
        intro W hSw
        rw [hS0] at hSw; obtain ⟨s0, s1, s2, s3, ⟨x0, x1, x2, x3, x4⟩, ⟨y0, y1, y2, y3, y4⟩⟩ := hSw
        go_simp
        all_goals with_reducible rfl
      try simp only [Act.put, List.setIfInBounds_toArray, List.set_cons_zero, List.set_cons_succ, List.getElem_toArray, List.getElem_cons_zero, List.getElem_cons_succ]
      refine wpAnyH_take (i := 26) (v := ?vv27) rfl (by kernel_rfl) (by kernel_rfl) (by kernel_rfl) (fun _ _ _ h => h) (Or.inl ⟨by rfl, ?hy27⟩) hHeld ?rest27
      case hy27 =>
        intro W hSw
        rw [hS0] at hSw; obtain ⟨s0, s1, s2, s3, ⟨x0, x1, x2, x3, x4⟩, ⟨y0, y1, y2, y3, y4⟩⟩ := hSw
        go_simp
        all_goals with_reducible rfl
      try simp only [Act.put, List.setIfInBounds_toArray, List.set_cons_zero, List.set_cons_succ, List.getElem_toArray, List.getElem_cons_zero, List.getElem_cons_succ]
      refine wpAnyH_take (i := 27) (v := ?vv28) rfl (by kernel_rfl) (by kernel_rfl) (by kernel_rfl) (fun _ _ _ h => h) (Or.inl ⟨by rfl, ?hy28⟩) hHeld ?rest28
      case hy28 =>
        intro W hSw
        rw [hS0] at hSw; obtain ⟨s0, s1, s2, s3, ⟨x0, x1, x2, x3, x4⟩, ⟨y0, y1, y2, y3, y4⟩⟩ := hSw
        go_simp
        all_goals with_reducible rfl
      try simp only [Act.put, List.setIfInBounds_toArray, List.set_cons_zero, List.set_cons_succ, List.getElem_toArray, List.getElem_cons_zero, List.getElem_cons_succ]
      refine wpAnyH_take (i := 28) (v := ?vv29) rfl (by kernel_rfl) (by kernel_rfl) (by kernel_rfl) (fun _ _ _ h => h) (Or.inl ⟨by rfl, ?hy29⟩) hHeld ?rest29
      case hy29 =>
        intro W hSw
        rw [hS0] at hSw; obtain ⟨s0, s1, s2, s3, ⟨x0, x1, x2, x3, x4⟩, ⟨y0, y1, y2, y3, y4⟩⟩ := hSw
        go_simp
        all_goals with_reducible rfl
      try simp only [Act.put, List.setIfInBounds_toArray, List.set_cons_zero, List.set_cons_succ, List.getElem_toArray, List.getElem_cons_zero, List.getElem_cons_succ]
      refine wpAnyH_take (i := 29) (v := ?vv30) rfl (by kernel_rfl) (by kernel_rfl) (by kernel_rfl) (fun _ _ _ h => h) (Or.inl ⟨by rfl, ?hy30⟩) hHeld ?rest30
      case hy30 =>
        intro W hSw
        rw [hS0] at hSw; obtain ⟨s0, s1, s2, s3, ⟨x0, x1, x2, x3, x4⟩, ⟨y0, y1, y2, y3, y4⟩⟩ := hSw
        go_simp
        all_goals with_reducible rfl
      try simp only [Act.put, List.setIfInBounds_toArray, List.set_cons_zero, List.set_cons_succ, List.getElem_toArray, List.getElem_cons_zero, List.getElem_cons_succ]
      refine wpAnyH_take (i := 30) (v := ?vv31) rfl (by kernel_rfl) (by kernel_rfl) (by kernel_rfl) (fun _ _ _ h => h) (Or.inl ⟨by rfl, ?hy31⟩) hHeld ?rest31
      case hy31 =>
        intro W hSw
        rw [hS0] at hSw; obtain ⟨s0, s1, s2, s3, ⟨x0, x1, x2, x3, x4⟩, ⟨y0, y1, y2, y3, y4⟩⟩ := hSw
        go_simp
        all_goals with_reducible rfl
      try simp only [Act.put, List.setIfInBounds_toArray, List.set_cons_zero, List.set_cons_succ, List.getElem_toArray, List.getElem_cons_zero, List.getElem_cons_succ]
      refine wpAnyH_take (i := 31) (v := ?vv32) rfl (by kernel_rfl) (by kernel_rfl) (by kernel_rfl) (fun _ _ _ h => h) (Or.inl ⟨by rfl, ?hy32⟩) hHeld ?rest32
      case hy32 =>
        intro W hSw
        rw [hS0] at hSw; obtain ⟨s0, s1, s2, s3, ⟨x0, x1, x2, x3, x4⟩, ⟨y0, y1, y2, y3, y4⟩⟩ := hSw
        go_simp
        all_goals with_reducible rfl
      try simp only [Act.put, List.setIfInBounds_toArray, List.set_cons_zero, List.set_cons_succ, List.getElem_toArray, List.getElem_cons_zero, List.getElem_cons_succ]
      refine wpAnyH_take (i := 32) (v := ?vv33) rfl (by kernel_rfl) (by kernel_rfl) (by kernel_rfl) (fun _ _ _ h => h) (Or.inl ⟨by rfl, ?hy33⟩) hHeld ?rest33
      case hy33 =>
        intro W hSw
        rw [hS0] at hSw; obtain ⟨s0, s1, s2, s3, ⟨x0, x1, x2, x3, x4⟩, ⟨y0, y1, y2, y3, y4⟩⟩ := hSw
        go_simp
        all_goals with_reducible rfl
      try simp only [Act.put, List.setIfInBounds_toArray, List.set_cons_zero, List.set_cons_succ, List.getElem_toArray, List.getElem_cons_zero, List.getElem_cons_succ]
      refine wpAnyH_take (i := 33) (v := ?vv34) rfl (by kernel_rfl) (by kernel_rfl) (by kernel_rfl) (fun _ _ _ h => h) (Or.inl ⟨by rfl, ?hy34⟩) hHeld ?rest34
      case hy34 =>
        intro W hSw
        rw [hS0] at hSw; obtain ⟨s0, s1, s2, s3, ⟨x0, x1, x2, x3, x4⟩, ⟨y0, y1, y2, y3, y4⟩⟩ := hSw
        go_simp
        all_goals with_reducible rfl
      try simp only [Act.put, List.setIfInBounds_toArray, List.set_cons_zero, List.set_cons_succ, List.getElem_toArray, List.getElem_cons_zero, List.getElem_cons_succ]
      refine wpAnyH_take (i := 34) (v := ?vv35) rfl (by kernel_rfl) (by kernel_rfl) (by kernel_rfl) (fun _ _ _ h => h) (Or.inl ⟨by rfl, ?hy35⟩) hHeld ?rest35
      case hy35 =>
        intro W hSw
        rw [hS0] at hSw; obtain ⟨s0, s1, s2, s3, ⟨x0, x1, x2, x3, x4⟩, ⟨y0, y1, y2, y3, y4⟩⟩ := hSw
        go_simp
        all_goals with_reducible rfl
      try simp only [Act.put, List.setIfInBounds_toArray, List.set_cons_zero, List.set_cons_succ, List.getElem_toArray, List.getElem_cons_zero, List.getElem_cons_succ]
      refine wpAnyH_take (i := 35) (v := ?vv36) rfl (by kernel_rfl) (by kernel_rfl) (by kernel_rfl) (fun _ _ _ h => h) (Or.inl ⟨by rfl, ?hy36⟩) hHeld ?rest36
      case hy36 =>
        intro W hSw
        rw [hS0] at hSw; obtain ⟨s0, s1, s2, s3, ⟨x0, x1, x2, x3, x4⟩, ⟨y0, y1, y2, y3, y4⟩⟩ := hSw
        go_simp
        all_goals with_reducible rfl
      try simp only [Act.put, List.setIfInBounds_toArray, List.set_cons_zero, List.set_cons_succ, List.getElem_toArray, List.getElem_cons_zero, List.getElem_cons_succ]
      refine wpAnyH_take (i := 36) (v := ?vv37) rfl (by kernel_rfl) (by kernel_rfl) (by kernel_rfl) (fun _ _ _ h => h) (Or.inl ⟨by rfl, ?hy37⟩) hHeld ?rest37
      case hy37 =>
        intro W hSw
        rw [hS0] at hSw; obtain ⟨s0, s1, s2, s3, ⟨x0, x1, x2, x3, x4⟩, ⟨y0, y1, y2, y3, y4⟩⟩ := hSw
        go_simp
        all_goals with_reducible rfl
      try simp only [Act.put, List.setIfInBounds_toArray, List.set_cons_zero, List.set_cons_succ, List.getElem_toArray, List.getElem_cons_zero, List.getElem_cons_succ]
      refine wpAnyH_take (i := 37) (v := ?vv38) rfl (by kernel_rfl) (by kernel_rfl) (by kernel_rfl) (fun _ _ _ h => h) (Or.inl ⟨by rfl, ?hy38⟩) hHeld ?rest38
      case hy38 =>
        intro W hSw
        rw [hS0] at hSw; obtain ⟨s0, s1, s2, s3, ⟨x0, x1, x2, x3, x4⟩, ⟨y0, y1, y2, y3, y4⟩⟩ := hSw
        go_simp
        all_goals with_reducible rfl
      try simp only [Act.put, List.setIfInBounds_toArray, List.set_cons_zero, List.set_cons_succ, List.getElem_toArray, List.getElem_cons_zero, List.getElem_cons_succ]
      refine wpAnyH_take (i := 38) (v := ?vv39) rfl (by kernel_rfl) (by kernel_rfl) (by kernel_rfl) (fun _ _ _ h => h) (Or.inl ⟨by rfl, ?hy39⟩) hHeld ?rest39
      case hy39 =>
        intro W hSw
        rw [hS0] at hSw; obtain ⟨s0, s1, s2, s3, ⟨x0, x1, x2, x3, x4⟩, ⟨y0, y1, y2, y3, y4⟩⟩ := hSw
        go_simp
        all_goals with_reducible rfl
      try simp only [Act.put, List.setIfInBounds_toArray, List.set_cons_zero, List.set_cons_succ, List.getElem_toArray, List.getElem_cons_zero, List.getElem_cons_succ]
      refine wpAnyH_take (i := 39) (v := ?vv40) rfl (by kernel_rfl) (by kernel_rfl) (by kernel_rfl) (fun _ _ _ h => h) (Or.inl ⟨by rfl, ?hy40⟩) hHeld ?rest40
      case hy40 =>
        intro W hSw
        rw [hS0] at hSw; obtain ⟨s0, s1, s2, s3, ⟨x0, x1, x2, x3, x4⟩, ⟨y0, y1, y2, y3, y4⟩⟩ := hSw
        go_simp
        all_goals with_reducible rfl
      try simp only [Act.put, List.setIfInBounds_toArray, List.set_cons_zero, List.set_cons_succ, List.getElem_toArray, List.getElem_cons_zero, List.getElem_cons_succ]
      refine wpAnyH_take (i := 40) (v := ?vv41) rfl (by kernel_rfl) (by kernel_rfl) (by kernel_rfl) (fun _ _ _ h => h) (Or.inl ⟨by rfl, ?hy41⟩) hHeld ?rest41
      case hy41 =>
        intro W hSw
        rw [hS0] at hSw; obtain ⟨s0, s1, s2, s3, ⟨x0, x1, x2, x3, x4⟩, ⟨y0, y1, y2, y3, y4⟩⟩ := hSw
        go_simp
        all_goals with_reducible rfl
      try simp only [Act.put, List.setIfInBounds_toArray, List.set_cons_zero, List.set_cons_succ, List.getElem_toArray, List.getElem_cons_zero, List.getElem_cons_succ]
      refine wpAnyH_take (i := 41) (v := ?vv42) rfl (by kernel_rfl) (by kernel_rfl) (by kernel_rfl) (fun _ _ _ h => h) (Or.inl ⟨by rfl, ?hy42⟩) hHeld ?rest42
      case hy42 =>
        intro W hSw
        rw [hS0] at hSw; obtain ⟨s0, s1, s2, s3, ⟨x0, x1, x2, x3, x4⟩, ⟨y0, y1, y2, y3, y4⟩⟩ := hSw
        go_simp
        all_goals with_reducible rfl
      try simp only [Act.put, List.setIfInBounds_toArray, List.set_cons_zero, List.set_cons_succ, List.getElem_toArray, List.getElem_cons_zero, List.getElem_cons_succ]
      refine wpAnyH_take (i := 42) (v := ?vv43) rfl (by kernel_rfl) (by kernel_rfl) (by kernel_rfl) (fun _ _ _ h => h) (Or.inl ⟨by rfl, ?hy43⟩) hHeld ?rest43
      case hy43 =>
        intro W hSw
        rw [hS0] at hSw; obtain ⟨s0, s1, s2, s3, ⟨x0, x1, x2, x3, x4⟩, ⟨y0, y1, y2, y3, y4⟩⟩ := hSw
        go_simp
        all_goals with_reducible rfl
      try simp only [Act.put, List.setIfInBounds_toArray, List.set_cons_zero, List.set_cons_succ, List.getElem_toArray, List.getElem_cons_zero, List.getElem_cons_succ]
      refine wpAnyH_ready (rs := [43]) (by kernel_rfl) (by simp) ?_
      refine AllReadyH.cons rfl (fun K hK => ?_) AllReadyH.nil
      go_simp
      refine HT.out.mono ?_
      rintro e w2 ⟨rfl, qq, rfl⟩
      go_wp2_with fail
      refine hK.out _ _ (by rw [hS0]; exact HSF.out _ (⟨rfl, rfl, rfl, Nat.le_refl _, fun _ _ => rfl⟩)) (fun hHeld => ?_)
      clear hK K
      try simp only [Act.put, List.setIfInBounds_toArray, List.set_cons_zero, List.set_cons_succ, List.getElem_toArray, List.getElem_cons_zero, List.getElem_cons_succ]
      refine wpAnyH_take (i := 44) (v := ?vv44) rfl (by kernel_rfl) (by kernel_rfl) (by kernel_rfl) (fun _ _ _ h => h) (Or.inl ⟨by rfl, ?hy44⟩) hHeld ?rest44
      case hy44 =>
        intro W hSw
        rw [hS0] at hSw; obtain ⟨s0, s1, s2, s3, ⟨x0, x1, x2, x3, x4⟩, ⟨y0, y1, y2, y3, y4⟩⟩ := hSw
        go_simp
        all_goals with_reducible rfl
      try simp only [Act.put, List.setIfInBounds_toArray, List.set_cons_zero, List.set_cons_succ, List.getElem_toArray, List.getElem_cons_zero, List.getElem_cons_succ]
      refine wpAnyH_take (i := 45) (v := ?vv45) rfl (by kernel_rfl) (by kernel_rfl) (by kernel_rfl) (fun _ _ _ h => h) (Or.inl ⟨by rfl, ?hy45⟩) hHeld ?rest45
      case hy45 =>
        intro W hSw
        rw [hS0] at hSw; obtain ⟨s0, s1, s2, s3, ⟨x0, x1, x2, x3, x4⟩, ⟨y0, y1, y2, y3, y4⟩⟩ := hSw
        go_simp
        all_goals with_reducible rfl
      try simp only [Act.put, List.setIfInBounds_toArray, List.set_cons_zero, List.set_cons_succ, List.getElem_toArray, List.getElem_cons_zero, List.getElem_cons_succ]
      refine wpAnyH_take (i := 46) (v := ?vv46) rfl (by kernel_rfl) (by kernel_rfl) (by kernel_rfl) (fun _ _ _ h => h) (Or.inl ⟨by rfl, ?hy46⟩) hHeld ?rest46
      case hy46 =>
        intro W hSw
        rw [hS0] at hSw; obtain ⟨s0, s1, s2, s3, ⟨x0, x1, x2, x3, x4⟩, ⟨y0, y1, y2, y3, y4⟩⟩ := hSw
        go_simp
        all_goals with_reducible rfl
      try simp only [Act.put, List.setIfInBounds_toArray, List.set_cons_zero, List.set_cons_succ, List.getElem_toArray, List.getElem_cons_zero, List.getElem_cons_succ]
      refine wpAnyH_take (i := 47) (v := ?vv47) rfl (by kernel_rfl) (by kernel_rfl) (by kernel_rfl) (fun _ _ _ h => h) (Or.inl ⟨by rfl, ?hy47⟩) hHeld ?rest47
      case hy47 =>
        intro W hSw
        rw [hS0] at hSw; obtain ⟨s0, s1, s2, s3, ⟨x0, x1, x2, x3, x4⟩, ⟨y0, y1, y2, y3, y4⟩⟩ := hSw
        go_simp
        all_goals with_reducible rfl
      try simp only [Act.put, List.setIfInBounds_toArray, List.set_cons_zero, List.set_cons_succ, List.getElem_toArray, List.getElem_cons_zero, List.getElem_cons_succ]
      refine wpAnyH_take (i := 48) (v := ?vv48) rfl (by kernel_rfl) (by kernel_rfl) (by kernel_rfl) (fun _ _ _ h => h) (Or.inl ⟨by rfl, ?hy48⟩) hHeld ?rest48
      case hy48 =>
        intro W hSw
        rw [hS0] at hSw; obtain ⟨s0, s1, s2, s3, ⟨x0, x1, x2, x3, x4⟩, ⟨y0, y1, y2, y3, y4⟩⟩ := hSw
        go_simp
        all_goals with_reducible rfl
      try simp only [Act.put, List.setIfInBounds_toArray, List.set_cons_zero, List.set_cons_succ, List.getElem_toArray, List.getElem_cons_zero, List.getElem_cons_succ]
      refine wpAnyH_take (i := 49) (v := ?vv49) rfl (by kernel_rfl) (by kernel_rfl) (by kernel_rfl) (fun _ _ _ h => h) (Or.inl ⟨by rfl, ?hy49⟩) hHeld ?rest49
      case hy49 =>
        intro W hSw
        rw [hS0] at hSw; obtain ⟨s0, s1, s2, s3, ⟨x0, x1, x2, x3, x4⟩, ⟨y0, y1, y2, y3, y4⟩⟩ := hSw
        go_simp
        all_goals with_reducible rfl
      try simp only [Act.put, List.setIfInBounds_toArray, List.set_cons_zero, List.set_cons_succ, List.getElem_toArray, List.getElem_cons_zero, List.getElem_cons_succ]
      refine wpAnyH_take (i := 50) (v := ?vv50) rfl (by kernel_rfl) (by kernel_rfl) (by kernel_rfl) (fun _ _ _ h => h) (Or.inl ⟨by rfl, ?hy50⟩) hHeld ?rest50
      case hy50 =>
        intro W hSw
        rw [hS0] at hSw; obtain ⟨s0, s1, s2, s3, ⟨x0, x1, x2, x3, x4⟩, ⟨y0, y1, y2, y3, y4⟩⟩ := hSw
        go_simp
        all_goals with_reducible rfl
      try simp only [Act.put, List.setIfInBounds_toArray, List.set_cons_zero, List.set_cons_succ, List.getElem_toArray, List.getElem_cons_zero, List.getElem_cons_succ]
      refine wpAnyH_take (i := 51) (v := ?vv51) rfl (by kernel_rfl) (by kernel_rfl) (by kernel_rfl) (fun _ _ _ h => h) (Or.inl ⟨by rfl, ?hy51⟩) hHeld ?rest51
      case hy51 =>
        intro W hSw
        rw [hS0] at hSw; obtain ⟨s0, s1, s2, s3, ⟨x0, x1, x2, x3, x4⟩, ⟨y0, y1, y2, y3, y4⟩⟩ := hSw
        go_simp
        all_goals with_reducible rfl
      try simp only [Act.put, List.setIfInBounds_toArray, List.set_cons_zero, List.set_cons_succ, List.getElem_toArray, List.getElem_cons_zero, List.getElem_cons_succ]
      refine wpAnyH_take (i := 52) (v := ?vv52) rfl (by kernel_rfl) (by kernel_rfl) (by kernel_rfl) (fun _ _ _ h => h) (Or.inl ⟨by rfl, ?hy52⟩) hHeld ?rest52
      case hy52 =>
        intro W hSw
        rw [hS0] at hSw; obtain ⟨s0, s1, s2, s3, ⟨x0, x1, x2, x3, x4⟩, ⟨y0, y1, y2, y3, y4⟩⟩ := hSw
        go_simp
        all_goals with_reducible rfl
      try simp only [Act.put, List.setIfInBounds_toArray, List.set_cons_zero, List.set_cons_succ, List.getElem_toArray, List.getElem_cons_zero, List.getElem_cons_succ]
      refine wpAnyH_take (i := 53) (v := ?vv53) rfl (by kernel_rfl) (by kernel_rfl) (by kernel_rfl) (fun _ _ _ h => h) (Or.inl ⟨by rfl, ?hy53⟩) hHeld ?rest53
      case hy53 =>
        intro W hSw
        rw [hS0] at hSw; obtain ⟨s0, s1, s2, s3, ⟨x0, x1, x2, x3, x4⟩, ⟨y0, y1, y2, y3, y4⟩⟩ := hSw
        go_simp
        all_goals with_reducible rfl
      try simp only [Act.put, List.setIfInBounds_toArray, List.set_cons_zero, List.set_cons_succ, List.getElem_toArray, List.getElem_cons_zero, List.getElem_cons_succ]
      refine wpAnyH_take (i := 54) (v := ?vv54) rfl (by kernel_rfl) (by kernel_rfl) (by kernel_rfl) (fun _ _ _ h => h) (Or.inl ⟨by rfl, ?hy54⟩) hHeld ?rest54
      case hy54 =>
        intro W hSw
        rw [hS0] at hSw; obtain ⟨s0, s1, s2, s3, ⟨x0, x1, x2, x3, x4⟩, ⟨y0, y1, y2, y3, y4⟩⟩ := hSw
        go_simp
        all_goals with_reducible rfl
      try simp only [Act.put, List.setIfInBounds_toArray, List.set_cons_zero, List.set_cons_succ, List.getElem_toArray, List.getElem_cons_zero, List.getElem_cons_succ]
      refine wpAnyH_take (i := 55) (v := ?vv55) rfl (by kernel_rfl) (by kernel_rfl) (by kernel_rfl) (fun _ _ _ h => h) (Or.inl ⟨by rfl, ?hy55⟩) hHeld ?rest55
      case hy55 =>
        intro W hSw
        rw [hS0] at hSw; obtain ⟨s0, s1, s2, s3, ⟨x0, x1, x2, x3, x4⟩, ⟨y0, y1, y2, y3, y4⟩⟩ := hSw
        go_simp
        all_goals with_reducible rfl
      try simp only [Act.put, List.setIfInBounds_toArray, List.set_cons_zero, List.set_cons_succ, List.getElem_toArray, List.getElem_cons_zero, List.getElem_cons_succ]
      refine wpAnyH_take (i := 56) (v := ?vv56) rfl (by kernel_rfl) (by kernel_rfl) (by kernel_rfl) (fun _ _ _ h => h) (Or.inl ⟨by rfl, ?hy56⟩) hHeld ?rest56
      case hy56 =>
        intro W hSw
        rw [hS0] at hSw; obtain ⟨s0, s1, s2, s3, ⟨x0, x1, x2, x3, x4⟩, ⟨y0, y1, y2, y3, y4⟩⟩ := hSw
        go_simp
        all_goals with_reducible rfl
      try simp only [Act.put, List.setIfInBounds_toArray, List.set_cons_zero, List.set_cons_succ, List.getElem_toArray, List.getElem_cons_zero, List.getElem_cons_succ]
      refine wpAnyH_take (i := 57) (v := ?vv57) rfl (by kernel_rfl) (by kernel_rfl) (by kernel_rfl) (fun _ _ _ h => h) (Or.inl ⟨by rfl, ?hy57⟩) hHeld ?rest57
      case hy57 =>
        intro W hSw
        rw [hS0] at hSw; obtain ⟨s0, s1, s2, s3, ⟨x0, x1, x2, x3, x4⟩, ⟨y0, y1, y2, y3, y4⟩⟩ := hSw
        go_simp
        all_goals with_reducible rfl
      try simp only [Act.put, List.setIfInBounds_toArray, List.set_cons_zero, List.set_cons_succ, List.getElem_toArray, List.getElem_cons_zero, List.getElem_cons_succ]
      refine wpAnyH_take (i := 58) (v := ?vv58) rfl (by kernel_rfl) (by kernel_rfl) (by kernel_rfl) (fun _ _ _ h => h) (Or.inl ⟨by rfl, ?hy58⟩) hHeld ?rest58
      case hy58 =>
        intro W hSw
        rw [hS0] at hSw; obtain ⟨s0, s1, s2, s3, ⟨x0, x1, x2, x3, x4⟩, ⟨y0, y1, y2, y3, y4⟩⟩ := hSw
        go_simp
        all_goals with_reducible rfl
      try simp only [Act.put, List.setIfInBounds_toArray, List.set_cons_zero, List.set_cons_succ, List.getElem_toArray, List.getElem_cons_zero, List.getElem_cons_succ]
      refine wpAnyH_take (i := 59) (v := ?vv59) rfl (by kernel_rfl) (by kernel_rfl) (by kernel_rfl) (fun _ _ _ h => h) (Or.inl ⟨by rfl, ?hy59⟩) hHeld ?rest59
      case hy59 =>
        intro W hSw
        rw [hS0] at hSw; obtain ⟨s0, s1, s2, s3, ⟨x0, x1, x2, x3, x4⟩, ⟨y0, y1, y2, y3, y4⟩⟩ := hSw
        go_simp
        all_goals with_reducible rfl
      try simp only [Act.put, List.setIfInBounds_toArray, List.set_cons_zero, List.set_cons_succ, List.getElem_toArray, List.getElem_cons_zero, List.getElem_cons_succ]
      refine wpAnyH_take (i := 60) (v := ?vv60) rfl (by kernel_rfl) (by kernel_rfl) (by kernel_rfl) (fun _ _ _ h => h) (Or.inl ⟨by rfl, ?hy60⟩) hHeld ?rest60
      case hy60 =>
        intro W hSw
        rw [hS0] at hSw; obtain ⟨s0, s1, s2, s3, ⟨x0, x1, x2, x3, x4⟩, ⟨y0, y1, y2, y3, y4⟩⟩ := hSw
        go_simp
        all_goals with_reducible rfl
      try simp only [Act.put, List.setIfInBounds_toArray, List.set_cons_zero, List.set_cons_succ, List.getElem_toArray, List.getElem_cons_zero, List.getElem_cons_succ]
      refine wpAnyH_take (i := 61) (v := ?vv61) rfl (by kernel_rfl) (by kernel_rfl) (by kernel_rfl) (fun _ _ _ h => h) (Or.inl ⟨by rfl, ?hy61⟩) hHeld ?rest61
      case hy61 =>
        intro W hSw
        rw [hS0] at hSw; obtain ⟨s0, s1, s2, s3, ⟨x0, x1, x2, x3, x4⟩, ⟨y0, y1, y2, y3, y4⟩⟩ := hSw
        go_simp
        all_goals with_reducible rfl
      try simp only [Act.put, List.setIfInBounds_toArray, List.set_cons_zero, List.set_cons_succ, List.getElem_toArray, List.getElem_cons_zero, List.getElem_cons_succ]
      refine wpAnyH_take (i := 62) (v := ?vv62) rfl (by kernel_rfl) (by kernel_rfl) (by kernel_rfl) (fun _ _ _ h => h) (Or.inl ⟨by rfl, ?hy62⟩) hHeld ?rest62
      case hy62 =>
        intro W hSw
        rw [hS0] at hSw; obtain ⟨s0, s1, s2, s3, ⟨x0, x1, x2, x3, x4⟩, ⟨y0, y1, y2, y3, y4⟩⟩ := hSw
        go_simp
        all_goals with_reducible rfl
      try simp only [Act.put, List.setIfInBounds_toArray, List.set_cons_zero, List.set_cons_succ, List.getElem_toArray, List.getElem_cons_zero, List.getElem_cons_succ]
      refine wpAnyH_take (i := 63) (v := ?vv63) rfl (by kernel_rfl) (by kernel_rfl) (by kernel_rfl) (fun _ _ _ h => h) (Or.inl ⟨by rfl, ?hy63⟩) hHeld ?rest63
      case hy63 =>
        intro W hSw
        rw [hS0] at hSw; obtain ⟨s0, s1, s2, s3, ⟨x0, x1, x2, x3, x4⟩, ⟨y0, y1, y2, y3, y4⟩⟩ := hSw
        go_simp
        all_goals with_reducible rfl
      try simp only [Act.put, List.setIfInBounds_toArray, List.set_cons_zero, List.set_cons_succ, List.getElem_toArray, List.getElem_cons_zero, List.getElem_cons_succ]
      refine wpAnyH_done (by kernel_rfl) ?_ _
      obtain ⟨-, -, -, -, ⟨x0, x1, x2, x3, x4⟩, ⟨y0, y1, y2, y3, y4⟩⟩ := HSF.out W0 (Below.refl _ _)
      clear hHeld hS0
      go_wp2_with fail
      go_loopw [99] (fun i wx => ∃ j : Nat, j ≤ n2 ∧ i = .int .i64 j ∧ ∃ q, wx = W0.drewN q) (fun i _ => n2 - (intOf i).toNat)
      case atStart => exact ⟨0, by omega, rfl, _, rfl⟩
      case round =>
        obtain ⟨j, hj, rfl, qq, rfl⟩ := hrel
        by_cases hlt2 : j < n2
        · obtain ⟨f, hf⟩ : ∃ f, x.val.pairs[j]? = some f := ⟨_, List.getElem?_eq_getElem (by rw [HN2.out]; exact hlt2)⟩
          obtain ⟨y, rfl, hy⟩ := fd_cells HPA.out.pairs hf
          obtain ⟨z, rfl, hz⟩ := fd_cells HQA.out.pairs hf
          have HY : Hid (∀ w, (∃ n, w = (W0.drewN qq).drewN n) → ∀ i u, ([.string ⟨f.1.toArray⟩, .string ⟨f.2.toArray⟩] : List Value)[i]? = some u → w.cell? ((y.add (j * 2)).add i) = some u) := Lib.hid (by rintro w ⟨n, rfl⟩ i u hu; exact hy i u hu)
          have HZ : Hid (∀ w, (∃ n, w = (W0.drewN qq).drewN n) → ∀ i u, ([.string ⟨f.1.toArray⟩, .string ⟨f.2.toArray⟩] : List Value)[i]? = some u → w.cell? ((z.add (j * 2)).add i) = some u) := Lib.hid (by rintro w ⟨n, rfl⟩ i u hu; exact hz i u hu)
          have HSP := Lib.hid (show (Tryz.prog.info? 71).map (·.size) = some 2 by kernel_rfl)
          clear hf hy hz
          go_wp2_with fail
          refine wp_region_quiet_lit (by kernel_rfl) (by kernel_rfl) ?_
          repeat (first
            | (refine wpQuiet_load29 (by rfl) 71 _ rfl (y.add (j * 2)) rfl _ _ HY.out Tryz.underlying71 rfl HSP.out ?_; clear HY)
            | (refine wpQuiet_load29 (by rfl) 71 _ rfl (z.add (j * 2)) rfl _ _ HZ.out Tryz.underlying71 rfl HSP.out ?_; clear HZ)
            | quiet_step (fail))
          refine wpQuiet_nil ?_
          intro _ hw'
          obtain ⟨nq, hw2⟩ := hw'
          subst hw2
          go_wp2_with fail
          go_roundw
          case rel => exact ⟨j + 1, by omega, by go_num, _, rfl⟩
          case measure => simp [intOf]; omega
        · obtain rfl : j = n2 := by omega
          clear hlt2 hj
          go_wp2_with fail
          go_loopw [117] (fun i wx => ∃ j : Nat, j ≤ n3 ∧ i = .int .i64 j ∧ ∃ q, wx = W0.drewN q) (fun i _ => n3 - (intOf i).toNat)
          case atStart => exact ⟨0, by omega, rfl, _, rfl⟩
          case round =>
            obtain ⟨j3, hj, rfl, qq, rfl⟩ := hrel
            by_cases hlt3 : j3 < n3
            · obtain ⟨f, hf⟩ : ∃ f, x.val.ranks[j3]? = some f := ⟨_, List.getElem?_eq_getElem (by rw [HN3.out]; exact hlt3)⟩
              obtain ⟨y, rfl, yy0, yy1⟩ := mb_cells29 HPA.out.ranks hf
              obtain ⟨z, rfl, zz0, zz1⟩ := mb_cells29 HQA.out.ranks hf
              clear hf
              obtain ⟨fv, hfv⟩ : ∃ fv, f.2 = fv := ⟨_, rfl⟩
              rw [hfv] at yy1 zz1
              obtain ⟨e, he⟩ : ∃ e, (FloatKind.f64.format.order fv fv == some .eq) = e := ⟨_, rfl⟩
              clear hfv
              cases e
              all_goals
                go_wp2_with fail
                go_quiet (fail)
                go_wp2_with fail
                go_roundw
                case rel => exact ⟨j3 + 1, by omega, by go_num, _, rfl⟩
                case measure => simp [intOf]; omega
            · go_wp2_with fail
              go_roundw
              case rel => exact ⟨k + 1, by omega, by go_num, Lib.hid (HBW.out.trans ⟨rfl, rfl, rfl, Nat.le_refl _, fun _ _ => rfl⟩)⟩
              case measure => simp [intOf]; omega
    · go_wp2_with fail
      go_ret
      exact ⟨rfl, HBR.out⟩
end Go.Proofs.YteiklgbjjmlmaaaGreat
