
/- A growing row of stored keys that is written in place: what it holds, one put, one more. -/
import Derived.Test.YteiklgbjjmlmaaaGreatZSnLd3
import Derived.Test.YteiklgbjjmlmaaaGreatZVTold
import Derived.Test.YteiklgbjjmlmaaaGreatZSnForm
set_option linter.unusedVariables false
set_option linter.unusedSimpArgs false
namespace Pantry
open Go Go.RowKit
/-- A struct's store into a row, at a place. -/
theorem wpl_store_at {P : Program} {ops : Array Oper} {rest : List Oper} {o : Oper} {a : Act} {w : World} {Q : Exit → Act → World → Prop} (hgd : o.guard = none) (ty : TypeId) (x y : Operand) (ho : o.op = .store ty x y)
    (g off : Nat) (cells : List Value) (hx : a.eval x = .pointer (some ⟨g, off, none⟩)) (hy : a.eval y = .agg cells.toArray) (t : TypeId) (cur : Array Value) (hg : w.heap[g]? = some (.cells cur t (0, 0)))
    (hi : (P.info? ty).map (·.size) = some cells.length) (hl : off + cells.length ≤ cur.size) (h1 : ∀ v ∈ cells, v.oneCell' = true)
    (h : wpList P ops Q rest (a.put o.dst undef) (w.setRow g (cur.toList.take off ++ cells ++ cur.toList.drop (off + cells.length)).toArray)) : wpList P ops Q (o :: rest) a w := by
  refine wpList_plain hgd fun K hK => ?_
  have hst := run_storeX P g off t (0, 0) cells 0 cur w hg (fun j _ _ => by simp) (by omega) h1
  have hr : (storeVar ty ⟨g, off, none⟩ (.agg cells.toArray)).run P w = .ok () (w.setRow g (cur.toList.take off ++ cells ++ cur.toList.drop (off + cells.length)).toArray) := by
    cases hq : P.info? ty with
    | none => simp [hq] at hi
    | some i =>
      have hs : cells.length = i.size := by simp [hq] at hi; omega
      simp [storeVar, Go.sizeOf, typeInfo, hq, Value.cells, hs] at hst ⊢
      exact hst
  unfold Oper.wp execOp
  simp only [ho, hx, hy, Instr.storeAt, Instr.sureAddr, Sem.run_bind, Sem.run_pure, Result.andThen_ok, hr]
  exact hK _ _ h
/-- One element of a row is put. -/
theorem ownsRow_put {w : World} {B : Nat} {e : TypeId} {s n cap g : Nat} {xs us : List Value} {k : Nat} (h : w.ownsRow B e s (.slice (some ⟨g, 0, none⟩) n cap) n xs) (hk : k < n) (hu : us.length = s) :
    ∃ cur, w.heap[g]? = some (.cells cur e (0, 0)) ∧ k * s + us.length ≤ cur.size ∧ B ≤ g ∧ n ≤ cap ∧
      (w.setRow g (cur.toList.take (k * s) ++ us ++ cur.toList.drop (k * s + us.length)).toArray).ownsRow B e s (.slice (some ⟨g, 0, none⟩) n cap) n (xs.take (k * s) ++ us ++ xs.drop (k * s + s)) := by
  rcases h.2 with ⟨h0, -⟩ | ⟨g', cap', cur, h0, hb, hg, hn, hm, hc, ht⟩
  · cases h0
  · obtain ⟨h1, -, rfl⟩ := Value.slice.inj h0
    obtain rfl : g = g' := by injection h1 with h1; injection h1
    have hks : k * s + s ≤ n * s := by rw [← Nat.succ_mul]; exact Nat.mul_le_mul_right s hk
    have hnc : n * s ≤ cap * s := Nat.mul_le_mul_right s hn
    have hcl : cur.toList.length = cap * s := by rw [Array.length_toList, hc]
    have hxl := h.1
    refine ⟨cur, hg, by rw [hu, hc]; omega, hb, hn, ?_, .inr ⟨g, cap, _, rfl, hb, setRow_heap w g _ _ _ _ hg, hn, hm, ?_, ?_⟩⟩
    · simp only [List.length_append, List.length_take, List.length_drop, hxl, hu]
      omega
    · simp only [List.size_toArray, List.length_append, List.length_take, List.length_drop, hcl, hu]
      omega
    · rw [List.toList_toArray, ← ht, hu]
      have e1 : (cur.toList.take (n * s)).take (k * s) = cur.toList.take (k * s) := by rw [List.take_take, Nat.min_eq_left (by omega)]
      have e2 : (cur.toList.take (n * s)).drop (k * s + s) = (cur.toList.drop (k * s + s)).take (n * s - (k * s + s)) := by rw [List.drop_take]
      have l1 : (cur.toList.take (k * s) ++ us).length = k * s + s := by rw [List.length_append, List.length_take, hcl, hu]; omega
      have e3 : (cur.toList.take (k * s) ++ us ++ cur.toList.drop (k * s + s)).take (n * s) = cur.toList.take (k * s) ++ us ++ (cur.toList.drop (k * s + s)).take (n * s - (k * s + s)) := by
        rw [List.take_append, List.take_of_length_le (by rw [l1]; omega), l1]
      rw [e1, e2, e3]
end Pantry
namespace Go.Proofs.YteiklgbjjmlmaaaGreat
open Go.RowKit Pantry

/-- A stored key with where its rows lie. -/
abbrev SX := SE × (Option Addr × Option Addr × Option Addr) × (Nat × Nat × Nat)
def sxC (q : SX) : List Value := seC q.1 q.2.1.1 q.2.1.2.1 q.2.1.2.2 q.2.2.1 q.2.2.2.1 q.2.2.2.2
theorem sxC_len (q : SX) : (sxC q).length = 7 := rfl
theorem sxC_one (q : SX) : ∀ u ∈ sxC q, u.oneCell' = true := by
  intro u hu
  simp only [sxC, seC, List.mem_cons, List.not_mem_nil, or_false] at hu
  rcases hu with rfl | rfl | rfl | rfl | rfl | rfl | rfl <;> rfl
theorem sxCs_one (L : List SX) : ∀ u ∈ L.flatMap sxC, u.oneCell' = true := by
  intro u hu
  obtain ⟨q, hq, hu⟩ := List.mem_flatMap.1 hu
  exact sxC_one q u hu
theorem sxCs_len (L : List SX) : (L.flatMap sxC).length = L.length * 7 := by
  induction L with
  | nil => rfl
  | cons q L ih => rw [List.flatMap_cons, List.length_append, ih, sxC_len, List.length_cons]; omega
theorem Rd.apart {S : Nat → Prop} {w w' : World} {a : Option Addr} {xs : List Value} (h : Rd w a xs) (hc : Chg S w w') (hf : ∀ x, a = some x → xs ≠ [] → ¬ S x.block) : Rd w' a xs := by
  by_cases h0 : xs = []
  · subst h0; exact Rd.nil _ _
  · exact hc.rd h fun x hx => hf x hx h0
theorem txs_ne {l : List (List UInt8)} : l.map txC ≠ [] ↔ l ≠ [] := by cases l <;> simp
theorem fds_ne {l : List Fld} : fdCells l ≠ [] ↔ l ≠ [] := by cases l <;> simp [fdCells, fdC]
theorem rks_ne {l : List Mb} : rkCells l ≠ [] ↔ l ≠ [] := by cases l <;> simp [rkCells, mbC]
/-- The rows of a value lie elsewhere than a block. -/
def Far (q : SX) (k : Nat) : Prop := ∀ x, (q.2.1.1 = some x ∧ q.1.val.items ≠ [] ∨ q.2.1.2.1 = some x ∧ q.1.val.pairs ≠ [] ∨ q.2.1.2.2 = some x ∧ q.1.val.ranks ≠ []) → x.block ≠ k
/-- What lies apart from a row's own block. -/
structure Apart (w : World) (v : Value) (q : SX) : Prop where
  plain : PlainAt w q.1.val q.2.1.1 q.2.1.2.1 q.2.1.2.2
  far : ∀ k, v.ownBlock = some k → Far q k
theorem plain_lt {w : World} {q : SX} (h : PlainAt w q.1.val q.2.1.1 q.2.1.2.1 q.2.1.2.2) {k : Nat} (hk : w.heap.size ≤ k) : Far q k := by
  rintro x (⟨h1, h2⟩ | ⟨h1, h2⟩ | ⟨h1, h2⟩) rfl
  · obtain ⟨y, hy, hl⟩ := h.items.block_lt (txs_ne.2 h2)
    rw [h1] at hy; obtain rfl : x = y := by simpa using hy
    omega
  · obtain ⟨y, hy, hl⟩ := h.pairs.block_lt (fds_ne.2 h2)
    rw [h1] at hy; obtain rfl : x = y := by simpa using hy
    omega
  · obtain ⟨y, hy, hl⟩ := h.ranks.block_lt (rks_ne.2 h2)
    rw [h1] at hy; obtain rfl : x = y := by simpa using hy
    omega
theorem plain_chg {S : Nat → Prop} {w w' : World} {q : SX} (h : PlainAt w q.1.val q.2.1.1 q.2.1.2.1 q.2.1.2.2) (hc : Chg S w w') (hS : ∀ k, S k → Far q k) : PlainAt w' q.1.val q.2.1.1 q.2.1.2.1 q.2.1.2.2 :=
  ⟨Rd.apart h.items hc fun x hx hn hs => hS _ hs x (.inl ⟨hx, txs_ne.1 hn⟩) rfl, Rd.apart h.pairs hc fun x hx hn hs => hS _ hs x (.inr (.inl ⟨hx, fds_ne.1 hn⟩)) rfl, Rd.apart h.ranks hc fun x hx hn hs => hS _ hs x (.inr (.inr ⟨hx, rks_ne.1 hn⟩)) rfl⟩
/-- Stored keys in a row of its own; what they hold lies elsewhere. -/
structure OutS (w : World) (B : Nat) (v : Value) (L : List SX) : Prop where
  row : w.ownsRow B 51 7 v L.length (L.flatMap sxC)
  vals : ∀ q ∈ L, Apart w v q
theorem Apart.chg {S : Nat → Prop} {w w' : World} {v : Value} {q : SX} (h : Apart w v q) (hc : Chg S w w') (hS : ∀ k, S k → v.ownBlock = some k) : Apart w' v q :=
  ⟨plain_chg h.plain hc fun k hk => h.far k (hS k hk), h.far⟩
theorem OutS.below {w w' : World} {B : Nat} {v : Value} {L : List SX} (h : OutS w B v L) (hb : Below w.heap.size w w') : OutS w' B v L :=
  ⟨ownsRow_belowAll h.row hb, fun q hq => ⟨(h.vals q hq).plain.below hb, (h.vals q hq).far⟩⟩
theorem OutS.nil (w : World) (B : Nat) : OutS w B (.slice none 0 0) [] := ⟨ownsRow_none _ _ _ _, by simp⟩
theorem OutS.srow {w : World} {B : Nat} {v : Value} {L : List SX} (h : OutS w B v L) : ∃ a c, v = .slice a L.length c ∧ L.length ≤ c ∧ SRow w a (L.map (·.1)) := by
  obtain ⟨a, c, rfl, hrd⟩ := ownsRow_rd h.row (sxCs_one L)
  refine ⟨a, c, rfl, ownsRow_cap h.row, fun i x hx => ?_⟩
  rw [List.getElem?_map] at hx
  obtain ⟨q, hq, rfl⟩ := Option.map_eq_some_iff.1 hx
  have hcell : ∀ j u, (sxC q)[j]? = some u → (L.flatMap sxC)[i * 7 + j]? = some u := by
    intro j u hu
    have hj : j < 7 := (List.getElem?_eq_some_iff.1 hu).1
    rw [flatRow_at (f := sxC) (s := 7) sxC_len hq hj]; exact hu
  obtain ⟨-, y, rfl, -⟩ := hrd _ _ (hcell 0 _ rfl)
  refine ⟨y, rfl, q.2.1.1, q.2.1.2.1, q.2.1.2.2, q.2.2.1, q.2.2.2.1, q.2.2.2.2, fun j u hu => ?_, (h.vals q (List.mem_of_getElem? hq)).plain⟩
  obtain ⟨-, z, hz, hc⟩ := hrd _ _ (hcell j u hu)
  obtain rfl : y = z := by simpa using hz
  rw [Addr.add_add]
  exact hc
/-- One put at a place. -/
theorem OutS.put {w : World} {B n c g k : Nat} {L : List SX} {q : SX} (h : OutS w B (.slice (some ⟨g, 0, none⟩) n c) L) (hn : L.length = n) (hk : k < n) (hq : Apart w (.slice (some ⟨g, 0, none⟩) n c) q) :
    ∃ cur, w.heap[g]? = some (.cells cur 51 (0, 0)) ∧ k * 7 + 7 ≤ cur.size ∧ B ≤ g ∧ OutS (w.setRow g (cur.toList.take (k * 7) ++ sxC q ++ cur.toList.drop (k * 7 + 7)).toArray) B (.slice (some ⟨g, 0, none⟩) n c) (L.set k q) ∧
      Chg (fun i => i = g) w (w.setRow g (cur.toList.take (k * 7) ++ sxC q ++ cur.toList.drop (k * 7 + 7)).toArray) := by
  subst hn
  obtain ⟨cur, hg, hl, hb, hc, hrow⟩ := ownsRow_put (us := sxC q) (k := k) h.row hk (sxC_len q)
  rw [sxC_len] at hl hrow
  have hch : Chg (fun i => i = g) w (w.setRow g (cur.toList.take (k * 7) ++ sxC q ++ cur.toList.drop (k * 7 + 7)).toArray) := Chg.setRow (S := fun i => i = g) (Chg.refl _ w) (fun _ => rfl) _
  refine ⟨cur, hg, hl, hb, ⟨?_, fun p hp => ?_⟩, hch⟩
  · rw [List.length_set]
    have e : (L.set k q).flatMap sxC = (L.flatMap sxC).take (k * 7) ++ sxC q ++ (L.flatMap sxC).drop (k * 7 + 7) := by
      have e1 : L.set k q = L.take k ++ q :: L.drop (k + 1) := by
        rw [List.set_eq_take_append_cons_drop, if_pos hk]
      have e2 : L.flatMap sxC = (L.take k).flatMap sxC ++ (L.drop k).flatMap sxC := by rw [← List.flatMap_append, List.take_append_drop]
      have l1 : ((L.take k).flatMap sxC).length = k * 7 := by rw [sxCs_len, List.length_take]; omega
      have e3 : (L.drop k).flatMap sxC = sxC L[k] ++ (L.drop (k + 1)).flatMap sxC := by rw [List.drop_eq_getElem_cons hk, List.flatMap_cons]
      have e4 : ((L.take k).flatMap sxC ++ (sxC L[k] ++ (L.drop (k + 1)).flatMap sxC)).drop (k * 7 + 7) = (L.drop (k + 1)).flatMap sxC := by
        rw [← List.append_assoc, List.drop_left' (by rw [List.length_append, l1, sxC_len])]
      rw [e1, List.flatMap_append, List.flatMap_cons, e2, List.take_left' l1, e3, e4, List.append_assoc]
    rw [e]
    exact hrow
  · have hS : ∀ i, i = g → (Value.slice (some ⟨g, 0, none⟩) L.length c).ownBlock = some i := fun i hi => by rw [hi]; rfl
    rcases List.mem_or_eq_of_mem_set hp with hp | rfl
    · exact (h.vals p hp).chg hch hS
    · exact hq.chg hch hS
/-- One more, behind a copy of it in a new block. -/
theorem OutS.append {w : World} {B n : Nat} {v : Value} {L : List SX} {q : SX} (h : OutS w B v L) (hn : L.length = n) (hq : Apart w v q) (hb : (n + 1) * 120 ≤ 140737488355328) (hB : B ≤ w.heap.size) :
    ∃ g c w', (Builtin.append_ #[22, 22] 22 #[v, .slice (some ⟨w.heap.size, 0, none⟩) 1 1]).run Tryz.prog (w.alloc (.cells (sxC q).toArray 51)) = .ok (.slice (some ⟨g, 0, none⟩) (n + 1) c) w' ∧
      OutS w' B (.slice (some ⟨g, 0, none⟩) (n + 1) c) (L ++ [q]) ∧ w.grownBy w' v.ownBlock ∧ B ≤ g ∧ Apart w' (.slice (some ⟨g, 0, none⟩) (n + 1) c) q ∧ (v.ownBlock = some g ∨ w.heap.size < g) := by
  subst hn
  obtain ⟨v', w', hr, h2, h3, -, h5⟩ := run_append (P := Tryz.prog) rvStored 22 B (h.row.alloc (.cells (sxC q).toArray 51)) (m := 1) (c := 1) (ad := some ⟨w.heap.size, 0, none⟩) (by simp) (by rw [sxC_len]) (Rd.new w (sxC q).toArray 51 (0, 0) (by simpa using sxC_one q)) hb (by simp; omega)
  rcases h2.2 with ⟨h0, h4⟩ | ⟨g, cap, cur, rfl, hg, -⟩
  · omega
  · have hgr := grownBy_alloc_first h3
    have hcg : Chg (fun k => v.ownBlock = some k) w w' := Chg.of_grown hgr fun k hk => hk
    have hnew : ∀ p : SX, Apart w v p → Apart w' (.slice (some ⟨g, 0, none⟩) (L.length + 1) cap) p := fun p hp => ⟨plain_chg hp.plain hcg fun k hk => hp.far k hk, fun k hk => by
      obtain rfl : g = k := by simpa [Value.ownBlock] using hk
      rcases h5 g rfl with hh | hh
      · exact hp.far g hh
      · exact plain_lt hp.plain (by simp at hh; omega)⟩
    refine ⟨g, cap, w', hr, ⟨?_, fun p hp => ?_⟩, hgr, hg, hnew q hq, (h5 g rfl).imp id (fun h => by simp at h; omega)⟩
    · rw [List.flatMap_append, List.length_append]
      simpa using h2
    · rcases List.mem_append.1 hp with hp | hp
      · exact hnew p (h.vals p hp)
      · obtain rfl := List.mem_singleton.1 hp
        exact hnew _ hq
end Go.Proofs.YteiklgbjjmlmaaaGreat


/- The law's own within and right. -/
set_option linter.unusedVariables false
set_option linter.unusedSimpArgs false
namespace Go.Proofs.YteiklgbjjmlmaaaGreat
open Go.RowKit Pantry

theorem canon_sorted {p q : PD} (hf : Fine p) (hc : Canon p q) : sortedP q = true := by
  cases hc with
  | text h => simp [sortedP]
  | list h => simp [sortedP]
  | record h =>
    simp only [sortedP, if_true, decide_eq_true_eq]
    exact sortK_rises hf.pairKeys
  | flock h =>
    simp only [sortedP]
    rw [if_neg (by decide), if_pos trivial, decide_eq_true_eq]
    exact sortT_rises (hf.itemKeys h)
  | ranks l h hl hr =>
    simp only [sortedP]
    rw [if_neg (by decide), if_neg (by decide), if_pos trivial, decide_eq_true_eq]
    exact hr
theorem canon_right {p q : PD} (h : wrongP p = 0) (hc : Canon p q) (he : emptyP q = false) : rightP q = true := by
  have hf := wrongP_zero h
  unfold rightP
  rw [(hc.fine hf).wrong, he, canon_sorted hf hc]
  rfl
theorem canon_bits {p q : PD} (hc : Canon p q) (hb : ∀ y ∈ p.ranks, y.2 < 18446744073709551616) : ∀ y ∈ q.ranks, y.2 < 18446744073709551616 := by
  cases hc with
  | ranks l h hl hr => exact fun y hy => hb y (hl.mem_iff.1 hy)
  | _ => simp
/-- A key that may be saved. -/
structure GoodE (x : SE) : Prop where
  key : x.key.length ≤ 1048576
  dl : 0 ≤ x.dl ∧ x.dl ≤ 9007199254740992
  val : rightP x.val = true
  bits : ∀ y ∈ x.val.ranks, y.2 < 18446744073709551616
/-- Keys in order. -/
def SrtE (l : List SE) : Prop := l.Pairwise fun x y => cmpB x.key y.key < 0
theorem right_of : ∀ (l acc : List SE), SrtE (acc ++ l) → (∀ x ∈ l, GoodE x) → rightFrom acc l = true
  | [], acc, h, hg => rfl
  | x :: l, acc, h, hg => by
    have hx := hg x List.mem_cons_self
    have hf : followsP acc x = true := by
      unfold followsP
      simp only [Bool.and_eq_true, decide_eq_true_eq]
      refine ⟨⟨⟨⟨?_, hx.key⟩, hx.dl.1⟩, hx.dl.2⟩, hx.val⟩
      cases hl : acc.getLast? with
      | none => rfl
      | some y =>
        have := (List.pairwise_append.1 h).2.2 y (List.mem_of_getLast? hl) x List.mem_cons_self
        simpa using this
    rw [rightFrom, hf, Bool.true_and]
    exact right_of l (acc ++ [x]) (by simpa using h) fun y hy => hg y (List.mem_cons_of_mem _ hy)
/-- What right answers may be saved. -/
structure RightL (l : List SE) : Prop where
  srt : SrtE l
  good : ∀ x ∈ l, GoodE x
theorem RightL.right {l : List SE} (h : RightL l) : rightFrom [] l = true := right_of l [] h.srt h.good
theorem RightL.bits {l : List SE} (h : RightL l) : Bits64 l := fun x hx => (h.good x hx).bits
theorem RightL.shaped {l : List SE} (h : RightL l) {x : SE} (hx : x ∈ l) : Shaped x.val := rightP_shaped (h.good x hx).val (h.good x hx).bits
theorem RightL.big {l : List SE} (h : RightL l) (hn : l.length ≤ 140737488355328) : SBig l := ⟨hn, fun x hx => shaped_big (h.shaped hx), fun x hx => by have := (h.good x hx).key; omega, h.bits⟩
/-- One is put between. -/
theorem RightL.ins {l : List SE} (h : RightL l) {x : SE} (hx : GoodE x) {i : Nat} (hi : i ≤ l.length) (h1 : ∀ y ∈ l.take i, cmpB y.key x.key < 0) (h2 : ∀ y, l[i]? = some y → cmpB x.key y.key < 0) : RightL (l.take i ++ x :: l.drop i) := by
  have hs := h.srt
  unfold SrtE at hs
  rw [← List.take_append_drop i l] at hs
  obtain ⟨p1, p2, p3⟩ := List.pairwise_append.1 hs
  have hxd : ∀ y ∈ l.drop i, cmpB x.key y.key < 0 := by
    intro y hy
    cases hd : l.drop i with
    | nil => rw [hd] at hy; cases hy
    | cons z m =>
      have hz : l[i]? = some z := by
        have := congrArg (fun m => m[0]?) hd
        simpa [List.getElem?_drop] using this
      have hzx := h2 z hz
      rw [hd] at hy p2
      rcases List.mem_cons.1 hy with rfl | hy
      · exact hzx
      · exact cmpB_lt_trans hzx ((List.pairwise_cons.1 p2).1 y hy)
  refine ⟨List.pairwise_append.2 ⟨p1, List.pairwise_cons.2 ⟨hxd, p2⟩, fun a ha b hb => ?_⟩, fun y hy => ?_⟩
  · rcases List.mem_cons.1 hb with rfl | hb
    · exact h1 a ha
    · exact p3 a ha b hb
  · rcases List.mem_append.1 hy with hy | hy
    · exact h.good y (List.mem_of_mem_take hy)
    · rcases List.mem_cons.1 hy with rfl | hy
      · exact hx
      · exact h.good y (List.mem_of_mem_drop hy)
/-- The row while what stands behind the place is moved. -/
theorem shift_step {α : Type} {l : List α} {x : α} {k : Nat} (h0 : 0 < k) (hk : k ≤ l.length) {y : α} (hy : ((l ++ [x]).take (k + 1) ++ l.drop k)[k - 1]? = some y) :
    ((l ++ [x]).take (k + 1) ++ l.drop k).set k y = (l ++ [x]).take k ++ l.drop (k - 1) := by
  obtain ⟨j, rfl⟩ : ∃ j, k = j + 1 := ⟨k - 1, by omega⟩
  have hj : j < l.length := by omega
  have l1 : ((l ++ [x]).take (j + 1)).length = j + 1 := by rw [List.length_take, List.length_append]; simp; omega
  have hyj : y = l[j] := by
    rw [show j + 1 - 1 = j by omega, List.getElem?_append_left (by rw [List.length_take, List.length_append]; simp; omega), List.getElem?_take, if_pos (by omega), List.getElem?_append_left hj, List.getElem?_eq_getElem hj] at hy
    exact (Option.some.inj hy).symm
  have e1 : (l ++ [x]).take (j + 1 + 1) = (l ++ [x]).take (j + 1) ++ [(l ++ [x])[j + 1]'(by rw [List.length_append]; simp; omega)] := List.take_succ_eq_append_getElem _
  rw [e1, List.append_assoc, List.set_append_right _ _ (by rw [l1]; exact Nat.le_refl _), l1, Nat.sub_self, show j + 1 - 1 = j by omega, List.drop_eq_getElem_cons hj, hyj]
  rfl
theorem shift_end {α : Type} {l : List α} {x : α} {i : Nat} (hi : i ≤ l.length) : ((l ++ [x]).take (i + 1) ++ l.drop i).set i x = l.take i ++ x :: l.drop i := by
  have l1 : ((l ++ [x]).take i).length = i := by rw [List.length_take, List.length_append]; simp; omega
  have e1 : (l ++ [x]).take (i + 1) = (l ++ [x]).take i ++ [(l ++ [x])[i]'(by rw [List.length_append]; simp; omega)] := List.take_succ_eq_append_getElem _
  rw [e1, List.append_assoc, List.set_append_right _ _ (by rw [l1]; exact Nat.le_refl _), l1, Nat.sub_self, List.take_append_of_le_length hi]
  rfl
theorem within_at (w : World) (n : Int) (hn : -9223372036854775808 ≤ n ∧ n ≤ 9223372036854775807) : Calls Tryz.prog 52 #[.int .i64 n] w fun e w' => e = .returned (.int .i64 ((n.tmod 9007199254740993).natAbs : Nat)) ∧ w = w' := by
  obtain ⟨h1, h2⟩ := hn
  have hb := tmod_bounds n 9007199254740993 (by decide)
  obtain ⟨t, ht⟩ : ∃ t, n.tmod 9007199254740993 = t := ⟨_, rfl⟩
  rw [show ((9007199254740993 : Nat) : Int) = 9007199254740993 from rfl, ht] at hb
  rw [ht]
  by_cases h0 : t < 0
  · have HE : Hid (-t = ((t.natAbs : Nat) : Int)) := Lib.hid (by omega)
    go_enter Tryz.func52, Tryz.ntmps52
    go_wp2_with fail
    go_ret
    refine ⟨?_, rfl⟩
    show Ending.returned (.int .i64 (-t)) = _
    rw [HE.out]
  · have HE : Hid (t = ((t.natAbs : Nat) : Int)) := Lib.hid (by omega)
    go_enter Tryz.func52, Tryz.ntmps52
    go_wp2_with fail
    go_ret
    refine ⟨?_, rfl⟩
    show Ending.returned (.int .i64 t) = _
    rw [← HE.out]
end Go.Proofs.YteiklgbjjmlmaaaGreat
