/- A table is made; an entry is hung: in memory. -/
import Derived.Test.YtbjfigegiffefaaDGrow
set_option linter.unusedVariables false
set_option linter.unusedSimpArgs false
namespace Go.Proofs.Ytbjfigegiffefaa
open Go.RowKit Pantry

/-- Between two statements of Set and Delete. -/
structure SG (w : World) (d : Nat) (D0 : Dc) (l : List (List UInt8 × Value)) (W : World) (D : Dc) : Prop where
  seed : D.seed = D0.seed
  perm : D.kv.Perm l
  at_ : DictAt W d D
  chg : Chg (DFoot d D0) w W
  foot : ∀ k, DFoot d D k → DFoot d D0 k ∨ w.heap.size ≤ k
theorem SI.sg {w W : World} {d : Nat} {D0 D : Dc} (h : SI w d D0 W D) : SG w d D0 D0.kv W D := ⟨h.seed, h.perm.map DE.kv, h.at_, h.chg, fun k hk => .inl (h.foot k hk)⟩
theorem SG.drewN {w W : World} {d : Nat} {D0 D : Dc} {l : List (List UInt8 × Value)} (h : SG w d D0 l W D) (q : Nat) : SG w d D0 l (W.drewN q) D := ⟨h.seed, h.perm, h.at_.keep fun _ _ => rfl, h.chg.drewN, h.foot⟩
theorem SG.op {w W : World} {d : Nat} {D0 D : Dc} {l : List (List UInt8 × Value)} (h : SG w d D0 l W D) (hw : D.Wf) : DOp d D0 l w W := ⟨⟨D, hw, h.seed, h.at_, h.perm, h.foot⟩, h.chg⟩
theorem rep_cells (m : Nat) : (List.map ptrOf (List.replicate m ([] : List DE))).toArray = (List.replicate m (Value.pointer none)).toArray := by simp [ptrOf, ptrA]
theorem rep_ne {m : Nat} (h : 0 < m) : List.replicate m ([] : List DE) ≠ [] := by simp; omega
theorem tabAt_rep {w : World} {b m : Nat} (hb : w.heap[b]? = some (.cells (List.replicate m (Value.pointer none)).toArray 95)) (h2 : ∃ k, m = 2 ^ k) (hm : m ≤ 1099511627776) : TabAt w b (List.replicate m []) :=
  ⟨fun _ => by rw [rep_cells]; exact hb, fun _ => by rw [List.length_replicate]; exact h2, by rw [List.length_replicate]; exact hm⟩
theorem chain_rep (w : World) (m : Nat) : ∀ c ∈ List.replicate m ([] : List DE), ChainAt w c := fun c hc => by rw [(List.mem_replicate.1 hc).2]; trivial
theorem heap_alloc_old {w : World} {o : Obj} {k : Nat} (h : k < w.heap.size) : (w.alloc o).heap[k]? = w.heap[k]? := Below.heap_alloc _ _ _ h
theorem SG.first {w W : World} {d : Nat} {D0 D : Dc} {l : List (List UInt8 × Value)} (h : SG w d D0 l W D) (hw : D.Wf) (hT : D.T = []) {m k : Nat} (h2 : m = 2 ^ k) (hm : m ≤ 1099511627776) :
    SG w d D0 l ((W.alloc (.cells (List.replicate m (Value.pointer none)).toArray 95)).setCell ⟨d, 1, none⟩ (.slice (some ⟨W.heap.size, 0, none⟩) m m)) (D.first W.heap.size m) := by
  have hp : 0 < m := by rw [h2]; exact Nat.two_pow_pos k
  obtain ⟨-, e, hY⟩ := hw.first hT W.heap.size m
  have hY0 : D.Y = [] := hY
  have hdl := block_lt h.at_.head
  have hnb : ((W.alloc (.cells (List.replicate m (Value.pointer none)).toArray 95)).setCell ⟨d, 1, none⟩ (.slice (some ⟨W.heap.size, 0, none⟩) m m)).heap[W.heap.size]? = some (.cells (List.replicate m (Value.pointer none)).toArray 95) :=
    (heapSetOther (p := ⟨d, 1, none⟩) (by show W.heap.size ≠ d; omega)).trans (heap_alloc_new W _)
  refine ⟨h.seed, ?_, ⟨?_, tabAt_rep hnb ⟨k, h2⟩ hm, ?_, chain_rep _ _, ?_, fun _ hh => absurd hY hh⟩, ?_, ?_⟩
  · unfold Dc.kv; rw [e]; exact h.perm
  · rw [heapSetHere ((heap_alloc_old hdl).trans h.at_.head), e]
    show _ = some (Obj.cells #[.int .u64 D.seed, tabV W.heap.size (List.replicate m []), tabV D.bn D.Y, .int .i64 D.pos, _] 101 (0, 0))
    rw [tabV_some (rep_ne hp), List.length_replicate]
    rfl
  · exact ⟨fun hh => absurd hY hh, fun hh => absurd hY hh, by show D.Y.length ≤ _; rw [hY0]; exact Nat.zero_le _⟩
  · intro c hc
    have : c ∈ D.Y := hc
    rw [hY0] at this; cases this
  · exact (h.chg.alloc _).setCell (p := ⟨d, 1, none⟩) (fun _ => .inl rfl) _
  · rintro k (rfl | ⟨hne, rfl⟩ | ⟨hne, rfl⟩ | ⟨x, hx, rfl⟩)
    · exact .inl (.inl rfl)
    · exact .inr h.chg.size
    · exact absurd hY hne
    · rw [e] at hx
      exact h.foot _ (.inr (.inr (.inr ⟨x, hx, rfl⟩)))
theorem SG.second {w W : World} {d : Nat} {D0 D : Dc} {l : List (List UInt8 × Value)} (h : SG w d D0 l W D) (hw : D.Wf) (hT : D.T ≠ []) (hY : D.Y = []) {m k : Nat} (h2 : m = 2 ^ k) (hm : m ≤ 1099511627776) :
    SG w d D0 l ((W.alloc (.cells (List.replicate m (Value.pointer none)).toArray 95)).setCell ⟨d, 2, none⟩ (.slice (some ⟨W.heap.size, 0, none⟩) m m)) (D.second W.heap.size m) := by
  have hp : 0 < m := by rw [h2]; exact Nat.two_pow_pos k
  obtain ⟨-, e⟩ := hw.second hT hY W.heap.size m
  have hdl := block_lt h.at_.head
  have hol : ∀ k, k < W.heap.size → k ≠ d → ((W.alloc (.cells (List.replicate m (Value.pointer none)).toArray 95)).setCell ⟨d, 2, none⟩ (.slice (some ⟨W.heap.size, 0, none⟩) m m)).heap[k]? = W.heap[k]? := fun k h1 h2 =>
    (heapSetOther (p := ⟨d, 2, none⟩) h2).trans (heap_alloc_old h1)
  have hnb : ((W.alloc (.cells (List.replicate m (Value.pointer none)).toArray 95)).setCell ⟨d, 2, none⟩ (.slice (some ⟨W.heap.size, 0, none⟩) m m)).heap[W.heap.size]? = some (.cells (List.replicate m (Value.pointer none)).toArray 95) :=
    (heapSetOther (p := ⟨d, 2, none⟩) (by show W.heap.size ≠ d; omega)).trans (heap_alloc_new W _)
  have hbl := block_lt (h.at_.old.cells hT)
  refine ⟨h.seed, ?_, ⟨?_, ?_, tabAt_rep hnb ⟨k, h2⟩ hm, ?_, chain_rep _ _, ?_⟩, ?_, ?_⟩
  · unfold Dc.kv; rw [e]; exact h.perm
  · rw [heapSetHere ((heap_alloc_old hdl).trans h.at_.head), e]
    show _ = some (Obj.cells #[.int .u64 D.seed, tabV D.bo D.T, tabV W.heap.size (List.replicate m []), .int .i64 D.pos, _] 101 (0, 0))
    rw [tabV_some (rep_ne hp), List.length_replicate]
    rfl
  · exact h.at_.old.keep fun _ => hol _ hbl (h.at_.ne_old hT)
  · exact fun c hc => (h.at_.chT c hc).keep fun x hx => by
      obtain ⟨q, hq⟩ := (h.at_.chT c hc).mem hx
      exact hol _ (block_lt hq) (h.at_.ne_ent hq)
  · intro _ _
    show D.bo ≠ W.heap.size
    omega
  · exact (h.chg.alloc _).setCell (p := ⟨d, 2, none⟩) (fun _ => .inl rfl) _
  · rintro k (rfl | ⟨hne, rfl⟩ | ⟨hne, rfl⟩ | ⟨x, hx, rfl⟩)
    · exact .inl (.inl rfl)
    · exact h.foot _ (.inr (.inl ⟨hT, rfl⟩))
    · exact .inr h.chg.size
    · rw [e] at hx
      exact h.foot _ (.inr (.inr (.inr ⟨x, hx, rfl⟩)))
/-- The table into which new entries go. -/
def Dc.tb (D : Dc) : Nat := if D.Y = [] then D.bo else D.bn
def Dc.tt (D : Dc) : List (List DE) := if D.Y = [] then D.T else D.Y
theorem SG.hung {w W W2 : World} {d : Nat} {D0 D : Dc} {l : List (List UInt8 × Value)} (h : SG w d D0 l W D) (hw : D.Wf) (hT : D.T ≠ []) {e : DE} {r : Ending} (hb : e.b = W.heap.size) (hk : ∀ x ∈ D.ents, x.key ≠ e.key) (ht : e.key.length ≤ 140737488351232) (hf : D.ents.length < 1099511627776)
    (hp : HangPost D.seed (Dc.tb D) (Dc.tt D) e (W.alloc (.cells #[.string ⟨e.key.toArray⟩, e.val, .pointer none] 97)) r W2) :
    DOp d D0 (e.kv :: l) w (W2.setCell ⟨d, 4, none⟩ (.int .i64 ((D.ents.length + 1 : Nat) : Int))) := by
  have hfresh : ∀ x ∈ D.ents, x.b ≠ e.b := fun x hx hh => by
    obtain ⟨q, hq⟩ := h.at_.ent hx
    have := block_lt hq
    omega
  have hdl := block_lt h.at_.head
  have hperm := hung_perm hT e
  have keepW2 : ∀ k o, W.heap[k]? = some o → k ≠ Dc.tb D → W2.heap[k]? = some o := fun k o hk h1 => by
    have h2 := block_lt hk
    refine hp.chg.heap ((heap_alloc_old h2).trans hk) ?_
    rintro (hh | hh)
    · exact h1 hh
    · omega
  have oth : ∀ k, k ≠ d → (W2.setCell ⟨d, 4, none⟩ (.int .i64 ((D.ents.length + 1 : Nat) : Int))).heap[k]? = W2.heap[k]? := fun k hk => heapSetOther (p := ⟨d, 4, none⟩) hk
  have htd : Dc.tb D ≠ d := by
    unfold Dc.tb
    split
    · exact h.at_.ne_old hT
    · rename_i hY; exact h.at_.ne_young hY
  have hhead := keepW2 d _ h.at_.head htd.symm
  have hent : ∀ {x : Nat} {c : Array Value}, W2.heap[x]? = some (.cells c 97) → x ≠ d := fun hx => types_ne hx hhead (by decide)
  have key2 : ∀ c ∈ hangT D.seed (Dc.tt D) e, ChainAt (W2.setCell ⟨d, 4, none⟩ (.int .i64 ((D.ents.length + 1 : Nat) : Int))) c := fun c hc => (hp.chains c hc).keep fun x hx => by
    obtain ⟨q, hq⟩ := (hp.chains c hc).mem hx
    exact oth _ (hent hq)
  have tab2 : TabAt (W2.setCell ⟨d, 4, none⟩ (.int .i64 ((D.ents.length + 1 : Nat) : Int))) (Dc.tb D) (hangT D.seed (Dc.tt D) e) := hp.tab.keep fun _ => oth _ htd
  have hdict : DictAt (W2.setCell ⟨d, 4, none⟩ (.int .i64 ((D.ents.length + 1 : Nat) : Int))) d (D.hung e) := by
    have hh2 := heapSetHere hhead (j := 4) (.int .i64 ((D.ents.length + 1 : Nat) : Int))
    have hlen := hperm.length_eq
    rw [List.length_cons] at hlen
    revert hh2 hlen
    by_cases hY : D.Y = []
    · rw [show Dc.tb D = D.bo from if_pos hY, show Dc.tt D = D.T from if_pos hY] at tab2
      rw [show Dc.tt D = D.T from if_pos hY] at key2
      have e1 : D.hung e = { D with T := hangT D.seed D.T e } := by unfold Dc.hung; rw [if_pos hY]
      rw [e1]
      intro hlen hh2
      refine ⟨?_, tab2, ⟨fun hn => absurd hY hn, fun hn => absurd hY hn, h.at_.young.few⟩, key2, ?_, fun _ hn => absurd hY hn⟩
      · rw [hh2, hlen]
        show _ = some (Obj.cells #[.int .u64 D.seed, tabV D.bo (hangT D.seed D.T e), tabV D.bn D.Y, .int .i64 D.pos, _] 101 (0, 0))
        rw [tabV_some (hangT_ne hT), hangT_length, ← tabV_some hT]
        rfl
      · intro c hc
        have hc' : c ∈ D.Y := hc
        rw [hY] at hc'; cases hc'
    · rw [show Dc.tb D = D.bn from if_neg hY, show Dc.tt D = D.Y from if_neg hY] at tab2
      rw [show Dc.tt D = D.Y from if_neg hY] at key2
      rw [show Dc.tb D = D.bn from if_neg hY] at keepW2
      have e1 : D.hung e = { D with Y := hangT D.seed D.Y e } := by unfold Dc.hung; rw [if_neg hY]
      rw [e1]
      intro hlen hh2
      refine ⟨?_, ?_, tab2, ?_, key2, fun _ _ => h.at_.ne hT hY⟩
      · rw [hh2, hlen]
        show _ = some (Obj.cells #[.int .u64 D.seed, tabV D.bo D.T, tabV D.bn (hangT D.seed D.Y e), .int .i64 D.pos, _] 101 (0, 0))
        rw [tabV_some (hangT_ne hY), hangT_length, ← tabV_some hY]
        rfl
      · exact h.at_.old.keep fun _ => (oth _ (h.at_.ne_old hT)).trans ((keepW2 _ _ (h.at_.old.cells hT) (h.at_.ne hT hY)).trans (h.at_.old.cells hT).symm)
      · exact fun c hc => (h.at_.chT c hc).keep fun x hx => by
          obtain ⟨q, hq⟩ := (h.at_.chT c hc).mem hx
          exact (oth _ (h.at_.ne_ent hq)).trans ((keepW2 _ _ hq (h.at_.young.ent_ne hY hq)).trans hq.symm)
  have htb : DFoot d D (Dc.tb D) := by
    unfold Dc.tb
    split
    · exact .inr (.inl ⟨hT, rfl⟩)
    · rename_i hY; exact .inr (.inr (.inl ⟨hY, rfl⟩))
  refine ⟨⟨D.hung e, hw.hung hT hk hfresh ht hf, by unfold Dc.hung; split <;> exact h.seed, hdict, ?_, ?_⟩, ?_⟩
  · exact (hperm.map DE.kv).trans (h.perm.cons _)
  · intro k hk
    have : DFoot d D k ∨ k = e.b := by
      have hmem : ∀ x ∈ (D.hung e).ents, DFoot d D x.b ∨ x.b = e.b := fun x hx => by
        rcases List.mem_cons.1 (hperm.mem_iff.1 hx) with rfl | hx
        · exact .inr rfl
        · exact .inl (.inr (.inr (.inr ⟨x, hx, rfl⟩)))
      rcases hk with rfl | ⟨hne, rfl⟩ | ⟨hne, rfl⟩ | ⟨x, hx, rfl⟩
      · exact .inl (.inl rfl)
      · refine .inl (.inr (.inl ⟨hT, ?_⟩)); unfold Dc.hung; split <;> rfl
      · by_cases hY : D.Y = []
        · exfalso; apply hne; unfold Dc.hung; rw [if_pos hY]; exact hY
        · refine .inl (.inr (.inr (.inl ⟨hY, ?_⟩))); unfold Dc.hung; split <;> rfl
      · exact hmem x hx
    rcases this with hh | rfl
    · exact h.foot k hh
    · exact .inr (by rw [hb]; exact h.chg.size)
  · have h1 : Chg (fun k => k = Dc.tb D ∨ k = e.b) W W2 := hp.chg.1 |> fun _ => (((Chg.refl _ W).alloc _).trans hp.chg fun _ _ h => h)
    refine (h.chg.trans h1 ?_).setCell (p := ⟨d, 4, none⟩) (fun _ => .inl rfl) _
    rintro j hj (rfl | rfl)
    · rcases h.foot _ htb with hh | hh
      · exact hh
      · omega
    · have := h.chg.size; omega
end Go.Proofs.Ytbjfigegiffefaa
