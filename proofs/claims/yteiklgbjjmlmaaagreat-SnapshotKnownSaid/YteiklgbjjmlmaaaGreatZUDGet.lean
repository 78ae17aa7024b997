
/- Where a key's entry hangs, in both tables; Get. -/
import Derived.Test.YteiklgbjjmlmaaaGreatZDGet
import Derived.Test.YteiklgbjjmlmaaaGreatZUDTab
import Derived.Laws.MakeOwn
import Derived.Deep.Cut
import Derived.Deep.RegionHeld
import Derived.Test.YteiklgbjjmlmaaaGreatZRkRange
import Derived.StillTailTactics
import Derived.IntWalk
set_option linter.unusedVariables false
set_option linter.unusedSimpArgs false
namespace Pantry
open Go Go.RowKit
/-- The cell behind some entries of a chain. -/
def lastAU (p : Addr) : List DE → Addr
  | [] => p
  | x :: pre => lastAU ⟨x.b, 1, none⟩ pre
theorem linkC_someU {p a : Addr} {c : List DE} {k : List UInt8} (h : linkCU p c k = some a) : ∃ pre e post, c = pre ++ e :: post ∧ e.key = k ∧ a = lastAU p pre := by
  induction c generalizing p with
  | nil => cases h
  | cons x c ih =>
    rw [linkCU] at h
    split at h
    · rename_i hk
      cases h
      exact ⟨[], x, c, rfl, hk, rfl⟩
    · obtain ⟨pre, e, post, h1, h2, h3⟩ := ih h
      exact ⟨x :: pre, e, post, by rw [h1]; rfl, h2, h3⟩
theorem linkC_noneU {p : Addr} {c : List DE} {k : List UInt8} (h : linkCU p c k = none) : ∀ e ∈ c, e.key ≠ k := by
  induction c generalizing p with
  | nil => intro e he; cases he
  | cons x c ih =>
    rw [linkCU] at h
    split at h
    · cases h
    · rename_i hk
      intro e he
      rcases List.mem_cons.1 he with rfl | he
      · exact hk
      · exact ih h e he
/-- A key's entry is found in this table. -/
structure FoundInU (seed b : Nat) (T : List (List DE)) (k : List UInt8) (a : Addr) (c pre : List DE) (e : DE) (post : List DE) : Prop where
  bucket : T[dslotN seed k T.length]? = some c
  parts : c = pre ++ e :: post
  key : e.key = k
  addr : a = lastAU ⟨b, dslotN seed k T.length, none⟩ pre
theorem linkT_someU {seed b : Nat} {T : List (List DE)} {k : List UInt8} {a : Addr} (h : linkTU seed b T k = some a) : ∃ c pre e post, FoundInU seed b T k a c pre e post := by
  unfold linkTU at h
  split at h
  · rename_i c hc
    obtain ⟨pre, e, post, h1, h2, h3⟩ := linkC_someU h
    exact ⟨c, pre, e, post, hc, h1, h2, h3⟩
  · cases h
theorem linkT_noneU {seed b : Nat} {T : List (List DE)} {k : List UInt8} (h : linkTU seed b T k = none) (hp : Placed seed T) : ∀ e ∈ T.flatten, e.key ≠ k := by
  intro e he hk
  obtain ⟨c, hc, hx⟩ := List.mem_flatten.1 he
  obtain ⟨i, hi, rfl⟩ := List.mem_iff_getElem.1 hc
  have hg : T[i]? = some T[i] := List.getElem?_eq_getElem hi
  have hs := hp i _ e hg hx
  rw [hk] at hs
  unfold linkTU at h
  rw [hs, hg] at h
  exact linkC_noneU h e hx hk
theorem FoundInU.mem {seed b : Nat} {T : List (List DE)} {k : List UInt8} {a : Addr} {c pre post : List DE} {e : DE} (h : FoundInU seed b T k a c pre e post) : e ∈ T.flatten :=
  List.mem_flatten.2 ⟨c, List.mem_of_getElem? h.bucket, by rw [h.parts]; simp⟩
end Pantry
namespace Go.Proofs.YteiklgbjjmlmaaaGreat.DUnit
open Go.RowKit Pantry

theorem ChainAt.cellAt {w : World} {p : Addr} {pre : List DE} {e : DE} {post : List DE} (h : ChainAt w (pre ++ e :: post)) (hp : w.cell? p = some (ptrOf (pre ++ e :: post))) : w.cell? (lastAU p pre) = some (.pointer (some ⟨e.b, 0, none⟩)) := by
  induction pre generalizing p with
  | nil => exact hp
  | cons x pre ih =>
    obtain ⟨⟨-, c2⟩, -⟩ := two h.1
    exact ih h.2 c2
theorem found_cell {w : World} {seed b : Nat} {T : List (List DE)} {k : List UInt8} {a : Addr} {c pre post : List DE} {e : DE} (h : FoundInU seed b T k a c pre e post) (hT : TabAt w b T) (hc : ∀ c ∈ T, ChainAt w c) : w.cell? a = some (.pointer (some ⟨e.b, 0, none⟩)) := by
  have h1 := hT.cell h.bucket
  have h2 := hc c (List.mem_of_getElem? h.bucket)
  rw [h.addr]
  rw [h.parts] at h1 h2
  exact h2.cellAt h1
theorem link_or (w : World) (d b seed : Nat) (T : List (List DE)) (key : List UInt8) (hd : w.cell? ⟨d, 0, none⟩ = some (.int .u64 seed)) (hseed : seed < 18446744073709551616) (hT : TabAt w b T) (hc : ∀ c ∈ T, ChainAt w c) (hs : key.length ≤ 140737488351232) :
    Calls Tryz.prog 132 #[.pointer (some ⟨d, 0, none⟩), tabV b T, .string ⟨key.toArray⟩] w fun e w' => e = .returned (.pointer (linkTU seed b T key)) ∧ w = w' := by
  by_cases hne : T = []
  · subst hne
    exact link_nil w _ key
  · exact link_some w d b seed T key hd hseed hT hne hc hs
theorem find_any (w : World) (d : Nat) (D : Dc) (key : List UInt8) (h : DictAt w d D) (hw : D.Wf) (hs : key.length ≤ 140737488351232) :
    Calls Tryz.prog 115 #[.pointer (some ⟨d, 0, none⟩), .string ⟨key.toArray⟩] w fun e w' => e = .returned (.pointer (findTU D.seed D.bo D.T D.bn D.Y key)) ∧ w = w' := by
  obtain ⟨⟨d0, d1, d2, d3, d4⟩, df⟩ := five h.head
  have H1 := Lib.hid (link_or w d D.bo D.seed D.T key d0 hw.seed h.old h.chT hs)
  have H2 := Lib.hid (link_or w d D.bn D.seed D.Y key d0 hw.seed h.young h.chY hs)
  unfold findTU
  obtain ⟨v1, hv1⟩ : ∃ v, tabV D.bo D.T = v := ⟨_, rfl⟩
  obtain ⟨v2, hv2⟩ : ∃ v, tabV D.bn D.Y = v := ⟨_, rfl⟩
  rw [hv1] at d1 H1
  rw [hv2] at d2 H2
  obtain ⟨r1, hr1⟩ : ∃ v, linkTU D.seed D.bo D.T key = v := ⟨_, rfl⟩
  obtain ⟨r2, hr2⟩ : ∃ v, linkTU D.seed D.bn D.Y key = v := ⟨_, rfl⟩
  rw [hr1] at H1 ⊢
  rw [hr2] at H2 ⊢
  clear h hw d0 d3 d4 df hv1 hv2 hr1 hr2
  cases r1 with
  | some a =>
    go_enter Tryz.func115, Tryz.ntmps115
    go_wp2_with (go_at_call 132; refine H1.out.mono ?_; rintro e w1 ⟨rfl, rfl⟩)
    go_ret
    exact ⟨rfl, rfl⟩
  | none =>
    go_enter Tryz.func115, Tryz.ntmps115
    go_wp2_with (go_at_call 132; first
      | (refine H1.out.mono ?_; clear H1; rintro e w1 ⟨rfl, rfl⟩)
      | (refine H2.out.mono ?_; rintro e w1 ⟨rfl, rfl⟩))
    go_ret
    exact ⟨rfl, rfl⟩
/-- What find finds. -/
theorem find_found {w : World} {d : Nat} {D : Dc} {key : List UInt8} (h : DictAt w d D) {a : Addr} (hf : findTU D.seed D.bo D.T D.bn D.Y key = some a) :
    ∃ e ∈ D.ents, e.key = key ∧ w.cell? a = some (.pointer (some ⟨e.b, 0, none⟩)) ∧ ((∃ c pre post, FoundInU D.seed D.bo D.T key a c pre e post) ∨ ∃ c pre post, FoundInU D.seed D.bn D.Y key a c pre e post) := by
  unfold findTU at hf
  split at hf
  · rename_i p hp
    cases hf
    obtain ⟨c, pre, e, post, hh⟩ := linkT_someU hp
    exact ⟨e, List.mem_append.2 (.inl hh.mem), hh.key, found_cell hh h.old h.chT, .inl ⟨c, pre, post, hh⟩⟩
  · obtain ⟨c, pre, e, post, hh⟩ := linkT_someU hf
    exact ⟨e, List.mem_append.2 (.inr hh.mem), hh.key, found_cell hh h.young h.chY, .inr ⟨c, pre, post, hh⟩⟩
theorem find_missed {D : Dc} {key : List UInt8} (hw : D.Wf) (hf : findTU D.seed D.bo D.T D.bn D.Y key = none) : ∀ e ∈ D.ents, e.key ≠ key := by
  unfold findTU at hf
  split at hf
  · cases hf
  · rename_i hn
    intro e he
    rcases List.mem_append.1 he with he | he
    · exact linkT_noneU hn hw.placeT e he
    · exact linkT_noneU hf hw.placeY e he
theorem part_unit (w : World) (b : Nat) (c0 c2 : Value) (h : w.heap[b]? = some (.cells #[c0, c2] 205)) : Sem.run Tryz.prog (partAt ⟨b, 0, none⟩ 1 16) w = .ok ⟨b, 1, none⟩ w := by
  have h1 : Tryz.prog.cellsOf 205 = 2 := by kernel_rfl
  have h2 : byteOfCell Tryz.prog Tryz.prog.depth 205 0 = some 0 := by kernel_rfl
  have h3 : byteOfCell Tryz.prog Tryz.prog.depth 205 1 = some 16 := by kernel_rfl
  unfold partAt byteOf
  simp [go_sem, noView, viewAt, run_shape, World.shape?, h, h1, h2, h3]
theorem SI.before {w w1 W : World} {d : Nat} {D0 D : Dc} (h : SI w1 d D0 W D) (hc : Chg (fun _ => False) w w1) : SI w d D0 W D := ⟨h.seed, h.perm, h.at_, (hc.mono fun _ _ e => e.elim).trans h.chg fun _ _ e => e, h.foot⟩
/-- What Get tells. -/
def GetPost (d : Nat) (D0 : Dc) (key : List UInt8) (w : World) (r : Ending) (w' : World) : Prop :=
  ((∃ e ∈ D0.ents, e.key = key ∧ r = .returned (.tuple #[.agg #[], .bool true])) ∨ ((∀ e ∈ D0.ents, e.key ≠ key) ∧ r = .returned (.tuple #[.agg #[], .bool false]))) ∧ ∃ D, D.Wf ∧ SI w d D0 w' D
set_option maxHeartbeats 2000000 in
theorem get_any (w : World) (d : Nat) (D0 : Dc) (key : List UInt8) (h : DictAt w d D0) (hw : D0.Wf) (hs : key.length ≤ 140737488351232) :
    Calls Tryz.prog 112 #[.pointer (some ⟨d, 0, none⟩), .string ⟨key.toArray⟩] w (GetPost d D0 key w) := by
  obtain ⟨W0, hW0⟩ : ∃ W0, (w.alloc (.cells #[] 157)).alloc (.cells #[] 157) = W0 := ⟨_, rfl⟩
  have hc0 : Chg (fun _ => False) w W0 := by rw [← hW0]; exact ((Chg.refl _ _).alloc _).alloc _
  have HS := Lib.hid (step_any W0 d D0 (h.chg hc0 fun _ _ e => e) hw)
  have HC0 := Lib.hid hc0
  clear h hw hc0
  go_enter Tryz.func112, Tryz.ntmps112
  go_wp2_with (go_at_call 114; refine HS.out.mono ?_; rintro r w1 ⟨rfl, D, hD, hI⟩
               replace hI := hI.before HC0.out
               have HD := Lib.hid hD
               have HI := Lib.hid hI
               clear hD hI HS)
  have HF := Lib.hid (find_any w1 d D key HI.out.at_ HD.out hs)
  obtain ⟨f, hf⟩ : ∃ v, findTU D.seed D.bo D.T D.bn D.Y key = v := ⟨_, rfl⟩
  rw [hf] at HF
  cases f with
  | none =>
    have HP := Lib.hid (show GetPost d D0 key w (.returned (.tuple #[.agg #[], .bool false])) w1 from ⟨.inr ⟨fun e he => find_missed HD.out hf e (HI.out.perm.mem_iff.2 he), rfl⟩, D, HD.out, HI.out⟩)
    clear hf
    go_wp2_with (go_at_call 115; refine HF.out.mono ?_; rintro r w2 ⟨rfl, rfl⟩)
    refine bodyPost_ret (by simp [results, Tryz.f112, go_sem]; rfl) rfl ?_
    exact HP.out
  | some a =>
    obtain ⟨e, he, hk, hc, -⟩ := find_found HI.out.at_ hf
    obtain ⟨q, hq⟩ := HI.out.at_.ent he
    obtain ⟨⟨c0, c2⟩, -⟩ := two hq
    have HP := Lib.hid (show GetPost d D0 key w (.returned (.tuple #[.agg #[], .bool true])) w1 from ⟨.inl ⟨e, HI.out.perm.mem_iff.1 he, hk, rfl⟩, D, HD.out, HI.out⟩)
    have hpu := part_unit w1 e.b _ _ hq
    clear hf he hk hq c0 c2
    go_wp2_with (go_at_call 115; refine HF.out.mono ?_; rintro r w2 ⟨rfl, rfl⟩)
    refine bodyPost_ret (by simp [results, Tryz.f112, go_sem]; rfl) rfl ?_
    exact HP.out
end Go.Proofs.YteiklgbjjmlmaaaGreat.DUnit


/- Plain laws of a dict in memory: a value is set; a table is made; an entry is hung; one is taken out. -/
set_option linter.unusedVariables false
set_option linter.unusedSimpArgs false
namespace Go.Proofs.YteiklgbjjmlmaaaGreat.DUnit
open Go.RowKit Pantry

/-- A call that changes a dict: what it holds then. -/
structure DOp (d : Nat) (D0 : Dc) (l : List (List UInt8 × Value)) (w w' : World) : Prop where
  ex : ∃ D : Dc, D.Wf ∧ D.seed = D0.seed ∧ DictAt w' d D ∧ D.kv.Perm l ∧ ∀ k, DFoot d D k → DFoot d D0 k ∨ w.heap.size ≤ k
  chg : Chg (DFoot d D0) w w'
end Go.Proofs.YteiklgbjjmlmaaaGreat.DUnit


/- A table is made; an entry is hung: in memory. -/
set_option linter.unusedVariables false
set_option linter.unusedSimpArgs false
namespace Go.Proofs.YteiklgbjjmlmaaaGreat.DUnit
open Go.RowKit Pantry

/-- Between two statements of Set and Delete. -/
structure SG (w : World) (d : Nat) (D0 : Dc) (l : List (List UInt8 × Value)) (W : World) (D : Dc) : Prop where
  seed : D.seed = D0.seed
  perm : D.kv.Perm l
  at_ : DictAt W d D
  chg : Chg (DFoot d D0) w W
  foot : ∀ k, DFoot d D k → DFoot d D0 k ∨ w.heap.size ≤ k
theorem SI.sg {w W : World} {d : Nat} {D0 D : Dc} (h : SI w d D0 W D) : SG w d D0 D0.kv W D := ⟨h.seed, h.perm.map DE.kv, h.at_, h.chg, fun k hk => .inl (h.foot k hk)⟩
theorem SG.drewN {w W : World} {d : Nat} {D0 D : Dc} {l : List (List UInt8 × Value)} (h : SG w d D0 l W D) (q : Nat) : SG w d D0 l (W.drewN q) D := ⟨h.seed, h.perm, h.at_.keep fun _ _ => rfl, h.chg.drewN, h.foot⟩
theorem rep_cells (m : Nat) : (List.map ptrOf (List.replicate m ([] : List DE))).toArray = (List.replicate m (Value.pointer none)).toArray := by simp [ptrOf, ptrA]
theorem rep_ne {m : Nat} (h : 0 < m) : List.replicate m ([] : List DE) ≠ [] := by simp; omega
theorem tabAt_rep {w : World} {b m : Nat} (hb : w.heap[b]? = some (.cells (List.replicate m (Value.pointer none)).toArray 203)) (h2 : ∃ k, m = 2 ^ k) (hm : m ≤ 1099511627776) : TabAt w b (List.replicate m []) :=
  ⟨fun _ => by rw [rep_cells]; exact hb, fun _ => by rw [List.length_replicate]; exact h2, by rw [List.length_replicate]; exact hm⟩
theorem chain_rep (w : World) (m : Nat) : ∀ c ∈ List.replicate m ([] : List DE), ChainAt w c := fun c hc => by rw [(List.mem_replicate.1 hc).2]; trivial
theorem heap_alloc_old {w : World} {o : Obj} {k : Nat} (h : k < w.heap.size) : (w.alloc o).heap[k]? = w.heap[k]? := Below.heap_alloc _ _ _ h
theorem SG.first {w W : World} {d : Nat} {D0 D : Dc} {l : List (List UInt8 × Value)} (h : SG w d D0 l W D) (hw : D.Wf) (hT : D.T = []) {m k : Nat} (h2 : m = 2 ^ k) (hm : m ≤ 1099511627776) :
    SG w d D0 l ((W.alloc (.cells (List.replicate m (Value.pointer none)).toArray 203)).setCell ⟨d, 1, none⟩ (.slice (some ⟨W.heap.size, 0, none⟩) m m)) (D.first W.heap.size m) := by
  have hp : 0 < m := by rw [h2]; exact Nat.two_pow_pos k
  obtain ⟨-, e, hY⟩ := hw.first hT W.heap.size m
  have hY0 : D.Y = [] := hY
  have hdl := block_lt h.at_.head
  have hnb : ((W.alloc (.cells (List.replicate m (Value.pointer none)).toArray 203)).setCell ⟨d, 1, none⟩ (.slice (some ⟨W.heap.size, 0, none⟩) m m)).heap[W.heap.size]? = some (.cells (List.replicate m (Value.pointer none)).toArray 203) :=
    (heapSetOther (p := ⟨d, 1, none⟩) (by show W.heap.size ≠ d; omega)).trans (heap_alloc_new W _)
  refine ⟨h.seed, ?_, ⟨?_, tabAt_rep hnb ⟨k, h2⟩ hm, ?_, chain_rep _ _, ?_, fun _ hh => absurd hY hh⟩, ?_, ?_⟩
  · unfold Dc.kv; rw [e]; exact h.perm
  · rw [heapSetHere ((heap_alloc_old hdl).trans h.at_.head), e]
    show _ = some (Obj.cells #[.int .u64 D.seed, tabV W.heap.size (List.replicate m []), tabV D.bn D.Y, .int .i64 D.pos, _] 198 (0, 0))
    rw [tabV_some (rep_ne hp), List.length_replicate]
    rfl
  · exact ⟨fun hh => absurd hY hh, fun hh => absurd hY hh, by show D.Y.length ≤ _; rw [hY0]; exact Nat.zero_le _⟩
  · intro c hc
    have : c ∈ D.Y := hc
    rw [hY0] at this; cases this
  · exact (h.chg.alloc _).setCell (p := ⟨d, 1, none⟩) (fun _ => .inl rfl) _
  · rintro k (rfl | ⟨hne, rfl⟩ | ⟨hne, rfl⟩ | ⟨x, hx, rfl⟩)
    · exact .inl (.inl rfl)
    · exact .inr h.chg.size
    · exact absurd hY hne
    · rw [e] at hx
      exact h.foot _ (.inr (.inr (.inr ⟨x, hx, rfl⟩)))
theorem SG.second {w W : World} {d : Nat} {D0 D : Dc} {l : List (List UInt8 × Value)} (h : SG w d D0 l W D) (hw : D.Wf) (hT : D.T ≠ []) (hY : D.Y = []) {m k : Nat} (h2 : m = 2 ^ k) (hm : m ≤ 1099511627776) :
    SG w d D0 l ((W.alloc (.cells (List.replicate m (Value.pointer none)).toArray 203)).setCell ⟨d, 2, none⟩ (.slice (some ⟨W.heap.size, 0, none⟩) m m)) (D.second W.heap.size m) := by
  have hp : 0 < m := by rw [h2]; exact Nat.two_pow_pos k
  obtain ⟨-, e⟩ := hw.second hT hY W.heap.size m
  have hdl := block_lt h.at_.head
  have hol : ∀ k, k < W.heap.size → k ≠ d → ((W.alloc (.cells (List.replicate m (Value.pointer none)).toArray 203)).setCell ⟨d, 2, none⟩ (.slice (some ⟨W.heap.size, 0, none⟩) m m)).heap[k]? = W.heap[k]? := fun k h1 h2 =>
    (heapSetOther (p := ⟨d, 2, none⟩) h2).trans (heap_alloc_old h1)
  have hnb : ((W.alloc (.cells (List.replicate m (Value.pointer none)).toArray 203)).setCell ⟨d, 2, none⟩ (.slice (some ⟨W.heap.size, 0, none⟩) m m)).heap[W.heap.size]? = some (.cells (List.replicate m (Value.pointer none)).toArray 203) :=
    (heapSetOther (p := ⟨d, 2, none⟩) (by show W.heap.size ≠ d; omega)).trans (heap_alloc_new W _)
  have hbl := block_lt (h.at_.old.cells hT)
  refine ⟨h.seed, ?_, ⟨?_, ?_, tabAt_rep hnb ⟨k, h2⟩ hm, ?_, chain_rep _ _, ?_⟩, ?_, ?_⟩
  · unfold Dc.kv; rw [e]; exact h.perm
  · rw [heapSetHere ((heap_alloc_old hdl).trans h.at_.head), e]
    show _ = some (Obj.cells #[.int .u64 D.seed, tabV D.bo D.T, tabV W.heap.size (List.replicate m []), .int .i64 D.pos, _] 198 (0, 0))
    rw [tabV_some (rep_ne hp), List.length_replicate]
    rfl
  · exact h.at_.old.keep fun _ => hol _ hbl (h.at_.ne_old hT)
  · exact fun c hc => (h.at_.chT c hc).keep fun x hx => by
      obtain ⟨q, hq⟩ := (h.at_.chT c hc).mem hx
      exact hol _ (block_lt hq) (h.at_.ne_ent hq)
  · intro _ _
    show D.bo ≠ W.heap.size
    omega
  · exact (h.chg.alloc _).setCell (p := ⟨d, 2, none⟩) (fun _ => .inl rfl) _
  · rintro k (rfl | ⟨hne, rfl⟩ | ⟨hne, rfl⟩ | ⟨x, hx, rfl⟩)
    · exact .inl (.inl rfl)
    · exact h.foot _ (.inr (.inl ⟨hT, rfl⟩))
    · exact .inr h.chg.size
    · rw [e] at hx
      exact h.foot _ (.inr (.inr (.inr ⟨x, hx, rfl⟩)))
/-- The table into which new entries go. -/
def Dc.tb (D : Dc) : Nat := if D.Y = [] then D.bo else D.bn
def Dc.tt (D : Dc) : List (List DE) := if D.Y = [] then D.T else D.Y
theorem SG.hung {w W W2 : World} {d : Nat} {D0 D : Dc} {l : List (List UInt8 × Value)} (h : SG w d D0 l W D) (hw : D.Wf) (hT : D.T ≠ []) {e : DE} {r : Ending} (hb : e.b = W.heap.size) (hk : ∀ x ∈ D.ents, x.key ≠ e.key) (ht : e.key.length ≤ 140737488351232) (hf : D.ents.length < 1099511627776)
    (hp : HangPost D.seed (Dc.tb D) (Dc.tt D) e (W.alloc (.cells #[.string ⟨e.key.toArray⟩, .pointer none] 205)) r W2) :
    DOp d D0 (e.kv :: l) w (W2.setCell ⟨d, 4, none⟩ (.int .i64 ((D.ents.length + 1 : Nat) : Int))) := by
  have hfresh : ∀ x ∈ D.ents, x.b ≠ e.b := fun x hx hh => by
    obtain ⟨q, hq⟩ := h.at_.ent hx
    have := block_lt hq
    omega
  have hdl := block_lt h.at_.head
  have hperm := hung_perm hT e
  have keepW2 : ∀ k o, W.heap[k]? = some o → k ≠ Dc.tb D → W2.heap[k]? = some o := fun k o hk h1 => by
    have h2 := block_lt hk
    refine hp.chg.heap ((heap_alloc_old h2).trans hk) ?_
    rintro (hh | hh)
    · exact h1 hh
    · omega
  have oth : ∀ k, k ≠ d → (W2.setCell ⟨d, 4, none⟩ (.int .i64 ((D.ents.length + 1 : Nat) : Int))).heap[k]? = W2.heap[k]? := fun k hk => heapSetOther (p := ⟨d, 4, none⟩) hk
  have htd : Dc.tb D ≠ d := by
    unfold Dc.tb
    split
    · exact h.at_.ne_old hT
    · rename_i hY; exact h.at_.ne_young hY
  have hhead := keepW2 d _ h.at_.head htd.symm
  have hent : ∀ {x : Nat} {c : Array Value}, W2.heap[x]? = some (.cells c 205) → x ≠ d := fun hx => types_ne hx hhead (by decide)
  have key2 : ∀ c ∈ hangT D.seed (Dc.tt D) e, ChainAt (W2.setCell ⟨d, 4, none⟩ (.int .i64 ((D.ents.length + 1 : Nat) : Int))) c := fun c hc => (hp.chains c hc).keep fun x hx => by
    obtain ⟨q, hq⟩ := (hp.chains c hc).mem hx
    exact oth _ (hent hq)
  have tab2 : TabAt (W2.setCell ⟨d, 4, none⟩ (.int .i64 ((D.ents.length + 1 : Nat) : Int))) (Dc.tb D) (hangT D.seed (Dc.tt D) e) := hp.tab.keep fun _ => oth _ htd
  have hdict : DictAt (W2.setCell ⟨d, 4, none⟩ (.int .i64 ((D.ents.length + 1 : Nat) : Int))) d (D.hung e) := by
    have hh2 := heapSetHere hhead (j := 4) (.int .i64 ((D.ents.length + 1 : Nat) : Int))
    have hlen := hperm.length_eq
    rw [List.length_cons] at hlen
    revert hh2 hlen
    by_cases hY : D.Y = []
    · rw [show Dc.tb D = D.bo from if_pos hY, show Dc.tt D = D.T from if_pos hY] at tab2
      rw [show Dc.tt D = D.T from if_pos hY] at key2
      have e1 : D.hung e = { D with T := hangT D.seed D.T e } := by unfold Dc.hung; rw [if_pos hY]
      rw [e1]
      intro hlen hh2
      refine ⟨?_, tab2, ⟨fun hn => absurd hY hn, fun hn => absurd hY hn, h.at_.young.few⟩, key2, ?_, fun _ hn => absurd hY hn⟩
      · rw [hh2, hlen]
        show _ = some (Obj.cells #[.int .u64 D.seed, tabV D.bo (hangT D.seed D.T e), tabV D.bn D.Y, .int .i64 D.pos, _] 198 (0, 0))
        rw [tabV_some (hangT_ne hT), hangT_length, ← tabV_some hT]
        rfl
      · intro c hc
        have hc' : c ∈ D.Y := hc
        rw [hY] at hc'; cases hc'
    · rw [show Dc.tb D = D.bn from if_neg hY, show Dc.tt D = D.Y from if_neg hY] at tab2
      rw [show Dc.tt D = D.Y from if_neg hY] at key2
      rw [show Dc.tb D = D.bn from if_neg hY] at keepW2
      have e1 : D.hung e = { D with Y := hangT D.seed D.Y e } := by unfold Dc.hung; rw [if_neg hY]
      rw [e1]
      intro hlen hh2
      refine ⟨?_, ?_, tab2, ?_, key2, fun _ _ => h.at_.ne hT hY⟩
      · rw [hh2, hlen]
        show _ = some (Obj.cells #[.int .u64 D.seed, tabV D.bo D.T, tabV D.bn (hangT D.seed D.Y e), .int .i64 D.pos, _] 198 (0, 0))
        rw [tabV_some (hangT_ne hY), hangT_length, ← tabV_some hY]
        rfl
      · exact h.at_.old.keep fun _ => (oth _ (h.at_.ne_old hT)).trans ((keepW2 _ _ (h.at_.old.cells hT) (h.at_.ne hT hY)).trans (h.at_.old.cells hT).symm)
      · exact fun c hc => (h.at_.chT c hc).keep fun x hx => by
          obtain ⟨q, hq⟩ := (h.at_.chT c hc).mem hx
          exact (oth _ (h.at_.ne_ent hq)).trans ((keepW2 _ _ hq (h.at_.young.ent_ne hY hq)).trans hq.symm)
  have htb : DFoot d D (Dc.tb D) := by
    unfold Dc.tb
    split
    · exact .inr (.inl ⟨hT, rfl⟩)
    · rename_i hY; exact .inr (.inr (.inl ⟨hY, rfl⟩))
  refine ⟨⟨D.hung e, hw.hung hT hk hfresh ht hf, by unfold Dc.hung; split <;> exact h.seed, hdict, ?_, ?_⟩, ?_⟩
  · exact (hperm.map DE.kv).trans (h.perm.cons _)
  · intro k hk
    have : DFoot d D k ∨ k = e.b := by
      have hmem : ∀ x ∈ (D.hung e).ents, DFoot d D x.b ∨ x.b = e.b := fun x hx => by
        rcases List.mem_cons.1 (hperm.mem_iff.1 hx) with rfl | hx
        · exact .inr rfl
        · exact .inl (.inr (.inr (.inr ⟨x, hx, rfl⟩)))
      rcases hk with rfl | ⟨hne, rfl⟩ | ⟨hne, rfl⟩ | ⟨x, hx, rfl⟩
      · exact .inl (.inl rfl)
      · refine .inl (.inr (.inl ⟨hT, ?_⟩)); unfold Dc.hung; split <;> rfl
      · by_cases hY : D.Y = []
        · exfalso; apply hne; unfold Dc.hung; rw [if_pos hY]; exact hY
        · refine .inl (.inr (.inr (.inl ⟨hY, ?_⟩))); unfold Dc.hung; split <;> rfl
      · exact hmem x hx
    rcases this with hh | rfl
    · exact h.foot k hh
    · exact .inr (by rw [hb]; exact h.chg.size)
  · have h1 : Chg (fun k => k = Dc.tb D ∨ k = e.b) W W2 := hp.chg.1 |> fun _ => (((Chg.refl _ W).alloc _).trans hp.chg fun _ _ h => h)
    refine (h.chg.trans h1 ?_).setCell (p := ⟨d, 4, none⟩) (fun _ => .inl rfl) _
    rintro j hj (rfl | rfl)
    · rcases h.foot _ htb with hh | hh
      · exact hh
      · omega
    · have := h.chg.size; omega
end Go.Proofs.YteiklgbjjmlmaaaGreat.DUnit


/- Set. -/
set_option linter.unusedVariables false
set_option linter.unusedSimpArgs false

namespace Go.Proofs.YteiklgbjjmlmaaaGreat.DUnit
open Go.RowKit Pantry

theorem tabInfo : (Tryz.prog.info? 203).map (fun i => (i.zero, i.size, i.bytes)) = some (some (.pointer none), 1, 8) := by kernel_rfl
theorem run_make_tab (w : World) (n : Nat) (hn : n ≤ 1099511627776) :
    (Instr.makeSlice 196 (.int .i64 n) (.int .i64 n)).run Tryz.prog w = .ok (.slice (some ⟨w.heap.size, 0, none⟩) n n) (w.alloc (.cells (List.replicate n (Value.pointer none)).toArray 203)) := by
  have hi := tabInfo
  cases hq : Tryz.prog.info? 203 with
  | none => rw [hq] at hi; cases hi
  | some i =>
    rw [hq] at hi
    simp only [Option.map_some, Option.some.injEq, Prod.mk.injEq] at hi
    obtain ⟨h1, h2, h3⟩ := hi
    have hr := run_make (P := Tryz.prog) w 196 203 i (.pointer none) Tryz.underlying196 hq h1 .i64 .i64 n n (by omega) (Int.le_refl _) (by rw [h3]; omega) (by omega)
    rw [h2, Int.toNat_natCast, Nat.mul_one] at hr
    rw [hr, show (Value.pointer none).cells = #[Value.pointer none] from rfl, madeCells_one]

set_option maxHeartbeats 4000000 in
set_option maxRecDepth 100000 in
theorem set_tail (w W : World) (d : Nat) (D0 D : Dc) (key : List UInt8) (h : SG w d D0 D0.kv W D) (hw : D.Wf) (hT : D.T ≠ []) (hk : ∀ e ∈ D.ents, e.key ≠ key) (ht : key.length ≤ 140737488351232) (hf : D.ents.length < 1099511627776)
    (R : Ending → World → Prop) (hR : ∀ w', DOp d D0 ((key, .agg #[]) :: D0.kv) w w' → R (.returned (.bool true)) w') (bx : Nat) (u3 u4 u6 u7 u8 u9 u10 u11 u12 u13 u14 u15 u16 u17 u18 u19 u20 u21 u22 u23 u24 u25 u26 u27 u28 u29 u30 u31 u32 u33 u34 u35 u36 u37 u38 u39 u40 u41 u42 u43 u44 u45 u46 u47 u48 u49 u50 u51 u52 u53 u54 u55 u56 u57 u58 u59 u60 u61 u62 u63 u64 u65 u66 u67 u68 u69 u70 u71 u72 u73 u74 u75 u76 u77 u78 u79 u80 u81 u82 u83 u84 : Value) :
    ∀ c, cfst (cskip 5 (cbody Tryz.f91)) = c → ∀ cr, csnd (cskip 5 (cbody Tryz.f91)) = cr → ∀ K : Act → World → Prop, (∀ a v, Code.wp Tryz.prog cr (bodyPost Tryz.prog Tryz.f91 R) a v → K a v) →
      Code.wp Tryz.prog c (Exit.then K (bodyPost Tryz.prog Tryz.f91 R)) { tmps := #[.pointer (some ⟨d, 0, none⟩), .string ⟨key.toArray⟩, .agg #[], u3, u4, .pointer (some ⟨bx, 0, none⟩), u6, u7, u8, u9, u10, u11, u12, u13, u14, u15, u16, u17, u18, u19, u20, u21, u22, u23, u24, u25, u26, u27, u28, u29, u30, u31, u32, u33, u34, u35, u36, u37, u38, u39, u40, u41, u42, u43, u44, u45, u46, u47, u48, u49, u50, u51, u52, u53, u54, u55, u56, u57, u58, u59, u60, u61, u62, u63, u64, u65, u66, u67, u68, u69, u70, u71, u72, u73, u74, u75, u76, u77, u78, u79, u80, u81, u82, u83, u84], defers := [] } W := by
  obtain ⟨⟨d0, d1, d2, d3, d4⟩, df⟩ := five h.at_.head
  have HH := Lib.hid h
  have HW := Lib.hid hw
  have HT := Lib.hid hT
  obtain ⟨W1, hW1⟩ : ∃ W1, W.alloc (.cells #[.string ⟨key.toArray⟩, .pointer none] 205) = W1 := ⟨_, rfl⟩
  have halloc : ∀ k, k < W.heap.size → W1.heap[k]? = W.heap[k]? := fun k hk => by rw [← hW1]; exact heap_alloc_old hk
  have hA1 : DictAt W1 d D := h.at_.keep fun k hk => halloc k (h.at_.lt k hk)
  have hE : W1.heap[W.heap.size]? = some (.cells #[.string ⟨key.toArray⟩, .pointer none] 205) := by rw [← hW1]; exact heap_alloc_new W _
  have hnot : ∀ e ∈ D.ents, e.b ≠ W.heap.size := fun e he hh => by
    obtain ⟨q, hq⟩ := h.at_.ent he
    have := block_lt hq
    omega
  have htab : TabAt W1 (Dc.tb D) (Dc.tt D) ∧ Dc.tt D ≠ [] ∧ (∀ c ∈ Dc.tt D, ChainAt W1 c) ∧ (∀ c ∈ Dc.tt D, ∀ e ∈ c, e ∈ D.ents) ∧ Dc.tb D ≠ d := by
    by_cases hY : D.Y = []
    · rw [show Dc.tb D = D.bo from if_pos hY, show Dc.tt D = D.T from if_pos hY]
      exact ⟨hA1.old, hT, hA1.chT, fun c hc e he => List.mem_append.2 (.inl (List.mem_flatten.2 ⟨c, hc, he⟩)), h.at_.ne_old hT⟩
    · rw [show Dc.tb D = D.bn from if_neg hY, show Dc.tt D = D.Y from if_neg hY]
      exact ⟨hA1.young, hY, hA1.chY, fun c hc e he => List.mem_append.2 (.inr (List.mem_flatten.2 ⟨c, hc, he⟩)), h.at_.ne_young hY⟩
  obtain ⟨t1, t2, t3, t4, t5⟩ := htab
  have HG := hang_any W1 d (Dc.tb D) D.seed (Dc.tt D) ⟨W.heap.size, key, .agg #[]⟩ (.pointer none) (five hA1.head).1.1 hw.seed t1 t2 t3 hE (fun c hc e he => hnot e (t4 c hc e he)) ht
  rw [tabV_some t2] at HG
  have HG := Lib.hid HG
  have HHD := Lib.hid h.at_.head
  have HT5 := Lib.hid t5
  have HFIN : Hid (∀ r W2, HangPost D.seed (Dc.tb D) (Dc.tt D) ⟨W.heap.size, key, .agg #[]⟩ W1 r W2 → DOp d D0 ((key, .agg #[]) :: D0.kv) w (W2.setCell ⟨d, 4, none⟩ (.int .i64 ((D.ents.length : Int) + 1)))) := Lib.hid (by
    intro r W2 hp
    rw [← hW1] at hp
    exact h.hung hw hT rfl hk ht hf hp)
  have HN : Hid (∀ r W2, HangPost D.seed (Dc.tb D) (Dc.tt D) ⟨W.heap.size, key, .agg #[]⟩ W1 r W2 → W2.cell? ⟨d, 4, none⟩ = some (.int .i64 (D.ents.length : Nat)) ∧ W2.frozen? ⟨d, 4, none⟩ = false) := Lib.hid (by
    intro r W2 hp
    have hdl := block_lt h.at_.head
    have hh := hp.chg.heap ((halloc d hdl).trans h.at_.head) (by
      rintro (hh | hh)
      · exact t5 hh.symm
      · have : d = W.heap.size := hh
        omega)
    obtain ⟨⟨-, -, -, -, q⟩, qf⟩ := five hh
    exact ⟨q, qf 4⟩)
  obtain ⟨n, hn⟩ : ∃ n, D.ents.length = n := ⟨_, rfl⟩
  rw [hn] at HFIN HN hf
  clear t1 t2 t3 t4 t5 hA1 hE hnot halloc hk hn d0 d3 d4 df hw h
  intro c hc cr hcr K hK
  conv at hc => lhs; whnf
  conv at hcr => lhs; whnf
  subst hc hcr
  dsimp only
  by_cases hY : D.Y = []
  · rw [show Dc.tb D = D.bo from if_pos hY, show Dc.tt D = D.T from if_pos hY] at HG HN HFIN
    rw [tabV_some hT] at d1
    rw [hY, tabV_nil] at d2
    have HMV := Lib.hid (moving_no W d d2)
    clear d2 hY hT
    go_wp2_with (first
      | (go_at_call 116; refine HMV.out.mono ?_; rintro r w1 ⟨rfl, rfl⟩)
      | (go_at_call 117; change Calls _ _ _ (W.alloc (.cells #[.string ⟨key.toArray⟩, .pointer none] 205)) _; rw [hW1]; refine HG.out.mono ?_; rintro r W2 hp; obtain rfl := hp.res
         obtain ⟨n1, n2⟩ := HN.out _ _ hp
         have HP := Lib.hid hp
         clear hp HG))
    exact HFIN.out _ _ HP.out
  · rw [show Dc.tb D = D.bn from if_neg hY, show Dc.tt D = D.Y from if_neg hY] at HG HN HFIN
    rw [tabV_some hT] at d1
    rw [tabV_some hY] at d2
    have HMV := Lib.hid (moving_yes W d _ _ (List.length_pos_iff.2 hY) d2)
    clear hY hT
    go_wp2_with (first
      | (go_at_call 116; refine HMV.out.mono ?_; rintro r w1 ⟨rfl, rfl⟩)
      | (go_at_call 117; change Calls _ _ _ (W.alloc (.cells #[.string ⟨key.toArray⟩, .pointer none] 205)) _; rw [hW1]; refine HG.out.mono ?_; rintro r W2 hp; obtain rfl := hp.res
         obtain ⟨n1, n2⟩ := HN.out _ _ hp
         have HP := Lib.hid hp
         clear hp HG))
    exact HFIN.out _ _ HP.out

/-- What Set of a new key leaves. -/
def SetPost (d : Nat) (D0 : Dc) (key : List UInt8) (w : World) (r : Ending) (w' : World) : Prop :=
  r = .returned (.bool true) ∧ DOp d D0 ((key, .agg #[]) :: D0.kv) w w'
theorem wpl_make_tab {w : World} {ops : Array Oper} {rest : List Oper} {o : Oper} {a : Act} {Q : Exit → Act → World → Prop} (hgd : o.guard = none) (l c : Operand) (hop : o.op = .makeSlice 196 l c)
    (n : Nat) (hn : n ≤ 1099511627776) (hl : a.eval l = .int .i64 n) (hc : a.eval c = .int .i64 n) (h : wpList Tryz.prog ops Q rest (a.put o.dst (.slice (some ⟨w.heap.size, 0, none⟩) n n)) (w.alloc (.cells (List.replicate n (Value.pointer none)).toArray 203))) :
    wpList Tryz.prog ops Q (o :: rest) a w :=
  wpList_plain hgd fun _ hK => by
    unfold Oper.wp execOp
    simp only [hop, hl, hc, Sem.run_bind, run_make_tab w n hn, Result.andThen_ok, Sem.run_pure]
    exact hK _ _ h
set_option maxHeartbeats 8000000 in
set_option maxRecDepth 100000 in
theorem set_any (w : World) (d : Nat) (D0 : Dc) (key : List UInt8) (h : DictAt w d D0) (hw : D0.Wf) (ht : key.length ≤ 140737488351232) (hf : D0.ents.length ≤ 268435456) (hnew : ∀ e ∈ D0.ents, e.key ≠ key) :
    Calls Tryz.prog 91 #[.pointer (some ⟨d, 0, none⟩), .string ⟨key.toArray⟩, .agg #[]] w (SetPost d D0 key w) := by
  obtain ⟨W0, hW0⟩ : ∃ W0, w.alloc (.cells #[] 157) = W0 := ⟨_, rfl⟩
  have hc0 : Chg (fun _ => False) w W0 := by rw [← hW0]; exact (Chg.refl _ _).alloc _
  have HS := Lib.hid (step_any W0 d D0 (h.chg hc0 fun _ _ e => e) hw)
  have HC0 := Lib.hid hc0
  clear h hw hc0
  go_enter Tryz.func91, Tryz.ntmps91
  go_wp2_with (go_at_call 114; refine HS.out.mono ?_; rintro r w1 ⟨rfl, D, hD, hI⟩
               replace hI := hI.before HC0.out
               have HD := Lib.hid hD
               have HI := Lib.hid hI
               clear hD hI HS)
  have HF := Lib.hid (find_any w1 d D key HI.out.at_ HD.out ht)
  obtain ⟨f, hf2⟩ : ∃ v, findTU D.seed D.bo D.T D.bn D.Y key = v := ⟨_, rfl⟩
  rw [hf2] at HF
  cases f with
  | some a =>
    obtain ⟨e, he, hk, -⟩ := find_found HI.out.at_ hf2
    exact absurd hk (hnew e (HI.out.perm.mem_iff.1 he))
  | none =>
    have hmiss := find_missed HD.out hf2
    have HM := Lib.hid (show (∀ e ∈ D.ents, e.key ≠ key) ∧ (∀ e ∈ D0.ents, e.key ≠ key) from ⟨hmiss, fun e he => hmiss e (HI.out.perm.mem_iff.2 he)⟩)
    have hlen : D.ents.length ≤ 268435456 := by rw [HI.out.perm.length_eq]; exact hf
    have HL := Lib.hid hlen
    have HSG := Lib.hid HI.out.sg
    obtain ⟨⟨d0, d1, d2, d3, d4⟩, df⟩ := five HI.out.at_.head
    have df1 := df 1
    have df2 := df 2
    have hdl := block_lt HI.out.at_.head
    clear hf2 hmiss hf df d0 d3
    by_cases hT : D.T = []
    · rw [hT, tabV_nil] at d1
      have HT := Lib.hid hT
      have HSF := Lib.hid (HSG.out.first HD.out hT (m := 4) (k := 2) rfl (by omega))
      have HWF := Lib.hid (HD.out.first hT w1.heap.size 4)
      clear d2 d4 hT df2 hlen
      obtain ⟨W2, hW2⟩ : ∃ W2, w1.alloc (.cells (List.replicate 4 (Value.pointer none)).toArray 203) = W2 := ⟨_, rfl⟩
      rw [hW2] at HSF
      have hh2 : W2.heap[d]? = w1.heap[d]? := by rw [← hW2]; exact heap_alloc_old hdl
      have e1 : W2.cell? ⟨d, 1, none⟩ = some (.slice none 0 0) := (World.cell?_of_block (w := w1) hh2).trans d1
      have e1f : W2.frozen? ⟨d, 1, none⟩ = false := frozen_of_row _ d 1 _ _ (hh2.trans HI.out.at_.head)
      clear hh2
      go_upto_region 12 with (first
        | (go_at_call 115; refine HF.out.mono ?_; rintro r w2 ⟨rfl, rfl⟩)
        | (at_make; refine wpl_make_tab rfl _ _ rfl 4 (by omega) rfl rfl ?_; rw [hW2]))
      exact set_tail w _ d D0 _ key HSF.out HWF.out.1 (rep_ne (by omega)) (by rw [HWF.out.2.1]; exact HM.out.1) ht (by rw [HWF.out.2.1]; have := HL.out; omega) (SetPost d D0 key w) (fun w' hh => ⟨rfl, hh⟩) _ _ _ _ _ _ _ _ _ _ _ _ _ _ _ _ _ _ _ _ _ _ _ _ _ _ _ _ _ _ _ _ _ _ _ _ _ _ _ _ _ _ _ _ _ _ _ _ _ _ _ _ _ _ _ _ _ _ _ _ _ _ _ _ _ _ _ _ _ _ _ _ _ _ _ _ _ _ _ _ _ _ _ rfl _ rfl _ (by assumption)
    · have HT := Lib.hid hT
      have HWD := HD
      obtain ⟨k, hk⟩ := HI.out.at_.old.two hT
      rw [tabV_some hT] at d1
      obtain ⟨nt, hnt⟩ : ∃ n, D.T.length = n := ⟨_, rfl⟩
      obtain ⟨n, hn⟩ : ∃ n, D.ents.length = n := ⟨_, rfl⟩
      rw [hnt] at d1 hk
      rw [hn] at d4 hlen
      obtain ⟨bo, hbo⟩ : ∃ b, D.bo = b := ⟨_, rfl⟩
      rw [hbo] at d1
      have hp0 : 0 < nt := by rw [hk]; exact Nat.two_pow_pos k
      have hnt0 : ((nt : Int) == 0) = false := by rw [beq_eq_false_iff_ne]; omega
      by_cases hY : D.Y = []
      · have HY := Lib.hid hY
        rw [hY, tabV_nil] at d2
        have HMV : ∀ q, Hid (Calls Tryz.prog 116 #[.pointer (some ⟨d, 0, none⟩)] (w1.drewN q) fun e w' => e = .returned (.bool false) ∧ w' = w1.drewN q) := fun q => Lib.hid ((moving_no (w1.drewN q) d d2).mono fun _ _ h => ⟨h.1, h.2.symm⟩)
        by_cases hg : nt ≤ n
        · have hpi : decide (nt ≤ n) = true := by simpa using hg
          have HWF := Lib.hid (HD.out.second hT hY w1.heap.size (2 * nt))
          have hnt2 : 2 * nt ≤ 1099511627776 := by omega
          have HSF := fun q => Lib.hid ((HSG.out.drewN q).second HD.out hT hY (m := 2 * nt) (k := k + 1) (by rw [hk, Nat.pow_succ, Nat.mul_comm]) hnt2)
          have HRN := Lib.hid (rep_ne (m := 2 * nt) (by omega))
          obtain ⟨W2, hW2⟩ : ∃ W2 : Nat → World, ∀ q, (w1.drewN q).alloc (.cells (List.replicate (2 * nt) (Value.pointer none)).toArray 203) = W2 q := ⟨_, fun _ => rfl⟩
          have hh2 : ∀ q, (W2 q).heap[d]? = w1.heap[d]? := fun q => by rw [← hW2]; exact heap_alloc_old (w := w1.drewN q) hdl
          have e1 : ∀ q, (W2 q).cell? ⟨d, 2, none⟩ = some (.slice none 0 0) := fun q => (World.cell?_of_block (w := w1) (hh2 q)).trans d2
          have e1f : ∀ q, (W2 q).frozen? ⟨d, 2, none⟩ = false := fun q => frozen_of_row _ d 2 _ _ ((hh2 q).trans HI.out.at_.head)
          clear hh2 hT hY hg hnt hn hbo hk hp0 df1 df2
          go_upto_region 12 with (first
            | (go_at_call 115; refine HF.out.mono ?_; clear HF; rintro r w2 ⟨rfl, rfl⟩)
            | (at_make; refine wpl_make_tab rfl _ _ rfl (2 * nt) hnt2 rfl rfl ?_; rw [hW2]))
          go_quiet (first | (go_at_call 116; refine Calls.quiet_of_same (HMV _).out))
          go_upto_region 12 with (first
            | (at_make; refine wpl_make_tab rfl _ _ rfl (2 * nt) hnt2 rfl rfl ?_; rw [hW2]))
          have HE := (HSF nq).out
          rw [hW2, show (w1.drewN nq).heap.size = w1.heap.size from rfl] at HE
          exact set_tail w _ d D0 _ key HE HWF.out.1 HT.out (by rw [HWF.out.2]; exact HM.out.1) ht (by rw [HWF.out.2]; have := HL.out; omega) (SetPost d D0 key w) (fun w' hh => ⟨rfl, hh⟩) _ _ _ _ _ _ _ _ _ _ _ _ _ _ _ _ _ _ _ _ _ _ _ _ _ _ _ _ _ _ _ _ _ _ _ _ _ _ _ _ _ _ _ _ _ _ _ _ _ _ _ _ _ _ _ _ _ _ _ _ _ _ _ _ _ _ _ _ _ _ _ _ _ _ _ _ _ _ _ _ _ _ _ rfl _ rfl _ (by assumption)
        · have hpi : decide (nt ≤ n) = false := by simpa using hg
          clear hT hY hg hnt hn hbo hk df1 df2
          go_upto_region 12 with (first
            | (go_at_call 115; refine HF.out.mono ?_; clear HF; rintro r w2 ⟨rfl, rfl⟩))
          go_quiet (first | (go_at_call 116; refine Calls.quiet_of_same (HMV _).out))
          go_upto_region 12 with fail
          exact set_tail w _ d D0 _ key (HSG.out.drewN _) HD.out HT.out HM.out.1 ht (by have := HL.out; omega) (SetPost d D0 key w) (fun w' hh => ⟨rfl, hh⟩) _ _ _ _ _ _ _ _ _ _ _ _ _ _ _ _ _ _ _ _ _ _ _ _ _ _ _ _ _ _ _ _ _ _ _ _ _ _ _ _ _ _ _ _ _ _ _ _ _ _ _ _ _ _ _ _ _ _ _ _ _ _ _ _ _ _ _ _ _ _ _ _ _ _ _ _ _ _ _ _ _ _ _ rfl _ rfl _ (by assumption)
      · rw [tabV_some hY] at d2
        have HMV : ∀ q, Hid (Calls Tryz.prog 116 #[.pointer (some ⟨d, 0, none⟩)] (w1.drewN q) fun e w' => e = .returned (.bool true) ∧ w' = w1.drewN q) := fun q => Lib.hid ((moving_yes (w1.drewN q) d _ _ (List.length_pos_iff.2 hY) d2).mono fun _ _ h => ⟨h.1, h.2.symm⟩)
        clear hT hY hnt hn hbo hk df1 df2
        go_upto_region 12 with (first
          | (go_at_call 115; refine HF.out.mono ?_; clear HF; rintro r w2 ⟨rfl, rfl⟩))
        go_quiet (first | (go_at_call 116; refine Calls.quiet_of_same (HMV _).out))
        go_upto_region 12 with fail
        exact set_tail w _ d D0 _ key (HSG.out.drewN _) HD.out HT.out HM.out.1 ht (by have := HL.out; omega) (SetPost d D0 key w) (fun w' hh => ⟨rfl, hh⟩) _ _ _ _ _ _ _ _ _ _ _ _ _ _ _ _ _ _ _ _ _ _ _ _ _ _ _ _ _ _ _ _ _ _ _ _ _ _ _ _ _ _ _ _ _ _ _ _ _ _ _ _ _ _ _ _ _ _ _ _ _ _ _ _ _ _ _ _ _ _ _ _ _ _ _ _ _ _ _ _ _ _ _ rfl _ rfl _ (by assumption)
end Go.Proofs.YteiklgbjjmlmaaaGreat.DUnit


/- A dict's blocks are of its types; Len; New. -/
set_option linter.unusedVariables false
set_option linter.unusedSimpArgs false
namespace Go.Proofs.YteiklgbjjmlmaaaGreat.DUnit
open Go.RowKit Pantry

theorem DictAt.types {w : World} {d : Nat} {D : Dc} (h : DictAt w d D) {k : Nat} (hk : DFoot d D k) : ∃ c t, w.heap[k]? = some (.cells c t) ∧ (t = 198 ∨ t = 203 ∨ t = 205) := by
  rcases hk with rfl | ⟨hne, rfl⟩ | ⟨hne, rfl⟩ | ⟨e, he, rfl⟩
  · exact ⟨_, _, h.head, .inl rfl⟩
  · exact ⟨_, _, h.old.cells hne, .inr (.inl rfl)⟩
  · exact ⟨_, _, h.young.cells hne, .inr (.inl rfl)⟩
  · obtain ⟨q, hq⟩ := h.ent he
    exact ⟨_, _, hq, .inr (.inr rfl)⟩
theorem DictAt.not_foot {w : World} {d : Nat} {D : Dc} (h : DictAt w d D) {k : Nat} {c : Array Value} {t : TypeId} (hk : w.heap[k]? = some (.cells c t)) (ht : t ≠ 198 ∧ t ≠ 203 ∧ t ≠ 205) : ¬ DFoot d D k := fun hf => by
  obtain ⟨c', t', h1, h2⟩ := h.types hf
  rw [hk] at h1
  simp only [Option.some.injEq, Obj.cells.injEq] at h1
  rcases h2 with rfl | rfl | rfl
  · exact ht.1 h1.2.1
  · exact ht.2.1 h1.2.1
  · exact ht.2.2 h1.2.1
theorem dlen_any (w : World) (d : Nat) (D : Dc) (h : DictAt w d D) : Calls Tryz.prog 113 #[.pointer (some ⟨d, 0, none⟩)] w fun e w' => e = .returned (.int .i64 (D.ents.length : Nat)) ∧ w = w' := by
  obtain ⟨⟨h0, h1, h2, h3, h4⟩, -⟩ := five h.head
  clear h h0 h1 h2 h3
  go_enter Tryz.func113, Tryz.ntmps113
  go_wp2_with fail
  go_ret
  exact ⟨rfl, rfl⟩
theorem dNew_any (w : World) (seed : Nat) : Calls Tryz.prog 88 #[.int .u64 seed] w fun e w' => e = .returned (.pointer (some ⟨w.heap.size, 0, none⟩)) ∧ w' = w.alloc (.cells #[.int .u64 seed, .slice none 0 0, .slice none 0 0, .int .i64 0, .int .i64 0] 198) := by
  go_enter Tryz.func88, Tryz.ntmps88
  go_wp2_with fail
  go_ret
  exact ⟨rfl, rfl⟩
theorem dict_zero (w : World) (seed : Nat) : DictAt (w.alloc (.cells #[.int .u64 seed, .slice none 0 0, .slice none 0 0, .int .i64 0, .int .i64 0] 198)) w.heap.size (Dc.zero seed) :=
  ⟨heap_alloc_new w _, ⟨fun h => absurd rfl h, fun h => absurd rfl h, Nat.zero_le _⟩, ⟨fun h => absurd rfl h, fun h => absurd rfl h, Nat.zero_le _⟩, (fun c hc => by cases hc), (fun c hc => by cases hc), fun h => absurd rfl h⟩
theorem zero_foot {d seed k : Nat} (h : DFoot d (Dc.zero seed) k) : k = d := by
  rcases h with h | ⟨h, -⟩ | ⟨h, -⟩ | ⟨e, he, -⟩
  · exact h
  · exact absurd rfl h
  · exact absurd rfl h
  · cases he
end Go.Proofs.YteiklgbjjmlmaaaGreat.DUnit


/- Flocks in memory: New, Len, Cost, Has, Add. -/
set_option linter.unusedVariables false
set_option linter.unusedSimpArgs false
namespace Pantry
open Go Go.RowKit
def flkCost (l : List (List UInt8)) : Nat := (l.map fun p => 24 + p.length).sum
structure FlkGood (l : List (List UInt8)) : Prop where
  keys : l.Nodup
  text : ∀ p ∈ l, p.length ≤ 1048576
  few : l.length ≤ 1048576
theorem flkCost_le {l : List (List UInt8)} (h : ∀ p ∈ l, p.length ≤ 1048576) : flkCost l ≤ l.length * 1048600 := by
  induction l with
  | nil => simp [flkCost]
  | cons p l ih =>
    have h1 := ih fun q hq => h q (List.mem_cons_of_mem _ hq)
    have h2 := h p List.mem_cons_self
    simp only [flkCost, List.map_cons, List.sum_cons, List.length_cons] at *
    omega
theorem FlkGood.cost {l : List (List UInt8)} (h : FlkGood l) : flkCost l ≤ 1099536793600 := by
  have h1 := flkCost_le h.text
  have h2 := Nat.mul_le_mul_right 1048600 h.few
  omega
theorem FlkGood.cons {l : List (List UInt8)} (h : FlkGood l) {k : List UInt8} (hk : k ∉ l) (h1 : k.length ≤ 1048576) (hf : l.length < 1048576) : FlkGood (k :: l) :=
  ⟨List.nodup_cons.2 ⟨hk, h.keys⟩, fun p hp => by rcases List.mem_cons.1 hp with rfl | hp; exact h1; exact h.text p hp, by rw [List.length_cons]; omega⟩
/-- What Add does to the members, and what it tells. -/
def addF (l : List (List UInt8)) (k : List UInt8) : List (List UInt8) × Bool × Int :=
  if 1048576 < k.length then (l, false, 2) else if k ∈ l then (l, false, 0) else if 1048576 ≤ l.length then (l, false, 4) else (k :: l, true, 0)
end Pantry
namespace Go.Proofs.YteiklgbjjmlmaaaGreat.DUnit
open Go.RowKit Pantry

/-- Block r is a flock of the members l. -/
structure FlkAt (w : World) (r seed d : Nat) (D : Dc) (l : List (List UInt8)) : Prop where
  head : w.heap[r]? = some (.cells #[.int .u64 seed, .pointer (some ⟨d, 0, none⟩), .int .i64 (flkCost l : Nat)] 159)
  dict : DictAt w d D
  wf : D.Wf
  keys : (D.ents.map (·.key)).Perm l
  good : FlkGood l
def FlkFoot (r d : Nat) (D : Dc) (k : Nat) : Prop := k = r ∨ DFoot d D k
theorem three {w : World} {g : Nat} {c0 c1 c2 : Value} {t : TypeId} (h : w.heap[g]? = some (.cells #[c0, c1, c2] t)) :
    (w.cell? ⟨g, 0, none⟩ = some c0 ∧ w.cell? ⟨g, 1, none⟩ = some c1 ∧ w.cell? ⟨g, 2, none⟩ = some c2) ∧ ∀ j, w.frozen? ⟨g, j, none⟩ = false := by
  refine ⟨⟨?_, ?_, ?_⟩, fun j => frozen_of_row w g j _ _ h⟩ <;> rw [cell_of_row w g _ _ _ _ h] <;> rfl
theorem FlkAt.few {w : World} {r seed d : Nat} {D : Dc} {l : List (List UInt8)} (h : FlkAt w r seed d D l) : D.ents.length = l.length := by
  have := h.keys.length_eq
  simpa using this
theorem FlkAt.keep {w w' : World} {r seed d : Nat} {D : Dc} {l : List (List UInt8)} {S : Nat → Prop} (h : FlkAt w r seed d D l) (hc : Chg S w w') (hS : ∀ k, FlkFoot r d D k → ¬ S k) : FlkAt w' r seed d D l :=
  ⟨hc.heap h.head (hS r (.inl rfl)), h.dict.chg hc fun k hk => hS k (.inr hk), h.wf, h.keys, h.good⟩
theorem FlkAt.not_foot {w : World} {r seed d : Nat} {D : Dc} {l : List (List UInt8)} (h : FlkAt w r seed d D l) : ¬ DFoot d D r := h.dict.not_foot h.head (by decide)
/-- After calls of the dict alone. -/
theorem FlkAt.dicts {w w' : World} {r seed d : Nat} {D D' : Dc} {l : List (List UInt8)} (h : FlkAt w r seed d D l) (hI : SI w d D w' D') (hw : D'.Wf) : FlkAt w' r seed d D' l ∧ Chg (FlkFoot r d D) w w' ∧ ∀ k, FlkFoot r d D' k → FlkFoot r d D k := by
  refine ⟨⟨hI.chg.heap h.head h.not_foot, hI.at_, hw, (hI.perm.map _).trans h.keys, h.good⟩, hI.chg.mono fun k _ hk => .inr hk, ?_⟩
  rintro k (rfl | hk)
  · exact .inl rfl
  · exact .inr (hI.foot k hk)
theorem fLen_any (w : World) (r seed d : Nat) (D : Dc) (l : List (List UInt8)) (h : FlkAt w r seed d D l) : Calls Tryz.prog 90 #[.pointer (some ⟨r, 0, none⟩)] w fun e w' => e = .returned (.int .i64 (l.length : Nat)) ∧ w = w' := by
  obtain ⟨⟨h0, h1, h2⟩, -⟩ := three h.head
  have HL := Lib.hid (dlen_any w d D h.dict)
  rw [h.few] at HL
  clear h h0 h2
  go_enter Tryz.func90, Tryz.ntmps90
  go_wp2_with (go_at_call 113; refine HL.out.mono ?_; rintro e w1 ⟨rfl, rfl⟩)
  go_ret
  exact ⟨rfl, rfl⟩
def FNewPost (seed : Nat) (w : World) (e : Ending) (w' : World) : Prop :=
  ∃ r d D, e = .returned (.pointer (some ⟨r, 0, none⟩)) ∧ FlkAt w' r seed d D [] ∧ Below w.heap.size w w' ∧ ∀ k, FlkFoot r d D k → w.heap.size ≤ k
theorem fNew_any (w : World) (seed : Nat) (hs : seed < 18446744073709551616) : Calls Tryz.prog 67 #[.int .u64 seed] w (FNewPost seed w) := by
  go_enter Tryz.func67, Tryz.ntmps67
  go_wp2_with (go_at_call 88; refine (dNew_any _ _).mono ?_; rintro e w1 ⟨rfl, rfl⟩)
  go_ret
  refine ⟨w.heap.size + 1, w.heap.size, Dc.zero seed, by simp, ⟨?_, ?_, Dc.zero_wf hs, List.Perm.refl _, ⟨List.nodup_nil, ?_, Nat.zero_le _⟩⟩, ?_, ?_⟩
  · have := heap_alloc_new (w.alloc (.cells #[.int .u64 seed, .slice none 0 0, .slice none 0 0, .int .i64 0, .int .i64 0] 198)) (.cells #[.int .u64 seed, .pointer (some ⟨w.heap.size, 0, none⟩), .int .i64 0] 159)
    simpa [flkCost] using this
  · exact (dict_zero w seed).chg (S := fun _ => False) ((Chg.refl _ _).alloc _) fun _ _ e => e
  · intro p hp; cases hp
  · exact ((Below.refl _ _).alloc (Nat.le_refl _) _).alloc (by simp) _
  · rintro k (rfl | hk)
    · omega
    · rw [zero_foot hk]; exact Nat.le_refl _
/-- What a call leaves that may change the flock. -/
structure FlkOp (r seed d : Nat) (D : Dc) (l' : List (List UInt8)) (w w' : World) : Prop where
  ex : ∃ D', FlkAt w' r seed d D' l' ∧ ∀ k, FlkFoot r d D' k → FlkFoot r d D k ∨ w.heap.size ≤ k
  chg : Chg (FlkFoot r d D) w w'
/-- What Has tells. -/
def HasPost (r seed d : Nat) (D : Dc) (l : List (List UInt8)) (k : List UInt8) (w : World) (e : Ending) (w' : World) : Prop :=
  e = .returned (.bool (decide (k ∈ l))) ∧ ∃ D', FlkAt w' r seed d D' l ∧ Chg (FlkFoot r d D) w w' ∧ ∀ j, FlkFoot r d D' j → FlkFoot r d D j
set_option maxHeartbeats 1000000 in
theorem fHas_any (w : World) (r seed d : Nat) (D : Dc) (l : List (List UInt8)) (k : List UInt8) (h : FlkAt w r seed d D l) (hk : k.length ≤ 140737488351232) :
    Calls Tryz.prog 89 #[.pointer (some ⟨r, 0, none⟩), .string ⟨k.toArray⟩] w (HasPost r seed d D l k w) := by
  obtain ⟨⟨h0, h1, h2⟩, -⟩ := three h.head
  have HG := Lib.hid (get_any w d D k h.dict h.wf hk)
  have HP : Hid (∀ b w1 D1, (b = decide (k ∈ l)) → D1.Wf → SI w d D w1 D1 → HasPost r seed d D l k w (.returned (.bool b)) (w1.alloc (.cells #[] 157))) := Lib.hid (by
    rintro b w1 D1 rfl hD hI
    obtain ⟨g1, g2, g3⟩ := h.dicts hI hD
    exact ⟨rfl, D1, g1.keep (S := fun _ => False) ((Chg.refl _ _).alloc _) fun _ _ e => e, g2.alloc _, g3⟩)
  have HM : Hid (∀ e ∈ D.ents, e.key = k → true = decide (k ∈ l)) := Lib.hid fun e he hh => by
    have : k ∈ l := h.keys.subset (List.mem_map.2 ⟨e, he, hh⟩)
    simp [this]
  have HN : Hid ((∀ e ∈ D.ents, e.key ≠ k) → false = decide (k ∈ l)) := Lib.hid fun hh => by
    have : k ∉ l := fun hm => by
      obtain ⟨e, he, hk⟩ := List.mem_map.1 (h.keys.mem_iff.2 hm)
      exact hh e he hk
    simp [this]
  clear h h0 h2
  go_enter Tryz.func89, Tryz.ntmps89
  go_wp2_with (go_at_call 112; refine HG.out.mono ?_; rintro e w1 ⟨hp, D1, hD, hI⟩
               have HDI := Lib.hid (show _ ∧ _ from ⟨hD, hI⟩)
               clear hD hI
               rcases hp with ⟨x, hx, hxk, rfl⟩ | ⟨hx, rfl⟩)
  · have HR := Lib.hid (HP.out true w1 D1 (HM.out x hx hxk) HDI.out.1 HDI.out.2)
    clear hx hxk
    go_ret
    exact HR.out
  · have HR := Lib.hid (HP.out false w1 D1 (HN.out hx) HDI.out.1 HDI.out.2)
    clear hx
    go_ret
    exact HR.out
/-- While the cost is being set. -/
structure FlkMid (r seed d : Nat) (D1 : Dc) (c : Int) (w1 w2 : World) : Prop where
  dict : DictAt w2 d D1
  head : w2.heap[r]? = some (.cells #[.int .u64 seed, .pointer (some ⟨d, 0, none⟩), .int .i64 c] 159)
  chg : Chg (fun k => k = r) w1 w2
theorem FlkAt.start {w : World} {r seed d : Nat} {D : Dc} {l : List (List UInt8)} (h : FlkAt w r seed d D l) : FlkMid r seed d D (flkCost l : Nat) w w := ⟨h.dict, h.head, Chg.refl _ _⟩
theorem FlkMid.set {r seed d : Nat} {D1 : Dc} {c : Int} {w1 w2 : World} (h : FlkMid r seed d D1 c w1 w2) (c' : Int) : FlkMid r seed d D1 c' w1 (w2.setCell ⟨r, 2, none⟩ (.int .i64 c')) := by
  have hc : Chg (fun k => k = r) w2 (w2.setCell ⟨r, 2, none⟩ (.int .i64 c')) := (Chg.refl (fun k => k = r) w2).setCell (p := ⟨r, 2, none⟩) (fun _ => rfl) _
  refine ⟨h.dict.chg hc fun k hk e => ?_, by rw [heapSetHere h.head]; rfl, h.chg.trans hc fun _ _ e => e⟩
  subst e
  exact h.dict.not_foot h.head (by decide) hk
def AddTo (r seed d : Nat) (D : Dc) (l : List (List UInt8)) (k : List UInt8) (w : World) (e : Ending) (w' : World) : Prop :=
  e = .returned (.tuple #[.bool (addF l k).2.1, .int .i64 (addF l k).2.2]) ∧ FlkOp r seed d D (addF l k).1 w w'
set_option maxHeartbeats 4000000 in
set_option maxRecDepth 100000 in
theorem fAdd_any (w : World) (r seed d : Nat) (D : Dc) (l : List (List UInt8)) (k : List UInt8) (h : FlkAt w r seed d D l) (hk : k.length ≤ 140737488351232) :
    Calls Tryz.prog 68 #[.pointer (some ⟨r, 0, none⟩), .string ⟨k.toArray⟩] w (AddTo r seed d D l k w) := by
  by_cases hlong : 1048576 < k.length
  · have hl2 : (1048576 : Int) < (k.length : Int) := by omega
    have HP : Hid (AddTo r seed d D l k w (.returned (.tuple #[.bool false, .int .i64 2])) w) := Lib.hid (by
      unfold AddTo addF
      rw [if_pos hlong]
      exact ⟨rfl, ⟨D, h, fun k hk => .inl hk⟩, Chg.refl _ _⟩)
    clear h hlong
    go_enter Tryz.func68, Tryz.ntmps68
    go_wp2_with fail
    go_ret2
    exact HP.out
  · have hl2 : ¬ (1048576 : Int) < (k.length : Int) := by omega
    have hk1 : k.length ≤ 1048576 := by omega
    have HH := Lib.hid h
    have HL := Lib.hid hlong
    have HHA := Lib.hid (fHas_any w r seed d D l k h hk)
    have hmix : Tryz.prog.follows .mixedOrders = true := by kernel_rfl
    have hcl := h.good.cost
    by_cases hin : k ∈ l
    · have HP : Hid (∀ w', (∃ D', FlkAt w' r seed d D' l ∧ Chg (FlkFoot r d D) w w' ∧ ∀ j, FlkFoot r d D' j → FlkFoot r d D j) → AddTo r seed d D l k w (.returned (.tuple #[.bool false, .int .i64 0])) w') := Lib.hid (by
        rintro w' ⟨D', g1, g2, g3⟩
        unfold AddTo addF
        rw [if_neg hlong, if_pos hin]
        exact ⟨rfl, ⟨D', g1, fun j hj => .inl (g3 j hj)⟩, g2⟩)
      have hdk : decide (k ∈ l) = true := by simpa using hin
      unfold HasPost at HHA
      rw [hdk] at HHA
      clear h hlong hin hk hdk
      go_enter Tryz.func68, Tryz.ntmps68
      go_wp2_with (go_at_call 89; refine HHA.out.mono ?_; rintro e w1 ⟨rfl, hex⟩
                   have HR := Lib.hid (HP.out w1 hex)
                   clear hex)
      go_ret2
      exact HR.out
    · have hdk : decide (k ∈ l) = false := by simpa using hin
      unfold HasPost at HHA
      rw [hdk] at HHA
      obtain ⟨n, hn⟩ : ∃ n, l.length = n := ⟨_, rfl⟩
      have HN := Lib.hid hn
      have HI := Lib.hid hin
      by_cases hfull : 1048576 ≤ n
      · have hb : decide ((1048576 : Int) ≤ (n : Int)) = true := by simp; omega
        have HP : Hid (∀ w', (∃ D', FlkAt w' r seed d D' l ∧ Chg (FlkFoot r d D) w w' ∧ ∀ j, FlkFoot r d D' j → FlkFoot r d D j) → AddTo r seed d D l k w (.returned (.tuple #[.bool false, .int .i64 4])) w') := Lib.hid (by
          rintro w' ⟨D', g1, g2, g3⟩
          unfold AddTo addF
          rw [if_neg hlong, if_neg hin, if_pos (by rw [hn]; exact hfull)]
          exact ⟨rfl, ⟨D', g1, fun j hj => .inl (g3 j hj)⟩, g2⟩)
        clear h hlong hin hk hdk hn hfull hcl
        go_enter Tryz.func68, Tryz.ntmps68
        go_wp2_with (first
          | (go_at_call 89; refine HHA.out.mono ?_; rintro e w1 ⟨rfl, hex⟩
             have HR := Lib.hid (HP.out w1 hex)
             obtain ⟨D1, g1, -⟩ := hex
             have HLE := Lib.hid (fLen_any w1 r seed d D1 l g1)
             rw [HN.out] at HLE
             clear g1)
          | (go_at_call 90; refine HLE.out.mono ?_; clear HLE; rintro e w2 ⟨rfl, rfl⟩))
        go_ret2
        exact HR.out
      · have hb : decide ((1048576 : Int) ≤ (n : Int)) = false := by simp; omega
        have HF := Lib.hid hfull
        obtain ⟨cl, hcl2⟩ : ∃ c, flkCost l = c := ⟨_, rfl⟩
        have HCL := Lib.hid hcl2
        rw [hcl2] at hcl
        have hk2 : (k.length : Int) ≤ 1048576 := by omega
        have hcost : (cl : Int) + (24 + (k.length : Int)) = ((flkCost (k :: l) : Nat) : Int) := by
          rw [← hcl2]
          simp only [flkCost, List.map_cons, List.sum_cons]
          omega
        have HCO := Lib.hid hcost
        have hw2 : IntKind.i64.wrap ((cl : Int) + (24 + (k.length : Int))) = (cl : Int) + (24 + (k.length : Int)) := IntWalk.i64_in _ (by omega)
        have hw3 : IntKind.i64.wrap (24 + (k.length : Int)) = 24 + (k.length : Int) := IntWalk.i64_in _ (by omega)
        clear h hlong hin hk hdk hn hfull hcl2 hcost
        go_enter Tryz.func68, Tryz.ntmps68
        go_upto_region 9 with (first
          | (go_at_call 89; refine HHA.out.mono ?_; rintro e w1 ⟨rfl, D1, g1, g2, g3⟩
             have HLE := Lib.hid (fLen_any w1 r seed d D1 l g1)
             rw [HN.out] at HLE
             have HG := Lib.hid (show _ ∧ _ ∧ _ from ⟨g1, g2, g3⟩)
             obtain ⟨⟨-, q1, q2⟩, qf⟩ := three g1.head
             rw [HCL.out] at q2
             have qf2 := qf 2
             have hM3 := g1.start.set ((cl : Int) + (24 + (k.length : Int)))
             obtain ⟨W3, hW3⟩ : ∃ W3, w1.setCell ⟨r, 2, none⟩ (.int .i64 ((cl : Int) + (24 + (k.length : Int)))) = W3 := ⟨_, rfl⟩
             have hM4 : FlkMid r seed d D1 ((cl : Int) + (24 + (k.length : Int))) w1 W3 := by rw [← hW3]; exact hM3
             obtain ⟨⟨-, t1, -⟩, -⟩ := three hM4.head
             have HM4 := Lib.hid hM4
             have HW3 := Lib.hid hW3
             have HDS := Lib.hid (set_any W3 d D1 k hM4.dict g1.wf (by omega) (by rw [g1.few, HN.out]; have := HF.out; omega) (fun e he hh => HI.out (g1.keys.subset (List.mem_map.2 ⟨e, he, hh⟩))))
             clear g1 g2 g3 qf hM3 hM4 hW3)
          | (go_at_call 90; refine HLE.out.mono ?_; clear HLE; rintro e w2 ⟨rfl, rfl⟩))
        go_upto_region 10 with fail
        rw [HW3.out]
        go_wp2_with (go_at_call 91; refine HDS.out.mono ?_; clear HDS; rintro e w5 ⟨rfl, ho⟩
                     have HO := Lib.hid ho
                     clear ho)
        go_ret2
        unfold AddTo addF
        rw [if_neg HL.out, if_neg HI.out, if_neg (by rw [HN.out]; exact HF.out)]
        obtain ⟨⟨D3, q1, q2, q3, q4, q5⟩, q6⟩ := HO.out
        obtain ⟨g1, g2, g3⟩ := HG.out
        have hm := HM4.out
        have hh3 := q6.heap hm.head (hm.dict.not_foot hm.head (by decide))
        rw [HCO.out] at hh3
        refine ⟨rfl, ⟨D3, ⟨hh3, q3, q1, ?_, g1.good.cons HI.out hk1 (by rw [HN.out]; have := HF.out; omega)⟩, ?_⟩, ?_⟩
        · have := q4.map Prod.fst
          have e1 : D3.kv.map Prod.fst = D3.ents.map (·.key) := by simp [Dc.kv, DE.kv, Function.comp_def]
          have e2 : D1.kv.map Prod.fst = D1.ents.map (·.key) := by simp [Dc.kv, DE.kv, Function.comp_def]
          rw [e1, List.map_cons, e2] at this
          exact this.trans (g1.keys.cons _)
        · have hsz : w.heap.size ≤ W3.heap.size := Nat.le_trans g2.size hm.chg.size
          rintro j (rfl | hj)
          · exact .inl (.inl rfl)
          · rcases q5 j hj with hj | hj
            · exact .inl (g3 j (.inr hj))
            · exact .inr (by omega)
        · exact (g2.trans hm.chg fun k _ e => .inl e).trans q6 fun k _ hk => g3 k (.inr hk)
end Go.Proofs.YteiklgbjjmlmaaaGreat.DUnit
