
/- Where a key's entry hangs, in both tables; Get. -/
import Derived.Test.YteiklgbjjmlmaaaGreatZDGet
import Derived.Test.YteiklgbjjmlmaaaGreatZSDTab
import Derived.Laws.MakeOwn
import Derived.Deep.Cut
import Derived.Deep.RegionHeld
import Derived.Test.YteiklgbjjmlmaaaGreatZRkRange
import Derived.Test.YteiklgbjjmlmaaaGreatZDCut
set_option linter.unusedVariables false
set_option linter.unusedSimpArgs false
namespace Go.Proofs.YteiklgbjjmlmaaaGreat.DStr
open Go.RowKit Pantry

theorem ChainAt.cellAt {w : World} {p : Addr} {pre : List DE} {e : DE} {post : List DE} (h : ChainAt w (pre ++ e :: post)) (hp : w.cell? p = some (ptrOf (pre ++ e :: post))) : w.cell? (lastA p pre) = some (.pointer (some ⟨e.b, 0, none⟩)) := by
  induction pre generalizing p with
  | nil => exact hp
  | cons x pre ih =>
    obtain ⟨⟨-, -, c2⟩, -⟩ := three h.1
    exact ih h.2 c2
theorem found_cell {w : World} {seed b : Nat} {T : List (List DE)} {k : List UInt8} {a : Addr} {c pre post : List DE} {e : DE} (h : FoundIn seed b T k a c pre e post) (hT : TabAt w b T) (hc : ∀ c ∈ T, ChainAt w c) : w.cell? a = some (.pointer (some ⟨e.b, 0, none⟩)) := by
  have h1 := hT.cell h.bucket
  have h2 := hc c (List.mem_of_getElem? h.bucket)
  rw [h.addr]
  rw [h.parts] at h1 h2
  exact h2.cellAt h1
theorem link_or (w : World) (d b seed : Nat) (T : List (List DE)) (key : List UInt8) (hd : w.cell? ⟨d, 0, none⟩ = some (.int .u64 seed)) (hseed : seed < 18446744073709551616) (hT : TabAt w b T) (hc : ∀ c ∈ T, ChainAt w c) (hs : key.length ≤ 140737488351232) :
    Calls Tryz.prog 130 #[.pointer (some ⟨d, 0, none⟩), tabV b T, .string ⟨key.toArray⟩] w fun e w' => e = .returned (.pointer (linkT seed b T key)) ∧ w = w' := by
  by_cases hne : T = []
  · subst hne
    exact link_nil w _ key
  · exact link_some w d b seed T key hd hseed hT hne hc hs
theorem find_any (w : World) (d : Nat) (D : Dc) (key : List UInt8) (h : DictAt w d D) (hw : D.Wf) (hs : key.length ≤ 140737488351232) :
    Calls Tryz.prog 109 #[.pointer (some ⟨d, 0, none⟩), .string ⟨key.toArray⟩] w fun e w' => e = .returned (.pointer (findT D.seed D.bo D.T D.bn D.Y key)) ∧ w = w' := by
  obtain ⟨⟨d0, d1, d2, d3, d4⟩, df⟩ := five h.head
  have H1 := Lib.hid (link_or w d D.bo D.seed D.T key d0 hw.seed h.old h.chT hs)
  have H2 := Lib.hid (link_or w d D.bn D.seed D.Y key d0 hw.seed h.young h.chY hs)
  unfold findT
  obtain ⟨v1, hv1⟩ : ∃ v, tabV D.bo D.T = v := ⟨_, rfl⟩
  obtain ⟨v2, hv2⟩ : ∃ v, tabV D.bn D.Y = v := ⟨_, rfl⟩
  rw [hv1] at d1 H1
  rw [hv2] at d2 H2
  obtain ⟨r1, hr1⟩ : ∃ v, linkT D.seed D.bo D.T key = v := ⟨_, rfl⟩
  obtain ⟨r2, hr2⟩ : ∃ v, linkT D.seed D.bn D.Y key = v := ⟨_, rfl⟩
  rw [hr1] at H1 ⊢
  rw [hr2] at H2 ⊢
  clear h hw d0 d3 d4 df hv1 hv2 hr1 hr2
  cases r1 with
  | some a =>
    go_enter Tryz.func109, Tryz.ntmps109
    go_wp2_with (go_at_call 130; refine H1.out.mono ?_; rintro e w1 ⟨rfl, rfl⟩)
    go_ret
    exact ⟨rfl, rfl⟩
  | none =>
    go_enter Tryz.func109, Tryz.ntmps109
    go_wp2_with (go_at_call 130; first
      | (refine H1.out.mono ?_; clear H1; rintro e w1 ⟨rfl, rfl⟩)
      | (refine H2.out.mono ?_; rintro e w1 ⟨rfl, rfl⟩))
    go_ret
    exact ⟨rfl, rfl⟩
/-- What find finds. -/
theorem find_found {w : World} {d : Nat} {D : Dc} {key : List UInt8} (h : DictAt w d D) {a : Addr} (hf : findT D.seed D.bo D.T D.bn D.Y key = some a) :
    ∃ e ∈ D.ents, e.key = key ∧ w.cell? a = some (.pointer (some ⟨e.b, 0, none⟩)) ∧ ((∃ c pre post, FoundIn D.seed D.bo D.T key a c pre e post) ∨ ∃ c pre post, FoundIn D.seed D.bn D.Y key a c pre e post) := by
  unfold findT at hf
  split at hf
  · rename_i p hp
    cases hf
    obtain ⟨c, pre, e, post, hh⟩ := linkT_some hp
    exact ⟨e, List.mem_append.2 (.inl hh.mem), hh.key, found_cell hh h.old h.chT, .inl ⟨c, pre, post, hh⟩⟩
  · obtain ⟨c, pre, e, post, hh⟩ := linkT_some hf
    exact ⟨e, List.mem_append.2 (.inr hh.mem), hh.key, found_cell hh h.young h.chY, .inr ⟨c, pre, post, hh⟩⟩
theorem find_missed {D : Dc} {key : List UInt8} (hw : D.Wf) (hf : findT D.seed D.bo D.T D.bn D.Y key = none) : ∀ e ∈ D.ents, e.key ≠ key := by
  unfold findT at hf
  split at hf
  · cases hf
  · rename_i hn
    intro e he
    rcases List.mem_append.1 he with he | he
    · exact linkT_none hn hw.placeT e he
    · exact linkT_none hf hw.placeY e he
/-- What Get tells. -/
def GetPost (d : Nat) (D0 : Dc) (key : List UInt8) (w : World) (r : Ending) (w' : World) : Prop :=
  ((∃ e ∈ D0.ents, e.key = key ∧ r = .returned (.tuple #[e.val, .bool true])) ∨ ((∀ e ∈ D0.ents, e.key ≠ key) ∧ r = .returned (.tuple #[.string ⟨#[]⟩, .bool false]))) ∧ ∃ D, D.Wf ∧ SI w d D0 w' D
set_option maxHeartbeats 2000000 in
theorem get_any (w : World) (d : Nat) (D0 : Dc) (key : List UInt8) (h : DictAt w d D0) (hw : D0.Wf) (hs : key.length ≤ 140737488351232) :
    Calls Tryz.prog 84 #[.pointer (some ⟨d, 0, none⟩), .string ⟨key.toArray⟩] w (GetPost d D0 key w) := by
  have HS := Lib.hid (step_any w d D0 h hw)
  clear h hw
  go_enter Tryz.func84, Tryz.ntmps84
  go_wp2_with (go_at_call 108; refine HS.out.mono ?_; rintro r w1 ⟨rfl, D, hD, hI⟩
               have HD := Lib.hid hD
               have HI := Lib.hid hI
               clear hD hI HS)
  have HF := Lib.hid (find_any w1 d D key HI.out.at_ HD.out hs)
  obtain ⟨f, hf⟩ : ∃ v, findT D.seed D.bo D.T D.bn D.Y key = v := ⟨_, rfl⟩
  rw [hf] at HF
  cases f with
  | none =>
    have HP := Lib.hid (show GetPost d D0 key w (.returned (.tuple #[.string ⟨#[]⟩, .bool false])) w1 from ⟨.inr ⟨fun e he => find_missed HD.out hf e (HI.out.perm.mem_iff.2 he), rfl⟩, D, HD.out, HI.out⟩)
    clear hf
    go_wp2_with (go_at_call 109; refine HF.out.mono ?_; rintro r w2 ⟨rfl, rfl⟩)
    go_ret2
    exact HP.out
  | some a =>
    obtain ⟨e, he, hk, hc, -⟩ := find_found HI.out.at_ hf
    obtain ⟨q, hq⟩ := HI.out.at_.ent he
    obtain ⟨⟨c0, c1, c2⟩, -⟩ := three hq
    have HP := Lib.hid (show GetPost d D0 key w (.returned (.tuple #[e.val, .bool true])) w1 from ⟨.inl ⟨e, HI.out.perm.mem_iff.1 he, hk, rfl⟩, D, HD.out, HI.out⟩)
    clear hf he hk hq c0 c2
    go_wp2_with (go_at_call 109; refine HF.out.mono ?_; rintro r w2 ⟨rfl, rfl⟩)
    go_ret2
    exact HP.out
end Go.Proofs.YteiklgbjjmlmaaaGreat.DStr


/- Plain laws of a dict in memory: a value is set; a table is made; an entry is hung; one is taken out. -/
set_option linter.unusedVariables false
set_option linter.unusedSimpArgs false
namespace Go.Proofs.YteiklgbjjmlmaaaGreat.DStr
open Go.RowKit Pantry

theorem ChainAt.mapE {w w' : World} {f : DE → DE} (hk : ∀ x, (f x).key = x.key) (hb : ∀ x, (f x).b = x.b) {c : List DE} (h : ChainAt w c)
    (hE : ∀ x ∈ c, ∀ q, w.heap[x.b]? = some (.cells #[.string ⟨x.key.toArray⟩, x.val, q] 193) → w'.heap[x.b]? = some (.cells #[.string ⟨x.key.toArray⟩, (f x).val, q] 193)) : ChainAt w' (c.map f) := by
  induction c with
  | nil => trivial
  | cons x c ih =>
    refine ⟨?_, ih h.2 fun y hy => hE y (List.mem_cons_of_mem _ hy)⟩
    rw [hb, hk, show (List.map f c) = c.map f from rfl, ptrOf_map f hb]
    exact hE x List.mem_cons_self _ h.1
theorem TabAt.mapE {w w' : World} {f : DE → DE} (hb : ∀ x, (f x).b = x.b) {b : Nat} {T : List (List DE)} (h : TabAt w b T) (hO : T ≠ [] → w'.heap[b]? = w.heap[b]?) : TabAt w' b (T.map (·.map f)) := by
  have hne : T.map (·.map f) ≠ [] → T ≠ [] := fun hh h0 => hh (by rw [h0]; rfl)
  refine ⟨fun hh => ?_, fun hh => by rw [List.length_map]; exact h.two (hne hh), by rw [List.length_map]; exact h.few⟩
  rw [hO (hne hh), h.cells (hne hh), List.map_map]
  have : (fun c => ptrOf c) = ptrOf ∘ (fun x : List DE => x.map f) := by funext c; exact (ptrOf_map f hb c).symm
  rw [← this]
theorem tabV_map (b : Nat) (T : List (List DE)) (f : DE → DE) : tabV b (T.map (·.map f)) = tabV b T := by
  unfold tabV
  by_cases h : T = []
  · subst h; rfl
  · rw [if_neg h, if_neg (fun hh => h (List.map_eq_nil_iff.1 hh)), List.length_map]
theorem DictAt.mapE {w w' : World} {d : Nat} {D : Dc} (h : DictAt w d D) (f : DE → DE) (hk : ∀ x, (f x).key = x.key) (hb : ∀ x, (f x).b = x.b)
    (hE : ∀ x ∈ D.ents, ∀ q, w.heap[x.b]? = some (.cells #[.string ⟨x.key.toArray⟩, x.val, q] 193) → w'.heap[x.b]? = some (.cells #[.string ⟨x.key.toArray⟩, (f x).val, q] 193))
    (hO : ∀ (k : Nat) (c : Array Value) (t : TypeId), w.heap[k]? = some (Obj.cells c t) → t ≠ 193 → w'.heap[k]? = some (Obj.cells c t)) : DictAt w' d (D.mapE f) := by
  refine ⟨?_, h.old.mapE hb fun hne => (hO _ _ _ (h.old.cells hne) (by decide)).trans (h.old.cells hne).symm, h.young.mapE hb fun hne => (hO _ _ _ (h.young.cells hne) (by decide)).trans (h.young.cells hne).symm, ?_, ?_, fun h1 h2 => h.ne (fun h0 => h1 (by show D.T.map _ = []; rw [h0]; rfl)) fun h0 => h2 (by show D.Y.map _ = []; rw [h0]; rfl)⟩
  · rw [hO _ _ _ h.head (by decide), Dc.mapE_ents, List.length_map]
    show _ = some (Obj.cells #[.int .u64 D.seed, tabV D.bo (D.T.map (·.map f)), tabV D.bn (D.Y.map (·.map f)), .int .i64 D.pos, _] 188 (0, 0))
    rw [tabV_map, tabV_map]
  · intro c hc
    obtain ⟨c0, hc0, rfl⟩ := List.mem_map.1 hc
    exact (h.chT c0 hc0).mapE hk hb fun x hx => hE x (List.mem_append.2 (.inl (List.mem_flatten.2 ⟨c0, hc0, hx⟩)))
  · intro c hc
    obtain ⟨c0, hc0, rfl⟩ := List.mem_map.1 hc
    exact (h.chY c0 hc0).mapE hk hb fun x hx => hE x (List.mem_append.2 (.inr (List.mem_flatten.2 ⟨c0, hc0, hx⟩)))
theorem mapE_foot {d : Nat} {D : Dc} {f : DE → DE} (hb : ∀ x, (f x).b = x.b) {k : Nat} (h : DFoot d (D.mapE f) k) : DFoot d D k := by
  rcases h with rfl | ⟨hne, rfl⟩ | ⟨hne, rfl⟩ | ⟨e, he, rfl⟩
  · exact .inl rfl
  · exact .inr (.inl ⟨fun h0 => hne (by show D.T.map _ = []; rw [h0]; rfl), rfl⟩)
  · exact .inr (.inr (.inl ⟨fun h0 => hne (by show D.Y.map _ = []; rw [h0]; rfl), rfl⟩))
  · rw [Dc.mapE_ents] at he
    obtain ⟨x, hx, rfl⟩ := List.mem_map.1 he
    exact .inr (.inr (.inr ⟨x, hx, hb x⟩))
/-- A call that changes a dict: what it holds then. -/
structure DOp (d : Nat) (D0 : Dc) (l : List (List UInt8 × Value)) (w w' : World) : Prop where
  ex : ∃ D : Dc, D.Wf ∧ D.seed = D0.seed ∧ DictAt w' d D ∧ D.kv.Perm l ∧ ∀ k, DFoot d D k → DFoot d D0 k ∨ w.heap.size ≤ k
  chg : Chg (DFoot d D0) w w'
/-- The value of an entry that is there is set. -/
theorem DOp.reval {w W : World} {d : Nat} {D0 D : Dc} (h : SI w d D0 W D) (hw : D.Wf) {e : DE} (he : e ∈ D.ents) (v : Value) :
    DOp d D0 (D0.kv.map fun p => if p.1 = e.key then (p.1, v) else p) w (W.setCell ⟨e.b, 1, none⟩ v) := by
  refine ⟨⟨D.mapE (Pantry.reval e.b v), hw.mapE _ (reval_key _ _) (reval_b _ _), h.seed, h.at_.mapE _ (reval_key _ _) (reval_b _ _) ?_ ?_, ?_, fun k hk => .inl (h.foot k (mapE_foot (reval_b _ _) hk))⟩, ?_⟩
  · intro x hx q hq
    by_cases hb : x.b = e.b
    · rw [← hb, heapSetHere hq]
      simp [Pantry.reval, hb]
    · rw [heapSetOther (p := ⟨e.b, 1, none⟩) hb, hq]
      simp [Pantry.reval, hb]
  · intro k c t hk ht
    obtain ⟨q, hq⟩ := h.at_.ent he
    rw [heapSetOther (p := ⟨e.b, 1, none⟩) (types_ne hk hq ht), hk]
  · rw [Dc.kv_reval hw he]
    exact (h.perm.map DE.kv).map _
  · exact h.chg.setCell (p := ⟨e.b, 1, none⟩) (fun _ => h.foot _ (.inr (.inr (.inr ⟨e, he, rfl⟩)))) _
end Go.Proofs.YteiklgbjjmlmaaaGreat.DStr


/- A table is made; an entry is hung: in memory. -/
set_option linter.unusedVariables false
set_option linter.unusedSimpArgs false
namespace Go.Proofs.YteiklgbjjmlmaaaGreat.DStr
open Go.RowKit Pantry

/-- Between two statements of Set and Delete. -/
structure SG (w : World) (d : Nat) (D0 : Dc) (l : List (List UInt8 × Value)) (W : World) (D : Dc) : Prop where
  seed : D.seed = D0.seed
  perm : D.kv.Perm l
  at_ : DictAt W d D
  chg : Chg (DFoot d D0) w W
  foot : ∀ k, DFoot d D k → DFoot d D0 k ∨ w.heap.size ≤ k
theorem SI.sg {w W : World} {d : Nat} {D0 D : Dc} (h : SI w d D0 W D) : SG w d D0 D0.kv W D := ⟨h.seed, h.perm.map DE.kv, h.at_, h.chg, fun k hk => .inl (h.foot k hk)⟩
theorem SG.drewN {w W : World} {d : Nat} {D0 D : Dc} {l : List (List UInt8 × Value)} (h : SG w d D0 l W D) (q : Nat) : SG w d D0 l (W.drewN q) D := ⟨h.seed, h.perm, h.at_.keep fun _ _ => rfl, h.chg.drewN, h.foot⟩
theorem rep_cells (m : Nat) : (List.map ptrOf (List.replicate m ([] : List DE))).toArray = (List.replicate m (Value.pointer none)).toArray := by simp [ptrOf, ptrA]
theorem rep_ne {m : Nat} (h : 0 < m) : List.replicate m ([] : List DE) ≠ [] := by simp; omega
theorem tabAt_rep {w : World} {b m : Nat} (hb : w.heap[b]? = some (.cells (List.replicate m (Value.pointer none)).toArray 191)) (h2 : ∃ k, m = 2 ^ k) (hm : m ≤ 1099511627776) : TabAt w b (List.replicate m []) :=
  ⟨fun _ => by rw [rep_cells]; exact hb, fun _ => by rw [List.length_replicate]; exact h2, by rw [List.length_replicate]; exact hm⟩
theorem chain_rep (w : World) (m : Nat) : ∀ c ∈ List.replicate m ([] : List DE), ChainAt w c := fun c hc => by rw [(List.mem_replicate.1 hc).2]; trivial
theorem heap_alloc_old {w : World} {o : Obj} {k : Nat} (h : k < w.heap.size) : (w.alloc o).heap[k]? = w.heap[k]? := Below.heap_alloc _ _ _ h
theorem SG.first {w W : World} {d : Nat} {D0 D : Dc} {l : List (List UInt8 × Value)} (h : SG w d D0 l W D) (hw : D.Wf) (hT : D.T = []) {m k : Nat} (h2 : m = 2 ^ k) (hm : m ≤ 1099511627776) :
    SG w d D0 l ((W.alloc (.cells (List.replicate m (Value.pointer none)).toArray 191)).setCell ⟨d, 1, none⟩ (.slice (some ⟨W.heap.size, 0, none⟩) m m)) (D.first W.heap.size m) := by
  have hp : 0 < m := by rw [h2]; exact Nat.two_pow_pos k
  obtain ⟨-, e, hY⟩ := hw.first hT W.heap.size m
  have hY0 : D.Y = [] := hY
  have hdl := block_lt h.at_.head
  have hnb : ((W.alloc (.cells (List.replicate m (Value.pointer none)).toArray 191)).setCell ⟨d, 1, none⟩ (.slice (some ⟨W.heap.size, 0, none⟩) m m)).heap[W.heap.size]? = some (.cells (List.replicate m (Value.pointer none)).toArray 191) :=
    (heapSetOther (p := ⟨d, 1, none⟩) (by show W.heap.size ≠ d; omega)).trans (heap_alloc_new W _)
  refine ⟨h.seed, ?_, ⟨?_, tabAt_rep hnb ⟨k, h2⟩ hm, ?_, chain_rep _ _, ?_, fun _ hh => absurd hY hh⟩, ?_, ?_⟩
  · unfold Dc.kv; rw [e]; exact h.perm
  · rw [heapSetHere ((heap_alloc_old hdl).trans h.at_.head), e]
    show _ = some (Obj.cells #[.int .u64 D.seed, tabV W.heap.size (List.replicate m []), tabV D.bn D.Y, .int .i64 D.pos, _] 188 (0, 0))
    rw [tabV_some (rep_ne hp), List.length_replicate]
    rfl
  · exact ⟨fun hh => absurd hY hh, fun hh => absurd hY hh, by show D.Y.length ≤ _; rw [hY0]; exact Nat.zero_le _⟩
  · intro c hc
    have : c ∈ D.Y := hc
    rw [hY0] at this; cases this
  · exact (h.chg.alloc _).setCell (p := ⟨d, 1, none⟩) (fun _ => .inl rfl) _
  · rintro k (rfl | ⟨hne, rfl⟩ | ⟨hne, rfl⟩ | ⟨x, hx, rfl⟩)
    · exact .inl (.inl rfl)
    · exact .inr h.chg.size
    · exact absurd hY hne
    · rw [e] at hx
      exact h.foot _ (.inr (.inr (.inr ⟨x, hx, rfl⟩)))
theorem SG.second {w W : World} {d : Nat} {D0 D : Dc} {l : List (List UInt8 × Value)} (h : SG w d D0 l W D) (hw : D.Wf) (hT : D.T ≠ []) (hY : D.Y = []) {m k : Nat} (h2 : m = 2 ^ k) (hm : m ≤ 1099511627776) :
    SG w d D0 l ((W.alloc (.cells (List.replicate m (Value.pointer none)).toArray 191)).setCell ⟨d, 2, none⟩ (.slice (some ⟨W.heap.size, 0, none⟩) m m)) (D.second W.heap.size m) := by
  have hp : 0 < m := by rw [h2]; exact Nat.two_pow_pos k
  obtain ⟨-, e⟩ := hw.second hT hY W.heap.size m
  have hdl := block_lt h.at_.head
  have hol : ∀ k, k < W.heap.size → k ≠ d → ((W.alloc (.cells (List.replicate m (Value.pointer none)).toArray 191)).setCell ⟨d, 2, none⟩ (.slice (some ⟨W.heap.size, 0, none⟩) m m)).heap[k]? = W.heap[k]? := fun k h1 h2 =>
    (heapSetOther (p := ⟨d, 2, none⟩) h2).trans (heap_alloc_old h1)
  have hnb : ((W.alloc (.cells (List.replicate m (Value.pointer none)).toArray 191)).setCell ⟨d, 2, none⟩ (.slice (some ⟨W.heap.size, 0, none⟩) m m)).heap[W.heap.size]? = some (.cells (List.replicate m (Value.pointer none)).toArray 191) :=
    (heapSetOther (p := ⟨d, 2, none⟩) (by show W.heap.size ≠ d; omega)).trans (heap_alloc_new W _)
  have hbl := block_lt (h.at_.old.cells hT)
  refine ⟨h.seed, ?_, ⟨?_, ?_, tabAt_rep hnb ⟨k, h2⟩ hm, ?_, chain_rep _ _, ?_⟩, ?_, ?_⟩
  · unfold Dc.kv; rw [e]; exact h.perm
  · rw [heapSetHere ((heap_alloc_old hdl).trans h.at_.head), e]
    show _ = some (Obj.cells #[.int .u64 D.seed, tabV D.bo D.T, tabV W.heap.size (List.replicate m []), .int .i64 D.pos, _] 188 (0, 0))
    rw [tabV_some (rep_ne hp), List.length_replicate]
    rfl
  · exact h.at_.old.keep fun _ => hol _ hbl (h.at_.ne_old hT)
  · exact fun c hc => (h.at_.chT c hc).keep fun x hx => by
      obtain ⟨q, hq⟩ := (h.at_.chT c hc).mem hx
      exact hol _ (block_lt hq) (h.at_.ne_ent hq)
  · intro _ _
    show D.bo ≠ W.heap.size
    omega
  · exact (h.chg.alloc _).setCell (p := ⟨d, 2, none⟩) (fun _ => .inl rfl) _
  · rintro k (rfl | ⟨hne, rfl⟩ | ⟨hne, rfl⟩ | ⟨x, hx, rfl⟩)
    · exact .inl (.inl rfl)
    · exact h.foot _ (.inr (.inl ⟨hT, rfl⟩))
    · exact .inr h.chg.size
    · rw [e] at hx
      exact h.foot _ (.inr (.inr (.inr ⟨x, hx, rfl⟩)))
/-- The table into which new entries go. -/
def Dc.tb (D : Dc) : Nat := if D.Y = [] then D.bo else D.bn
def Dc.tt (D : Dc) : List (List DE) := if D.Y = [] then D.T else D.Y
theorem SG.hung {w W W2 : World} {d : Nat} {D0 D : Dc} {l : List (List UInt8 × Value)} (h : SG w d D0 l W D) (hw : D.Wf) (hT : D.T ≠ []) {e : DE} {r : Ending} (hb : e.b = W.heap.size) (hk : ∀ x ∈ D.ents, x.key ≠ e.key) (ht : e.key.length ≤ 140737488351232) (hf : D.ents.length < 1099511627776)
    (hp : HangPost D.seed (Dc.tb D) (Dc.tt D) e (W.alloc (.cells #[.string ⟨e.key.toArray⟩, e.val, .pointer none] 193)) r W2) :
    DOp d D0 (e.kv :: l) w (W2.setCell ⟨d, 4, none⟩ (.int .i64 ((D.ents.length + 1 : Nat) : Int))) := by
  have hfresh : ∀ x ∈ D.ents, x.b ≠ e.b := fun x hx hh => by
    obtain ⟨q, hq⟩ := h.at_.ent hx
    have := block_lt hq
    omega
  have hdl := block_lt h.at_.head
  have hperm := hung_perm hT e
  have keepW2 : ∀ k o, W.heap[k]? = some o → k ≠ Dc.tb D → W2.heap[k]? = some o := fun k o hk h1 => by
    have h2 := block_lt hk
    refine hp.chg.heap ((heap_alloc_old h2).trans hk) ?_
    rintro (hh | hh)
    · exact h1 hh
    · omega
  have oth : ∀ k, k ≠ d → (W2.setCell ⟨d, 4, none⟩ (.int .i64 ((D.ents.length + 1 : Nat) : Int))).heap[k]? = W2.heap[k]? := fun k hk => heapSetOther (p := ⟨d, 4, none⟩) hk
  have htd : Dc.tb D ≠ d := by
    unfold Dc.tb
    split
    · exact h.at_.ne_old hT
    · rename_i hY; exact h.at_.ne_young hY
  have hhead := keepW2 d _ h.at_.head htd.symm
  have hent : ∀ {x : Nat} {c : Array Value}, W2.heap[x]? = some (.cells c 193) → x ≠ d := fun hx => types_ne hx hhead (by decide)
  have key2 : ∀ c ∈ hangT D.seed (Dc.tt D) e, ChainAt (W2.setCell ⟨d, 4, none⟩ (.int .i64 ((D.ents.length + 1 : Nat) : Int))) c := fun c hc => (hp.chains c hc).keep fun x hx => by
    obtain ⟨q, hq⟩ := (hp.chains c hc).mem hx
    exact oth _ (hent hq)
  have tab2 : TabAt (W2.setCell ⟨d, 4, none⟩ (.int .i64 ((D.ents.length + 1 : Nat) : Int))) (Dc.tb D) (hangT D.seed (Dc.tt D) e) := hp.tab.keep fun _ => oth _ htd
  have hdict : DictAt (W2.setCell ⟨d, 4, none⟩ (.int .i64 ((D.ents.length + 1 : Nat) : Int))) d (D.hung e) := by
    have hh2 := heapSetHere hhead (j := 4) (.int .i64 ((D.ents.length + 1 : Nat) : Int))
    have hlen := hperm.length_eq
    rw [List.length_cons] at hlen
    revert hh2 hlen
    by_cases hY : D.Y = []
    · rw [show Dc.tb D = D.bo from if_pos hY, show Dc.tt D = D.T from if_pos hY] at tab2
      rw [show Dc.tt D = D.T from if_pos hY] at key2
      have e1 : D.hung e = { D with T := hangT D.seed D.T e } := by unfold Dc.hung; rw [if_pos hY]
      rw [e1]
      intro hlen hh2
      refine ⟨?_, tab2, ⟨fun hn => absurd hY hn, fun hn => absurd hY hn, h.at_.young.few⟩, key2, ?_, fun _ hn => absurd hY hn⟩
      · rw [hh2, hlen]
        show _ = some (Obj.cells #[.int .u64 D.seed, tabV D.bo (hangT D.seed D.T e), tabV D.bn D.Y, .int .i64 D.pos, _] 188 (0, 0))
        rw [tabV_some (hangT_ne hT), hangT_length, ← tabV_some hT]
        rfl
      · intro c hc
        have hc' : c ∈ D.Y := hc
        rw [hY] at hc'; cases hc'
    · rw [show Dc.tb D = D.bn from if_neg hY, show Dc.tt D = D.Y from if_neg hY] at tab2
      rw [show Dc.tt D = D.Y from if_neg hY] at key2
      rw [show Dc.tb D = D.bn from if_neg hY] at keepW2
      have e1 : D.hung e = { D with Y := hangT D.seed D.Y e } := by unfold Dc.hung; rw [if_neg hY]
      rw [e1]
      intro hlen hh2
      refine ⟨?_, ?_, tab2, ?_, key2, fun _ _ => h.at_.ne hT hY⟩
      · rw [hh2, hlen]
        show _ = some (Obj.cells #[.int .u64 D.seed, tabV D.bo D.T, tabV D.bn (hangT D.seed D.Y e), .int .i64 D.pos, _] 188 (0, 0))
        rw [tabV_some (hangT_ne hY), hangT_length, ← tabV_some hY]
        rfl
      · exact h.at_.old.keep fun _ => (oth _ (h.at_.ne_old hT)).trans ((keepW2 _ _ (h.at_.old.cells hT) (h.at_.ne hT hY)).trans (h.at_.old.cells hT).symm)
      · exact fun c hc => (h.at_.chT c hc).keep fun x hx => by
          obtain ⟨q, hq⟩ := (h.at_.chT c hc).mem hx
          exact (oth _ (h.at_.ne_ent hq)).trans ((keepW2 _ _ hq (h.at_.young.ent_ne hY hq)).trans hq.symm)
  have htb : DFoot d D (Dc.tb D) := by
    unfold Dc.tb
    split
    · exact .inr (.inl ⟨hT, rfl⟩)
    · rename_i hY; exact .inr (.inr (.inl ⟨hY, rfl⟩))
  refine ⟨⟨D.hung e, hw.hung hT hk hfresh ht hf, by unfold Dc.hung; split <;> exact h.seed, hdict, ?_, ?_⟩, ?_⟩
  · exact (hperm.map DE.kv).trans (h.perm.cons _)
  · intro k hk
    have : DFoot d D k ∨ k = e.b := by
      have hmem : ∀ x ∈ (D.hung e).ents, DFoot d D x.b ∨ x.b = e.b := fun x hx => by
        rcases List.mem_cons.1 (hperm.mem_iff.1 hx) with rfl | hx
        · exact .inr rfl
        · exact .inl (.inr (.inr (.inr ⟨x, hx, rfl⟩)))
      rcases hk with rfl | ⟨hne, rfl⟩ | ⟨hne, rfl⟩ | ⟨x, hx, rfl⟩
      · exact .inl (.inl rfl)
      · refine .inl (.inr (.inl ⟨hT, ?_⟩)); unfold Dc.hung; split <;> rfl
      · by_cases hY : D.Y = []
        · exfalso; apply hne; unfold Dc.hung; rw [if_pos hY]; exact hY
        · refine .inl (.inr (.inr (.inl ⟨hY, ?_⟩))); unfold Dc.hung; split <;> rfl
      · exact hmem x hx
    rcases this with hh | rfl
    · exact h.foot k hh
    · exact .inr (by rw [hb]; exact h.chg.size)
  · have h1 : Chg (fun k => k = Dc.tb D ∨ k = e.b) W W2 := hp.chg.1 |> fun _ => (((Chg.refl _ W).alloc _).trans hp.chg fun _ _ h => h)
    refine (h.chg.trans h1 ?_).setCell (p := ⟨d, 4, none⟩) (fun _ => .inl rfl) _
    rintro j hj (rfl | rfl)
    · rcases h.foot _ htb with hh | hh
      · exact hh
      · omega
    · have := h.chg.size; omega
end Go.Proofs.YteiklgbjjmlmaaaGreat.DStr


/- Set. -/
set_option linter.unusedVariables false
set_option linter.unusedSimpArgs false

namespace Go.Proofs.YteiklgbjjmlmaaaGreat.DStr
open Go.RowKit Pantry

theorem tabInfo : (Tryz.prog.info? 191).map (fun i => (i.zero, i.size, i.bytes)) = some (some (.pointer none), 1, 8) := by kernel_rfl
theorem run_make_tab (w : World) (n : Nat) (hn : n ≤ 1099511627776) :
    (Instr.makeSlice 186 (.int .i64 n) (.int .i64 n)).run Tryz.prog w = .ok (.slice (some ⟨w.heap.size, 0, none⟩) n n) (w.alloc (.cells (List.replicate n (Value.pointer none)).toArray 191)) := by
  have hi := tabInfo
  cases hq : Tryz.prog.info? 191 with
  | none => rw [hq] at hi; cases hi
  | some i =>
    rw [hq] at hi
    simp only [Option.map_some, Option.some.injEq, Prod.mk.injEq] at hi
    obtain ⟨h1, h2, h3⟩ := hi
    have hr := run_make (P := Tryz.prog) w 186 191 i (.pointer none) Tryz.underlying186 hq h1 .i64 .i64 n n (by omega) (Int.le_refl _) (by rw [h3]; omega) (by omega)
    rw [h2, Int.toNat_natCast, Nat.mul_one] at hr
    rw [hr, show (Value.pointer none).cells = #[Value.pointer none] from rfl, madeCells_one]

set_option maxHeartbeats 4000000 in
set_option maxRecDepth 100000 in
theorem set_tail (w W : World) (d : Nat) (D0 D : Dc) (key : List UInt8) (x : List UInt8) (h : SG w d D0 D0.kv W D) (hw : D.Wf) (hT : D.T ≠ []) (hk : ∀ e ∈ D.ents, e.key ≠ key) (ht : key.length ≤ 140737488351232) (hf : D.ents.length < 1099511627776)
    (R : Ending → World → Prop) (hR : ∀ w', DOp d D0 ((key, .string ⟨x.toArray⟩) :: D0.kv) w w' → R (.returned (.bool true)) w') (u3 u4 u5 u6 u7 u8 u9 u10 u11 u12 u13 u14 u15 u16 u17 u18 u19 u20 u21 u22 u23 u24 u25 u26 u27 u28 u29 u30 u31 u32 u33 u34 u35 u36 u37 u38 u39 u40 u41 u42 u43 u44 u45 u46 u47 u48 u49 u50 u51 u52 u53 u54 u55 u56 u57 u58 u59 u60 u61 u62 u63 u64 u65 u66 u67 u68 u69 u70 u71 u72 u73 u74 u75 u76 u77 u78 u79 u80 u81 u82 u83 u84 : Value) :
    ∀ c, cfst (cskip 5 (cbody Tryz.f87)) = c → ∀ cr, csnd (cskip 5 (cbody Tryz.f87)) = cr → ∀ K : Act → World → Prop, (∀ a v, Code.wp Tryz.prog cr (bodyPost Tryz.prog Tryz.f87 R) a v → K a v) →
      Code.wp Tryz.prog c (Exit.then K (bodyPost Tryz.prog Tryz.f87 R)) { tmps := #[.pointer (some ⟨d, 0, none⟩), .string ⟨key.toArray⟩, .string ⟨x.toArray⟩, u3, u4, u5, u6, u7, u8, u9, u10, u11, u12, u13, u14, u15, u16, u17, u18, u19, u20, u21, u22, u23, u24, u25, u26, u27, u28, u29, u30, u31, u32, u33, u34, u35, u36, u37, u38, u39, u40, u41, u42, u43, u44, u45, u46, u47, u48, u49, u50, u51, u52, u53, u54, u55, u56, u57, u58, u59, u60, u61, u62, u63, u64, u65, u66, u67, u68, u69, u70, u71, u72, u73, u74, u75, u76, u77, u78, u79, u80, u81, u82, u83, u84], defers := [] } W := by
  obtain ⟨⟨d0, d1, d2, d3, d4⟩, df⟩ := five h.at_.head
  have HH := Lib.hid h
  have HW := Lib.hid hw
  have HT := Lib.hid hT
  obtain ⟨W1, hW1⟩ : ∃ W1, W.alloc (.cells #[.string ⟨key.toArray⟩, .string ⟨x.toArray⟩, .pointer none] 193) = W1 := ⟨_, rfl⟩
  have halloc : ∀ k, k < W.heap.size → W1.heap[k]? = W.heap[k]? := fun k hk => by rw [← hW1]; exact heap_alloc_old hk
  have hA1 : DictAt W1 d D := h.at_.keep fun k hk => halloc k (h.at_.lt k hk)
  have hE : W1.heap[W.heap.size]? = some (.cells #[.string ⟨key.toArray⟩, .string ⟨x.toArray⟩, .pointer none] 193) := by rw [← hW1]; exact heap_alloc_new W _
  have hnot : ∀ e ∈ D.ents, e.b ≠ W.heap.size := fun e he hh => by
    obtain ⟨q, hq⟩ := h.at_.ent he
    have := block_lt hq
    omega
  have htab : TabAt W1 (Dc.tb D) (Dc.tt D) ∧ Dc.tt D ≠ [] ∧ (∀ c ∈ Dc.tt D, ChainAt W1 c) ∧ (∀ c ∈ Dc.tt D, ∀ e ∈ c, e ∈ D.ents) ∧ Dc.tb D ≠ d := by
    by_cases hY : D.Y = []
    · rw [show Dc.tb D = D.bo from if_pos hY, show Dc.tt D = D.T from if_pos hY]
      exact ⟨hA1.old, hT, hA1.chT, fun c hc e he => List.mem_append.2 (.inl (List.mem_flatten.2 ⟨c, hc, he⟩)), h.at_.ne_old hT⟩
    · rw [show Dc.tb D = D.bn from if_neg hY, show Dc.tt D = D.Y from if_neg hY]
      exact ⟨hA1.young, hY, hA1.chY, fun c hc e he => List.mem_append.2 (.inr (List.mem_flatten.2 ⟨c, hc, he⟩)), h.at_.ne_young hY⟩
  obtain ⟨t1, t2, t3, t4, t5⟩ := htab
  have HG := hang_any W1 d (Dc.tb D) D.seed (Dc.tt D) ⟨W.heap.size, key, .string ⟨x.toArray⟩⟩ (.pointer none) (five hA1.head).1.1 hw.seed t1 t2 t3 hE (fun c hc e he => hnot e (t4 c hc e he)) ht
  rw [tabV_some t2] at HG
  have HG := Lib.hid HG
  have HHD := Lib.hid h.at_.head
  have HT5 := Lib.hid t5
  have HFIN : Hid (∀ r W2, HangPost D.seed (Dc.tb D) (Dc.tt D) ⟨W.heap.size, key, .string ⟨x.toArray⟩⟩ W1 r W2 → DOp d D0 ((key, .string ⟨x.toArray⟩) :: D0.kv) w (W2.setCell ⟨d, 4, none⟩ (.int .i64 ((D.ents.length : Int) + 1)))) := Lib.hid (by
    intro r W2 hp
    rw [← hW1] at hp
    exact h.hung hw hT rfl hk ht hf hp)
  have HN : Hid (∀ r W2, HangPost D.seed (Dc.tb D) (Dc.tt D) ⟨W.heap.size, key, .string ⟨x.toArray⟩⟩ W1 r W2 → W2.cell? ⟨d, 4, none⟩ = some (.int .i64 (D.ents.length : Nat)) ∧ W2.frozen? ⟨d, 4, none⟩ = false) := Lib.hid (by
    intro r W2 hp
    have hdl := block_lt h.at_.head
    have hh := hp.chg.heap ((halloc d hdl).trans h.at_.head) (by
      rintro (hh | hh)
      · exact t5 hh.symm
      · have : d = W.heap.size := hh
        omega)
    obtain ⟨⟨-, -, -, -, q⟩, qf⟩ := five hh
    exact ⟨q, qf 4⟩)
  obtain ⟨n, hn⟩ : ∃ n, D.ents.length = n := ⟨_, rfl⟩
  rw [hn] at HFIN HN hf
  clear t1 t2 t3 t4 t5 hA1 hE hnot halloc hk hn d0 d3 d4 df hw h
  intro c hc cr hcr K hK
  conv at hc => lhs; whnf
  conv at hcr => lhs; whnf
  subst hc hcr
  dsimp only
  by_cases hY : D.Y = []
  · rw [show Dc.tb D = D.bo from if_pos hY, show Dc.tt D = D.T from if_pos hY] at HG HN HFIN
    rw [tabV_some hT] at d1
    rw [hY, tabV_nil] at d2
    have HMV := Lib.hid (moving_no W d d2)
    clear d2 hY hT
    go_wp2_with (first
      | (go_at_call 110; refine HMV.out.mono ?_; rintro r w1 ⟨rfl, rfl⟩)
      | (go_at_call 111; refine HG.out.mono ?_; rintro r W2 hp; obtain rfl := hp.res
         obtain ⟨n1, n2⟩ := HN.out _ _ hp
         have HP := Lib.hid hp
         clear hp HG))
    exact HFIN.out _ _ HP.out
  · rw [show Dc.tb D = D.bn from if_neg hY, show Dc.tt D = D.Y from if_neg hY] at HG HN HFIN
    rw [tabV_some hT] at d1
    rw [tabV_some hY] at d2
    have HMV := Lib.hid (moving_yes W d _ _ (List.length_pos_iff.2 hY) d2)
    clear hY hT
    go_wp2_with (first
      | (go_at_call 110; refine HMV.out.mono ?_; rintro r w1 ⟨rfl, rfl⟩)
      | (go_at_call 111; refine HG.out.mono ?_; rintro r W2 hp; obtain rfl := hp.res
         obtain ⟨n1, n2⟩ := HN.out _ _ hp
         have HP := Lib.hid hp
         clear hp HG))
    exact HFIN.out _ _ HP.out

def SetPost (d : Nat) (D0 : Dc) (key : List UInt8) (x : List UInt8) (w : World) (r : Ending) (w' : World) : Prop :=
  ((∃ e ∈ D0.ents, e.key = key) ∧ r = .returned (.bool false) ∧ DOp d D0 (D0.kv.map fun p => if p.1 = key then (p.1, .string ⟨x.toArray⟩) else p) w w') ∨
  ((∀ e ∈ D0.ents, e.key ≠ key) ∧ r = .returned (.bool true) ∧ DOp d D0 ((key, .string ⟨x.toArray⟩) :: D0.kv) w w')
theorem wpl_make_tab {w : World} {ops : Array Oper} {rest : List Oper} {o : Oper} {a : Act} {Q : Exit → Act → World → Prop} (hgd : o.guard = none) (l c : Operand) (hop : o.op = .makeSlice 186 l c)
    (n : Nat) (hn : n ≤ 1099511627776) (hl : a.eval l = .int .i64 n) (hc : a.eval c = .int .i64 n) (h : wpList Tryz.prog ops Q rest (a.put o.dst (.slice (some ⟨w.heap.size, 0, none⟩) n n)) (w.alloc (.cells (List.replicate n (Value.pointer none)).toArray 191))) :
    wpList Tryz.prog ops Q (o :: rest) a w :=
  wpList_plain hgd fun _ hK => by
    unfold Oper.wp execOp
    simp only [hop, hl, hc, Sem.run_bind, run_make_tab w n hn, Result.andThen_ok, Sem.run_pure]
    exact hK _ _ h
set_option maxHeartbeats 8000000 in
set_option maxRecDepth 100000 in
theorem set_any (w : World) (d : Nat) (D0 : Dc) (key : List UInt8) (x : List UInt8) (h : DictAt w d D0) (hw : D0.Wf) (ht : key.length ≤ 140737488351232) (hf : D0.ents.length ≤ 268435456) :
    Calls Tryz.prog 87 #[.pointer (some ⟨d, 0, none⟩), .string ⟨key.toArray⟩, .string ⟨x.toArray⟩] w (SetPost d D0 key x w) := by
  have HS := Lib.hid (step_any w d D0 h hw)
  clear h hw
  go_enter Tryz.func87, Tryz.ntmps87
  go_wp2_with (go_at_call 108; refine HS.out.mono ?_; rintro r w1 ⟨rfl, D, hD, hI⟩
               have HD := Lib.hid hD
               have HI := Lib.hid hI
               clear hD hI HS)
  have HF := Lib.hid (find_any w1 d D key HI.out.at_ HD.out ht)
  obtain ⟨f, hf2⟩ : ∃ v, findT D.seed D.bo D.T D.bn D.Y key = v := ⟨_, rfl⟩
  rw [hf2] at HF
  cases f with
  | some a =>
    obtain ⟨e, he, hk, hc, -⟩ := find_found HI.out.at_ hf2
    obtain ⟨q, hq⟩ := HI.out.at_.ent he
    obtain ⟨⟨c0, c1, c2⟩, cf⟩ := three hq
    have cf1 := cf 1
    have HP : Hid (SetPost d D0 key x w (.returned (.bool false)) (w1.setCell ⟨e.b, 1, none⟩ (.string ⟨x.toArray⟩))) := Lib.hid (.inl ⟨⟨e, HI.out.perm.mem_iff.1 he, hk⟩, rfl, by
      have := DOp.reval HI.out HD.out he (.string ⟨x.toArray⟩)
      rw [hk] at this
      exact this⟩)
    clear hf2 he hk hq c0 c2 cf
    go_wp2_with (go_at_call 109; refine HF.out.mono ?_; rintro r w2 ⟨rfl, rfl⟩)
    go_ret
    exact HP.out
  | none =>
    have hmiss := find_missed HD.out hf2
    have HM := Lib.hid (show (∀ e ∈ D.ents, e.key ≠ key) ∧ (∀ e ∈ D0.ents, e.key ≠ key) from ⟨hmiss, fun e he => hmiss e (HI.out.perm.mem_iff.2 he)⟩)
    have hlen : D.ents.length ≤ 268435456 := by rw [HI.out.perm.length_eq]; exact hf
    have HL := Lib.hid hlen
    have HSG := Lib.hid HI.out.sg
    obtain ⟨⟨d0, d1, d2, d3, d4⟩, df⟩ := five HI.out.at_.head
    have df1 := df 1
    have df2 := df 2
    have hdl := block_lt HI.out.at_.head
    clear hf2 hmiss hf df d0 d3
    by_cases hT : D.T = []
    · rw [hT, tabV_nil] at d1
      have HT := Lib.hid hT
      have HSF := Lib.hid (HSG.out.first HD.out hT (m := 4) (k := 2) rfl (by omega))
      have HWF := Lib.hid (HD.out.first hT w1.heap.size 4)
      clear d2 d4 hT df2 hlen
      obtain ⟨W2, hW2⟩ : ∃ W2, w1.alloc (.cells (List.replicate 4 (Value.pointer none)).toArray 191) = W2 := ⟨_, rfl⟩
      rw [hW2] at HSF
      have hh2 : W2.heap[d]? = w1.heap[d]? := by rw [← hW2]; exact heap_alloc_old hdl
      have e1 : W2.cell? ⟨d, 1, none⟩ = some (.slice none 0 0) := (World.cell?_of_block (w := w1) hh2).trans d1
      have e1f : W2.frozen? ⟨d, 1, none⟩ = false := frozen_of_row _ d 1 _ _ (hh2.trans HI.out.at_.head)
      clear hh2
      go_upto_region 12 with (first
        | (go_at_call 109; refine HF.out.mono ?_; rintro r w2 ⟨rfl, rfl⟩)
        | (at_make; refine wpl_make_tab rfl _ _ rfl 4 (by omega) rfl rfl ?_; rw [hW2]))
      exact set_tail w _ d D0 _ key x HSF.out HWF.out.1 (rep_ne (by omega)) (by rw [HWF.out.2.1]; exact HM.out.1) ht (by rw [HWF.out.2.1]; have := HL.out; omega) (SetPost d D0 key x w) (fun w' hh => .inr ⟨HM.out.2, rfl, hh⟩) _ _ _ _ _ _ _ _ _ _ _ _ _ _ _ _ _ _ _ _ _ _ _ _ _ _ _ _ _ _ _ _ _ _ _ _ _ _ _ _ _ _ _ _ _ _ _ _ _ _ _ _ _ _ _ _ _ _ _ _ _ _ _ _ _ _ _ _ _ _ _ _ _ _ _ _ _ _ _ _ _ _ _ rfl _ rfl _ (by assumption)
    · have HT := Lib.hid hT
      have HWD := HD
      obtain ⟨k, hk⟩ := HI.out.at_.old.two hT
      rw [tabV_some hT] at d1
      obtain ⟨nt, hnt⟩ : ∃ n, D.T.length = n := ⟨_, rfl⟩
      obtain ⟨n, hn⟩ : ∃ n, D.ents.length = n := ⟨_, rfl⟩
      rw [hnt] at d1 hk
      rw [hn] at d4 hlen
      obtain ⟨bo, hbo⟩ : ∃ b, D.bo = b := ⟨_, rfl⟩
      rw [hbo] at d1
      have hp0 : 0 < nt := by rw [hk]; exact Nat.two_pow_pos k
      have hnt0 : ((nt : Int) == 0) = false := by rw [beq_eq_false_iff_ne]; omega
      by_cases hY : D.Y = []
      · have HY := Lib.hid hY
        rw [hY, tabV_nil] at d2
        have HMV : ∀ q, Hid (Calls Tryz.prog 110 #[.pointer (some ⟨d, 0, none⟩)] (w1.drewN q) fun e w' => e = .returned (.bool false) ∧ w' = w1.drewN q) := fun q => Lib.hid ((moving_no (w1.drewN q) d d2).mono fun _ _ h => ⟨h.1, h.2.symm⟩)
        by_cases hg : nt ≤ n
        · have hpi : decide (nt ≤ n) = true := by simpa using hg
          have HWF := Lib.hid (HD.out.second hT hY w1.heap.size (2 * nt))
          have hnt2 : 2 * nt ≤ 1099511627776 := by omega
          have HSF := fun q => Lib.hid ((HSG.out.drewN q).second HD.out hT hY (m := 2 * nt) (k := k + 1) (by rw [hk, Nat.pow_succ, Nat.mul_comm]) hnt2)
          have HRN := Lib.hid (rep_ne (m := 2 * nt) (by omega))
          obtain ⟨W2, hW2⟩ : ∃ W2 : Nat → World, ∀ q, (w1.drewN q).alloc (.cells (List.replicate (2 * nt) (Value.pointer none)).toArray 191) = W2 q := ⟨_, fun _ => rfl⟩
          have hh2 : ∀ q, (W2 q).heap[d]? = w1.heap[d]? := fun q => by rw [← hW2]; exact heap_alloc_old (w := w1.drewN q) hdl
          have e1 : ∀ q, (W2 q).cell? ⟨d, 2, none⟩ = some (.slice none 0 0) := fun q => (World.cell?_of_block (w := w1) (hh2 q)).trans d2
          have e1f : ∀ q, (W2 q).frozen? ⟨d, 2, none⟩ = false := fun q => frozen_of_row _ d 2 _ _ ((hh2 q).trans HI.out.at_.head)
          clear hh2 hT hY hg hnt hn hbo hk hp0 df1 df2
          go_upto_region 12 with (first
            | (go_at_call 109; refine HF.out.mono ?_; clear HF; rintro r w2 ⟨rfl, rfl⟩)
            | (at_make; refine wpl_make_tab rfl _ _ rfl (2 * nt) hnt2 rfl rfl ?_; rw [hW2]))
          go_quiet (first | (go_at_call 110; refine Calls.quiet_of_same (HMV _).out))
          go_upto_region 12 with (first
            | (at_make; refine wpl_make_tab rfl _ _ rfl (2 * nt) hnt2 rfl rfl ?_; rw [hW2]))
          have HE := (HSF nq).out
          rw [hW2, show (w1.drewN nq).heap.size = w1.heap.size from rfl] at HE
          exact set_tail w _ d D0 _ key x HE HWF.out.1 HT.out (by rw [HWF.out.2]; exact HM.out.1) ht (by rw [HWF.out.2]; have := HL.out; omega) (SetPost d D0 key x w) (fun w' hh => .inr ⟨HM.out.2, rfl, hh⟩) _ _ _ _ _ _ _ _ _ _ _ _ _ _ _ _ _ _ _ _ _ _ _ _ _ _ _ _ _ _ _ _ _ _ _ _ _ _ _ _ _ _ _ _ _ _ _ _ _ _ _ _ _ _ _ _ _ _ _ _ _ _ _ _ _ _ _ _ _ _ _ _ _ _ _ _ _ _ _ _ _ _ _ rfl _ rfl _ (by assumption)
        · have hpi : decide (nt ≤ n) = false := by simpa using hg
          clear hT hY hg hnt hn hbo hk df1 df2
          go_upto_region 12 with (first
            | (go_at_call 109; refine HF.out.mono ?_; clear HF; rintro r w2 ⟨rfl, rfl⟩))
          go_quiet (first | (go_at_call 110; refine Calls.quiet_of_same (HMV _).out))
          go_upto_region 12 with fail
          exact set_tail w _ d D0 _ key x (HSG.out.drewN _) HD.out HT.out HM.out.1 ht (by have := HL.out; omega) (SetPost d D0 key x w) (fun w' hh => .inr ⟨HM.out.2, rfl, hh⟩) _ _ _ _ _ _ _ _ _ _ _ _ _ _ _ _ _ _ _ _ _ _ _ _ _ _ _ _ _ _ _ _ _ _ _ _ _ _ _ _ _ _ _ _ _ _ _ _ _ _ _ _ _ _ _ _ _ _ _ _ _ _ _ _ _ _ _ _ _ _ _ _ _ _ _ _ _ _ _ _ _ _ _ rfl _ rfl _ (by assumption)
      · rw [tabV_some hY] at d2
        have HMV : ∀ q, Hid (Calls Tryz.prog 110 #[.pointer (some ⟨d, 0, none⟩)] (w1.drewN q) fun e w' => e = .returned (.bool true) ∧ w' = w1.drewN q) := fun q => Lib.hid ((moving_yes (w1.drewN q) d _ _ (List.length_pos_iff.2 hY) d2).mono fun _ _ h => ⟨h.1, h.2.symm⟩)
        clear hT hY hnt hn hbo hk df1 df2
        go_upto_region 12 with (first
          | (go_at_call 109; refine HF.out.mono ?_; clear HF; rintro r w2 ⟨rfl, rfl⟩))
        go_quiet (first | (go_at_call 110; refine Calls.quiet_of_same (HMV _).out))
        go_upto_region 12 with fail
        exact set_tail w _ d D0 _ key x (HSG.out.drewN _) HD.out HT.out HM.out.1 ht (by have := HL.out; omega) (SetPost d D0 key x w) (fun w' hh => .inr ⟨HM.out.2, rfl, hh⟩) _ _ _ _ _ _ _ _ _ _ _ _ _ _ _ _ _ _ _ _ _ _ _ _ _ _ _ _ _ _ _ _ _ _ _ _ _ _ _ _ _ _ _ _ _ _ _ _ _ _ _ _ _ _ _ _ _ _ _ _ _ _ _ _ _ _ _ _ _ _ _ _ _ _ _ _ _ _ _ _ _ _ _ rfl _ rfl _ (by assumption)
end Go.Proofs.YteiklgbjjmlmaaaGreat.DStr


/- A dict's blocks are of its types; Len; New. -/
set_option linter.unusedVariables false
set_option linter.unusedSimpArgs false
namespace Go.Proofs.YteiklgbjjmlmaaaGreat.DStr
open Go.RowKit Pantry

theorem DictAt.types {w : World} {d : Nat} {D : Dc} (h : DictAt w d D) {k : Nat} (hk : DFoot d D k) : ∃ c t, w.heap[k]? = some (.cells c t) ∧ (t = 188 ∨ t = 191 ∨ t = 193) := by
  rcases hk with rfl | ⟨hne, rfl⟩ | ⟨hne, rfl⟩ | ⟨e, he, rfl⟩
  · exact ⟨_, _, h.head, .inl rfl⟩
  · exact ⟨_, _, h.old.cells hne, .inr (.inl rfl)⟩
  · exact ⟨_, _, h.young.cells hne, .inr (.inl rfl)⟩
  · obtain ⟨q, hq⟩ := h.ent he
    exact ⟨_, _, hq, .inr (.inr rfl)⟩
theorem DictAt.not_foot {w : World} {d : Nat} {D : Dc} (h : DictAt w d D) {k : Nat} {c : Array Value} {t : TypeId} (hk : w.heap[k]? = some (.cells c t)) (ht : t ≠ 188 ∧ t ≠ 191 ∧ t ≠ 193) : ¬ DFoot d D k := fun hf => by
  obtain ⟨c', t', h1, h2⟩ := h.types hf
  rw [hk] at h1
  simp only [Option.some.injEq, Obj.cells.injEq] at h1
  rcases h2 with rfl | rfl | rfl
  · exact ht.1 h1.2.1
  · exact ht.2.1 h1.2.1
  · exact ht.2.2 h1.2.1
theorem dlen_any (w : World) (d : Nat) (D : Dc) (h : DictAt w d D) : Calls Tryz.prog 86 #[.pointer (some ⟨d, 0, none⟩)] w fun e w' => e = .returned (.int .i64 (D.ents.length : Nat)) ∧ w = w' := by
  obtain ⟨⟨h0, h1, h2, h3, h4⟩, -⟩ := five h.head
  clear h h0 h1 h2 h3
  go_enter Tryz.func86, Tryz.ntmps86
  go_wp2_with fail
  go_ret
  exact ⟨rfl, rfl⟩
theorem dNew_any (w : World) (seed : Nat) : Calls Tryz.prog 83 #[.int .u64 seed] w fun e w' => e = .returned (.pointer (some ⟨w.heap.size, 0, none⟩)) ∧ w' = w.alloc (.cells #[.int .u64 seed, .slice none 0 0, .slice none 0 0, .int .i64 0, .int .i64 0] 188) := by
  go_enter Tryz.func83, Tryz.ntmps83
  go_wp2_with fail
  go_ret
  exact ⟨rfl, rfl⟩
theorem dict_zero (w : World) (seed : Nat) : DictAt (w.alloc (.cells #[.int .u64 seed, .slice none 0 0, .slice none 0 0, .int .i64 0, .int .i64 0] 188)) w.heap.size (Dc.zero seed) :=
  ⟨heap_alloc_new w _, ⟨fun h => absurd rfl h, fun h => absurd rfl h, Nat.zero_le _⟩, ⟨fun h => absurd rfl h, fun h => absurd rfl h, Nat.zero_le _⟩, (fun c hc => by cases hc), (fun c hc => by cases hc), fun h => absurd rfl h⟩
theorem zero_foot {d seed k : Nat} (h : DFoot d (Dc.zero seed) k) : k = d := by
  rcases h with h | ⟨h, -⟩ | ⟨h, -⟩ | ⟨e, he, -⟩
  · exact h
  · exact absurd rfl h
  · exact absurd rfl h
  · cases he
end Go.Proofs.YteiklgbjjmlmaaaGreat.DStr


/- An entry is taken out of its chain. -/
set_option linter.unusedVariables false
set_option linter.unusedSimpArgs false
namespace Go.Proofs.YteiklgbjjmlmaaaGreat.DStr
open Go.RowKit Pantry

/-- What is changed where an entry is taken out. -/
structure CutAt (w w' : World) (b : Nat) (pre : List DE) (a : Addr) : Prop where
  addr : ∃ g j, a = ⟨g, j, none⟩ ∧ w.frozen? ⟨g, j, none⟩ = false ∧ (g = b ∨ ∃ x ∈ pre, g = x.b)
  other : ∀ k, k ≠ a.block → w'.heap[k]? = w.heap[k]?
end Go.Proofs.YteiklgbjjmlmaaaGreat.DStr


/- Delete. -/
set_option linter.unusedVariables false
set_option linter.unusedSimpArgs false

namespace Go.Proofs.YteiklgbjjmlmaaaGreat.DStr
open Go.RowKit Pantry

end Go.Proofs.YteiklgbjjmlmaaaGreat.DStr
