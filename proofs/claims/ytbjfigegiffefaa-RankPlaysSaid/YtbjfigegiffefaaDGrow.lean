/- Plain laws of a dict in memory: a value is set; a table is made; an entry is hung; one is taken out. -/
import Derived.Test.YtbjfigegiffefaaDGet
import Derived.Laws.MakeOwn
set_option linter.unusedVariables false
set_option linter.unusedSimpArgs false
namespace Pantry
open Go Go.RowKit
def Dc.mapE (D : Dc) (f : DE → DE) : Dc := { D with T := D.T.map (·.map f), Y := D.Y.map (·.map f) }
theorem Dc.mapE_ents (D : Dc) (f : DE → DE) : (D.mapE f).ents = D.ents.map f := by
  unfold Dc.mapE Dc.ents
  simp [List.map_flatten]
theorem Placed.map {seed : Nat} {T : List (List DE)} (h : Placed seed T) (f : DE → DE) (hk : ∀ x, (f x).key = x.key) : Placed seed (T.map (·.map f)) := by
  intro i c x hi hx
  rw [List.getElem?_map] at hi
  cases hg : T[i]? with
  | none => rw [hg] at hi; cases hi
  | some c0 =>
    rw [hg] at hi; cases hi
    obtain ⟨y, hy, rfl⟩ := List.mem_map.1 hx
    rw [hk, List.length_map]
    exact h i c0 y hg hy
theorem Dc.Wf.mapE {D : Dc} (h : D.Wf) (f : DE → DE) (hk : ∀ x, (f x).key = x.key) (hb : ∀ x, (f x).b = x.b) : (D.mapE f).Wf := by
  have e1 : (D.mapE f).ents.map (·.key) = D.ents.map (·.key) := by rw [Dc.mapE_ents, List.map_map]; exact List.map_congr_left fun x _ => hk x
  have e2 : (D.mapE f).ents.map (·.b) = D.ents.map (·.b) := by rw [Dc.mapE_ents, List.map_map]; exact List.map_congr_left fun x _ => hb x
  refine ⟨h.seed, by rw [e1]; exact h.keys, by rw [e2]; exact h.blocks, ?_, by rw [Dc.mapE_ents, List.length_map]; exact h.few, h.placeT.map f hk, h.placeY.map f hk, ?_, fun hh => h.still (List.map_eq_nil_iff.1 hh), fun hh => ?_⟩
  · rw [Dc.mapE_ents]
    intro e he
    obtain ⟨x, hx, rfl⟩ := List.mem_map.1 he
    rw [hk]; exact h.text x hx
  · intro i c hi hc
    have hc' : (D.T.map (·.map f))[i]? = some c := hc
    rw [List.getElem?_map] at hc'
    cases hg : D.T[i]? with
    | none => rw [hg] at hc'; cases hc'
    | some c0 =>
      rw [hg] at hc'; cases hc'
      rw [h.past i c0 hi hg]; rfl
  · show D.pos < (D.T.map (·.map f)).length
    rw [List.length_map]
    exact h.moves fun h0 => hh (by show D.Y.map _ = []; rw [h0]; rfl)
theorem ptrOf_map (f : DE → DE) (hb : ∀ x, (f x).b = x.b) (c : List DE) : ptrOf (c.map f) = ptrOf c := by
  cases c with
  | nil => rfl
  | cons x c => simp [ptrOf, ptrA, hb]
/-- The value of one entry is another. -/
def reval (b : Nat) (v : Value) (x : DE) : DE := if x.b = b then { x with val := v } else x
theorem reval_key (b : Nat) (v : Value) (x : DE) : (reval b v x).key = x.key := by unfold reval; split <;> rfl
theorem reval_b (b : Nat) (v : Value) (x : DE) : (reval b v x).b = x.b := by unfold reval; split <;> rfl
def DE.kv (e : DE) : List UInt8 × Value := (e.key, e.val)
def Dc.kv (D : Dc) : List (List UInt8 × Value) := D.ents.map DE.kv
theorem inj_of_nodup {α β : Type} {f : α → β} {l : List α} (h : (l.map f).Nodup) {x y : α} (hx : x ∈ l) (hy : y ∈ l) (he : f x = f y) : x = y := by
  induction l with
  | nil => cases hx
  | cons z l ih =>
    rw [List.map_cons, List.nodup_cons] at h
    rcases List.mem_cons.1 hx with rfl | hx'
    · rcases List.mem_cons.1 hy with rfl | hy'
      · rfl
      · exact absurd (List.mem_map.2 ⟨y, hy', he.symm⟩) h.1
    · rcases List.mem_cons.1 hy with rfl | hy'
      · exact absurd (List.mem_map.2 ⟨x, hx', he⟩) h.1
      · exact ih h.2 hx' hy'
theorem Dc.kv_reval {D : Dc} (h : D.Wf) {e : DE} (he : e ∈ D.ents) (v : Value) : (D.mapE (reval e.b v)).kv = D.kv.map fun p => if p.1 = e.key then (p.1, v) else p := by
  unfold Dc.kv
  rw [Dc.mapE_ents, List.map_map, List.map_map]
  refine List.map_congr_left fun x hx => ?_
  simp only [Function.comp, reval, DE.kv]
  by_cases hb : x.b = e.b
  · have : x = e := inj_of_nodup h.blocks hx he hb
    subst this
    simp
  · have hk : ¬ x.key = e.key := fun hk => hb (by rw [inj_of_nodup h.keys hx he hk])
    rw [if_neg hb]
    exact (if_neg hk).symm
/-- A first table; a second one. -/
def Dc.first (D : Dc) (b m : Nat) : Dc := { D with bo := b, T := List.replicate m [] }
def Dc.second (D : Dc) (b m : Nat) : Dc := { D with bn := b, Y := List.replicate m [] }
theorem flatten_rep (m : Nat) : (List.replicate m ([] : List DE)).flatten = [] := by simp
theorem placed_rep (seed m : Nat) : Placed seed (List.replicate m []) := by
  intro i c x hi hx
  obtain ⟨hl, rfl⟩ := List.getElem?_eq_some_iff.1 hi
  simp at hx
theorem Dc.Wf.first {D : Dc} (h : D.Wf) (hT : D.T = []) (b m : Nat) : (D.first b m).Wf ∧ (D.first b m).ents = D.ents ∧ (D.first b m).Y = [] := by
  have hY : D.Y = [] := Classical.byContradiction fun hn => by have := h.moves hn; rw [hT] at this; cases this
  have e : (D.first b m).ents = D.ents := by unfold Dc.first Dc.ents; rw [hT, flatten_rep]; rfl
  have hp := h.still hY
  exact ⟨⟨h.seed, e ▸ h.keys, e ▸ h.blocks, e ▸ h.text, e ▸ h.few, placed_rep _ _, h.placeY, fun i c hi _ => absurd (hp ▸ hi : i < 0) (Nat.not_lt_zero i), fun _ => hp, fun hn => absurd hY hn⟩, e, hY⟩
theorem Dc.Wf.second {D : Dc} (h : D.Wf) (hT : D.T ≠ []) (hY : D.Y = []) (b m : Nat) : (D.second b m).Wf ∧ (D.second b m).ents = D.ents := by
  have e : (D.second b m).ents = D.ents := by unfold Dc.second Dc.ents; rw [hY, flatten_rep]; rfl
  have hp := h.still hY
  exact ⟨⟨h.seed, e ▸ h.keys, e ▸ h.blocks, e ▸ h.text, e ▸ h.few, h.placeT, placed_rep _ _, fun i c hi _ => absurd (hp ▸ hi : i < 0) (Nat.not_lt_zero i), fun _ => hp, fun _ => by show D.pos < D.T.length; rw [hp]; exact List.length_pos_iff.2 hT⟩, e⟩
/-- An entry is hung where new ones are hung. -/
def Dc.hung (D : Dc) (e : DE) : Dc := if D.Y = [] then { D with T := hangT D.seed D.T e } else { D with Y := hangT D.seed D.Y e }
theorem hung_perm {D : Dc} (hT : D.T ≠ []) (e : DE) : (D.hung e).ents.Perm (e :: D.ents) := by
  unfold Dc.hung
  split
  · exact (hang_perm hT e).append_right _
  · rename_i hY
    exact ((hang_perm hY e).append_left _).trans List.perm_middle
theorem Dc.Wf.hung {D : Dc} (h : D.Wf) (hT : D.T ≠ []) {e : DE} (hk : ∀ x ∈ D.ents, x.key ≠ e.key) (hb : ∀ x ∈ D.ents, x.b ≠ e.b) (ht : e.key.length ≤ 140737488351232) (hf : D.ents.length < 1099511627776) : (D.hung e).Wf := by
  have hp := hung_perm hT e
  have e1 : (D.hung e).seed = D.seed := by unfold Dc.hung; split <;> rfl
  have e2 : (D.hung e).pos = D.pos := by unfold Dc.hung; split <;> rfl
  refine ⟨e1 ▸ h.seed, (hp.map _).nodup_iff.2 (List.nodup_cons.2 ⟨?_, h.keys⟩), (hp.map _).nodup_iff.2 (List.nodup_cons.2 ⟨?_, h.blocks⟩), ?_, ?_, ?_, ?_, ?_, ?_, ?_⟩
  · intro hm
    obtain ⟨x, hx, he⟩ := List.mem_map.1 hm
    exact hk x hx he
  · intro hm
    obtain ⟨x, hx, he⟩ := List.mem_map.1 hm
    exact hb x hx he
  · intro x hx
    rcases List.mem_cons.1 (hp.mem_iff.1 hx) with rfl | hx
    · exact ht
    · exact h.text x hx
  · rw [hp.length_eq, List.length_cons]; omega
  · unfold Dc.hung
    split
    · exact hang_placed hT h.placeT e
    · exact h.placeT
  · unfold Dc.hung
    split
    · exact h.placeY
    · rename_i hY; exact hang_placed hY h.placeY e
  · unfold Dc.hung
    split
    · rename_i hY
      intro i c hi _
      have : i < D.pos := hi
      rw [h.still hY] at this; cases this
    · exact h.past
  · unfold Dc.hung
    split
    · exact h.still
    · rename_i hY
      intro hh
      exact absurd hh (hangT_ne hY)
  · unfold Dc.hung
    split
    · rename_i hY
      exact fun hh => absurd hY hh
    · rename_i hY
      exact fun _ => h.moves hY
end Pantry
namespace Go.Proofs.Ytbjfigegiffefaa
open Go.RowKit Pantry

theorem ChainAt.mapE {w w' : World} {f : DE → DE} (hk : ∀ x, (f x).key = x.key) (hb : ∀ x, (f x).b = x.b) {c : List DE} (h : ChainAt w c)
    (hE : ∀ x ∈ c, ∀ q, w.heap[x.b]? = some (.cells #[.string ⟨x.key.toArray⟩, x.val, q] 97) → w'.heap[x.b]? = some (.cells #[.string ⟨x.key.toArray⟩, (f x).val, q] 97)) : ChainAt w' (c.map f) := by
  induction c with
  | nil => trivial
  | cons x c ih =>
    refine ⟨?_, ih h.2 fun y hy => hE y (List.mem_cons_of_mem _ hy)⟩
    rw [hb, hk, show (List.map f c) = c.map f from rfl, ptrOf_map f hb]
    exact hE x List.mem_cons_self _ h.1
theorem TabAt.mapE {w w' : World} {f : DE → DE} (hb : ∀ x, (f x).b = x.b) {b : Nat} {T : List (List DE)} (h : TabAt w b T) (hO : T ≠ [] → w'.heap[b]? = w.heap[b]?) : TabAt w' b (T.map (·.map f)) := by
  have hne : T.map (·.map f) ≠ [] → T ≠ [] := fun hh h0 => hh (by rw [h0]; rfl)
  refine ⟨fun hh => ?_, fun hh => by rw [List.length_map]; exact h.two (hne hh), by rw [List.length_map]; exact h.few⟩
  rw [hO (hne hh), h.cells (hne hh), List.map_map]
  have : (fun c => ptrOf c) = ptrOf ∘ (fun x : List DE => x.map f) := by funext c; exact (ptrOf_map f hb c).symm
  rw [← this]
theorem tabV_map (b : Nat) (T : List (List DE)) (f : DE → DE) : tabV b (T.map (·.map f)) = tabV b T := by
  unfold tabV
  by_cases h : T = []
  · subst h; rfl
  · rw [if_neg h, if_neg (fun hh => h (List.map_eq_nil_iff.1 hh)), List.length_map]
theorem DictAt.mapE {w w' : World} {d : Nat} {D : Dc} (h : DictAt w d D) (f : DE → DE) (hk : ∀ x, (f x).key = x.key) (hb : ∀ x, (f x).b = x.b)
    (hE : ∀ x ∈ D.ents, ∀ q, w.heap[x.b]? = some (.cells #[.string ⟨x.key.toArray⟩, x.val, q] 97) → w'.heap[x.b]? = some (.cells #[.string ⟨x.key.toArray⟩, (f x).val, q] 97))
    (hO : ∀ (k : Nat) (c : Array Value) (t : TypeId), w.heap[k]? = some (Obj.cells c t) → t ≠ 97 → w'.heap[k]? = some (Obj.cells c t)) : DictAt w' d (D.mapE f) := by
  refine ⟨?_, h.old.mapE hb fun hne => (hO _ _ _ (h.old.cells hne) (by decide)).trans (h.old.cells hne).symm, h.young.mapE hb fun hne => (hO _ _ _ (h.young.cells hne) (by decide)).trans (h.young.cells hne).symm, ?_, ?_, fun h1 h2 => h.ne (fun h0 => h1 (by show D.T.map _ = []; rw [h0]; rfl)) fun h0 => h2 (by show D.Y.map _ = []; rw [h0]; rfl)⟩
  · rw [hO _ _ _ h.head (by decide), Dc.mapE_ents, List.length_map]
    show _ = some (Obj.cells #[.int .u64 D.seed, tabV D.bo (D.T.map (·.map f)), tabV D.bn (D.Y.map (·.map f)), .int .i64 D.pos, _] 101 (0, 0))
    rw [tabV_map, tabV_map]
  · intro c hc
    obtain ⟨c0, hc0, rfl⟩ := List.mem_map.1 hc
    exact (h.chT c0 hc0).mapE hk hb fun x hx => hE x (List.mem_append.2 (.inl (List.mem_flatten.2 ⟨c0, hc0, hx⟩)))
  · intro c hc
    obtain ⟨c0, hc0, rfl⟩ := List.mem_map.1 hc
    exact (h.chY c0 hc0).mapE hk hb fun x hx => hE x (List.mem_append.2 (.inr (List.mem_flatten.2 ⟨c0, hc0, hx⟩)))
theorem mapE_foot {d : Nat} {D : Dc} {f : DE → DE} (hb : ∀ x, (f x).b = x.b) {k : Nat} (h : DFoot d (D.mapE f) k) : DFoot d D k := by
  rcases h with rfl | ⟨hne, rfl⟩ | ⟨hne, rfl⟩ | ⟨e, he, rfl⟩
  · exact .inl rfl
  · exact .inr (.inl ⟨fun h0 => hne (by show D.T.map _ = []; rw [h0]; rfl), rfl⟩)
  · exact .inr (.inr (.inl ⟨fun h0 => hne (by show D.Y.map _ = []; rw [h0]; rfl), rfl⟩))
  · rw [Dc.mapE_ents] at he
    obtain ⟨x, hx, rfl⟩ := List.mem_map.1 he
    exact .inr (.inr (.inr ⟨x, hx, hb x⟩))
/-- A call that changes a dict: what it holds then. -/
structure DOp (d : Nat) (D0 : Dc) (l : List (List UInt8 × Value)) (w w' : World) : Prop where
  ex : ∃ D : Dc, D.Wf ∧ D.seed = D0.seed ∧ DictAt w' d D ∧ D.kv.Perm l ∧ ∀ k, DFoot d D k → DFoot d D0 k ∨ w.heap.size ≤ k
  chg : Chg (DFoot d D0) w w'
/-- The value of an entry that is there is set. -/
theorem DOp.reval {w W : World} {d : Nat} {D0 D : Dc} (h : SI w d D0 W D) (hw : D.Wf) {e : DE} (he : e ∈ D.ents) (v : Value) :
    DOp d D0 (D0.kv.map fun p => if p.1 = e.key then (p.1, v) else p) w (W.setCell ⟨e.b, 1, none⟩ v) := by
  refine ⟨⟨D.mapE (Pantry.reval e.b v), hw.mapE _ (reval_key _ _) (reval_b _ _), h.seed, h.at_.mapE _ (reval_key _ _) (reval_b _ _) ?_ ?_, ?_, fun k hk => .inl (h.foot k (mapE_foot (reval_b _ _) hk))⟩, ?_⟩
  · intro x hx q hq
    by_cases hb : x.b = e.b
    · rw [← hb, heapSetHere hq]
      simp [Pantry.reval, hb]
    · rw [heapSetOther (p := ⟨e.b, 1, none⟩) hb, hq]
      simp [Pantry.reval, hb]
  · intro k c t hk ht
    obtain ⟨q, hq⟩ := h.at_.ent he
    rw [heapSetOther (p := ⟨e.b, 1, none⟩) (types_ne hk hq ht), hk]
  · rw [Dc.kv_reval hw he]
    exact (h.perm.map DE.kv).map _
  · exact h.chg.setCell (p := ⟨e.b, 1, none⟩) (fun _ => h.foot _ (.inr (.inr (.inr ⟨e, he, rfl⟩)))) _
end Go.Proofs.Ytbjfigegiffefaa
