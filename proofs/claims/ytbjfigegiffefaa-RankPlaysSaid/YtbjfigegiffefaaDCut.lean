/- An entry is taken out of its chain. -/
import Derived.Test.YtbjfigegiffefaaDGrow2
set_option linter.unusedVariables false
set_option linter.unusedSimpArgs false
namespace Pantry
open Go Go.RowKit
theorem lastA_spec (p : Addr) (pre : List DE) : (pre = [] ∧ lastA p pre = p) ∨ ∃ x ∈ pre, lastA p pre = ⟨x.b, 2, none⟩ := by
  rcases List.eq_nil_or_concat pre with h | ⟨l, x, h⟩
  · exact .inl ⟨h, by rw [h]; rfl⟩
  · exact .inr ⟨x, by rw [h]; simp, by rw [h, List.concat_eq_append]; exact lastA_snoc _ _ _⟩
theorem ptrOf_append {pre : List DE} (h : pre ≠ []) (a b : List DE) : ptrOf (pre ++ a) = ptrOf (pre ++ b) := by
  cases pre with
  | nil => exact absurd rfl h
  | cons x l => rfl
end Pantry
namespace Go.Proofs.Ytbjfigegiffefaa
open Go.RowKit Pantry

theorem chain_cut {w : World} {p : Addr} {pre : List DE} {e : DE} {post : List DE} (h : ChainAt w (pre ++ e :: post)) (hn : ((pre ++ e :: post).map (·.b)).Nodup) (hp : pre = [] → ∀ x ∈ post, x.b ≠ p.block) :
    ChainAt (w.setCell (lastA p pre) (ptrOf post)) (pre ++ post) := by
  induction pre generalizing p with
  | nil => exact (ChainAt.keep h.2 fun x hx => heapSetOther (hp rfl x hx))
  | cons x pre ih =>
    rw [List.cons_append, List.map_cons, List.nodup_cons] at hn
    have hx : ∀ y ∈ pre ++ e :: post, y.b ≠ x.b := fun y hy hh => hn.1 (List.mem_map.2 ⟨y, hy, hh⟩)
    by_cases h0 : pre = []
    · subst h0
      refine ⟨?_, ?_⟩
      · have := heapSetHere (j := 2) h.1 (ptrOf post)
        exact this
      · exact (ChainAt.keep h.2.2 fun y hy => heapSetOther (p := ⟨x.b, 2, none⟩) (hx y (List.mem_cons_of_mem _ hy)))
    · refine ⟨?_, ih h.2 hn.2 fun hh => absurd hh h0⟩
      rcases lastA_spec ⟨x.b, 2, none⟩ pre with ⟨hh, -⟩ | ⟨y, hy, hh⟩
      · exact absurd hh h0
      · have h1 : lastA p (x :: pre) = ⟨y.b, 2, none⟩ := hh
        rw [h1]
        refine (heapSetOther (p := ⟨y.b, 2, none⟩) (hx y (by simp [hy])).symm).trans ?_
        rw [h.1]
        rw [show (pre.append post) = pre ++ post from rfl, ptrOf_append h0 post (e :: post)]
        rfl
/-- What is changed where an entry is taken out. -/
structure CutAt (w w' : World) (b : Nat) (pre : List DE) (a : Addr) : Prop where
  addr : ∃ g j, a = ⟨g, j, none⟩ ∧ w.frozen? ⟨g, j, none⟩ = false ∧ (g = b ∨ ∃ x ∈ pre, g = x.b)
  other : ∀ k, k ≠ a.block → w'.heap[k]? = w.heap[k]?
theorem tab_cut {w : World} {seed b i : Nat} {T : List (List DE)} {pre : List DE} {e : DE} {post : List DE} (hT : TabAt w b T) (hc : ∀ c ∈ T, ChainAt w c) (hi : T[i]? = some (pre ++ e :: post)) (hp : Placed seed T) (hn : (T.flatten.map (·.b)).Nodup) :
    TabAt (w.setCell (lastA ⟨b, i, none⟩ pre) (ptrOf post)) b (T.set i (pre ++ post)) ∧ (∀ c ∈ T.set i (pre ++ post), ChainAt (w.setCell (lastA ⟨b, i, none⟩ pre) (ptrOf post)) c) ∧
    CutAt w (w.setCell (lastA ⟨b, i, none⟩ pre) (ptrOf post)) b pre (lastA ⟨b, i, none⟩ pre) := by
  have hne : T ≠ [] := by intro h0; rw [h0] at hi; cases hi
  have hci := hc _ (List.mem_of_getElem? hi)
  have hmem : ∀ x ∈ pre ++ e :: post, x ∈ T.flatten := fun x hx => List.mem_flatten.2 ⟨_, List.mem_of_getElem? hi, hx⟩
  have hni : ((pre ++ e :: post).map (·.b)).Nodup := by
    obtain ⟨A, B, h1, -⟩ := flat_at hi
    rw [h1] at hn
    exact (List.Sublist.map _ ((List.sublist_append_left _ B).trans (List.sublist_append_right A _))).nodup hn
  have hent : ∀ x ∈ pre ++ e :: post, x.b ≠ b := fun x hx => by
    obtain ⟨q, hq⟩ := hci.mem hx
    exact hT.ent_ne hne hq
  have hcut := chain_cut (p := ⟨b, i, none⟩) hci hni fun _ x hx => hent x (by simp [hx])
  have hother : ∀ k, k ≠ (lastA ⟨b, i, none⟩ pre).block → (w.setCell (lastA ⟨b, i, none⟩ pre) (ptrOf post)).heap[k]? = w.heap[k]? := fun k hk => heapSetOther hk
  have haddr : ∃ g j, lastA ⟨b, i, none⟩ pre = ⟨g, j, none⟩ ∧ w.frozen? ⟨g, j, none⟩ = false ∧ (g = b ∨ ∃ x ∈ pre, g = x.b) := by
    rcases lastA_spec ⟨b, i, none⟩ pre with ⟨-, hh⟩ | ⟨x, hx, hh⟩
    · exact ⟨b, i, hh, frozen_of_row w b i _ _ (hT.cells hne), .inl rfl⟩
    · obtain ⟨q, hq⟩ := hci.mem (e := x) (by simp [hx])
      exact ⟨x.b, 2, hh, frozen_of_row w x.b 2 _ _ hq, .inr ⟨x, hx, rfl⟩⟩
  refine ⟨⟨fun _ => ?_, fun _ => by rw [List.length_set]; exact hT.two hne, by rw [List.length_set]; exact hT.few⟩, ?_, haddr, hother⟩
  · rcases lastA_spec ⟨b, i, none⟩ pre with ⟨h0, hh⟩ | ⟨x, hx, hh⟩
    · rw [hh, heapSetHere (hT.cells hne), h0]
      simp [List.map_set]
    · rw [hh, heapSetOther (p := ⟨x.b, 2, none⟩) (hent x (by simp [hx])).symm, hT.cells hne]
      have h0 : pre ≠ [] := by intro h0; rw [h0] at hx; cases hx
      rw [List.map_set, ptrOf_append h0 post (e :: post)]
      have hg : (T.map ptrOf)[i]? = some (ptrOf (pre ++ e :: post)) := by rw [List.getElem?_map, hi]; rfl
      obtain ⟨hl, hg2⟩ := List.getElem?_eq_some_iff.1 hg
      rw [← hg2, List.set_getElem_self]
  · intro c hcc
    obtain ⟨j, hj, rfl⟩ := List.mem_iff_getElem.1 hcc
    have hg : (T.set i (pre ++ post))[j]? = some (T.set i (pre ++ post))[j] := List.getElem?_eq_getElem hj
    generalize (T.set i (pre ++ post))[j] = c at hg
    rw [List.getElem?_set] at hg
    by_cases hij : i = j
    · rw [if_pos hij] at hg
      split at hg
      · cases hg; exact hcut
      · cases hg
    · rw [if_neg hij] at hg
      refine (hc c (List.mem_of_getElem? hg)).keep fun x hx => ?_
      refine hother _ ?_
      obtain ⟨q, hq⟩ := (hc c (List.mem_of_getElem? hg)).mem hx
      rcases lastA_spec ⟨b, i, none⟩ pre with ⟨-, hh⟩ | ⟨y, hy, hh⟩
      · rw [hh]; exact hT.ent_ne hne hq
      · rw [hh]
        intro hb
        have : x = y := inj_of_nodup hn (List.mem_flatten.2 ⟨c, List.mem_of_getElem? hg, hx⟩) (hmem y (by simp [hy])) hb
        subst this
        exact hij ((hp i _ x hi (by simp [hy])).symm.trans (hp j c x hg hx))
/-- A dict without an entry. -/
def Dc.cutT (D : Dc) (i : Nat) (c : List DE) : Dc := { D with T := D.T.set i c }
def Dc.cutY (D : Dc) (i : Nat) (c : List DE) : Dc := { D with Y := D.Y.set i c }
theorem cutT_perm {D : Dc} {i : Nat} {pre : List DE} {e : DE} {post : List DE} (hi : D.T[i]? = some (pre ++ e :: post)) : D.ents.Perm (e :: (Dc.cutT D i (pre ++ post)).ents) := by
  obtain ⟨A, B, h1, h2⟩ := flat_at hi
  unfold Dc.cutT Dc.ents
  rw [h1, h2]
  simp only [List.append_assoc, List.cons_append]
  have := List.perm_middle (a := e) (l₁ := A ++ pre) (l₂ := post ++ (B ++ D.Y.flatten))
  simpa only [List.append_assoc] using this
theorem cutY_perm {D : Dc} {i : Nat} {pre : List DE} {e : DE} {post : List DE} (hi : D.Y[i]? = some (pre ++ e :: post)) : D.ents.Perm (e :: (Dc.cutY D i (pre ++ post)).ents) := by
  obtain ⟨A, B, h1, h2⟩ := flat_at hi
  unfold Dc.cutY Dc.ents
  rw [h1, h2]
  simp only [List.append_assoc, List.cons_append]
  have := List.perm_middle (a := e) (l₁ := D.T.flatten ++ (A ++ pre)) (l₂ := post ++ B)
  simpa only [List.append_assoc] using this
theorem placed_cut {seed : Nat} {T : List (List DE)} {i : Nat} {pre : List DE} {e : DE} {post : List DE} (h : Placed seed T) (hi : T[i]? = some (pre ++ e :: post)) : Placed seed (T.set i (pre ++ post)) := by
  intro j c x hj hx
  rw [List.length_set]
  rw [List.getElem?_set] at hj
  by_cases hij : i = j
  · rw [if_pos hij] at hj
    split at hj
    · cases hj
      rw [← hij]
      refine h i _ x hi ?_
      rcases List.mem_append.1 hx with hx | hx
      · simp [hx]
      · simp [hx]
    · cases hj
  · rw [if_neg hij] at hj
    exact h j c x hj hx
theorem wf_cut {D D' : Dc} {e : DE} (h : D.Wf) (hp : D.ents.Perm (e :: D'.ents)) (hs : D'.seed = D.seed) (h1 : Placed D.seed D'.T) (h2 : Placed D.seed D'.Y) (h3 : ∀ i c, i < D'.pos → D'.T[i]? = some c → c = []) (h4 : D'.Y = [] → D'.pos = 0) (h5 : D'.Y ≠ [] → D'.pos < D'.T.length) : D'.Wf := by
  have hk := (hp.map (·.key)).nodup_iff.1 h.keys
  have hb := (hp.map (·.b)).nodup_iff.1 h.blocks
  have hl := hp.length_eq
  have hf := h.few
  rw [List.length_cons] at hl
  exact ⟨hs ▸ h.seed, (List.nodup_cons.1 hk).2, (List.nodup_cons.1 hb).2, fun x hx => h.text x (hp.mem_iff.2 (List.mem_cons_of_mem _ hx)), by omega, hs ▸ h1, hs ▸ h2, h3, h4, h5⟩
theorem kv_cut {D D' D0 : Dc} {e : DE} {l : List (List UInt8 × Value)} (h : D.Wf) (hl : D.kv.Perm l) (hp : D.ents.Perm (e :: D'.ents)) : D'.kv.Perm (l.filter fun p => !(p.1 == e.key)) := by
  have hk := (hp.map (·.key)).nodup_iff.1 h.keys
  rw [List.map_cons, List.nodup_cons] at hk
  have h1 : (D'.kv).filter (fun p => !(p.1 == e.key)) = D'.kv := by
    rw [List.filter_eq_self]
    intro p hp
    obtain ⟨x, hx, rfl⟩ := List.mem_map.1 hp
    have : x.key ≠ e.key := fun hh => hk.1 (List.mem_map.2 ⟨x, hx, hh⟩)
    simpa [DE.kv] using this
  have h2 : ((e.kv :: D'.kv).filter fun p => !(p.1 == e.key)) = D'.kv := by
    rw [List.filter_cons_of_neg (by simp [DE.kv]), h1]
  have h3 := ((hp.map DE.kv).symm.trans hl).filter (fun p => !(p.1 == e.key))
  rw [List.map_cons] at h3
  rw [← h2]
  exact h3
theorem set_ne_nil {α : Type} {l : List α} {i : Nat} {x : α} : l.set i x = [] ↔ l = [] := by
  constructor
  · intro h
    have := congrArg List.length h
    rw [List.length_set] at this
    exact List.length_eq_zero_iff.1 this
  · rintro rfl; rfl
theorem tabV_set (b : Nat) (T : List (List DE)) (i : Nat) (c : List DE) : tabV b (T.set i c) = tabV b T := by
  unfold tabV
  by_cases h : T = []
  · rw [if_pos h, if_pos (set_ne_nil.2 h)]
  · rw [if_neg h, if_neg fun hh => h (set_ne_nil.1 hh), List.length_set]
/-- Out of either table: what the worlds are then, with the number in the head one less. -/
theorem SI.cut {w W : World} {d : Nat} {D0 D : Dc} {key : List UInt8} {a : Addr} {c pre post : List DE} {e : DE} (h : SI w d D0 W D) (hw : D.Wf)
    (hf : FoundIn D.seed D.bo D.T key a c pre e post ∨ FoundIn D.seed D.bn D.Y key a c pre e post) :
    ∃ D' : Dc, D'.Wf ∧ D'.ents.length + 1 = D.ents.length ∧ (D'.T ≠ [] ∧ D'.T.length = D.T.length ∧ D'.bo = D.bo) ∧ (D'.Y = [] ↔ D.Y = []) ∧ (∃ g j, a = ⟨g, j, none⟩ ∧ W.frozen? ⟨g, j, none⟩ = false ∧ g ≠ d) ∧
      SG w d D0 (D0.kv.filter fun p => !(p.1 == key)) ((W.setCell a (ptrOf post)).setCell ⟨d, 4, none⟩ (.int .i64 (D'.ents.length : Nat))) D' := by
  have hnodT : (D.T.flatten.map (·.b)).Nodup := (List.Sublist.map _ (List.sublist_append_left _ _)).nodup hw.blocks
  have hnodY : (D.Y.flatten.map (·.b)).Nodup := (List.Sublist.map _ (List.sublist_append_right _ _)).nodup hw.blocks
  have hdisj : ∀ x ∈ D.T.flatten, ∀ y ∈ D.Y.flatten, x.b ≠ y.b := by
    have := hw.blocks
    unfold Dc.ents at this
    rw [List.map_append, List.nodup_append] at this
    intro x hx y hy
    exact this.2.2 _ (List.mem_map.2 ⟨x, hx, rfl⟩) _ (List.mem_map.2 ⟨y, hy, rfl⟩)
  have hentd : ∀ x ∈ D.ents, x.b ≠ d := fun x hx => by
    obtain ⟨q, hq⟩ := h.at_.ent hx
    exact h.at_.ne_ent hq
  have oth : ∀ (v : Value) k, k ≠ d → ((W.setCell a (ptrOf post)).setCell ⟨d, 4, none⟩ v).heap[k]? = (W.setCell a (ptrOf post)).heap[k]? := fun v k hk => heapSetOther (p := ⟨d, 4, none⟩) hk
  rcases hf with hf | hf
  · -- the first table
    have hi := hf.bucket
    rw [hf.parts] at hi
    have hT : D.T ≠ [] := by intro h0; rw [h0] at hi; cases hi
    obtain ⟨h1, h2, h3⟩ := tab_cut h.at_.old h.at_.chT hi hw.placeT hnodT
    rw [← hf.addr] at h1 h2 h3
    obtain ⟨i, hii⟩ : ∃ i, dslotN D.seed key D.T.length = i := ⟨_, rfl⟩
    rw [hii] at hi h1 h2
    have hperm := cutT_perm hi
    obtain ⟨g, j, ha, hfz, hg⟩ := h3.addr
    have hgd : g ≠ d := by
      rcases hg with rfl | ⟨x, hx, rfl⟩
      · exact h.at_.ne_old hT
      · exact hentd x (List.mem_append.2 (.inl (List.mem_flatten.2 ⟨_, List.mem_of_getElem? hi, by simp [hx]⟩)))
    have hab : a.block = g := by rw [ha]
    have hwf : (Dc.cutT D i (pre ++ post)).Wf := by
      refine wf_cut hw hperm rfl (placed_cut hw.placeT hi) hw.placeY ?_ hw.still ?_
      · intro k c' hk hg'
        have hg2 : (D.T.set i (pre ++ post))[k]? = some c' := hg'
        rw [List.getElem?_set] at hg2
        by_cases hik : i = k
        · subst hik
          have := hw.past i _ hk hi
          simp at this
        · rw [if_neg hik] at hg2
          exact hw.past k c' hk hg2
      · intro hY
        show D.pos < (D.T.set i (pre ++ post)).length
        rw [List.length_set]; exact hw.moves hY
    have hl := hperm.length_eq
    rw [List.length_cons] at hl
    refine ⟨Dc.cutT D i (pre ++ post), hwf, hl.symm, ⟨fun h0 => hT (set_ne_nil.1 h0), List.length_set, rfl⟩, Iff.rfl, ⟨g, j, ha, hfz, hgd⟩, h.seed, ?_, ⟨?_, ?_, ?_, ?_, ?_, fun _ hY => h.at_.ne hT hY⟩, ?_, ?_⟩
    · rw [← hf.key]; exact kv_cut (D0 := D0) hw (h.perm.map DE.kv) hperm
    · rw [heapSetHere ((h3.other d (by rw [hab]; exact hgd.symm)).trans h.at_.head)]
      show _ = some (Obj.cells #[.int .u64 D.seed, tabV D.bo (D.T.set i (pre ++ post)), tabV D.bn D.Y, .int .i64 D.pos, _] 101 (0, 0))
      rw [tabV_set]
      rfl
    · exact h1.keep fun _ => oth _ _ (h.at_.ne_old hT)
    · exact h.at_.young.keep fun hY => (oth _ _ (h.at_.ne_young hY)).trans (h3.other _ (by
        rw [hab]
        rcases hg with rfl | ⟨x, hx, rfl⟩
        · exact (h.at_.ne hT hY).symm
        · obtain ⟨q, hq⟩ := (h.at_.chT _ (List.mem_of_getElem? hi)).mem (e := x) (by simp [hx])
          exact (h.at_.young.ent_ne hY hq).symm))
    · exact fun c' hc' => (h2 c' hc').keep fun x hx => by
        obtain ⟨q, hq⟩ := (h2 c' hc').mem hx
        exact oth _ _ (types_ne hq ((h3.other d (by rw [hab]; exact hgd.symm)).trans h.at_.head) (by decide))
    · exact fun c' hc' => (h.at_.chY c' hc').keep fun x hx => by
        obtain ⟨q, hq⟩ := (h.at_.chY c' hc').mem hx
        refine (oth _ _ (h.at_.ne_ent hq)).trans (h3.other _ ?_)
        rw [hab]
        rcases hg with rfl | ⟨y, hy, rfl⟩
        · exact h.at_.old.ent_ne hT hq
        · exact (hdisj y (List.mem_flatten.2 ⟨_, List.mem_of_getElem? hi, by simp [hy]⟩) x (List.mem_flatten.2 ⟨c', hc', hx⟩)).symm
    · refine (h.chg.setCell (p := a) (fun _ => ?_) _).setCell (p := ⟨d, 4, none⟩) (fun _ => .inl rfl) _
      rw [hab]
      rcases hg with rfl | ⟨x, hx, rfl⟩
      · exact h.foot _ (.inr (.inl ⟨hT, rfl⟩))
      · exact h.foot _ (.inr (.inr (.inr ⟨x, List.mem_append.2 (.inl (List.mem_flatten.2 ⟨_, List.mem_of_getElem? hi, by simp [hx]⟩)), rfl⟩)))
    · rintro k (rfl | ⟨hne, rfl⟩ | ⟨hne, rfl⟩ | ⟨x, hx, rfl⟩)
      · exact .inl (.inl rfl)
      · exact .inl (h.foot _ (.inr (.inl ⟨hT, rfl⟩)))
      · exact .inl (h.foot _ (.inr (.inr (.inl ⟨hne, rfl⟩))))
      · exact .inl (h.foot _ (.inr (.inr (.inr ⟨x, hperm.mem_iff.2 (List.mem_cons_of_mem _ hx), rfl⟩))))
  · -- the second table
    have hi := hf.bucket
    rw [hf.parts] at hi
    have hY : D.Y ≠ [] := by intro h0; rw [h0] at hi; cases hi
    have hT : D.T ≠ [] := by intro h0; have := hw.moves hY; rw [h0] at this; cases this
    obtain ⟨h1, h2, h3⟩ := tab_cut h.at_.young h.at_.chY hi hw.placeY hnodY
    rw [← hf.addr] at h1 h2 h3
    obtain ⟨i, hii⟩ : ∃ i, dslotN D.seed key D.Y.length = i := ⟨_, rfl⟩
    rw [hii] at hi h1 h2
    have hperm := cutY_perm hi
    obtain ⟨g, j, ha, hfz, hg⟩ := h3.addr
    have hgd : g ≠ d := by
      rcases hg with rfl | ⟨x, hx, rfl⟩
      · exact h.at_.ne_young hY
      · exact hentd x (List.mem_append.2 (.inr (List.mem_flatten.2 ⟨_, List.mem_of_getElem? hi, by simp [hx]⟩)))
    have hab : a.block = g := by rw [ha]
    have hwf : (Dc.cutY D i (pre ++ post)).Wf :=
      wf_cut hw hperm rfl hw.placeT (placed_cut hw.placeY hi) hw.past (fun hh => hw.still (set_ne_nil.1 hh)) fun hh => hw.moves fun h0 => hh (set_ne_nil.2 h0)
    have hl := hperm.length_eq
    rw [List.length_cons] at hl
    refine ⟨Dc.cutY D i (pre ++ post), hwf, hl.symm, ⟨hT, rfl, rfl⟩, set_ne_nil, ⟨g, j, ha, hfz, hgd⟩, h.seed, ?_, ⟨?_, ?_, ?_, ?_, ?_, fun _ _ => h.at_.ne hT hY⟩, ?_, ?_⟩
    · rw [← hf.key]; exact kv_cut (D0 := D0) hw (h.perm.map DE.kv) hperm
    · rw [heapSetHere ((h3.other d (by rw [hab]; exact hgd.symm)).trans h.at_.head)]
      show _ = some (Obj.cells #[.int .u64 D.seed, tabV D.bo D.T, tabV D.bn (D.Y.set i (pre ++ post)), .int .i64 D.pos, _] 101 (0, 0))
      rw [tabV_set]
      rfl
    · exact h.at_.old.keep fun _ => (oth _ _ (h.at_.ne_old hT)).trans (h3.other _ (by
        rw [hab]
        rcases hg with rfl | ⟨x, hx, rfl⟩
        · exact h.at_.ne hT hY
        · obtain ⟨q, hq⟩ := (h.at_.chY _ (List.mem_of_getElem? hi)).mem (e := x) (by simp [hx])
          exact (h.at_.old.ent_ne hT hq).symm))
    · exact h1.keep fun _ => oth _ _ (h.at_.ne_young hY)
    · exact fun c' hc' => (h.at_.chT c' hc').keep fun x hx => by
        obtain ⟨q, hq⟩ := (h.at_.chT c' hc').mem hx
        refine (oth _ _ (h.at_.ne_ent hq)).trans (h3.other _ ?_)
        rw [hab]
        rcases hg with rfl | ⟨y, hy, rfl⟩
        · exact h.at_.young.ent_ne hY hq
        · exact hdisj x (List.mem_flatten.2 ⟨c', hc', hx⟩) y (List.mem_flatten.2 ⟨_, List.mem_of_getElem? hi, by simp [hy]⟩)
    · exact fun c' hc' => (h2 c' hc').keep fun x hx => by
        obtain ⟨q, hq⟩ := (h2 c' hc').mem hx
        exact oth _ _ (types_ne hq ((h3.other d (by rw [hab]; exact hgd.symm)).trans h.at_.head) (by decide))
    · refine (h.chg.setCell (p := a) (fun _ => ?_) _).setCell (p := ⟨d, 4, none⟩) (fun _ => .inl rfl) _
      rw [hab]
      rcases hg with rfl | ⟨x, hx, rfl⟩
      · exact h.foot _ (.inr (.inr (.inl ⟨hY, rfl⟩)))
      · exact h.foot _ (.inr (.inr (.inr ⟨x, List.mem_append.2 (.inr (List.mem_flatten.2 ⟨_, List.mem_of_getElem? hi, by simp [hx]⟩)), rfl⟩)))
    · rintro k (rfl | ⟨hne, rfl⟩ | ⟨hne, rfl⟩ | ⟨x, hx, rfl⟩)
      · exact .inl (.inl rfl)
      · exact .inl (h.foot _ (.inr (.inl ⟨hT, rfl⟩)))
      · exact .inl (h.foot _ (.inr (.inr (.inl ⟨hY, rfl⟩))))
      · exact .inl (h.foot _ (.inr (.inr (.inr ⟨x, hperm.mem_iff.2 (List.mem_cons_of_mem _ hx), rfl⟩))))
end Go.Proofs.Ytbjfigegiffefaa
