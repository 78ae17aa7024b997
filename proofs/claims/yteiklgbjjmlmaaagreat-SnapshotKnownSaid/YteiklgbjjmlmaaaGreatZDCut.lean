
/- An entry is taken out of its chain. -/
import Derived.Test.YteiklgbjjmlmaaaGreatZDGet
set_option linter.unusedVariables false
set_option linter.unusedSimpArgs false
namespace Go.Proofs.YteiklgbjjmlmaaaGreat
open Go.RowKit Pantry

theorem chain_cut {w : World} {p : Addr} {pre : List DE} {e : DE} {post : List DE} (h : ChainAt w (pre ++ e :: post)) (hn : ((pre ++ e :: post).map (·.b)).Nodup) (hp : pre = [] → ∀ x ∈ post, x.b ≠ p.block) :
    ChainAt (w.setCell (lastA p pre) (ptrOf post)) (pre ++ post) := by
  induction pre generalizing p with
  | nil => exact (ChainAt.keep h.2 fun x hx => heapSetOther (hp rfl x hx))
  | cons x pre ih =>
    rw [List.cons_append, List.map_cons, List.nodup_cons] at hn
    have hx : ∀ y ∈ pre ++ e :: post, y.b ≠ x.b := fun y hy hh => hn.1 (List.mem_map.2 ⟨y, hy, hh⟩)
    by_cases h0 : pre = []
    · subst h0
      refine ⟨?_, ?_⟩
      · have := heapSetHere (j := 2) h.1 (ptrOf post)
        exact this
      · exact (ChainAt.keep h.2.2 fun y hy => heapSetOther (p := ⟨x.b, 2, none⟩) (hx y (List.mem_cons_of_mem _ hy)))
    · refine ⟨?_, ih h.2 hn.2 fun hh => absurd hh h0⟩
      rcases lastA_spec ⟨x.b, 2, none⟩ pre with ⟨hh, -⟩ | ⟨y, hy, hh⟩
      · exact absurd hh h0
      · have h1 : lastA p (x :: pre) = ⟨y.b, 2, none⟩ := hh
        rw [h1]
        refine (heapSetOther (p := ⟨y.b, 2, none⟩) (hx y (by simp [hy])).symm).trans ?_
        rw [h.1]
        rw [show (pre.append post) = pre ++ post from rfl, ptrOf_append h0 post (e :: post)]
        rfl
/-- What is changed where an entry is taken out. -/
structure CutAt (w w' : World) (b : Nat) (pre : List DE) (a : Addr) : Prop where
  addr : ∃ g j, a = ⟨g, j, none⟩ ∧ w.frozen? ⟨g, j, none⟩ = false ∧ (g = b ∨ ∃ x ∈ pre, g = x.b)
  other : ∀ k, k ≠ a.block → w'.heap[k]? = w.heap[k]?
theorem tab_cut {w : World} {seed b i : Nat} {T : List (List DE)} {pre : List DE} {e : DE} {post : List DE} (hT : TabAt w b T) (hc : ∀ c ∈ T, ChainAt w c) (hi : T[i]? = some (pre ++ e :: post)) (hp : Placed seed T) (hn : (T.flatten.map (·.b)).Nodup) :
    TabAt (w.setCell (lastA ⟨b, i, none⟩ pre) (ptrOf post)) b (T.set i (pre ++ post)) ∧ (∀ c ∈ T.set i (pre ++ post), ChainAt (w.setCell (lastA ⟨b, i, none⟩ pre) (ptrOf post)) c) ∧
    CutAt w (w.setCell (lastA ⟨b, i, none⟩ pre) (ptrOf post)) b pre (lastA ⟨b, i, none⟩ pre) := by
  have hne : T ≠ [] := by intro h0; rw [h0] at hi; cases hi
  have hci := hc _ (List.mem_of_getElem? hi)
  have hmem : ∀ x ∈ pre ++ e :: post, x ∈ T.flatten := fun x hx => List.mem_flatten.2 ⟨_, List.mem_of_getElem? hi, hx⟩
  have hni : ((pre ++ e :: post).map (·.b)).Nodup := by
    obtain ⟨A, B, h1, -⟩ := flat_at hi
    rw [h1] at hn
    exact (List.Sublist.map _ ((List.sublist_append_left _ B).trans (List.sublist_append_right A _))).nodup hn
  have hent : ∀ x ∈ pre ++ e :: post, x.b ≠ b := fun x hx => by
    obtain ⟨q, hq⟩ := hci.mem hx
    exact hT.ent_ne hne hq
  have hcut := chain_cut (p := ⟨b, i, none⟩) hci hni fun _ x hx => hent x (by simp [hx])
  have hother : ∀ k, k ≠ (lastA ⟨b, i, none⟩ pre).block → (w.setCell (lastA ⟨b, i, none⟩ pre) (ptrOf post)).heap[k]? = w.heap[k]? := fun k hk => heapSetOther hk
  have haddr : ∃ g j, lastA ⟨b, i, none⟩ pre = ⟨g, j, none⟩ ∧ w.frozen? ⟨g, j, none⟩ = false ∧ (g = b ∨ ∃ x ∈ pre, g = x.b) := by
    rcases lastA_spec ⟨b, i, none⟩ pre with ⟨-, hh⟩ | ⟨x, hx, hh⟩
    · exact ⟨b, i, hh, frozen_of_row w b i _ _ (hT.cells hne), .inl rfl⟩
    · obtain ⟨q, hq⟩ := hci.mem (e := x) (by simp [hx])
      exact ⟨x.b, 2, hh, frozen_of_row w x.b 2 _ _ hq, .inr ⟨x, hx, rfl⟩⟩
  refine ⟨⟨fun _ => ?_, fun _ => by rw [List.length_set]; exact hT.two hne, by rw [List.length_set]; exact hT.few⟩, ?_, haddr, hother⟩
  · rcases lastA_spec ⟨b, i, none⟩ pre with ⟨h0, hh⟩ | ⟨x, hx, hh⟩
    · rw [hh, heapSetHere (hT.cells hne), h0]
      simp [List.map_set]
    · rw [hh, heapSetOther (p := ⟨x.b, 2, none⟩) (hent x (by simp [hx])).symm, hT.cells hne]
      have h0 : pre ≠ [] := by intro h0; rw [h0] at hx; cases hx
      rw [List.map_set, ptrOf_append h0 post (e :: post)]
      have hg : (T.map ptrOf)[i]? = some (ptrOf (pre ++ e :: post)) := by rw [List.getElem?_map, hi]; rfl
      obtain ⟨hl, hg2⟩ := List.getElem?_eq_some_iff.1 hg
      rw [← hg2, List.set_getElem_self]
  · intro c hcc
    obtain ⟨j, hj, rfl⟩ := List.mem_iff_getElem.1 hcc
    have hg : (T.set i (pre ++ post))[j]? = some (T.set i (pre ++ post))[j] := List.getElem?_eq_getElem hj
    generalize (T.set i (pre ++ post))[j] = c at hg
    rw [List.getElem?_set] at hg
    by_cases hij : i = j
    · rw [if_pos hij] at hg
      split at hg
      · cases hg; exact hcut
      · cases hg
    · rw [if_neg hij] at hg
      refine (hc c (List.mem_of_getElem? hg)).keep fun x hx => ?_
      refine hother _ ?_
      obtain ⟨q, hq⟩ := (hc c (List.mem_of_getElem? hg)).mem hx
      rcases lastA_spec ⟨b, i, none⟩ pre with ⟨-, hh⟩ | ⟨y, hy, hh⟩
      · rw [hh]; exact hT.ent_ne hne hq
      · rw [hh]
        intro hb
        have : x = y := inj_of_nodup hn (List.mem_flatten.2 ⟨c, List.mem_of_getElem? hg, hx⟩) (hmem y (by simp [hy])) hb
        subst this
        exact hij ((hp i _ x hi (by simp [hy])).symm.trans (hp j c x hg hx))
/-- A dict without an entry. -/
def Dc.cutT (D : Dc) (i : Nat) (c : List DE) : Dc := { D with T := D.T.set i c }
def Dc.cutY (D : Dc) (i : Nat) (c : List DE) : Dc := { D with Y := D.Y.set i c }
theorem cutT_perm {D : Dc} {i : Nat} {pre : List DE} {e : DE} {post : List DE} (hi : D.T[i]? = some (pre ++ e :: post)) : D.ents.Perm (e :: (Dc.cutT D i (pre ++ post)).ents) := by
  obtain ⟨A, B, h1, h2⟩ := flat_at hi
  unfold Dc.cutT Dc.ents
  rw [h1, h2]
  simp only [List.append_assoc, List.cons_append]
  have := List.perm_middle (a := e) (l₁ := A ++ pre) (l₂ := post ++ (B ++ D.Y.flatten))
  simpa only [List.append_assoc] using this
theorem cutY_perm {D : Dc} {i : Nat} {pre : List DE} {e : DE} {post : List DE} (hi : D.Y[i]? = some (pre ++ e :: post)) : D.ents.Perm (e :: (Dc.cutY D i (pre ++ post)).ents) := by
  obtain ⟨A, B, h1, h2⟩ := flat_at hi
  unfold Dc.cutY Dc.ents
  rw [h1, h2]
  simp only [List.append_assoc, List.cons_append]
  have := List.perm_middle (a := e) (l₁ := D.T.flatten ++ (A ++ pre)) (l₂ := post ++ B)
  simpa only [List.append_assoc] using this
theorem placed_cut {seed : Nat} {T : List (List DE)} {i : Nat} {pre : List DE} {e : DE} {post : List DE} (h : Placed seed T) (hi : T[i]? = some (pre ++ e :: post)) : Placed seed (T.set i (pre ++ post)) := by
  intro j c x hj hx
  rw [List.length_set]
  rw [List.getElem?_set] at hj
  by_cases hij : i = j
  · rw [if_pos hij] at hj
    split at hj
    · cases hj
      rw [← hij]
      refine h i _ x hi ?_
      rcases List.mem_append.1 hx with hx | hx
      · simp [hx]
      · simp [hx]
    · cases hj
  · rw [if_neg hij] at hj
    exact h j c x hj hx
theorem wf_cut {D D' : Dc} {e : DE} (h : D.Wf) (hp : D.ents.Perm (e :: D'.ents)) (hs : D'.seed = D.seed) (h1 : Placed D.seed D'.T) (h2 : Placed D.seed D'.Y) (h3 : ∀ i c, i < D'.pos → D'.T[i]? = some c → c = []) (h4 : D'.Y = [] → D'.pos = 0) (h5 : D'.Y ≠ [] → D'.pos < D'.T.length) : D'.Wf := by
  have hk := (hp.map (·.key)).nodup_iff.1 h.keys
  have hb := (hp.map (·.b)).nodup_iff.1 h.blocks
  have hl := hp.length_eq
  have hf := h.few
  rw [List.length_cons] at hl
  exact ⟨hs ▸ h.seed, (List.nodup_cons.1 hk).2, (List.nodup_cons.1 hb).2, fun x hx => h.text x (hp.mem_iff.2 (List.mem_cons_of_mem _ hx)), by omega, hs ▸ h1, hs ▸ h2, h3, h4, h5⟩
theorem kv_cut {D D' D0 : Dc} {e : DE} {l : List (List UInt8 × Value)} (h : D.Wf) (hl : D.kv.Perm l) (hp : D.ents.Perm (e :: D'.ents)) : D'.kv.Perm (l.filter fun p => !(p.1 == e.key)) := by
  have hk := (hp.map (·.key)).nodup_iff.1 h.keys
  rw [List.map_cons, List.nodup_cons] at hk
  have h1 : (D'.kv).filter (fun p => !(p.1 == e.key)) = D'.kv := by
    rw [List.filter_eq_self]
    intro p hp
    obtain ⟨x, hx, rfl⟩ := List.mem_map.1 hp
    have : x.key ≠ e.key := fun hh => hk.1 (List.mem_map.2 ⟨x, hx, hh⟩)
    simpa [DE.kv] using this
  have h2 : ((e.kv :: D'.kv).filter fun p => !(p.1 == e.key)) = D'.kv := by
    rw [List.filter_cons_of_neg (by simp [DE.kv]), h1]
  have h3 := ((hp.map DE.kv).symm.trans hl).filter (fun p => !(p.1 == e.key))
  rw [List.map_cons] at h3
  rw [← h2]
  exact h3
theorem set_ne_nil {α : Type} {l : List α} {i : Nat} {x : α} : l.set i x = [] ↔ l = [] := by
  constructor
  · intro h
    have := congrArg List.length h
    rw [List.length_set] at this
    exact List.length_eq_zero_iff.1 this
  · rintro rfl; rfl
theorem tabV_set (b : Nat) (T : List (List DE)) (i : Nat) (c : List DE) : tabV b (T.set i c) = tabV b T := by
  unfold tabV
  by_cases h : T = []
  · rw [if_pos h, if_pos (set_ne_nil.2 h)]
  · rw [if_neg h, if_neg fun hh => h (set_ne_nil.1 hh), List.length_set]
/-- Out of either table: what the worlds are then, with the number in the head one less. -/
theorem SI.cut {w W : World} {d : Nat} {D0 D : Dc} {key : List UInt8} {a : Addr} {c pre post : List DE} {e : DE} (h : SI w d D0 W D) (hw : D.Wf)
    (hf : FoundIn D.seed D.bo D.T key a c pre e post ∨ FoundIn D.seed D.bn D.Y key a c pre e post) :
    ∃ D' : Dc, D'.Wf ∧ D'.ents.length + 1 = D.ents.length ∧ (D'.T ≠ [] ∧ D'.T.length = D.T.length ∧ D'.bo = D.bo) ∧ (D'.Y = [] ↔ D.Y = []) ∧ (∃ g j, a = ⟨g, j, none⟩ ∧ W.frozen? ⟨g, j, none⟩ = false ∧ g ≠ d) ∧
      SG w d D0 (D0.kv.filter fun p => !(p.1 == key)) ((W.setCell a (ptrOf post)).setCell ⟨d, 4, none⟩ (.int .i64 (D'.ents.length : Nat))) D' := by
  have hnodT : (D.T.flatten.map (·.b)).Nodup := (List.Sublist.map _ (List.sublist_append_left _ _)).nodup hw.blocks
  have hnodY : (D.Y.flatten.map (·.b)).Nodup := (List.Sublist.map _ (List.sublist_append_right _ _)).nodup hw.blocks
  have hdisj : ∀ x ∈ D.T.flatten, ∀ y ∈ D.Y.flatten, x.b ≠ y.b := by
    have := hw.blocks
    unfold Dc.ents at this
    rw [List.map_append, List.nodup_append] at this
    intro x hx y hy
    exact this.2.2 _ (List.mem_map.2 ⟨x, hx, rfl⟩) _ (List.mem_map.2 ⟨y, hy, rfl⟩)
  have hentd : ∀ x ∈ D.ents, x.b ≠ d := fun x hx => by
    obtain ⟨q, hq⟩ := h.at_.ent hx
    exact h.at_.ne_ent hq
  have oth : ∀ (v : Value) k, k ≠ d → ((W.setCell a (ptrOf post)).setCell ⟨d, 4, none⟩ v).heap[k]? = (W.setCell a (ptrOf post)).heap[k]? := fun v k hk => heapSetOther (p := ⟨d, 4, none⟩) hk
  rcases hf with hf | hf
  · -- the first table
    have hi := hf.bucket
    rw [hf.parts] at hi
    have hT : D.T ≠ [] := by intro h0; rw [h0] at hi; cases hi
    obtain ⟨h1, h2, h3⟩ := tab_cut h.at_.old h.at_.chT hi hw.placeT hnodT
    rw [← hf.addr] at h1 h2 h3
    obtain ⟨i, hii⟩ : ∃ i, dslotN D.seed key D.T.length = i := ⟨_, rfl⟩
    rw [hii] at hi h1 h2
    have hperm := cutT_perm hi
    obtain ⟨g, j, ha, hfz, hg⟩ := h3.addr
    have hgd : g ≠ d := by
      rcases hg with rfl | ⟨x, hx, rfl⟩
      · exact h.at_.ne_old hT
      · exact hentd x (List.mem_append.2 (.inl (List.mem_flatten.2 ⟨_, List.mem_of_getElem? hi, by simp [hx]⟩)))
    have hab : a.block = g := by rw [ha]
    have hwf : (Dc.cutT D i (pre ++ post)).Wf := by
      refine wf_cut hw hperm rfl (placed_cut hw.placeT hi) hw.placeY ?_ hw.still ?_
      · intro k c' hk hg'
        have hg2 : (D.T.set i (pre ++ post))[k]? = some c' := hg'
        rw [List.getElem?_set] at hg2
        by_cases hik : i = k
        · subst hik
          have := hw.past i _ hk hi
          simp at this
        · rw [if_neg hik] at hg2
          exact hw.past k c' hk hg2
      · intro hY
        show D.pos < (D.T.set i (pre ++ post)).length
        rw [List.length_set]; exact hw.moves hY
    have hl := hperm.length_eq
    rw [List.length_cons] at hl
    refine ⟨Dc.cutT D i (pre ++ post), hwf, hl.symm, ⟨fun h0 => hT (set_ne_nil.1 h0), List.length_set, rfl⟩, Iff.rfl, ⟨g, j, ha, hfz, hgd⟩, h.seed, ?_, ⟨?_, ?_, ?_, ?_, ?_, fun _ hY => h.at_.ne hT hY⟩, ?_, ?_⟩
    · rw [← hf.key]; exact kv_cut (D0 := D0) hw (h.perm.map DE.kv) hperm
    · rw [heapSetHere ((h3.other d (by rw [hab]; exact hgd.symm)).trans h.at_.head)]
      show _ = some (Obj.cells #[.int .u64 D.seed, tabV D.bo (D.T.set i (pre ++ post)), tabV D.bn D.Y, .int .i64 D.pos, _] 210 (0, 0))
      rw [tabV_set]
      rfl
    · exact h1.keep fun _ => oth _ _ (h.at_.ne_old hT)
    · exact h.at_.young.keep fun hY => (oth _ _ (h.at_.ne_young hY)).trans (h3.other _ (by
        rw [hab]
        rcases hg with rfl | ⟨x, hx, rfl⟩
        · exact (h.at_.ne hT hY).symm
        · obtain ⟨q, hq⟩ := (h.at_.chT _ (List.mem_of_getElem? hi)).mem (e := x) (by simp [hx])
          exact (h.at_.young.ent_ne hY hq).symm))
    · exact fun c' hc' => (h2 c' hc').keep fun x hx => by
        obtain ⟨q, hq⟩ := (h2 c' hc').mem hx
        exact oth _ _ (types_ne hq ((h3.other d (by rw [hab]; exact hgd.symm)).trans h.at_.head) (by decide))
    · exact fun c' hc' => (h.at_.chY c' hc').keep fun x hx => by
        obtain ⟨q, hq⟩ := (h.at_.chY c' hc').mem hx
        refine (oth _ _ (h.at_.ne_ent hq)).trans (h3.other _ ?_)
        rw [hab]
        rcases hg with rfl | ⟨y, hy, rfl⟩
        · exact h.at_.old.ent_ne hT hq
        · exact (hdisj y (List.mem_flatten.2 ⟨_, List.mem_of_getElem? hi, by simp [hy]⟩) x (List.mem_flatten.2 ⟨c', hc', hx⟩)).symm
    · refine (h.chg.setCell (p := a) (fun _ => ?_) _).setCell (p := ⟨d, 4, none⟩) (fun _ => .inl rfl) _
      rw [hab]
      rcases hg with rfl | ⟨x, hx, rfl⟩
      · exact h.foot _ (.inr (.inl ⟨hT, rfl⟩))
      · exact h.foot _ (.inr (.inr (.inr ⟨x, List.mem_append.2 (.inl (List.mem_flatten.2 ⟨_, List.mem_of_getElem? hi, by simp [hx]⟩)), rfl⟩)))
    · rintro k (rfl | ⟨hne, rfl⟩ | ⟨hne, rfl⟩ | ⟨x, hx, rfl⟩)
      · exact .inl (.inl rfl)
      · exact .inl (h.foot _ (.inr (.inl ⟨hT, rfl⟩)))
      · exact .inl (h.foot _ (.inr (.inr (.inl ⟨hne, rfl⟩))))
      · exact .inl (h.foot _ (.inr (.inr (.inr ⟨x, hperm.mem_iff.2 (List.mem_cons_of_mem _ hx), rfl⟩))))
  · -- the second table
    have hi := hf.bucket
    rw [hf.parts] at hi
    have hY : D.Y ≠ [] := by intro h0; rw [h0] at hi; cases hi
    have hT : D.T ≠ [] := by intro h0; have := hw.moves hY; rw [h0] at this; cases this
    obtain ⟨h1, h2, h3⟩ := tab_cut h.at_.young h.at_.chY hi hw.placeY hnodY
    rw [← hf.addr] at h1 h2 h3
    obtain ⟨i, hii⟩ : ∃ i, dslotN D.seed key D.Y.length = i := ⟨_, rfl⟩
    rw [hii] at hi h1 h2
    have hperm := cutY_perm hi
    obtain ⟨g, j, ha, hfz, hg⟩ := h3.addr
    have hgd : g ≠ d := by
      rcases hg with rfl | ⟨x, hx, rfl⟩
      · exact h.at_.ne_young hY
      · exact hentd x (List.mem_append.2 (.inr (List.mem_flatten.2 ⟨_, List.mem_of_getElem? hi, by simp [hx]⟩)))
    have hab : a.block = g := by rw [ha]
    have hwf : (Dc.cutY D i (pre ++ post)).Wf :=
      wf_cut hw hperm rfl hw.placeT (placed_cut hw.placeY hi) hw.past (fun hh => hw.still (set_ne_nil.1 hh)) fun hh => hw.moves fun h0 => hh (set_ne_nil.2 h0)
    have hl := hperm.length_eq
    rw [List.length_cons] at hl
    refine ⟨Dc.cutY D i (pre ++ post), hwf, hl.symm, ⟨hT, rfl, rfl⟩, set_ne_nil, ⟨g, j, ha, hfz, hgd⟩, h.seed, ?_, ⟨?_, ?_, ?_, ?_, ?_, fun _ _ => h.at_.ne hT hY⟩, ?_, ?_⟩
    · rw [← hf.key]; exact kv_cut (D0 := D0) hw (h.perm.map DE.kv) hperm
    · rw [heapSetHere ((h3.other d (by rw [hab]; exact hgd.symm)).trans h.at_.head)]
      show _ = some (Obj.cells #[.int .u64 D.seed, tabV D.bo D.T, tabV D.bn (D.Y.set i (pre ++ post)), .int .i64 D.pos, _] 210 (0, 0))
      rw [tabV_set]
      rfl
    · exact h.at_.old.keep fun _ => (oth _ _ (h.at_.ne_old hT)).trans (h3.other _ (by
        rw [hab]
        rcases hg with rfl | ⟨x, hx, rfl⟩
        · exact h.at_.ne hT hY
        · obtain ⟨q, hq⟩ := (h.at_.chY _ (List.mem_of_getElem? hi)).mem (e := x) (by simp [hx])
          exact (h.at_.old.ent_ne hT hq).symm))
    · exact h1.keep fun _ => oth _ _ (h.at_.ne_young hY)
    · exact fun c' hc' => (h.at_.chT c' hc').keep fun x hx => by
        obtain ⟨q, hq⟩ := (h.at_.chT c' hc').mem hx
        refine (oth _ _ (h.at_.ne_ent hq)).trans (h3.other _ ?_)
        rw [hab]
        rcases hg with rfl | ⟨y, hy, rfl⟩
        · exact h.at_.young.ent_ne hY hq
        · exact hdisj x (List.mem_flatten.2 ⟨c', hc', hx⟩) y (List.mem_flatten.2 ⟨_, List.mem_of_getElem? hi, by simp [hy]⟩)
    · exact fun c' hc' => (h2 c' hc').keep fun x hx => by
        obtain ⟨q, hq⟩ := (h2 c' hc').mem hx
        exact oth _ _ (types_ne hq ((h3.other d (by rw [hab]; exact hgd.symm)).trans h.at_.head) (by decide))
    · refine (h.chg.setCell (p := a) (fun _ => ?_) _).setCell (p := ⟨d, 4, none⟩) (fun _ => .inl rfl) _
      rw [hab]
      rcases hg with rfl | ⟨x, hx, rfl⟩
      · exact h.foot _ (.inr (.inr (.inl ⟨hY, rfl⟩)))
      · exact h.foot _ (.inr (.inr (.inr ⟨x, List.mem_append.2 (.inr (List.mem_flatten.2 ⟨_, List.mem_of_getElem? hi, by simp [hx]⟩)), rfl⟩)))
    · rintro k (rfl | ⟨hne, rfl⟩ | ⟨hne, rfl⟩ | ⟨x, hx, rfl⟩)
      · exact .inl (.inl rfl)
      · exact .inl (h.foot _ (.inr (.inl ⟨hT, rfl⟩)))
      · exact .inl (h.foot _ (.inr (.inr (.inl ⟨hY, rfl⟩))))
      · exact .inl (h.foot _ (.inr (.inr (.inr ⟨x, hperm.mem_iff.2 (List.mem_cons_of_mem _ hx), rfl⟩))))
end Go.Proofs.YteiklgbjjmlmaaaGreat


/- Delete. -/
set_option linter.unusedVariables false
set_option linter.unusedSimpArgs false

namespace Go.Proofs.YteiklgbjjmlmaaaGreat
open Go.RowKit Pantry

def DelPost (d : Nat) (D0 : Dc) (key : List UInt8) (w : World) (r : Ending) (w' : World) : Prop :=
  ((∃ e ∈ D0.ents, e.key = key) ∧ r = .returned (.bool true) ∧ DOp d D0 (D0.kv.filter fun p => !(p.1 == key)) w w') ∨
  ((∀ e ∈ D0.ents, e.key ≠ key) ∧ r = .returned (.bool false) ∧ DOp d D0 D0.kv w w')
set_option maxHeartbeats 8000000 in
set_option maxRecDepth 100000 in
theorem del_tail (w W : World) (d : Nat) (D0 D : Dc) (l : List (List UInt8 × Value)) (h : SG w d D0 l W D) (hw : D.Wf) (hT : D.T ≠ []) (hf : D.ents.length ≤ 268435456)
    (R : Ending → World → Prop) (hR : Hid (∀ w', DOp d D0 l w w' → R (.returned (.bool true)) w')) (u1 u2 u3 u4 u5 u6 u7 u8 u9 u10 u11 u12 u13 u14 u15 u16 u17 u18 u19 u20 u21 u22 u23 u24 u25 u26 u27 u28 u29 u30 u31 u32 u33 u34 u35 u36 u37 u38 u39 u40 u41 u42 u43 u44 u45 u46 u47 u48 u49 u50 u51 u52 u53 u54 u55 u56 u57 u58 u59 u60 u61 u62 u63 u64 u65 u66 u67 : Value) :
    ∀ c, cfst (cfst (cskip 7 (cbody Tryz.f122))) = c → ∀ ci, csnd (cfst (cskip 7 (cbody Tryz.f122))) = ci → ∀ cA, cskip 8 (cbody Tryz.f122) = cA →
    ∀ K0 : Act → World → Prop, (∀ a v, Code.wp Tryz.prog cA (bodyPost Tryz.prog Tryz.f122 R) a v → K0 a v) →
    ∀ K1 : Act → World → Prop, (∀ a v, Code.wp Tryz.prog ci (Exit.then K0 (bodyPost Tryz.prog Tryz.f122 R)) a v → K1 a v) →
      Code.wp Tryz.prog c (Exit.then K1 (Exit.then K0 (bodyPost Tryz.prog Tryz.f122 R))) { tmps := #[.pointer (some ⟨d, 0, none⟩), u1, u2, u3, u4, u5, u6, u7, u8, u9, u10, u11, u12, u13, u14, u15, u16, u17, u18, u19, u20, u21, u22, u23, u24, u25, u26, u27, u28, u29, u30, u31, u32, u33, u34, u35, u36, u37, u38, u39, u40, u41, u42, u43, u44, u45, u46, u47, u48, u49, u50, u51, u52, u53, u54, u55, u56, u57, u58, u59, u60, u61, u62, u63, u64, u65, u66, u67], defers := [] } W := by
  obtain ⟨⟨d0, d1, d2, d3, d4⟩, df⟩ := five h.at_.head
  have df2 := df 2
  have HSG := Lib.hid h
  have HD := Lib.hid hw
  have HEND : Hid (∀ q, R (.returned (.bool true)) (W.drewN q)) := Lib.hid fun q => hR.out _ ((h.drewN q).op hw)
  have hnt := h.at_.old.few
  rw [tabV_some hT] at d1
  obtain ⟨nt, hnt2⟩ : ∃ n, D.T.length = n := ⟨_, rfl⟩
  obtain ⟨n, hn⟩ : ∃ n, D.ents.length = n := ⟨_, rfl⟩
  rw [hnt2] at d1 hnt
  rw [hn] at d4 hf
  have hdl := block_lt h.at_.head
  have HHD := Lib.hid h.at_.head
  intro c hc ci hci cA hcA K0 hK0 K1 hK1
  conv at hc => lhs; whnf
  conv at hci => lhs; whnf
  conv at hcA => lhs; whnf
  subst hc hci hcA
  dsimp only
  by_cases hY : D.Y = []
  · have HY := Lib.hid hY
    rw [hY, tabV_nil] at d2
    have HMV : ∀ q, Hid (Calls Tryz.prog 127 #[.pointer (some ⟨d, 0, none⟩)] (W.drewN q) fun e w' => e = .returned (.bool false) ∧ w' = W.drewN q) := fun q => Lib.hid ((moving_no (W.drewN q) d d2).mono fun _ _ h => ⟨h.1, h.2.symm⟩)
    clear h hw hY d0 d3 df hnt2 hn
    by_cases h4 : 4 < nt
    · have hp4 : decide (4 < nt) = true := by simpa using h4
      have hp4' : decide ((4 : Int) < (nt : Int)) = true := by simp; omega
      by_cases h8 : 8 * n ≤ nt
      · have hp8 : decide (8 * n ≤ nt) = true := by simpa using h8
        have hp8' : decide (8 * (n : Int) ≤ (nt : Int)) = true := by simp; omega
        go_quiet (first | (go_at_call 127; refine Calls.quiet_of_same (HMV _).out))
        go_wp2_with fail
        clear d1 hp4 hp4' hp8 hp8'
        go_loopw [6] (fun s wr => ∃ m : Nat, s = .int .i64 m ∧ Hid (∃ k, m = 2 ^ k) ∧ m ≤ 1073741824 ∧ wr = W.drewN nq) (fun s _ => n - (intOf s).toNat)
        case atStart => exact ⟨4, rfl, Lib.hid ⟨2, rfl⟩, by omega, rfl⟩
        case round =>
          obtain ⟨m, rfl, HM, hm, rfl⟩ := hrel
          have hm0 : 0 < m := by obtain ⟨k, rfl⟩ := HM.out; exact Nat.two_pow_pos k
          by_cases hlt : m < n
          · go_wp2_with fail
            go_roundw
            case rel => exact ⟨m * 2, by go_num, Lib.hid (by obtain ⟨k, rfl⟩ := HM.out; exact ⟨k + 1, by rw [Nat.pow_succ]⟩), by omega, by first | rfl | trivial⟩
            case measure => simp [intOf]; omega
          · obtain ⟨k, hk⟩ := HM.out
            have HSF := Lib.hid ((HSG.out.drewN nq).second HD.out hT HY.out hk (by omega))
            have HWF := Lib.hid (HD.out.second hT HY.out W.heap.size m)
            obtain ⟨W2, hW2⟩ : ∃ W2, (W.drewN nq).alloc (.cells (List.replicate m (Value.pointer none)).toArray 213) = W2 := ⟨_, rfl⟩
            rw [hW2, show (W.drewN nq).heap.size = W.heap.size from rfl] at HSF
            have hh2 : W2.heap[d]? = W.heap[d]? := by rw [← hW2]; exact heap_alloc_old (w := W.drewN nq) hdl
            have e1 : W2.cell? ⟨d, 2, none⟩ = some (.slice none 0 0) := (World.cell?_of_block (w := W) hh2).trans d2
            have e1f : W2.frozen? ⟨d, 2, none⟩ = false := frozen_of_row _ d 2 _ _ (hh2.trans HHD.out)
            clear hh2 hk d2 df2
            go_wp2_with (at_make; refine wpl_make_tab rfl _ _ rfl m (by omega) rfl rfl ?_; rw [hW2])
            exact hR.out _ (HSF.out.op HWF.out.1)
      · have hp8 : decide (8 * n ≤ nt) = false := by simpa using h8
        have hp8' : decide (8 * (n : Int) ≤ (nt : Int)) = false := by simp; omega
        go_quiet (first | (go_at_call 127; refine Calls.quiet_of_same (HMV _).out))
        go_wp2_with fail
        exact HEND.out nq
    · have hp4 : decide (4 < nt) = false := by simpa using h4
      have hp4' : decide ((4 : Int) < (nt : Int)) = false := by simp; omega
      go_quiet (first | (go_at_call 127; refine Calls.quiet_of_same (HMV _).out))
      go_wp2_with fail
      exact HEND.out nq
  · rw [tabV_some hY] at d2
    have HMV : ∀ q, Hid (Calls Tryz.prog 127 #[.pointer (some ⟨d, 0, none⟩)] (W.drewN q) fun e w' => e = .returned (.bool true) ∧ w' = W.drewN q) := fun q => Lib.hid ((moving_yes (W.drewN q) d _ _ (List.length_pos_iff.2 hY) d2).mono fun _ _ h => ⟨h.1, h.2.symm⟩)
    clear h hw hY d0 d3 df hnt2 hn
    go_quiet (first | (go_at_call 127; refine Calls.quiet_of_same (HMV _).out))
    go_wp2_with fail
    exact HEND.out nq
set_option maxHeartbeats 8000000 in
set_option maxRecDepth 100000 in
theorem del_any (w : World) (d : Nat) (D0 : Dc) (key : List UInt8) (h : DictAt w d D0) (hw : D0.Wf) (ht : key.length ≤ 140737488351232) (hf : D0.ents.length ≤ 268435456) :
    Calls Tryz.prog 122 #[.pointer (some ⟨d, 0, none⟩), .string ⟨key.toArray⟩] w (DelPost d D0 key w) := by
  have HS := Lib.hid (step_any w d D0 h hw)
  clear h hw
  go_enter Tryz.func122, Tryz.ntmps122
  go_wp2_with (go_at_call 118; refine HS.out.mono ?_; rintro r w1 ⟨rfl, D, hD, hI⟩
               have HD := Lib.hid hD
               have HI := Lib.hid hI
               clear hD hI HS)
  have HF := Lib.hid (find_any w1 d D key HI.out.at_ HD.out ht)
  obtain ⟨f, hf2⟩ : ∃ v, findT D.seed D.bo D.T D.bn D.Y key = v := ⟨_, rfl⟩
  rw [hf2] at HF
  cases f with
  | none =>
    have hmiss := find_missed HD.out hf2
    have HP : Hid (DelPost d D0 key w (.returned (.bool false)) w1) := Lib.hid (.inr ⟨fun e he => hmiss e (HI.out.perm.mem_iff.2 he), rfl, HI.out.sg.op HD.out⟩)
    clear hf2 hmiss
    go_wp2_with (go_at_call 119; refine HF.out.mono ?_; rintro r w2 ⟨rfl, rfl⟩)
    go_ret
    exact HP.out
  | some a =>
    obtain ⟨e, he, hk, hc, hfound⟩ := find_found HI.out.at_ hf2
    have hnext : ∃ c pre post, (FoundIn D.seed D.bo D.T key a c pre e post ∨ FoundIn D.seed D.bn D.Y key a c pre e post) ∧ w1.heap[e.b]? = some (.cells #[.string ⟨e.key.toArray⟩, e.val, ptrOf post] 215) := by
      rcases hfound with ⟨c, pre, post, hh⟩ | ⟨c, pre, post, hh⟩
      · have hch := HI.out.at_.chT c (List.mem_of_getElem? hh.bucket)
        rw [hh.parts] at hch
        have := hch.drop pre.length
        rw [List.drop_left] at this
        exact ⟨c, pre, post, .inl hh, this.1⟩
      · have hch := HI.out.at_.chY c (List.mem_of_getElem? hh.bucket)
        rw [hh.parts] at hch
        have := hch.drop pre.length
        rw [List.drop_left] at this
        exact ⟨c, pre, post, .inr hh, this.1⟩
    obtain ⟨c, pre, post, hfd, hrow⟩ := hnext
    obtain ⟨D', hw', hlen, ⟨hT', -, -⟩, -, ⟨g, j, rfl, hfz, hgd⟩, hsg⟩ := HI.out.cut HD.out hfd
    obtain ⟨⟨-, -, c2⟩, -⟩ := three hrow
    obtain ⟨⟨-, -, -, -, d4⟩, df⟩ := five HI.out.at_.head
    unfold ptrOf at c2 hsg
    obtain ⟨q, hq⟩ : ∃ q, ptrA post = q := ⟨_, rfl⟩
    rw [hq] at c2 hsg
    obtain ⟨n, hn⟩ : ∃ n, D'.ents.length = n := ⟨_, rfl⟩
    rw [← hlen, hn] at d4
    rw [hn] at hsg
    have hn3 : n ≤ 268435456 := by have := HI.out.perm.length_eq; omega
    have e4 : ∀ v, (w1.setCell ⟨g, j, none⟩ v).cell? ⟨d, 4, none⟩ = some (.int .i64 ((n : Int) + 1)) := fun v => by
      have hh := (heapSetOther (w := w1) (p := ⟨g, j, none⟩) (v := v) hgd.symm).trans HI.out.at_.head
      rw [cell_of_row _ d 4 _ _ _ hh]
      show some (Value.int .i64 (D.ents.length : Nat)) = _
      rw [← hlen, hn]
      rfl
    have e4f : ∀ v, (w1.setCell ⟨g, j, none⟩ v).frozen? ⟨d, 4, none⟩ = false := fun v => frozen_of_row _ d 4 _ _ ((heapSetOther (w := w1) (p := ⟨g, j, none⟩) (v := v) hgd.symm).trans HI.out.at_.head)
    have HSG := Lib.hid hsg
    have HFN := Lib.hid (show D'.Wf ∧ D'.T ≠ [] ∧ D'.ents.length ≤ 268435456 ∧ ∃ e ∈ D0.ents, e.key = key from ⟨hw', hT', by omega, e, HI.out.perm.mem_iff.1 he, hk⟩)
    clear hf2 he hk hfound hfd hrow hw' hlen hT' hgd hsg hq hn d4 df
    go_wp2_with (go_at_call 119; refine HF.out.mono ?_; rintro r w2 ⟨rfl, rfl⟩)
    obtain ⟨f1, f2, f3, f4⟩ := HFN.out
    exact del_tail w _ d D0 D' _ HSG.out f1 f2 f3 (DelPost d D0 key w) (Lib.hid fun w' hh => .inl ⟨f4, rfl, hh⟩) _ _ _ _ _ _ _ _ _ _ _ _ _ _ _ _ _ _ _ _ _ _ _ _ _ _ _ _ _ _ _ _ _ _ _ _ _ _ _ _ _ _ _ _ _ _ _ _ _ _ _ _ _ _ _ _ _ _ _ _ _ _ _ _ _ _ _ _ rfl _ rfl _ rfl _ (by assumption) _ (by assumption)
end Go.Proofs.YteiklgbjjmlmaaaGreat
