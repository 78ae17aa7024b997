/- A step of moving: a bucket is moved. -/
import Derived.Test.YtbjfigegiffefaaDStep
import Derived.Deep.LoopGhost
set_option linter.unusedVariables false
set_option linter.unusedSimpArgs false

namespace Go.Proofs.Ytbjfigegiffefaa
open Go.RowKit Pantry

/-- The blocks that the moving of a bucket changes. -/
def MS (bn : Nat) (c : List DE) (k : Nat) : Prop := k = bn ∨ ∃ e ∈ c, k = e.b
/-- While a bucket is moved. -/
structure HL (seed bn : Nat) (Y : List (List DE)) (c0 done rest : List DE) (W wr : World) : Prop where
  all : c0 = done ++ rest
  chain : ChainAt wr rest
  tab : TabAt wr bn (done.foldl (hangT seed) Y)
  chains : ∀ c ∈ done.foldl (hangT seed) Y, ChainAt wr c
  chg : Chg (MS bn c0) W wr
theorem HL.drewN {seed bn : Nat} {Y : List (List DE)} {c0 done rest : List DE} {W wr : World} (h : HL seed bn Y c0 done rest W wr) (q : Nat) : HL seed bn Y c0 done rest W (wr.drewN q) :=
  ⟨h.all, h.chain.keep fun _ _ => rfl, h.tab.keep fun _ => rfl, fun c hc => (h.chains c hc).keep fun _ _ => rfl, h.chg.drewN⟩
theorem HL.hnot {seed bn : Nat} {Y : List (List DE)} {c0 done rest : List DE} {e : DE} {W wr : World} (h : HL seed bn Y c0 done (e :: rest) W wr) (hY : Y ≠ []) (hn : ((c0 ++ Y.flatten).map (·.b)).Nodup) :
    (∀ c ∈ done.foldl (hangT seed) Y, ∀ x ∈ c, x.b ≠ e.b) ∧ (∀ x ∈ rest, x.b ≠ e.b) := by
  have hp := hangs_perm (seed := seed) hY done
  rw [h.all] at hn
  simp only [List.append_assoc, List.cons_append, List.map_append, List.map_cons] at hn
  have hn2 := (List.perm_middle.nodup_iff).1 hn
  rw [List.nodup_cons] at hn2
  have hno := hn2.1
  simp only [List.mem_append, List.mem_map, not_or, not_exists, not_and] at hno
  refine ⟨fun c hc x hx hb => ?_, fun x hx hb => hno.2.1 x hx hb⟩
  have hm : x ∈ done ++ Y.flatten := hp.mem_iff.1 (List.mem_flatten.2 ⟨c, hc, hx⟩)
  rcases List.mem_append.1 hm with hm | hm
  · exact hno.1 x hm hb
  · exact hno.2.2 x hm hb
theorem HL.step {seed bn : Nat} {Y : List (List DE)} {c0 done rest : List DE} {e : DE} {W wr w' : World} {r : Ending} (h : HL seed bn Y c0 done (e :: rest) W wr) (hY : Y ≠ []) (hn : ((c0 ++ Y.flatten).map (·.b)).Nodup)
    (hp : HangPost seed bn (done.foldl (hangT seed) Y) e wr r w') : HL seed bn Y c0 (done ++ [e]) rest W w' := by
  obtain ⟨-, h2⟩ := h.hnot hY hn
  refine ⟨by rw [h.all]; simp, h.chain.2.keep fun x hx => ?_, by rw [hangs_snoc]; exact hp.tab, by rw [hangs_snoc]; exact hp.chains, ?_⟩
  · obtain ⟨q, hq⟩ := h.chain.2.mem hx
    refine hp.chg.block _ (block_lt hq) ?_
    rintro (hb | hb)
    · exact h.tab.ent_ne (hangs_ne hY _) hq hb
    · exact h2 x hx hb
  · refine h.chg.trans hp.chg ?_
    rintro j - (rfl | rfl)
    · exact .inl rfl
    · exact .inr ⟨e, by rw [h.all]; simp, rfl⟩
theorem MS.not_head {w W : World} {d : Nat} {D0 D : Dc} (h : SI w d D0 W D) (hY : D.Y ≠ []) {c0 : List DE} (hc : D.T[D.pos]? = some c0) : ¬ MS D.bn c0 d := by
  rintro (hb | ⟨e, he, hb⟩)
  · exact h.at_.ne_young hY hb.symm
  · obtain ⟨q, hq⟩ := (h.at_.chT c0 (List.mem_of_getElem? hc)).mem he
    exact h.at_.ne_ent hq hb.symm
theorem MS.not_old {w W : World} {d : Nat} {D0 D : Dc} (h : SI w d D0 W D) (hY : D.Y ≠ []) {c0 : List DE} (hc : D.T[D.pos]? = some c0) : ¬ MS D.bn c0 D.bo := by
  have hT : D.T ≠ [] := by intro h0; rw [h0] at hc; cases hc
  rintro (hb | ⟨e, he, hb⟩)
  · exact h.at_.ne hT hY hb
  · obtain ⟨q, hq⟩ := (h.at_.chT c0 (List.mem_of_getElem? hc)).mem he
    exact h.at_.old.ent_ne hT hq hb.symm
theorem mid_nodup {D : Dc} (hm : D.Mid) {c0 : List DE} (hc : D.T[D.pos]? = some c0) : ((c0 ++ D.Y.flatten).map (·.b)).Nodup := by
  obtain ⟨A, B, h1, -⟩ := flat_at hc
  have hb := hm.blocks
  unfold Dc.ents at hb
  rw [h1] at hb
  refine List.Sublist.nodup ?_ hb
  refine List.Sublist.map _ ?_
  rw [List.append_assoc, List.append_assoc]
  exact ((List.sublist_append_right B D.Y.flatten).append_left c0).trans (List.sublist_append_right A _)
/-- The bucket has been moved. -/
theorem SI.moved {w W W2 : World} {d : Nat} {D0 D : Dc} (h : SI w d D0 W D) (hm : D.Mid) {c0 : List DE} (hc : D.T[D.pos]? = some c0) (hl : HL D.seed D.bn D.Y c0 c0 [] W W2) :
    SI w d D0 ((W2.setCell ⟨D.bo, D.pos, none⟩ (.pointer none)).setCell ⟨d, 3, none⟩ (.int .i64 ((D.pos + 1 : Nat) : Int))) (D.moved c0) := by
  have hT : D.T ≠ [] := by intro h0; rw [h0] at hc; cases hc
  have hY := hm.young
  have hp := Dc.moved_perm hc hY
  have hnd := mid_nodup hm hc
  have ho : ∀ k, k ≠ d → k ≠ D.bo → ((W2.setCell ⟨D.bo, D.pos, none⟩ (.pointer none)).setCell ⟨d, 3, none⟩ (.int .i64 ((D.pos + 1 : Nat) : Int))).heap[k]? = W2.heap[k]? := fun k h1 h2 =>
    (heapSetOther (p := ⟨d, 3, none⟩) h1).trans (heapSetOther (p := ⟨D.bo, D.pos, none⟩) h2)
  have hW2 : ∀ k o, W.heap[k]? = some o → ¬ MS D.bn c0 k → W2.heap[k]? = some o := fun k o hk hn => hl.chg.heap hk hn
  have hhead := hW2 d _ h.at_.head (MS.not_head h hY hc)
  have hold := hW2 D.bo _ (h.at_.old.cells hT) (MS.not_old h hY hc)
  have hbd := h.at_.ne_old hT
  have hY2 := hangs_ne (seed := D.seed) hY c0
  have hby : D.bo ≠ D.bn := h.at_.ne hT hY
  have hyd := h.at_.ne_young hY
  refine ⟨h.seed, hp.trans h.perm, ⟨?_, ⟨fun _ => ?_, fun _ => ?_, ?_⟩, ?_, ?_, ?_, fun _ _ => hby⟩, ?_, ?_⟩
  · rw [heapSetHere ((heapSetOther (p := ⟨D.bo, D.pos, none⟩) hbd.symm).trans hhead)]
    have e1 : tabV D.bo (D.T.set D.pos []) = tabV D.bo D.T := by
      rw [tabV_some hT, tabV_some (by intro h0; have := congrArg List.length h0; rw [List.length_set] at this; exact hT (List.length_eq_zero_iff.1 this)), List.length_set]
    have e2 : tabV D.bn (c0.foldl (hangT D.seed) D.Y) = tabV D.bn D.Y := by rw [tabV_some hY, tabV_some hY2, hangs_length]
    show _ = some (Obj.cells #[.int .u64 D.seed, tabV D.bo (D.T.set D.pos []), tabV D.bn (c0.foldl (hangT D.seed) D.Y), .int .i64 ((D.pos + 1 : Nat) : Int), .int .i64 ((D.moved c0).ents.length : Nat)] 101 (0, 0))
    rw [e1, e2, hp.length_eq]
    rfl
  · refine (heapSetOther (p := ⟨d, 3, none⟩) hbd).trans ?_
    rw [heapSetHere hold]
    simp [Dc.moved, List.map_set, ptrOf, ptrA]
  · show ∃ k, (D.T.set D.pos []).length = 2 ^ k
    rw [List.length_set]; exact h.at_.old.two hT
  · show (D.T.set D.pos []).length ≤ _
    rw [List.length_set]; exact h.at_.old.few
  · exact hl.tab.keep fun _ => ho _ hyd hby.symm
  · intro c hcc
    have hcc' : c ∈ D.T.set D.pos [] := hcc
    obtain ⟨i, hi, rfl⟩ := List.mem_iff_getElem.1 hcc'
    have hg : (D.T.set D.pos [])[i]? = some (D.T.set D.pos [])[i] := List.getElem?_eq_getElem hi
    generalize (D.T.set D.pos [])[i] = c at hg
    rw [List.getElem?_set] at hg
    by_cases hpi : D.pos = i
    · rw [if_pos hpi] at hg
      split at hg <;> cases hg <;> trivial
    · rw [if_neg hpi] at hg
      refine (h.at_.chT c (List.mem_of_getElem? hg)).keep fun e he => ?_
      obtain ⟨q, hq⟩ := (h.at_.chT c (List.mem_of_getElem? hg)).mem he
      refine (ho _ (h.at_.ne_ent hq) (h.at_.old.ent_ne hT hq)).trans ?_
      refine (hW2 _ _ hq ?_).trans hq.symm
      rintro (hb | ⟨x, hx, hb⟩)
      · exact h.at_.young.ent_ne hY hq hb
      · have hbl := hm.blocks
        have h1 := hm.placeT i c e hg he
        have h2 := hm.placeT D.pos c0 x hc hx
        have : e = x := by
          have hi1 : e ∈ D.ents := List.mem_append.2 (.inl (List.mem_flatten.2 ⟨c, List.mem_of_getElem? hg, he⟩))
          have hi2 : x ∈ D.ents := List.mem_append.2 (.inl (List.mem_flatten.2 ⟨c0, List.mem_of_getElem? hc, hx⟩))
          obtain ⟨a, ha, rfl⟩ := List.mem_iff_getElem.1 hi1
          obtain ⟨b, hb', rfl⟩ := List.mem_iff_getElem.1 hi2
          have := nodup_inj hbl (i := a) (j := b) (g := D.ents[a].b) (by simp [ha]) (by simp [hb', hb])
          subst this; rfl
        subst this
        exact hpi (h2.symm.trans h1)
  · intro c hcc
    refine (hl.chains c hcc).keep fun e he => ?_
    obtain ⟨q, hq⟩ := (hl.chains c hcc).mem he
    exact ho _ (types_ne hq hhead (by decide)) (types_ne hq hold (by decide))
  · refine ((h.chg.trans hl.chg ?_).setCell (p := ⟨D.bo, D.pos, none⟩) (fun _ => h.foot _ (.inr (.inl ⟨hT, rfl⟩))) _).setCell (p := ⟨d, 3, none⟩) (fun _ => .inl rfl) _
    rintro j - (rfl | ⟨e, he, rfl⟩)
    · exact h.foot _ (.inr (.inr (.inl ⟨hY, rfl⟩)))
    · exact h.foot _ (.inr (.inr (.inr ⟨e, List.mem_append.2 (.inl (List.mem_flatten.2 ⟨c0, List.mem_of_getElem? hc, he⟩)), rfl⟩)))
  · rintro k (rfl | ⟨hne, rfl⟩ | ⟨hne, rfl⟩ | ⟨e, he, rfl⟩)
    · exact h.foot _ (.inl rfl)
    · exact h.foot _ (.inr (.inl ⟨hT, rfl⟩))
    · exact h.foot _ (.inr (.inr (.inl ⟨hY, rfl⟩)))
    · exact h.foot _ (.inr (.inr (.inr ⟨e, hp.mem_iff.1 he, rfl⟩)))
end Go.Proofs.Ytbjfigegiffefaa
