/- An entry is hung into its chain. -/
import Derived.Test.YtbjfigegiffefaaDLink
set_option linter.unusedVariables false
set_option linter.unusedSimpArgs false
namespace Pantry
open Go Go.RowKit
def hangT (seed : Nat) (T : List (List DE)) (e : DE) : List (List DE) := T.set (dslotN seed e.key T.length) (e :: (T[dslotN seed e.key T.length]?.getD []))
theorem hangT_length (seed : Nat) (T : List (List DE)) (e : DE) : (hangT seed T e).length = T.length := by simp [hangT]
theorem hangT_ne {seed : Nat} {T : List (List DE)} {e : DE} (h : T ≠ []) : hangT seed T e ≠ [] := by
  intro h0
  have := hangT_length seed T e
  rw [h0] at this
  exact h (List.length_eq_zero_iff.1 this.symm)
theorem types_ne {w : World} {a b : Nat} {c c' : Array Value} {t t' : TypeId} (h : w.heap[a]? = some (.cells c t)) (h' : w.heap[b]? = some (.cells c' t')) (hne : t ≠ t') : a ≠ b := by
  rintro rfl
  rw [h] at h'
  simp only [Option.some.injEq, Obj.cells.injEq] at h'
  exact hne h'.2.1
theorem heapSetOther {w : World} {p : Addr} {v : Value} {k : Nat} (h : k ≠ p.block) : (w.setCell p v).heap[k]? = w.heap[k]? := Below.heap_setCell w p v k h
theorem heapSetHere {w : World} {g j : Nat} {c : Array Value} {t : TypeId} (h : w.heap[g]? = some (.cells c t)) (v : Value) : (w.setCell ⟨g, j, none⟩ v).heap[g]? = some (.cells (c.setIfInBounds j v) t) :=
  heap_setCell_same w g j _ _ v h
end Pantry
namespace Go.Proofs.Ytbjfigegiffefaa
open Go.RowKit Pantry

theorem ent_ne_tab {w : World} {e b : Nat} {c c' : Array Value} (h : w.heap[e]? = some (.cells c 97)) (h' : w.heap[b]? = some (.cells c' 95)) : e ≠ b := types_ne h h' (by decide)
theorem TabAt.ent_ne {w : World} {b : Nat} {T : List (List DE)} (h : TabAt w b T) (hne : T ≠ []) {e : Nat} {c : Array Value} (he : w.heap[e]? = some (.cells c 97)) : e ≠ b := ent_ne_tab he (h.cells hne)

/-- What hang leaves. -/
structure HangPost (seed b : Nat) (T : List (List DE)) (e : DE) (w : World) (r : Ending) (w' : World) : Prop where
  res : r = .returned (.tuple #[])
  tab : TabAt w' b (hangT seed T e)
  chains : ∀ c ∈ hangT seed T e, ChainAt w' c
  chg : Chg (fun k => k = b ∨ k = e.b) w w'
  size : w'.heap.size = w.heap.size

theorem hang_post {w : World} {b seed i : Nat} {T : List (List DE)} {e : DE} {c : List DE} {q : Value} (hT : TabAt w b T) (hne : T ≠ []) (hc : ∀ c ∈ T, ChainAt w c) (he : w.heap[e.b]? = some (.cells #[.string ⟨e.key.toArray⟩, e.val, q] 97))
    (hnot : ∀ c ∈ T, ∀ x ∈ c, x.b ≠ e.b) (hi : dslotN seed e.key T.length = i) (hci : T[i]? = some c) :
    HangPost seed b T e w (.returned (.tuple #[])) ((w.setCell ⟨e.b, 2, none⟩ (ptrOf c)).setCell ⟨b, i, none⟩ (.pointer (some ⟨e.b, 0, none⟩))) := by
  have hbe := hT.ent_ne hne he
  have e1 : hangT seed T e = T.set i (e :: c) := by rw [hangT, hi, hci]; rfl
  have hb : ((w.setCell ⟨e.b, 2, none⟩ (ptrOf c)).heap[b]?) = some (.cells (T.map ptrOf).toArray 95) := (heapSetOther (p := ⟨e.b, 2, none⟩) hbe.symm).trans (hT.cells hne)
  have hother : ∀ k, k ≠ e.b → k ≠ b → ((w.setCell ⟨e.b, 2, none⟩ (ptrOf c)).setCell ⟨b, i, none⟩ (.pointer (some ⟨e.b, 0, none⟩))).heap[k]? = w.heap[k]? := fun k h1 h2 =>
    (heapSetOther (p := ⟨b, i, none⟩) h2).trans (heapSetOther (p := ⟨e.b, 2, none⟩) h1)
  have hkeep : ∀ c' ∈ T, ChainAt ((w.setCell ⟨e.b, 2, none⟩ (ptrOf c)).setCell ⟨b, i, none⟩ (.pointer (some ⟨e.b, 0, none⟩))) c' := fun c' hc' => (hc c' hc').keep fun x hx => by
    obtain ⟨q', hq⟩ := (hc c' hc').mem hx
    exact hother x.b (hnot c' hc' x hx) (hT.ent_ne hne hq)
  refine ⟨rfl, ⟨fun _ => ?_, fun _ => ?_, ?_⟩, ?_, ?_, by simp⟩
  · rw [heapSetHere hb, e1]
    simp [List.map_set, ptrOf, ptrA]
  · rw [hangT_length]; exact hT.two hne
  · rw [hangT_length]; exact hT.few
  · rw [e1]
    intro c' hc'
    rcases List.mem_or_eq_of_mem_set hc' with h | rfl
    · exact hkeep c' h
    · refine ⟨?_, hkeep c (List.mem_of_getElem? hci)⟩
      refine (heapSetOther (p := ⟨b, i, none⟩) hbe).trans ?_
      rw [heapSetHere he]
      rfl
  · exact ((Chg.refl _ w).setCell (p := ⟨e.b, 2, none⟩) (fun _ => .inr rfl) _).setCell (p := ⟨b, i, none⟩) (fun _ => .inl rfl) _

set_option maxHeartbeats 2000000 in
theorem hang_any (w : World) (d b seed : Nat) (T : List (List DE)) (e : DE) (q : Value) (hd : w.cell? ⟨d, 0, none⟩ = some (.int .u64 seed)) (hseed : seed < 18446744073709551616) (hT : TabAt w b T) (hne : T ≠ [])
    (hc : ∀ c ∈ T, ChainAt w c) (he : w.heap[e.b]? = some (.cells #[.string ⟨e.key.toArray⟩, e.val, q] 97)) (hnot : ∀ c ∈ T, ∀ x ∈ c, x.b ≠ e.b) (hs : e.key.length ≤ 140737488351232) :
    Calls Try.prog 63 #[.pointer (some ⟨d, 0, none⟩), tabV b T, .pointer (some ⟨e.b, 0, none⟩)] w (HangPost seed b T e w) := by
  obtain ⟨c, hcT⟩ := slot_get (seed := seed) hne e.key
  have hcell := hT.cell hcT
  obtain ⟨k, hk⟩ := hT.two hne
  have HS := Lib.hid (slot_any w d b T.length k seed e.key hd hseed hk hT.few hs)
  obtain ⟨⟨c0, c1, c2⟩, cf⟩ := three he
  have cf2 := cf 2
  have hbe := hT.ent_ne hne he
  obtain ⟨i, hi⟩ : ∃ i, dslotN seed e.key T.length = i := ⟨_, rfl⟩
  rw [hi] at hcell HS hcT
  have hcell2 : ∀ v, (w.setCell ⟨e.b, 2, none⟩ v).cell? ⟨b, i, none⟩ = some (ptrOf c) := fun v => by
    rw [cell_of_row _ b i _ _ _ ((heapSetOther (p := ⟨e.b, 2, none⟩) hbe.symm).trans (hT.cells hne))]
    simp [hcT]
  have hfr2 : ∀ v, (w.setCell ⟨e.b, 2, none⟩ v).frozen? ⟨b, i, none⟩ = false := fun v => frozen_of_row _ b i _ _ ((heapSetOther (p := ⟨e.b, 2, none⟩) hbe.symm).trans (hT.cells hne))
  have HP := Lib.hid (hang_post hT hne hc he hnot hi hcT)
  unfold ptrOf at hcell hcell2 HP
  obtain ⟨pc, hpc⟩ : ∃ p, ptrA c = p := ⟨_, rfl⟩
  rw [hpc] at hcell hcell2 HP
  rw [tabV_some hne]
  obtain ⟨n, hn⟩ : ∃ n, T.length = n := ⟨_, rfl⟩
  rw [hn] at HS ⊢
  clear hcT hk hi hn hT hne hc hd he hnot cf hbe c1 hpc
  go_enter Try.func63, Try.ntmps63
  go_wp2_with (go_at_call 71; refine HS.out.mono ?_; rintro r w1 ⟨rfl, rfl⟩)
  (try simp only [Exit.inBlock, Exit.then]); refine bodyPost_ret (results_none rfl _ _ _) rfl ?_
  exact HP.out
end Go.Proofs.Ytbjfigegiffefaa
