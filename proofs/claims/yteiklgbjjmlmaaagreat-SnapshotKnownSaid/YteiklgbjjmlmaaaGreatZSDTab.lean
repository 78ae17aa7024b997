
/- Chains of entries, tables; the bucket of a key. -/
import Derived.Test.YteiklgbjjmlmaaaGreatZDHash
import Derived.Deep.LoopGhost
import Derived.Test.YteiklgbjjmlmaaaGreatZDStep
import Derived.BigQuiet
import Derived.Deep.RegionHeld3
set_option linter.unusedVariables false
set_option linter.unusedSimpArgs false
namespace Go.Proofs.YteiklgbjjmlmaaaGreat.DStr
open Go.RowKit Pantry

theorem three {w : World} {g : Nat} {c0 c1 c2 : Value} {t : TypeId} (h : w.heap[g]? = some (.cells #[c0, c1, c2] t)) :
    (w.cell? ⟨g, 0, none⟩ = some c0 ∧ w.cell? ⟨g, 1, none⟩ = some c1 ∧ w.cell? ⟨g, 2, none⟩ = some c2) ∧ ∀ j, w.frozen? ⟨g, j, none⟩ = false := by
  refine ⟨⟨?_, ?_, ?_⟩, fun j => frozen_of_row w g j _ _ h⟩ <;> rw [cell_of_row w g _ _ _ _ h] <;> rfl
/-- A chain in memory: each entry points to the one behind it. -/
def ChainAt (w : World) : List DE → Prop
  | [] => True
  | e :: c => w.heap[e.b]? = some (.cells #[.string ⟨e.key.toArray⟩, e.val, ptrOf c] 193) ∧ ChainAt w c
theorem ChainAt.keep {w w' : World} {c : List DE} (h : ChainAt w c) (hk : ∀ e ∈ c, w'.heap[e.b]? = w.heap[e.b]?) : ChainAt w' c := by
  induction c with
  | nil => trivial
  | cons e c ih => exact ⟨(hk e List.mem_cons_self).trans h.1, ih h.2 fun x hx => hk x (List.mem_cons_of_mem _ hx)⟩
theorem ChainAt.drop {w : World} {c : List DE} (h : ChainAt w c) (k : Nat) : ChainAt w (c.drop k) := by
  induction c generalizing k with
  | nil => simpa using h
  | cons e c ih =>
    cases k with
    | zero => exact h
    | succ k => exact ih h.2 k
theorem ChainAt.mem {w : World} {c : List DE} (h : ChainAt w c) {e : DE} (he : e ∈ c) : ∃ q, w.heap[e.b]? = some (.cells #[.string ⟨e.key.toArray⟩, e.val, q] 193) := by
  induction c with
  | nil => cases he
  | cons x c ih =>
    rcases List.mem_cons.1 he with rfl | he
    · exact ⟨_, h.1⟩
    · exact ih h.2 he
/-- A table's value; a table in memory. -/
def tabV (b : Nat) (T : List (List DE)) : Value := if T = [] then .slice none 0 0 else .slice (some ⟨b, 0, none⟩) T.length T.length
theorem tabV_nil (b : Nat) : tabV b [] = .slice none 0 0 := rfl
theorem tabV_some {b : Nat} {T : List (List DE)} (h : T ≠ []) : tabV b T = .slice (some ⟨b, 0, none⟩) T.length T.length := by rw [tabV, if_neg h]
structure TabAt (w : World) (b : Nat) (T : List (List DE)) : Prop where
  cells : T ≠ [] → w.heap[b]? = some (.cells (T.map ptrOf).toArray 191)
  two : T ≠ [] → ∃ k, T.length = 2 ^ k
  few : T.length ≤ 1099511627776
theorem TabAt.cell {w : World} {b : Nat} {T : List (List DE)} (h : TabAt w b T) {i : Nat} {c : List DE} (hi : T[i]? = some c) : w.cell? ⟨b, i, none⟩ = some (ptrOf c) := by
  have hne : T ≠ [] := by rintro rfl; cases hi
  rw [cell_of_row w b i _ _ _ (h.cells hne)]
  simp [hi]
theorem TabAt.keep {w w' : World} {b : Nat} {T : List (List DE)} (h : TabAt w b T) (hk : T ≠ [] → w'.heap[b]? = w.heap[b]?) : TabAt w' b T := ⟨fun hne => (hk hne).trans (h.cells hne), h.two, h.few⟩

set_option maxHeartbeats 1000000 in
theorem slot_any (w : World) (d b n k seed : Nat) (key : List UInt8) (hd : w.cell? ⟨d, 0, none⟩ = some (.int .u64 seed)) (hseed : seed < 18446744073709551616) (hn : n = 2 ^ k) (hl : n ≤ 1099511627776) (hs : key.length ≤ 140737488351232) :
    Calls Tryz.prog 131 #[.pointer (some ⟨d, 0, none⟩), .slice (some ⟨b, 0, none⟩) n n, .string ⟨key.toArray⟩] w fun e w' => e = .returned (.pointer (some ⟨b, dslotN seed key n, none⟩)) ∧ w = w' := by
  have hp : 0 < n := by subst hn; exact Nat.two_pow_pos k
  have ha := and_mask hn (hashN_lt seed key) hl
  have hlt : hashN seed key % n < n := Nat.mod_lt _ hp
  have hw : IntKind.u64.wrap ((n : Int) - 1) = (n : Int) - 1 := by rw [IntKind.wrap_u64]; omega
  have HH := Lib.hid (hash_any w seed key hs hseed)
  unfold dslotN
  obtain ⟨h, hh⟩ : ∃ h, hashN seed key = h := ⟨_, rfl⟩
  rw [hh] at ha hlt HH ⊢
  obtain ⟨i, hi⟩ : ∃ i, h % n = i := ⟨_, rfl⟩
  rw [hi] at ha hlt ⊢
  clear hn hh hi
  go_enter Tryz.func131, Tryz.ntmps131
  go_wp2_with (go_at_call 140; refine HH.out.mono ?_; rintro e w1 ⟨rfl, rfl⟩)
  go_ret
  exact ⟨rfl, rfl⟩
end Go.Proofs.YteiklgbjjmlmaaaGreat.DStr


/- Where a key's entry hangs. -/
set_option linter.unusedVariables false
set_option linter.unusedSimpArgs false
namespace Go.Proofs.YteiklgbjjmlmaaaGreat.DStr
open Go.RowKit Pantry

set_option maxHeartbeats 1000000 in
theorem link_nil (w : World) (p : Option Addr) (key : List UInt8) : Calls Tryz.prog 130 #[.pointer p, .slice none 0 0, .string ⟨key.toArray⟩] w fun e w' => e = .returned (.pointer none) ∧ w = w' := by
  go_enter Tryz.func130, Tryz.ntmps130
  go_wp2_with fail
  go_ret
  exact ⟨rfl, rfl⟩
set_option maxHeartbeats 2000000 in
theorem link_some (w : World) (d b seed : Nat) (T : List (List DE)) (key : List UInt8) (hd : w.cell? ⟨d, 0, none⟩ = some (.int .u64 seed)) (hseed : seed < 18446744073709551616) (hT : TabAt w b T) (hne : T ≠ [])
    (hc : ∀ c ∈ T, ChainAt w c) (hs : key.length ≤ 140737488351232) :
    Calls Tryz.prog 130 #[.pointer (some ⟨d, 0, none⟩), tabV b T, .string ⟨key.toArray⟩] w fun e w' => e = .returned (.pointer (linkT seed b T key)) ∧ w = w' := by
  obtain ⟨c, hcT⟩ := slot_get (seed := seed) hne key
  have hcell := hT.cell hcT
  have hch := hc c (List.mem_of_getElem? hcT)
  have e1 : linkT seed b T key = linkC ⟨b, dslotN seed key T.length, none⟩ c key := by rw [linkT, hcT]
  obtain ⟨k, hk⟩ := hT.two hne
  have HS := Lib.hid (slot_any w d b T.length k seed key hd hseed hk hT.few hs)
  have hp : 0 < T.length := List.length_pos_iff.2 hne
  have hf := hT.few
  rw [tabV_some hne, e1]
  obtain ⟨i, hi⟩ : ∃ i, dslotN seed key T.length = i := ⟨_, rfl⟩
  rw [hi] at hcell HS ⊢
  obtain ⟨n, hn⟩ : ∃ n, T.length = n := ⟨_, rfl⟩
  rw [hn] at HS hp hf ⊢
  have hn0 : ¬ n = 0 := by omega
  have HR := Lib.hid (show w.cell? ⟨b, i, none⟩ = some (ptrOf c) ∧ ChainAt w c from ⟨hcell, hch⟩)
  obtain ⟨r, hr⟩ : ∃ r, linkC ⟨b, i, none⟩ c key = r := ⟨_, rfl⟩
  rw [hr]
  have HRR := Lib.hid hr
  clear hcT hcell hch e1 hk hi hn hT hne hc hd hr
  go_enter Tryz.func130, Tryz.ntmps130
  go_wp2_with (go_at_call 131; refine HS.out.mono ?_; rintro e w1 ⟨rfl, rfl⟩)
  go_loopg [7] (c.length + 1) (fun g s wr => wr = w ∧ ∃ (a : Addr) (es : List DE), s = .pointer (some a) ∧ es.length + 1 ≤ g ∧ Hid (w.cell? a = some (ptrOf es) ∧ ChainAt w es ∧ r = linkC a es key))
  case atStart => exact ⟨rfl, _, c, rfl, Nat.le_refl _, Lib.hid ⟨HR.out.1, HR.out.2, HRR.out.symm⟩⟩
  case round =>
    obtain ⟨rfl, a, es, rfl, hg, HI⟩ := hrel
    obtain ⟨h1, h2, h3⟩ := HI.out
    cases es with
    | nil =>
      simp only [ptrOf, ptrA] at h1
      rw [linkC] at h3
      subst h3
      clear h2 HI HRR
      go_wp2_with fail
      go_ret
      exact ⟨rfl, rfl⟩
    | cons e es =>
      simp only [ptrOf, ptrA] at h1
      obtain ⟨⟨c0, c1, c2⟩, -⟩ := three h2.1
      by_cases hk : e.key = key
      · rw [linkC, if_pos hk] at h3
        subst h3 hk
        clear h2 HI HRR
        go_wp2_with fail
        go_ret
        exact ⟨rfl, rfl⟩
      · have hkb : (e.key == key) = false := by simpa using hk
        rw [linkC, if_neg hk] at h3
        have HN := Lib.hid (show wr.cell? ⟨e.b, 2, none⟩ = some (ptrOf es) ∧ ChainAt wr es ∧ r = linkC ⟨e.b, 2, none⟩ es key from ⟨c2, h2.2, h3⟩)
        clear h2 h3 HI
        go_wp2_with fail
        go_roundg (es.length + 1)
        case measure => simp at hg; omega
        case rel => exact ⟨rfl, _, es, rfl, Nat.le_refl _, HN⟩
end Go.Proofs.YteiklgbjjmlmaaaGreat.DStr


/- An entry is hung into its chain. -/
set_option linter.unusedVariables false
set_option linter.unusedSimpArgs false
namespace Go.Proofs.YteiklgbjjmlmaaaGreat.DStr
open Go.RowKit Pantry

theorem ent_ne_tab {w : World} {e b : Nat} {c c' : Array Value} (h : w.heap[e]? = some (.cells c 193)) (h' : w.heap[b]? = some (.cells c' 191)) : e ≠ b := types_ne h h' (by decide)
theorem TabAt.ent_ne {w : World} {b : Nat} {T : List (List DE)} (h : TabAt w b T) (hne : T ≠ []) {e : Nat} {c : Array Value} (he : w.heap[e]? = some (.cells c 193)) : e ≠ b := ent_ne_tab he (h.cells hne)

/-- What hang leaves. -/
structure HangPost (seed b : Nat) (T : List (List DE)) (e : DE) (w : World) (r : Ending) (w' : World) : Prop where
  res : r = .returned (.tuple #[])
  tab : TabAt w' b (hangT seed T e)
  chains : ∀ c ∈ hangT seed T e, ChainAt w' c
  chg : Chg (fun k => k = b ∨ k = e.b) w w'
  size : w'.heap.size = w.heap.size

theorem hang_post {w : World} {b seed i : Nat} {T : List (List DE)} {e : DE} {c : List DE} {q : Value} (hT : TabAt w b T) (hne : T ≠ []) (hc : ∀ c ∈ T, ChainAt w c) (he : w.heap[e.b]? = some (.cells #[.string ⟨e.key.toArray⟩, e.val, q] 193))
    (hnot : ∀ c ∈ T, ∀ x ∈ c, x.b ≠ e.b) (hi : dslotN seed e.key T.length = i) (hci : T[i]? = some c) :
    HangPost seed b T e w (.returned (.tuple #[])) ((w.setCell ⟨e.b, 2, none⟩ (ptrOf c)).setCell ⟨b, i, none⟩ (.pointer (some ⟨e.b, 0, none⟩))) := by
  have hbe := hT.ent_ne hne he
  have e1 : hangT seed T e = T.set i (e :: c) := by rw [hangT, hi, hci]; rfl
  have hb : ((w.setCell ⟨e.b, 2, none⟩ (ptrOf c)).heap[b]?) = some (.cells (T.map ptrOf).toArray 191) := (heapSetOther (p := ⟨e.b, 2, none⟩) hbe.symm).trans (hT.cells hne)
  have hother : ∀ k, k ≠ e.b → k ≠ b → ((w.setCell ⟨e.b, 2, none⟩ (ptrOf c)).setCell ⟨b, i, none⟩ (.pointer (some ⟨e.b, 0, none⟩))).heap[k]? = w.heap[k]? := fun k h1 h2 =>
    (heapSetOther (p := ⟨b, i, none⟩) h2).trans (heapSetOther (p := ⟨e.b, 2, none⟩) h1)
  have hkeep : ∀ c' ∈ T, ChainAt ((w.setCell ⟨e.b, 2, none⟩ (ptrOf c)).setCell ⟨b, i, none⟩ (.pointer (some ⟨e.b, 0, none⟩))) c' := fun c' hc' => (hc c' hc').keep fun x hx => by
    obtain ⟨q', hq⟩ := (hc c' hc').mem hx
    exact hother x.b (hnot c' hc' x hx) (hT.ent_ne hne hq)
  refine ⟨rfl, ⟨fun _ => ?_, fun _ => ?_, ?_⟩, ?_, ?_, by simp⟩
  · rw [heapSetHere hb, e1]
    simp [List.map_set, ptrOf, ptrA]
  · rw [hangT_length]; exact hT.two hne
  · rw [hangT_length]; exact hT.few
  · rw [e1]
    intro c' hc'
    rcases List.mem_or_eq_of_mem_set hc' with h | rfl
    · exact hkeep c' h
    · refine ⟨?_, hkeep c (List.mem_of_getElem? hci)⟩
      refine (heapSetOther (p := ⟨b, i, none⟩) hbe).trans ?_
      rw [heapSetHere he]
      rfl
  · exact ((Chg.refl _ w).setCell (p := ⟨e.b, 2, none⟩) (fun _ => .inr rfl) _).setCell (p := ⟨b, i, none⟩) (fun _ => .inl rfl) _

set_option maxHeartbeats 2000000 in
theorem hang_any (w : World) (d b seed : Nat) (T : List (List DE)) (e : DE) (q : Value) (hd : w.cell? ⟨d, 0, none⟩ = some (.int .u64 seed)) (hseed : seed < 18446744073709551616) (hT : TabAt w b T) (hne : T ≠ [])
    (hc : ∀ c ∈ T, ChainAt w c) (he : w.heap[e.b]? = some (.cells #[.string ⟨e.key.toArray⟩, e.val, q] 193)) (hnot : ∀ c ∈ T, ∀ x ∈ c, x.b ≠ e.b) (hs : e.key.length ≤ 140737488351232) :
    Calls Tryz.prog 111 #[.pointer (some ⟨d, 0, none⟩), tabV b T, .pointer (some ⟨e.b, 0, none⟩)] w (HangPost seed b T e w) := by
  obtain ⟨c, hcT⟩ := slot_get (seed := seed) hne e.key
  have hcell := hT.cell hcT
  obtain ⟨k, hk⟩ := hT.two hne
  have HS := Lib.hid (slot_any w d b T.length k seed e.key hd hseed hk hT.few hs)
  obtain ⟨⟨c0, c1, c2⟩, cf⟩ := three he
  have cf2 := cf 2
  have hbe := hT.ent_ne hne he
  obtain ⟨i, hi⟩ : ∃ i, dslotN seed e.key T.length = i := ⟨_, rfl⟩
  rw [hi] at hcell HS hcT
  have hcell2 : ∀ v, (w.setCell ⟨e.b, 2, none⟩ v).cell? ⟨b, i, none⟩ = some (ptrOf c) := fun v => by
    rw [cell_of_row _ b i _ _ _ ((heapSetOther (p := ⟨e.b, 2, none⟩) hbe.symm).trans (hT.cells hne))]
    simp [hcT]
  have hfr2 : ∀ v, (w.setCell ⟨e.b, 2, none⟩ v).frozen? ⟨b, i, none⟩ = false := fun v => frozen_of_row _ b i _ _ ((heapSetOther (p := ⟨e.b, 2, none⟩) hbe.symm).trans (hT.cells hne))
  have HP := Lib.hid (hang_post hT hne hc he hnot hi hcT)
  unfold ptrOf at hcell hcell2 HP
  obtain ⟨pc, hpc⟩ : ∃ p, ptrA c = p := ⟨_, rfl⟩
  rw [hpc] at hcell hcell2 HP
  rw [tabV_some hne]
  obtain ⟨n, hn⟩ : ∃ n, T.length = n := ⟨_, rfl⟩
  rw [hn] at HS ⊢
  clear hcT hk hi hn hT hne hc hd he hnot cf hbe c1 hpc
  go_enter Tryz.func111, Tryz.ntmps111
  go_wp2_with (go_at_call 131; refine HS.out.mono ?_; rintro r w1 ⟨rfl, rfl⟩)
  (try simp only [Exit.inBlock, Exit.then]); refine bodyPost_ret (results_none rfl _ _ _) rfl ?_
  exact HP.out
end Go.Proofs.YteiklgbjjmlmaaaGreat.DStr


/- A dict: two tables of chains; its plain laws; a dict in memory. -/
set_option linter.unusedVariables false
set_option linter.unusedSimpArgs false
namespace Go.Proofs.YteiklgbjjmlmaaaGreat.DStr
open Go.RowKit Pantry

/-- Block d is the dict D. -/
structure DictAt (w : World) (d : Nat) (D : Dc) : Prop where
  head : w.heap[d]? = some (.cells #[.int .u64 D.seed, tabV D.bo D.T, tabV D.bn D.Y, .int .i64 D.pos, .int .i64 (D.ents.length : Nat)] 188)
  old : TabAt w D.bo D.T
  young : TabAt w D.bn D.Y
  chT : ∀ c ∈ D.T, ChainAt w c
  chY : ∀ c ∈ D.Y, ChainAt w c
  ne : D.T ≠ [] → D.Y ≠ [] → D.bo ≠ D.bn
def DFoot (d : Nat) (D : Dc) (k : Nat) : Prop := k = d ∨ (D.T ≠ [] ∧ k = D.bo) ∨ (D.Y ≠ [] ∧ k = D.bn) ∨ ∃ e ∈ D.ents, k = e.b
theorem DictAt.keep {w w' : World} {d : Nat} {D : Dc} (h : DictAt w d D) (hk : ∀ k, DFoot d D k → w'.heap[k]? = w.heap[k]?) : DictAt w' d D :=
  ⟨(hk d (.inl rfl)).trans h.head, h.old.keep fun hne => hk _ (.inr (.inl ⟨hne, rfl⟩)), h.young.keep fun hne => hk _ (.inr (.inr (.inl ⟨hne, rfl⟩))),
    fun c hc => (h.chT c hc).keep fun e he => hk _ (.inr (.inr (.inr ⟨e, List.mem_append.2 (.inl (List.mem_flatten.2 ⟨c, hc, he⟩)), rfl⟩))),
    fun c hc => (h.chY c hc).keep fun e he => hk _ (.inr (.inr (.inr ⟨e, List.mem_append.2 (.inr (List.mem_flatten.2 ⟨c, hc, he⟩)), rfl⟩))), h.ne⟩
theorem DictAt.ent {w : World} {d : Nat} {D : Dc} (h : DictAt w d D) {e : DE} (he : e ∈ D.ents) : ∃ q, w.heap[e.b]? = some (.cells #[.string ⟨e.key.toArray⟩, e.val, q] 193) := by
  rcases List.mem_append.1 he with he | he
  · obtain ⟨c, hc, hx⟩ := List.mem_flatten.1 he
    exact (h.chT c hc).mem hx
  · obtain ⟨c, hc, hx⟩ := List.mem_flatten.1 he
    exact (h.chY c hc).mem hx
theorem DictAt.lt {w : World} {d : Nat} {D : Dc} (h : DictAt w d D) : ∀ k, DFoot d D k → k < w.heap.size := by
  rintro k (rfl | ⟨hne, rfl⟩ | ⟨hne, rfl⟩ | ⟨e, he, rfl⟩)
  · exact block_lt h.head
  · exact block_lt (h.old.cells hne)
  · exact block_lt (h.young.cells hne)
  · obtain ⟨q, hq⟩ := h.ent he
    exact block_lt hq
theorem DictAt.chg {w w' : World} {d : Nat} {D : Dc} {S : Nat → Prop} (h : DictAt w d D) (hc : Chg S w w') (hS : ∀ k, DFoot d D k → ¬ S k) : DictAt w' d D :=
  h.keep fun k hk => hc.block k (h.lt k hk) (hS k hk)
theorem five {w : World} {g : Nat} {c0 c1 c2 c3 c4 : Value} {t : TypeId} (h : w.heap[g]? = some (.cells #[c0, c1, c2, c3, c4] t)) :
    (w.cell? ⟨g, 0, none⟩ = some c0 ∧ w.cell? ⟨g, 1, none⟩ = some c1 ∧ w.cell? ⟨g, 2, none⟩ = some c2 ∧ w.cell? ⟨g, 3, none⟩ = some c3 ∧ w.cell? ⟨g, 4, none⟩ = some c4) ∧ ∀ j, w.frozen? ⟨g, j, none⟩ = false := by
  refine ⟨⟨?_, ?_, ?_, ?_, ?_⟩, fun j => frozen_of_row w g j _ _ h⟩ <;> rw [cell_of_row w g _ _ _ _ h] <;> rfl
theorem DictAt.ne_ent {w : World} {d : Nat} {D : Dc} (h : DictAt w d D) {e : Nat} {c : Array Value} (he : w.heap[e]? = some (.cells c 193)) : e ≠ d := types_ne he h.head (by decide)
theorem DictAt.ne_old {w : World} {d : Nat} {D : Dc} (h : DictAt w d D) (hne : D.T ≠ []) : D.bo ≠ d := types_ne (h.old.cells hne) h.head (by decide)
theorem DictAt.ne_young {w : World} {d : Nat} {D : Dc} (h : DictAt w d D) (hne : D.Y ≠ []) : D.bn ≠ d := types_ne (h.young.cells hne) h.head (by decide)
/-- Cells of the head have been written. -/
theorem DictAt.reset {w w' : World} {d : Nat} {D D' : Dc} (h : DictAt w d D) (hh : w'.heap[d]? = some (.cells #[.int .u64 D'.seed, tabV D'.bo D'.T, tabV D'.bn D'.Y, .int .i64 D'.pos, .int .i64 (D'.ents.length : Nat)] 188))
    (ho : ∀ k, k ≠ d → w'.heap[k]? = w.heap[k]?) (h1 : D'.bo = D.bo) (h2 : D'.T = D.T) (h3 : D'.bn = D.bn) (h4 : D'.Y = D.Y) : DictAt w' d D' := by
  refine ⟨hh, ?_, ?_, ?_, ?_, ?_⟩
  · rw [h1, h2]; exact h.old.keep fun hne => ho _ (h.ne_old hne)
  · rw [h3, h4]; exact h.young.keep fun hne => ho _ (h.ne_young hne)
  · rw [h2]; exact fun c hc => (h.chT c hc).keep fun e he => by
      obtain ⟨q, hq⟩ := (h.chT c hc).mem he
      exact ho _ (h.ne_ent hq)
  · rw [h4]; exact fun c hc => (h.chY c hc).keep fun e he => by
      obtain ⟨q, hq⟩ := (h.chY c hc).mem he
      exact ho _ (h.ne_ent hq)
  · rw [h1, h2, h3, h4]; exact h.ne
theorem DictAt.setPos {w : World} {d : Nat} {D : Dc} (h : DictAt w d D) (a : Nat) : DictAt (w.setCell ⟨d, 3, none⟩ (.int .i64 a)) d (D.withPos a) :=
  h.reset (by rw [heapSetHere h.head]; rfl) (fun k hk => heapSetOther (p := ⟨d, 3, none⟩) hk) rfl rfl rfl rfl
end Go.Proofs.YteiklgbjjmlmaaaGreat.DStr


/- A step of moving: the end of it. -/
set_option linter.unusedVariables false
set_option linter.unusedSimpArgs false

namespace Go.Proofs.YteiklgbjjmlmaaaGreat.DStr
open Go.RowKit Pantry

theorem moving_no (w : World) (d : Nat) (hd : w.cell? ⟨d, 2, none⟩ = some (.slice none 0 0)) : Calls Tryz.prog 110 #[.pointer (some ⟨d, 0, none⟩)] w fun e w' => e = .returned (.bool false) ∧ w = w' := by
  go_enter Tryz.func110, Tryz.ntmps110
  go_wp2_with fail
  go_ret
  exact ⟨rfl, rfl⟩
theorem moving_yes (w : World) (d b n : Nat) (hn : 0 < n) (hd : w.cell? ⟨d, 2, none⟩ = some (.slice (some ⟨b, 0, none⟩) n n)) : Calls Tryz.prog 110 #[.pointer (some ⟨d, 0, none⟩)] w fun e w' => e = .returned (.bool true) ∧ w = w' := by
  go_enter Tryz.func110, Tryz.ntmps110
  go_wp2_with fail
  go_ret
  exact ⟨by first | rfl | simp [hn], rfl⟩
/-- Between two statements of a step. -/
structure SI (w : World) (d : Nat) (D0 : Dc) (W : World) (D : Dc) : Prop where
  seed : D.seed = D0.seed
  perm : D.ents.Perm D0.ents
  at_ : DictAt W d D
  chg : Chg (DFoot d D0) w W
  foot : ∀ k, DFoot d D k → DFoot d D0 k
theorem SI.drew {w W : World} {d : Nat} {D0 D : Dc} (h : SI w d D0 W D) : SI w d D0 W.drew D := ⟨h.seed, h.perm, h.at_.keep fun _ _ => rfl, h.chg.drew, h.foot⟩
theorem SI.drewN {w W : World} {d : Nat} {D0 D : Dc} (h : SI w d D0 W D) (q : Nat) : SI w d D0 (W.drewN q) D := ⟨h.seed, h.perm, h.at_.keep fun _ _ => rfl, h.chg.drewN, h.foot⟩
theorem SI.setPos {w W : World} {d : Nat} {D0 D : Dc} (h : SI w d D0 W D) (a : Nat) : SI w d D0 (W.setCell ⟨d, 3, none⟩ (.int .i64 a)) (D.withPos a) :=
  ⟨h.seed, h.perm, h.at_.setPos a, h.chg.setCell (p := ⟨d, 3, none⟩) (fun _ => .inl rfl) _, h.foot⟩
def StepPost (d : Nat) (D0 : Dc) (w : World) (r : Ending) (w' : World) : Prop := r = .returned (.tuple #[]) ∧ ∃ D, D.Wf ∧ SI w d D0 w' D
theorem SI.swap {w W : World} {d : Nat} {D0 D : Dc} (h : SI w d D0 W D) (hm : D.Mid) (hp : D.pos = D.T.length) :
    StepPost d D0 w (.returned (.tuple #[])) (((W.setCell ⟨d, 1, none⟩ (tabV D.bn D.Y)).setCell ⟨d, 2, none⟩ (.slice none 0 0)).setCell ⟨d, 3, none⟩ (.int .i64 0)) := by
  obtain ⟨h1, h2⟩ := hm.swapped hp
  have ho : ∀ k, k ≠ d → (((W.setCell ⟨d, 1, none⟩ (tabV D.bn D.Y)).setCell ⟨d, 2, none⟩ (.slice none 0 0)).setCell ⟨d, 3, none⟩ (.int .i64 0)).heap[k]? = W.heap[k]? := fun k hk =>
    (heapSetOther (p := ⟨d, 3, none⟩) hk).trans ((heapSetOther (p := ⟨d, 2, none⟩) hk).trans (heapSetOther (p := ⟨d, 1, none⟩) hk))
  refine ⟨rfl, D.swapped, h1, h.seed, h2 ▸ h.perm, ⟨?_, ?_, ?_, ?_, fun c hc => (by cases hc), fun _ hh => absurd rfl hh⟩, ?_, ?_⟩
  · rw [heapSetHere (heapSetHere (heapSetHere h.at_.head _) _)]
    rw [show D.swapped.ents = D.ents from h2]
    rfl
  · exact h.at_.young.keep fun hne => ho _ (h.at_.ne_young hne)
  · exact ⟨fun hh => absurd rfl hh, fun hh => absurd rfl hh, Nat.zero_le _⟩
  · exact fun c hc => (h.at_.chY c hc).keep fun e he => by
      obtain ⟨q, hq⟩ := (h.at_.chY c hc).mem he
      exact ho _ (h.at_.ne_ent hq)
  · exact ((h.chg.setCell (p := ⟨d, 1, none⟩) (fun _ => .inl rfl) _).setCell (p := ⟨d, 2, none⟩) (fun _ => .inl rfl) _).setCell (p := ⟨d, 3, none⟩) (fun _ => .inl rfl) _
  · rintro k (rfl | ⟨hne, rfl⟩ | ⟨hne, rfl⟩ | ⟨e, he, rfl⟩)
    · exact h.foot _ (.inl rfl)
    · exact h.foot _ (.inr (.inr (.inl ⟨hne, rfl⟩)))
    · exact absurd rfl hne
    · rw [h2] at he
      exact h.foot _ (.inr (.inr (.inr ⟨e, he, rfl⟩)))

set_option maxHeartbeats 4000000 in
set_option maxRecDepth 100000 in
theorem step_end (w W : World) (d : Nat) (D0 D : Dc) (h : SI w d D0 W D) (hm : D.Mid) (u1 u2 u3 u4 u5 u6 u7 u8 u9 u10 u11 u12 u13 u14 u15 u16 u17 u18 u19 u20 u21 u22 u23 u24 u25 u26 u27 u28 u29 u30 u31 u32 u33 u34 u35 u36 u37 u38 u39 u40 u41 u42 u43 u44 u45 u46 u47 u48 u49 u50 u51 u52 u53 u54 u55 u56 u57 u58 u59 u60 u61 u62 u63 u64 u65 u66 u67 u68 u69 u70 u71 u72 u73 u74 u75 u76 u77 u78 u79 u80 u81 u82 u83 u84 u85 u86 u87 u88 u89 u90 u91 u92 u93 u94 u95 u96 u97 u98 u99 u100 u101 u102 u103 u104 u105 u106 u107 u108 u109 u110 u111 u112 u113 u114 u115 u116 u117 u118 u119 u120 u121 u122 u123 u124 u125 u126 u127 u128 u129 : Value) :
    ∀ c, cfst (cskip 3 (cbody Tryz.f108)) = c → ∀ cr, csnd (cskip 3 (cbody Tryz.f108)) = cr → ∀ K : Act → World → Prop, (∀ a v, Code.wp Tryz.prog cr (bodyPost Tryz.prog Tryz.f108 (StepPost d D0 w)) a v → K a v) →
      Code.wp Tryz.prog c (Exit.then K (bodyPost Tryz.prog Tryz.f108 (StepPost d D0 w))) { tmps := #[.pointer (some ⟨d, 0, none⟩), u1, u2, u3, u4, u5, u6, u7, u8, u9, u10, u11, u12, u13, u14, u15, u16, u17, u18, u19, u20, u21, u22, u23, u24, u25, u26, u27, u28, u29, u30, u31, u32, u33, u34, u35, u36, u37, u38, u39, u40, u41, u42, u43, u44, u45, u46, u47, u48, u49, u50, u51, u52, u53, u54, u55, u56, u57, u58, u59, u60, u61, u62, u63, u64, u65, u66, u67, u68, u69, u70, u71, u72, u73, u74, u75, u76, u77, u78, u79, u80, u81, u82, u83, u84, u85, u86, u87, u88, u89, u90, u91, u92, u93, u94, u95, u96, u97, u98, u99, u100, u101, u102, u103, u104, u105, u106, u107, u108, u109, u110, u111, u112, u113, u114, u115, u116, u117, u118, u119, u120, u121, u122, u123, u124, u125, u126, u127, u128, u129], defers := [] } W := by
  obtain ⟨⟨d0, d1, d2, d3, d4⟩, df⟩ := five h.at_.head
  have df1 := df 1
  have df2 := df 2
  have df3 := df 3
  have hT : D.T.length ≤ 1099511627776 := h.at_.old.few
  have hle := hm.le
  have HS := fun hp q => Lib.hid ((h.drewN q).swap hm hp)
  have HW := fun hp q => Lib.hid (show StepPost d D0 w (.returned (.tuple #[])) (W.drewN q) from ⟨rfl, D, hm.wf hp, h.drewN q⟩)
  rw [tabV_some hm.young] at d2 HS
  obtain ⟨bn, hbn⟩ : ∃ b, D.bn = b := ⟨_, rfl⟩
  obtain ⟨ny, hny⟩ : ∃ b, D.Y.length = b := ⟨_, rfl⟩
  obtain ⟨a, ha⟩ : ∃ b, D.pos = b := ⟨_, rfl⟩
  rw [hbn, hny] at d2 HS
  rw [ha] at d3 hle HS HW
  have hd1 : ∃ q, tabV D.bo D.T = .slice q D.T.length D.T.length := by
    unfold tabV
    split
    · rename_i h0; rw [h0]; exact ⟨_, rfl⟩
    · exact ⟨_, rfl⟩
  obtain ⟨q, hq⟩ := hd1
  rw [hq] at d1
  obtain ⟨nt, hnt⟩ : ∃ b, D.T.length = b := ⟨_, rfl⟩
  rw [hnt] at d1 hle hT HS HW
  clear h hm df d0 d4 hbn hny ha hq hnt
  intro c hc cr hcr K hK
  conv at hc => lhs; whnf
  conv at hcr => lhs; whnf
  subst hc hcr
  by_cases hp : a = nt
  · have HS2 := HS hp
    clear HW HS
    subst hp
    go_wp2_with fail
    go_quiet (fail)
    go_wp2_with fail
    (try simp only [Exit.inBlock, Exit.then]); refine bodyPost_ret (results_none rfl _ _ _) rfl ?_
    exact (HS2 _).out
  · have HW2 := HW (by omega)
    have hpi : ((a : Int) == (nt : Int)) = false := by simpa using fun h : (a : Int) = (nt : Int) => hp (by omega)
    clear HS HW
    go_wp2_with fail
    go_quiet (fail)
    go_wp2_with fail
    (try simp only [Exit.inBlock, Exit.then]); refine bodyPost_ret (results_none rfl _ _ _) rfl ?_
    exact (HW2 _).out
end Go.Proofs.YteiklgbjjmlmaaaGreat.DStr


/- A step of moving: a bucket is moved. -/
set_option linter.unusedVariables false
set_option linter.unusedSimpArgs false

namespace Go.Proofs.YteiklgbjjmlmaaaGreat.DStr
open Go.RowKit Pantry

/-- The blocks that the moving of a bucket changes. -/
def MS (bn : Nat) (c : List DE) (k : Nat) : Prop := k = bn ∨ ∃ e ∈ c, k = e.b
/-- While a bucket is moved. -/
structure HL (seed bn : Nat) (Y : List (List DE)) (c0 done rest : List DE) (W wr : World) : Prop where
  all : c0 = done ++ rest
  chain : ChainAt wr rest
  tab : TabAt wr bn (done.foldl (hangT seed) Y)
  chains : ∀ c ∈ done.foldl (hangT seed) Y, ChainAt wr c
  chg : Chg (MS bn c0) W wr
theorem HL.drewN {seed bn : Nat} {Y : List (List DE)} {c0 done rest : List DE} {W wr : World} (h : HL seed bn Y c0 done rest W wr) (q : Nat) : HL seed bn Y c0 done rest W (wr.drewN q) :=
  ⟨h.all, h.chain.keep fun _ _ => rfl, h.tab.keep fun _ => rfl, fun c hc => (h.chains c hc).keep fun _ _ => rfl, h.chg.drewN⟩
theorem HL.hnot {seed bn : Nat} {Y : List (List DE)} {c0 done rest : List DE} {e : DE} {W wr : World} (h : HL seed bn Y c0 done (e :: rest) W wr) (hY : Y ≠ []) (hn : ((c0 ++ Y.flatten).map (·.b)).Nodup) :
    (∀ c ∈ done.foldl (hangT seed) Y, ∀ x ∈ c, x.b ≠ e.b) ∧ (∀ x ∈ rest, x.b ≠ e.b) := by
  have hp := hangs_perm (seed := seed) hY done
  rw [h.all] at hn
  simp only [List.append_assoc, List.cons_append, List.map_append, List.map_cons] at hn
  have hn2 := (List.perm_middle.nodup_iff).1 hn
  rw [List.nodup_cons] at hn2
  have hno := hn2.1
  simp only [List.mem_append, List.mem_map, not_or, not_exists, not_and] at hno
  refine ⟨fun c hc x hx hb => ?_, fun x hx hb => hno.2.1 x hx hb⟩
  have hm : x ∈ done ++ Y.flatten := hp.mem_iff.1 (List.mem_flatten.2 ⟨c, hc, hx⟩)
  rcases List.mem_append.1 hm with hm | hm
  · exact hno.1 x hm hb
  · exact hno.2.2 x hm hb
theorem HL.step {seed bn : Nat} {Y : List (List DE)} {c0 done rest : List DE} {e : DE} {W wr w' : World} {r : Ending} (h : HL seed bn Y c0 done (e :: rest) W wr) (hY : Y ≠ []) (hn : ((c0 ++ Y.flatten).map (·.b)).Nodup)
    (hp : HangPost seed bn (done.foldl (hangT seed) Y) e wr r w') : HL seed bn Y c0 (done ++ [e]) rest W w' := by
  obtain ⟨-, h2⟩ := h.hnot hY hn
  refine ⟨by rw [h.all]; simp, h.chain.2.keep fun x hx => ?_, by rw [hangs_snoc]; exact hp.tab, by rw [hangs_snoc]; exact hp.chains, ?_⟩
  · obtain ⟨q, hq⟩ := h.chain.2.mem hx
    refine hp.chg.block _ (block_lt hq) ?_
    rintro (hb | hb)
    · exact h.tab.ent_ne (hangs_ne hY _) hq hb
    · exact h2 x hx hb
  · refine h.chg.trans hp.chg ?_
    rintro j - (rfl | rfl)
    · exact .inl rfl
    · exact .inr ⟨e, by rw [h.all]; simp, rfl⟩
theorem MS.not_head {w W : World} {d : Nat} {D0 D : Dc} (h : SI w d D0 W D) (hY : D.Y ≠ []) {c0 : List DE} (hc : D.T[D.pos]? = some c0) : ¬ MS D.bn c0 d := by
  rintro (hb | ⟨e, he, hb⟩)
  · exact h.at_.ne_young hY hb.symm
  · obtain ⟨q, hq⟩ := (h.at_.chT c0 (List.mem_of_getElem? hc)).mem he
    exact h.at_.ne_ent hq hb.symm
theorem MS.not_old {w W : World} {d : Nat} {D0 D : Dc} (h : SI w d D0 W D) (hY : D.Y ≠ []) {c0 : List DE} (hc : D.T[D.pos]? = some c0) : ¬ MS D.bn c0 D.bo := by
  have hT : D.T ≠ [] := by intro h0; rw [h0] at hc; cases hc
  rintro (hb | ⟨e, he, hb⟩)
  · exact h.at_.ne hT hY hb
  · obtain ⟨q, hq⟩ := (h.at_.chT c0 (List.mem_of_getElem? hc)).mem he
    exact h.at_.old.ent_ne hT hq hb.symm
theorem mid_nodup {D : Dc} (hm : D.Mid) {c0 : List DE} (hc : D.T[D.pos]? = some c0) : ((c0 ++ D.Y.flatten).map (·.b)).Nodup := by
  obtain ⟨A, B, h1, -⟩ := flat_at hc
  have hb := hm.blocks
  unfold Dc.ents at hb
  rw [h1] at hb
  refine List.Sublist.nodup ?_ hb
  refine List.Sublist.map _ ?_
  rw [List.append_assoc, List.append_assoc]
  exact ((List.sublist_append_right B D.Y.flatten).append_left c0).trans (List.sublist_append_right A _)
/-- The bucket has been moved. -/
theorem SI.moved {w W W2 : World} {d : Nat} {D0 D : Dc} (h : SI w d D0 W D) (hm : D.Mid) {c0 : List DE} (hc : D.T[D.pos]? = some c0) (hl : HL D.seed D.bn D.Y c0 c0 [] W W2) :
    SI w d D0 ((W2.setCell ⟨D.bo, D.pos, none⟩ (.pointer none)).setCell ⟨d, 3, none⟩ (.int .i64 ((D.pos + 1 : Nat) : Int))) (D.moved c0) := by
  have hT : D.T ≠ [] := by intro h0; rw [h0] at hc; cases hc
  have hY := hm.young
  have hp := Dc.moved_perm hc hY
  have hnd := mid_nodup hm hc
  have ho : ∀ k, k ≠ d → k ≠ D.bo → ((W2.setCell ⟨D.bo, D.pos, none⟩ (.pointer none)).setCell ⟨d, 3, none⟩ (.int .i64 ((D.pos + 1 : Nat) : Int))).heap[k]? = W2.heap[k]? := fun k h1 h2 =>
    (heapSetOther (p := ⟨d, 3, none⟩) h1).trans (heapSetOther (p := ⟨D.bo, D.pos, none⟩) h2)
  have hW2 : ∀ k o, W.heap[k]? = some o → ¬ MS D.bn c0 k → W2.heap[k]? = some o := fun k o hk hn => hl.chg.heap hk hn
  have hhead := hW2 d _ h.at_.head (MS.not_head h hY hc)
  have hold := hW2 D.bo _ (h.at_.old.cells hT) (MS.not_old h hY hc)
  have hbd := h.at_.ne_old hT
  have hY2 := hangs_ne (seed := D.seed) hY c0
  have hby : D.bo ≠ D.bn := h.at_.ne hT hY
  have hyd := h.at_.ne_young hY
  refine ⟨h.seed, hp.trans h.perm, ⟨?_, ⟨fun _ => ?_, fun _ => ?_, ?_⟩, ?_, ?_, ?_, fun _ _ => hby⟩, ?_, ?_⟩
  · rw [heapSetHere ((heapSetOther (p := ⟨D.bo, D.pos, none⟩) hbd.symm).trans hhead)]
    have e1 : tabV D.bo (D.T.set D.pos []) = tabV D.bo D.T := by
      rw [tabV_some hT, tabV_some (by intro h0; have := congrArg List.length h0; rw [List.length_set] at this; exact hT (List.length_eq_zero_iff.1 this)), List.length_set]
    have e2 : tabV D.bn (c0.foldl (hangT D.seed) D.Y) = tabV D.bn D.Y := by rw [tabV_some hY, tabV_some hY2, hangs_length]
    show _ = some (Obj.cells #[.int .u64 D.seed, tabV D.bo (D.T.set D.pos []), tabV D.bn (c0.foldl (hangT D.seed) D.Y), .int .i64 ((D.pos + 1 : Nat) : Int), .int .i64 ((D.moved c0).ents.length : Nat)] 188 (0, 0))
    rw [e1, e2, hp.length_eq]
    rfl
  · refine (heapSetOther (p := ⟨d, 3, none⟩) hbd).trans ?_
    rw [heapSetHere hold]
    simp [Dc.moved, List.map_set, ptrOf, ptrA]
  · show ∃ k, (D.T.set D.pos []).length = 2 ^ k
    rw [List.length_set]; exact h.at_.old.two hT
  · show (D.T.set D.pos []).length ≤ _
    rw [List.length_set]; exact h.at_.old.few
  · exact hl.tab.keep fun _ => ho _ hyd hby.symm
  · intro c hcc
    have hcc' : c ∈ D.T.set D.pos [] := hcc
    obtain ⟨i, hi, rfl⟩ := List.mem_iff_getElem.1 hcc'
    have hg : (D.T.set D.pos [])[i]? = some (D.T.set D.pos [])[i] := List.getElem?_eq_getElem hi
    generalize (D.T.set D.pos [])[i] = c at hg
    rw [List.getElem?_set] at hg
    by_cases hpi : D.pos = i
    · rw [if_pos hpi] at hg
      split at hg <;> cases hg <;> trivial
    · rw [if_neg hpi] at hg
      refine (h.at_.chT c (List.mem_of_getElem? hg)).keep fun e he => ?_
      obtain ⟨q, hq⟩ := (h.at_.chT c (List.mem_of_getElem? hg)).mem he
      refine (ho _ (h.at_.ne_ent hq) (h.at_.old.ent_ne hT hq)).trans ?_
      refine (hW2 _ _ hq ?_).trans hq.symm
      rintro (hb | ⟨x, hx, hb⟩)
      · exact h.at_.young.ent_ne hY hq hb
      · have hbl := hm.blocks
        have h1 := hm.placeT i c e hg he
        have h2 := hm.placeT D.pos c0 x hc hx
        have : e = x := by
          have hi1 : e ∈ D.ents := List.mem_append.2 (.inl (List.mem_flatten.2 ⟨c, List.mem_of_getElem? hg, he⟩))
          have hi2 : x ∈ D.ents := List.mem_append.2 (.inl (List.mem_flatten.2 ⟨c0, List.mem_of_getElem? hc, hx⟩))
          obtain ⟨a, ha, rfl⟩ := List.mem_iff_getElem.1 hi1
          obtain ⟨b, hb', rfl⟩ := List.mem_iff_getElem.1 hi2
          have := nodup_inj hbl (i := a) (j := b) (g := D.ents[a].b) (by simp [ha]) (by simp [hb', hb])
          subst this; rfl
        subst this
        exact hpi (h2.symm.trans h1)
  · intro c hcc
    refine (hl.chains c hcc).keep fun e he => ?_
    obtain ⟨q, hq⟩ := (hl.chains c hcc).mem he
    exact ho _ (types_ne hq hhead (by decide)) (types_ne hq hold (by decide))
  · refine ((h.chg.trans hl.chg ?_).setCell (p := ⟨D.bo, D.pos, none⟩) (fun _ => h.foot _ (.inr (.inl ⟨hT, rfl⟩))) _).setCell (p := ⟨d, 3, none⟩) (fun _ => .inl rfl) _
    rintro j - (rfl | ⟨e, he, rfl⟩)
    · exact h.foot _ (.inr (.inr (.inl ⟨hY, rfl⟩)))
    · exact h.foot _ (.inr (.inr (.inr ⟨e, List.mem_append.2 (.inl (List.mem_flatten.2 ⟨c0, List.mem_of_getElem? hc, he⟩)), rfl⟩)))
  · rintro k (rfl | ⟨hne, rfl⟩ | ⟨hne, rfl⟩ | ⟨e, he, rfl⟩)
    · exact h.foot _ (.inl rfl)
    · exact h.foot _ (.inr (.inl ⟨hT, rfl⟩))
    · exact h.foot _ (.inr (.inr (.inl ⟨hY, rfl⟩)))
    · exact h.foot _ (.inr (.inr (.inr ⟨e, hp.mem_iff.1 he, rfl⟩)))
end Go.Proofs.YteiklgbjjmlmaaaGreat.DStr


/- A step of moving: the bucket at the place is looked at. -/
set_option linter.unusedVariables false
set_option linter.unusedSimpArgs false

namespace Go.Proofs.YteiklgbjjmlmaaaGreat.DStr
open Go.RowKit Pantry

set_option maxHeartbeats 8000000 in
set_option maxRecDepth 100000 in
theorem step_mid (w W : World) (d : Nat) (D0 D : Dc) (h : SI w d D0 W D) (hm : D.Mid) (u1 u2 u3 u4 u5 u6 u7 u8 u9 u10 u11 u12 u13 u14 u15 u16 u17 u18 u19 u20 u21 u22 u23 u24 u25 u26 u27 u28 u29 u30 u31 u32 u33 u34 u35 u36 u37 u38 u39 u40 u41 u42 u43 u44 u45 u46 u47 u48 u49 u50 u51 u52 u53 u54 u55 u56 u57 u58 u59 u60 u61 u62 u63 u64 u65 u66 u67 u68 u69 u70 u71 u72 u73 u74 u75 u76 u77 u78 u79 u80 u81 u82 u83 u84 u85 u86 u87 u88 u89 u90 u91 u92 u93 u94 u95 u96 u97 u98 u99 u100 u101 u102 u103 u104 u105 u106 u107 u108 u109 u110 u111 u112 u113 u114 u115 u116 u117 u118 u119 u120 u121 u122 u123 u124 u125 u126 u127 u128 u129 : Value) :
    ∀ c, cfst (cfst (cskip 2 (cbody Tryz.f108))) = c → ∀ ci, csnd (cfst (cskip 2 (cbody Tryz.f108))) = ci → ∀ cA, cskip 3 (cbody Tryz.f108) = cA →
    ∀ K0 : Act → World → Prop, (∀ a v, Code.wp Tryz.prog cA (bodyPost Tryz.prog Tryz.f108 (StepPost d D0 w)) a v → K0 a v) →
    ∀ K1 : Act → World → Prop, (∀ a v, Code.wp Tryz.prog ci (Exit.then K0 (bodyPost Tryz.prog Tryz.f108 (StepPost d D0 w))) a v → K1 a v) →
      Code.wp Tryz.prog c (Exit.then K1 (Exit.then K0 (bodyPost Tryz.prog Tryz.f108 (StepPost d D0 w)))) { tmps := #[.pointer (some ⟨d, 0, none⟩), u1, u2, u3, u4, u5, u6, u7, u8, u9, u10, u11, u12, u13, u14, u15, u16, u17, u18, u19, u20, u21, u22, u23, u24, u25, u26, u27, u28, u29, u30, u31, u32, u33, u34, u35, u36, u37, u38, u39, u40, u41, u42, u43, u44, u45, u46, u47, u48, u49, u50, u51, u52, u53, u54, u55, u56, u57, u58, u59, u60, u61, u62, u63, u64, u65, u66, u67, u68, u69, u70, u71, u72, u73, u74, u75, u76, u77, u78, u79, u80, u81, u82, u83, u84, u85, u86, u87, u88, u89, u90, u91, u92, u93, u94, u95, u96, u97, u98, u99, u100, u101, u102, u103, u104, u105, u106, u107, u108, u109, u110, u111, u112, u113, u114, u115, u116, u117, u118, u119, u120, u121, u122, u123, u124, u125, u126, u127, u128, u129], defers := [] } W := by
  obtain ⟨⟨d0, d1, d2, d3, d4⟩, df⟩ := five h.at_.head
  have HI := Lib.hid h
  have HM := Lib.hid hm
  have hT : D.T.length ≤ 1099511627776 := h.at_.old.few
  have hle := hm.le
  have hseed := hm.seed
  have htext := Lib.hid hm.text
  obtain ⟨a, ha⟩ : ∃ b, D.pos = b := ⟨_, rfl⟩
  obtain ⟨nt, hnt⟩ : ∃ b, D.T.length = b := ⟨_, rfl⟩
  rw [hnt] at hT hle
  rw [ha] at d3 hle
  have HAA := Lib.hid ha
  have HNT := Lib.hid hnt
  intro c hc ci hci cA hcA K0 hK0 K1 hK1
  conv at hc => lhs; whnf
  conv at hci => lhs; whnf
  conv at hcA => lhs; whnf
  subst hc hci hcA
  dsimp only
  by_cases hp : a < nt
  · have hT0 : D.T ≠ [] := by intro h0; rw [h0] at hnt; simp at hnt; omega
    obtain ⟨c0, hc0⟩ : ∃ c, D.T[D.pos]? = some c := ⟨_, List.getElem?_eq_getElem (by omega)⟩
    have hcell := h.at_.old.cell hc0
    have HC0 := Lib.hid hc0
    have hch := h.at_.chT c0 (List.mem_of_getElem? hc0)
    have HY := Lib.hid hm.young
    have hpi : decide ((a : Int) < (nt : Int)) = true := by simpa using hp
    rw [tabV_some hT0, hnt] at d1
    rw [tabV_some hm.young] at d2
    rw [ha] at hcell
    obtain ⟨bo, hbo⟩ : ∃ b, D.bo = b := ⟨_, rfl⟩
    rw [hbo] at d1 hcell
    have HBO := Lib.hid hbo
    cases c0 with
    | nil =>
      simp only [ptrOf, ptrA] at hcell
      clear h hm ha hnt hc0 hch hbo d0 d2 d4 df hT0
      go_quiet (fail)
      go_wp2_with fail
      exact step_end w _ d D0 D (HI.out.drewN _) HM.out _ _ _ _ _ _ _ _ _ _ _ _ _ _ _ _ _ _ _ _ _ _ _ _ _ _ _ _ _ _ _ _ _ _ _ _ _ _ _ _ _ _ _ _ _ _ _ _ _ _ _ _ _ _ _ _ _ _ _ _ _ _ _ _ _ _ _ _ _ _ _ _ _ _ _ _ _ _ _ _ _ _ _ _ _ _ _ _ _ _ _ _ _ _ _ _ _ _ _ _ _ _ _ _ _ _ _ _ _ _ _ _ _ _ _ _ _ _ _ _ _ _ _ _ _ _ _ _ _ _ rfl _ rfl _ (by assumption)
    | cons e c1 =>
      simp only [ptrOf, ptrA] at hcell
      have HCH := Lib.hid hch
      have HD0 := Lib.hid d0
      have HHEAD := Lib.hid h.at_.head
      have HL0 := Lib.hid (show HL D.seed D.bn D.Y (e :: c1) [] (e :: c1) W W from ⟨rfl, hch, h.at_.young, h.at_.chY, Chg.refl _ _⟩)
      have HND := Lib.hid (mid_nodup hm hc0)
      have HNH := Lib.hid (MS.not_head h hm.young hc0)
      have HOLD := Lib.hid (h.at_.old.cells hT0)
      have HNO := Lib.hid (MS.not_old h hm.young hc0)
      have HT0 := Lib.hid hT0
      obtain ⟨bn, hbn⟩ : ∃ b, D.bn = b := ⟨_, rfl⟩
      obtain ⟨ny, hny⟩ : ∃ b, D.Y.length = b := ⟨_, rfl⟩
      rw [hbn, hny] at d2
      have HBN := Lib.hid hbn
      have HNY := Lib.hid hny
      clear h hm ha hnt hc0 hch hbo d0 d4 df hT0 hbn hny
      go_quiet (fail)
      go_wp2_with fail
      go_quiet (fail)
      go_wp2_with fail
      clear d1 d2 d3 hcell
      go_loopg [3] ((e :: c1).length + 1) (fun g s wr => ∃ done rest : List DE, s = .pointer (ptrA rest) ∧ rest.length + 1 ≤ g ∧ Hid (HL D.seed D.bn D.Y (e :: c1) done rest W wr))
      case atStart => exact ⟨[], e :: c1, rfl, Nat.le_refl _, Lib.hid ((HL0.out.drewN _).drewN _)⟩
      case round =>
        obtain ⟨done, rest, rfl, hg, HH⟩ := hrel
        obtain ⟨⟨e0, e1, e2, e3, e4⟩, ef⟩ := five (HH.out.chg.heap HHEAD.out HNH.out)
        cases rest with
        | nil =>
          simp only [ptrA]
          rw [tabV_some HT0.out, HNT.out, HBO.out] at e1
          rw [HAA.out] at e3
          have hold := HH.out.chg.heap HOLD.out HNO.out
          have hcl : wr.cell? ⟨bo, a, none⟩ = some (.pointer (some ⟨e.b, 0, none⟩)) := by
            rw [← HBO.out, cell_of_row wr D.bo a _ _ _ hold, ← HAA.out]
            simp [HC0.out, ptrOf, ptrA]
          have hclf : wr.frozen? ⟨bo, a, none⟩ = false := by rw [← HBO.out]; exact frozen_of_row wr D.bo a _ _ hold
          have hne : d ≠ bo := fun hh => by rw [← HBO.out] at hh; exact types_ne (HH.out.chg.heap HHEAD.out HNH.out) hold (by decide) hh
          have hd3 : ∀ v, (wr.setCell ⟨bo, a, none⟩ v).cell? ⟨d, 3, none⟩ = some (.int .i64 a) := fun v => by
            have := heapSetOther (w := wr) (p := ⟨bo, a, none⟩) (v := v) hne
            rw [cell_of_row _ d 3 _ _ _ (this.trans (HH.out.chg.heap HHEAD.out HNH.out))]
            show some (Value.int .i64 D.pos) = _
            rw [HAA.out]
          have hd3f : ∀ v, (wr.setCell ⟨bo, a, none⟩ v).frozen? ⟨d, 3, none⟩ = false := fun v =>
            frozen_of_row _ d 3 _ _ ((heapSetOther (w := wr) (p := ⟨bo, a, none⟩) (v := v) hne).trans (HH.out.chg.heap HHEAD.out HNH.out))
          clear e0 e2 e4 ef hold hne
          go_wp2_with fail
          go_region
          go_wp2_with fail
          have hall := HH.out.all
          rw [List.append_nil] at hall
          subst hall
          have HE := HI.out.moved HM.out HC0.out HH.out
          rw [HBO.out, HAA.out, show ((a + 1 : Nat) : Int) = (a : Int) + 1 from rfl] at HE
          exact step_end w _ d D0 _ HE.drew (HM.out.moved HC0.out).1 _ _ _ _ _ _ _ _ _ _ _ _ _ _ _ _ _ _ _ _ _ _ _ _ _ _ _ _ _ _ _ _ _ _ _ _ _ _ _ _ _ _ _ _ _ _ _ _ _ _ _ _ _ _ _ _ _ _ _ _ _ _ _ _ _ _ _ _ _ _ _ _ _ _ _ _ _ _ _ _ _ _ _ _ _ _ _ _ _ _ _ _ _ _ _ _ _ _ _ _ _ _ _ _ _ _ _ _ _ _ _ _ _ _ _ _ _ _ _ _ _ _ _ _ _ _ _ _ _ _ rfl _ rfl _ (by assumption)
        | cons x r =>
          simp only [ptrA]
          rw [tabV_some HY.out, HNY.out, HBN.out] at e2
          obtain ⟨⟨c0, c1', c2⟩, -⟩ := three HH.out.chain.1
          have HC2 := Lib.hid c2
          unfold ptrOf at c2
          have HG := hang_any wr d D.bn D.seed (done.foldl (hangT D.seed) D.Y) x _ e0 hseed HH.out.tab (hangs_ne HY.out _) HH.out.chains HH.out.chain.1 (HH.out.hnot HY.out HND.out).1
            (htext.out x (List.mem_append.2 (.inl (List.mem_flatten.2 ⟨_, List.mem_of_getElem? HC0.out, by rw [HH.out.all]; simp⟩))))
          rw [tabV_some (hangs_ne HY.out _), hangs_length, HNY.out, HBN.out] at HG
          have HG := Lib.hid HG
          clear e0 e1 e3 e4 ef c0 c1'
          go_wp2_with (go_at_call 111; refine HG.out.mono ?_; rintro r1 w2 hp; obtain rfl := hp.res
                       have HP := Lib.hid hp
                       clear hp HG)
          go_roundg (r.length + 1)
          case measure => simp at hg; omega
          case rel => exact ⟨done ++ [x], r, rfl, Nat.le_refl _, Lib.hid (HH.out.step HY.out HND.out (by rw [HBN.out]; exact HP.out))⟩
  · have hpi : decide ((a : Int) < (nt : Int)) = false := by simpa using hp
    have hd1 : ∃ q, tabV D.bo D.T = .slice q nt nt := by
      unfold tabV
      split
      · rename_i h0; rw [h0] at hnt; simp at hnt; subst hnt; exact ⟨_, rfl⟩
      · rw [hnt]; exact ⟨_, rfl⟩
    obtain ⟨q, hq⟩ := hd1
    rw [hq] at d1
    clear h hm ha hnt hq d0 d2 d4 df
    go_quiet (fail)
    go_wp2_with fail
    exact step_end w _ d D0 D (HI.out.drewN _) HM.out _ _ _ _ _ _ _ _ _ _ _ _ _ _ _ _ _ _ _ _ _ _ _ _ _ _ _ _ _ _ _ _ _ _ _ _ _ _ _ _ _ _ _ _ _ _ _ _ _ _ _ _ _ _ _ _ _ _ _ _ _ _ _ _ _ _ _ _ _ _ _ _ _ _ _ _ _ _ _ _ _ _ _ _ _ _ _ _ _ _ _ _ _ _ _ _ _ _ _ _ _ _ _ _ _ _ _ _ _ _ _ _ _ _ _ _ _ _ _ _ _ _ _ _ _ _ _ _ _ _ rfl _ rfl _ (by assumption)
end Go.Proofs.YteiklgbjjmlmaaaGreat.DStr


/- A step of moving. -/
set_option linter.unusedVariables false
set_option linter.unusedSimpArgs false

namespace Go.Proofs.YteiklgbjjmlmaaaGreat.DStr
open Go.RowKit Pantry

theorem step_none (w : World) (d : Nat) (D : Dc) (h : DictAt w d D) (hw : D.Wf) (hY : D.Y = []) : Calls Tryz.prog 108 #[.pointer (some ⟨d, 0, none⟩)] w (StepPost d D w) := by
  obtain ⟨⟨d0, d1, d2, d3, d4⟩, df⟩ := five h.head
  rw [hY, tabV_nil] at d2
  have HM := Lib.hid (moving_no w d d2)
  have HP := Lib.hid (show StepPost d D w (.returned (.tuple #[])) w from ⟨rfl, D, hw, rfl, List.Perm.refl _, h, Chg.refl _ _, fun _ h => h⟩)
  clear h hw hY d0 d1 d2 d3 d4 df
  go_enter Tryz.func108, Tryz.ntmps108
  go_wp2_with (go_at_call 110; refine HM.out.mono ?_; rintro e w1 ⟨rfl, rfl⟩)
  (try simp only [Exit.inBlock, Exit.then]); refine bodyPost_ret (results_none rfl _ _ _) rfl ?_
  exact HP.out

set_option maxHeartbeats 8000000 in
set_option maxRecDepth 100000 in
theorem step_some (w : World) (d : Nat) (D0 : Dc) (h : DictAt w d D0) (hw : D0.Wf) (hY : D0.Y ≠ []) : Calls Tryz.prog 108 #[.pointer (some ⟨d, 0, none⟩)] w (StepPost d D0 w) := by
  obtain ⟨⟨d0, d1, d2, d3, d4⟩, df⟩ := five h.head
  rw [tabV_some hY] at d2
  have HMV := Lib.hid (moving_yes w d _ _ (List.length_pos_iff.2 hY) d2)
  have HI0 := Lib.hid (show SI w d D0 w D0 from ⟨rfl, List.Perm.refl _, h, Chg.refl _ _, fun _ h => h⟩)
  have HM0 := Lib.hid (hw.mid hY)
  have hT0 : D0.T ≠ [] := by intro h0; have := hw.moves hY; rw [h0] at this; cases this
  have HT0 := Lib.hid hT0
  have HYY := Lib.hid hY
  have hf := h.old.few
  obtain ⟨nt, hnt⟩ : ∃ b, D0.T.length = b := ⟨_, rfl⟩
  rw [hnt] at hf
  have HNT := Lib.hid hnt
  obtain ⟨bo, hbo⟩ : ∃ b, D0.bo = b := ⟨_, rfl⟩
  have HBO := Lib.hid hbo
  clear h hw hY d0 d1 d2 d3 d4 df hT0 hnt hbo
  go_enter Tryz.func108, Tryz.ntmps108
  go_wp2_with (go_at_call 110; refine HMV.out.mono ?_; rintro e w1 ⟨rfl, rfl⟩)
  go_loopw [2] (fun s wr => ∃ k a : Nat, k ≤ 10 ∧ s = .int .i64 k ∧ a ≤ nt ∧ Hid (SI w d D0 wr (D0.withPos a)) ∧ Hid (D0.withPos a).Mid) (fun s _ => 10 - (intOf s).toNat)
  case atStart => exact ⟨0, D0.pos, by omega, rfl, by rw [← HNT.out]; exact HM0.out.le, HI0, HM0⟩
  case round =>
    obtain ⟨k, a, hk, rfl, han, HI, HM⟩ := hrel
    obtain ⟨⟨d0, d1, d2, d3, d4⟩, df⟩ := five HI.out.at_.head
    have d1' : wr.cell? ⟨d, 1, none⟩ = some (.slice (some ⟨bo, 0, none⟩) nt nt) := by rw [d1, ← HBO.out, ← HNT.out]; rw [show (D0.withPos a).T = D0.T from rfl, tabV_some HT0.out]; rfl
    have d3' : wr.cell? ⟨d, 3, none⟩ = some (.int .i64 a) := d3
    have df3 := df 3
    clear d0 d1 d2 d3 d4 df
    by_cases hk10 : k < 10
    · have hk10' : decide ((k : Int) < 10) = true := by simp; omega
      by_cases hp : a < nt
      · have hpi : decide ((a : Int) < (nt : Int)) = true := by simpa using hp
        obtain ⟨c0, hc0⟩ : ∃ c, D0.T[a]? = some c := ⟨_, List.getElem?_eq_getElem (by rw [HNT.out]; exact hp)⟩
        have hcell := HI.out.at_.old.cell (i := a) (c := c0) hc0
        rw [show (D0.withPos a).bo = bo from HBO.out] at hcell
        have HC0 := Lib.hid hc0
        clear hc0
        cases c0 with
        | nil =>
          simp only [ptrOf, ptrA] at hcell
          go_wp2_with fail
          go_quiet (fail)
          go_wp2_with fail
          go_roundw
          case rel => exact ⟨k + 1, a + 1, by omega, by go_num, by omega, Lib.hid ((HI.out.drewN _).setPos (a + 1)), Lib.hid (HM.out.passed HC0.out)⟩
          case measure => simp [intOf]; omega
        | cons e c1 =>
          simp only [ptrOf, ptrA] at hcell
          go_wp2_with fail
          go_quiet (fail)
          go_wp2_with fail
          exact step_mid w _ d D0 _ (HI.out.drewN _) HM.out _ _ _ _ _ _ _ _ _ _ _ _ _ _ _ _ _ _ _ _ _ _ _ _ _ _ _ _ _ _ _ _ _ _ _ _ _ _ _ _ _ _ _ _ _ _ _ _ _ _ _ _ _ _ _ _ _ _ _ _ _ _ _ _ _ _ _ _ _ _ _ _ _ _ _ _ _ _ _ _ _ _ _ _ _ _ _ _ _ _ _ _ _ _ _ _ _ _ _ _ _ _ _ _ _ _ _ _ _ _ _ _ _ _ _ _ _ _ _ _ _ _ _ _ _ _ _ _ _ _ rfl _ rfl _ rfl _ (by assumption) _ (by assumption)
      · have hpi : decide ((a : Int) < (nt : Int)) = false := by simpa using hp
        go_wp2_with fail
        go_quiet (fail)
        go_wp2_with fail
        exact step_mid w _ d D0 _ (HI.out.drewN _) HM.out _ _ _ _ _ _ _ _ _ _ _ _ _ _ _ _ _ _ _ _ _ _ _ _ _ _ _ _ _ _ _ _ _ _ _ _ _ _ _ _ _ _ _ _ _ _ _ _ _ _ _ _ _ _ _ _ _ _ _ _ _ _ _ _ _ _ _ _ _ _ _ _ _ _ _ _ _ _ _ _ _ _ _ _ _ _ _ _ _ _ _ _ _ _ _ _ _ _ _ _ _ _ _ _ _ _ _ _ _ _ _ _ _ _ _ _ _ _ _ _ _ _ _ _ _ _ _ _ _ _ rfl _ rfl _ rfl _ (by assumption) _ (by assumption)
    · have hk10' : decide ((k : Int) < 10) = false := by simp; omega
      go_wp2_with fail
      go_quiet (fail)
      go_wp2_with fail
      exact step_mid w _ d D0 _ (HI.out.drewN _) HM.out _ _ _ _ _ _ _ _ _ _ _ _ _ _ _ _ _ _ _ _ _ _ _ _ _ _ _ _ _ _ _ _ _ _ _ _ _ _ _ _ _ _ _ _ _ _ _ _ _ _ _ _ _ _ _ _ _ _ _ _ _ _ _ _ _ _ _ _ _ _ _ _ _ _ _ _ _ _ _ _ _ _ _ _ _ _ _ _ _ _ _ _ _ _ _ _ _ _ _ _ _ _ _ _ _ _ _ _ _ _ _ _ _ _ _ _ _ _ _ _ _ _ _ _ _ _ _ _ _ _ rfl _ rfl _ rfl _ (by assumption) _ (by assumption)
theorem step_any (w : World) (d : Nat) (D : Dc) (h : DictAt w d D) (hw : D.Wf) : Calls Tryz.prog 108 #[.pointer (some ⟨d, 0, none⟩)] w (StepPost d D w) := by
  by_cases hY : D.Y = []
  · exact step_none w d D h hw hY
  · exact step_some w d D h hw hY
end Go.Proofs.YteiklgbjjmlmaaaGreat.DStr
