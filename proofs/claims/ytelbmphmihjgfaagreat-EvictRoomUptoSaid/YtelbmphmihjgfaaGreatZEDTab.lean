/- Chains of entries, tables; the bucket of a key. -/
import Derived.Test.YtelbmphmihjgfaaGreatZDHash
import Derived.Deep.LoopGhost
set_option linter.unusedVariables false
set_option linter.unusedSimpArgs false
namespace Go.Proofs.YtelbmphmihjgfaaGreat.DEnt
open Go.RowKit Pantry

theorem three {w : World} {g : Nat} {c0 c1 c2 : Value} {t : TypeId} (h : w.heap[g]? = some (.cells #[c0, c1, c2] t)) :
    (w.cell? ⟨g, 0, none⟩ = some c0 ∧ w.cell? ⟨g, 1, none⟩ = some c1 ∧ w.cell? ⟨g, 2, none⟩ = some c2) ∧ ∀ j, w.frozen? ⟨g, j, none⟩ = false := by
  refine ⟨⟨?_, ?_, ?_⟩, fun j => frozen_of_row w g j _ _ h⟩ <;> rw [cell_of_row w g _ _ _ _ h] <;> rfl
/-- A chain in memory: each entry points to the one behind it. -/
def ChainAt (w : World) : List DE → Prop
  | [] => True
  | e :: c => w.heap[e.b]? = some (.cells #[.string ⟨e.key.toArray⟩, e.val, ptrOf c] 146) ∧ ChainAt w c
theorem ChainAt.keep {w w' : World} {c : List DE} (h : ChainAt w c) (hk : ∀ e ∈ c, w'.heap[e.b]? = w.heap[e.b]?) : ChainAt w' c := by
  induction c with
  | nil => trivial
  | cons e c ih => exact ⟨(hk e List.mem_cons_self).trans h.1, ih h.2 fun x hx => hk x (List.mem_cons_of_mem _ hx)⟩
theorem ChainAt.drop {w : World} {c : List DE} (h : ChainAt w c) (k : Nat) : ChainAt w (c.drop k) := by
  induction c generalizing k with
  | nil => simpa using h
  | cons e c ih =>
    cases k with
    | zero => exact h
    | succ k => exact ih h.2 k
theorem ChainAt.mem {w : World} {c : List DE} (h : ChainAt w c) {e : DE} (he : e ∈ c) : ∃ q, w.heap[e.b]? = some (.cells #[.string ⟨e.key.toArray⟩, e.val, q] 146) := by
  induction c with
  | nil => cases he
  | cons x c ih =>
    rcases List.mem_cons.1 he with rfl | he
    · exact ⟨_, h.1⟩
    · exact ih h.2 he
/-- A table's value; a table in memory. -/
def tabV (b : Nat) (T : List (List DE)) : Value := if T = [] then .slice none 0 0 else .slice (some ⟨b, 0, none⟩) T.length T.length
theorem tabV_nil (b : Nat) : tabV b [] = .slice none 0 0 := rfl
theorem tabV_some {b : Nat} {T : List (List DE)} (h : T ≠ []) : tabV b T = .slice (some ⟨b, 0, none⟩) T.length T.length := by rw [tabV, if_neg h]
structure TabAt (w : World) (b : Nat) (T : List (List DE)) : Prop where
  cells : T ≠ [] → w.heap[b]? = some (.cells (T.map ptrOf).toArray 144)
  two : T ≠ [] → ∃ k, T.length = 2 ^ k
  few : T.length ≤ 1099511627776
theorem TabAt.cell {w : World} {b : Nat} {T : List (List DE)} (h : TabAt w b T) {i : Nat} {c : List DE} (hi : T[i]? = some c) : w.cell? ⟨b, i, none⟩ = some (ptrOf c) := by
  have hne : T ≠ [] := by rintro rfl; cases hi
  rw [cell_of_row w b i _ _ _ (h.cells hne)]
  simp [hi]
theorem TabAt.keep {w w' : World} {b : Nat} {T : List (List DE)} (h : TabAt w b T) (hk : T ≠ [] → w'.heap[b]? = w.heap[b]?) : TabAt w' b T := ⟨fun hne => (hk hne).trans (h.cells hne), h.two, h.few⟩

set_option maxHeartbeats 1000000 in
theorem slot_any (w : World) (d b n k seed : Nat) (key : List UInt8) (hd : w.cell? ⟨d, 0, none⟩ = some (.int .u64 seed)) (hseed : seed < 18446744073709551616) (hn : n = 2 ^ k) (hl : n ≤ 1099511627776) (hs : key.length ≤ 140737488351232) :
    Calls Tryz.prog 121 #[.pointer (some ⟨d, 0, none⟩), .slice (some ⟨b, 0, none⟩) n n, .string ⟨key.toArray⟩] w fun e w' => e = .returned (.pointer (some ⟨b, dslotN seed key n, none⟩)) ∧ w = w' := by
  have hp : 0 < n := by subst hn; exact Nat.two_pow_pos k
  have ha := and_mask hn (hashN_lt seed key) hl
  have hlt : hashN seed key % n < n := Nat.mod_lt _ hp
  have hw : IntKind.u64.wrap ((n : Int) - 1) = (n : Int) - 1 := by rw [IntKind.wrap_u64]; omega
  have HH := Lib.hid (hash_any w seed key hs hseed)
  unfold dslotN
  obtain ⟨h, hh⟩ : ∃ h, hashN seed key = h := ⟨_, rfl⟩
  rw [hh] at ha hlt HH ⊢
  obtain ⟨i, hi⟩ : ∃ i, h % n = i := ⟨_, rfl⟩
  rw [hi] at ha hlt ⊢
  clear hn hh hi
  go_enter Tryz.func121, Tryz.ntmps121
  go_wp2_with (go_at_call 136; refine HH.out.mono ?_; rintro e w1 ⟨rfl, rfl⟩)
  go_ret
  exact ⟨rfl, rfl⟩
end Go.Proofs.YtelbmphmihjgfaaGreat.DEnt

/- Where a key's entry hangs. -/
set_option linter.unusedVariables false
set_option linter.unusedSimpArgs false
namespace Go.Proofs.YtelbmphmihjgfaaGreat.DEnt
open Go.RowKit Pantry

set_option maxHeartbeats 1000000 in
theorem link_nil (w : World) (p : Option Addr) (key : List UInt8) : Calls Tryz.prog 120 #[.pointer p, .slice none 0 0, .string ⟨key.toArray⟩] w fun e w' => e = .returned (.pointer none) ∧ w = w' := by
  go_enter Tryz.func120, Tryz.ntmps120
  go_wp2_with fail
  go_ret
  exact ⟨rfl, rfl⟩
set_option maxHeartbeats 2000000 in
theorem link_some (w : World) (d b seed : Nat) (T : List (List DE)) (key : List UInt8) (hd : w.cell? ⟨d, 0, none⟩ = some (.int .u64 seed)) (hseed : seed < 18446744073709551616) (hT : TabAt w b T) (hne : T ≠ [])
    (hc : ∀ c ∈ T, ChainAt w c) (hs : key.length ≤ 140737488351232) :
    Calls Tryz.prog 120 #[.pointer (some ⟨d, 0, none⟩), tabV b T, .string ⟨key.toArray⟩] w fun e w' => e = .returned (.pointer (linkT seed b T key)) ∧ w = w' := by
  obtain ⟨c, hcT⟩ := slot_get (seed := seed) hne key
  have hcell := hT.cell hcT
  have hch := hc c (List.mem_of_getElem? hcT)
  have e1 : linkT seed b T key = linkC ⟨b, dslotN seed key T.length, none⟩ c key := by rw [linkT, hcT]
  obtain ⟨k, hk⟩ := hT.two hne
  have HS := Lib.hid (slot_any w d b T.length k seed key hd hseed hk hT.few hs)
  have hp : 0 < T.length := List.length_pos_iff.2 hne
  have hf := hT.few
  rw [tabV_some hne, e1]
  obtain ⟨i, hi⟩ : ∃ i, dslotN seed key T.length = i := ⟨_, rfl⟩
  rw [hi] at hcell HS ⊢
  obtain ⟨n, hn⟩ : ∃ n, T.length = n := ⟨_, rfl⟩
  rw [hn] at HS hp hf ⊢
  have hn0 : ¬ n = 0 := by omega
  have HR := Lib.hid (show w.cell? ⟨b, i, none⟩ = some (ptrOf c) ∧ ChainAt w c from ⟨hcell, hch⟩)
  obtain ⟨r, hr⟩ : ∃ r, linkC ⟨b, i, none⟩ c key = r := ⟨_, rfl⟩
  rw [hr]
  have HRR := Lib.hid hr
  clear hcT hcell hch e1 hk hi hn hT hne hc hd hr
  go_enter Tryz.func120, Tryz.ntmps120
  go_wp2_with (go_at_call 121; refine HS.out.mono ?_; rintro e w1 ⟨rfl, rfl⟩)
  go_loopg [7] (c.length + 1) (fun g s wr => wr = w ∧ ∃ (a : Addr) (es : List DE), s = .pointer (some a) ∧ es.length + 1 ≤ g ∧ Hid (w.cell? a = some (ptrOf es) ∧ ChainAt w es ∧ r = linkC a es key))
  case atStart => exact ⟨rfl, _, c, rfl, Nat.le_refl _, Lib.hid ⟨HR.out.1, HR.out.2, HRR.out.symm⟩⟩
  case round =>
    obtain ⟨rfl, a, es, rfl, hg, HI⟩ := hrel
    obtain ⟨h1, h2, h3⟩ := HI.out
    cases es with
    | nil =>
      simp only [ptrOf, ptrA] at h1
      rw [linkC] at h3
      subst h3
      clear h2 HI HRR
      go_wp2_with fail
      go_ret
      exact ⟨rfl, rfl⟩
    | cons e es =>
      simp only [ptrOf, ptrA] at h1
      obtain ⟨⟨c0, c1, c2⟩, -⟩ := three h2.1
      by_cases hk : e.key = key
      · rw [linkC, if_pos hk] at h3
        subst h3 hk
        clear h2 HI HRR
        go_wp2_with fail
        go_ret
        exact ⟨rfl, rfl⟩
      · have hkb : (e.key == key) = false := by simpa using hk
        rw [linkC, if_neg hk] at h3
        have HN := Lib.hid (show wr.cell? ⟨e.b, 2, none⟩ = some (ptrOf es) ∧ ChainAt wr es ∧ r = linkC ⟨e.b, 2, none⟩ es key from ⟨c2, h2.2, h3⟩)
        clear h2 h3 HI
        go_wp2_with fail
        go_roundg (es.length + 1)
        case measure => simp at hg; omega
        case rel => exact ⟨rfl, _, es, rfl, Nat.le_refl _, HN⟩
end Go.Proofs.YtelbmphmihjgfaaGreat.DEnt

/- An entry is hung into its chain. -/
set_option linter.unusedVariables false
set_option linter.unusedSimpArgs false
namespace Go.Proofs.YtelbmphmihjgfaaGreat.DEnt
open Go.RowKit Pantry

theorem ent_ne_tab {w : World} {e b : Nat} {c c' : Array Value} (h : w.heap[e]? = some (.cells c 146)) (h' : w.heap[b]? = some (.cells c' 144)) : e ≠ b := types_ne h h' (by decide)
theorem TabAt.ent_ne {w : World} {b : Nat} {T : List (List DE)} (h : TabAt w b T) (hne : T ≠ []) {e : Nat} {c : Array Value} (he : w.heap[e]? = some (.cells c 146)) : e ≠ b := ent_ne_tab he (h.cells hne)

/-- What hang leaves. -/
structure HangPost (seed b : Nat) (T : List (List DE)) (e : DE) (w : World) (r : Ending) (w' : World) : Prop where
  res : r = .returned (.tuple #[])
  tab : TabAt w' b (hangT seed T e)
  chains : ∀ c ∈ hangT seed T e, ChainAt w' c
  chg : Chg (fun k => k = b ∨ k = e.b) w w'
  size : w'.heap.size = w.heap.size

theorem hang_post {w : World} {b seed i : Nat} {T : List (List DE)} {e : DE} {c : List DE} {q : Value} (hT : TabAt w b T) (hne : T ≠ []) (hc : ∀ c ∈ T, ChainAt w c) (he : w.heap[e.b]? = some (.cells #[.string ⟨e.key.toArray⟩, e.val, q] 146))
    (hnot : ∀ c ∈ T, ∀ x ∈ c, x.b ≠ e.b) (hi : dslotN seed e.key T.length = i) (hci : T[i]? = some c) :
    HangPost seed b T e w (.returned (.tuple #[])) ((w.setCell ⟨e.b, 2, none⟩ (ptrOf c)).setCell ⟨b, i, none⟩ (.pointer (some ⟨e.b, 0, none⟩))) := by
  have hbe := hT.ent_ne hne he
  have e1 : hangT seed T e = T.set i (e :: c) := by rw [hangT, hi, hci]; rfl
  have hb : ((w.setCell ⟨e.b, 2, none⟩ (ptrOf c)).heap[b]?) = some (.cells (T.map ptrOf).toArray 144) := (heapSetOther (p := ⟨e.b, 2, none⟩) hbe.symm).trans (hT.cells hne)
  have hother : ∀ k, k ≠ e.b → k ≠ b → ((w.setCell ⟨e.b, 2, none⟩ (ptrOf c)).setCell ⟨b, i, none⟩ (.pointer (some ⟨e.b, 0, none⟩))).heap[k]? = w.heap[k]? := fun k h1 h2 =>
    (heapSetOther (p := ⟨b, i, none⟩) h2).trans (heapSetOther (p := ⟨e.b, 2, none⟩) h1)
  have hkeep : ∀ c' ∈ T, ChainAt ((w.setCell ⟨e.b, 2, none⟩ (ptrOf c)).setCell ⟨b, i, none⟩ (.pointer (some ⟨e.b, 0, none⟩))) c' := fun c' hc' => (hc c' hc').keep fun x hx => by
    obtain ⟨q', hq⟩ := (hc c' hc').mem hx
    exact hother x.b (hnot c' hc' x hx) (hT.ent_ne hne hq)
  refine ⟨rfl, ⟨fun _ => ?_, fun _ => ?_, ?_⟩, ?_, ?_, by simp⟩
  · rw [heapSetHere hb, e1]
    simp [List.map_set, ptrOf, ptrA]
  · rw [hangT_length]; exact hT.two hne
  · rw [hangT_length]; exact hT.few
  · rw [e1]
    intro c' hc'
    rcases List.mem_or_eq_of_mem_set hc' with h | rfl
    · exact hkeep c' h
    · refine ⟨?_, hkeep c (List.mem_of_getElem? hci)⟩
      refine (heapSetOther (p := ⟨b, i, none⟩) hbe).trans ?_
      rw [heapSetHere he]
      rfl
  · exact ((Chg.refl _ w).setCell (p := ⟨e.b, 2, none⟩) (fun _ => .inr rfl) _).setCell (p := ⟨b, i, none⟩) (fun _ => .inl rfl) _

set_option maxHeartbeats 2000000 in
theorem hang_any (w : World) (d b seed : Nat) (T : List (List DE)) (e : DE) (q : Value) (hd : w.cell? ⟨d, 0, none⟩ = some (.int .u64 seed)) (hseed : seed < 18446744073709551616) (hT : TabAt w b T) (hne : T ≠ [])
    (hc : ∀ c ∈ T, ChainAt w c) (he : w.heap[e.b]? = some (.cells #[.string ⟨e.key.toArray⟩, e.val, q] 146)) (hnot : ∀ c ∈ T, ∀ x ∈ c, x.b ≠ e.b) (hs : e.key.length ≤ 140737488351232) :
    Calls Tryz.prog 86 #[.pointer (some ⟨d, 0, none⟩), tabV b T, .pointer (some ⟨e.b, 0, none⟩)] w (HangPost seed b T e w) := by
  obtain ⟨c, hcT⟩ := slot_get (seed := seed) hne e.key
  have hcell := hT.cell hcT
  obtain ⟨k, hk⟩ := hT.two hne
  have HS := Lib.hid (slot_any w d b T.length k seed e.key hd hseed hk hT.few hs)
  obtain ⟨⟨c0, c1, c2⟩, cf⟩ := three he
  have cf2 := cf 2
  have hbe := hT.ent_ne hne he
  obtain ⟨i, hi⟩ : ∃ i, dslotN seed e.key T.length = i := ⟨_, rfl⟩
  rw [hi] at hcell HS hcT
  have hcell2 : ∀ v, (w.setCell ⟨e.b, 2, none⟩ v).cell? ⟨b, i, none⟩ = some (ptrOf c) := fun v => by
    rw [cell_of_row _ b i _ _ _ ((heapSetOther (p := ⟨e.b, 2, none⟩) hbe.symm).trans (hT.cells hne))]
    simp [hcT]
  have hfr2 : ∀ v, (w.setCell ⟨e.b, 2, none⟩ v).frozen? ⟨b, i, none⟩ = false := fun v => frozen_of_row _ b i _ _ ((heapSetOther (p := ⟨e.b, 2, none⟩) hbe.symm).trans (hT.cells hne))
  have HP := Lib.hid (hang_post hT hne hc he hnot hi hcT)
  unfold ptrOf at hcell hcell2 HP
  obtain ⟨pc, hpc⟩ : ∃ p, ptrA c = p := ⟨_, rfl⟩
  rw [hpc] at hcell hcell2 HP
  rw [tabV_some hne]
  obtain ⟨n, hn⟩ : ∃ n, T.length = n := ⟨_, rfl⟩
  rw [hn] at HS ⊢
  clear hcT hk hi hn hT hne hc hd he hnot cf hbe c1 hpc
  go_enter Tryz.func86, Tryz.ntmps86
  go_wp2_with (go_at_call 121; refine HS.out.mono ?_; rintro r w1 ⟨rfl, rfl⟩)
  (try simp only [Exit.inBlock, Exit.then]); refine bodyPost_ret (results_none rfl _ _ _) rfl ?_
  exact HP.out
end Go.Proofs.YtelbmphmihjgfaaGreat.DEnt

/- A dict: two tables of chains; its plain laws; a dict in memory. -/
set_option linter.unusedVariables false
set_option linter.unusedSimpArgs false
namespace Go.Proofs.YtelbmphmihjgfaaGreat.DEnt
open Go.RowKit Pantry

/-- Block d is the dict D. -/
structure DictAt (w : World) (d : Nat) (D : Dc) : Prop where
  head : w.heap[d]? = some (.cells #[.int .u64 D.seed, tabV D.bo D.T, tabV D.bn D.Y, .int .i64 D.pos, .int .i64 (D.ents.length : Nat)] 154)
  old : TabAt w D.bo D.T
  young : TabAt w D.bn D.Y
  chT : ∀ c ∈ D.T, ChainAt w c
  chY : ∀ c ∈ D.Y, ChainAt w c
  ne : D.T ≠ [] → D.Y ≠ [] → D.bo ≠ D.bn
def DFoot (d : Nat) (D : Dc) (k : Nat) : Prop := k = d ∨ (D.T ≠ [] ∧ k = D.bo) ∨ (D.Y ≠ [] ∧ k = D.bn) ∨ ∃ e ∈ D.ents, k = e.b
theorem DictAt.keep {w w' : World} {d : Nat} {D : Dc} (h : DictAt w d D) (hk : ∀ k, DFoot d D k → w'.heap[k]? = w.heap[k]?) : DictAt w' d D :=
  ⟨(hk d (.inl rfl)).trans h.head, h.old.keep fun hne => hk _ (.inr (.inl ⟨hne, rfl⟩)), h.young.keep fun hne => hk _ (.inr (.inr (.inl ⟨hne, rfl⟩))),
    fun c hc => (h.chT c hc).keep fun e he => hk _ (.inr (.inr (.inr ⟨e, List.mem_append.2 (.inl (List.mem_flatten.2 ⟨c, hc, he⟩)), rfl⟩))),
    fun c hc => (h.chY c hc).keep fun e he => hk _ (.inr (.inr (.inr ⟨e, List.mem_append.2 (.inr (List.mem_flatten.2 ⟨c, hc, he⟩)), rfl⟩))), h.ne⟩
theorem DictAt.ent {w : World} {d : Nat} {D : Dc} (h : DictAt w d D) {e : DE} (he : e ∈ D.ents) : ∃ q, w.heap[e.b]? = some (.cells #[.string ⟨e.key.toArray⟩, e.val, q] 146) := by
  rcases List.mem_append.1 he with he | he
  · obtain ⟨c, hc, hx⟩ := List.mem_flatten.1 he
    exact (h.chT c hc).mem hx
  · obtain ⟨c, hc, hx⟩ := List.mem_flatten.1 he
    exact (h.chY c hc).mem hx
theorem DictAt.lt {w : World} {d : Nat} {D : Dc} (h : DictAt w d D) : ∀ k, DFoot d D k → k < w.heap.size := by
  rintro k (rfl | ⟨hne, rfl⟩ | ⟨hne, rfl⟩ | ⟨e, he, rfl⟩)
  · exact block_lt h.head
  · exact block_lt (h.old.cells hne)
  · exact block_lt (h.young.cells hne)
  · obtain ⟨q, hq⟩ := h.ent he
    exact block_lt hq
theorem DictAt.chg {w w' : World} {d : Nat} {D : Dc} {S : Nat → Prop} (h : DictAt w d D) (hc : Chg S w w') (hS : ∀ k, DFoot d D k → ¬ S k) : DictAt w' d D :=
  h.keep fun k hk => hc.block k (h.lt k hk) (hS k hk)
theorem five {w : World} {g : Nat} {c0 c1 c2 c3 c4 : Value} {t : TypeId} (h : w.heap[g]? = some (.cells #[c0, c1, c2, c3, c4] t)) :
    (w.cell? ⟨g, 0, none⟩ = some c0 ∧ w.cell? ⟨g, 1, none⟩ = some c1 ∧ w.cell? ⟨g, 2, none⟩ = some c2 ∧ w.cell? ⟨g, 3, none⟩ = some c3 ∧ w.cell? ⟨g, 4, none⟩ = some c4) ∧ ∀ j, w.frozen? ⟨g, j, none⟩ = false := by
  refine ⟨⟨?_, ?_, ?_, ?_, ?_⟩, fun j => frozen_of_row w g j _ _ h⟩ <;> rw [cell_of_row w g _ _ _ _ h] <;> rfl
theorem DictAt.ne_ent {w : World} {d : Nat} {D : Dc} (h : DictAt w d D) {e : Nat} {c : Array Value} (he : w.heap[e]? = some (.cells c 146)) : e ≠ d := types_ne he h.head (by decide)
theorem DictAt.ne_old {w : World} {d : Nat} {D : Dc} (h : DictAt w d D) (hne : D.T ≠ []) : D.bo ≠ d := types_ne (h.old.cells hne) h.head (by decide)
theorem DictAt.ne_young {w : World} {d : Nat} {D : Dc} (h : DictAt w d D) (hne : D.Y ≠ []) : D.bn ≠ d := types_ne (h.young.cells hne) h.head (by decide)
/-- Cells of the head have been written. -/
theorem DictAt.reset {w w' : World} {d : Nat} {D D' : Dc} (h : DictAt w d D) (hh : w'.heap[d]? = some (.cells #[.int .u64 D'.seed, tabV D'.bo D'.T, tabV D'.bn D'.Y, .int .i64 D'.pos, .int .i64 (D'.ents.length : Nat)] 154))
    (ho : ∀ k, k ≠ d → w'.heap[k]? = w.heap[k]?) (h1 : D'.bo = D.bo) (h2 : D'.T = D.T) (h3 : D'.bn = D.bn) (h4 : D'.Y = D.Y) : DictAt w' d D' := by
  refine ⟨hh, ?_, ?_, ?_, ?_, ?_⟩
  · rw [h1, h2]; exact h.old.keep fun hne => ho _ (h.ne_old hne)
  · rw [h3, h4]; exact h.young.keep fun hne => ho _ (h.ne_young hne)
  · rw [h2]; exact fun c hc => (h.chT c hc).keep fun e he => by
      obtain ⟨q, hq⟩ := (h.chT c hc).mem he
      exact ho _ (h.ne_ent hq)
  · rw [h4]; exact fun c hc => (h.chY c hc).keep fun e he => by
      obtain ⟨q, hq⟩ := (h.chY c hc).mem he
      exact ho _ (h.ne_ent hq)
  · rw [h1, h2, h3, h4]; exact h.ne
theorem DictAt.setPos {w : World} {d : Nat} {D : Dc} (h : DictAt w d D) (a : Nat) : DictAt (w.setCell ⟨d, 3, none⟩ (.int .i64 a)) d (D.withPos a) :=
  h.reset (by rw [heapSetHere h.head]; rfl) (fun k hk => heapSetOther (p := ⟨d, 3, none⟩) hk) rfl rfl rfl rfl
end Go.Proofs.YtelbmphmihjgfaaGreat.DEnt
