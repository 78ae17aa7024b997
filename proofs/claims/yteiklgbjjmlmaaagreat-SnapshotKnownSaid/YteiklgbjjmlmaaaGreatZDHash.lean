
/- The hash of a text: a plain function. -/
import Derived.Test.YteiklgbjjmlmaaaGreatZMem
import Derived.Test.YteiklgbjjmlmaaaGreatProg
import Derived.Deep.LoopGhost
set_option linter.unusedVariables false
set_option linter.unusedSimpArgs false
namespace Pantry
open Go Go.RowKit
def hStep (h c : Nat) : Nat := ((h ^^^ c) * 1099511628211) % 18446744073709551616
def hMix (h : Nat) (k : Nat) : Nat := h ^^^ (h / 2 ^ k)
def hEnd (h : Nat) : Nat := hMix ((hMix h 32 * 11400714819323198485) % 18446744073709551616) 29
def hStart (seed : Nat) : Nat := 14695981039346656037 ^^^ seed
def hRun (seed : Nat) (s : List UInt8) : Nat := (s.map (·.toNat)).foldl hStep (hStart seed)
def hashN (seed : Nat) (s : List UInt8) : Nat := hEnd (hRun seed s)
theorem hx_lt {a b : Nat} (ha : a < 18446744073709551616) (hb : b < 18446744073709551616) : a ^^^ b < 18446744073709551616 := Nat.xor_lt_two_pow (n := 64) ha hb
theorem hStep_lt (h c : Nat) : hStep h c < 18446744073709551616 := Nat.mod_lt _ (by decide)
theorem hStart_lt {seed : Nat} (h : seed < 18446744073709551616) : hStart seed < 18446744073709551616 := by
  unfold hStart
  exact hx_lt (by decide) h
theorem hFold_lt (l : List Nat) : ∀ a, a < 18446744073709551616 → l.foldl hStep a < 18446744073709551616 := by
  induction l with
  | nil => intro a h; exact h
  | cons c l ih =>
    intro a _
    rw [List.foldl_cons]
    exact ih _ (hStep_lt _ _)
theorem hRun_lt {seed : Nat} (h : seed < 18446744073709551616) (s : List UInt8) : hRun seed s < 18446744073709551616 := by
  unfold hRun
  exact hFold_lt _ _ (hStart_lt h)
theorem hMix_lt {h : Nat} (k : Nat) (hl : h < 18446744073709551616) : hMix h k < 18446744073709551616 := by
  unfold hMix
  exact hx_lt hl (Nat.lt_of_le_of_lt (Nat.div_le_self _ _) hl)
theorem hashN_lt (seed : Nat) (s : List UInt8) : hashN seed s < 18446744073709551616 := by
  unfold hashN hEnd
  exact hMix_lt _ (Nat.mod_lt _ (by decide))
theorem foldl_snoc_at (f : Nat → Nat → Nat) (a : Nat) (s : List UInt8) (k : Nat) {c : UInt8} (h : s[k]? = some c) :
    ((s.take (k + 1)).map (·.toNat)).foldl f a = f (((s.take k).map (·.toNat)).foldl f a) c.toNat := by
  rw [List.take_add_one, h]
  simp
theorem hRun_snoc (seed : Nat) (s : List UInt8) (k : Nat) {c : UInt8} (h : s[k]? = some c) : hRun seed (s.take (k + 1)) = hStep (hRun seed (s.take k)) c.toNat := by
  unfold hRun
  exact foldl_snoc_at hStep (hStart seed) s k h
theorem xorI {a b : Nat} (ha : a < 18446744073709551616) (hb : b < 18446744073709551616) : bits .xor .u64 (a : Int) (b : Int) = ((a ^^^ b : Nat) : Int) := bits_xor_u64_nat a b ha hb
theorem mulI {a b : Nat} : IntKind.u64.wrap ((a : Int) * (b : Int)) = (((a * b) % 18446744073709551616 : Nat) : Int) := by
  rw [IntKind.wrap_u64]; omega
theorem mixI {a k : Nat} (c : Int) (hc : c = ((2 ^ k : Nat) : Int)) (ha : a < 18446744073709551616) : bits .xor .u64 (a : Int) ((a : Int) / c) = ((hMix a k : Nat) : Int) := by
  subst hc
  have e : ((a : Int) / ((2 ^ k : Nat) : Int)) = ((a / 2 ^ k : Nat) : Int) := by simp
  rw [e]
  unfold hMix
  exact xorI ha (Nat.lt_of_le_of_lt (Nat.div_le_self _ _) ha)
theorem hEnd_int {r : Nat} (h : r < 18446744073709551616) :
    bits .xor .u64 (IntKind.u64.wrap (bits .xor .u64 (r : Int) ((r : Int) / 4294967296) * 11400714819323198485)) (IntKind.u64.wrap (bits .xor .u64 (r : Int) ((r : Int) / 4294967296) * 11400714819323198485) / 536870912) = ((hEnd r : Nat) : Int) := by
  rw [mixI (k := 32) 4294967296 (by decide) h]
  have e := mulI (a := hMix r 32) (b := 11400714819323198485)
  rw [show (((11400714819323198485 : Nat)) : Int) = 11400714819323198485 from rfl] at e
  rw [e]
  unfold hEnd
  exact mixI (k := 29) 536870912 (by decide) (Nat.mod_lt _ (by decide))
end Pantry
namespace Go.Proofs.YteiklgbjjmlmaaaGreat
open Go.RowKit Pantry

set_option maxHeartbeats 1000000 in
theorem hash_any (w : World) (seed : Nat) (s : List UInt8) (hs : s.length ≤ 140737488351232) (hseed : seed < 18446744073709551616) :
    Calls Tryz.prog 140 #[.int .u64 seed, .string ⟨s.toArray⟩] w fun e w' => e = .returned (.int .u64 (hashN seed s : Nat)) ∧ w = w' := by
  obtain ⟨n, hn⟩ : ∃ n, s.length = n := ⟨_, rfl⟩
  have HN := Lib.hid hn
  have hsz : (⟨s.toArray⟩ : ByteArray).size = n := by simp [ByteArray.size, hn]
  rw [hn] at hs
  have hx0 : bits .xor .u64 14695981039346656037 (seed : Int) = ((hStart seed : Nat) : Int) := by
    unfold hStart
    exact xorI (a := 14695981039346656037) (by decide) hseed
  clear hn
  go_enter Tryz.func140, Tryz.ntmps140
  go_wp2_with fail
  go_loop [5, 6, 11] (fun a _ b => ∃ k : Nat, k ≤ n ∧ a = .int .u64 (hRun seed (s.take k) : Nat) ∧ b = .int .i64 k) (fun _ _ b => n - (intOf b).toNat)
  case atStart => exact ⟨0, Nat.zero_le _, by simp [hRun], rfl⟩
  case round =>
    obtain ⟨k, hk, rfl, rfl⟩ := hrel
    by_cases hlt : k < n
    · obtain ⟨c, hc⟩ : ∃ c, s[k]? = some c := ⟨_, List.getElem?_eq_getElem (by have := HN.out; omega)⟩
      have hr := hRun_snoc seed s k hc
      have hl := hRun_lt hseed (s.take k)
      obtain ⟨r, hr1⟩ : ∃ r, hRun seed (s.take k) = r := ⟨_, rfl⟩
      obtain ⟨r2, hr2⟩ : ∃ r, hRun seed (s.take (k + 1)) = r := ⟨_, rfl⟩
      rw [hr1] at hl hr ⊢
      have hc8 : c.toNat < 256 := c.toNat_lt
      have hx : bits .xor .u64 (r : Int) (c.toNat : Int) = ((r ^^^ c.toNat : Nat) : Int) := xorI hl (by omega)
      have hm : IntKind.u64.wrap (((r ^^^ c.toNat : Nat) : Int) * 1099511628211) = ((r2 : Nat) : Int) := by
        rw [← hr2, hr]; unfold hStep; exact mulI (b := 1099511628211)
      have hb : ∀ pf, (⟨s.toArray⟩ : ByteArray)[k]'pf = c := fun pf => by
        have := (List.getElem?_eq_some_iff.1 hc).2
        simpa [ByteArray.getElem_eq_getElem_data] using this
      have hw : IntKind.u64.wrap (c.toNat : Int) = (c.toNat : Int) := by rw [IntKind.wrap_u64]; omega
      go_wp2_with fail
      go_round
      case rel => exact ⟨k + 1, by omega, by rw [hr2], by go_num⟩
      case measure => simp [intOf]; omega
    · obtain rfl : k = n := by omega
      have he := hEnd_int (hRun_lt hseed s)
      have hrs : hRun seed (s.take k) = hRun seed s := by rw [List.take_of_length_le (by rw [HN.out]; omega)]
      go_wp2_with fail
      go_ret
      exact ⟨rfl, rfl⟩
end Go.Proofs.YteiklgbjjmlmaaaGreat


/- Tables of chains, as plain lists. -/
set_option linter.unusedVariables false
set_option linter.unusedSimpArgs false
namespace Pantry
open Go Go.RowKit
@[go_sem] theorem run_store_float {P : Program} {w : World} {a : Addr} {m : Mode} (k : FloatKind) (b : Nat) : (store a (.float k b) m).run P w = stored P w a (.float k b) m := run_store P w a _ m rfl
/-- An entry: its block, its key, its value. -/
structure DE where
  b : Nat
  key : List UInt8
  val : Value
def ptrA : List DE → Option Addr
  | [] => none
  | e :: _ => some ⟨e.b, 0, none⟩
def ptrOf (c : List DE) : Value := .pointer (ptrA c)
theorem and_mask {h n k : Nat} (hn : n = 2 ^ k) (hh : h < 18446744073709551616) (hl : n ≤ 1099511627776) : bits .and .u64 (h : Int) ((n : Int) - 1) = ((h % n : Nat) : Int) := by
  have hp : 0 < n := by subst hn; exact Nat.two_pow_pos k
  have e : ((n : Int) - 1) = ((n - 1 : Nat) : Int) := by omega
  rw [e, bits_and_u64_nat h (n - 1) hh (by omega)]
  subst hn
  rw [Nat.and_two_pow_sub_one_eq_mod]
def dslotN (seed : Nat) (key : List UInt8) (n : Nat) : Nat := hashN seed key % n
/-- The cell that points to a key's entry. -/
def linkC (p : Addr) : List DE → List UInt8 → Option Addr
  | [], _ => none
  | e :: c, k => if e.key = k then some p else linkC ⟨e.b, 2, none⟩ c k
/-- .. in a table. -/
def linkT (seed b : Nat) (T : List (List DE)) (k : List UInt8) : Option Addr :=
  match T[dslotN seed k T.length]? with
  | some c => linkC ⟨b, dslotN seed k T.length, none⟩ c k
  | none => none
def findT (seed b : Nat) (T : List (List DE)) (b' : Nat) (T' : List (List DE)) (k : List UInt8) : Option Addr := match linkT seed b T k with | some p => some p | none => linkT seed b' T' k
theorem slot_get {seed : Nat} {T : List (List DE)} (h : T ≠ []) (k : List UInt8) : ∃ c, T[dslotN seed k T.length]? = some c :=
  ⟨_, List.getElem?_eq_getElem (Nat.mod_lt _ (List.length_pos_iff.2 h))⟩
def hangT (seed : Nat) (T : List (List DE)) (e : DE) : List (List DE) := T.set (dslotN seed e.key T.length) (e :: (T[dslotN seed e.key T.length]?.getD []))
theorem hangT_length (seed : Nat) (T : List (List DE)) (e : DE) : (hangT seed T e).length = T.length := by simp [hangT]
theorem hangT_ne {seed : Nat} {T : List (List DE)} {e : DE} (h : T ≠ []) : hangT seed T e ≠ [] := by
  intro h0
  have := hangT_length seed T e
  rw [h0] at this
  exact h (List.length_eq_zero_iff.1 this.symm)
theorem types_ne {w : World} {a b : Nat} {c c' : Array Value} {t t' : TypeId} (h : w.heap[a]? = some (.cells c t)) (h' : w.heap[b]? = some (.cells c' t')) (hne : t ≠ t') : a ≠ b := by
  rintro rfl
  rw [h] at h'
  simp only [Option.some.injEq, Obj.cells.injEq] at h'
  exact hne h'.2.1
theorem heapSetOther {w : World} {p : Addr} {v : Value} {k : Nat} (h : k ≠ p.block) : (w.setCell p v).heap[k]? = w.heap[k]? := Below.heap_setCell w p v k h
theorem heapSetHere {w : World} {g j : Nat} {c : Array Value} {t : TypeId} (h : w.heap[g]? = some (.cells c t)) (v : Value) : (w.setCell ⟨g, j, none⟩ v).heap[g]? = some (.cells (c.setIfInBounds j v) t) :=
  heap_setCell_same w g j _ _ v h
theorem nodup_inj {l : List Nat} (h : l.Nodup) {i j g : Nat} (hi : l[i]? = some g) (hj : l[j]? = some g) : i = j := by
  obtain ⟨a, ha⟩ := List.getElem?_eq_some_iff.1 hi
  obtain ⟨b, hb⟩ := List.getElem?_eq_some_iff.1 hj
  have hp := List.pairwise_iff_getElem.1 h
  rcases Nat.lt_trichotomy i j with h1 | h1 | h1
  · exact absurd (ha.trans hb.symm) (hp i j a b h1)
  · exact h1
  · exact absurd (hb.trans ha.symm) (hp j i b a h1)
structure Dc where
  seed : Nat
  bo : Nat
  T : List (List DE)
  bn : Nat
  Y : List (List DE)
  pos : Nat
def Dc.ents (D : Dc) : List DE := D.T.flatten ++ D.Y.flatten
def Placed (seed : Nat) (T : List (List DE)) : Prop := ∀ i c x, T[i]? = some c → x ∈ c → dslotN seed x.key T.length = i
structure Dc.Wf (D : Dc) : Prop where
  seed : D.seed < 18446744073709551616
  keys : (D.ents.map (·.key)).Nodup
  blocks : (D.ents.map (·.b)).Nodup
  text : ∀ e ∈ D.ents, e.key.length ≤ 140737488351232
  few : D.ents.length ≤ 1099511627776
  placeT : Placed D.seed D.T
  placeY : Placed D.seed D.Y
  past : ∀ i c, i < D.pos → D.T[i]? = some c → c = []
  still : D.Y = [] → D.pos = 0
  moves : D.Y ≠ [] → D.pos < D.T.length
theorem flat_at {T : List (List DE)} {i : Nat} {c : List DE} (h : T[i]? = some c) : ∃ A B, T.flatten = A ++ (c ++ B) ∧ ∀ c', (T.set i c').flatten = A ++ (c' ++ B) := by
  induction T generalizing i with
  | nil => cases h
  | cons x T ih =>
    cases i with
    | zero =>
      simp at h; subst h
      exact ⟨[], T.flatten, by simp, fun c' => by simp⟩
    | succ i =>
      obtain ⟨A, B, h1, h2⟩ := ih (by simpa using h)
      exact ⟨x ++ A, B, by simp [h1], fun c' => by simp [h2]⟩
theorem hang_at {seed : Nat} {T : List (List DE)} (h : T ≠ []) (e : DE) : ∃ c, T[dslotN seed e.key T.length]? = some c ∧ hangT seed T e = T.set (dslotN seed e.key T.length) (e :: c) := by
  obtain ⟨c, hc⟩ := slot_get (seed := seed) h e.key
  exact ⟨c, hc, by rw [hangT, hc]; rfl⟩
theorem hang_perm {seed : Nat} {T : List (List DE)} (h : T ≠ []) (e : DE) : (hangT seed T e).flatten.Perm (e :: T.flatten) := by
  obtain ⟨c, hc, hh⟩ := hang_at (seed := seed) h e
  obtain ⟨A, B, h1, h2⟩ := flat_at hc
  rw [hh, h2, h1]
  simp only [List.cons_append]
  exact List.perm_middle
theorem hang_placed {seed : Nat} {T : List (List DE)} (h : T ≠ []) (hp : Placed seed T) (e : DE) : Placed seed (hangT seed T e) := by
  obtain ⟨c, hc, hh⟩ := hang_at (seed := seed) h e
  intro i c' x hi hx
  rw [hangT_length]
  rw [hh, List.getElem?_set] at hi
  split at hi
  · rename_i hs
    split at hi
    · cases hi
      rcases List.mem_cons.1 hx with rfl | hx
      · exact hs
      · rw [← hs]; exact hp _ _ _ hc hx
    · cases hi
  · exact hp _ _ _ hi hx
theorem hangs_ne {seed : Nat} {T : List (List DE)} (h : T ≠ []) (c : List DE) : c.foldl (hangT seed) T ≠ [] := by
  induction c generalizing T with
  | nil => exact h
  | cons e c ih => exact ih (hangT_ne h)
theorem hangs_length (seed : Nat) (T : List (List DE)) (c : List DE) : (c.foldl (hangT seed) T).length = T.length := by
  induction c generalizing T with
  | nil => rfl
  | cons e c ih => exact (ih _).trans (hangT_length _ _ _)
theorem hangs_perm {seed : Nat} {T : List (List DE)} (h : T ≠ []) (c : List DE) : (c.foldl (hangT seed) T).flatten.Perm (c ++ T.flatten) := by
  induction c generalizing T with
  | nil => exact List.Perm.refl _
  | cons e c ih =>
    refine (ih (hangT_ne h)).trans ?_
    refine ((hang_perm h e).append_left c).trans ?_
    rw [List.cons_append]
    exact List.perm_middle
theorem hangs_placed {seed : Nat} {T : List (List DE)} (h : T ≠ []) (hp : Placed seed T) (c : List DE) : Placed seed (c.foldl (hangT seed) T) := by
  induction c generalizing T with
  | nil => exact hp
  | cons e c ih => exact ih (hangT_ne h) (hang_placed h hp e)
theorem hangs_snoc (seed : Nat) (T : List (List DE)) (c : List DE) (e : DE) : (c ++ [e]).foldl (hangT seed) T = hangT seed (c.foldl (hangT seed) T) e := by simp
def Dc.withPos (D : Dc) (a : Nat) : Dc := { D with pos := a }
/-- A bucket has been moved. -/
def Dc.moved (D : Dc) (c : List DE) : Dc := { D with T := D.T.set D.pos [], Y := c.foldl (hangT D.seed) D.Y, pos := D.pos + 1 }
/-- The second table has become the first. -/
def Dc.swapped (D : Dc) : Dc := { D with bo := D.bn, T := D.Y, Y := [], pos := 0 }
theorem Dc.moved_perm {D : Dc} {c : List DE} (hc : D.T[D.pos]? = some c) (hY : D.Y ≠ []) : (D.moved c).ents.Perm D.ents := by
  obtain ⟨A, B, h1, h2⟩ := flat_at hc
  unfold Dc.moved Dc.ents
  rw [h2, h1]
  refine ((hangs_perm hY c).append_left _).trans ?_
  simp only [List.nil_append, List.append_assoc]
  refine List.Perm.append_left A ?_
  rw [← List.append_assoc, ← List.append_assoc]
  exact List.Perm.append_right _ List.perm_append_comm
theorem placed_set_nil {seed : Nat} {T : List (List DE)} (h : Placed seed T) (i : Nat) : Placed seed (T.set i []) := by
  intro j c x hj hx
  rw [List.getElem?_set] at hj
  rw [List.length_set]
  split at hj
  · split at hj
    · cases hj; cases hx
    · cases hj
  · exact h j c x hj hx
theorem past_flat {T : List (List DE)} (h : ∀ i c, i < T.length → T[i]? = some c → c = []) : T.flatten = [] := by
  rw [List.flatten_eq_nil_iff]
  intro c hc
  obtain ⟨i, hi, rfl⟩ := List.mem_iff_getElem.1 hc
  exact h i _ hi (List.getElem?_eq_getElem hi)
/-- A dict whose first table may have been gone through to its end: between two statements of step. -/
structure Dc.Mid (D : Dc) : Prop where
  seed : D.seed < 18446744073709551616
  keys : (D.ents.map (·.key)).Nodup
  blocks : (D.ents.map (·.b)).Nodup
  text : ∀ e ∈ D.ents, e.key.length ≤ 140737488351232
  few : D.ents.length ≤ 1099511627776
  placeT : Placed D.seed D.T
  placeY : Placed D.seed D.Y
  past : ∀ i c, i < D.pos → D.T[i]? = some c → c = []
  young : D.Y ≠ []
  le : D.pos ≤ D.T.length
theorem Dc.Wf.mid {D : Dc} (h : D.Wf) (hY : D.Y ≠ []) : D.Mid := ⟨h.seed, h.keys, h.blocks, h.text, h.few, h.placeT, h.placeY, h.past, hY, Nat.le_of_lt (h.moves hY)⟩
theorem Dc.Mid.wf {D : Dc} (h : D.Mid) (hl : D.pos < D.T.length) : D.Wf := ⟨h.seed, h.keys, h.blocks, h.text, h.few, h.placeT, h.placeY, h.past, fun e => absurd e h.young, fun _ => hl⟩
theorem Dc.Mid.passed {D : Dc} (h : D.Mid) (hc : D.T[D.pos]? = some []) : (D.withPos (D.pos + 1)).Mid := by
  refine ⟨h.seed, h.keys, h.blocks, h.text, h.few, h.placeT, h.placeY, ?_, h.young, ?_⟩
  · intro i c hi hg
    have hi' : i < D.pos + 1 := hi
    by_cases e : i = D.pos
    · subst e
      have : D.T[D.pos]? = some c := hg
      rw [hc] at this; cases this; rfl
    · exact h.past i c (by omega) hg
  · exact (List.getElem?_eq_some_iff.1 hc).1
theorem Dc.Mid.moved {D : Dc} (h : D.Mid) {c : List DE} (hc : D.T[D.pos]? = some c) : (D.moved c).Mid ∧ (D.moved c).ents.Perm D.ents := by
  have hp := Dc.moved_perm hc h.young
  have hl := (List.getElem?_eq_some_iff.1 hc).1
  refine ⟨⟨h.seed, (hp.map _).nodup_iff.2 h.keys, (hp.map _).nodup_iff.2 h.blocks, fun e he => h.text e (hp.mem_iff.1 he), hp.length_eq ▸ h.few, placed_set_nil h.placeT _, hangs_placed h.young h.placeY c, ?_, hangs_ne h.young c, ?_⟩, hp⟩
  · intro i c' hi hg
    have hi' : i < D.pos + 1 := hi
    have hg' : (D.T.set D.pos [])[i]? = some c' := hg
    rw [List.getElem?_set] at hg'
    by_cases hne : D.pos = i
    · rw [if_pos hne] at hg'
      split at hg' <;> cases hg' <;> rfl
    · rw [if_neg hne] at hg'
      exact h.past i c' (by omega) hg'
  · show D.pos + 1 ≤ (D.T.set D.pos []).length
    rw [List.length_set]; omega
theorem Dc.Mid.swapped {D : Dc} (h : D.Mid) (he : D.pos = D.T.length) : D.swapped.Wf ∧ D.swapped.ents = D.ents := by
  have h0 : D.T.flatten = [] := past_flat fun i c hi hg => h.past i c (by omega) hg
  have e : D.swapped.ents = D.ents := by unfold Dc.swapped Dc.ents; rw [h0]; simp
  refine ⟨⟨h.seed, e ▸ h.keys, e ▸ h.blocks, e ▸ h.text, e ▸ h.few, h.placeY, fun i c x hi => (by have hi' : ([] : List (List DE))[i]? = some c := hi; simp at hi'), fun i c hi => absurd hi (Nat.not_lt_zero i), fun _ => rfl, fun hh => absurd rfl hh⟩, e⟩
def csnd : Code → Code | .seq _ b => b | c => c
def cfst : Code → Code | .seq a _ => a | c => c
def cskip : Nat → Code → Code | 0, c => c | n + 1, c => cskip n (csnd c)
def cbody (f : Func) : Code := match f.body with | some c => c | none => .skip
/-- The cell behind some entries of a chain. -/
def lastA (p : Addr) : List DE → Addr
  | [] => p
  | x :: pre => lastA ⟨x.b, 2, none⟩ pre
theorem lastA_snoc (p : Addr) (pre : List DE) (x : DE) : lastA p (pre ++ [x]) = ⟨x.b, 2, none⟩ := by
  induction pre generalizing p with
  | nil => rfl
  | cons y pre ih => exact ih _
theorem linkC_some {p a : Addr} {c : List DE} {k : List UInt8} (h : linkC p c k = some a) : ∃ pre e post, c = pre ++ e :: post ∧ e.key = k ∧ a = lastA p pre := by
  induction c generalizing p with
  | nil => cases h
  | cons x c ih =>
    rw [linkC] at h
    split at h
    · rename_i hk
      cases h
      exact ⟨[], x, c, rfl, hk, rfl⟩
    · obtain ⟨pre, e, post, h1, h2, h3⟩ := ih h
      exact ⟨x :: pre, e, post, by rw [h1]; rfl, h2, h3⟩
theorem linkC_none {p : Addr} {c : List DE} {k : List UInt8} (h : linkC p c k = none) : ∀ e ∈ c, e.key ≠ k := by
  induction c generalizing p with
  | nil => intro e he; cases he
  | cons x c ih =>
    rw [linkC] at h
    split at h
    · cases h
    · rename_i hk
      intro e he
      rcases List.mem_cons.1 he with rfl | he
      · exact hk
      · exact ih h e he
/-- A key's entry is found in this table. -/
structure FoundIn (seed b : Nat) (T : List (List DE)) (k : List UInt8) (a : Addr) (c pre : List DE) (e : DE) (post : List DE) : Prop where
  bucket : T[dslotN seed k T.length]? = some c
  parts : c = pre ++ e :: post
  key : e.key = k
  addr : a = lastA ⟨b, dslotN seed k T.length, none⟩ pre
theorem linkT_some {seed b : Nat} {T : List (List DE)} {k : List UInt8} {a : Addr} (h : linkT seed b T k = some a) : ∃ c pre e post, FoundIn seed b T k a c pre e post := by
  unfold linkT at h
  split at h
  · rename_i c hc
    obtain ⟨pre, e, post, h1, h2, h3⟩ := linkC_some h
    exact ⟨c, pre, e, post, hc, h1, h2, h3⟩
  · cases h
theorem linkT_none {seed b : Nat} {T : List (List DE)} {k : List UInt8} (h : linkT seed b T k = none) (hp : Placed seed T) : ∀ e ∈ T.flatten, e.key ≠ k := by
  intro e he hk
  obtain ⟨c, hc, hx⟩ := List.mem_flatten.1 he
  obtain ⟨i, hi, rfl⟩ := List.mem_iff_getElem.1 hc
  have hg : T[i]? = some T[i] := List.getElem?_eq_getElem hi
  have hs := hp i _ e hg hx
  rw [hk] at hs
  unfold linkT at h
  rw [hs, hg] at h
  exact linkC_none h e hx hk
theorem FoundIn.mem {seed b : Nat} {T : List (List DE)} {k : List UInt8} {a : Addr} {c pre post : List DE} {e : DE} (h : FoundIn seed b T k a c pre e post) : e ∈ T.flatten :=
  List.mem_flatten.2 ⟨c, List.mem_of_getElem? h.bucket, by rw [h.parts]; simp⟩
def Dc.mapE (D : Dc) (f : DE → DE) : Dc := { D with T := D.T.map (·.map f), Y := D.Y.map (·.map f) }
theorem Dc.mapE_ents (D : Dc) (f : DE → DE) : (D.mapE f).ents = D.ents.map f := by
  unfold Dc.mapE Dc.ents
  simp [List.map_flatten]
theorem Placed.map {seed : Nat} {T : List (List DE)} (h : Placed seed T) (f : DE → DE) (hk : ∀ x, (f x).key = x.key) : Placed seed (T.map (·.map f)) := by
  intro i c x hi hx
  rw [List.getElem?_map] at hi
  cases hg : T[i]? with
  | none => rw [hg] at hi; cases hi
  | some c0 =>
    rw [hg] at hi; cases hi
    obtain ⟨y, hy, rfl⟩ := List.mem_map.1 hx
    rw [hk, List.length_map]
    exact h i c0 y hg hy
theorem Dc.Wf.mapE {D : Dc} (h : D.Wf) (f : DE → DE) (hk : ∀ x, (f x).key = x.key) (hb : ∀ x, (f x).b = x.b) : (D.mapE f).Wf := by
  have e1 : (D.mapE f).ents.map (·.key) = D.ents.map (·.key) := by rw [Dc.mapE_ents, List.map_map]; exact List.map_congr_left fun x _ => hk x
  have e2 : (D.mapE f).ents.map (·.b) = D.ents.map (·.b) := by rw [Dc.mapE_ents, List.map_map]; exact List.map_congr_left fun x _ => hb x
  refine ⟨h.seed, by rw [e1]; exact h.keys, by rw [e2]; exact h.blocks, ?_, by rw [Dc.mapE_ents, List.length_map]; exact h.few, h.placeT.map f hk, h.placeY.map f hk, ?_, fun hh => h.still (List.map_eq_nil_iff.1 hh), fun hh => ?_⟩
  · rw [Dc.mapE_ents]
    intro e he
    obtain ⟨x, hx, rfl⟩ := List.mem_map.1 he
    rw [hk]; exact h.text x hx
  · intro i c hi hc
    have hc' : (D.T.map (·.map f))[i]? = some c := hc
    rw [List.getElem?_map] at hc'
    cases hg : D.T[i]? with
    | none => rw [hg] at hc'; cases hc'
    | some c0 =>
      rw [hg] at hc'; cases hc'
      rw [h.past i c0 hi hg]; rfl
  · show D.pos < (D.T.map (·.map f)).length
    rw [List.length_map]
    exact h.moves fun h0 => hh (by show D.Y.map _ = []; rw [h0]; rfl)
theorem ptrOf_map (f : DE → DE) (hb : ∀ x, (f x).b = x.b) (c : List DE) : ptrOf (c.map f) = ptrOf c := by
  cases c with
  | nil => rfl
  | cons x c => simp [ptrOf, ptrA, hb]
/-- The value of one entry is another. -/
def reval (b : Nat) (v : Value) (x : DE) : DE := if x.b = b then { x with val := v } else x
theorem reval_key (b : Nat) (v : Value) (x : DE) : (reval b v x).key = x.key := by unfold reval; split <;> rfl
theorem reval_b (b : Nat) (v : Value) (x : DE) : (reval b v x).b = x.b := by unfold reval; split <;> rfl
def DE.kv (e : DE) : List UInt8 × Value := (e.key, e.val)
def Dc.kv (D : Dc) : List (List UInt8 × Value) := D.ents.map DE.kv
theorem inj_of_nodup {α β : Type} {f : α → β} {l : List α} (h : (l.map f).Nodup) {x y : α} (hx : x ∈ l) (hy : y ∈ l) (he : f x = f y) : x = y := by
  induction l with
  | nil => cases hx
  | cons z l ih =>
    rw [List.map_cons, List.nodup_cons] at h
    rcases List.mem_cons.1 hx with rfl | hx'
    · rcases List.mem_cons.1 hy with rfl | hy'
      · rfl
      · exact absurd (List.mem_map.2 ⟨y, hy', he.symm⟩) h.1
    · rcases List.mem_cons.1 hy with rfl | hy'
      · exact absurd (List.mem_map.2 ⟨x, hx', he⟩) h.1
      · exact ih h.2 hx' hy'
theorem Dc.kv_reval {D : Dc} (h : D.Wf) {e : DE} (he : e ∈ D.ents) (v : Value) : (D.mapE (reval e.b v)).kv = D.kv.map fun p => if p.1 = e.key then (p.1, v) else p := by
  unfold Dc.kv
  rw [Dc.mapE_ents, List.map_map, List.map_map]
  refine List.map_congr_left fun x hx => ?_
  simp only [Function.comp, reval, DE.kv]
  by_cases hb : x.b = e.b
  · have : x = e := inj_of_nodup h.blocks hx he hb
    subst this
    simp
  · have hk : ¬ x.key = e.key := fun hk => hb (by rw [inj_of_nodup h.keys hx he hk])
    rw [if_neg hb]
    exact (if_neg hk).symm
/-- A first table; a second one. -/
def Dc.first (D : Dc) (b m : Nat) : Dc := { D with bo := b, T := List.replicate m [] }
def Dc.second (D : Dc) (b m : Nat) : Dc := { D with bn := b, Y := List.replicate m [] }
theorem flatten_rep (m : Nat) : (List.replicate m ([] : List DE)).flatten = [] := by simp
theorem placed_rep (seed m : Nat) : Placed seed (List.replicate m []) := by
  intro i c x hi hx
  obtain ⟨hl, rfl⟩ := List.getElem?_eq_some_iff.1 hi
  simp at hx
theorem Dc.Wf.first {D : Dc} (h : D.Wf) (hT : D.T = []) (b m : Nat) : (D.first b m).Wf ∧ (D.first b m).ents = D.ents ∧ (D.first b m).Y = [] := by
  have hY : D.Y = [] := Classical.byContradiction fun hn => by have := h.moves hn; rw [hT] at this; cases this
  have e : (D.first b m).ents = D.ents := by unfold Dc.first Dc.ents; rw [hT, flatten_rep]; rfl
  have hp := h.still hY
  exact ⟨⟨h.seed, e ▸ h.keys, e ▸ h.blocks, e ▸ h.text, e ▸ h.few, placed_rep _ _, h.placeY, fun i c hi _ => absurd (hp ▸ hi : i < 0) (Nat.not_lt_zero i), fun _ => hp, fun hn => absurd hY hn⟩, e, hY⟩
theorem Dc.Wf.second {D : Dc} (h : D.Wf) (hT : D.T ≠ []) (hY : D.Y = []) (b m : Nat) : (D.second b m).Wf ∧ (D.second b m).ents = D.ents := by
  have e : (D.second b m).ents = D.ents := by unfold Dc.second Dc.ents; rw [hY, flatten_rep]; rfl
  have hp := h.still hY
  exact ⟨⟨h.seed, e ▸ h.keys, e ▸ h.blocks, e ▸ h.text, e ▸ h.few, h.placeT, placed_rep _ _, fun i c hi _ => absurd (hp ▸ hi : i < 0) (Nat.not_lt_zero i), fun _ => hp, fun _ => by show D.pos < D.T.length; rw [hp]; exact List.length_pos_iff.2 hT⟩, e⟩
/-- An entry is hung where new ones are hung. -/
def Dc.hung (D : Dc) (e : DE) : Dc := if D.Y = [] then { D with T := hangT D.seed D.T e } else { D with Y := hangT D.seed D.Y e }
theorem hung_perm {D : Dc} (hT : D.T ≠ []) (e : DE) : (D.hung e).ents.Perm (e :: D.ents) := by
  unfold Dc.hung
  split
  · exact (hang_perm hT e).append_right _
  · rename_i hY
    exact ((hang_perm hY e).append_left _).trans List.perm_middle
theorem Dc.Wf.hung {D : Dc} (h : D.Wf) (hT : D.T ≠ []) {e : DE} (hk : ∀ x ∈ D.ents, x.key ≠ e.key) (hb : ∀ x ∈ D.ents, x.b ≠ e.b) (ht : e.key.length ≤ 140737488351232) (hf : D.ents.length < 1099511627776) : (D.hung e).Wf := by
  have hp := hung_perm hT e
  have e1 : (D.hung e).seed = D.seed := by unfold Dc.hung; split <;> rfl
  have e2 : (D.hung e).pos = D.pos := by unfold Dc.hung; split <;> rfl
  refine ⟨e1 ▸ h.seed, (hp.map _).nodup_iff.2 (List.nodup_cons.2 ⟨?_, h.keys⟩), (hp.map _).nodup_iff.2 (List.nodup_cons.2 ⟨?_, h.blocks⟩), ?_, ?_, ?_, ?_, ?_, ?_, ?_⟩
  · intro hm
    obtain ⟨x, hx, he⟩ := List.mem_map.1 hm
    exact hk x hx he
  · intro hm
    obtain ⟨x, hx, he⟩ := List.mem_map.1 hm
    exact hb x hx he
  · intro x hx
    rcases List.mem_cons.1 (hp.mem_iff.1 hx) with rfl | hx
    · exact ht
    · exact h.text x hx
  · rw [hp.length_eq, List.length_cons]; omega
  · unfold Dc.hung
    split
    · exact hang_placed hT h.placeT e
    · exact h.placeT
  · unfold Dc.hung
    split
    · exact h.placeY
    · rename_i hY; exact hang_placed hY h.placeY e
  · unfold Dc.hung
    split
    · rename_i hY
      intro i c hi _
      have : i < D.pos := hi
      rw [h.still hY] at this; cases this
    · exact h.past
  · unfold Dc.hung
    split
    · exact h.still
    · rename_i hY
      intro hh
      exact absurd hh (hangT_ne hY)
  · unfold Dc.hung
    split
    · rename_i hY
      exact fun hh => absurd hY hh
    · rename_i hY
      exact fun _ => h.moves hY
theorem madeCells_one (z : Value) (n : Nat) : madeCells #[z] n = (List.replicate n z).toArray := by
  apply Array.ext
  · simp [size_madeCells]
  · intro i h1 h2
    simp [madeCells, Nat.mod_one]
theorem lastA_spec (p : Addr) (pre : List DE) : (pre = [] ∧ lastA p pre = p) ∨ ∃ x ∈ pre, lastA p pre = ⟨x.b, 2, none⟩ := by
  rcases List.eq_nil_or_concat pre with h | ⟨l, x, h⟩
  · exact .inl ⟨h, by rw [h]; rfl⟩
  · exact .inr ⟨x, by rw [h]; simp, by rw [h, List.concat_eq_append]; exact lastA_snoc _ _ _⟩
theorem ptrOf_append {pre : List DE} (h : pre ≠ []) (a b : List DE) : ptrOf (pre ++ a) = ptrOf (pre ++ b) := by
  cases pre with
  | nil => exact absurd rfl h
  | cons x l => rfl
end Pantry


/- Chains of entries, tables; the bucket of a key. -/
set_option linter.unusedVariables false
set_option linter.unusedSimpArgs false
namespace Go.Proofs.YteiklgbjjmlmaaaGreat
open Go.RowKit Pantry

theorem three {w : World} {g : Nat} {c0 c1 c2 : Value} {t : TypeId} (h : w.heap[g]? = some (.cells #[c0, c1, c2] t)) :
    (w.cell? ⟨g, 0, none⟩ = some c0 ∧ w.cell? ⟨g, 1, none⟩ = some c1 ∧ w.cell? ⟨g, 2, none⟩ = some c2) ∧ ∀ j, w.frozen? ⟨g, j, none⟩ = false := by
  refine ⟨⟨?_, ?_, ?_⟩, fun j => frozen_of_row w g j _ _ h⟩ <;> rw [cell_of_row w g _ _ _ _ h] <;> rfl
/-- A chain in memory: each entry points to the one behind it. -/
def ChainAt (w : World) : List DE → Prop
  | [] => True
  | e :: c => w.heap[e.b]? = some (.cells #[.string ⟨e.key.toArray⟩, e.val, ptrOf c] 215) ∧ ChainAt w c
theorem ChainAt.keep {w w' : World} {c : List DE} (h : ChainAt w c) (hk : ∀ e ∈ c, w'.heap[e.b]? = w.heap[e.b]?) : ChainAt w' c := by
  induction c with
  | nil => trivial
  | cons e c ih => exact ⟨(hk e List.mem_cons_self).trans h.1, ih h.2 fun x hx => hk x (List.mem_cons_of_mem _ hx)⟩
theorem ChainAt.drop {w : World} {c : List DE} (h : ChainAt w c) (k : Nat) : ChainAt w (c.drop k) := by
  induction c generalizing k with
  | nil => simpa using h
  | cons e c ih =>
    cases k with
    | zero => exact h
    | succ k => exact ih h.2 k
theorem ChainAt.mem {w : World} {c : List DE} (h : ChainAt w c) {e : DE} (he : e ∈ c) : ∃ q, w.heap[e.b]? = some (.cells #[.string ⟨e.key.toArray⟩, e.val, q] 215) := by
  induction c with
  | nil => cases he
  | cons x c ih =>
    rcases List.mem_cons.1 he with rfl | he
    · exact ⟨_, h.1⟩
    · exact ih h.2 he
/-- A table's value; a table in memory. -/
def tabV (b : Nat) (T : List (List DE)) : Value := if T = [] then .slice none 0 0 else .slice (some ⟨b, 0, none⟩) T.length T.length
theorem tabV_nil (b : Nat) : tabV b [] = .slice none 0 0 := rfl
theorem tabV_some {b : Nat} {T : List (List DE)} (h : T ≠ []) : tabV b T = .slice (some ⟨b, 0, none⟩) T.length T.length := by rw [tabV, if_neg h]
structure TabAt (w : World) (b : Nat) (T : List (List DE)) : Prop where
  cells : T ≠ [] → w.heap[b]? = some (.cells (T.map ptrOf).toArray 213)
  two : T ≠ [] → ∃ k, T.length = 2 ^ k
  few : T.length ≤ 1099511627776
theorem TabAt.cell {w : World} {b : Nat} {T : List (List DE)} (h : TabAt w b T) {i : Nat} {c : List DE} (hi : T[i]? = some c) : w.cell? ⟨b, i, none⟩ = some (ptrOf c) := by
  have hne : T ≠ [] := by rintro rfl; cases hi
  rw [cell_of_row w b i _ _ _ (h.cells hne)]
  simp [hi]
theorem TabAt.keep {w w' : World} {b : Nat} {T : List (List DE)} (h : TabAt w b T) (hk : T ≠ [] → w'.heap[b]? = w.heap[b]?) : TabAt w' b T := ⟨fun hne => (hk hne).trans (h.cells hne), h.two, h.few⟩

set_option maxHeartbeats 1000000 in
theorem slot_any (w : World) (d b n k seed : Nat) (key : List UInt8) (hd : w.cell? ⟨d, 0, none⟩ = some (.int .u64 seed)) (hseed : seed < 18446744073709551616) (hn : n = 2 ^ k) (hl : n ≤ 1099511627776) (hs : key.length ≤ 140737488351232) :
    Calls Tryz.prog 138 #[.pointer (some ⟨d, 0, none⟩), .slice (some ⟨b, 0, none⟩) n n, .string ⟨key.toArray⟩] w fun e w' => e = .returned (.pointer (some ⟨b, dslotN seed key n, none⟩)) ∧ w = w' := by
  have hp : 0 < n := by subst hn; exact Nat.two_pow_pos k
  have ha := and_mask hn (hashN_lt seed key) hl
  have hlt : hashN seed key % n < n := Nat.mod_lt _ hp
  have hw : IntKind.u64.wrap ((n : Int) - 1) = (n : Int) - 1 := by rw [IntKind.wrap_u64]; omega
  have HH := Lib.hid (hash_any w seed key hs hseed)
  unfold dslotN
  obtain ⟨h, hh⟩ : ∃ h, hashN seed key = h := ⟨_, rfl⟩
  rw [hh] at ha hlt HH ⊢
  obtain ⟨i, hi⟩ : ∃ i, h % n = i := ⟨_, rfl⟩
  rw [hi] at ha hlt ⊢
  clear hn hh hi
  go_enter Tryz.func138, Tryz.ntmps138
  go_wp2_with (go_at_call 140; refine HH.out.mono ?_; rintro e w1 ⟨rfl, rfl⟩)
  go_ret
  exact ⟨rfl, rfl⟩
end Go.Proofs.YteiklgbjjmlmaaaGreat


/- Where a key's entry hangs. -/
set_option linter.unusedVariables false
set_option linter.unusedSimpArgs false
namespace Go.Proofs.YteiklgbjjmlmaaaGreat
open Go.RowKit Pantry

set_option maxHeartbeats 1000000 in
theorem link_nil (w : World) (p : Option Addr) (key : List UInt8) : Calls Tryz.prog 134 #[.pointer p, .slice none 0 0, .string ⟨key.toArray⟩] w fun e w' => e = .returned (.pointer none) ∧ w = w' := by
  go_enter Tryz.func134, Tryz.ntmps134
  go_wp2_with fail
  go_ret
  exact ⟨rfl, rfl⟩
set_option maxHeartbeats 2000000 in
theorem link_some (w : World) (d b seed : Nat) (T : List (List DE)) (key : List UInt8) (hd : w.cell? ⟨d, 0, none⟩ = some (.int .u64 seed)) (hseed : seed < 18446744073709551616) (hT : TabAt w b T) (hne : T ≠ [])
    (hc : ∀ c ∈ T, ChainAt w c) (hs : key.length ≤ 140737488351232) :
    Calls Tryz.prog 134 #[.pointer (some ⟨d, 0, none⟩), tabV b T, .string ⟨key.toArray⟩] w fun e w' => e = .returned (.pointer (linkT seed b T key)) ∧ w = w' := by
  obtain ⟨c, hcT⟩ := slot_get (seed := seed) hne key
  have hcell := hT.cell hcT
  have hch := hc c (List.mem_of_getElem? hcT)
  have e1 : linkT seed b T key = linkC ⟨b, dslotN seed key T.length, none⟩ c key := by rw [linkT, hcT]
  obtain ⟨k, hk⟩ := hT.two hne
  have HS := Lib.hid (slot_any w d b T.length k seed key hd hseed hk hT.few hs)
  have hp : 0 < T.length := List.length_pos_iff.2 hne
  have hf := hT.few
  rw [tabV_some hne, e1]
  obtain ⟨i, hi⟩ : ∃ i, dslotN seed key T.length = i := ⟨_, rfl⟩
  rw [hi] at hcell HS ⊢
  obtain ⟨n, hn⟩ : ∃ n, T.length = n := ⟨_, rfl⟩
  rw [hn] at HS hp hf ⊢
  have hn0 : ¬ n = 0 := by omega
  have HR := Lib.hid (show w.cell? ⟨b, i, none⟩ = some (ptrOf c) ∧ ChainAt w c from ⟨hcell, hch⟩)
  obtain ⟨r, hr⟩ : ∃ r, linkC ⟨b, i, none⟩ c key = r := ⟨_, rfl⟩
  rw [hr]
  have HRR := Lib.hid hr
  clear hcT hcell hch e1 hk hi hn hT hne hc hd hr
  go_enter Tryz.func134, Tryz.ntmps134
  go_wp2_with (go_at_call 138; refine HS.out.mono ?_; rintro e w1 ⟨rfl, rfl⟩)
  go_loopg [7] (c.length + 1) (fun g s wr => wr = w ∧ ∃ (a : Addr) (es : List DE), s = .pointer (some a) ∧ es.length + 1 ≤ g ∧ Hid (w.cell? a = some (ptrOf es) ∧ ChainAt w es ∧ r = linkC a es key))
  case atStart => exact ⟨rfl, _, c, rfl, Nat.le_refl _, Lib.hid ⟨HR.out.1, HR.out.2, HRR.out.symm⟩⟩
  case round =>
    obtain ⟨rfl, a, es, rfl, hg, HI⟩ := hrel
    obtain ⟨h1, h2, h3⟩ := HI.out
    cases es with
    | nil =>
      simp only [ptrOf, ptrA] at h1
      rw [linkC] at h3
      subst h3
      clear h2 HI HRR
      go_wp2_with fail
      go_ret
      exact ⟨rfl, rfl⟩
    | cons e es =>
      simp only [ptrOf, ptrA] at h1
      obtain ⟨⟨c0, c1, c2⟩, -⟩ := three h2.1
      by_cases hk : e.key = key
      · rw [linkC, if_pos hk] at h3
        subst h3 hk
        clear h2 HI HRR
        go_wp2_with fail
        go_ret
        exact ⟨rfl, rfl⟩
      · have hkb : (e.key == key) = false := by simpa using hk
        rw [linkC, if_neg hk] at h3
        have HN := Lib.hid (show wr.cell? ⟨e.b, 2, none⟩ = some (ptrOf es) ∧ ChainAt wr es ∧ r = linkC ⟨e.b, 2, none⟩ es key from ⟨c2, h2.2, h3⟩)
        clear h2 h3 HI
        go_wp2_with fail
        go_roundg (es.length + 1)
        case measure => simp at hg; omega
        case rel => exact ⟨rfl, _, es, rfl, Nat.le_refl _, HN⟩
end Go.Proofs.YteiklgbjjmlmaaaGreat


/- An entry is hung into its chain. -/
set_option linter.unusedVariables false
set_option linter.unusedSimpArgs false
namespace Go.Proofs.YteiklgbjjmlmaaaGreat
open Go.RowKit Pantry

theorem ent_ne_tab {w : World} {e b : Nat} {c c' : Array Value} (h : w.heap[e]? = some (.cells c 215)) (h' : w.heap[b]? = some (.cells c' 213)) : e ≠ b := types_ne h h' (by decide)
theorem TabAt.ent_ne {w : World} {b : Nat} {T : List (List DE)} (h : TabAt w b T) (hne : T ≠ []) {e : Nat} {c : Array Value} (he : w.heap[e]? = some (.cells c 215)) : e ≠ b := ent_ne_tab he (h.cells hne)

/-- What hang leaves. -/
structure HangPost (seed b : Nat) (T : List (List DE)) (e : DE) (w : World) (r : Ending) (w' : World) : Prop where
  res : r = .returned (.tuple #[])
  tab : TabAt w' b (hangT seed T e)
  chains : ∀ c ∈ hangT seed T e, ChainAt w' c
  chg : Chg (fun k => k = b ∨ k = e.b) w w'
  size : w'.heap.size = w.heap.size

theorem hang_post {w : World} {b seed i : Nat} {T : List (List DE)} {e : DE} {c : List DE} {q : Value} (hT : TabAt w b T) (hne : T ≠ []) (hc : ∀ c ∈ T, ChainAt w c) (he : w.heap[e.b]? = some (.cells #[.string ⟨e.key.toArray⟩, e.val, q] 215))
    (hnot : ∀ c ∈ T, ∀ x ∈ c, x.b ≠ e.b) (hi : dslotN seed e.key T.length = i) (hci : T[i]? = some c) :
    HangPost seed b T e w (.returned (.tuple #[])) ((w.setCell ⟨e.b, 2, none⟩ (ptrOf c)).setCell ⟨b, i, none⟩ (.pointer (some ⟨e.b, 0, none⟩))) := by
  have hbe := hT.ent_ne hne he
  have e1 : hangT seed T e = T.set i (e :: c) := by rw [hangT, hi, hci]; rfl
  have hb : ((w.setCell ⟨e.b, 2, none⟩ (ptrOf c)).heap[b]?) = some (.cells (T.map ptrOf).toArray 213) := (heapSetOther (p := ⟨e.b, 2, none⟩) hbe.symm).trans (hT.cells hne)
  have hother : ∀ k, k ≠ e.b → k ≠ b → ((w.setCell ⟨e.b, 2, none⟩ (ptrOf c)).setCell ⟨b, i, none⟩ (.pointer (some ⟨e.b, 0, none⟩))).heap[k]? = w.heap[k]? := fun k h1 h2 =>
    (heapSetOther (p := ⟨b, i, none⟩) h2).trans (heapSetOther (p := ⟨e.b, 2, none⟩) h1)
  have hkeep : ∀ c' ∈ T, ChainAt ((w.setCell ⟨e.b, 2, none⟩ (ptrOf c)).setCell ⟨b, i, none⟩ (.pointer (some ⟨e.b, 0, none⟩))) c' := fun c' hc' => (hc c' hc').keep fun x hx => by
    obtain ⟨q', hq⟩ := (hc c' hc').mem hx
    exact hother x.b (hnot c' hc' x hx) (hT.ent_ne hne hq)
  refine ⟨rfl, ⟨fun _ => ?_, fun _ => ?_, ?_⟩, ?_, ?_, by simp⟩
  · rw [heapSetHere hb, e1]
    simp [List.map_set, ptrOf, ptrA]
  · rw [hangT_length]; exact hT.two hne
  · rw [hangT_length]; exact hT.few
  · rw [e1]
    intro c' hc'
    rcases List.mem_or_eq_of_mem_set hc' with h | rfl
    · exact hkeep c' h
    · refine ⟨?_, hkeep c (List.mem_of_getElem? hci)⟩
      refine (heapSetOther (p := ⟨b, i, none⟩) hbe).trans ?_
      rw [heapSetHere he]
      rfl
  · exact ((Chg.refl _ w).setCell (p := ⟨e.b, 2, none⟩) (fun _ => .inr rfl) _).setCell (p := ⟨b, i, none⟩) (fun _ => .inl rfl) _

set_option maxHeartbeats 2000000 in
theorem hang_any (w : World) (d b seed : Nat) (T : List (List DE)) (e : DE) (q : Value) (hd : w.cell? ⟨d, 0, none⟩ = some (.int .u64 seed)) (hseed : seed < 18446744073709551616) (hT : TabAt w b T) (hne : T ≠ [])
    (hc : ∀ c ∈ T, ChainAt w c) (he : w.heap[e.b]? = some (.cells #[.string ⟨e.key.toArray⟩, e.val, q] 215)) (hnot : ∀ c ∈ T, ∀ x ∈ c, x.b ≠ e.b) (hs : e.key.length ≤ 140737488351232) :
    Calls Tryz.prog 128 #[.pointer (some ⟨d, 0, none⟩), tabV b T, .pointer (some ⟨e.b, 0, none⟩)] w (HangPost seed b T e w) := by
  obtain ⟨c, hcT⟩ := slot_get (seed := seed) hne e.key
  have hcell := hT.cell hcT
  obtain ⟨k, hk⟩ := hT.two hne
  have HS := Lib.hid (slot_any w d b T.length k seed e.key hd hseed hk hT.few hs)
  obtain ⟨⟨c0, c1, c2⟩, cf⟩ := three he
  have cf2 := cf 2
  have hbe := hT.ent_ne hne he
  obtain ⟨i, hi⟩ : ∃ i, dslotN seed e.key T.length = i := ⟨_, rfl⟩
  rw [hi] at hcell HS hcT
  have hcell2 : ∀ v, (w.setCell ⟨e.b, 2, none⟩ v).cell? ⟨b, i, none⟩ = some (ptrOf c) := fun v => by
    rw [cell_of_row _ b i _ _ _ ((heapSetOther (p := ⟨e.b, 2, none⟩) hbe.symm).trans (hT.cells hne))]
    simp [hcT]
  have hfr2 : ∀ v, (w.setCell ⟨e.b, 2, none⟩ v).frozen? ⟨b, i, none⟩ = false := fun v => frozen_of_row _ b i _ _ ((heapSetOther (p := ⟨e.b, 2, none⟩) hbe.symm).trans (hT.cells hne))
  have HP := Lib.hid (hang_post hT hne hc he hnot hi hcT)
  unfold ptrOf at hcell hcell2 HP
  obtain ⟨pc, hpc⟩ : ∃ p, ptrA c = p := ⟨_, rfl⟩
  rw [hpc] at hcell hcell2 HP
  rw [tabV_some hne]
  obtain ⟨n, hn⟩ : ∃ n, T.length = n := ⟨_, rfl⟩
  rw [hn] at HS ⊢
  clear hcT hk hi hn hT hne hc hd he hnot cf hbe c1 hpc
  go_enter Tryz.func128, Tryz.ntmps128
  go_wp2_with (go_at_call 138; refine HS.out.mono ?_; rintro r w1 ⟨rfl, rfl⟩)
  (try simp only [Exit.inBlock, Exit.then]); refine bodyPost_ret (results_none rfl _ _ _) rfl ?_
  exact HP.out
end Go.Proofs.YteiklgbjjmlmaaaGreat


/- A dict: two tables of chains; its plain laws; a dict in memory. -/
set_option linter.unusedVariables false
set_option linter.unusedSimpArgs false
namespace Go.Proofs.YteiklgbjjmlmaaaGreat
open Go.RowKit Pantry

/-- Block d is the dict D. -/
structure DictAt (w : World) (d : Nat) (D : Dc) : Prop where
  head : w.heap[d]? = some (.cells #[.int .u64 D.seed, tabV D.bo D.T, tabV D.bn D.Y, .int .i64 D.pos, .int .i64 (D.ents.length : Nat)] 210)
  old : TabAt w D.bo D.T
  young : TabAt w D.bn D.Y
  chT : ∀ c ∈ D.T, ChainAt w c
  chY : ∀ c ∈ D.Y, ChainAt w c
  ne : D.T ≠ [] → D.Y ≠ [] → D.bo ≠ D.bn
def DFoot (d : Nat) (D : Dc) (k : Nat) : Prop := k = d ∨ (D.T ≠ [] ∧ k = D.bo) ∨ (D.Y ≠ [] ∧ k = D.bn) ∨ ∃ e ∈ D.ents, k = e.b
theorem DictAt.keep {w w' : World} {d : Nat} {D : Dc} (h : DictAt w d D) (hk : ∀ k, DFoot d D k → w'.heap[k]? = w.heap[k]?) : DictAt w' d D :=
  ⟨(hk d (.inl rfl)).trans h.head, h.old.keep fun hne => hk _ (.inr (.inl ⟨hne, rfl⟩)), h.young.keep fun hne => hk _ (.inr (.inr (.inl ⟨hne, rfl⟩))),
    fun c hc => (h.chT c hc).keep fun e he => hk _ (.inr (.inr (.inr ⟨e, List.mem_append.2 (.inl (List.mem_flatten.2 ⟨c, hc, he⟩)), rfl⟩))),
    fun c hc => (h.chY c hc).keep fun e he => hk _ (.inr (.inr (.inr ⟨e, List.mem_append.2 (.inr (List.mem_flatten.2 ⟨c, hc, he⟩)), rfl⟩))), h.ne⟩
theorem DictAt.ent {w : World} {d : Nat} {D : Dc} (h : DictAt w d D) {e : DE} (he : e ∈ D.ents) : ∃ q, w.heap[e.b]? = some (.cells #[.string ⟨e.key.toArray⟩, e.val, q] 215) := by
  rcases List.mem_append.1 he with he | he
  · obtain ⟨c, hc, hx⟩ := List.mem_flatten.1 he
    exact (h.chT c hc).mem hx
  · obtain ⟨c, hc, hx⟩ := List.mem_flatten.1 he
    exact (h.chY c hc).mem hx
theorem DictAt.lt {w : World} {d : Nat} {D : Dc} (h : DictAt w d D) : ∀ k, DFoot d D k → k < w.heap.size := by
  rintro k (rfl | ⟨hne, rfl⟩ | ⟨hne, rfl⟩ | ⟨e, he, rfl⟩)
  · exact block_lt h.head
  · exact block_lt (h.old.cells hne)
  · exact block_lt (h.young.cells hne)
  · obtain ⟨q, hq⟩ := h.ent he
    exact block_lt hq
theorem DictAt.chg {w w' : World} {d : Nat} {D : Dc} {S : Nat → Prop} (h : DictAt w d D) (hc : Chg S w w') (hS : ∀ k, DFoot d D k → ¬ S k) : DictAt w' d D :=
  h.keep fun k hk => hc.block k (h.lt k hk) (hS k hk)
theorem five {w : World} {g : Nat} {c0 c1 c2 c3 c4 : Value} {t : TypeId} (h : w.heap[g]? = some (.cells #[c0, c1, c2, c3, c4] t)) :
    (w.cell? ⟨g, 0, none⟩ = some c0 ∧ w.cell? ⟨g, 1, none⟩ = some c1 ∧ w.cell? ⟨g, 2, none⟩ = some c2 ∧ w.cell? ⟨g, 3, none⟩ = some c3 ∧ w.cell? ⟨g, 4, none⟩ = some c4) ∧ ∀ j, w.frozen? ⟨g, j, none⟩ = false := by
  refine ⟨⟨?_, ?_, ?_, ?_, ?_⟩, fun j => frozen_of_row w g j _ _ h⟩ <;> rw [cell_of_row w g _ _ _ _ h] <;> rfl
theorem DictAt.ne_ent {w : World} {d : Nat} {D : Dc} (h : DictAt w d D) {e : Nat} {c : Array Value} (he : w.heap[e]? = some (.cells c 215)) : e ≠ d := types_ne he h.head (by decide)
theorem DictAt.ne_old {w : World} {d : Nat} {D : Dc} (h : DictAt w d D) (hne : D.T ≠ []) : D.bo ≠ d := types_ne (h.old.cells hne) h.head (by decide)
theorem DictAt.ne_young {w : World} {d : Nat} {D : Dc} (h : DictAt w d D) (hne : D.Y ≠ []) : D.bn ≠ d := types_ne (h.young.cells hne) h.head (by decide)
/-- Cells of the head have been written. -/
theorem DictAt.reset {w w' : World} {d : Nat} {D D' : Dc} (h : DictAt w d D) (hh : w'.heap[d]? = some (.cells #[.int .u64 D'.seed, tabV D'.bo D'.T, tabV D'.bn D'.Y, .int .i64 D'.pos, .int .i64 (D'.ents.length : Nat)] 210))
    (ho : ∀ k, k ≠ d → w'.heap[k]? = w.heap[k]?) (h1 : D'.bo = D.bo) (h2 : D'.T = D.T) (h3 : D'.bn = D.bn) (h4 : D'.Y = D.Y) : DictAt w' d D' := by
  refine ⟨hh, ?_, ?_, ?_, ?_, ?_⟩
  · rw [h1, h2]; exact h.old.keep fun hne => ho _ (h.ne_old hne)
  · rw [h3, h4]; exact h.young.keep fun hne => ho _ (h.ne_young hne)
  · rw [h2]; exact fun c hc => (h.chT c hc).keep fun e he => by
      obtain ⟨q, hq⟩ := (h.chT c hc).mem he
      exact ho _ (h.ne_ent hq)
  · rw [h4]; exact fun c hc => (h.chY c hc).keep fun e he => by
      obtain ⟨q, hq⟩ := (h.chY c hc).mem he
      exact ho _ (h.ne_ent hq)
  · rw [h1, h2, h3, h4]; exact h.ne
theorem DictAt.setPos {w : World} {d : Nat} {D : Dc} (h : DictAt w d D) (a : Nat) : DictAt (w.setCell ⟨d, 3, none⟩ (.int .i64 a)) d (D.withPos a) :=
  h.reset (by rw [heapSetHere h.head]; rfl) (fun k hk => heapSetOther (p := ⟨d, 3, none⟩) hk) rfl rfl rfl rfl
end Go.Proofs.YteiklgbjjmlmaaaGreat
