/- Where a key's entry hangs. -/
import Derived.Test.YtbjfigegiffefaaDTab
set_option linter.unusedVariables false
set_option linter.unusedSimpArgs false
namespace Pantry
open Go Go.RowKit
/-- The cell that points to a key's entry. -/
def linkC (p : Addr) : List DE → List UInt8 → Option Addr
  | [], _ => none
  | e :: c, k => if e.key = k then some p else linkC ⟨e.b, 2, none⟩ c k
/-- .. in a table. -/
def linkT (seed b : Nat) (T : List (List DE)) (k : List UInt8) : Option Addr :=
  match T[dslotN seed k T.length]? with
  | some c => linkC ⟨b, dslotN seed k T.length, none⟩ c k
  | none => none
def findT (seed b : Nat) (T : List (List DE)) (b' : Nat) (T' : List (List DE)) (k : List UInt8) : Option Addr := match linkT seed b T k with | some p => some p | none => linkT seed b' T' k
theorem slot_get {seed : Nat} {T : List (List DE)} (h : T ≠ []) (k : List UInt8) : ∃ c, T[dslotN seed k T.length]? = some c :=
  ⟨_, List.getElem?_eq_getElem (Nat.mod_lt _ (List.length_pos_iff.2 h))⟩
end Pantry
namespace Go.Proofs.Ytbjfigegiffefaa
open Go.RowKit Pantry

set_option maxHeartbeats 1000000 in
theorem link_nil (w : World) (p : Option Addr) (key : List UInt8) : Calls Try.prog 69 #[.pointer p, .slice none 0 0, .string ⟨key.toArray⟩] w fun e w' => e = .returned (.pointer none) ∧ w = w' := by
  go_enter Try.func69, Try.ntmps69
  go_wp2_with fail
  go_ret
  exact ⟨rfl, rfl⟩
set_option maxHeartbeats 2000000 in
theorem link_some (w : World) (d b seed : Nat) (T : List (List DE)) (key : List UInt8) (hd : w.cell? ⟨d, 0, none⟩ = some (.int .u64 seed)) (hseed : seed < 18446744073709551616) (hT : TabAt w b T) (hne : T ≠ [])
    (hc : ∀ c ∈ T, ChainAt w c) (hs : key.length ≤ 140737488351232) :
    Calls Try.prog 69 #[.pointer (some ⟨d, 0, none⟩), tabV b T, .string ⟨key.toArray⟩] w fun e w' => e = .returned (.pointer (linkT seed b T key)) ∧ w = w' := by
  obtain ⟨c, hcT⟩ := slot_get (seed := seed) hne key
  have hcell := hT.cell hcT
  have hch := hc c (List.mem_of_getElem? hcT)
  have e1 : linkT seed b T key = linkC ⟨b, dslotN seed key T.length, none⟩ c key := by rw [linkT, hcT]
  obtain ⟨k, hk⟩ := hT.two hne
  have HS := Lib.hid (slot_any w d b T.length k seed key hd hseed hk hT.few hs)
  have hp : 0 < T.length := List.length_pos_iff.2 hne
  have hf := hT.few
  rw [tabV_some hne, e1]
  obtain ⟨i, hi⟩ : ∃ i, dslotN seed key T.length = i := ⟨_, rfl⟩
  rw [hi] at hcell HS ⊢
  obtain ⟨n, hn⟩ : ∃ n, T.length = n := ⟨_, rfl⟩
  rw [hn] at HS hp hf ⊢
  have hn0 : ¬ n = 0 := by omega
  have HR := Lib.hid (show w.cell? ⟨b, i, none⟩ = some (ptrOf c) ∧ ChainAt w c from ⟨hcell, hch⟩)
  obtain ⟨r, hr⟩ : ∃ r, linkC ⟨b, i, none⟩ c key = r := ⟨_, rfl⟩
  rw [hr]
  have HRR := Lib.hid hr
  clear hcT hcell hch e1 hk hi hn hT hne hc hd hr
  go_enter Try.func69, Try.ntmps69
  go_wp2_with (go_at_call 71; refine HS.out.mono ?_; rintro e w1 ⟨rfl, rfl⟩)
  go_loopg [7] (c.length + 1) (fun g s wr => wr = w ∧ ∃ (a : Addr) (es : List DE), s = .pointer (some a) ∧ es.length + 1 ≤ g ∧ Hid (w.cell? a = some (ptrOf es) ∧ ChainAt w es ∧ r = linkC a es key))
  case atStart => exact ⟨rfl, _, c, rfl, Nat.le_refl _, Lib.hid ⟨HR.out.1, HR.out.2, HRR.out.symm⟩⟩
  case round =>
    obtain ⟨rfl, a, es, rfl, hg, HI⟩ := hrel
    obtain ⟨h1, h2, h3⟩ := HI.out
    cases es with
    | nil =>
      simp only [ptrOf, ptrA] at h1
      rw [linkC] at h3
      subst h3
      clear h2 HI HRR
      go_wp2_with fail
      go_ret
      exact ⟨rfl, rfl⟩
    | cons e es =>
      simp only [ptrOf, ptrA] at h1
      obtain ⟨⟨c0, c1, c2⟩, -⟩ := three h2.1
      by_cases hk : e.key = key
      · rw [linkC, if_pos hk] at h3
        subst h3 hk
        clear h2 HI HRR
        go_wp2_with fail
        go_ret
        exact ⟨rfl, rfl⟩
      · have hkb : (e.key == key) = false := by simpa using hk
        rw [linkC, if_neg hk] at h3
        have HN := Lib.hid (show wr.cell? ⟨e.b, 2, none⟩ = some (ptrOf es) ∧ ChainAt wr es ∧ r = linkC ⟨e.b, 2, none⟩ es key from ⟨c2, h2.2, h3⟩)
        clear h2 h3 HI
        go_wp2_with fail
        go_roundg (es.length + 1)
        case measure => simp at hg; omega
        case rel => exact ⟨rfl, _, es, rfl, Nat.le_refl _, HN⟩
end Go.Proofs.Ytbjfigegiffefaa
