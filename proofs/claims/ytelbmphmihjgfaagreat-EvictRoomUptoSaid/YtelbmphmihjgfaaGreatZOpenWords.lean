/- How an argument of type []string is opened, within the form's reach. -/
import Derived.Test.YtelbmphmihjgfaaGreatZBytes
import Derived.ProofKit
import Derived.OpenShut
import Derived.ShutString
import Derived.ChangeOld
import Derived.SizedLaws
namespace Pantry
open Go Go.RowKit Go.ChangeShapes Go.WideShapes Go.ChangeAt
section
variable {H : Type} {enc : TypeId × Value → H} {P : Program} {w : World}
theorem weightsAll_mem {e : TypeId} {n : Nat} : ∀ (l : List (DataW H)) (d : DataW H), d ∈ l → n ∈ d.weights P e → n ∈ DataW.weightsAll P e l
  | d0 :: l, d, hd, hn => by
    simp only [DataW.weightsAll, List.mem_append]
    rcases List.mem_cons.1 hd with rfl | hd
    · exact Or.inl hn
    · exact Or.inr (weightsAll_mem l d hd hn)
/-- Reach, as it is asked of one argument. -/
theorem reach_arg {ts : List TypeId} {ds : List (DataW H)} (h : (DataW.weightsEach P ts ds).all (· ≤ reachBytes) = true) {j : Nat} {t : TypeId} {d : DataW H} (ht : ts[j]? = some t) (hd : ds[j]? = some d) : ∀ n ∈ d.weights P t, n ≤ reachBytes := fun n hn => by
  have := List.all_eq_true.1 h _ (DataW.weights_mem_each ht hd n hn)
  simpa using this
theorem open_words {t e : TypeId} {fuel base : Nat} {spare : Nat → Bool} {held : Bool} {a : Option Addr} {len cap : Nat} {d : DataW H} {p : List MemPlace} (ht : P.underlying t = some (.slice e)) (he : P.underlying e = some .string) (hc : P.cellsOf e = 1) (hb : P.bytesOf e = 16)
    (h : DataW.trod enc P w base spare held fuel t [.slice a len cap] = some (d, p)) (hw : ∀ n ∈ d.weights P t, n ≤ reachBytes) :
    ∃ l : List (List UInt8), l.length = len ∧ Rd w a (txts l) ∧ (∀ x ∈ l, x.length ≤ 140737488351232) ∧ len ≤ 8796093021952 ∧ (a = none → cap = 0) := by
  rcases open_strings ht he hc h with ⟨hcs, hx⟩ | ⟨x, l, c, ss, hcs, _, hl, hm, hz, hx, hcell, hws⟩
  · simp at hcs
    obtain ⟨rfl, rfl, rfl⟩ := hcs
    exact ⟨[], rfl, Rd.nil _ _, by simp, by omega, fun _ => rfl⟩
  · simp at hcs
    obtain ⟨rfl, rfl, rfl⟩ := hcs
    simp only [Prod.mk.injEq] at hx
    obtain ⟨hd, -⟩ := hx
    have hlen : len ≤ ss.length := by rw [hz]; split <;> omega
    rw [hd] at hw
    have h16 := hw ((((strs (H := H) (ss.take len)).length + (strs (H := H) (ss.drop len)).length) * P.bytesOf e)) (by simp only [DataW.weights, ht]; exact List.mem_cons_self)
    rw [hb] at h16
    have e1 : (strs (H := H) (ss.take len)).length = len := by simp [strs]; omega
    rw [e1] at h16
    unfold reachBytes at h16
    refine ⟨(ss.take len).map fun s => s.data.toList, by simp; omega, ?_, ?_, by omega, by simp⟩
    · intro j u hu
      rw [txts_get, List.getElem?_map] at hu
      cases hj : (ss.take len)[j]? with
      | none => rw [hj] at hu; cases hu
      | some s =>
        rw [hj] at hu
        cases hu
        have hjl : j < len := by
          have := (List.getElem?_eq_some_iff.1 hj).1
          simp at this; omega
        rw [List.getElem?_take, if_pos hjl] at hj
        refine ⟨rfl, _, rfl, ?_⟩
        rw [hcell j (by omega), List.getD_eq_getElem?_getD, hj]
        rfl
    · intro y hy
      obtain ⟨s, hs, rfl⟩ := List.mem_map.1 hy
      have h2 := hw s.data.toList.length (by
        simp only [DataW.weights, ht]
        refine List.mem_cons_of_mem _ (List.mem_append.2 (Or.inl ?_))
        exact weightsAll_mem _ (.lit (.string s.data.toList)) (List.mem_map.2 ⟨s, hs, rfl⟩) (by simp [DataW.weights]))
      unfold reachBytes at h2
      omega
end
end Pantry
