
/- How an argument of type []string is opened, within the form's reach. -/
import Derived.Test.YteiklgbjjmlmaaaGreatZBytes
import Derived.ProofKit
import Derived.OpenShut
import Derived.ShutString
import Derived.ChangeOld
import Derived.SizedLaws
import Derived.Test.YteiklgbjjmlmaaaGreatZSnForm
import Derived.Deep.Slices
namespace Pantry
open Go Go.RowKit Go.ChangeShapes Go.WideShapes Go.ChangeAt
section
variable {H : Type} {enc : TypeId × Value → H} {P : Program} {w : World}
/-- Reach, as it is asked of one argument. -/
theorem reach_arg {ts : List TypeId} {ds : List (DataW H)} (h : (DataW.weightsEach P ts ds).all (· ≤ reachBytes) = true) {j : Nat} {t : TypeId} {d : DataW H} (ht : ts[j]? = some t) (hd : ds[j]? = some d) : ∀ n ∈ d.weights P t, n ≤ reachBytes := fun n hn => by
  have := List.all_eq_true.1 h _ (DataW.weights_mem_each ht hd n hn)
  simpa using this
end
end Pantry


/- How an argument of bytes is opened. -/
set_option linter.unusedVariables false
set_option linter.unusedSimpArgs false
namespace Go.Proofs.YteiklgbjjmlmaaaGreat
open Go.RowKit Pantry Go.ChangeShapes Go.WideShapes Go.ChangeAt Go.Deep
theorem wf_u8_29 {x : Int} (h : (Lit.int .u8 x).wf = true) : 0 ≤ x ∧ x ≤ 255 := by
  simp only [Lit.wf, Bool.and_eq_true, decide_eq_true_eq] at h
  simpa [IntKind.min, IntKind.max, IntKind.signed, IntKind.bits] using h
theorem wf_i64_29 {x : Int} (h : (Lit.int .i64 x).wf = true) : -9223372036854775808 ≤ x ∧ x ≤ 9223372036854775807 := by
  simp only [Lit.wf, Bool.and_eq_true, decide_eq_true_eq] at h
  simpa [IntKind.min, IntKind.max, IntKind.signed, IntKind.bits] using h
section
variable {H : Type} {enc : TypeId × Value → H} {w : World}
theorem open_barg {fuel base : Nat} {spare : Nat → Bool} {held : Bool} {a : Option Addr} {len cap : Nat} {d : DataW H} {p : List MemPlace}
    (h : DataW.trod enc Tryz.prog w base spare held fuel 24 [.slice a len cap] = some (d, p)) (hw : ∀ n ∈ d.weights Tryz.prog 24, n ≤ reachBytes) :
    ∃ l : List UInt8, BArg w a len cap l := by
  rcases open_ints Tryz.underlying24 Tryz.underlying5 (by kernel_rfl) h with ⟨hcs, hx⟩ | ⟨x, l, c, zs, hcs, _, hl, hm, hz, hx, hcell, hwz⟩
  · simp at hcs
    obtain ⟨rfl, rfl, rfl⟩ := hcs
    exact ⟨[], rfl, Nat.le_refl _, by decide, fun _ => rfl, Rd.nil _ _, by decide⟩
  · simp at hcs
    obtain ⟨rfl, rfl, rfl⟩ := hcs
    simp only [Prod.mk.injEq] at hx
    have hlen : len ≤ zs.length := by rw [hz]; split <;> omega
    have h64 := hw ((lits (H := H) .u8 (zs.take len)).length * 1 + (lits (H := H) .u8 (zs.drop len)).length * 1) (by
      have e64 : Tryz.prog.bytesOf 5 = 1 := by kernel_rfl
      rw [hx.1]
      simp only [DataW.weights, Tryz.underlying24, e64, Nat.add_mul]
      exact List.mem_cons_self)
    have e1 : (lits (H := H) .u8 (zs.take len)).length = len := by simp [lits]; omega
    rw [e1] at h64
    unfold reachBytes at h64
    refine ⟨(zs.take len).map fun z => UInt8.ofNat z.toNat, by simp; omega, hl, by unfold maxLen at hm; omega, by simp, fun j u hu => ?_, by omega⟩
    rw [b8_get, List.getElem?_map] at hu
    cases hj : (zs.take len)[j]? with
    | none => rw [hj] at hu; cases hu
    | some z =>
      rw [hj] at hu
      rw [List.getElem?_take] at hj
      split at hj
      · have hjz : j < zs.length := by omega
        have hz2 : zs[j] = z := by
          rw [List.getElem?_eq_getElem hjz] at hj
          exact Option.some.inj hj
        have hb := wf_u8_29 (hwz z (hz2 ▸ List.getElem_mem hjz))
        have hcj := hcell j (by omega)
        rw [List.getD_eq_getElem?_getD, List.getElem?_eq_getElem hjz, hz2, Option.getD_some] at hcj
        have hzz : (((UInt8.ofNat z.toNat).toNat : Nat) : Int) = z := by
          rw [UInt8.toNat_ofNat']
          omega
        simp only [Option.map_some, Option.some.injEq] at hu
        rw [hzz] at hu
        subst hu
        exact ⟨rfl, _, rfl, hcj⟩
      · cases hj
end
end Go.Proofs.YteiklgbjjmlmaaaGreat
