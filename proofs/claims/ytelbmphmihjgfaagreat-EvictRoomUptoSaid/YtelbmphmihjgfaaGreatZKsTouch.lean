/- A keyspace: what Touched needs: a map that is cleared; the row of keys. -/
import Derived.Test.YtelbmphmihjgfaaGreatZKsNew
import Derived.Maps.RangeWalk
import Derived.Sort.KeysCollected
import Derived.Maps.AppendAt
set_option linter.unusedVariables false
set_option linter.unusedSimpArgs false
namespace Pantry
open Go Go.RowKit Go.Maps
theorem run_clear_map {P : Program} {w : World} {r : Nat} {es : Array MapEntry} {clock : Nat} {mty : TypeId} {d : TypeDesc} (hm : P.underlying mty = some d) (hb : w.heap[r]? = some (.map es clock)) (ty : TypeId) :
    (Builtin.clear_ #[mty] ty #[.map (some r)]).run P w = .ok (.tuple #[]) { w with heap := w.heap.setIfInBounds r (.map #[] clock) } := by
  simp [Builtin.clear_, run_underlying hm, MapKept.run_getObj_map hb, MapKept.run_setObj_map _ hb, Result.andThen]
theorem grown_clear {w : World} {r : Nat} {es : Array MapEntry} {clock : Nat} (hb : w.heap[r]? = some (.map es clock)) :
    w.grownBy { w with heap := w.heap.setIfInBounds r (.map #[] clock) } (some r) ∧ ({ w with heap := w.heap.setIfInBounds r (.map #[] clock) } : World).heap[r]? = some (.map #[] clock) := by
  obtain ⟨h1, h2⟩ := MapKept.heap_set (o' := .map #[] clock) hb
  exact ⟨⟨rfl, rfl, rfl, by simp, fun i hi hne => h2 i fun e => hne (by rw [e])⟩, h1⟩
end Pantry
namespace Go.Proofs.YtelbmphmihjgfaaGreat.DEnt
open Go.RowKit Pantry Go.Maps
theorem touch_cleared {w : World} {t c : Nat} (h : w.heap[t]? = some (.map #[] c)) : TouchAt w t [] := by
  refine ⟨.map [], ?_, Nat.le_refl _, fun k => rfl⟩
  exact ⟨#[], c, h, ⟨by simp, MapKept.stamped_empty c, by simp⟩, Nat.le_refl _, rfl⟩
end Go.Proofs.YtelbmphmihjgfaaGreat.DEnt
