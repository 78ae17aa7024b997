/- Each. -/
import Derived.Test.YtefoieloakfhfaaSet3
namespace Go.Proofs.Ytefoieloakfhfaa
open Go.RowKit Pantry

theorem each_any (w : World) (p : Option Addr) : Calls Try.prog 26 #[.pointer p] w fun e w' => e = .returned (.func (.func 41) #[] #[.pointer (some ⟨w.heap.size, 0, none⟩)]) ∧ w' = w.alloc (.cells #[.pointer p] 24) := by
  go_enter Try.func26, Try.ntmps26
  go_wp2_with fail
  go_ret
  exact ⟨rfl, rfl⟩
end Go.Proofs.Ytefoieloakfhfaa
