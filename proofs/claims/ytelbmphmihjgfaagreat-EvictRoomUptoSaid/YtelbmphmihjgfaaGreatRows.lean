/-
  No cell of these rows narrows 'for every input' (looked for: loops, veiled, ifaces, maps, wideKeys, modest, calm, conditions, laid).
  DERIVED. THE GIVEN ROWS OF THIS SEAT. 2 by the template 'for every input the law returns true; each argument reads behind the call as it read before'; 0 by the template 'total and deterministic' (their statements: YtelbmphmihjgfaaGreatTotals.lean).
  GIVEN WITH THE SEED: the statements are not yours to turn. If you find one false, say at which input.
  Laid BY PROGRAM, IN A SANDBOX (cutbox-rows.mjs): the forced cells as the released guide's own fill.sh prints them over the translation 8bc69cb463581ba2… (all of the seat's roots in one cut). By AI agents, Wed Nov 11 2026. No macro, syntax, notation, axiom, sorry.
-/
import Derived.Test.YtelbmphmihjgfaaGreatChecked
import GoSem.Claim
import GoSem.ClaimJoined
import GoSem.ClaimMapViews
import Derived.JoinedTies
import Derived.KernelRfl
namespace Go.Proofs.YtelbmphmihjgfaaGreat
/- THE CELL 'sum', in the pinned program and in every row, IS THE sha256 OF THE DUMP (.gsa) THAT YtelbmphmihjgfaaGreatProg.lean LOADS. Nothing in Lean hashes anything: it is a label: what it is worth is what the hold of that sum in a sandbox is worth. -/
noncomputable def Tryz.pinned : Pinned := { name := "ytelbmphmihjgfaagreat", sum := "8bc69cb463581ba244e2e407d96dbfe2609b93c9b40cef1df7092693f1f7e2d1", checked := Tryz.checked }
namespace Rows
def none {H : Type} : Left H := { results := [], args := [] }

/-- 'pantrylaw15.EvictSoonest': WHATEVER THE INPUT: true; the input reads as it did. -/
def evictSoonestSpec : ChangeSpec := { name := "evictSoonest", fn := fun _ => fun
  | [d1, d2, d3, d4] => { results := [.lit (.bool true)], args := [d1, d2, d3, d4] }
  | _ => none }
def evictSoonestRow : OpenClaim := { program := "ytelbmphmihjgfaagreat", sum := "8bc69cb463581ba244e2e407d96dbfe2609b93c9b40cef1df7092693f1f7e2d1", func := "pantry/pantrylaw15.EvictSoonest", spec := "evictSoonest", unfollowed := true, recurses := true, apart := false }
def EvictSoonestSaid : Prop := evictSoonestRow.holds Tryz.pinned (OpenSpec.ofChange evictSoonestSpec)

/-- ITS FALSE NEIGHBOUR: 'it returns false'. Refute it at one input. -/
def evictSoonestWrong : ChangeSpec := { name := "evictSoonest", fn := fun _ => fun
  | [d1, d2, d3, d4] => { results := [.lit (.bool false)], args := [d1, d2, d3, d4] }
  | _ => none }
def EvictSoonestWrongFalsely : Prop := evictSoonestRow.holds Tryz.pinned (OpenSpec.ofChange evictSoonestWrong)

/-- 'pantrylaw15.EvictRoom': WHATEVER THE INPUT: true; the input reads as it did. -/
def evictRoomSpec : ChangeSpec := { name := "evictRoom", fn := fun _ => fun
  | [d1, d2, d3, d4] => { results := [.lit (.bool true)], args := [d1, d2, d3, d4] }
  | _ => none }
def evictRoomRow : OpenClaim := { program := "ytelbmphmihjgfaagreat", sum := "8bc69cb463581ba244e2e407d96dbfe2609b93c9b40cef1df7092693f1f7e2d1", func := "pantry/pantrylaw15.EvictRoom", spec := "evictRoom", unfollowed := true, recurses := true, apart := false }
def EvictRoomSaid : Prop := evictRoomRow.holds Tryz.pinned (OpenSpec.ofChange evictRoomSpec)

/-- ITS FALSE NEIGHBOUR: 'it returns false'. Refute it at one input. -/
def evictRoomWrong : ChangeSpec := { name := "evictRoom", fn := fun _ => fun
  | [d1, d2, d3, d4] => { results := [.lit (.bool false)], args := [d1, d2, d3, d4] }
  | _ => none }
def EvictRoomWrongFalsely : Prop := evictRoomRow.holds Tryz.pinned (OpenSpec.ofChange evictRoomWrong)

/- THE SECOND FORM. 'bulk': how many values and letters a reading holds, each counted each time it is reached (what is shared counts as often as it is met; a slice's spare places count too). A statement '..UptoSaid' is the law's where the arguments, and the package variables that the reading takes, are together of bulk at most 1048576: NARROWER than '..Said'. Prove '..Said' where nothing that the law and all that it calls make is longer than what came in: it says more and counts as full. Else prove '..UptoSaid'. A law counts once. -/
mutual
def uptoBulk {H : Type} : DataW H → Nat
  | .lit (.string bytes) => bytes.length + 1
  | .lit _ => 1
  | .nil => 1
  | .ptr d => uptoBulk d + 1
  | .slice elems spare => uptoBulkAll elems + uptoBulkAll spare + 1
  | .agg parts => uptoBulkAll parts + 1
  | .iface _ d => uptoBulk d + 1
  | .map entries => uptoBulkEntries entries + 1
  | .held _ => 1
def uptoBulkAll {H : Type} : List (DataW H) → Nat
  | [] => 0
  | d :: r => uptoBulk d + uptoBulkAll r
def uptoBulkEntries {H : Type} : List (Lit × DataW H) → Nat
  | [] => 0
  | x :: r => uptoBulkEntry x + uptoBulkEntries r
def uptoBulkEntry {H : Type} : Lit × DataW H → Nat
  | (.string bytes, d) => bytes.length + uptoBulk d + 1
  | (_, d) => uptoBulk d + 1
 end
def uptoSmall : (H : Type) → List (DataW H) → Bool := fun _ ds => decide (uptoBulkAll ds ≤ 1048576)
def OpenSpec.upto (s : _root_.Go.ChangeSpec) : _root_.Go.OpenSpec := { _root_.Go.OpenSpec.ofChange s with cond := some uptoSmall }

/-- 'pantrylaw15.EvictSoonest', WHERE WHAT IT READS IS OF BULK AT MOST 1048576: true; the input reads as it did. -/
def evictSoonestUptoRow : OpenClaim := { program := "ytelbmphmihjgfaagreat", sum := "8bc69cb463581ba244e2e407d96dbfe2609b93c9b40cef1df7092693f1f7e2d1", func := "pantry/pantrylaw15.EvictSoonest", spec := "evictSoonest", unfollowed := true, recurses := true, apart := false, narrowed := true }
def EvictSoonestUptoSaid : Prop := evictSoonestUptoRow.holds Tryz.pinned (OpenSpec.upto evictSoonestSpec)

/-- 'pantrylaw15.EvictRoom', WHERE WHAT IT READS IS OF BULK AT MOST 1048576: true; the input reads as it did. -/
def evictRoomUptoRow : OpenClaim := { program := "ytelbmphmihjgfaagreat", sum := "8bc69cb463581ba244e2e407d96dbfe2609b93c9b40cef1df7092693f1f7e2d1", func := "pantry/pantrylaw15.EvictRoom", spec := "evictRoom", unfollowed := true, recurses := true, apart := false, narrowed := true }
def EvictRoomUptoSaid : Prop := evictRoomUptoRow.holds Tryz.pinned (OpenSpec.upto evictRoomSpec)

end Rows
end Go.Proofs.YtelbmphmihjgfaaGreat
