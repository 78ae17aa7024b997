/-
  No cell of these rows narrows 'for every input' (looked for: loops, veiled, ifaces, maps, wideKeys, modest, calm, conditions, laid).
  DERIVED. THE GIVEN ROWS OF THIS SEAT. 6 by the template 'for every input the law returns true; each argument reads behind the call as it read before'; 0 by the template 'total and deterministic' (their statements: YtefoieloakfhfaaTotals.lean).
  GIVEN WITH THE SEED: the statements are not yours to turn. If you find one false, say at which input.
  Laid BY PROGRAM, IN A SANDBOX (cutbox-rows.mjs): the forced cells as the released guide's own fill.sh prints them over the translation 9c1f75cb954ec2f6… (all of the seat's roots in one cut). By AI agents, Wed Nov 11 2026. No macro, syntax, notation, axiom, sorry.
-/
import Derived.Test.YtefoieloakfhfaaChecked
import GoSem.Claim
import GoSem.ClaimJoined
import GoSem.ClaimMapViews
import Derived.JoinedTies
import Derived.KernelRfl
namespace Go.Proofs.Ytefoieloakfhfaa
/- THE CELL 'sum', in the pinned program and in every row, IS THE sha256 OF THE DUMP (.gsa) THAT YtefoieloakfhfaaProg.lean LOADS. Nothing in Lean hashes anything: it is a label: what it is worth is what the hold of that sum in a sandbox is worth. -/
noncomputable def Try.pinned : Pinned := { name := "ytefoieloakfhfaa", sum := "9c1f75cb954ec2f6f367badd9a26a03eb157b20428fb87521485eb90ad95291d", checked := Try.checked }
namespace Rows
def none {H : Type} : Left H := { results := [], args := [] }

/-- 'pantrylaw07.DequeQueues': WHATEVER THE INPUT: true; the input reads as it did. -/
def dequeQueuesSpec : ChangeSpec := { name := "dequeQueues", fn := fun _ => fun
  | [d1, d2] => { results := [.lit (.bool true)], args := [d1, d2] }
  | _ => none }
def dequeQueuesRow : OpenClaim := { program := "ytefoieloakfhfaa", sum := "9c1f75cb954ec2f6f367badd9a26a03eb157b20428fb87521485eb90ad95291d", func := "pantry/pantrylaw07.DequeQueues", spec := "dequeQueues", inPlace := ["slices.overlaps[*pantry/deque.chunk]"], unfollowed := true, recurses := true, apart := false }
def DequeQueuesSaid : Prop := dequeQueuesRow.holds Try.pinned (OpenSpec.ofChange dequeQueuesSpec)

/-- ITS FALSE NEIGHBOUR: 'it returns false'. Refute it at one input. -/
def dequeQueuesWrong : ChangeSpec := { name := "dequeQueues", fn := fun _ => fun
  | [d1, d2] => { results := [.lit (.bool false)], args := [d1, d2] }
  | _ => none }
def DequeQueuesWrongFalsely : Prop := dequeQueuesRow.holds Try.pinned (OpenSpec.ofChange dequeQueuesWrong)

/-- 'pantrylaw07.DequeFull': WHATEVER THE INPUT: true; the input reads as it did. -/
def dequeFullSpec : ChangeSpec := { name := "dequeFull", fn := fun _ => fun
  | [] => { results := [.lit (.bool true)], args := [] }
  | _ => none }
def dequeFullRow : OpenClaim := { program := "ytefoieloakfhfaa", sum := "9c1f75cb954ec2f6f367badd9a26a03eb157b20428fb87521485eb90ad95291d", func := "pantry/pantrylaw07.DequeFull", spec := "dequeFull", inPlace := ["slices.overlaps[*pantry/deque.chunk]"], unfollowed := true, recurses := true, apart := false }
def DequeFullSaid : Prop := dequeFullRow.holds Try.pinned (OpenSpec.ofChange dequeFullSpec)

/-- ITS FALSE NEIGHBOUR: 'it returns false'. Refute it at one input. -/
def dequeFullWrong : ChangeSpec := { name := "dequeFull", fn := fun _ => fun
  | [] => { results := [.lit (.bool false)], args := [] }
  | _ => none }
def DequeFullWrongFalsely : Prop := dequeFullRow.holds Try.pinned (OpenSpec.ofChange dequeFullWrong)

/-- 'pantrylaw07.DequeRows': WHATEVER THE INPUT: true; the input reads as it did. -/
def dequeRowsSpec : ChangeSpec := { name := "dequeRows", fn := fun _ => fun
  | [d] => { results := [.lit (.bool true)], args := [d] }
  | _ => none }
def dequeRowsRow : OpenClaim := { program := "ytefoieloakfhfaa", sum := "9c1f75cb954ec2f6f367badd9a26a03eb157b20428fb87521485eb90ad95291d", func := "pantry/pantrylaw07.DequeRows", spec := "dequeRows", inPlace := ["slices.overlaps[*pantry/deque.chunk]"], unfollowed := true, recurses := true, apart := false }
def DequeRowsSaid : Prop := dequeRowsRow.holds Try.pinned (OpenSpec.ofChange dequeRowsSpec)

/-- ITS FALSE NEIGHBOUR: 'it returns false'. Refute it at one input. -/
def dequeRowsWrong : ChangeSpec := { name := "dequeRows", fn := fun _ => fun
  | [d] => { results := [.lit (.bool false)], args := [d] }
  | _ => none }
def DequeRowsWrongFalsely : Prop := dequeRowsRow.holds Try.pinned (OpenSpec.ofChange dequeRowsWrong)

/-- 'pantrylaw07.DequeKnown': WHATEVER THE INPUT: true; the input reads as it did. -/
def dequeKnownSpec : ChangeSpec := { name := "dequeKnown", fn := fun _ => fun
  | [] => { results := [.lit (.bool true)], args := [] }
  | _ => none }
def dequeKnownRow : OpenClaim := { program := "ytefoieloakfhfaa", sum := "9c1f75cb954ec2f6f367badd9a26a03eb157b20428fb87521485eb90ad95291d", func := "pantry/pantrylaw07.DequeKnown", spec := "dequeKnown", inPlace := ["slices.overlaps[*pantry/deque.chunk]"], unfollowed := true, recurses := true, apart := false }
def DequeKnownSaid : Prop := dequeKnownRow.holds Try.pinned (OpenSpec.ofChange dequeKnownSpec)

/-- ITS FALSE NEIGHBOUR: 'it returns false'. Refute it at one input. -/
def dequeKnownWrong : ChangeSpec := { name := "dequeKnown", fn := fun _ => fun
  | [] => { results := [.lit (.bool false)], args := [] }
  | _ => none }
def DequeKnownWrongFalsely : Prop := dequeKnownRow.holds Try.pinned (OpenSpec.ofChange dequeKnownWrong)

/-- 'pantrylaw07.DequePlays': WHATEVER THE INPUT: true; the input reads as it did. -/
def dequePlaysSpec : ChangeSpec := { name := "dequePlays", fn := fun _ => fun
  | [d] => { results := [.lit (.bool true)], args := [d] }
  | _ => none }
def dequePlaysRow : OpenClaim := { program := "ytefoieloakfhfaa", sum := "9c1f75cb954ec2f6f367badd9a26a03eb157b20428fb87521485eb90ad95291d", func := "pantry/pantrylaw07.DequePlays", spec := "dequePlays", inPlace := ["slices.overlaps[*pantry/deque.chunk]"], unfollowed := true, recurses := true, apart := false }
def DequePlaysSaid : Prop := dequePlaysRow.holds Try.pinned (OpenSpec.ofChange dequePlaysSpec)

/-- ITS FALSE NEIGHBOUR: 'it returns false'. Refute it at one input. -/
def dequePlaysWrong : ChangeSpec := { name := "dequePlays", fn := fun _ => fun
  | [d] => { results := [.lit (.bool false)], args := [d] }
  | _ => none }
def DequePlaysWrongFalsely : Prop := dequePlaysRow.holds Try.pinned (OpenSpec.ofChange dequePlaysWrong)

/-- 'pantrylaw07.DequeGoes': WHATEVER THE INPUT: true; the input reads as it did. -/
def dequeGoesSpec : ChangeSpec := { name := "dequeGoes", fn := fun _ => fun
  | [d1, d2, d3] => { results := [.lit (.bool true)], args := [d1, d2, d3] }
  | _ => none }
def dequeGoesRow : OpenClaim := { program := "ytefoieloakfhfaa", sum := "9c1f75cb954ec2f6f367badd9a26a03eb157b20428fb87521485eb90ad95291d", func := "pantry/pantrylaw07.DequeGoes", spec := "dequeGoes", inPlace := ["slices.overlaps[*pantry/deque.chunk]"], unfollowed := true, recurses := true, apart := false }
def DequeGoesSaid : Prop := dequeGoesRow.holds Try.pinned (OpenSpec.ofChange dequeGoesSpec)

/-- ITS FALSE NEIGHBOUR: 'it returns false'. Refute it at one input. -/
def dequeGoesWrong : ChangeSpec := { name := "dequeGoes", fn := fun _ => fun
  | [d1, d2, d3] => { results := [.lit (.bool false)], args := [d1, d2, d3] }
  | _ => none }
def DequeGoesWrongFalsely : Prop := dequeGoesRow.holds Try.pinned (OpenSpec.ofChange dequeGoesWrong)

/- THE SECOND FORM. 'bulk': how many values and letters a reading holds, each counted each time it is reached (what is shared counts as often as it is met; a slice's spare places count too). A statement '..UptoSaid' is the law's where the arguments, and the package variables that the reading takes, are together of bulk at most 1048576: NARROWER than '..Said'. Prove '..Said' where nothing that the law and all that it calls make is longer than what came in: it says more and counts as full. Else prove '..UptoSaid'. A law counts once. -/
mutual
def uptoBulk {H : Type} : DataW H → Nat
  | .lit (.string bytes) => bytes.length + 1
  | .lit _ => 1
  | .nil => 1
  | .ptr d => uptoBulk d + 1
  | .slice elems spare => uptoBulkAll elems + uptoBulkAll spare + 1
  | .agg parts => uptoBulkAll parts + 1
  | .iface _ d => uptoBulk d + 1
  | .map entries => uptoBulkEntries entries + 1
  | .held _ => 1
def uptoBulkAll {H : Type} : List (DataW H) → Nat
  | [] => 0
  | d :: r => uptoBulk d + uptoBulkAll r
def uptoBulkEntries {H : Type} : List (Lit × DataW H) → Nat
  | [] => 0
  | x :: r => uptoBulkEntry x + uptoBulkEntries r
def uptoBulkEntry {H : Type} : Lit × DataW H → Nat
  | (.string bytes, d) => bytes.length + uptoBulk d + 1
  | (_, d) => uptoBulk d + 1
 end
def uptoSmall : (H : Type) → List (DataW H) → Bool := fun _ ds => decide (uptoBulkAll ds ≤ 1048576)
def OpenSpec.upto (s : _root_.Go.ChangeSpec) : _root_.Go.OpenSpec := { _root_.Go.OpenSpec.ofChange s with cond := some uptoSmall }

/-- 'pantrylaw07.DequeQueues', WHERE WHAT IT READS IS OF BULK AT MOST 1048576: true; the input reads as it did. -/
def dequeQueuesUptoRow : OpenClaim := { program := "ytefoieloakfhfaa", sum := "9c1f75cb954ec2f6f367badd9a26a03eb157b20428fb87521485eb90ad95291d", func := "pantry/pantrylaw07.DequeQueues", spec := "dequeQueues", inPlace := ["slices.overlaps[*pantry/deque.chunk]"], unfollowed := true, recurses := true, apart := false, narrowed := true }
def DequeQueuesUptoSaid : Prop := dequeQueuesUptoRow.holds Try.pinned (OpenSpec.upto dequeQueuesSpec)

/-- 'pantrylaw07.DequeFull', WHERE WHAT IT READS IS OF BULK AT MOST 1048576: true; the input reads as it did. -/
def dequeFullUptoRow : OpenClaim := { program := "ytefoieloakfhfaa", sum := "9c1f75cb954ec2f6f367badd9a26a03eb157b20428fb87521485eb90ad95291d", func := "pantry/pantrylaw07.DequeFull", spec := "dequeFull", inPlace := ["slices.overlaps[*pantry/deque.chunk]"], unfollowed := true, recurses := true, apart := false, narrowed := true }
def DequeFullUptoSaid : Prop := dequeFullUptoRow.holds Try.pinned (OpenSpec.upto dequeFullSpec)

/-- 'pantrylaw07.DequeRows', WHERE WHAT IT READS IS OF BULK AT MOST 1048576: true; the input reads as it did. -/
def dequeRowsUptoRow : OpenClaim := { program := "ytefoieloakfhfaa", sum := "9c1f75cb954ec2f6f367badd9a26a03eb157b20428fb87521485eb90ad95291d", func := "pantry/pantrylaw07.DequeRows", spec := "dequeRows", inPlace := ["slices.overlaps[*pantry/deque.chunk]"], unfollowed := true, recurses := true, apart := false, narrowed := true }
def DequeRowsUptoSaid : Prop := dequeRowsUptoRow.holds Try.pinned (OpenSpec.upto dequeRowsSpec)

/-- 'pantrylaw07.DequeKnown', WHERE WHAT IT READS IS OF BULK AT MOST 1048576: true; the input reads as it did. -/
def dequeKnownUptoRow : OpenClaim := { program := "ytefoieloakfhfaa", sum := "9c1f75cb954ec2f6f367badd9a26a03eb157b20428fb87521485eb90ad95291d", func := "pantry/pantrylaw07.DequeKnown", spec := "dequeKnown", inPlace := ["slices.overlaps[*pantry/deque.chunk]"], unfollowed := true, recurses := true, apart := false, narrowed := true }
def DequeKnownUptoSaid : Prop := dequeKnownUptoRow.holds Try.pinned (OpenSpec.upto dequeKnownSpec)

/-- 'pantrylaw07.DequePlays', WHERE WHAT IT READS IS OF BULK AT MOST 1048576: true; the input reads as it did. -/
def dequePlaysUptoRow : OpenClaim := { program := "ytefoieloakfhfaa", sum := "9c1f75cb954ec2f6f367badd9a26a03eb157b20428fb87521485eb90ad95291d", func := "pantry/pantrylaw07.DequePlays", spec := "dequePlays", inPlace := ["slices.overlaps[*pantry/deque.chunk]"], unfollowed := true, recurses := true, apart := false, narrowed := true }
def DequePlaysUptoSaid : Prop := dequePlaysUptoRow.holds Try.pinned (OpenSpec.upto dequePlaysSpec)

/-- 'pantrylaw07.DequeGoes', WHERE WHAT IT READS IS OF BULK AT MOST 1048576: true; the input reads as it did. -/
def dequeGoesUptoRow : OpenClaim := { program := "ytefoieloakfhfaa", sum := "9c1f75cb954ec2f6f367badd9a26a03eb157b20428fb87521485eb90ad95291d", func := "pantry/pantrylaw07.DequeGoes", spec := "dequeGoes", inPlace := ["slices.overlaps[*pantry/deque.chunk]"], unfollowed := true, recurses := true, apart := false, narrowed := true }
def DequeGoesUptoSaid : Prop := dequeGoesUptoRow.holds Try.pinned (OpenSpec.upto dequeGoesSpec)

end Rows
end Go.Proofs.Ytefoieloakfhfaa
