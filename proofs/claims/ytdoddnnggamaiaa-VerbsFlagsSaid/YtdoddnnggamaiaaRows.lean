/-
  No cell of these rows narrows 'for every input' (looked for: loops, veiled, ifaces, maps, wideKeys, modest, calm, conditions, laid).
  DERIVED. THE GIVEN ROWS OF THIS SEAT. 8 by the template 'for every input the law returns true; each argument reads behind the call as it read before'; 0 by the template 'total and deterministic' (their statements: YtdoddnnggamaiaaTotals.lean).
  GIVEN WITH THE SEED: the statements are not yours to turn. If you find one false, say at which input.
  Laid BY PROGRAM, IN A SANDBOX (cutbox-rows.mjs): the forced cells as the released guide's own fill.sh prints them over the translation e28bf7e6d781dfb5… (all of the seat's roots in one cut). By AI agents, Wed Nov 11 2026. No macro, syntax, notation, axiom, sorry.
-/
import Derived.Test.YtdoddnnggamaiaaChecked
import GoSem.Claim
import GoSem.ClaimJoined
import GoSem.ClaimMapViews
import Derived.JoinedTies
import Derived.KernelRfl
namespace Go.Proofs.Ytdoddnnggamaiaa
/- THE CELL 'sum', in the pinned program and in every row, IS THE sha256 OF THE DUMP (.gsa) THAT YtdoddnnggamaiaaProg.lean LOADS. Nothing in Lean hashes anything: it is a label: what it is worth is what the hold of that sum in a sandbox is worth. -/
noncomputable def Try.pinned : Pinned := { name := "ytdoddnnggamaiaa", sum := "e28bf7e6d781dfb5dc1848c1371f2622c3ee5e005133567526fed297312f466c", checked := Try.checked }
namespace Rows
def none {H : Type} : Left H := { results := [], args := [] }

/-- 'pantrylaw29.SnapshotSums': WHATEVER THE INPUT: true; the input reads as it did. -/
def snapshotSumsSpec : ChangeSpec := { name := "snapshotSums", fn := fun _ => fun
  | [d] => { results := [.lit (.bool true)], args := [d] }
  | _ => none }
def snapshotSumsRow : OpenClaim := { program := "ytdoddnnggamaiaa", sum := "e28bf7e6d781dfb5dc1848c1371f2622c3ee5e005133567526fed297312f466c", func := "pantry/pantrylaw29.SnapshotSums", spec := "snapshotSums", apart := false }
def SnapshotSumsSaid : Prop := snapshotSumsRow.holds Try.pinned (OpenSpec.ofChange snapshotSumsSpec)

/-- ITS FALSE NEIGHBOUR: 'it returns false'. Refute it at one input. -/
def snapshotSumsWrong : ChangeSpec := { name := "snapshotSums", fn := fun _ => fun
  | [d] => { results := [.lit (.bool false)], args := [d] }
  | _ => none }
def SnapshotSumsWrongFalsely : Prop := snapshotSumsRow.holds Try.pinned (OpenSpec.ofChange snapshotSumsWrong)

/-- 'pantrylaw18.VerbsFinds': WHATEVER THE INPUT: true; the input reads as it did. -/
def verbsFindsSpec : ChangeSpec := { name := "verbsFinds", fn := fun _ => fun
  | [d] => { results := [.lit (.bool true)], args := [d] }
  | _ => none }
def verbsFindsRow : OpenClaim := { program := "ytdoddnnggamaiaa", sum := "e28bf7e6d781dfb5dc1848c1371f2622c3ee5e005133567526fed297312f466c", func := "pantry/pantrylaw18.VerbsFinds", spec := "verbsFinds", inPlace := ["internal/bytealg.abigen_runtime_cmpstring"], unfollowed := true, recurses := true, apart := false }
def VerbsFindsSaid : Prop := verbsFindsRow.holds Try.pinned (OpenSpec.ofChange verbsFindsSpec)

/-- ITS FALSE NEIGHBOUR: 'it returns false'. Refute it at one input. -/
def verbsFindsWrong : ChangeSpec := { name := "verbsFinds", fn := fun _ => fun
  | [d] => { results := [.lit (.bool false)], args := [d] }
  | _ => none }
def VerbsFindsWrongFalsely : Prop := verbsFindsRow.holds Try.pinned (OpenSpec.ofChange verbsFindsWrong)

/-- 'pantrylaw18.VerbsNames': WHATEVER THE INPUT: true; the input reads as it did. -/
def verbsNamesSpec : ChangeSpec := { name := "verbsNames", fn := fun _ => fun
  | [] => { results := [.lit (.bool true)], args := [] }
  | _ => none }
def verbsNamesRow : OpenClaim := { program := "ytdoddnnggamaiaa", sum := "e28bf7e6d781dfb5dc1848c1371f2622c3ee5e005133567526fed297312f466c", func := "pantry/pantrylaw18.VerbsNames", spec := "verbsNames", inPlace := ["internal/bytealg.abigen_runtime_cmpstring"], unfollowed := true, recurses := true, apart := false }
def VerbsNamesSaid : Prop := verbsNamesRow.holds Try.pinned (OpenSpec.ofChange verbsNamesSpec)

/-- ITS FALSE NEIGHBOUR: 'it returns false'. Refute it at one input. -/
def verbsNamesWrong : ChangeSpec := { name := "verbsNames", fn := fun _ => fun
  | [] => { results := [.lit (.bool false)], args := [] }
  | _ => none }
def VerbsNamesWrongFalsely : Prop := verbsNamesRow.holds Try.pinned (OpenSpec.ofChange verbsNamesWrong)

/-- 'pantrylaw18.VerbsChecks': WHATEVER THE INPUT: true; the input reads as it did. -/
def verbsChecksSpec : ChangeSpec := { name := "verbsChecks", fn := fun _ => fun
  | [d] => { results := [.lit (.bool true)], args := [d] }
  | _ => none }
def verbsChecksRow : OpenClaim := { program := "ytdoddnnggamaiaa", sum := "e28bf7e6d781dfb5dc1848c1371f2622c3ee5e005133567526fed297312f466c", func := "pantry/pantrylaw18.VerbsChecks", spec := "verbsChecks", inPlace := ["internal/bytealg.abigen_runtime_cmpstring"], unfollowed := true, recurses := true, apart := false }
def VerbsChecksSaid : Prop := verbsChecksRow.holds Try.pinned (OpenSpec.ofChange verbsChecksSpec)

/-- ITS FALSE NEIGHBOUR: 'it returns false'. Refute it at one input. -/
def verbsChecksWrong : ChangeSpec := { name := "verbsChecks", fn := fun _ => fun
  | [d] => { results := [.lit (.bool false)], args := [d] }
  | _ => none }
def VerbsChecksWrongFalsely : Prop := verbsChecksRow.holds Try.pinned (OpenSpec.ofChange verbsChecksWrong)

/-- 'pantrylaw18.VerbsCapitals': WHATEVER THE INPUT: true; the input reads as it did. -/
def verbsCapitalsSpec : ChangeSpec := { name := "verbsCapitals", fn := fun _ => fun
  | [d1, d2, d3] => { results := [.lit (.bool true)], args := [d1, d2, d3] }
  | _ => none }
def verbsCapitalsRow : OpenClaim := { program := "ytdoddnnggamaiaa", sum := "e28bf7e6d781dfb5dc1848c1371f2622c3ee5e005133567526fed297312f466c", func := "pantry/pantrylaw18.VerbsCapitals", spec := "verbsCapitals", inPlace := ["internal/bytealg.abigen_runtime_cmpstring"], unfollowed := true, recurses := true, apart := false }
def VerbsCapitalsSaid : Prop := verbsCapitalsRow.holds Try.pinned (OpenSpec.ofChange verbsCapitalsSpec)

/-- ITS FALSE NEIGHBOUR: 'it returns false'. Refute it at one input. -/
def verbsCapitalsWrong : ChangeSpec := { name := "verbsCapitals", fn := fun _ => fun
  | [d1, d2, d3] => { results := [.lit (.bool false)], args := [d1, d2, d3] }
  | _ => none }
def VerbsCapitalsWrongFalsely : Prop := verbsCapitalsRow.holds Try.pinned (OpenSpec.ofChange verbsCapitalsWrong)

/-- 'pantrylaw18.VerbsPlaces': WHATEVER THE INPUT: true; the input reads as it did. -/
def verbsPlacesSpec : ChangeSpec := { name := "verbsPlaces", fn := fun _ => fun
  | [d] => { results := [.lit (.bool true)], args := [d] }
  | _ => none }
def verbsPlacesRow : OpenClaim := { program := "ytdoddnnggamaiaa", sum := "e28bf7e6d781dfb5dc1848c1371f2622c3ee5e005133567526fed297312f466c", func := "pantry/pantrylaw18.VerbsPlaces", spec := "verbsPlaces", inPlace := ["internal/bytealg.abigen_runtime_cmpstring"], unfollowed := true, recurses := true, apart := false }
def VerbsPlacesSaid : Prop := verbsPlacesRow.holds Try.pinned (OpenSpec.ofChange verbsPlacesSpec)

/-- ITS FALSE NEIGHBOUR: 'it returns false'. Refute it at one input. -/
def verbsPlacesWrong : ChangeSpec := { name := "verbsPlaces", fn := fun _ => fun
  | [d] => { results := [.lit (.bool false)], args := [d] }
  | _ => none }
def VerbsPlacesWrongFalsely : Prop := verbsPlacesRow.holds Try.pinned (OpenSpec.ofChange verbsPlacesWrong)

/-- 'pantrylaw18.VerbsLong': WHATEVER THE INPUT: true; the input reads as it did. -/
def verbsLongSpec : ChangeSpec := { name := "verbsLong", fn := fun _ => fun
  | [d1, d2] => { results := [.lit (.bool true)], args := [d1, d2] }
  | _ => none }
def verbsLongRow : OpenClaim := { program := "ytdoddnnggamaiaa", sum := "e28bf7e6d781dfb5dc1848c1371f2622c3ee5e005133567526fed297312f466c", func := "pantry/pantrylaw18.VerbsLong", spec := "verbsLong", inPlace := ["internal/bytealg.abigen_runtime_cmpstring"], unfollowed := true, recurses := true, apart := false }
def VerbsLongSaid : Prop := verbsLongRow.holds Try.pinned (OpenSpec.ofChange verbsLongSpec)

/-- ITS FALSE NEIGHBOUR: 'it returns false'. Refute it at one input. -/
def verbsLongWrong : ChangeSpec := { name := "verbsLong", fn := fun _ => fun
  | [d1, d2] => { results := [.lit (.bool false)], args := [d1, d2] }
  | _ => none }
def VerbsLongWrongFalsely : Prop := verbsLongRow.holds Try.pinned (OpenSpec.ofChange verbsLongWrong)

/-- 'pantrylaw18.VerbsFlags': WHATEVER THE INPUT: true; the input reads as it did. -/
def verbsFlagsSpec : ChangeSpec := { name := "verbsFlags", fn := fun _ => fun
  | [] => { results := [.lit (.bool true)], args := [] }
  | _ => none }
def verbsFlagsRow : OpenClaim := { program := "ytdoddnnggamaiaa", sum := "e28bf7e6d781dfb5dc1848c1371f2622c3ee5e005133567526fed297312f466c", func := "pantry/pantrylaw18.VerbsFlags", spec := "verbsFlags", inPlace := ["internal/bytealg.abigen_runtime_cmpstring"], unfollowed := true, recurses := true, apart := false }
def VerbsFlagsSaid : Prop := verbsFlagsRow.holds Try.pinned (OpenSpec.ofChange verbsFlagsSpec)

/-- ITS FALSE NEIGHBOUR: 'it returns false'. Refute it at one input. -/
def verbsFlagsWrong : ChangeSpec := { name := "verbsFlags", fn := fun _ => fun
  | [] => { results := [.lit (.bool false)], args := [] }
  | _ => none }
def VerbsFlagsWrongFalsely : Prop := verbsFlagsRow.holds Try.pinned (OpenSpec.ofChange verbsFlagsWrong)

/- THE SECOND FORM. 'bulk': how many values and letters a reading holds, each counted each time it is reached (what is shared counts as often as it is met; a slice's spare places count too). A statement '..UptoSaid' is the law's where the arguments, and the package variables that the reading takes, are together of bulk at most 1048576: NARROWER than '..Said'. Prove '..Said' where nothing that the law and all that it calls make is longer than what came in: it says more and counts as full. Else prove '..UptoSaid'. A law counts once. -/
mutual
def uptoBulk {H : Type} : DataW H → Nat
  | .lit (.string bytes) => bytes.length + 1
  | .lit _ => 1
  | .nil => 1
  | .ptr d => uptoBulk d + 1
  | .slice elems spare => uptoBulkAll elems + uptoBulkAll spare + 1
  | .agg parts => uptoBulkAll parts + 1
  | .iface _ d => uptoBulk d + 1
  | .map entries => uptoBulkEntries entries + 1
  | .held _ => 1
def uptoBulkAll {H : Type} : List (DataW H) → Nat
  | [] => 0
  | d :: r => uptoBulk d + uptoBulkAll r
def uptoBulkEntries {H : Type} : List (Lit × DataW H) → Nat
  | [] => 0
  | x :: r => uptoBulkEntry x + uptoBulkEntries r
def uptoBulkEntry {H : Type} : Lit × DataW H → Nat
  | (.string bytes, d) => bytes.length + uptoBulk d + 1
  | (_, d) => uptoBulk d + 1
 end
def uptoSmall : (H : Type) → List (DataW H) → Bool := fun _ ds => decide (uptoBulkAll ds ≤ 1048576)
def OpenSpec.upto (s : _root_.Go.ChangeSpec) : _root_.Go.OpenSpec := { _root_.Go.OpenSpec.ofChange s with cond := some uptoSmall }

/-- 'pantrylaw29.SnapshotSums', WHERE WHAT IT READS IS OF BULK AT MOST 1048576: true; the input reads as it did. -/
def snapshotSumsUptoRow : OpenClaim := { program := "ytdoddnnggamaiaa", sum := "e28bf7e6d781dfb5dc1848c1371f2622c3ee5e005133567526fed297312f466c", func := "pantry/pantrylaw29.SnapshotSums", spec := "snapshotSums", apart := false, narrowed := true }
def SnapshotSumsUptoSaid : Prop := snapshotSumsUptoRow.holds Try.pinned (OpenSpec.upto snapshotSumsSpec)

/-- 'pantrylaw18.VerbsFinds', WHERE WHAT IT READS IS OF BULK AT MOST 1048576: true; the input reads as it did. -/
def verbsFindsUptoRow : OpenClaim := { program := "ytdoddnnggamaiaa", sum := "e28bf7e6d781dfb5dc1848c1371f2622c3ee5e005133567526fed297312f466c", func := "pantry/pantrylaw18.VerbsFinds", spec := "verbsFinds", inPlace := ["internal/bytealg.abigen_runtime_cmpstring"], unfollowed := true, recurses := true, apart := false, narrowed := true }
def VerbsFindsUptoSaid : Prop := verbsFindsUptoRow.holds Try.pinned (OpenSpec.upto verbsFindsSpec)

/-- 'pantrylaw18.VerbsNames', WHERE WHAT IT READS IS OF BULK AT MOST 1048576: true; the input reads as it did. -/
def verbsNamesUptoRow : OpenClaim := { program := "ytdoddnnggamaiaa", sum := "e28bf7e6d781dfb5dc1848c1371f2622c3ee5e005133567526fed297312f466c", func := "pantry/pantrylaw18.VerbsNames", spec := "verbsNames", inPlace := ["internal/bytealg.abigen_runtime_cmpstring"], unfollowed := true, recurses := true, apart := false, narrowed := true }
def VerbsNamesUptoSaid : Prop := verbsNamesUptoRow.holds Try.pinned (OpenSpec.upto verbsNamesSpec)

/-- 'pantrylaw18.VerbsChecks', WHERE WHAT IT READS IS OF BULK AT MOST 1048576: true; the input reads as it did. -/
def verbsChecksUptoRow : OpenClaim := { program := "ytdoddnnggamaiaa", sum := "e28bf7e6d781dfb5dc1848c1371f2622c3ee5e005133567526fed297312f466c", func := "pantry/pantrylaw18.VerbsChecks", spec := "verbsChecks", inPlace := ["internal/bytealg.abigen_runtime_cmpstring"], unfollowed := true, recurses := true, apart := false, narrowed := true }
def VerbsChecksUptoSaid : Prop := verbsChecksUptoRow.holds Try.pinned (OpenSpec.upto verbsChecksSpec)

/-- 'pantrylaw18.VerbsCapitals', WHERE WHAT IT READS IS OF BULK AT MOST 1048576: true; the input reads as it did. -/
def verbsCapitalsUptoRow : OpenClaim := { program := "ytdoddnnggamaiaa", sum := "e28bf7e6d781dfb5dc1848c1371f2622c3ee5e005133567526fed297312f466c", func := "pantry/pantrylaw18.VerbsCapitals", spec := "verbsCapitals", inPlace := ["internal/bytealg.abigen_runtime_cmpstring"], unfollowed := true, recurses := true, apart := false, narrowed := true }
def VerbsCapitalsUptoSaid : Prop := verbsCapitalsUptoRow.holds Try.pinned (OpenSpec.upto verbsCapitalsSpec)

/-- 'pantrylaw18.VerbsPlaces', WHERE WHAT IT READS IS OF BULK AT MOST 1048576: true; the input reads as it did. -/
def verbsPlacesUptoRow : OpenClaim := { program := "ytdoddnnggamaiaa", sum := "e28bf7e6d781dfb5dc1848c1371f2622c3ee5e005133567526fed297312f466c", func := "pantry/pantrylaw18.VerbsPlaces", spec := "verbsPlaces", inPlace := ["internal/bytealg.abigen_runtime_cmpstring"], unfollowed := true, recurses := true, apart := false, narrowed := true }
def VerbsPlacesUptoSaid : Prop := verbsPlacesUptoRow.holds Try.pinned (OpenSpec.upto verbsPlacesSpec)

/-- 'pantrylaw18.VerbsLong', WHERE WHAT IT READS IS OF BULK AT MOST 1048576: true; the input reads as it did. -/
def verbsLongUptoRow : OpenClaim := { program := "ytdoddnnggamaiaa", sum := "e28bf7e6d781dfb5dc1848c1371f2622c3ee5e005133567526fed297312f466c", func := "pantry/pantrylaw18.VerbsLong", spec := "verbsLong", inPlace := ["internal/bytealg.abigen_runtime_cmpstring"], unfollowed := true, recurses := true, apart := false, narrowed := true }
def VerbsLongUptoSaid : Prop := verbsLongUptoRow.holds Try.pinned (OpenSpec.upto verbsLongSpec)

/-- 'pantrylaw18.VerbsFlags', WHERE WHAT IT READS IS OF BULK AT MOST 1048576: true; the input reads as it did. -/
def verbsFlagsUptoRow : OpenClaim := { program := "ytdoddnnggamaiaa", sum := "e28bf7e6d781dfb5dc1848c1371f2622c3ee5e005133567526fed297312f466c", func := "pantry/pantrylaw18.VerbsFlags", spec := "verbsFlags", inPlace := ["internal/bytealg.abigen_runtime_cmpstring"], unfollowed := true, recurses := true, apart := false, narrowed := true }
def VerbsFlagsUptoSaid : Prop := verbsFlagsUptoRow.holds Try.pinned (OpenSpec.upto verbsFlagsSpec)

end Rows
end Go.Proofs.Ytdoddnnggamaiaa
