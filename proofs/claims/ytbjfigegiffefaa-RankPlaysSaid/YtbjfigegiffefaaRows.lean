/-
  No cell of these rows narrows 'for every input' (looked for: loops, veiled, ifaces, maps, wideKeys, modest, calm, conditions, laid).
  DERIVED. THE GIVEN ROWS OF THIS SEAT. 7 by the template 'for every input the law returns true; each argument reads behind the call as it read before'; 0 by the template 'total and deterministic' (their statements: YtbjfigegiffefaaTotals.lean).
  GIVEN WITH THE SEED: the statements are not yours to turn. If you find one false, say at which input.
  Laid BY PROGRAM, IN A SANDBOX (cutbox-rows.mjs): the forced cells as the released guide's own fill.sh prints them over the translation 95275f91a2e309c5… (all of the seat's roots in one cut). By AI agents, Wed Nov 11 2026. No macro, syntax, notation, axiom, sorry.
-/
import Derived.Test.YtbjfigegiffefaaChecked
import GoSem.Claim
import GoSem.ClaimJoined
import GoSem.ClaimMapViews
import Derived.JoinedTies
import Derived.KernelRfl
namespace Go.Proofs.Ytbjfigegiffefaa
/- THE CELL 'sum', in the pinned program and in every row, IS THE sha256 OF THE DUMP (.gsa) THAT YtbjfigegiffefaaProg.lean LOADS. Nothing in Lean hashes anything: it is a label: what it is worth is what the hold of that sum in a sandbox is worth. -/
noncomputable def Try.pinned : Pinned := { name := "ytbjfigegiffefaa", sum := "95275f91a2e309c5dec8de05edb10b2dacb22b8a863f2ad20089c4a85fd0ba0e", checked := Try.checked }
namespace Rows
def none {H : Type} : Left H := { results := [], args := [] }

/-- 'pantrylaw11.RankOrders': WHATEVER THE INPUT: true; the input reads as it did. -/
def rankOrdersSpec : ChangeSpec := { name := "rankOrders", fn := fun _ => fun
  | [d1, d2] => { results := [.lit (.bool true)], args := [d1, d2] }
  | _ => none }
def rankOrdersRow : OpenClaim := { program := "ytbjfigegiffefaa", sum := "95275f91a2e309c5dec8de05edb10b2dacb22b8a863f2ad20089c4a85fd0ba0e", func := "pantry/pantrylaw11.RankOrders", spec := "rankOrders", inPlace := ["internal/bytealg.abigen_runtime_cmpstring", "slices.overlaps[pantry/api.Ranked]", "math.Float64frombits", "math.Float64bits"], unfollowed := true, recurses := true, apart := false }
def RankOrdersSaid : Prop := rankOrdersRow.holds Try.pinned (OpenSpec.ofChange rankOrdersSpec)

/-- ITS FALSE NEIGHBOUR: 'it returns false'. Refute it at one input. -/
def rankOrdersWrong : ChangeSpec := { name := "rankOrders", fn := fun _ => fun
  | [d1, d2] => { results := [.lit (.bool false)], args := [d1, d2] }
  | _ => none }
def RankOrdersWrongFalsely : Prop := rankOrdersRow.holds Try.pinned (OpenSpec.ofChange rankOrdersWrong)

/-- 'pantrylaw11.RankAnyWay': WHATEVER THE INPUT: true; the input reads as it did. -/
def rankAnyWaySpec : ChangeSpec := { name := "rankAnyWay", fn := fun _ => fun
  | [d1, d2, d3] => { results := [.lit (.bool true)], args := [d1, d2, d3] }
  | _ => none }
def rankAnyWayRow : OpenClaim := { program := "ytbjfigegiffefaa", sum := "95275f91a2e309c5dec8de05edb10b2dacb22b8a863f2ad20089c4a85fd0ba0e", func := "pantry/pantrylaw11.RankAnyWay", spec := "rankAnyWay", inPlace := ["internal/bytealg.abigen_runtime_cmpstring", "slices.overlaps[pantry/api.Ranked]", "math.Float64frombits", "math.Float64bits"], unfollowed := true, recurses := true, apart := false }
def RankAnyWaySaid : Prop := rankAnyWayRow.holds Try.pinned (OpenSpec.ofChange rankAnyWaySpec)

/-- ITS FALSE NEIGHBOUR: 'it returns false'. Refute it at one input. -/
def rankAnyWayWrong : ChangeSpec := { name := "rankAnyWay", fn := fun _ => fun
  | [d1, d2, d3] => { results := [.lit (.bool false)], args := [d1, d2, d3] }
  | _ => none }
def RankAnyWayWrongFalsely : Prop := rankAnyWayRow.holds Try.pinned (OpenSpec.ofChange rankAnyWayWrong)

/-- 'pantrylaw11.RankCopies': WHATEVER THE INPUT: true; the input reads as it did. -/
def rankCopiesSpec : ChangeSpec := { name := "rankCopies", fn := fun _ => fun
  | [d1, d2, d3] => { results := [.lit (.bool true)], args := [d1, d2, d3] }
  | _ => none }
def rankCopiesRow : OpenClaim := { program := "ytbjfigegiffefaa", sum := "95275f91a2e309c5dec8de05edb10b2dacb22b8a863f2ad20089c4a85fd0ba0e", func := "pantry/pantrylaw11.RankCopies", spec := "rankCopies", inPlace := ["internal/bytealg.abigen_runtime_cmpstring", "slices.overlaps[pantry/api.Ranked]", "math.Float64frombits", "math.Float64bits"], unfollowed := true, recurses := true, apart := false }
def RankCopiesSaid : Prop := rankCopiesRow.holds Try.pinned (OpenSpec.ofChange rankCopiesSpec)

/-- ITS FALSE NEIGHBOUR: 'it returns false'. Refute it at one input. -/
def rankCopiesWrong : ChangeSpec := { name := "rankCopies", fn := fun _ => fun
  | [d1, d2, d3] => { results := [.lit (.bool false)], args := [d1, d2, d3] }
  | _ => none }
def RankCopiesWrongFalsely : Prop := rankCopiesRow.holds Try.pinned (OpenSpec.ofChange rankCopiesWrong)

/-- 'pantrylaw11.RankStretches': WHATEVER THE INPUT: true; the input reads as it did. -/
def rankStretchesSpec : ChangeSpec := { name := "rankStretches", fn := fun _ => fun
  | [d1, d2, d3, d4, d5, d6] => { results := [.lit (.bool true)], args := [d1, d2, d3, d4, d5, d6] }
  | _ => none }
def rankStretchesRow : OpenClaim := { program := "ytbjfigegiffefaa", sum := "95275f91a2e309c5dec8de05edb10b2dacb22b8a863f2ad20089c4a85fd0ba0e", func := "pantry/pantrylaw11.RankStretches", spec := "rankStretches", inPlace := ["internal/bytealg.abigen_runtime_cmpstring", "slices.overlaps[pantry/api.Ranked]", "math.Float64frombits"], unfollowed := true, recurses := true, apart := false }
def RankStretchesSaid : Prop := rankStretchesRow.holds Try.pinned (OpenSpec.ofChange rankStretchesSpec)

/-- ITS FALSE NEIGHBOUR: 'it returns false'. Refute it at one input. -/
def rankStretchesWrong : ChangeSpec := { name := "rankStretches", fn := fun _ => fun
  | [d1, d2, d3, d4, d5, d6] => { results := [.lit (.bool false)], args := [d1, d2, d3, d4, d5, d6] }
  | _ => none }
def RankStretchesWrongFalsely : Prop := rankStretchesRow.holds Try.pinned (OpenSpec.ofChange rankStretchesWrong)

/-- 'pantrylaw11.RankKnown': WHATEVER THE INPUT: true; the input reads as it did. -/
def rankKnownSpec : ChangeSpec := { name := "rankKnown", fn := fun _ => fun
  | [] => { results := [.lit (.bool true)], args := [] }
  | _ => none }
def rankKnownRow : OpenClaim := { program := "ytbjfigegiffefaa", sum := "95275f91a2e309c5dec8de05edb10b2dacb22b8a863f2ad20089c4a85fd0ba0e", func := "pantry/pantrylaw11.RankKnown", spec := "rankKnown", inPlace := ["internal/bytealg.abigen_runtime_cmpstring", "slices.overlaps[pantry/api.Ranked]", "math.Float64frombits", "math.Float64bits"], unfollowed := true, recurses := true, apart := false }
def RankKnownSaid : Prop := rankKnownRow.holds Try.pinned (OpenSpec.ofChange rankKnownSpec)

/-- ITS FALSE NEIGHBOUR: 'it returns false'. Refute it at one input. -/
def rankKnownWrong : ChangeSpec := { name := "rankKnown", fn := fun _ => fun
  | [] => { results := [.lit (.bool false)], args := [] }
  | _ => none }
def RankKnownWrongFalsely : Prop := rankKnownRow.holds Try.pinned (OpenSpec.ofChange rankKnownWrong)

/-- 'pantrylaw11.RankPlays': WHATEVER THE INPUT: true; the input reads as it did. -/
def rankPlaysSpec : ChangeSpec := { name := "rankPlays", fn := fun _ => fun
  | [d1, d2] => { results := [.lit (.bool true)], args := [d1, d2] }
  | _ => none }
def rankPlaysRow : OpenClaim := { program := "ytbjfigegiffefaa", sum := "95275f91a2e309c5dec8de05edb10b2dacb22b8a863f2ad20089c4a85fd0ba0e", func := "pantry/pantrylaw11.RankPlays", spec := "rankPlays", inPlace := ["math.Float64frombits", "internal/bytealg.abigen_runtime_cmpstring", "slices.overlaps[pantry/api.Ranked]", "math.Float64bits"], unfollowed := true, recurses := true, apart := false }
def RankPlaysSaid : Prop := rankPlaysRow.holds Try.pinned (OpenSpec.ofChange rankPlaysSpec)

/-- ITS FALSE NEIGHBOUR: 'it returns false'. Refute it at one input. -/
def rankPlaysWrong : ChangeSpec := { name := "rankPlays", fn := fun _ => fun
  | [d1, d2] => { results := [.lit (.bool false)], args := [d1, d2] }
  | _ => none }
def RankPlaysWrongFalsely : Prop := rankPlaysRow.holds Try.pinned (OpenSpec.ofChange rankPlaysWrong)

/-- 'pantrylaw11.RankNone': WHATEVER THE INPUT: true; the input reads as it did. -/
def rankNoneSpec : ChangeSpec := { name := "rankNone", fn := fun _ => fun
  | [] => { results := [.lit (.bool true)], args := [] }
  | _ => none }
def rankNoneRow : OpenClaim := { program := "ytbjfigegiffefaa", sum := "95275f91a2e309c5dec8de05edb10b2dacb22b8a863f2ad20089c4a85fd0ba0e", func := "pantry/pantrylaw11.RankNone", spec := "rankNone", inPlace := ["internal/bytealg.abigen_runtime_cmpstring", "slices.overlaps[pantry/api.Ranked]", "math.Float64frombits", "math.Float64bits"], unfollowed := true, recurses := true, apart := false }
def RankNoneSaid : Prop := rankNoneRow.holds Try.pinned (OpenSpec.ofChange rankNoneSpec)

/-- ITS FALSE NEIGHBOUR: 'it returns false'. Refute it at one input. -/
def rankNoneWrong : ChangeSpec := { name := "rankNone", fn := fun _ => fun
  | [] => { results := [.lit (.bool false)], args := [] }
  | _ => none }
def RankNoneWrongFalsely : Prop := rankNoneRow.holds Try.pinned (OpenSpec.ofChange rankNoneWrong)

/- THE SECOND FORM. 'bulk': how many values and letters a reading holds, each counted each time it is reached (what is shared counts as often as it is met; a slice's spare places count too). A statement '..UptoSaid' is the law's where the arguments, and the package variables that the reading takes, are together of bulk at most 1048576: NARROWER than '..Said'. Prove '..Said' where nothing that the law and all that it calls make is longer than what came in: it says more and counts as full. Else prove '..UptoSaid'. A law counts once. -/
mutual
def uptoBulk {H : Type} : DataW H → Nat
  | .lit (.string bytes) => bytes.length + 1
  | .lit _ => 1
  | .nil => 1
  | .ptr d => uptoBulk d + 1
  | .slice elems spare => uptoBulkAll elems + uptoBulkAll spare + 1
  | .agg parts => uptoBulkAll parts + 1
  | .iface _ d => uptoBulk d + 1
  | .map entries => uptoBulkEntries entries + 1
  | .held _ => 1
def uptoBulkAll {H : Type} : List (DataW H) → Nat
  | [] => 0
  | d :: r => uptoBulk d + uptoBulkAll r
def uptoBulkEntries {H : Type} : List (Lit × DataW H) → Nat
  | [] => 0
  | x :: r => uptoBulkEntry x + uptoBulkEntries r
def uptoBulkEntry {H : Type} : Lit × DataW H → Nat
  | (.string bytes, d) => bytes.length + uptoBulk d + 1
  | (_, d) => uptoBulk d + 1
 end
def uptoSmall : (H : Type) → List (DataW H) → Bool := fun _ ds => decide (uptoBulkAll ds ≤ 1048576)
def OpenSpec.upto (s : _root_.Go.ChangeSpec) : _root_.Go.OpenSpec := { _root_.Go.OpenSpec.ofChange s with cond := some uptoSmall }

/-- 'pantrylaw11.RankOrders', WHERE WHAT IT READS IS OF BULK AT MOST 1048576: true; the input reads as it did. -/
def rankOrdersUptoRow : OpenClaim := { program := "ytbjfigegiffefaa", sum := "95275f91a2e309c5dec8de05edb10b2dacb22b8a863f2ad20089c4a85fd0ba0e", func := "pantry/pantrylaw11.RankOrders", spec := "rankOrders", inPlace := ["internal/bytealg.abigen_runtime_cmpstring", "slices.overlaps[pantry/api.Ranked]", "math.Float64frombits", "math.Float64bits"], unfollowed := true, recurses := true, apart := false, narrowed := true }
def RankOrdersUptoSaid : Prop := rankOrdersUptoRow.holds Try.pinned (OpenSpec.upto rankOrdersSpec)

/-- 'pantrylaw11.RankAnyWay', WHERE WHAT IT READS IS OF BULK AT MOST 1048576: true; the input reads as it did. -/
def rankAnyWayUptoRow : OpenClaim := { program := "ytbjfigegiffefaa", sum := "95275f91a2e309c5dec8de05edb10b2dacb22b8a863f2ad20089c4a85fd0ba0e", func := "pantry/pantrylaw11.RankAnyWay", spec := "rankAnyWay", inPlace := ["internal/bytealg.abigen_runtime_cmpstring", "slices.overlaps[pantry/api.Ranked]", "math.Float64frombits", "math.Float64bits"], unfollowed := true, recurses := true, apart := false, narrowed := true }
def RankAnyWayUptoSaid : Prop := rankAnyWayUptoRow.holds Try.pinned (OpenSpec.upto rankAnyWaySpec)

/-- 'pantrylaw11.RankCopies', WHERE WHAT IT READS IS OF BULK AT MOST 1048576: true; the input reads as it did. -/
def rankCopiesUptoRow : OpenClaim := { program := "ytbjfigegiffefaa", sum := "95275f91a2e309c5dec8de05edb10b2dacb22b8a863f2ad20089c4a85fd0ba0e", func := "pantry/pantrylaw11.RankCopies", spec := "rankCopies", inPlace := ["internal/bytealg.abigen_runtime_cmpstring", "slices.overlaps[pantry/api.Ranked]", "math.Float64frombits", "math.Float64bits"], unfollowed := true, recurses := true, apart := false, narrowed := true }
def RankCopiesUptoSaid : Prop := rankCopiesUptoRow.holds Try.pinned (OpenSpec.upto rankCopiesSpec)

/-- 'pantrylaw11.RankStretches', WHERE WHAT IT READS IS OF BULK AT MOST 1048576: true; the input reads as it did. -/
def rankStretchesUptoRow : OpenClaim := { program := "ytbjfigegiffefaa", sum := "95275f91a2e309c5dec8de05edb10b2dacb22b8a863f2ad20089c4a85fd0ba0e", func := "pantry/pantrylaw11.RankStretches", spec := "rankStretches", inPlace := ["internal/bytealg.abigen_runtime_cmpstring", "slices.overlaps[pantry/api.Ranked]", "math.Float64frombits"], unfollowed := true, recurses := true, apart := false, narrowed := true }
def RankStretchesUptoSaid : Prop := rankStretchesUptoRow.holds Try.pinned (OpenSpec.upto rankStretchesSpec)

/-- 'pantrylaw11.RankKnown', WHERE WHAT IT READS IS OF BULK AT MOST 1048576: true; the input reads as it did. -/
def rankKnownUptoRow : OpenClaim := { program := "ytbjfigegiffefaa", sum := "95275f91a2e309c5dec8de05edb10b2dacb22b8a863f2ad20089c4a85fd0ba0e", func := "pantry/pantrylaw11.RankKnown", spec := "rankKnown", inPlace := ["internal/bytealg.abigen_runtime_cmpstring", "slices.overlaps[pantry/api.Ranked]", "math.Float64frombits", "math.Float64bits"], unfollowed := true, recurses := true, apart := false, narrowed := true }
def RankKnownUptoSaid : Prop := rankKnownUptoRow.holds Try.pinned (OpenSpec.upto rankKnownSpec)

/-- 'pantrylaw11.RankPlays', WHERE WHAT IT READS IS OF BULK AT MOST 1048576: true; the input reads as it did. -/
def rankPlaysUptoRow : OpenClaim := { program := "ytbjfigegiffefaa", sum := "95275f91a2e309c5dec8de05edb10b2dacb22b8a863f2ad20089c4a85fd0ba0e", func := "pantry/pantrylaw11.RankPlays", spec := "rankPlays", inPlace := ["math.Float64frombits", "internal/bytealg.abigen_runtime_cmpstring", "slices.overlaps[pantry/api.Ranked]", "math.Float64bits"], unfollowed := true, recurses := true, apart := false, narrowed := true }
def RankPlaysUptoSaid : Prop := rankPlaysUptoRow.holds Try.pinned (OpenSpec.upto rankPlaysSpec)

/-- 'pantrylaw11.RankNone', WHERE WHAT IT READS IS OF BULK AT MOST 1048576: true; the input reads as it did. -/
def rankNoneUptoRow : OpenClaim := { program := "ytbjfigegiffefaa", sum := "95275f91a2e309c5dec8de05edb10b2dacb22b8a863f2ad20089c4a85fd0ba0e", func := "pantry/pantrylaw11.RankNone", spec := "rankNone", inPlace := ["internal/bytealg.abigen_runtime_cmpstring", "slices.overlaps[pantry/api.Ranked]", "math.Float64frombits", "math.Float64bits"], unfollowed := true, recurses := true, apart := false, narrowed := true }
def RankNoneUptoSaid : Prop := rankNoneUptoRow.holds Try.pinned (OpenSpec.upto rankNoneSpec)

end Rows
end Go.Proofs.Ytbjfigegiffefaa
