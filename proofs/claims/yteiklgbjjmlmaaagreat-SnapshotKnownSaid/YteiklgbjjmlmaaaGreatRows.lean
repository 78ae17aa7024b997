/-
  No cell of these rows narrows 'for every input' (looked for: loops, veiled, ifaces, maps, wideKeys, modest, calm, conditions, laid).
  DERIVED. THE GIVEN ROWS OF THIS SEAT. 6 by the template 'for every input the law returns true; each argument reads behind the call as it read before'; 0 by the template 'total and deterministic' (their statements: YteiklgbjjmlmaaaGreatTotals.lean).
  GIVEN WITH THE SEED: the statements are not yours to turn. If you find one false, say at which input.
  Laid BY PROGRAM, IN A SANDBOX (cutbox-rows.mjs): the forced cells as the released guide's own fill.sh prints them over the translation 0fd88a44f5e6c68c… (all of the seat's roots in one cut). By AI agents, Wed Nov 11 2026. No macro, syntax, notation, axiom, sorry.
-/
import Derived.Test.YteiklgbjjmlmaaaGreatChecked
import GoSem.Claim
import GoSem.ClaimJoined
import GoSem.ClaimMapViews
import Derived.JoinedTies
import Derived.KernelRfl
namespace Go.Proofs.YteiklgbjjmlmaaaGreat
/- THE CELL 'sum', in the pinned program and in every row, IS THE sha256 OF THE DUMP (.gsa) THAT YteiklgbjjmlmaaaGreatProg.lean LOADS. Nothing in Lean hashes anything: it is a label: what it is worth is what the hold of that sum in a sandbox is worth. -/
noncomputable def Tryz.pinned : Pinned := { name := "yteiklgbjjmlmaaagreat", sum := "0fd88a44f5e6c68c1a1f32a8d23b000b0505f3134a0a09b00a35ddb037bb3ffc", checked := Tryz.checked }
namespace Rows
def none {H : Type} : Left H := { results := [], args := [] }

/-- 'pantrylaw29.SnapshotSaves': WHATEVER THE INPUT: true; the input reads as it did. -/
def snapshotSavesSpec : ChangeSpec := { name := "snapshotSaves", fn := fun _ => fun
  | [d1, d2] => { results := [.lit (.bool true)], args := [d1, d2] }
  | _ => none }
def snapshotSavesRow : OpenClaim := { program := "yteiklgbjjmlmaaagreat", sum := "0fd88a44f5e6c68c1a1f32a8d23b000b0505f3134a0a09b00a35ddb037bb3ffc", func := "pantry/pantrylaw29.SnapshotSaves", spec := "snapshotSaves", inPlace := ["math.Float64bits", "slices.overlaps[*pantry/deque.chunk]", "internal/bytealg.abigen_runtime_cmpstring", "slices.overlaps[pantry/api.Ranked]"], unfollowed := true, recurses := true, apart := false }
def SnapshotSavesSaid : Prop := snapshotSavesRow.holds Tryz.pinned (OpenSpec.ofChange snapshotSavesSpec)

/-- ITS FALSE NEIGHBOUR: 'it returns false'. Refute it at one input. -/
def snapshotSavesWrong : ChangeSpec := { name := "snapshotSaves", fn := fun _ => fun
  | [d1, d2] => { results := [.lit (.bool false)], args := [d1, d2] }
  | _ => none }
def SnapshotSavesWrongFalsely : Prop := snapshotSavesRow.holds Tryz.pinned (OpenSpec.ofChange snapshotSavesWrong)

/-- 'pantrylaw29.SnapshotLoads': WHATEVER THE INPUT: true; the input reads as it did. -/
def snapshotLoadsSpec : ChangeSpec := { name := "snapshotLoads", fn := fun _ => fun
  | [d] => { results := [.lit (.bool true)], args := [d] }
  | _ => none }
def snapshotLoadsRow : OpenClaim := { program := "yteiklgbjjmlmaaagreat", sum := "0fd88a44f5e6c68c1a1f32a8d23b000b0505f3134a0a09b00a35ddb037bb3ffc", func := "pantry/pantrylaw29.SnapshotLoads", spec := "snapshotLoads", inPlace := ["math.Float64frombits", "slices.overlaps[*pantry/deque.chunk]", "internal/bytealg.abigen_runtime_cmpstring", "slices.overlaps[pantry/api.Ranked]", "math.Float64bits"], unfollowed := true, recurses := true, apart := false }
def SnapshotLoadsSaid : Prop := snapshotLoadsRow.holds Tryz.pinned (OpenSpec.ofChange snapshotLoadsSpec)

/-- ITS FALSE NEIGHBOUR: 'it returns false'. Refute it at one input. -/
def snapshotLoadsWrong : ChangeSpec := { name := "snapshotLoads", fn := fun _ => fun
  | [d] => { results := [.lit (.bool false)], args := [d] }
  | _ => none }
def SnapshotLoadsWrongFalsely : Prop := snapshotLoadsRow.holds Tryz.pinned (OpenSpec.ofChange snapshotLoadsWrong)

/-- 'pantrylaw29.SnapshotBack': WHATEVER THE INPUT: true; the input reads as it did. -/
def snapshotBackSpec : ChangeSpec := { name := "snapshotBack", fn := fun _ => fun
  | [d1, d2] => { results := [.lit (.bool true)], args := [d1, d2] }
  | _ => none }
def snapshotBackRow : OpenClaim := { program := "yteiklgbjjmlmaaagreat", sum := "0fd88a44f5e6c68c1a1f32a8d23b000b0505f3134a0a09b00a35ddb037bb3ffc", func := "pantry/pantrylaw29.SnapshotBack", spec := "snapshotBack", inPlace := ["slices.overlaps[*pantry/deque.chunk]", "internal/bytealg.abigen_runtime_cmpstring", "slices.overlaps[pantry/api.Ranked]", "math.Float64bits", "math.Float64frombits"], unfollowed := true, recurses := true, apart := false }
def SnapshotBackSaid : Prop := snapshotBackRow.holds Tryz.pinned (OpenSpec.ofChange snapshotBackSpec)

/-- ITS FALSE NEIGHBOUR: 'it returns false'. Refute it at one input. -/
def snapshotBackWrong : ChangeSpec := { name := "snapshotBack", fn := fun _ => fun
  | [d1, d2] => { results := [.lit (.bool false)], args := [d1, d2] }
  | _ => none }
def SnapshotBackWrongFalsely : Prop := snapshotBackRow.holds Tryz.pinned (OpenSpec.ofChange snapshotBackWrong)

/-- 'pantrylaw29.SnapshotForm': WHATEVER THE INPUT: true; the input reads as it did. -/
def snapshotFormSpec : ChangeSpec := { name := "snapshotForm", fn := fun _ => fun
  | [d1, d2, d3] => { results := [.lit (.bool true)], args := [d1, d2, d3] }
  | _ => none }
def snapshotFormRow : OpenClaim := { program := "yteiklgbjjmlmaaagreat", sum := "0fd88a44f5e6c68c1a1f32a8d23b000b0505f3134a0a09b00a35ddb037bb3ffc", func := "pantry/pantrylaw29.SnapshotForm", spec := "snapshotForm", inPlace := ["slices.overlaps[*pantry/deque.chunk]", "internal/bytealg.abigen_runtime_cmpstring", "slices.overlaps[pantry/api.Ranked]", "math.Float64bits", "math.Float64frombits"], unfollowed := true, recurses := true, apart := false }
def SnapshotFormSaid : Prop := snapshotFormRow.holds Tryz.pinned (OpenSpec.ofChange snapshotFormSpec)

/-- ITS FALSE NEIGHBOUR: 'it returns false'. Refute it at one input. -/
def snapshotFormWrong : ChangeSpec := { name := "snapshotForm", fn := fun _ => fun
  | [d1, d2, d3] => { results := [.lit (.bool false)], args := [d1, d2, d3] }
  | _ => none }
def SnapshotFormWrongFalsely : Prop := snapshotFormRow.holds Tryz.pinned (OpenSpec.ofChange snapshotFormWrong)

/-- 'pantrylaw29.SnapshotHarmed': WHATEVER THE INPUT: true; the input reads as it did. -/
def snapshotHarmedSpec : ChangeSpec := { name := "snapshotHarmed", fn := fun _ => fun
  | [d1, d2, d3, d4] => { results := [.lit (.bool true)], args := [d1, d2, d3, d4] }
  | _ => none }
def snapshotHarmedRow : OpenClaim := { program := "yteiklgbjjmlmaaagreat", sum := "0fd88a44f5e6c68c1a1f32a8d23b000b0505f3134a0a09b00a35ddb037bb3ffc", func := "pantry/pantrylaw29.SnapshotHarmed", spec := "snapshotHarmed", inPlace := ["slices.overlaps[*pantry/deque.chunk]", "internal/bytealg.abigen_runtime_cmpstring", "slices.overlaps[pantry/api.Ranked]", "math.Float64bits", "math.Float64frombits"], unfollowed := true, recurses := true, apart := false }
def SnapshotHarmedSaid : Prop := snapshotHarmedRow.holds Tryz.pinned (OpenSpec.ofChange snapshotHarmedSpec)

/-- ITS FALSE NEIGHBOUR: 'it returns false'. Refute it at one input. -/
def snapshotHarmedWrong : ChangeSpec := { name := "snapshotHarmed", fn := fun _ => fun
  | [d1, d2, d3, d4] => { results := [.lit (.bool false)], args := [d1, d2, d3, d4] }
  | _ => none }
def SnapshotHarmedWrongFalsely : Prop := snapshotHarmedRow.holds Tryz.pinned (OpenSpec.ofChange snapshotHarmedWrong)

/-- 'pantrylaw29.SnapshotKnown': WHATEVER THE INPUT: true; the input reads as it did. -/
def snapshotKnownSpec : ChangeSpec := { name := "snapshotKnown", fn := fun _ => fun
  | [] => { results := [.lit (.bool true)], args := [] }
  | _ => none }
def snapshotKnownRow : OpenClaim := { program := "yteiklgbjjmlmaaagreat", sum := "0fd88a44f5e6c68c1a1f32a8d23b000b0505f3134a0a09b00a35ddb037bb3ffc", func := "pantry/pantrylaw29.SnapshotKnown", spec := "snapshotKnown", inPlace := ["slices.overlaps[*pantry/deque.chunk]", "internal/bytealg.abigen_runtime_cmpstring", "slices.overlaps[pantry/api.Ranked]", "math.Float64bits", "math.Float64frombits"], unfollowed := true, recurses := true, apart := false }
def SnapshotKnownSaid : Prop := snapshotKnownRow.holds Tryz.pinned (OpenSpec.ofChange snapshotKnownSpec)

/-- ITS FALSE NEIGHBOUR: 'it returns false'. Refute it at one input. -/
def snapshotKnownWrong : ChangeSpec := { name := "snapshotKnown", fn := fun _ => fun
  | [] => { results := [.lit (.bool false)], args := [] }
  | _ => none }
def SnapshotKnownWrongFalsely : Prop := snapshotKnownRow.holds Tryz.pinned (OpenSpec.ofChange snapshotKnownWrong)

/- THE SECOND FORM. 'bulk': how many values and letters a reading holds, each counted each time it is reached (what is shared counts as often as it is met; a slice's spare places count too). A statement '..UptoSaid' is the law's where the arguments, and the package variables that the reading takes, are together of bulk at most 1048576: NARROWER than '..Said'. Prove '..Said' where nothing that the law and all that it calls make is longer than what came in: it says more and counts as full. Else prove '..UptoSaid'. A law counts once. -/
mutual
def uptoBulk {H : Type} : DataW H → Nat
  | .lit (.string bytes) => bytes.length + 1
  | .lit _ => 1
  | .nil => 1
  | .ptr d => uptoBulk d + 1
  | .slice elems spare => uptoBulkAll elems + uptoBulkAll spare + 1
  | .agg parts => uptoBulkAll parts + 1
  | .iface _ d => uptoBulk d + 1
  | .map entries => uptoBulkEntries entries + 1
  | .held _ => 1
def uptoBulkAll {H : Type} : List (DataW H) → Nat
  | [] => 0
  | d :: r => uptoBulk d + uptoBulkAll r
def uptoBulkEntries {H : Type} : List (Lit × DataW H) → Nat
  | [] => 0
  | x :: r => uptoBulkEntry x + uptoBulkEntries r
def uptoBulkEntry {H : Type} : Lit × DataW H → Nat
  | (.string bytes, d) => bytes.length + uptoBulk d + 1
  | (_, d) => uptoBulk d + 1
 end
def uptoSmall : (H : Type) → List (DataW H) → Bool := fun _ ds => decide (uptoBulkAll ds ≤ 1048576)
def OpenSpec.upto (s : _root_.Go.ChangeSpec) : _root_.Go.OpenSpec := { _root_.Go.OpenSpec.ofChange s with cond := some uptoSmall }

/-- 'pantrylaw29.SnapshotSaves', WHERE WHAT IT READS IS OF BULK AT MOST 1048576: true; the input reads as it did. -/
def snapshotSavesUptoRow : OpenClaim := { program := "yteiklgbjjmlmaaagreat", sum := "0fd88a44f5e6c68c1a1f32a8d23b000b0505f3134a0a09b00a35ddb037bb3ffc", func := "pantry/pantrylaw29.SnapshotSaves", spec := "snapshotSaves", inPlace := ["math.Float64bits", "slices.overlaps[*pantry/deque.chunk]", "internal/bytealg.abigen_runtime_cmpstring", "slices.overlaps[pantry/api.Ranked]"], unfollowed := true, recurses := true, apart := false, narrowed := true }
def SnapshotSavesUptoSaid : Prop := snapshotSavesUptoRow.holds Tryz.pinned (OpenSpec.upto snapshotSavesSpec)

/-- 'pantrylaw29.SnapshotLoads', WHERE WHAT IT READS IS OF BULK AT MOST 1048576: true; the input reads as it did. -/
def snapshotLoadsUptoRow : OpenClaim := { program := "yteiklgbjjmlmaaagreat", sum := "0fd88a44f5e6c68c1a1f32a8d23b000b0505f3134a0a09b00a35ddb037bb3ffc", func := "pantry/pantrylaw29.SnapshotLoads", spec := "snapshotLoads", inPlace := ["math.Float64frombits", "slices.overlaps[*pantry/deque.chunk]", "internal/bytealg.abigen_runtime_cmpstring", "slices.overlaps[pantry/api.Ranked]", "math.Float64bits"], unfollowed := true, recurses := true, apart := false, narrowed := true }
def SnapshotLoadsUptoSaid : Prop := snapshotLoadsUptoRow.holds Tryz.pinned (OpenSpec.upto snapshotLoadsSpec)

/-- 'pantrylaw29.SnapshotBack', WHERE WHAT IT READS IS OF BULK AT MOST 1048576: true; the input reads as it did. -/
def snapshotBackUptoRow : OpenClaim := { program := "yteiklgbjjmlmaaagreat", sum := "0fd88a44f5e6c68c1a1f32a8d23b000b0505f3134a0a09b00a35ddb037bb3ffc", func := "pantry/pantrylaw29.SnapshotBack", spec := "snapshotBack", inPlace := ["slices.overlaps[*pantry/deque.chunk]", "internal/bytealg.abigen_runtime_cmpstring", "slices.overlaps[pantry/api.Ranked]", "math.Float64bits", "math.Float64frombits"], unfollowed := true, recurses := true, apart := false, narrowed := true }
def SnapshotBackUptoSaid : Prop := snapshotBackUptoRow.holds Tryz.pinned (OpenSpec.upto snapshotBackSpec)

/-- 'pantrylaw29.SnapshotForm', WHERE WHAT IT READS IS OF BULK AT MOST 1048576: true; the input reads as it did. -/
def snapshotFormUptoRow : OpenClaim := { program := "yteiklgbjjmlmaaagreat", sum := "0fd88a44f5e6c68c1a1f32a8d23b000b0505f3134a0a09b00a35ddb037bb3ffc", func := "pantry/pantrylaw29.SnapshotForm", spec := "snapshotForm", inPlace := ["slices.overlaps[*pantry/deque.chunk]", "internal/bytealg.abigen_runtime_cmpstring", "slices.overlaps[pantry/api.Ranked]", "math.Float64bits", "math.Float64frombits"], unfollowed := true, recurses := true, apart := false, narrowed := true }
def SnapshotFormUptoSaid : Prop := snapshotFormUptoRow.holds Tryz.pinned (OpenSpec.upto snapshotFormSpec)

/-- 'pantrylaw29.SnapshotHarmed', WHERE WHAT IT READS IS OF BULK AT MOST 1048576: true; the input reads as it did. -/
def snapshotHarmedUptoRow : OpenClaim := { program := "yteiklgbjjmlmaaagreat", sum := "0fd88a44f5e6c68c1a1f32a8d23b000b0505f3134a0a09b00a35ddb037bb3ffc", func := "pantry/pantrylaw29.SnapshotHarmed", spec := "snapshotHarmed", inPlace := ["slices.overlaps[*pantry/deque.chunk]", "internal/bytealg.abigen_runtime_cmpstring", "slices.overlaps[pantry/api.Ranked]", "math.Float64bits", "math.Float64frombits"], unfollowed := true, recurses := true, apart := false, narrowed := true }
def SnapshotHarmedUptoSaid : Prop := snapshotHarmedUptoRow.holds Tryz.pinned (OpenSpec.upto snapshotHarmedSpec)

/-- 'pantrylaw29.SnapshotKnown', WHERE WHAT IT READS IS OF BULK AT MOST 1048576: true; the input reads as it did. -/
def snapshotKnownUptoRow : OpenClaim := { program := "yteiklgbjjmlmaaagreat", sum := "0fd88a44f5e6c68c1a1f32a8d23b000b0505f3134a0a09b00a35ddb037bb3ffc", func := "pantry/pantrylaw29.SnapshotKnown", spec := "snapshotKnown", inPlace := ["slices.overlaps[*pantry/deque.chunk]", "internal/bytealg.abigen_runtime_cmpstring", "slices.overlaps[pantry/api.Ranked]", "math.Float64bits", "math.Float64frombits"], unfollowed := true, recurses := true, apart := false, narrowed := true }
def SnapshotKnownUptoSaid : Prop := snapshotKnownUptoRow.holds Tryz.pinned (OpenSpec.upto snapshotKnownSpec)

end Rows
end Go.Proofs.YteiklgbjjmlmaaaGreat
