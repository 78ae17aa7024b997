/-
  No cell of these rows narrows 'for every input' (looked for: loops, veiled, ifaces, maps, wideKeys, modest, calm, conditions, laid).
  DERIVED. THE GIVEN ROWS OF THIS SEAT. 5 by the template 'for every input the law returns true; each argument reads behind the call as it read before'; 0 by the template 'total and deterministic' (their statements: YtipehdbpbmnonaaGreatTotals.lean).
  GIVEN WITH THE SEED: the statements are not yours to turn. If you find one false, say at which input.
  Laid BY PROGRAM, IN A SANDBOX (cutbox-rows.mjs): the forced cells as the released guide's own fill.sh prints them over the translation ff86f4b02fdba054… (all of the seat's roots in one cut). By AI agents, Wed Nov 11 2026. No macro, syntax, notation, axiom, sorry.
-/
import Derived.Test.YtipehdbpbmnonaaGreatChecked
import GoSem.Claim
import GoSem.ClaimJoined
import GoSem.ClaimMapViews
import Derived.JoinedTies
import Derived.KernelRfl
namespace Go.Proofs.YtipehdbpbmnonaaGreat
/- THE CELL 'sum', in the pinned program and in every row, IS THE sha256 OF THE DUMP (.gsa) THAT YtipehdbpbmnonaaGreatProg.lean LOADS. Nothing in Lean hashes anything: it is a label: what it is worth is what the hold of that sum in a sandbox is worth. -/
noncomputable def Tryz.pinned : Pinned := { name := "ytipehdbpbmnonaagreat", sum := "ff86f4b02fdba0549c1aa639f5f64b1521dfd6474cbbd25ba9c7f11fd04f2128", checked := Tryz.checked }
namespace Rows
def none {H : Type} : Left H := { results := [], args := [] }

/-- 'pantrylaw12.ValueOrder': WHATEVER THE INPUT: true; the input reads as it did. -/
def valueOrderSpec : ChangeSpec := { name := "valueOrder", fn := fun _ => fun
  | [d1, d2] => { results := [.lit (.bool true)], args := [d1, d2] }
  | _ => none }
def valueOrderRow : OpenClaim := { program := "ytipehdbpbmnonaagreat", sum := "ff86f4b02fdba0549c1aa639f5f64b1521dfd6474cbbd25ba9c7f11fd04f2128", func := "pantry/pantrylaw12.ValueOrder", spec := "valueOrder", inPlace := ["slices.overlaps[*pantry/deque.chunk]", "internal/bytealg.abigen_runtime_cmpstring", "slices.overlaps[pantry/api.Ranked]", "math.Float64frombits", "math.Float64bits"], unfollowed := true, recurses := true, apart := false }
def ValueOrderSaid : Prop := valueOrderRow.holds Tryz.pinned (OpenSpec.ofChange valueOrderSpec)

/-- ITS FALSE NEIGHBOUR: 'it returns false'. Refute it at one input. -/
def valueOrderWrong : ChangeSpec := { name := "valueOrder", fn := fun _ => fun
  | [d1, d2] => { results := [.lit (.bool false)], args := [d1, d2] }
  | _ => none }
def ValueOrderWrongFalsely : Prop := valueOrderRow.holds Tryz.pinned (OpenSpec.ofChange valueOrderWrong)

/-- 'pantrylaw12.ValueRefuses': WHATEVER THE INPUT: true; the input reads as it did. -/
def valueRefusesSpec : ChangeSpec := { name := "valueRefuses", fn := fun _ => fun
  | [d1, d2, d3] => { results := [.lit (.bool true)], args := [d1, d2, d3] }
  | _ => none }
def valueRefusesRow : OpenClaim := { program := "ytipehdbpbmnonaagreat", sum := "ff86f4b02fdba0549c1aa639f5f64b1521dfd6474cbbd25ba9c7f11fd04f2128", func := "pantry/pantrylaw12.ValueRefuses", spec := "valueRefuses", inPlace := ["slices.overlaps[*pantry/deque.chunk]", "internal/bytealg.abigen_runtime_cmpstring", "slices.overlaps[pantry/api.Ranked]", "math.Float64frombits"], unfollowed := true, recurses := true, apart := false }
def ValueRefusesSaid : Prop := valueRefusesRow.holds Tryz.pinned (OpenSpec.ofChange valueRefusesSpec)

/-- ITS FALSE NEIGHBOUR: 'it returns false'. Refute it at one input. -/
def valueRefusesWrong : ChangeSpec := { name := "valueRefuses", fn := fun _ => fun
  | [d1, d2, d3] => { results := [.lit (.bool false)], args := [d1, d2, d3] }
  | _ => none }
def ValueRefusesWrongFalsely : Prop := valueRefusesRow.holds Tryz.pinned (OpenSpec.ofChange valueRefusesWrong)

/-- 'pantrylaw12.ValueBack': WHATEVER THE INPUT: true; the input reads as it did. -/
def valueBackSpec : ChangeSpec := { name := "valueBack", fn := fun _ => fun
  | [d1, d2, d3] => { results := [.lit (.bool true)], args := [d1, d2, d3] }
  | _ => none }
def valueBackRow : OpenClaim := { program := "ytipehdbpbmnonaagreat", sum := "ff86f4b02fdba0549c1aa639f5f64b1521dfd6474cbbd25ba9c7f11fd04f2128", func := "pantry/pantrylaw12.ValueBack", spec := "valueBack", inPlace := ["slices.overlaps[*pantry/deque.chunk]", "internal/bytealg.abigen_runtime_cmpstring", "slices.overlaps[pantry/api.Ranked]", "math.Float64frombits", "math.Float64bits"], unfollowed := true, recurses := true, apart := false }
def ValueBackSaid : Prop := valueBackRow.holds Tryz.pinned (OpenSpec.ofChange valueBackSpec)

/-- ITS FALSE NEIGHBOUR: 'it returns false'. Refute it at one input. -/
def valueBackWrong : ChangeSpec := { name := "valueBack", fn := fun _ => fun
  | [d1, d2, d3] => { results := [.lit (.bool false)], args := [d1, d2, d3] }
  | _ => none }
def ValueBackWrongFalsely : Prop := valueBackRow.holds Tryz.pinned (OpenSpec.ofChange valueBackWrong)

/-- 'pantrylaw12.ValuePlays': WHATEVER THE INPUT: true; the input reads as it did. -/
def valuePlaysSpec : ChangeSpec := { name := "valuePlays", fn := fun _ => fun
  | [d1, d2] => { results := [.lit (.bool true)], args := [d1, d2] }
  | _ => none }
def valuePlaysRow : OpenClaim := { program := "ytipehdbpbmnonaagreat", sum := "ff86f4b02fdba0549c1aa639f5f64b1521dfd6474cbbd25ba9c7f11fd04f2128", func := "pantry/pantrylaw12.ValuePlays", spec := "valuePlays", inPlace := ["math.Float64bits", "math.Float64frombits", "slices.overlaps[*pantry/deque.chunk]", "internal/bytealg.abigen_runtime_cmpstring", "slices.overlaps[pantry/api.Ranked]"], unfollowed := true, recurses := true, apart := false }
def ValuePlaysSaid : Prop := valuePlaysRow.holds Tryz.pinned (OpenSpec.ofChange valuePlaysSpec)

/-- ITS FALSE NEIGHBOUR: 'it returns false'. Refute it at one input. -/
def valuePlaysWrong : ChangeSpec := { name := "valuePlays", fn := fun _ => fun
  | [d1, d2] => { results := [.lit (.bool false)], args := [d1, d2] }
  | _ => none }
def ValuePlaysWrongFalsely : Prop := valuePlaysRow.holds Tryz.pinned (OpenSpec.ofChange valuePlaysWrong)

/-- 'pantrylaw12.ValueOfs': WHATEVER THE INPUT: true; the input reads as it did. -/
def valueOfsSpec : ChangeSpec := { name := "valueOfs", fn := fun _ => fun
  | [d1, d2] => { results := [.lit (.bool true)], args := [d1, d2] }
  | _ => none }
def valueOfsRow : OpenClaim := { program := "ytipehdbpbmnonaagreat", sum := "ff86f4b02fdba0549c1aa639f5f64b1521dfd6474cbbd25ba9c7f11fd04f2128", func := "pantry/pantrylaw12.ValueOfs", spec := "valueOfs", inPlace := ["math.Float64frombits", "slices.overlaps[*pantry/deque.chunk]", "internal/bytealg.abigen_runtime_cmpstring", "slices.overlaps[pantry/api.Ranked]", "math.Float64bits"], unfollowed := true, recurses := true, apart := false }
def ValueOfsSaid : Prop := valueOfsRow.holds Tryz.pinned (OpenSpec.ofChange valueOfsSpec)

/-- ITS FALSE NEIGHBOUR: 'it returns false'. Refute it at one input. -/
def valueOfsWrong : ChangeSpec := { name := "valueOfs", fn := fun _ => fun
  | [d1, d2] => { results := [.lit (.bool false)], args := [d1, d2] }
  | _ => none }
def ValueOfsWrongFalsely : Prop := valueOfsRow.holds Tryz.pinned (OpenSpec.ofChange valueOfsWrong)

/- THE SECOND FORM. 'bulk': how many values and letters a reading holds, each counted each time it is reached (what is shared counts as often as it is met; a slice's spare places count too). A statement '..UptoSaid' is the law's where the arguments, and the package variables that the reading takes, are together of bulk at most 1048576: NARROWER than '..Said'. Prove '..Said' where nothing that the law and all that it calls make is longer than what came in: it says more and counts as full. Else prove '..UptoSaid'. A law counts once. -/
mutual
def uptoBulk {H : Type} : DataW H → Nat
  | .lit (.string bytes) => bytes.length + 1
  | .lit _ => 1
  | .nil => 1
  | .ptr d => uptoBulk d + 1
  | .slice elems spare => uptoBulkAll elems + uptoBulkAll spare + 1
  | .agg parts => uptoBulkAll parts + 1
  | .iface _ d => uptoBulk d + 1
  | .map entries => uptoBulkEntries entries + 1
  | .held _ => 1
def uptoBulkAll {H : Type} : List (DataW H) → Nat
  | [] => 0
  | d :: r => uptoBulk d + uptoBulkAll r
def uptoBulkEntries {H : Type} : List (Lit × DataW H) → Nat
  | [] => 0
  | x :: r => uptoBulkEntry x + uptoBulkEntries r
def uptoBulkEntry {H : Type} : Lit × DataW H → Nat
  | (.string bytes, d) => bytes.length + uptoBulk d + 1
  | (_, d) => uptoBulk d + 1
 end
def uptoSmall : (H : Type) → List (DataW H) → Bool := fun _ ds => decide (uptoBulkAll ds ≤ 1048576)
def OpenSpec.upto (s : _root_.Go.ChangeSpec) : _root_.Go.OpenSpec := { _root_.Go.OpenSpec.ofChange s with cond := some uptoSmall }

/-- 'pantrylaw12.ValueOrder', WHERE WHAT IT READS IS OF BULK AT MOST 1048576: true; the input reads as it did. -/
def valueOrderUptoRow : OpenClaim := { program := "ytipehdbpbmnonaagreat", sum := "ff86f4b02fdba0549c1aa639f5f64b1521dfd6474cbbd25ba9c7f11fd04f2128", func := "pantry/pantrylaw12.ValueOrder", spec := "valueOrder", inPlace := ["slices.overlaps[*pantry/deque.chunk]", "internal/bytealg.abigen_runtime_cmpstring", "slices.overlaps[pantry/api.Ranked]", "math.Float64frombits", "math.Float64bits"], unfollowed := true, recurses := true, apart := false, narrowed := true }
def ValueOrderUptoSaid : Prop := valueOrderUptoRow.holds Tryz.pinned (OpenSpec.upto valueOrderSpec)

/-- 'pantrylaw12.ValueRefuses', WHERE WHAT IT READS IS OF BULK AT MOST 1048576: true; the input reads as it did. -/
def valueRefusesUptoRow : OpenClaim := { program := "ytipehdbpbmnonaagreat", sum := "ff86f4b02fdba0549c1aa639f5f64b1521dfd6474cbbd25ba9c7f11fd04f2128", func := "pantry/pantrylaw12.ValueRefuses", spec := "valueRefuses", inPlace := ["slices.overlaps[*pantry/deque.chunk]", "internal/bytealg.abigen_runtime_cmpstring", "slices.overlaps[pantry/api.Ranked]", "math.Float64frombits"], unfollowed := true, recurses := true, apart := false, narrowed := true }
def ValueRefusesUptoSaid : Prop := valueRefusesUptoRow.holds Tryz.pinned (OpenSpec.upto valueRefusesSpec)

/-- 'pantrylaw12.ValueBack', WHERE WHAT IT READS IS OF BULK AT MOST 1048576: true; the input reads as it did. -/
def valueBackUptoRow : OpenClaim := { program := "ytipehdbpbmnonaagreat", sum := "ff86f4b02fdba0549c1aa639f5f64b1521dfd6474cbbd25ba9c7f11fd04f2128", func := "pantry/pantrylaw12.ValueBack", spec := "valueBack", inPlace := ["slices.overlaps[*pantry/deque.chunk]", "internal/bytealg.abigen_runtime_cmpstring", "slices.overlaps[pantry/api.Ranked]", "math.Float64frombits", "math.Float64bits"], unfollowed := true, recurses := true, apart := false, narrowed := true }
def ValueBackUptoSaid : Prop := valueBackUptoRow.holds Tryz.pinned (OpenSpec.upto valueBackSpec)

/-- 'pantrylaw12.ValuePlays', WHERE WHAT IT READS IS OF BULK AT MOST 1048576: true; the input reads as it did. -/
def valuePlaysUptoRow : OpenClaim := { program := "ytipehdbpbmnonaagreat", sum := "ff86f4b02fdba0549c1aa639f5f64b1521dfd6474cbbd25ba9c7f11fd04f2128", func := "pantry/pantrylaw12.ValuePlays", spec := "valuePlays", inPlace := ["math.Float64bits", "math.Float64frombits", "slices.overlaps[*pantry/deque.chunk]", "internal/bytealg.abigen_runtime_cmpstring", "slices.overlaps[pantry/api.Ranked]"], unfollowed := true, recurses := true, apart := false, narrowed := true }
def ValuePlaysUptoSaid : Prop := valuePlaysUptoRow.holds Tryz.pinned (OpenSpec.upto valuePlaysSpec)

/-- 'pantrylaw12.ValueOfs', WHERE WHAT IT READS IS OF BULK AT MOST 1048576: true; the input reads as it did. -/
def valueOfsUptoRow : OpenClaim := { program := "ytipehdbpbmnonaagreat", sum := "ff86f4b02fdba0549c1aa639f5f64b1521dfd6474cbbd25ba9c7f11fd04f2128", func := "pantry/pantrylaw12.ValueOfs", spec := "valueOfs", inPlace := ["math.Float64frombits", "slices.overlaps[*pantry/deque.chunk]", "internal/bytealg.abigen_runtime_cmpstring", "slices.overlaps[pantry/api.Ranked]", "math.Float64bits"], unfollowed := true, recurses := true, apart := false, narrowed := true }
def ValueOfsUptoSaid : Prop := valueOfsUptoRow.holds Tryz.pinned (OpenSpec.upto valueOfsSpec)

end Rows
end Go.Proofs.YtipehdbpbmnonaaGreat
