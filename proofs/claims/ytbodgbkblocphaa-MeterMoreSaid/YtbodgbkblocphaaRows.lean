/-
  No cell of these rows narrows 'for every input' (looked for: loops, veiled, ifaces, maps, wideKeys, modest, calm, conditions, laid).
  DERIVED. THE GIVEN ROWS OF THIS SEAT. 5 by the template 'for every input the law returns true; each argument reads behind the call as it read before'; 0 by the template 'total and deterministic' (their statements: YtbodgbkblocphaaTotals.lean).
  GIVEN WITH THE SEED: the statements are not yours to turn. If you find one false, say at which input.
  Laid BY PROGRAM, IN A SANDBOX (cutbox-rows.mjs): the forced cells as the released guide's own fill.sh prints them over the translation 317266d1b043cdf7… (all of the seat's roots in one cut). By AI agents, Wed Nov 11 2026. No macro, syntax, notation, axiom, sorry.
-/
import Derived.Test.YtbodgbkblocphaaChecked
import GoSem.Claim
import GoSem.ClaimJoined
import GoSem.ClaimMapViews
import Derived.JoinedTies
import Derived.KernelRfl
namespace Go.Proofs.Ytbodgbkblocphaa
/- THE CELL 'sum', in the pinned program and in every row, IS THE sha256 OF THE DUMP (.gsa) THAT YtbodgbkblocphaaProg.lean LOADS. Nothing in Lean hashes anything: it is a label: what it is worth is what the hold of that sum in a sandbox is worth. -/
noncomputable def Try.pinned : Pinned := { name := "ytbodgbkblocphaa", sum := "317266d1b043cdf7aa6186bcb4ea68d4734e8f896ba4a0507ad8b5502684b877", checked := Try.checked }
namespace Rows
def none {H : Type} : Left H := { results := [], args := [] }

/-- 'roostlaw13.MeterWhole': WHATEVER THE INPUT: true; the input reads as it did. -/
def meterWholeSpec : ChangeSpec := { name := "meterWhole", fn := fun _ => fun
  | [d] => { results := [.lit (.bool true)], args := [d] }
  | _ => none }
def meterWholeRow : OpenClaim := { program := "ytbodgbkblocphaa", sum := "317266d1b043cdf7aa6186bcb4ea68d4734e8f896ba4a0507ad8b5502684b877", func := "roost/roostlaw13.MeterWhole", spec := "meterWhole", inPlace := ["math.Float64bits", "math.Float64frombits"], apart := false }
def MeterWholeSaid : Prop := meterWholeRow.holds Try.pinned (OpenSpec.ofChange meterWholeSpec)

/-- ITS FALSE NEIGHBOUR: 'it returns false'. Refute it at one input. -/
def meterWholeWrong : ChangeSpec := { name := "meterWhole", fn := fun _ => fun
  | [d] => { results := [.lit (.bool false)], args := [d] }
  | _ => none }
def MeterWholeWrongFalsely : Prop := meterWholeRow.holds Try.pinned (OpenSpec.ofChange meterWholeWrong)

/-- 'roostlaw13.MeterMore': WHATEVER THE INPUT: true; the input reads as it did. -/
def meterMoreSpec : ChangeSpec := { name := "meterMore", fn := fun _ => fun
  | [d] => { results := [.lit (.bool true)], args := [d] }
  | _ => none }
def meterMoreRow : OpenClaim := { program := "ytbodgbkblocphaa", sum := "317266d1b043cdf7aa6186bcb4ea68d4734e8f896ba4a0507ad8b5502684b877", func := "roost/roostlaw13.MeterMore", spec := "meterMore", inPlace := ["math.Float64frombits", "math.Float64bits"], apart := false }
def MeterMoreSaid : Prop := meterMoreRow.holds Try.pinned (OpenSpec.ofChange meterMoreSpec)

/-- ITS FALSE NEIGHBOUR: 'it returns false'. Refute it at one input. -/
def meterMoreWrong : ChangeSpec := { name := "meterMore", fn := fun _ => fun
  | [d] => { results := [.lit (.bool false)], args := [d] }
  | _ => none }
def MeterMoreWrongFalsely : Prop := meterMoreRow.holds Try.pinned (OpenSpec.ofChange meterMoreWrong)

/-- 'roostlaw13.MeterExact': WHATEVER THE INPUT: true; the input reads as it did. -/
def meterExactSpec : ChangeSpec := { name := "meterExact", fn := fun _ => fun
  | [d1, d2, d3] => { results := [.lit (.bool true)], args := [d1, d2, d3] }
  | _ => none }
def meterExactRow : OpenClaim := { program := "ytbodgbkblocphaa", sum := "317266d1b043cdf7aa6186bcb4ea68d4734e8f896ba4a0507ad8b5502684b877", func := "roost/roostlaw13.MeterExact", spec := "meterExact", inPlace := ["math.Float64frombits", "math.Float64bits"], apart := false }
def MeterExactSaid : Prop := meterExactRow.holds Try.pinned (OpenSpec.ofChange meterExactSpec)

/-- ITS FALSE NEIGHBOUR: 'it returns false'. Refute it at one input. -/
def meterExactWrong : ChangeSpec := { name := "meterExact", fn := fun _ => fun
  | [d1, d2, d3] => { results := [.lit (.bool false)], args := [d1, d2, d3] }
  | _ => none }
def MeterExactWrongFalsely : Prop := meterExactRow.holds Try.pinned (OpenSpec.ofChange meterExactWrong)

/-- 'roostlaw13.MeterWait': WHATEVER THE INPUT: true; the input reads as it did. -/
def meterWaitSpec : ChangeSpec := { name := "meterWait", fn := fun _ => fun
  | [d1, d2, d3] => { results := [.lit (.bool true)], args := [d1, d2, d3] }
  | _ => none }
def meterWaitRow : OpenClaim := { program := "ytbodgbkblocphaa", sum := "317266d1b043cdf7aa6186bcb4ea68d4734e8f896ba4a0507ad8b5502684b877", func := "roost/roostlaw13.MeterWait", spec := "meterWait", inPlace := ["math.Float64bits", "math.Float64frombits"], apart := false }
def MeterWaitSaid : Prop := meterWaitRow.holds Try.pinned (OpenSpec.ofChange meterWaitSpec)

/-- ITS FALSE NEIGHBOUR: 'it returns false'. Refute it at one input. -/
def meterWaitWrong : ChangeSpec := { name := "meterWait", fn := fun _ => fun
  | [d1, d2, d3] => { results := [.lit (.bool false)], args := [d1, d2, d3] }
  | _ => none }
def MeterWaitWrongFalsely : Prop := meterWaitRow.holds Try.pinned (OpenSpec.ofChange meterWaitWrong)

/-- 'roostlaw13.MeterBounds': WHATEVER THE INPUT: true; the input reads as it did. -/
def meterBoundsSpec : ChangeSpec := { name := "meterBounds", fn := fun _ => fun
  | [d1, d2, d3] => { results := [.lit (.bool true)], args := [d1, d2, d3] }
  | _ => none }
def meterBoundsRow : OpenClaim := { program := "ytbodgbkblocphaa", sum := "317266d1b043cdf7aa6186bcb4ea68d4734e8f896ba4a0507ad8b5502684b877", func := "roost/roostlaw13.MeterBounds", spec := "meterBounds", inPlace := ["math.Float64frombits", "math.Float64bits"], apart := false }
def MeterBoundsSaid : Prop := meterBoundsRow.holds Try.pinned (OpenSpec.ofChange meterBoundsSpec)

/-- ITS FALSE NEIGHBOUR: 'it returns false'. Refute it at one input. -/
def meterBoundsWrong : ChangeSpec := { name := "meterBounds", fn := fun _ => fun
  | [d1, d2, d3] => { results := [.lit (.bool false)], args := [d1, d2, d3] }
  | _ => none }
def MeterBoundsWrongFalsely : Prop := meterBoundsRow.holds Try.pinned (OpenSpec.ofChange meterBoundsWrong)

/- THE SECOND FORM. 'bulk': how many values and letters a reading holds, each counted each time it is reached (what is shared counts as often as it is met; a slice's spare places count too). A statement '..UptoSaid' is the law's where the arguments, and the package variables that the reading takes, are together of bulk at most 1048576: NARROWER than '..Said'. Prove '..Said' where nothing that the law and all that it calls make is longer than what came in: it says more and counts as full. Else prove '..UptoSaid'. A law counts once. -/
mutual
def uptoBulk {H : Type} : DataW H → Nat
  | .lit (.string bytes) => bytes.length + 1
  | .lit _ => 1
  | .nil => 1
  | .ptr d => uptoBulk d + 1
  | .slice elems spare => uptoBulkAll elems + uptoBulkAll spare + 1
  | .agg parts => uptoBulkAll parts + 1
  | .iface _ d => uptoBulk d + 1
  | .map entries => uptoBulkEntries entries + 1
  | .held _ => 1
def uptoBulkAll {H : Type} : List (DataW H) → Nat
  | [] => 0
  | d :: r => uptoBulk d + uptoBulkAll r
def uptoBulkEntries {H : Type} : List (Lit × DataW H) → Nat
  | [] => 0
  | x :: r => uptoBulkEntry x + uptoBulkEntries r
def uptoBulkEntry {H : Type} : Lit × DataW H → Nat
  | (.string bytes, d) => bytes.length + uptoBulk d + 1
  | (_, d) => uptoBulk d + 1
 end
def uptoSmall : (H : Type) → List (DataW H) → Bool := fun _ ds => decide (uptoBulkAll ds ≤ 1048576)
def OpenSpec.upto (s : _root_.Go.ChangeSpec) : _root_.Go.OpenSpec := { _root_.Go.OpenSpec.ofChange s with cond := some uptoSmall }

/-- 'roostlaw13.MeterWhole', WHERE WHAT IT READS IS OF BULK AT MOST 1048576: true; the input reads as it did. -/
def meterWholeUptoRow : OpenClaim := { program := "ytbodgbkblocphaa", sum := "317266d1b043cdf7aa6186bcb4ea68d4734e8f896ba4a0507ad8b5502684b877", func := "roost/roostlaw13.MeterWhole", spec := "meterWhole", inPlace := ["math.Float64bits", "math.Float64frombits"], apart := false, narrowed := true }
def MeterWholeUptoSaid : Prop := meterWholeUptoRow.holds Try.pinned (OpenSpec.upto meterWholeSpec)

/-- 'roostlaw13.MeterMore', WHERE WHAT IT READS IS OF BULK AT MOST 1048576: true; the input reads as it did. -/
def meterMoreUptoRow : OpenClaim := { program := "ytbodgbkblocphaa", sum := "317266d1b043cdf7aa6186bcb4ea68d4734e8f896ba4a0507ad8b5502684b877", func := "roost/roostlaw13.MeterMore", spec := "meterMore", inPlace := ["math.Float64frombits", "math.Float64bits"], apart := false, narrowed := true }
def MeterMoreUptoSaid : Prop := meterMoreUptoRow.holds Try.pinned (OpenSpec.upto meterMoreSpec)

/-- 'roostlaw13.MeterExact', WHERE WHAT IT READS IS OF BULK AT MOST 1048576: true; the input reads as it did. -/
def meterExactUptoRow : OpenClaim := { program := "ytbodgbkblocphaa", sum := "317266d1b043cdf7aa6186bcb4ea68d4734e8f896ba4a0507ad8b5502684b877", func := "roost/roostlaw13.MeterExact", spec := "meterExact", inPlace := ["math.Float64frombits", "math.Float64bits"], apart := false, narrowed := true }
def MeterExactUptoSaid : Prop := meterExactUptoRow.holds Try.pinned (OpenSpec.upto meterExactSpec)

/-- 'roostlaw13.MeterWait', WHERE WHAT IT READS IS OF BULK AT MOST 1048576: true; the input reads as it did. -/
def meterWaitUptoRow : OpenClaim := { program := "ytbodgbkblocphaa", sum := "317266d1b043cdf7aa6186bcb4ea68d4734e8f896ba4a0507ad8b5502684b877", func := "roost/roostlaw13.MeterWait", spec := "meterWait", inPlace := ["math.Float64bits", "math.Float64frombits"], apart := false, narrowed := true }
def MeterWaitUptoSaid : Prop := meterWaitUptoRow.holds Try.pinned (OpenSpec.upto meterWaitSpec)

/-- 'roostlaw13.MeterBounds', WHERE WHAT IT READS IS OF BULK AT MOST 1048576: true; the input reads as it did. -/
def meterBoundsUptoRow : OpenClaim := { program := "ytbodgbkblocphaa", sum := "317266d1b043cdf7aa6186bcb4ea68d4734e8f896ba4a0507ad8b5502684b877", func := "roost/roostlaw13.MeterBounds", spec := "meterBounds", inPlace := ["math.Float64frombits", "math.Float64bits"], apart := false, narrowed := true }
def MeterBoundsUptoSaid : Prop := meterBoundsUptoRow.holds Try.pinned (OpenSpec.upto meterBoundsSpec)

end Rows
end Go.Proofs.Ytbodgbkblocphaa
