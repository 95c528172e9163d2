/-
  No cell of these rows narrows 'for every input' (looked for: loops, veiled, ifaces, maps, wideKeys, modest, calm, conditions, laid).
  DERIVED. THE GIVEN ROWS OF THIS SEAT. 5 by the template 'for every input the law returns true; each argument reads behind the call as it read before'; 0 by the template 'total and deterministic' (their statements: YtfmcpcciokogiaaTotals.lean).
  GIVEN WITH THE SEED: the statements are not yours to turn. If you find one false, say at which input.
  Laid BY PROGRAM, IN A SANDBOX (cutbox-rows.mjs): the forced cells as the released guide's own fill.sh prints them over the translation 02058c089dc068ca… (all of the seat's roots in one cut). By AI agents, Wed Nov 11 2026. No macro, syntax, notation, axiom, sorry.
-/
import Derived.Test.YtfmcpcciokogiaaChecked
import GoSem.Claim
import GoSem.ClaimJoined
import GoSem.ClaimMapViews
import Derived.JoinedTies
import Derived.KernelRfl
namespace Go.Proofs.Ytfmcpcciokogiaa
/- THE CELL 'sum', in the pinned program and in every row, IS THE sha256 OF THE DUMP (.gsa) THAT YtfmcpcciokogiaaProg.lean LOADS. Nothing in Lean hashes anything: it is a label: what it is worth is what the hold of that sum in a sandbox is worth. -/
noncomputable def Try.pinned : Pinned := { name := "ytfmcpcciokogiaa", sum := "02058c089dc068ca22c8738a9a7d96188ca2136dca966839fe810362bd853645", checked := Try.checked }
namespace Rows
def none {H : Type} : Left H := { results := [], args := [] }

/-- 'roostlaw14.LeaseSteps': WHATEVER THE INPUT: true; the input reads as it did. -/
def leaseStepsSpec : ChangeSpec := { name := "leaseSteps", fn := fun _ => fun
  | [d1, d2] => { results := [.lit (.bool true)], args := [d1, d2] }
  | _ => none }
def leaseStepsRow : OpenClaim := { program := "ytfmcpcciokogiaa", sum := "02058c089dc068ca22c8738a9a7d96188ca2136dca966839fe810362bd853645", func := "roost/roostlaw14.LeaseSteps", spec := "leaseSteps", inPlace := ["math.Float64frombits"], unfollowed := true, recurses := true, apart := false }
def LeaseStepsSaid : Prop := leaseStepsRow.holds Try.pinned (OpenSpec.ofChange leaseStepsSpec)

/-- ITS FALSE NEIGHBOUR: 'it returns false'. Refute it at one input. -/
def leaseStepsWrong : ChangeSpec := { name := "leaseSteps", fn := fun _ => fun
  | [d1, d2] => { results := [.lit (.bool false)], args := [d1, d2] }
  | _ => none }
def LeaseStepsWrongFalsely : Prop := leaseStepsRow.holds Try.pinned (OpenSpec.ofChange leaseStepsWrong)

/-- 'roostlaw14.LeaseUntil': WHATEVER THE INPUT: true; the input reads as it did. -/
def leaseUntilSpec : ChangeSpec := { name := "leaseUntil", fn := fun _ => fun
  | [d1, d2] => { results := [.lit (.bool true)], args := [d1, d2] }
  | _ => none }
def leaseUntilRow : OpenClaim := { program := "ytfmcpcciokogiaa", sum := "02058c089dc068ca22c8738a9a7d96188ca2136dca966839fe810362bd853645", func := "roost/roostlaw14.LeaseUntil", spec := "leaseUntil", inPlace := ["math.Float64frombits", "math.Float64bits"], unfollowed := true, recurses := true, apart := false }
def LeaseUntilSaid : Prop := leaseUntilRow.holds Try.pinned (OpenSpec.ofChange leaseUntilSpec)

/-- ITS FALSE NEIGHBOUR: 'it returns false'. Refute it at one input. -/
def leaseUntilWrong : ChangeSpec := { name := "leaseUntil", fn := fun _ => fun
  | [d1, d2] => { results := [.lit (.bool false)], args := [d1, d2] }
  | _ => none }
def LeaseUntilWrongFalsely : Prop := leaseUntilRow.holds Try.pinned (OpenSpec.ofChange leaseUntilWrong)

/-- 'roostlaw14.LeaseNever': WHATEVER THE INPUT: true; the input reads as it did. -/
def leaseNeverSpec : ChangeSpec := { name := "leaseNever", fn := fun _ => fun
  | [d1, d2] => { results := [.lit (.bool true)], args := [d1, d2] }
  | _ => none }
def leaseNeverRow : OpenClaim := { program := "ytfmcpcciokogiaa", sum := "02058c089dc068ca22c8738a9a7d96188ca2136dca966839fe810362bd853645", func := "roost/roostlaw14.LeaseNever", spec := "leaseNever", inPlace := ["math.Float64frombits", "math.Float64bits"], unfollowed := true, recurses := true, apart := false }
def LeaseNeverSaid : Prop := leaseNeverRow.holds Try.pinned (OpenSpec.ofChange leaseNeverSpec)

/-- ITS FALSE NEIGHBOUR: 'it returns false'. Refute it at one input. -/
def leaseNeverWrong : ChangeSpec := { name := "leaseNever", fn := fun _ => fun
  | [d1, d2] => { results := [.lit (.bool false)], args := [d1, d2] }
  | _ => none }
def LeaseNeverWrongFalsely : Prop := leaseNeverRow.holds Try.pinned (OpenSpec.ofChange leaseNeverWrong)

/-- 'roostlaw14.LeaseDrop': WHATEVER THE INPUT: true; the input reads as it did. -/
def leaseDropSpec : ChangeSpec := { name := "leaseDrop", fn := fun _ => fun
  | [d1, d2] => { results := [.lit (.bool true)], args := [d1, d2] }
  | _ => none }
def leaseDropRow : OpenClaim := { program := "ytfmcpcciokogiaa", sum := "02058c089dc068ca22c8738a9a7d96188ca2136dca966839fe810362bd853645", func := "roost/roostlaw14.LeaseDrop", spec := "leaseDrop", inPlace := ["math.Float64frombits"], unfollowed := true, recurses := true, apart := false }
def LeaseDropSaid : Prop := leaseDropRow.holds Try.pinned (OpenSpec.ofChange leaseDropSpec)

/-- ITS FALSE NEIGHBOUR: 'it returns false'. Refute it at one input. -/
def leaseDropWrong : ChangeSpec := { name := "leaseDrop", fn := fun _ => fun
  | [d1, d2] => { results := [.lit (.bool false)], args := [d1, d2] }
  | _ => none }
def LeaseDropWrongFalsely : Prop := leaseDropRow.holds Try.pinned (OpenSpec.ofChange leaseDropWrong)

/-- 'roostlaw14.LeaseExact': WHATEVER THE INPUT: true; the input reads as it did. -/
def leaseExactSpec : ChangeSpec := { name := "leaseExact", fn := fun _ => fun
  | [d] => { results := [.lit (.bool true)], args := [d] }
  | _ => none }
def leaseExactRow : OpenClaim := { program := "ytfmcpcciokogiaa", sum := "02058c089dc068ca22c8738a9a7d96188ca2136dca966839fe810362bd853645", func := "roost/roostlaw14.LeaseExact", spec := "leaseExact", inPlace := ["math.Float64frombits", "math.Float64bits"], unfollowed := true, recurses := true, apart := false }
def LeaseExactSaid : Prop := leaseExactRow.holds Try.pinned (OpenSpec.ofChange leaseExactSpec)

/-- ITS FALSE NEIGHBOUR: 'it returns false'. Refute it at one input. -/
def leaseExactWrong : ChangeSpec := { name := "leaseExact", fn := fun _ => fun
  | [d] => { results := [.lit (.bool false)], args := [d] }
  | _ => none }
def LeaseExactWrongFalsely : Prop := leaseExactRow.holds Try.pinned (OpenSpec.ofChange leaseExactWrong)

/- THE SECOND FORM. 'bulk': how many values and letters a reading holds, each counted each time it is reached (what is shared counts as often as it is met; a slice's spare places count too). A statement '..UptoSaid' is the law's where the arguments, and the package variables that the reading takes, are together of bulk at most 1048576: NARROWER than '..Said'. Prove '..Said' where nothing that the law and all that it calls make is longer than what came in: it says more and counts as full. Else prove '..UptoSaid'. A law counts once. -/
mutual
def uptoBulk {H : Type} : DataW H → Nat
  | .lit (.string bytes) => bytes.length + 1
  | .lit _ => 1
  | .nil => 1
  | .ptr d => uptoBulk d + 1
  | .slice elems spare => uptoBulkAll elems + uptoBulkAll spare + 1
  | .agg parts => uptoBulkAll parts + 1
  | .iface _ d => uptoBulk d + 1
  | .map entries => uptoBulkEntries entries + 1
  | .held _ => 1
def uptoBulkAll {H : Type} : List (DataW H) → Nat
  | [] => 0
  | d :: r => uptoBulk d + uptoBulkAll r
def uptoBulkEntries {H : Type} : List (Lit × DataW H) → Nat
  | [] => 0
  | x :: r => uptoBulkEntry x + uptoBulkEntries r
def uptoBulkEntry {H : Type} : Lit × DataW H → Nat
  | (.string bytes, d) => bytes.length + uptoBulk d + 1
  | (_, d) => uptoBulk d + 1
 end
def uptoSmall : (H : Type) → List (DataW H) → Bool := fun _ ds => decide (uptoBulkAll ds ≤ 1048576)
def OpenSpec.upto (s : _root_.Go.ChangeSpec) : _root_.Go.OpenSpec := { _root_.Go.OpenSpec.ofChange s with cond := some uptoSmall }

/-- 'roostlaw14.LeaseSteps', WHERE WHAT IT READS IS OF BULK AT MOST 1048576: true; the input reads as it did. -/
def leaseStepsUptoRow : OpenClaim := { program := "ytfmcpcciokogiaa", sum := "02058c089dc068ca22c8738a9a7d96188ca2136dca966839fe810362bd853645", func := "roost/roostlaw14.LeaseSteps", spec := "leaseSteps", inPlace := ["math.Float64frombits"], unfollowed := true, recurses := true, apart := false, narrowed := true }
def LeaseStepsUptoSaid : Prop := leaseStepsUptoRow.holds Try.pinned (OpenSpec.upto leaseStepsSpec)

/-- 'roostlaw14.LeaseUntil', WHERE WHAT IT READS IS OF BULK AT MOST 1048576: true; the input reads as it did. -/
def leaseUntilUptoRow : OpenClaim := { program := "ytfmcpcciokogiaa", sum := "02058c089dc068ca22c8738a9a7d96188ca2136dca966839fe810362bd853645", func := "roost/roostlaw14.LeaseUntil", spec := "leaseUntil", inPlace := ["math.Float64frombits", "math.Float64bits"], unfollowed := true, recurses := true, apart := false, narrowed := true }
def LeaseUntilUptoSaid : Prop := leaseUntilUptoRow.holds Try.pinned (OpenSpec.upto leaseUntilSpec)

/-- 'roostlaw14.LeaseNever', WHERE WHAT IT READS IS OF BULK AT MOST 1048576: true; the input reads as it did. -/
def leaseNeverUptoRow : OpenClaim := { program := "ytfmcpcciokogiaa", sum := "02058c089dc068ca22c8738a9a7d96188ca2136dca966839fe810362bd853645", func := "roost/roostlaw14.LeaseNever", spec := "leaseNever", inPlace := ["math.Float64frombits", "math.Float64bits"], unfollowed := true, recurses := true, apart := false, narrowed := true }
def LeaseNeverUptoSaid : Prop := leaseNeverUptoRow.holds Try.pinned (OpenSpec.upto leaseNeverSpec)

/-- 'roostlaw14.LeaseDrop', WHERE WHAT IT READS IS OF BULK AT MOST 1048576: true; the input reads as it did. -/
def leaseDropUptoRow : OpenClaim := { program := "ytfmcpcciokogiaa", sum := "02058c089dc068ca22c8738a9a7d96188ca2136dca966839fe810362bd853645", func := "roost/roostlaw14.LeaseDrop", spec := "leaseDrop", inPlace := ["math.Float64frombits"], unfollowed := true, recurses := true, apart := false, narrowed := true }
def LeaseDropUptoSaid : Prop := leaseDropUptoRow.holds Try.pinned (OpenSpec.upto leaseDropSpec)

/-- 'roostlaw14.LeaseExact', WHERE WHAT IT READS IS OF BULK AT MOST 1048576: true; the input reads as it did. -/
def leaseExactUptoRow : OpenClaim := { program := "ytfmcpcciokogiaa", sum := "02058c089dc068ca22c8738a9a7d96188ca2136dca966839fe810362bd853645", func := "roost/roostlaw14.LeaseExact", spec := "leaseExact", inPlace := ["math.Float64frombits", "math.Float64bits"], unfollowed := true, recurses := true, apart := false, narrowed := true }
def LeaseExactUptoSaid : Prop := leaseExactUptoRow.holds Try.pinned (OpenSpec.upto leaseExactSpec)

end Rows
end Go.Proofs.Ytfmcpcciokogiaa
