/- Contracts of the small functions of package math and of the bucket that only compute. -/
import Derived.Test.YtfmcpcciokogiaaRows
import Derived.Test.YtfmcpcciokogiaaFloat
import Derived.WalkKit
import Derived.WalkLawsBesides
import Derived.Laws.FloatArith
import Derived.BigQuiet
import Derived.Deep.QuietTactic
import Derived.Lib.Hide
namespace Go.Proofs.Ytfmcpcciokogiaa
open Go.RowKit

@[go_sem] theorem call_frombits (args : Array Value) (w : World) : (callFunc 10 args).run Try.prog w = ((Extern.MathFloatBits.float64frombits args).run Try.prog w).andThen fun v w' => .ok (.value v) w' :=
  run_callFunc_extern Try.func10 (by kernel_rfl) (by kernel_rfl) (by kernel_rfl) (by kernel_rfl) args w
@[go_sem] theorem call_bits (args : Array Value) (w : World) : (callFunc 41 args).run Try.prog w = ((Extern.MathFloatBits.float64bits args).run Try.prog w).andThen fun v w' => .ok (.value v) w' :=
  run_callFunc_extern Try.func41 (by kernel_rfl) (by kernel_rfl) (by kernel_rfl) (by kernel_rfl) args w
@[go_sem] theorem run_frombits (n : Int) (P : Program) (w : World) : (Extern.MathFloatBits.float64frombits #[.int .u64 n]).run P w = .ok (.float .f64 n.toNat) w := rfl
@[go_sem] theorem run_bits (n : Nat) (P : Program) (w : World) : (Extern.MathFloatBits.float64bits #[.float .f64 n]).run P w = .ok (.int .u64 n) w := rfl
@[go_sem] theorem unary_neg_float (n : Nat) : Op.unary .neg (.float .f64 n) = pure (.float .f64 (Op.negFloat .f64 n)) := rfl

@[go_sem] theorem run_store_float (P : Program) (w : World) (a : Addr) (m : Mode) (k : FloatKind) (b : Nat) : (store a (.float k b) m).run P w = stored P w a (.float k b) m := run_store P w a _ m rfl

/-- The float order, closed to the walk. -/
def isGt (x y : Nat) : Bool := Ieee.double.order x y == some .gt
def isGe (x y : Nat) : Bool := Ieee.double.order x y == some .gt || Ieee.double.order x y == some .eq
def isLt (x y : Nat) : Bool := Ieee.double.order x y == some .lt
def isLe (x y : Nat) : Bool := Ieee.double.order x y == some .lt || Ieee.double.order x y == some .eq
def isEq (x y : Nat) : Bool := Ieee.double.order x y == some .eq
def isNe (x y : Nat) : Bool := Ieee.double.order x y != some .eq
@[go_sem] theorem fold_gt (x y : Nat) : (FloatKind.f64.format.order x y == some Ordering.gt) = isGt x y := rfl
@[go_sem] theorem fold_lt (x y : Nat) : (FloatKind.f64.format.order x y == some Ordering.lt) = isLt x y := rfl
@[go_sem] theorem fold_eq (x y : Nat) : (FloatKind.f64.format.order x y == some Ordering.eq) = isEq x y := rfl
@[go_sem] theorem fold_ne (x y : Nat) : (FloatKind.f64.format.order x y != some Ordering.eq) = isNe x y := rfl
@[go_sem] theorem fold_ge (x y : Nat) : (isGt x y || isEq x y) = isGe x y := rfl
@[go_sem] theorem fold_le (x y : Nat) : (isLt x y || isEq x y) = isLe x y := rfl

theorem isNaN_any (x : Nat) (w : World) : Calls Try.prog 26 #[.float .f64 x] w fun e w' => e = .returned (.bool (isNe x x)) ∧ w = w' := by
  go_enter Try.func26, Try.ntmps26
  go_wp2
  go_ret
  exact ⟨rfl, rfl⟩

theorem inf_pos (w : World) : Calls Try.prog 14 #[.int .i64 1] w fun e w' => e = .returned (.float .f64 9218868437227405312) ∧ w = w' := by
  go_enter Try.func14, Try.ntmps14
  go_wp2
  go_ret
  exact ⟨rfl, rfl⟩

theorem inf_neg (w : World) : Calls Try.prog 14 #[.int .i64 (-1)] w fun e w' => e = .returned (.float .f64 18442240474082181120) ∧ w = w' := by
  go_enter Try.func14, Try.ntmps14
  go_wp2
  go_ret
  exact ⟨rfl, rfl⟩

theorem isInf_pos (x : Nat) (w : World) : Calls Try.prog 21 #[.float .f64 x, .int .i64 1] w fun e w' => e = .returned (.bool (isGt x 9218868437227405311)) ∧ w = w' := by
  go_enter Try.func21, Try.ntmps21
  go_wp2
  go_ret
  exact ⟨rfl, rfl⟩

theorem abs_any (x : Nat) (w : World) : Calls Try.prog 31 #[.float .f64 x] w fun e w' => e = .returned (.float .f64 (bits .andNot .u64 (x : Int) 9223372036854775808).toNat) ∧ w = w' := by
  go_enter Try.func31, Try.ntmps31
  go_wp2
  go_ret
  exact ⟨rfl, rfl⟩

theorem isInf_any (x : Nat) (w : World) : Calls Try.prog 21 #[.float .f64 x, .int .i64 0] w fun e w' => e = .returned (.bool (isGt (bits .andNot .u64 (x : Int) 9223372036854775808).toNat 9218868437227405311)) ∧ w = w' := by
  go_enter Try.func21, Try.ntmps21
  go_wp2_with (go_at_call 31; refine (abs_any _ _).mono ?_; rintro e w' ⟨rfl, rfl⟩)
  go_ret
  exact ⟨rfl, rfl⟩

theorem obits_any (x : Nat) (w : World) : Calls Try.prog 30 #[.float .f64 x] w fun e w' => e = .returned (.int .u64 (if isNe x x then 9221120237041090560 else (x : Int))) ∧ w = w' := by
  cases h : isNe x x
  · go_enter Try.func30, Try.ntmps30
    go_wp2
    go_ret
    exact ⟨rfl, rfl⟩
  · go_enter Try.func30, Try.ntmps30
    go_wp2
    go_ret
    exact ⟨rfl, rfl⟩

end Go.Proofs.Ytfmcpcciokogiaa
