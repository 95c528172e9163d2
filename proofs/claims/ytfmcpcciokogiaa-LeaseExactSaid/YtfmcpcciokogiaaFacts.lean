/- What the comparisons of floats come to, as orders of whole numbers; that a bucket and the reference's go in step. No walk here. -/
import Derived.Test.YtfmcpcciokogiaaNum
namespace Go.Proofs.Ytfmcpcciokogiaa
open Go.RowKit Fl

/-- The word is no NaN. -/
def num (x : Nat) : Prop := rung x ≤ infR

theorem order_num {x y : Nat} (hx : num x) (hy : num y) : Ieee.double.order x y = some (compare (EV x) (EV y)) := order_any hx hy
theorem order_none {x y : Nat} (h : ¬ (num x ∧ num y)) : Ieee.double.order x y = none := by
  by_cases hx : num x
  · exact order_nan_right x (Nat.lt_of_not_le fun hy => h ⟨hx, hy⟩)
  · exact order_nan_left y (Nat.lt_of_not_le hx)

theorem cmp_cases (a b : Int) : (compare a b = .lt ∧ a < b) ∨ (compare a b = .eq ∧ a = b) ∨ (compare a b = .gt ∧ b < a) := by
  simp only [compare, compareOfLessAndEq]
  by_cases h : a < b
  · exact .inl ⟨by rw [if_pos h], h⟩
  · by_cases h2 : a = b
    · exact .inr (.inl ⟨by rw [if_neg h, if_pos h2], h2⟩)
    · exact .inr (.inr ⟨by rw [if_neg h, if_neg h2], by omega⟩)

theorem gt_iff {x y : Nat} : isGt x y = true ↔ num x ∧ num y ∧ EV y < EV x := by
  unfold isGt
  by_cases h : num x ∧ num y
  · rw [order_num h.1 h.2]
    rcases cmp_cases (EV x) (EV y) with ⟨e, hl⟩ | ⟨e, hl⟩ | ⟨e, hl⟩ <;> rw [e] <;> simp [h.1, h.2] <;> omega
  · rw [order_none h]
    simp only [reduceCtorEq, beq_iff_eq, false_iff]
    exact fun ⟨a, b, _⟩ => h ⟨a, b⟩
theorem ge_iff {x y : Nat} : isGe x y = true ↔ num x ∧ num y ∧ EV y ≤ EV x := by
  unfold isGe
  by_cases h : num x ∧ num y
  · rw [order_num h.1 h.2]
    rcases cmp_cases (EV x) (EV y) with ⟨e, hl⟩ | ⟨e, hl⟩ | ⟨e, hl⟩ <;> rw [e] <;> simp [h.1, h.2] <;> omega
  · rw [order_none h]
    simp only [reduceCtorEq, beq_iff_eq, Bool.or_eq_true, or_self, false_iff]
    exact fun ⟨a, b, _⟩ => h ⟨a, b⟩
theorem lt_iff {x y : Nat} : isLt x y = true ↔ num x ∧ num y ∧ EV x < EV y := by
  unfold isLt
  by_cases h : num x ∧ num y
  · rw [order_num h.1 h.2]
    rcases cmp_cases (EV x) (EV y) with ⟨e, hl⟩ | ⟨e, hl⟩ | ⟨e, hl⟩ <;> rw [e] <;> simp [h.1, h.2] <;> omega
  · rw [order_none h]
    simp only [reduceCtorEq, beq_iff_eq, false_iff]
    exact fun ⟨a, b, _⟩ => h ⟨a, b⟩
theorem le_iff {x y : Nat} : isLe x y = true ↔ num x ∧ num y ∧ EV x ≤ EV y := by
  unfold isLe
  by_cases h : num x ∧ num y
  · rw [order_num h.1 h.2]
    rcases cmp_cases (EV x) (EV y) with ⟨e, hl⟩ | ⟨e, hl⟩ | ⟨e, hl⟩ <;> rw [e] <;> simp [h.1, h.2] <;> omega
  · rw [order_none h]
    simp only [reduceCtorEq, beq_iff_eq, Bool.or_eq_true, or_self, false_iff]
    exact fun ⟨a, b, _⟩ => h ⟨a, b⟩
theorem eq_iff {x y : Nat} : isEq x y = true ↔ num x ∧ num y ∧ EV x = EV y := by
  unfold isEq
  by_cases h : num x ∧ num y
  · rw [order_num h.1 h.2]
    rcases cmp_cases (EV x) (EV y) with ⟨e, hl⟩ | ⟨e, hl⟩ | ⟨e, hl⟩ <;> rw [e] <;> simp [h.1, h.2] <;> omega
  · rw [order_none h]
    simp only [reduceCtorEq, beq_iff_eq, false_iff]
    exact fun ⟨a, b, _⟩ => h ⟨a, b⟩
theorem ne_iff {x y : Nat} : isNe x y = true ↔ ¬ (num x ∧ num y ∧ EV x = EV y) := by
  have : isNe x y = !isEq x y := rfl
  rw [this, Bool.not_eq_true', ← Bool.not_eq_true, eq_iff]

theorem off {b : Bool} {p : Prop} (h : b = true ↔ p) (hp : ¬ p) : b = false := by
  rw [← Bool.not_eq_true, h]; exact hp

/-! ### The constants -/
theorem num_pos {x : Nat} (h : x ≤ infR) : num x := by unfold num; rw [rung_pos h]; exact h
theorem EV_0 : EV 0 = 0 := by rw [EV_pos (Nat.zero_le _), V_zero]; rfl
theorem num_0 : num 0 := num_pos (Nat.zero_le _)
theorem mx_lt : (9218868437227405311 : Nat) < infR := by rw [infR_val]; decide
theorem num_mx : num 9218868437227405311 := num_pos (Nat.le_of_lt mx_lt)
/-- The greatest number, and infinity. -/
def K : Int := EV 9218868437227405311
def I : Int := EV infR
theorem K_eq : EV 9218868437227405311 = K := rfl
theorem I_eq : EV 9218868437227405312 = I := by unfold I; rw [infR_val]
theorem K_pos : 0 < K := by
  unfold K
  rw [EV_pos (Nat.le_of_lt mx_lt)]
  have := (V_lt (x := 0) infR_pos mx_lt).2 (by decide)
  rw [V_zero] at this
  omega
theorem K_lt : K < I := by
  unfold K I
  rw [EV_pos (Nat.le_of_lt mx_lt), EV_pos (Nat.le_refl _)]
  have := V_inf mx_lt
  omega
theorem V_I : (V infR : Int) = I := by unfold I; rw [EV_pos (Nat.le_refl _)]

theorem EV_fin {x : Nat} (h : rung x < infR) : -K ≤ EV x ∧ EV x ≤ K := by
  have h1 : V (rung x) ≤ V 9218868437227405311 := (V_le h mx_lt).2 (by have := infR_val; omega)
  have h2 : K = V 9218868437227405311 := by unfold K; rw [EV_pos (Nat.le_of_lt mx_lt)]
  unfold EV
  split <;> omega
theorem EV_infw {x : Nat} (h : rung x = infR) : EV x = I ∨ EV x = -I := by
  have := V_I
  unfold EV
  rw [h]
  split <;> omega
theorem fin_of {x : Nat} (hx : num x) (h1 : EV x ≠ I) (h2 : EV x ≠ -I) : rung x < infR := by
  rcases Nat.lt_or_ge (rung x) infR with h | h
  · exact h
  · rcases EV_infw (x := x) (Nat.le_antisymm hx h) with e | e <;> omega
theorem EV_range {x : Nat} (hx : num x) : EV x = I ∨ EV x = -I ∨ (-K ≤ EV x ∧ EV x ≤ K) := by
  rcases Nat.lt_or_ge (rung x) infR with h | h
  · exact .inr (.inr (EV_fin h))
  · rcases EV_infw (x := x) (Nat.le_antisymm hx h) with e | e
    · exact .inl e
    · exact .inr (.inl e)

theorem xor_top (x : Nat) : rung (Op.negFloat .f64 x) = rung x ∧ sg (Op.negFloat .f64 x) = !sg x := by
  have e : Op.negFloat .f64 x = x ^^^ 2 ^ 63 := rfl
  rw [e]
  constructor
  · unfold rung
    show (x ^^^ 2 ^ 63) % 2 ^ 63 = x % 2 ^ 63
    rw [Nat.xor_mod_two_pow, Nat.mod_self, Nat.xor_zero]
  · have h : ∀ y : Nat, sg y = y.testBit 63 := fun y => by
      rw [Nat.testBit_eq_decide_div_mod_eq]
      unfold sg
      rw [Bool.eq_iff_iff]
      simp
    rw [h, h, Nat.testBit_xor, Nat.testBit_two_pow_self]
    simp

theorem EV_neg (x : Nat) : EV (Op.negFloat .f64 x) = -EV x := by
  unfold EV
  rw [(xor_top x).1, (xor_top x).2]
  cases sg x <;> simp
theorem num_neg {x : Nat} : num (Op.negFloat .f64 x) ↔ num x := by unfold num; rw [(xor_top x).1]

/-- 'IsInf(x, 1)', 'IsInf(x, -1)'. -/
theorem pinf_iff {x : Nat} : isGt x 9218868437227405311 = true ↔ num x ∧ EV x = I := by
  rw [gt_iff, K_eq]
  have := K_lt
  have := K_pos
  constructor
  · rintro ⟨h, _, h2⟩
    rcases EV_range h with e | e | e
    · exact ⟨h, e⟩
    · omega
    · omega
  · rintro ⟨h, e⟩
    exact ⟨h, num_mx, by omega⟩
theorem ninf_iff {x : Nat} : isGt (Op.negFloat .f64 x) 9218868437227405311 = true ↔ num x ∧ EV x = -I := by
  rw [pinf_iff, num_neg, EV_neg]
  constructor <;> rintro ⟨h, e⟩ <;> exact ⟨h, by omega⟩

theorem abs_word {x : Nat} (hx : x < 18446744073709551616) : (bits .andNot .u64 (x : Int) 9223372036854775808).toNat = rung x := by
  have h := u64_andNot_nat x 9223372036854775808 hx (by decide)
  have e : ((9223372036854775808 : Nat) : Int) = (9223372036854775808 : Int) := rfl
  rw [e] at h
  rw [h, Int.toNat_natCast]
  show x &&& (2 ^ 63 - 1) = x % 2 ^ 63
  exact Nat.and_two_pow_sub_one_eq_mod x 63

theorem floatBits_add (x y : Nat) : floatBits .add .f64 x y = Ieee.double.add x y := rfl
theorem floatBits_sub (x y : Nat) : floatBits .sub .f64 x y = Ieee.double.sub x y := rfl
theorem floatBits_mul (x y : Nat) : floatBits .mul .f64 x y = Ieee.double.mul x y := rfl
theorem floatBits_quo (x y : Nat) : floatBits .quo .f64 x y = Ieee.double.div x y := rfl

end Go.Proofs.Ytfmcpcciokogiaa
