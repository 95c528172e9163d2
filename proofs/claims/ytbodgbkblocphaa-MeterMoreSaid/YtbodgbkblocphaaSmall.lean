/- Whole and small numbers as floats: sums, differences, products and quotients by powers of two are exact. -/
import Derived.Test.YtbodgbkblocphaaTake
namespace Go.Proofs.Ytbodgbkblocphaa
open Go.RowKit Fl

/-- The float of a whole number. -/
def FN (n : Nat) : Nat := N n 0

@[go_sem] theorem floatOfInt_nat (n : Nat) : floatOfInt .f64 (n : Int) = FN n := by
  unfold floatOfInt FloatKind.nearest FloatKind.encode FN N
  have : decide ((n : Int) < 0) = false := by simp
  rw [this]
  rfl

theorem V_small {x : Nat} (h : x < 2 * bin) : V x = x := by
  have hb := bin_pos
  unfold V mg pl
  by_cases h1 : x < bin
  · rw [if_pos h1, if_pos h1]
    simp
  · rw [if_neg h1, if_neg h1]
    have e1 : x / bin = 1 := by
      have : x = bin * 1 + (x - bin) := by omega
      rw [this, Nat.mul_add_div hb, Nat.div_eq_of_lt (by omega)]
    have e2 : x % bin = x - bin := by
      have := Nat.div_add_mod x bin
      rw [e1] at this
      omega
    rw [e1, e2]
    simp
    omega

theorem V_high {a k : Nat} (h1 : bin ≤ k) (h2 : k < 2 * bin) : V (a * bin + k) = k * 2 ^ a := by
  have hb := bin_pos
  have e0 : a * bin + k = bin * (a + 1) + (k - bin) := by rw [Nat.mul_add, Nat.mul_one, Nat.mul_comm]; omega
  have e1 : (a * bin + k) / bin = a + 1 := by rw [e0, Nat.mul_add_div hb, Nat.div_eq_of_lt (by omega)]
  have e2 : (a * bin + k) % bin = k - bin := by rw [e0, Nat.mul_add_mod, Nat.mod_eq_of_lt (by omega)]
  have e3 : ¬ a * bin + k < bin := by have := Nat.zero_le (a * bin); omega
  unfold V mg pl
  rw [if_neg e3, if_neg e3, e1, e2]
  have e4 : bin + (k - bin) = k := by omega
  have e5 : (-1074 + ((a + 1 - 1 : Nat) : Int) + 1074).toNat = a := by omega
  rw [e4, e5]

/-- A number of at most 53 digits at a place that is not too low or too high is a float. -/
theorem V_exact {m : Nat} {p : Int} (h0 : 0 < m) (hm : m < 9007199254740992) (hp : -1074 ≤ p) (hp2 : p ≤ 900) : V (N m p) = m * 2 ^ (p + 1074).toNat ∧ N m p < infR := by
  have hl : m.log2 ≤ 52 := by
    have := (Nat.log2_lt (n := m) (k := 53) (by omega)).2 (by omega)
    omega
  have hl1 : 2 ^ m.log2 ≤ m := Nat.log2_self_le (by omega)
  have hl2 : m < 2 ^ (m.log2 + 1) := Nat.lt_log2_self
  have hb := bin_pow
  have hbp := bin_pos
  have hinf : infR = 2047 * bin := by rw [infR_val, bin_val]
  rw [N_eq (by omega)]
  have hL : lastP m p ≤ p := by unfold lastP; omega
  have e1 : (lastP m p - p).toNat = 0 := by omega
  rw [e1, Nat.pow_zero, rhe_one]
  by_cases c : p + m.log2 - 52 ≤ -1074
  · have hLe : lastP m p = -1074 := by unfold lastP; omega
    rw [hLe]
    have e2 : ((-1074 : Int) + 1074).toNat = 0 := by omega
    have e3 : (p - -1074).toNat = (p + 1074).toNat := by omega
    rw [e2, e3, Nat.zero_mul, Nat.zero_add]
    have hlt : m * 2 ^ (p + 1074).toNat < 2 * bin := by
      have h1 : m * 2 ^ (p + 1074).toNat < 2 ^ (m.log2 + 1) * 2 ^ (p + 1074).toNat := Nat.mul_lt_mul_of_pos_right hl2 (Nat.two_pow_pos _)
      rw [← Nat.pow_add] at h1
      have h2 : 2 ^ (m.log2 + 1 + (p + 1074).toNat) ≤ 2 ^ 53 := Nat.pow_le_pow_right (by omega) (by omega)
      rw [hb]
      omega
    rw [Nat.min_eq_left (by rw [hinf]; omega)]
    exact ⟨V_small hlt, by rw [hinf]; omega⟩
  · have hLe : lastP m p = p + m.log2 - 52 := by unfold lastP; omega
    rw [hLe]
    obtain ⟨a, ha⟩ : ∃ a : Nat, (p + m.log2 - 52 + 1074).toNat = a := ⟨_, rfl⟩
    have e3 : (p - (p + m.log2 - 52)).toNat = 52 - m.log2 := by omega
    rw [ha, e3]
    have k1 : bin ≤ m * 2 ^ (52 - m.log2) := by
      have : 2 ^ m.log2 * 2 ^ (52 - m.log2) ≤ m * 2 ^ (52 - m.log2) := Nat.mul_le_mul_right _ hl1
      rw [← Nat.pow_add, show m.log2 + (52 - m.log2) = 52 by omega] at this
      rw [hb]; exact this
    have k2 : m * 2 ^ (52 - m.log2) < 2 * bin := by
      have : m * 2 ^ (52 - m.log2) < 2 ^ (m.log2 + 1) * 2 ^ (52 - m.log2) := Nat.mul_lt_mul_of_pos_right hl2 (Nat.two_pow_pos _)
      rw [← Nat.pow_add, show m.log2 + 1 + (52 - m.log2) = 53 by omega] at this
      rw [hb]; omega
    have k3 : a * bin + m * 2 ^ (52 - m.log2) < infR := by
      rw [hinf]
      have : a ≤ 1974 := by omega
      have : a * bin ≤ 1974 * bin := Nat.mul_le_mul_right _ this
      generalize m * 2 ^ (52 - m.log2) = t at *
      generalize a * bin = s at *
      omega
    rw [Nat.min_eq_left (Nat.le_of_lt k3)]
    refine ⟨?_, k3⟩
    rw [V_high k1 k2, Nat.mul_assoc, ← Nat.pow_add]
    congr 2
    omega

theorem N_pair (m : Nat) (p : Int) (k : Nat) (b : Int) (h : b + k = p) : N (m * 2 ^ k) b = N m p := by rw [N_scale, h]

/-! ### Whole numbers -/
/-- How many units of the least number one is. -/
@[irreducible] def ex : Nat := 1074
theorem ex_val : ex = 1074 := by unfold ex; rfl
@[irreducible] def U : Nat := 2 ^ ex
theorem U_pos : 0 < U := by unfold U; exact Nat.two_pow_pos _
theorem U_of {p : Int} (h : p = 0) : 2 ^ (p + 1074).toNat = U := by
  have := ex_val
  have e : (p + 1074).toNat = ex := by omega
  unfold U
  rw [e]
theorem N_U (m : Nat) : N (m * U) (-1074) = FN m := by
  have := ex_val
  unfold U FN
  rw [N_scale]
  congr 1
  omega
theorem N_UU (m : Nat) : N (m * (U * U)) (-2148) = FN m := by
  have := ex_val
  unfold U FN
  rw [← Nat.pow_add, N_scale]
  congr 1
  omega

theorem V_FN {n : Nat} (h : n < 9007199254740992) : V (FN n) = n * U ∧ FN n < infR := by
  rcases Nat.eq_zero_or_pos n with h0 | h0
  · subst h0
    have e : FN 0 = 0 := N_zero 0
    rw [e, V_zero, Nat.zero_mul]
    exact ⟨rfl, infR_pos⟩
  · have := V_exact (p := 0) h0 h (by omega) (by omega)
    rw [U_of rfl] at this
    exact this

theorem EV_FN {n : Nat} (h : n < 9007199254740992) : EV (FN n) = ((n * U : Nat) : Int) := by
  rw [EV_pos (Nat.le_of_lt (V_FN h).2), (V_FN h).1]

theorem FN_le {a b : Nat} (ha : a < 9007199254740992) (hb : b < 9007199254740992) : FN a ≤ FN b ↔ a ≤ b := by
  rw [← V_le (V_FN ha).2 (V_FN hb).2, (V_FN ha).1, (V_FN hb).1]
  exact ⟨fun h => Nat.le_of_mul_le_mul_right h U_pos, fun h => Nat.mul_le_mul_right _ h⟩

theorem EV_FN_lt {a b : Nat} (ha : a < 9007199254740992) (hb : b < 9007199254740992) : EV (FN a) < EV (FN b) ↔ a < b := by
  have h1 := EV_le_iff (V_FN hb).2 (V_FN ha).2
  have h2 := FN_le hb ha
  omega

theorem FN_0 : FN 0 = 0 := N_zero 0

theorem FN_min {a b : Nat} (ha : a < 9007199254740992) (hb : b < 9007199254740992) : min (FN a) (FN b) = FN (min a b) := by
  have h := FN_le ha hb
  rcases Nat.le_total a b with c | c
  · rw [Nat.min_eq_left c, Nat.min_eq_left (h.2 c)]
  · rw [Nat.min_eq_right c, Nat.min_eq_right ((FN_le hb ha).2 c)]

theorem plus_FN {a b : Nat} (ha : a < 9007199254740992) (hb : b < 9007199254740992) : plus (FN a) (FN b) = FN (a + b) := by
  unfold plus
  rw [add_fin (V_FN ha).2 (V_FN hb).2, (V_FN ha).1, (V_FN hb).1, ← Nat.add_mul, N_U]
  rfl

theorem less_FN {a b : Nat} (ha : a < 9007199254740992) (hb : b < 9007199254740992) : less (FN a) (FN b) = FN (a - b) := by
  unfold less
  rw [EV_FN ha, EV_FN hb]
  have e : (((a * U : Nat) : Int) - ((b * U : Nat) : Int)).toNat = (a - b) * U := by
    rw [Nat.sub_mul]
    omega
  rw [e, N_U]

theorem times_FN {a b : Nat} (ha : a < 9007199254740992) (hb : b < 9007199254740992) : times (FN a) (FN b) = FN (a * b) := by
  unfold times
  rw [mul_fin (V_FN ha).2 (V_FN hb).2, (V_FN ha).1, (V_FN hb).1]
  have e : a * U * (b * U) = a * b * (U * U) := by
    simp only [Nat.mul_left_comm, Nat.mul_comm]
  rw [e, N_UU]
  rfl

theorem FN_1 : FN 1 = 4607182418800017408 := by decide +kernel

end Go.Proofs.Ytbodgbkblocphaa
