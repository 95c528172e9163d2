/- A sum with a number above nought is no less. -/
import Derived.Test.YtfmcpcciokogiaaFacts
namespace Go.Proofs.Ytfmcpcciokogiaa.Fl
open Ieee

theorem nearest_neg (m : Nat) (p : Int) : double.nearest true m p = 9223372036854775808 + N m p := by
  unfold N Format.nearest
  by_cases hm : m = 0
  · subst hm
    simp only [if_true, Format.word, Bool.false_eq_true, if_false]
    rw [sgn_eq]
  · rw [if_neg hm, if_neg hm]
    simp only [cut_eq, Format.word, if_true, Bool.false_eq_true, if_false]
    rw [sgn_eq]

theorem sum_at {x y : Nat} (hx : rung x < infR) (hy : rung y < infR) :
    ∃ (a b : Int) (p : Int), -1074 ≤ p ∧ double.add x y = some (double.write (.number (if a + b = 0 then (sg x && sg y) else decide (a + b < 0)) (a + b).natAbs p)) ∧
      EV x = a * ((2 ^ (p + 1074).toNat : Nat) : Int) ∧ EV y = b * ((2 ^ (p + 1074).toNat : Nat) : Int) := by
  have h1 := pl_ge (rung x)
  have h2 := pl_ge (rung y)
  have hb1 : -1074 ≤ min (pl (rung x)) (pl (rung y)) := by omega
  refine ⟨signed (sg x) (mg (rung x)) (pl (rung x) - min (pl (rung x)) (pl (rung y))).toNat, signed (sg y) (mg (rung y)) (pl (rung y) - min (pl (rung x)) (pl (rung y))).toNat, min (pl (rung x)) (pl (rung y)), hb1, ?_, EV_at hb1 (Int.min_le_left _ _), EV_at hb1 (Int.min_le_right _ _)⟩
  unfold Format.add
  rw [read_fin hx, read_fin hy]
  rfl

theorem add_ge {x y : Nat} (hx : rung x < infR) (hy : rung y < infR) (h : 0 < EV x + EV y ∨ (EV x + EV y = 0 ∧ (sg x && sg y) = false)) : double.add x y = some (N (EV x + EV y).toNat (-1074)) := by
  obtain ⟨a, b, p, hp, e, ex, ey⟩ := sum_at hx hy
  rw [e]
  rw [ex, ey, ← Int.add_mul] at h ⊢
  have hk : 0 < 2 ^ (p + 1074).toNat := Nat.two_pow_pos _
  generalize hq : 2 ^ (p + 1074).toNat = q at *
  have hab : 0 < a + b ∨ (a + b = 0 ∧ (sg x && sg y) = false) := by
    rcases h with h | ⟨h, hs⟩
    · exact .inl (Int.pos_of_mul_pos_left h (by omega))
    · rcases Int.mul_eq_zero.1 h with h3 | h3
      · exact .inr ⟨h3, hs⟩
      · omega
  have es : (if a + b = 0 then (sg x && sg y) else decide (a + b < 0)) = false := by
    rcases hab with h3 | ⟨h3, hs⟩
    · rw [if_neg (by omega)]
      simp
      omega
    · rw [if_pos h3, hs]
  rw [es, write_pos]
  congr 1
  obtain ⟨c, hc⟩ : ∃ c : Nat, a + b = c := ⟨(a + b).toNat, by omega⟩
  rw [hc, ← Int.natCast_mul, Int.toNat_natCast, ← hq, N_scale, Int.natAbs_natCast]
  congr 1
  omega

theorem add_neg {x y : Nat} (hx : rung x < infR) (hy : rung y < infR) (h : EV x + EV y < 0) : double.add x y = some (9223372036854775808 + N (-(EV x + EV y)).toNat (-1074)) := by
  obtain ⟨a, b, p, hp, e, ex, ey⟩ := sum_at hx hy
  rw [e]
  rw [ex, ey, ← Int.add_mul] at h ⊢
  have hk : 0 < 2 ^ (p + 1074).toNat := Nat.two_pow_pos _
  generalize hq : 2 ^ (p + 1074).toNat = q at *
  have hab : a + b < 0 := by
    rcases Int.lt_or_le (a + b) 0 with h3 | h3
    · exact h3
    · have : 0 ≤ (a + b) * (q : Int) := Int.mul_nonneg h3 (by omega)
      omega
  have es : (if a + b = 0 then (sg x && sg y) else decide (a + b < 0)) = true := by
    rw [if_neg (by omega)]
    simpa using hab
  rw [es]
  show some (double.nearest true (a + b).natAbs p) = _
  rw [nearest_neg]
  obtain ⟨c, hc⟩ : ∃ c : Nat, a + b = -(c : Int) := ⟨(-(a + b)).toNat, by omega⟩
  have e3 : -((a + b) * (q : Int)) = ((c * q : Nat) : Int) := by
    rw [hc, Int.neg_mul, Int.neg_neg, Int.natCast_mul]
  rw [e3, Int.toNat_natCast, ← hq, N_scale]
  have e2 : (a + b).natAbs = c := by omega
  have e4 : (-1074 : Int) + ((p + 1074).toNat : Int) = p := by omega
  rw [e2, e4]

theorem add_pinf {x y : Nat} (hx : rung x < infR) (hy : rung y = infR) (hs : sg y = false) : double.add x y = some infR := by
  unfold Format.add
  rw [read_fin hx, read_infw hy, hs]
  show some (double.write (.infinity false)) = _
  rw [write_inf]

theorem V_mono {x y : Nat} (hx : x ≤ infR) (hy : y ≤ infR) (h : x ≤ y) : V x ≤ V y := by
  rcases Nat.lt_or_ge y infR with h1 | h1
  · exact (V_le (by omega) h1).2 h
  · have : y = infR := by omega
    subst this
    rcases Nat.lt_or_ge x infR with h2 | h2
    · exact Nat.le_of_lt (V_inf h2)
    · have : x = infR := by omega
      rw [this]
      exact Nat.le_refl _

theorem N_of_V {m n : Nat} (hn : n < infR) (h : V n ≤ m) : n ≤ N m (-1074) := by
  have := N_mono (-1074) h
  rwa [N_V hn] at this
theorem N_le_V {m n : Nat} (hn : n < infR) (h : m ≤ V n) : N m (-1074) ≤ n := by
  have := N_mono (-1074) h
  rwa [N_V hn] at this

theorem neg_word {r : Nat} (h : r ≤ infR) : rung (9223372036854775808 + r) = r ∧ sg (9223372036854775808 + r) = true := by
  have hl := infR_lt
  unfold rung sg
  constructor
  · omega
  · have : (9223372036854775808 + r) / 9223372036854775808 % 2 = 1 := by omega
    rw [this]
    rfl

end Go.Proofs.Ytfmcpcciokogiaa.Fl
namespace Go.Proofs.Ytfmcpcciokogiaa
open Fl Ieee

theorem add_up {x y : Nat} (hx : rung x < infR) (hy : num y) (h : 0 < EV y) : ∃ r, Ieee.double.add x y = some r ∧ num r ∧ EV x ≤ EV r := by
  rcases Nat.lt_or_ge (rung y) infR with hy1 | hy1
  · rcases Int.lt_or_le (EV x + EV y) 0 with h1 | h1
    · have hN := N_le (-(EV x + EV y)).toNat (-1074)
      refine ⟨_, add_neg hx hy1 h1, ?_, ?_⟩
      · unfold num
        rw [(neg_word hN).1]
        exact hN
      · have hxn : EV x < 0 := by omega
        have hsx : sg x = true := by
          cases hs : sg x
          · simp only [EV, hs, Bool.false_eq_true, if_false] at hxn
            omega
          · rfl
        have e1 : EV x = -(V (rung x) : Int) := by simp [EV, hsx]
        have e2 : EV (9223372036854775808 + N (-(EV x + EV y)).toNat (-1074)) = -(V (N (-(EV x + EV y)).toNat (-1074)) : Int) := by
          obtain ⟨q1, q2⟩ := neg_word hN
          generalize N (-(EV x + EV y)).toNat (-1074) = c at *
          unfold EV
          rw [q1, q2]
          simp
        rw [e2]
        have h3 : N (-(EV x + EV y)).toNat (-1074) ≤ rung x := N_le_V hx (by rw [e1] at *; omega)
        have h4 := V_mono hN (Nat.le_of_lt hx) h3
        rw [e1] at h4 ⊢
        omega
    · have hN := N_le (EV x + EV y).toNat (-1074)
      have hsy : sg y = false := by
        cases hs : sg y
        · rfl
        · simp only [EV, hs, if_true] at h
          omega
      refine ⟨_, add_ge hx hy1 ?_, num_pos hN, ?_⟩
      · rcases Int.lt_or_eq_of_le h1 with h2 | h2
        · exact .inl h2
        · exact .inr ⟨h2.symm, by rw [hsy, Bool.and_false]⟩
      · rw [EV_pos hN]
        cases hs : sg x
        · have e1 : EV x = (V (rung x) : Int) := by simp [EV, hs]
          have h3 : rung x ≤ N (EV x + EV y).toNat (-1074) := N_of_V hx (by omega)
          have h4 := V_mono (Nat.le_of_lt hx) hN h3
          omega
        · have e1 : EV x = -(V (rung x) : Int) := by simp [EV, hs]
          omega
  · have hye : rung y = infR := by unfold num at hy; omega
    have hsy : sg y = false := by
      cases hs : sg y
      · rfl
      · simp only [EV, hs, if_true] at h
        omega
    refine ⟨infR, add_pinf hx hye hsy, num_pos (Nat.le_refl _), ?_⟩
    have h1 := (EV_fin hx).2
    have h2 := K_lt
    have e : EV infR = I := rfl
    omega

end Go.Proofs.Ytfmcpcciokogiaa
