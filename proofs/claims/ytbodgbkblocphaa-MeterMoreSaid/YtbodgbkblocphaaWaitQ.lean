/- Costs up to 256 divided by 1, 2, 4, 8, 16: how long they last, and a little less: reckoned one by one. -/
import Derived.Test.YtbodgbkblocphaaSmall
namespace Go.Proofs.Ytbodgbkblocphaa
open Go.RowKit Fl
/-- How long a cost of n + 1 lasts at the rate 2 ^ k; a 64th less than that. -/
def wv (k n : Nat) : Nat := N (n + 1) (-(k : Int))
def uv (k n : Nat) : Nat := N ((n + 1) * 2 ^ (6 - k) - 1) (-6)
theorem over_all : ∀ k : Nat, k < 5 → ∀ n, n < 256 → over (FN (n + 1)) (FN (2 ^ k)) = wv k n := by decide +kernel
theorem times_all : ∀ k : Nat, k < 5 → ∀ n, n < 256 → times (wv k n) (FN (2 ^ k)) = FN (n + 1) := by decide +kernel
theorem w64 : N 1 (-6) = 4580160821035794432 := by decide +kernel
theorem least_all (k : Nat) (hk : k < 5) (n : Nat) (hn : n < 256) : 4580160821035794432 ≤ wv k n ∧ wv k n < infR := by
  constructor
  · rw [← w64]
    refine N_mono_at (b := -6) (by omega) (by omega) ?_
    have : 0 < 2 ^ (-(k : Int) - -6).toNat := Nat.two_pow_pos _
    have e : ((-6 : Int) - -6).toNat = 0 := by omega
    rw [e]
    have := Nat.mul_le_mul (show 1 ≤ n + 1 by omega) (show 1 ≤ 2 ^ (-(k : Int) - -6).toNat by omega)
    omega
  · exact (V_exact (m := n + 1) (p := -(k : Int)) (by omega) (by omega) (by omega) (by omega)).2
theorem less_all (k : Nat) (hk : k < 5) (n : Nat) (hn : n < 256) : less (wv k n) 4580160821035794432 = uv k n := by
  obtain ⟨a, ha⟩ : ∃ a : Nat, a = 1068 := ⟨_, rfl⟩
  have h1 := (V_exact (m := n + 1) (p := -(k : Int)) (by omega) (by omega) (by omega) (by omega)).1
  have h2 := V_exact (m := 1) (p := -6) (by omega) (by omega) (by omega) (by omega)
  have e1 : (-(k : Int) + 1074).toNat = (6 - k) + a := by omega
  have e2 : ((-6 : Int) + 1074).toNat = a := by omega
  rw [e1, Nat.pow_add, ← Nat.mul_assoc] at h1
  rw [e2, Nat.one_mul, w64] at h2
  have h3 := (least_all k hk n hn).2
  unfold less
  rw [EV_pos (Nat.le_of_lt h3), EV_pos (Nat.le_of_lt h2.2)]
  have e3 : V (wv k n) = (n + 1) * 2 ^ (6 - k) * 2 ^ a := h1
  rw [e3, h2.1]
  have e4 : (((n + 1) * 2 ^ (6 - k) * 2 ^ a : Nat) : Int) - ((2 ^ a : Nat) : Int) = ((((n + 1) * 2 ^ (6 - k) - 1) * 2 ^ a : Nat) : Int) := by
    have : 0 < 2 ^ (6 - k) := Nat.two_pow_pos _
    have h4 : 1 ≤ (n + 1) * 2 ^ (6 - k) := Nat.mul_pos (by omega) this
    rw [Nat.sub_mul, Nat.one_mul]
    have h5 : 2 ^ a ≤ (n + 1) * 2 ^ (6 - k) * 2 ^ a := Nat.le_mul_of_pos_left _ h4
    omega
  rw [e4, Int.toNat_natCast, N_scale]
  unfold uv
  congr 1
  omega

end Go.Proofs.Ytbodgbkblocphaa
