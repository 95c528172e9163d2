/- Costs up to 256 divided by 1, 2, 4, 8, 16: how long they last, and a little less; a bucket that was emptied at the time 0. -/
import Derived.Test.YtbodgbkblocphaaWaitQ
import Derived.Test.YtbodgbkblocphaaWake
namespace Go.Proofs.Ytbodgbkblocphaa
open Go.RowKit Fl
theorem small_all : ∀ k : Nat, k < 5 → ∀ n, n < 256 → times (uv k n) (FN (2 ^ k)) < FN (n + 1) := by decide +kernel
theorem plus_one : ∀ n, n < 257 → Ieee.double.add (FN n) 4607182418800017408 = some (FN (n + 1)) := by decide +kernel
theorem u_all (k : Nat) (hk : k < 5) (n : Nat) (hn : n < 256) : 0 < uv k n ∧ uv k n < infR := by
  have h1 : 2 ^ 2 ≤ 2 ^ (6 - k) := Nat.pow_le_pow_right (by omega) (by omega)
  have h2 : 2 ^ (6 - k) ≤ 2 ^ 6 := Nat.pow_le_pow_right (by omega) (by omega)
  have h3 := Nat.mul_le_mul (show 1 ≤ n + 1 by omega) h1
  have h4 := Nat.mul_le_mul (show n + 1 ≤ 256 by omega) h2
  have h5 := V_exact (m := (n + 1) * 2 ^ (6 - k) - 1) (p := -6) (by omega) (by omega) (by omega) (by omega)
  refine ⟨?_, h5.2⟩
  rcases Nat.eq_zero_or_pos (uv k n) with h0 | h0
  · exfalso
    have h6 := h5.1
    unfold uv at h0
    rw [h0, V_zero] at h6
    have : 0 < ((n + 1) * 2 ^ (6 - k) - 1) * 2 ^ ((-6 : Int) + 1074).toNat := Nat.mul_pos (by omega) (Nat.two_pow_pos _)
    omega
  · exact h0

theorem less_self {x : Nat} (h : x < infR) : less x 0 = x := by
  unfold less
  rw [EV_0, EV_pos (Nat.le_of_lt h)]
  simp only [Int.sub_zero, Int.toNat_natCast]
  exact N_V h

theorem plus_zero {x : Nat} (h : x < infR) : plus 0 x = x := by
  unfold plus
  rw [add_fin infR_pos h, V_zero, Nat.zero_add, N_V h]
  rfl

/-- A full bucket that is asked for all it has at the time 0. -/
theorem empties {r bu cost : Nat} (hb : bu < infR) (hc : num cost) (he : EV cost = EV bu) :
    Ans r bu bu 18442240474082181120 0 cost = 0 ∧ LvA r bu bu 18442240474082181120 0 cost = 0 ∧ LaA bu 18442240474082181120 0 cost = 0 := by
  have h0 := EV_nonneg (Nat.le_of_lt hb)
  have hK := K_lt
  have hKp := K_pos
  have hR : Ref bu 0 cost = 0 := by
    unfold Ref
    rw [if_neg, if_neg (by omega)]
    rintro (e | e | e)
    · exact e num_0
    · rw [EV_0] at e; omega
    · exact e ⟨hc, by omega⟩
  have hL : Lev r bu bu 18442240474082181120 0 = bu := by unfold Lev; rw [if_pos (.inl EV_ninf)]
  refine ⟨?_, ?_, ?_⟩
  · unfold Ans
    rw [if_pos hR, hL, if_neg (by omega)]
  · unfold LvA
    rw [if_pos hR, hL, if_neg (by omega)]
    unfold less
    rw [he, Int.sub_self]
    exact N_zero _
  · unfold LaA Last
    rw [if_pos hR, if_pos (by rw [EV_ninf, EV_0]; omega)]

/-- The level of a bucket that was emptied at the time 0. -/
theorem Lev_empty {r bu now : Nat} (hr : r < infR) (hr0 : r ≠ 0) (hn : now < infR) (h0 : 0 < now) (ht : times now r < infR) : Lev r bu 0 0 now = min bu (times now r) := by
  have h1 : 0 < EV now := by
    have : EV now ≠ 0 := fun e => by
      have := (EV_zero_iff (Nat.le_of_lt hn)).1 e
      omega
    have := EV_nonneg (Nat.le_of_lt hn)
    omega
  have hK := K_lt
  have hKp := K_pos
  have hnI : EV now ≠ I := fun e => by
    have := (EV_I_iff (Nat.le_of_lt hn)).1 e
    omega
  unfold Lev
  rw [if_neg, if_neg, less_self hn, plus_zero ht]
  · rintro (e | e)
    · omega
    · exact hnI e
  · rw [EV_0]
    rintro (e | e | e)
    · omega
    · exact e ⟨num_pos (Nat.le_of_lt hn), h1⟩
    · exact hr0 e

/-- The three asks of the law. -/
theorem wait_facts {k n m : Nat} (hk : k < 5) (hn : n < 256) (hm : n ≤ m) (hm2 : m < 256) :
    Wai (FN (2 ^ k)) (FN (m + 1)) 0 0 0 (FN (n + 1)) = wv k n ∧ Ans (FN (2 ^ k)) (FN (m + 1)) 0 0 (uv k n) (FN (n + 1)) = 19 ∧ Ans (FN (2 ^ k)) (FN (m + 1)) 0 0 (wv k n) (FN (n + 1)) = 0 := by
  have hp : 2 ^ k ≤ 16 := by
    have : 2 ^ k ≤ 2 ^ 4 := Nat.pow_le_pow_right (by omega) (by omega)
    omega
  have hpp : 0 < 2 ^ k := Nat.two_pow_pos k
  have fr := (V_FN (n := 2 ^ k) (by omega)).2
  have fc := (V_FN (n := n + 1) (by omega)).2
  have hr0 : FN (2 ^ k) ≠ 0 := fun e => by
    have := (FN_le (a := 2 ^ k) (b := 0) (by omega) (by omega)).1 (by rw [e]; exact Nat.zero_le _)
    omega
  have ec := EV_FN (n := n + 1) (by omega)
  have em := EV_FN (n := m + 1) (by omega)
  have hle : EV (FN (n + 1)) ≤ EV (FN (m + 1)) := (EV_le_iff fc (V_FN (n := m + 1) (by omega)).2).2 ((FN_le (by omega) (by omega)).2 (by omega))
  have hK := K_lt
  have hKp := K_pos
  have hRef : ∀ now, now < infR → Ref (FN (m + 1)) now (FN (n + 1)) = 0 := by
    intro now hnow
    have h0 := EV_nonneg (Nat.le_of_lt hnow)
    unfold Ref
    rw [if_neg, if_neg (by omega)]
    rintro (e | e | e)
    · exact e (num_pos (Nat.le_of_lt hnow))
    · omega
    · exact e ⟨num_pos (Nat.le_of_lt fc), by omega⟩
  have hcm : FN (n + 1) ≤ FN (m + 1) := (FN_le (by omega) (by omega)).2 (by omega)
  have hcpos : 0 < EV (FN (n + 1)) := by
    rw [ec]
    have : 0 < (n + 1) * U := Nat.mul_pos (by omega) U_pos
    omega
  refine ⟨?_, ?_, ?_⟩
  · have hL : Lev (FN (2 ^ k)) (FN (m + 1)) 0 0 0 = 0 := by
      unfold Lev
      rw [if_pos (.inr (.inl fun e => by omega))]
    unfold Wai
    rw [if_pos (hRef 0 infR_pos), hL, if_neg (by rw [EV_0]; omega), if_neg hr0, less_self fc]
    exact over_all k hk n hn
  · have hu := u_all k hk n hn
    have hs := small_all k hk n hn
    have hL := Lev_empty (bu := FN (m + 1)) fr hr0 hu.2 hu.1 (Nat.lt_trans hs fc)
    rw [Nat.min_eq_right (by omega)] at hL
    unfold Ans
    rw [if_pos (hRef _ hu.2), hL, if_pos]
    have h1 := EV_le_iff fc (Nat.lt_trans hs fc)
    omega
  · have hw := least_all k hk n hn
    have ht := times_all k hk n hn
    have hL := Lev_empty (bu := FN (m + 1)) fr hr0 hw.2 (by omega) (by rw [ht]; exact fc)
    rw [ht, Nat.min_eq_right hcm] at hL
    unfold Ans
    rw [if_pos (hRef _ hw.2), hL, if_neg (by omega)]

end Go.Proofs.Ytbodgbkblocphaa
