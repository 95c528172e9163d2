/- Plain facts on the words of the model's 64-bit floats: rounding is monotone, exact where it can be, and the order of words that are not negative is the order of their numbers. No program in sight. -/
import Derived.Laws.FloatArith
namespace Go.Proofs.Ytfmcpcciokogiaa.Fl
open Ieee

/-- Half to even: 'n / g' as a whole number. -/
def rhe (n g : Nat) : Nat := n / g + (if g < 2 * (n % g) ∨ (g = 2 * (n % g) ∧ n / g % 2 = 1) then 1 else 0)

theorem cut_eq (neg : Bool) (n drop : Nat) : Toward.even.cut neg n drop = rhe n (2 ^ drop) := by
  unfold Toward.cut rhe
  simp only [Nat.one_shiftLeft]
  have hn : n < 2 ^ (n.log2 + 1) := Nat.lt_log2_self
  by_cases h : drop ≤ n.log2 + 2
  · rw [Nat.min_eq_left h]
    congr 1
    by_cases h1 : 2 ^ drop < 2 * (n % 2 ^ drop)
    · simp [h1]
    · by_cases h2 : 2 ^ drop = 2 * (n % 2 ^ drop) ∧ n / 2 ^ drop % 2 = 1
      · rw [if_pos (Or.inr h2)]
        simp [h2.2]
        omega
      · rw [if_neg (by omega)]
        simp only [h1, decide_false, Bool.false_or]
        have : (2 ^ drop == 2 * (n % 2 ^ drop) && n / 2 ^ drop % 2 == 1) = false := by
          rw [Bool.eq_false_iff]
          intro h3
          simp only [Bool.and_eq_true, beq_iff_eq] at h3
          exact h2 h3
        rw [this]; rfl
  · have hd : n.log2 + 2 < drop := by omega
    rw [Nat.min_eq_right (by omega)]
    have hp : 2 ^ (n.log2 + 2) = 2 * 2 ^ (n.log2 + 1) := by rw [Nat.pow_succ]; omega
    have hq : 2 ^ (n.log2 + 2) ≤ 2 ^ drop := Nat.pow_le_pow_right (by omega) (by omega)
    rw [Nat.div_eq_of_lt (by omega), Nat.mod_eq_of_lt (by omega : n < 2 ^ (n.log2 + 2)), Nat.div_eq_of_lt (by omega : n < 2 ^ drop), Nat.mod_eq_of_lt (by omega : n < 2 ^ drop)]
    rw [if_neg (by omega)]
    have h1 : ¬ 2 ^ (n.log2 + 2) < 2 * n := by omega
    simp [h1]

theorem rhe_one (n : Nat) : rhe n 1 = n := by
  unfold rhe
  have : n % 1 = 0 := Nat.mod_one n
  rw [this, if_neg (by omega)]
  simp

theorem rhe_scale (n g k : Nat) (hk : 0 < k) : rhe (n * k) (g * k) = rhe n g := by
  unfold rhe
  rw [Nat.mul_div_mul_right n g hk, Nat.mul_mod_mul_right]
  have e1 : (g * k < 2 * (n % g * k)) ↔ g < 2 * (n % g) := by
    rw [← Nat.mul_assoc]
    exact ⟨fun h => Nat.lt_of_mul_lt_mul_right h, fun h => Nat.mul_lt_mul_of_pos_right h hk⟩
  have e2 : (g * k = 2 * (n % g * k)) ↔ g = 2 * (n % g) := by
    rw [← Nat.mul_assoc]
    exact ⟨fun h => Nat.eq_of_mul_eq_mul_right hk h, fun h => by rw [← h]⟩
  simp only [e1, e2]

theorem rhe_mono {n m g : Nat} (hg : 0 < g) (h : n ≤ m) : rhe n g ≤ rhe m g := by
  have hq : n / g ≤ m / g := Nat.div_le_div_right h
  unfold rhe
  rcases Nat.lt_or_ge (n / g) (m / g) with hlt | hge
  · split <;> split <;> omega
  · have he : n / g = m / g := by omega
    have h1 := Nat.div_add_mod n g
    have h2 := Nat.div_add_mod m g
    rw [he] at h1
    have hr : n % g ≤ m % g := by omega
    have hm : m % g < g := Nat.mod_lt _ hg
    rw [he]
    split <;> split <;> omega

theorem rhe_mul (a g : Nat) (hg : 0 < g) : rhe (a * g) g = a := by
  have := rhe_scale a 1 g hg
  rw [Nat.one_mul] at this
  rw [this, rhe_one]

theorem rhe_ge {a n g : Nat} (hg : 0 < g) (h : a * g ≤ n) : a ≤ rhe n g := by
  have := rhe_mono hg h
  rwa [rhe_mul a g hg] at this

theorem rhe_le {a n g : Nat} (hg : 0 < g) (h : n ≤ a * g) : rhe n g ≤ a := by
  have := rhe_mono hg h
  rwa [rhe_mul a g hg] at this

theorem rhe_shift (m a b a' b' : Nat) (h : a + b' = a' + b) : rhe (m * 2 ^ a) (2 ^ b) = rhe (m * 2 ^ a') (2 ^ b') := by
  have h1 := rhe_scale (m * 2 ^ a) (2 ^ b) (2 ^ b') (Nat.two_pow_pos _)
  have h2 := rhe_scale (m * 2 ^ a') (2 ^ b') (2 ^ b) (Nat.two_pow_pos _)
  rw [← h1, ← h2, Nat.mul_assoc, Nat.mul_assoc, ← Nat.pow_add, ← Nat.pow_add, ← Nat.pow_add, ← Nat.pow_add, h, Nat.add_comm b b']

theorem log2_scale {m : Nat} (hm : m ≠ 0) (k : Nat) : (m * 2 ^ k).log2 = m.log2 + k := by
  have hp : 0 < 2 ^ k := Nat.two_pow_pos k
  rw [Nat.log2_eq_iff (Nat.mul_ne_zero hm (by omega))]
  have h1 : 2 ^ m.log2 ≤ m := Nat.log2_self_le hm
  have h2 : m < 2 ^ (m.log2 + 1) := Nat.lt_log2_self
  constructor
  · rw [Nat.pow_add]; exact Nat.mul_le_mul_right _ h1
  · rw [show m.log2 + k + 1 = (m.log2 + 1) + k by omega, Nat.pow_add]
    exact Nat.mul_lt_mul_of_pos_right h2 hp

theorem log2_mono {m n : Nat} (hm : m ≠ 0) (h : m ≤ n) : m.log2 ≤ n.log2 := by
  have h1 : 2 ^ m.log2 ≤ n := Nat.le_trans (Nat.log2_self_le hm) h
  exact (Nat.le_log2 (by omega)).2 h1

/-- The infinity's rung, and the binade. -/
@[irreducible] def infR : Nat := 9218868437227405312
@[irreducible] def bin : Nat := 4503599627370496
theorem infR_val : infR = 9218868437227405312 := by unfold infR; rfl
theorem bin_val : bin = 4503599627370496 := by unfold bin; rfl
theorem infR_eq : double.infRung = infR := by rw [infR_val]; decide
theorem bin_eq : double.binade = bin := by rw [bin_val]; decide
theorem bin_pow : bin = 2 ^ 52 := by rw [bin_val]
theorem bin_pos : 0 < bin := by rw [bin_val]; decide
theorem infR_pos : 0 < infR := by rw [infR_val]; decide
theorem bin_lt_inf : bin < infR := by rw [infR_val, bin_val]; decide
theorem infR_lt : infR < 9223372036854775808 := by rw [infR_val]; decide
theorem sgn_eq : double.signWeight = 9223372036854775808 := by decide
theorem least_eq : double.leastPlace = -1074 := by decide

/-- The word nearest to 'm * 2 ^ p'. -/
def N (m : Nat) (p : Int) : Nat := double.nearest false m p

theorem N_zero (p : Int) : N 0 p = 0 := by
  unfold N Format.nearest
  rfl

/-- The place of the last digit that is kept. -/
def lastP (m : Nat) (p : Int) : Int := max (p + m.log2 - 52) (-1074)

theorem N_eq {m : Nat} (hm : m ≠ 0) (p : Int) : N m p = min ((lastP m p + 1074).toNat * bin + rhe (m * 2 ^ (p - lastP m p).toNat) (2 ^ (lastP m p - p).toNat)) infR := by
  unfold N Format.nearest
  rw [if_neg hm]
  simp only [cut_eq, least_eq, infR_eq, bin_eq, Format.word, Nat.shiftLeft_eq]
  have e : max (p + (m.log2 : Int) - (double.fractionBits : Nat)) (-1074) = lastP m p := rfl
  rw [e]
  simp only [Bool.false_eq_true, if_false, Int.sub_neg]

theorem N_le (m : Nat) (p : Int) : N m p ≤ infR := by
  by_cases hm : m = 0
  · subst hm; rw [N_zero]; exact Nat.zero_le _
  · rw [N_eq hm]; exact Nat.min_le_right _ _

theorem nearest_pos (m : Nat) (p : Int) : double.nearest false m p = N m p := rfl

theorem N_scale (m k : Nat) (p : Int) : N (m * 2 ^ k) p = N m (p + k) := by
  by_cases hm : m = 0
  · subst hm; rw [Nat.zero_mul, N_zero, N_zero]
  · have hp : 0 < 2 ^ k := Nat.two_pow_pos k
    rw [N_eq (Nat.mul_ne_zero hm (by omega)), N_eq hm]
    have hl : lastP (m * 2 ^ k) p = lastP m (p + k) := by
      unfold lastP
      rw [log2_scale hm]
      congr 1
      omega
    rw [hl]
    generalize lastP m (p + k) = L
    congr 2
    rw [Nat.mul_assoc, ← Nat.pow_add]
    exact rhe_shift m _ _ _ _ (by omega)

theorem N_mono {m n : Nat} (p : Int) (h : m ≤ n) : N m p ≤ N n p := by
  by_cases hm : m = 0
  · subst hm; rw [N_zero]; exact Nat.zero_le _
  · have hn : n ≠ 0 := by omega
    rw [N_eq hm, N_eq hn]
    have hl := log2_mono hm h
    have hL : lastP m p ≤ lastP n p := by unfold lastP; omega
    have hgoal : (lastP m p + 1074).toNat * bin + rhe (m * 2 ^ (p - lastP m p).toNat) (2 ^ (lastP m p - p).toNat) ≤
        (lastP n p + 1074).toNat * bin + rhe (n * 2 ^ (p - lastP n p).toNat) (2 ^ (lastP n p - p).toNat) := by
      have hlow : -1074 ≤ lastP m p := by unfold lastP; omega
      rcases Int.lt_or_eq_of_le hL with hlt | heq
      · -- a higher binade
        have hk1 : rhe (m * 2 ^ (p - lastP m p).toNat) (2 ^ (lastP m p - p).toNat) ≤ 2 * bin := by
          refine rhe_le (Nat.two_pow_pos _) ?_
          have h2 : m < 2 ^ (m.log2 + 1) := Nat.lt_log2_self
          have h3 : p + m.log2 - 52 ≤ lastP m p := by unfold lastP; omega
          have : m * 2 ^ (p - lastP m p).toNat ≤ 2 ^ (m.log2 + 1) * 2 ^ (p - lastP m p).toNat := Nat.mul_le_mul_right _ (by omega)
          refine Nat.le_trans this ?_
          rw [← Nat.pow_add, bin_pow, show (2 : Nat) * 2 ^ 52 = 2 ^ 53 by rfl, ← Nat.pow_add]
          exact Nat.pow_le_pow_right (by omega) (by omega)
        have hk2 : bin ≤ rhe (n * 2 ^ (p - lastP n p).toNat) (2 ^ (lastP n p - p).toNat) := by
          refine rhe_ge (Nat.two_pow_pos _) ?_
          have h1 : 2 ^ n.log2 ≤ n := Nat.log2_self_le hn
          have h3 : lastP n p = p + n.log2 - 52 := by unfold lastP at hlt ⊢; omega
          have : 2 ^ n.log2 * 2 ^ (p - lastP n p).toNat ≤ n * 2 ^ (p - lastP n p).toNat := Nat.mul_le_mul_right _ h1
          refine Nat.le_trans ?_ this
          rw [← Nat.pow_add, bin_pow, ← Nat.pow_add]
          exact Nat.pow_le_pow_right (by omega) (by omega)
        have hk3 : (lastP m p + 1074).toNat + 1 ≤ (lastP n p + 1074).toNat := by omega
        have hk4 : ((lastP m p + 1074).toNat + 1) * bin ≤ (lastP n p + 1074).toNat * bin := Nat.mul_le_mul_right _ hk3
        rw [Nat.add_mul, Nat.one_mul] at hk4
        generalize rhe (m * 2 ^ (p - lastP m p).toNat) (2 ^ (lastP m p - p).toNat) = r1 at hk1 ⊢
        generalize rhe (n * 2 ^ (p - lastP n p).toNat) (2 ^ (lastP n p - p).toNat) = r2 at hk2 ⊢
        generalize (lastP m p + 1074).toNat * bin = t1 at hk4 ⊢
        generalize (lastP n p + 1074).toNat * bin = t2 at hk4 ⊢
        generalize bin = B at *
        omega
      · rw [heq]
        have : rhe (m * 2 ^ (p - lastP n p).toNat) (2 ^ (lastP n p - p).toNat) ≤ rhe (n * 2 ^ (p - lastP n p).toNat) (2 ^ (lastP n p - p).toNat) :=
          rhe_mono (Nat.two_pow_pos _) (Nat.mul_le_mul_right _ h)
        exact Nat.add_le_add_left this _
    exact Nat.le_min.2 ⟨Nat.le_trans (Nat.min_le_left _ _) hgoal, Nat.min_le_right _ _⟩

/-- Two numbers at whatever places: their exact order is kept. 'b' is any place below both. -/
theorem N_mono_at {m n : Nat} {p q b : Int} (hp : b ≤ p) (hq : b ≤ q) (h : m * 2 ^ (p - b).toNat ≤ n * 2 ^ (q - b).toNat) : N m p ≤ N n q := by
  have e1 := N_scale m (p - b).toNat b
  have e2 := N_scale n (q - b).toNat b
  rw [show b + ((p - b).toNat : Int) = p by omega] at e1
  rw [show b + ((q - b).toNat : Int) = q by omega] at e2
  rw [← e1, ← e2]
  exact N_mono b h

theorem N_same_at {m n : Nat} {p q b : Int} (hp : b ≤ p) (hq : b ≤ q) (h : m * 2 ^ (p - b).toNat = n * 2 ^ (q - b).toNat) : N m p = N n q :=
  Nat.le_antisymm (N_mono_at hp hq (by omega)) (N_mono_at hq hp (by omega))

/-! ### Words that are not negative -/

/-- The significand and the place of a rung below infinity. -/
def mg (x : Nat) : Nat := if x < bin then x else bin + x % bin
def pl (x : Nat) : Int := if x < bin then -1074 else -1074 + ((x / bin - 1 : Nat) : Int)

theorem pl_ge (x : Nat) : -1074 ≤ pl x := by unfold pl; split <;> omega

theorem read_pos {x : Nat} (h : x < infR) : double.read x = .number false (mg x) (pl x) := by
  unfold Format.read
  rw [sgn_eq, bin_eq, infR_eq, least_eq]
  have hx : x < 9223372036854775808 := Nat.lt_trans h infR_lt
  rw [Nat.mod_eq_of_lt hx, Nat.div_eq_of_lt hx]
  unfold mg pl
  by_cases hb : x < bin
  · simp [hb]
  · simp [hb, h]

theorem read_inf : double.read infR = .infinity false := by rw [infR_val]; decide

theorem mg_0 : mg 0 = 0 := by unfold mg; rw [if_pos bin_pos]

theorem N_word {x : Nat} (h : x < infR) : N (mg x) (pl x) = x := by
  by_cases h0 : x = 0
  · subst h0; rw [mg_0, N_zero]
  · unfold mg pl
    by_cases hb : x < bin
    · rw [if_pos hb, if_pos hb, N_eq h0]
      have hl : x.log2 < 52 := (Nat.log2_lt h0).2 (by rw [bin_pow] at hb; exact hb)
      have hL : lastP x (-1074) = -1074 := by unfold lastP; omega
      rw [hL]
      simp only [Int.sub_self, Int.toNat_zero, Nat.pow_zero, Nat.mul_one, rhe_one]
      have : ((-1074 : Int) + 1074).toNat = 0 := by omega
      rw [this, Nat.zero_mul, Nat.zero_add]
      exact Nat.min_eq_left (Nat.le_of_lt h)
    · rw [if_neg hb, if_neg hb]
      have hbp : 0 < bin := bin_pos
      have hmod : x % bin < bin := Nat.mod_lt _ hbp
      have hne : bin + x % bin ≠ 0 := by omega
      rw [N_eq hne]
      have hl : (bin + x % bin).log2 = 52 := (Nat.log2_eq_iff hne).2 ⟨by rw [← bin_pow]; omega, by rw [Nat.pow_succ, ← bin_pow]; omega⟩
      have hdiv : 1 ≤ x / bin := (Nat.one_le_div_iff hbp).2 (by omega)
      have hL : lastP (bin + x % bin) (-1074 + ((x / bin - 1 : Nat) : Int)) = -1074 + ((x / bin - 1 : Nat) : Int) := by
        unfold lastP; rw [hl]; omega
      rw [hL]
      simp only [Int.sub_self, Int.toNat_zero, Nat.pow_zero, Nat.mul_one, rhe_one]
      have : ((-1074 : Int) + ((x / bin - 1 : Nat) : Int) + 1074).toNat = x / bin - 1 := by omega
      rw [this]
      have h1 := Nat.div_add_mod x bin
      have h2 : (x / bin - 1) * bin + bin = bin * (x / bin) := by
        rw [Nat.sub_mul, Nat.one_mul, Nat.mul_comm bin]
        have : bin ≤ x / bin * bin := Nat.le_mul_of_pos_left _ hdiv
        generalize x / bin * bin = q at this ⊢
        generalize bin = B at *
        omega
      have h3 : (x / bin - 1) * bin + (bin + x % bin) = x := by
        rw [← Nat.add_assoc, h2, h1]
      rw [h3]
      exact Nat.min_eq_left (Nat.le_of_lt h)

/-- What a rung is worth, in units of the least number. -/
def V (x : Nat) : Nat := mg x * 2 ^ (pl x + 1074).toNat

theorem N_V {x : Nat} (h : x < infR) : N (V x) (-1074) = x := by
  unfold V
  rw [N_scale, show (-1074 : Int) + (((pl x + 1074).toNat : Nat) : Int) = pl x by have := pl_ge x; omega]
  exact N_word h

theorem V_le {x y : Nat} (hx : x < infR) (hy : y < infR) : V x ≤ V y ↔ x ≤ y := by
  constructor
  · intro h
    have := N_mono (-1074) h
    rwa [N_V hx, N_V hy] at this
  · intro h
    rcases Nat.lt_or_ge (V y) (V x) with hlt | hge
    · have := N_mono (-1074) (Nat.le_of_lt hlt)
      rw [N_V hx, N_V hy] at this
      have : x = y := by omega
      subst this
      omega
    · exact hge

theorem V_lt {x y : Nat} (hx : x < infR) (hy : y < infR) : V x < V y ↔ x < y := by
  have := V_le hy hx
  omega

theorem V_zero : V 0 = 0 := by unfold V; rw [mg_0, Nat.zero_mul]

theorem signed_pos (m k : Nat) : signed false m k = ((m * 2 ^ k : Nat) : Int) := by
  unfold signed
  simp [Nat.shiftLeft_eq]

theorem V_at {x : Nat} {b : Int} (h1 : -1074 ≤ b) (h2 : b ≤ pl x) : V x = mg x * 2 ^ (pl x - b).toNat * 2 ^ (b + 1074).toNat := by
  unfold V
  rw [Nat.mul_assoc, ← Nat.pow_add]
  congr 2
  omega

/-- The order of two words that are not negative is that of the rungs. -/
theorem order_pos {x y : Nat} (hx : x ≤ infR) (hy : y ≤ infR) : double.order x y = some (compare x y) := by
  unfold Format.order
  rcases Nat.lt_or_ge x infR with hx1 | hx1
  · rcases Nat.lt_or_ge y infR with hy1 | hy1
    · rw [read_pos hx1, read_pos hy1]
      simp only [Datum.order, signed_pos]
      have h1 := pl_ge x
      have h2 := pl_ge y
      have hb1 : -1074 ≤ min (pl x) (pl y) := by omega
      have vx := V_at (x := x) hb1 (Int.min_le_left _ _)
      have vy := V_at (x := y) hb1 (Int.min_le_right _ _)
      have hlt := V_lt hx1 hy1
      have hgt := V_lt hy1 hx1
      generalize mg x * 2 ^ (pl x - min (pl x) (pl y)).toNat = a at vx
      generalize mg y * 2 ^ (pl y - min (pl x) (pl y)).toNat = b at vy
      have hp : 0 < 2 ^ (min (pl x) (pl y) + 1074).toNat := Nat.two_pow_pos _
      generalize 2 ^ (min (pl x) (pl y) + 1074).toNat = k at vx vy hp
      have e1 : a < b ↔ x < y := by rw [← hlt, vx, vy]; exact ⟨fun h => Nat.mul_lt_mul_of_pos_right h hp, fun h => Nat.lt_of_mul_lt_mul_right h⟩
      have e2 : b < a ↔ y < x := by rw [← hgt, vx, vy]; exact ⟨fun h => Nat.mul_lt_mul_of_pos_right h hp, fun h => Nat.lt_of_mul_lt_mul_right h⟩
      congr 1
      simp only [compare, compareOfLessAndEq, Int.ofNat_lt, Int.natCast_inj]
      by_cases h3 : a < b
      · rw [if_pos h3, if_pos (e1.1 h3)]
      · rw [if_neg h3, if_neg (fun h => h3 (e1.2 h))]
        by_cases h4 : b < a
        · rw [if_neg (by omega), if_neg (by have := e2.1 h4; omega)]
        · have h5 : ¬ y < x := fun h => h4 (e2.2 h)
          have h6 : ¬ x < y := fun h => h3 (e1.2 h)
          rw [if_pos (by omega), if_pos (by omega)]
    · have : y = infR := by omega
      subst this
      rw [read_pos hx1, read_inf]
      simp only [Datum.order, Bool.false_eq_true, if_false]
      congr 1
      exact (Nat.compare_eq_lt.2 hx1).symm
  · have : x = infR := by omega
    subst this
    rw [read_inf]
    rcases Nat.lt_or_ge y infR with hy1 | hy1
    · rw [read_pos hy1]
      simp only [Datum.order, Bool.false_eq_true, if_false]
      congr 1
      exact (Nat.compare_eq_gt.2 hy1).symm
    · have : y = infR := by omega
      subst this
      rw [read_inf]
      simp [Datum.order]


/-! ### Words with a sign -/

def rung (x : Nat) : Nat := x % 9223372036854775808
def sg (x : Nat) : Bool := x / 9223372036854775808 % 2 == 1

theorem read_fin {x : Nat} (h : rung x < infR) : double.read x = .number (sg x) (mg (rung x)) (pl (rung x)) := by
  unfold Format.read
  rw [sgn_eq, bin_eq, infR_eq, least_eq]
  show (if rung x < bin then Datum.number (sg x) (rung x) (-1074) else if rung x < infR then _ else _) = _
  unfold mg pl
  by_cases hb : rung x < bin
  · simp only [hb, if_true]
  · simp only [hb, h, if_true, if_false]
    rfl

theorem read_infw {x : Nat} (h : rung x = infR) : double.read x = .infinity (sg x) := by
  unfold Format.read
  rw [sgn_eq, bin_eq, infR_eq, least_eq]
  show (if rung x < bin then _ else if rung x < infR then _ else if rung x = infR then Datum.infinity (sg x) else _) = _
  rw [if_neg (by rw [h]; exact Nat.lt_asymm bin_lt_inf), if_neg (by rw [h]; exact Nat.lt_irrefl _), if_pos h]

theorem read_nan {x : Nat} (h : infR < rung x) : double.read x = .nan (sg x) (rung x - infR) := by
  unfold Format.read
  rw [sgn_eq, bin_eq, infR_eq, least_eq]
  show (if rung x < bin then _ else if rung x < infR then _ else if rung x = infR then _ else Datum.nan (sg x) (rung x - infR)) = _
  rw [if_neg (by have := bin_lt_inf; omega), if_neg (by omega), if_neg (by omega)]

/-- The number of a word, in units of the least one; the infinities stand beyond all numbers. -/
def EV (x : Nat) : Int := if sg x then -(V (rung x) : Int) else (V (rung x) : Int)

theorem V_inf {x : Nat} (h : x < infR) : V x < V infR := by
  have h1 : V x ≤ V (infR - 1) := (V_le h (by have := infR_pos; omega)).2 (by omega)
  have h2 : V (infR - 1) < V infR := by rw [infR_val]; decide +kernel
  exact Nat.lt_of_le_of_lt h1 h2

attribute [irreducible] V mg pl

theorem compare_scale {a b k : Int} (hk : 0 < k) : compare (a * k) (b * k) = compare a b := by
  simp only [compare, compareOfLessAndEq]
  have e1 : a * k < b * k ↔ a < b := ⟨fun h => Int.lt_of_mul_lt_mul_right h (Int.le_of_lt hk), fun h => Int.mul_lt_mul_of_pos_right h hk⟩
  have e2 : a * k = b * k ↔ a = b := ⟨fun h => Int.eq_of_mul_eq_mul_right (by omega) h, fun h => by rw [h]⟩
  simp only [e1, e2]

theorem EV_at {x : Nat} {b : Int} (h1 : -1074 ≤ b) (h2 : b ≤ pl (rung x)) : EV x = signed (sg x) (mg (rung x)) (pl (rung x) - b).toNat * ((2 ^ (b + 1074).toNat : Nat) : Int) := by
  unfold EV signed
  have hv := V_at (x := rung x) h1 h2
  rw [Nat.shiftLeft_eq]
  cases sg x
  · simp only [Bool.false_eq_true, if_false]
    rw [hv, Int.natCast_mul]
  · simp only [if_true]
    rw [hv, Int.natCast_mul, Int.neg_mul]

theorem order_any {x y : Nat} (hx : rung x ≤ infR) (hy : rung y ≤ infR) : double.order x y = some (compare (EV x) (EV y)) := by
  unfold Format.order
  rcases Nat.lt_or_ge (rung x) infR with hx1 | hx1
  · rcases Nat.lt_or_ge (rung y) infR with hy1 | hy1
    · rw [read_fin hx1, read_fin hy1]
      simp only [Datum.order]
      have h1 := pl_ge (rung x)
      have h2 := pl_ge (rung y)
      have hb1 : -1074 ≤ min (pl (rung x)) (pl (rung y)) := by omega
      rw [EV_at hb1 (Int.min_le_left _ _), EV_at hb1 (Int.min_le_right _ _)]
      rw [compare_scale (by have := Nat.two_pow_pos (min (pl (rung x)) (pl (rung y)) + 1074).toNat; omega)]
    · have hy2 : rung y = infR := by omega
      rw [read_fin hx1, read_infw hy2]
      have := V_inf hx1
      simp only [Datum.order, EV, hy2, compare, compareOfLessAndEq]
      cases sg x <;> cases sg y <;> simp only [Bool.false_eq_true, if_false, if_true] <;> congr 1 <;> (first | rw [if_pos (by omega)] | rw [if_neg (by omega), if_neg (by omega)])
  · have hx2 : rung x = infR := by omega
    rw [read_infw hx2]
    rcases Nat.lt_or_ge (rung y) infR with hy1 | hy1
    · rw [read_fin hy1]
      have := V_inf hy1
      simp only [Datum.order, EV, hx2, compare, compareOfLessAndEq]
      cases sg x <;> cases sg y <;> simp only [Bool.false_eq_true, if_false, if_true] <;> congr 1 <;> (first | rw [if_pos (by omega)] | rw [if_neg (by omega), if_neg (by omega)])
    · have hy2 : rung y = infR := by omega
      rw [read_infw hy2]
      have hv : 0 < V infR := by have := V_inf infR_pos; omega
      simp only [Datum.order, EV, hx2, hy2, compare, compareOfLessAndEq]
      cases sg x <;> cases sg y
      · simp
      · simp only [Bool.false_eq_true, if_false, if_true, Bool.toNat_true, Bool.toNat_false]
        rw [if_neg (by omega), if_neg (by omega), if_neg (by omega), if_neg (by omega)]
      · simp only [Bool.false_eq_true, if_false, if_true, Bool.toNat_true, Bool.toNat_false]
        rw [if_pos (by omega), if_pos (by omega)]
      · simp

theorem order_nan_left {x : Nat} (y : Nat) (hx : infR < rung x) : double.order x y = none := by
  unfold Format.order
  rw [read_nan hx]
  rfl

theorem order_nan_right (x : Nat) {y : Nat} (hy : infR < rung y) : double.order x y = none := by
  unfold Format.order
  rw [read_nan hy]
  cases double.read x <;> rfl

theorem rung_pos {x : Nat} (h : x ≤ infR) : rung x = x := Nat.mod_eq_of_lt (Nat.lt_of_le_of_lt h infR_lt)
theorem sg_pos {x : Nat} (h : x ≤ infR) : sg x = false := by
  unfold sg
  rw [Nat.div_eq_of_lt (Nat.lt_of_le_of_lt h infR_lt)]
  rfl
theorem EV_pos {x : Nat} (h : x ≤ infR) : EV x = V x := by
  unfold EV
  rw [sg_pos h, rung_pos h]
  simp

/-! ### Sums, differences, products, quotients -/

theorem write_inf : double.write (.infinity false) = infR := infR_eq
theorem write_pos (m : Nat) (p : Int) : double.write (.number false m p) = N m p := rfl

theorem add_fin {x y : Nat} (hx : x < infR) (hy : y < infR) : double.add x y = some (N (V x + V y) (-1074)) := by
  unfold Format.add
  rw [read_pos hx, read_pos hy]
  simp only [Datum.sum, Option.map_some, signed_pos]
  have h1 := pl_ge x
  have h2 := pl_ge y
  have hb1 : -1074 ≤ min (pl x) (pl y) := by omega
  have vx := V_at (x := x) hb1 (Int.min_le_left _ _)
  have vy := V_at (x := y) hb1 (Int.min_le_right _ _)
  rw [vx, vy]
  generalize mg x * 2 ^ (pl x - min (pl x) (pl y)).toNat = a
  generalize mg y * 2 ^ (pl y - min (pl x) (pl y)).toNat = b
  have e : (if (a : Int) + (b : Int) = 0 then (false && false) else decide ((a : Int) + (b : Int) < 0)) = false := by
    split
    · rfl
    · simp; omega
  rw [e, write_pos]
  congr 1
  rw [← Nat.add_mul, N_scale]
  have e2 : ((a : Int) + (b : Int)).natAbs = a + b := by omega
  rw [e2]
  congr 1
  omega

theorem sub_fin {x y : Nat} (hx : x < infR) (hy : y < infR) (h : y ≤ x) : double.sub x y = some (N (V x - V y) (-1074)) := by
  unfold Format.sub
  rw [read_pos hx, read_pos hy]
  simp only [Datum.opposite, Datum.sum, Option.map_some, signed_pos]
  have h1 := pl_ge x
  have h2 := pl_ge y
  have hb1 : -1074 ≤ min (pl x) (pl y) := by omega
  have vx := V_at (x := x) hb1 (Int.min_le_left _ _)
  have vy := V_at (x := y) hb1 (Int.min_le_right _ _)
  have hv := (V_le hy hx).2 h
  have es : signed (!false) (mg y) (pl y - min (pl x) (pl y)).toNat = -((mg y * 2 ^ (pl y - min (pl x) (pl y)).toNat : Nat) : Int) := by
    unfold signed; simp [Nat.shiftLeft_eq]
  rw [es]
  rw [vx, vy] at hv
  rw [vx, vy]
  generalize mg x * 2 ^ (pl x - min (pl x) (pl y)).toNat = a at hv
  generalize mg y * 2 ^ (pl y - min (pl x) (pl y)).toNat = b at hv
  have hab : b ≤ a := Nat.le_of_mul_le_mul_right hv (Nat.two_pow_pos _)
  have e : (if (a : Int) + -(b : Int) = 0 then (false && !false) else decide ((a : Int) + -(b : Int) < 0)) = false := by
    split
    · rfl
    · simp; omega
  rw [e, write_pos]
  congr 1
  rw [← Nat.sub_mul, N_scale]
  have e2 : ((a : Int) + -(b : Int)).natAbs = a - b := by omega
  rw [e2]
  congr 1
  omega

theorem mul_fin {x y : Nat} (hx : x < infR) (hy : y < infR) : double.mul x y = some (N (V x * V y) (-2148)) := by
  unfold Format.mul
  rw [read_pos hx, read_pos hy]
  simp only [Datum.product, Option.map_some]
  show some (N (mg x * mg y) (pl x + pl y)) = _
  congr 1
  have h1 := pl_ge x
  have h2 := pl_ge y
  have e : V x * V y = mg x * mg y * 2 ^ ((pl x + 1074).toNat + (pl y + 1074).toNat) := by
    unfold V
    rw [Nat.pow_add]
    simp only [Nat.mul_assoc, Nat.mul_left_comm]
  rw [e, N_scale]
  congr 1
  omega

theorem add_inf_left {y : Nat} (hy : y ≤ infR) : double.add infR y = some infR := by
  unfold Format.add
  rw [read_inf]
  rcases Nat.lt_or_ge y infR with h | h
  · rw [read_pos h]; simp only [Datum.sum, Option.map_some, write_inf]
  · have : y = infR := by omega
    subst this
    rw [read_inf]; simp only [Datum.sum, if_true, Option.map_some, write_inf]

theorem add_inf_right {x : Nat} (hx : x ≤ infR) : double.add x infR = some infR := by
  unfold Format.add
  rw [read_inf]
  rcases Nat.lt_or_ge x infR with h | h
  · rw [read_pos h]; simp only [Datum.sum, Option.map_some, write_inf]
  · have : x = infR := by omega
    subst this
    rw [read_inf]; simp only [Datum.sum, if_true, Option.map_some, write_inf]

theorem sub_inf_left {y : Nat} (hy : y < infR) : double.sub infR y = some infR := by
  unfold Format.sub
  rw [read_inf, read_pos hy]
  simp only [Datum.opposite, Datum.sum, Option.map_some, write_inf]

theorem mg_zero {y : Nat} (h : mg y = 0) : y = 0 := by
  unfold mg at h
  have : 0 < bin := bin_pos
  split at h <;> omega

theorem mul_inf_left {y : Nat} (hy : y ≤ infR) (h0 : y ≠ 0) : double.mul infR y = some infR := by
  unfold Format.mul
  rw [read_inf]
  rcases Nat.lt_or_ge y infR with h | h
  · rw [read_pos h]
    have : mg y ≠ 0 := fun e => h0 (mg_zero e)
    simp only [Datum.product, if_neg this, Option.map_some, Bool.xor_self, write_inf]
  · have : y = infR := by omega
    subst this
    rw [read_inf]; simp only [Datum.product, Option.map_some, Bool.xor_self, write_inf]

/-- A quotient of words that are not negative: some word that is not negative. -/
theorem div_fin {x y : Nat} (hx : x < infR) (hy : y ≤ infR) (h0 : y ≠ 0) : ∃ r, double.div x y = some r ∧ r ≤ infR := by
  unfold Format.div
  rw [read_pos hx]
  rcases Nat.lt_or_ge y infR with h | h
  · rw [read_pos h]
    have : mg y ≠ 0 := fun e => h0 (mg_zero e)
    simp only [Datum.quotient, if_neg this]
    exact ⟨_, rfl, N_le _ _⟩
  · have : y = infR := by omega
    subst this
    rw [read_inf]
    exact ⟨_, rfl, N_le _ _⟩

theorem div_inf {x : Nat} (hx : x < infR) : double.div x infR = some 0 := by
  unfold Format.div
  rw [read_pos hx, read_inf]
  rfl

theorem signed_sub (s : Bool) (m k : Nat) : signed (!s) m k = -signed s m k := by
  unfold signed
  cases s <;> simp

/-- The difference of a number and a lesser one, of whatever signs; or of two that are equal, the first one's sign being +. -/
theorem sub_ge {x y : Nat} (hx : rung x < infR) (hy : rung y < infR) (h : EV y < EV x ∨ (EV y = EV x ∧ sg x = false)) : double.sub x y = some (N (EV x - EV y).toNat (-1074)) := by
  unfold Format.sub
  rw [read_fin hx, read_fin hy]
  simp only [Datum.opposite, Datum.sum, Option.map_some, signed_sub]
  have h1 := pl_ge (rung x)
  have h2 := pl_ge (rung y)
  have hb1 : -1074 ≤ min (pl (rung x)) (pl (rung y)) := by omega
  have vx := EV_at (x := x) hb1 (Int.min_le_left _ _)
  have vy := EV_at (x := y) hb1 (Int.min_le_right _ _)
  rw [vx, vy] at h
  rw [vx, vy]
  generalize signed (sg x) (mg (rung x)) (pl (rung x) - min (pl (rung x)) (pl (rung y))).toNat = a at h
  generalize signed (sg y) (mg (rung y)) (pl (rung y) - min (pl (rung x)) (pl (rung y))).toNat = b at h
  have hk : 0 < 2 ^ (min (pl (rung x)) (pl (rung y)) + 1074).toNat := Nat.two_pow_pos _
  have hab : b < a ∨ (b = a ∧ sg x = false) := by
    rcases h with h | ⟨h, hs⟩
    · exact .inl (Int.lt_of_mul_lt_mul_right h (by omega))
    · exact .inr ⟨Int.eq_of_mul_eq_mul_right (by omega) h, hs⟩
  have e : (if a + -b = 0 then (sg x && !sg y) else decide (a + -b < 0)) = false := by
    rcases hab with hab | ⟨hab, hs⟩
    · rw [if_neg (by omega)]; simp; omega
    · rw [if_pos (by omega), hs]; rfl
  rw [e, write_pos]
  congr 1
  rw [← Int.sub_mul]
  obtain ⟨c, hc⟩ : ∃ c : Nat, a - b = c := ⟨(a - b).toNat, by omega⟩
  rw [hc, ← Int.natCast_mul, Int.toNat_natCast, N_scale]
  have e2 : (a + -b).natAbs = c := by omega
  rw [e2]
  congr 1
  omega

end Go.Proofs.Ytfmcpcciokogiaa.Fl
