/- The order of a heap in a row: what a swap on the way up, on the way down leaves. No program in sight. -/
import Derived.Test.YtfmcpcciokogiaaMap
namespace Go.Proofs.Ytfmcpcciokogiaa

/-- Ranks: the end's worth, then the turn. -/
abbrev Rk := Int × Int
def les (a b : Rk) : Prop := a.1 < b.1 ∨ (a.1 = b.1 ∧ a.2 < b.2)
def par (k : Nat) : Nat := (k - 1) / 2

/-- The first n are in order, but for what stands at j and its children's parent. -/
def UpInv (f : Nat → Rk) (j n : Nat) : Prop :=
  (∀ k, 0 < k → k < n → k ≠ j → ¬ les (f k) (f (par k))) ∧ (∀ k, 0 < k → k < n → par k = j → 0 < j → ¬ les (f k) (f (par j)))
def FixInv (f : Nat → Rk) (i n : Nat) : Prop :=
  (∀ k, 0 < k → k < n → k ≠ i → par k ≠ i → ¬ les (f k) (f (par k))) ∧ (∀ k, 0 < k → k < n → par k = i → 0 < i → ¬ les (f k) (f (par i)))
def DownInv (f : Nat → Rk) (i n : Nat) : Prop :=
  (∀ k, 0 < k → k < n → par k ≠ i → ¬ les (f k) (f (par k))) ∧ (∀ k, 0 < k → k < n → par k = i → 0 < i → ¬ les (f k) (f (par i)))
def Ord (f : Nat → Rk) (n : Nat) : Prop := ∀ k, 0 < k → k < n → ¬ les (f k) (f (par k))

/-- Two places change. -/
def swf (f : Nat → Rk) (i j : Nat) : Nat → Rk := fun k => if k = i then f j else if k = j then f i else f k
theorem swf_left (f : Nat → Rk) (i j : Nat) : swf f i j i = f j := by simp [swf]
theorem swf_right (f : Nat → Rk) (i j : Nat) : swf f i j j = f i := by
  simp only [swf]
  split
  · rename_i h
    rw [h]
  · simp
theorem swf_far (f : Nat → Rk) {i j k : Nat} (h1 : k ≠ i) (h2 : k ≠ j) : swf f i j k = f k := by simp [swf, h1, h2]

theorem les_asym {a b : Rk} (h : les a b) : ¬ les b a := by unfold les at *; omega
theorem les_trans {a b c : Rk} (h : les a b) (k : les b c) : les a c := by unfold les at *; omega
theorem nles_trans {a b c : Rk} (h : ¬ les a b) (k : ¬ les b c) : ¬ les a c := by unfold les at *; omega

theorem par_lt {k : Nat} (h : 0 < k) : par k < k := by unfold par; omega
theorem par_eq {k i : Nat} (h : 0 < k) : par k = i ↔ k = 2 * i + 1 ∨ k = 2 * i + 2 := by unfold par; omega

theorem up_step {f : Nat → Rk} {j n : Nat} (h : UpInv f j n) (hj : 0 < j) (hn : j < n) (hl : les (f j) (f (par j))) : UpInv (swf f (par j) j) (par j) n := by
  obtain ⟨h1, h2⟩ := h
  have hp := par_lt hj
  refine ⟨fun k hk hkn hne => ?_, fun k hk hkn hpk hpos => ?_⟩
  · by_cases c1 : k = j
    · subst c1
      rw [swf_right, swf_left]
      exact les_asym hl
    · rw [swf_far f hne c1]
      by_cases c2 : par k = j
      · rw [c2, swf_right]
        exact h2 k hk hkn c2 hj
      · by_cases c3 : par k = par j
        · rw [c3, swf_left]
          have := h1 k hk hkn c1
          rw [c3] at this
          exact fun q => this (les_trans q hl)
        · rw [swf_far f c3 c2]
          exact h1 k hk hkn c1
  · have hpp := par_lt hpos
    rw [swf_far f (k := par (par j)) (by omega) (by omega)]
    have hi := h1 (par j) hpos (by omega) (by omega)
    by_cases c1 : k = j
    · subst c1
      rw [swf_right]
      exact hi
    · have hkp := par_lt hk
      rw [swf_far f (by omega) c1]
      have := h1 k hk hkn c1
      rw [hpk] at this
      exact nles_trans this hi

theorem up_end {f : Nat → Rk} {j n : Nat} (h : UpInv f j n) (he : j = 0 ∨ ¬ les (f j) (f (par j))) : Ord f n := by
  intro k hk hkn
  by_cases c : k = j
  · subst c
    rcases he with rfl | he
    · omega
    · exact he
  · exact h.1 k hk hkn c

theorem down_step {f : Nat → Rk} {i c n : Nat} (h : FixInv f i n) (hc : par c = i) (h0 : 0 < c) (hn : c < n) (hl : les (f c) (f i)) (hm : ∀ k, 0 < k → k < n → par k = i → ¬ les (f k) (f c)) : DownInv (swf f i c) c n := by
  obtain ⟨h1, h2⟩ := h
  have hp := par_lt h0
  refine ⟨fun k hk hkn hne => ?_, fun k hk hkn hpk _ => ?_⟩
  · have hkp := par_lt hk
    by_cases c1 : k = c
    · subst c1
      rw [hc, swf_right, swf_left]
      exact les_asym hl
    · by_cases c2 : par k = i
      · rw [c2, swf_left, swf_far f (by omega) c1]
        exact hm k hk hkn c2
      · by_cases c3 : k = i
        · subst c3
          rw [swf_left, swf_far f c2 hne]
          exact h2 c h0 hn hc hk
        · rw [swf_far f c3 c1, swf_far f c2 hne]
          exact h1 k hk hkn c3 c2
  · have hkp := par_lt hk
    rw [hc, swf_left, swf_far f (by omega) (by omega)]
    have := h1 k hk hkn (by omega) (by omega)
    rw [hpk] at this
    exact this

theorem DownInv.fix {f : Nat → Rk} {i n : Nat} (h : DownInv f i n) : FixInv f i n := ⟨fun k hk hkn _ hp => h.1 k hk hkn hp, h.2⟩
theorem down_end {f : Nat → Rk} {i n : Nat} (h : DownInv f i n) (hm : ∀ k, 0 < k → k < n → par k = i → ¬ les (f k) (f i)) : Ord f n := by
  intro k hk hkn
  by_cases c : par k = i
  · rw [c]
    exact hm k hk hkn c
  · exact h.1 k hk hkn c
theorem fix_end {f : Nat → Rk} {i n : Nat} (h : FixInv f i n) (hm : ∀ k, 0 < k → k < n → par k = i → ¬ les (f k) (f i)) : UpInv f i n := by
  refine ⟨fun k hk hkn hne => ?_, h.2⟩
  by_cases c : par k = i
  · rw [c]
    exact hm k hk hkn c
  · exact h.1 k hk hkn hne c

/-- One place changes. -/
theorem fix_of {f g : Nat → Rk} {i n : Nat} (h : Ord f n) (hg : ∀ k, k < n → k ≠ i → g k = f k) : FixInv g i n := by
  refine ⟨fun k hk hkn hne hp => ?_, fun k hk hkn hp hpos => ?_⟩
  · have := par_lt hk
    rw [hg k hkn hne, hg (par k) (by omega) hp]
    exact h k hk hkn
  · have h1 := par_lt hk
    have h2 := par_lt hpos
    rw [hg k hkn (by omega), hg (par i) (by omega) (by omega)]
    have q1 := h k hk hkn
    rw [hp] at q1
    exact nles_trans q1 (h i hpos (by omega))
/-- One is laid at the end. -/
theorem up_of {f g : Nat → Rk} {n : Nat} (h : Ord f n) (hg : ∀ k, k < n → g k = f k) : UpInv g n (n + 1) := by
  refine ⟨fun k hk hkn hne => ?_, fun k hk hkn hp _ => ?_⟩
  · have := par_lt hk
    rw [hg k (by omega), hg (par k) (by omega)]
    exact h k hk (by omega)
  · have := par_lt hk
    omega
/-- The first is the least. -/
theorem ord_first {f : Nat → Rk} {n : Nat} (h : Ord f n) : ∀ m k, k ≤ m → k < n → ¬ les (f k) (f 0) := by
  intro m
  induction m with
  | zero =>
    intro k hk _
    have : k = 0 := by omega
    subst this
    unfold les
    omega
  | succ m ih =>
    intro k hk hkn
    by_cases c : k = 0
    · subst c
      unfold les
      omega
    · have := par_lt (show 0 < k by omega)
      exact nles_trans (h k (by omega) hkn) (ih (par k) (by omega) (by omega))

end Go.Proofs.Ytfmcpcciokogiaa
