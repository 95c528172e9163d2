/- The document's run (wakes) returns true, in whatever world. -/
import Derived.Test.YtbodgbkblocphaaTake
namespace Go.Proofs.Ytbodgbkblocphaa
open Go.RowKit Fl

theorem rnew_good {r s : Nat} (h : ¬ Bad r s) (w : World) : Calls Try.prog 13 #[.float .f64 r, .float .f64 s] w fun e w' => e = .returned (.tuple #[.pointer (some ⟨w.heap.size, 0, none⟩), .bool true]) ∧
      w.alloc (.cells #[.float .f64 (rung r), .float .f64 (rung s), .float .f64 (rung s), .float .f64 18442240474082181120] 58) = w' := by
  obtain ⟨n1, c1, n2, c2, c3⟩ := Classical.not_not.1 h
  exact rnew_made r s _ _ w (off ne_iff fun e => e ⟨n1, n1, rfl⟩) (off ne_iff fun e => e ⟨n2, n2, rfl⟩) (off lt_iff fun ⟨_, _, e⟩ => by rw [EV_0] at e; omega) (off lt_iff fun ⟨_, _, e⟩ => by rw [EV_0] at e; omega) (off pinf_iff fun e => c3 e.2)
    (add_zero n1 c1) (add_zero n2 c2)

theorem Bk.new (w : World) (t r bu lv la : Nat) : Bk (w.alloc (.cells #[.float .f64 r, .float .f64 bu, .float .f64 lv, .float .f64 la] t)) w.heap.size t r bu lv la := heap_alloc_new w _

theorem num_ninf : num 18442240474082181120 := by unfold num; rw [infR_val]; decide
theorem EV_ninf : EV 18442240474082181120 = -I := by
  have e1 : rung 18442240474082181120 = infR := by rw [infR_val]; decide
  have e2 : sg 18442240474082181120 = true := by decide
  unfold EV
  rw [e1, e2, ← V_I]
  rfl

/-- A new bucket. -/
theorem inv_new {r s : Nat} (h : ¬ Bad r s) : Inv (rung r) (rung s) (rung s) 18442240474082181120 := by
  obtain ⟨n1, c1, n2, c2, c3⟩ := Classical.not_not.1 h
  exact ⟨n1, fin_of n2 c3 (by have := K_lt; have := K_pos; omega), Nat.le_refl _, num_ninf⟩

def two : Nat := 4611686018427387904
def ten : Nat := 4621819117588971520
def one : Nat := 4607182418800017408
def three : Nat := 4613937818241073152
def six : Nat := 4618441417868443648
def ninf : Nat := 18442240474082181120

theorem not_bad : ¬ Bad 4611686018427387904 4621819117588971520 := by decide +kernel
theorem two_r : rung 4611686018427387904 = 4611686018427387904 := by decide
theorem ten_r : rung 4621819117588971520 = 4621819117588971520 := by decide
theorem inv1 : Inv 4611686018427387904 4621819117588971520 4621819117588971520 18442240474082181120 := by
  have := inv_new not_bad
  rw [two_r, ten_r] at this
  exact this
theorem inv2 : Inv 4611686018427387904 4621819117588971520 0 0 := ⟨inv1.hr, inv1.hbu, Nat.zero_le _, num_0⟩

theorem w_take1 (b : Nat) (w : World) (hb : Bk w b 56 4611686018427387904 4621819117588971520 4621819117588971520 18442240474082181120) :
    Calls Try.prog 10 #[.pointer (some ⟨b, 0, none⟩), .float .f64 0, .float .f64 4621819117588971520] w fun e w' => e = .returned (.int .i64 0) ∧ w.grownBy w' (some b) ∧ Bk w' b 56 4611686018427387904 4621819117588971520 0 0 := by
  have h := take_ok inv1 b 0 4621819117588971520 w hb
  rw [show Ans 4611686018427387904 4621819117588971520 4621819117588971520 18442240474082181120 0 4621819117588971520 = 0 by decide +kernel,
    show LvA 4611686018427387904 4621819117588971520 4621819117588971520 18442240474082181120 0 4621819117588971520 = 0 by decide +kernel,
    show LaA 4621819117588971520 18442240474082181120 0 4621819117588971520 = 0 by decide +kernel] at h
  exact h

theorem w_take2 (b : Nat) (w : World) (hb : Bk w b 56 4611686018427387904 4621819117588971520 0 0) :
    Calls Try.prog 10 #[.pointer (some ⟨b, 0, none⟩), .float .f64 0, .float .f64 4607182418800017408] w fun e w' => e = .returned (.int .i64 19) ∧ w.grownBy w' (some b) ∧ Bk w' b 56 4611686018427387904 4621819117588971520 0 0 := by
  have h := take_ok inv2 b 0 4607182418800017408 w hb
  rw [show Ans 4611686018427387904 4621819117588971520 0 0 0 4607182418800017408 = 19 by decide +kernel,
    show LvA 4611686018427387904 4621819117588971520 0 0 0 4607182418800017408 = 0 by decide +kernel,
    show LaA 4621819117588971520 0 0 4607182418800017408 = 0 by decide +kernel] at h
  exact h

theorem w_level (b : Nat) (w : World) (hb : Bk w b 56 4611686018427387904 4621819117588971520 0 0) :
    Calls Try.prog 12 #[.pointer (some ⟨b, 0, none⟩), .float .f64 4613937818241073152] w fun e w' => e = .returned (.float .f64 4618441417868443648) ∧ ∃ n, w.drewN n = w' := by
  have h := gives_level inv2 b 4613937818241073152 w hb
  rw [show Lev 4611686018427387904 4621819117588971520 0 0 4613937818241073152 = 4618441417868443648 by decide +kernel] at h
  exact h

theorem w_take3 (b : Nat) (w : World) (hb : Bk w b 56 4611686018427387904 4621819117588971520 0 0) :
    Calls Try.prog 10 #[.pointer (some ⟨b, 0, none⟩), .float .f64 4613937818241073152, .float .f64 4618441417868443648] w fun e w' => e = .returned (.int .i64 0) ∧ w.grownBy w' (some b) := by
  have h := take_ok inv2 b 4613937818241073152 4618441417868443648 w hb
  rw [show Ans 4611686018427387904 4621819117588971520 0 0 4613937818241073152 4618441417868443648 = 0 by decide +kernel] at h
  exact h.mono fun _ _ h => ⟨h.1, h.2.1⟩

theorem w_new (w : World) : Calls Try.prog 8 #[.float .f64 4611686018427387904, .float .f64 4621819117588971520] w fun e w' => e = .returned (.tuple #[.pointer (some ⟨w.heap.size, 0, none⟩), .int .i64 0]) ∧
      Below w.heap.size w w' ∧ Bk w' w.heap.size 56 4611686018427387904 4621819117588971520 4621819117588971520 18442240474082181120 := by
  refine (new_good (by decide) (by decide) not_bad w).mono ?_
  rw [two_r, ten_r]
  rintro e w' ⟨he, rfl⟩
  exact ⟨he, (Below.refl _ _).alloc (Nat.le_refl _) _, Bk.new _ _ _ _ _ _⟩

theorem six_six : isEq 4618441417868443648 4618441417868443648 = true := eq_iff.2 ⟨by decide +kernel, by decide +kernel, rfl⟩

theorem wakes_any (w : World) : Calls Try.prog 9 #[] w fun e w' => e = .returned (.bool true) ∧ Below w.heap.size w w' := by
  have h6 := six_six
  go_enter Try.func9, Try.ntmps9
  go_wp2_with fail
  refine (w_new _).mono ?_
  rintro e w1 ⟨rfl, hb1, hB1⟩
  have hz1 : w.heap.size < w1.heap.size := (Array.getElem?_eq_some_iff.1 hB1).1
  go_wp2_with fail
  refine (w_take1 _ _ hB1).mono ?_
  rintro e w2 ⟨rfl, hg2, hB2⟩
  have hb2 := hb1.grown hg2 hb1.size (fun k e => by cases e; exact Nat.le_refl _)
  go_wp2_with fail
  refine (w_take2 _ _ hB2).mono ?_
  rintro e w3 ⟨rfl, hg3, hB3⟩
  have hb3 := hb2.grown hg3 hb2.size (fun k e => by cases e; exact Nat.le_refl _)
  go_wp2_with fail
  refine (w_level _ _ hB3).mono ?_
  rintro e w4 ⟨rfl, n, rfl⟩
  go_wp2_with fail
  refine (w_take3 _ _ (hB3.drewN n)).mono ?_
  rintro e w5 ⟨rfl, hg5⟩
  have hb5 := (below_drewN hb3 n).grown hg5 (by have := hb3.size; exact this) (fun k e => by cases e; exact Nat.le_refl _)
  go_wp2_with fail
  go_ret
  exact ⟨rfl, hb5⟩

end Go.Proofs.Ytbodgbkblocphaa
