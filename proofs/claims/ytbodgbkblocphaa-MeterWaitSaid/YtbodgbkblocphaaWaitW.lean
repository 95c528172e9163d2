/- The walk of MeterWait. -/
import Derived.Test.YtbodgbkblocphaaWaitP
import Derived.Test.YtbodgbkblocphaaWholeW
namespace Go.Proofs.Ytbodgbkblocphaa
open Go.RowKit Fl

theorem self_eq {x : Nat} (h : x < infR) : isEq x x = true := eq_iff.2 ⟨num_pos (Nat.le_of_lt h), num_pos (Nat.le_of_lt h), rfl⟩

set_option maxRecDepth 100000 in
set_option maxHeartbeats 2000000 in
theorem wait_walk (x y z : Nat) (hx : x < 256) (hy : y < 256) (hz : z < 256) (w : World) :
    Calls Try.prog 6 #[.int .u8 x, .int .u8 y, .int .u8 z] w fun e w' => e = .returned (.bool true) ∧ Below w.heap.size w w' := by
  obtain ⟨k, hk⟩ : ∃ k, x % 5 = k := ⟨_, rfl⟩
  have hk5 : k < 5 := by rw [← hk]; exact Nat.mod_lt _ (by omega)
  obtain ⟨n, hn⟩ : ∃ n, z % (y + 1) = n := ⟨_, rfl⟩
  have hn1 : n ≤ y := by rw [← hn]; have := Nat.mod_lt z (show 0 < y + 1 by omega); omega
  have hp : 2 ^ k ≤ 16 := by
    have : 2 ^ k ≤ 2 ^ 4 := Nat.pow_le_pow_right (by omega) (by omega)
    omega
  have hpp : 0 < 2 ^ k := Nat.two_pow_pos k
  have er : floatOfInt .f64 (wrap64 (2 ^ (x % 5))) = FN (2 ^ k) := by
    have : wrap64 ((2 : Int) ^ (x % 5)) = ((2 ^ k : Nat) : Int) := by
      rw [hk]
      have e : ((2 : Int) ^ k) = ((2 ^ k : Nat) : Int) := by simp
      rw [e]
      unfold wrap64
      omega
    rw [this, floatOfInt_nat]
  have ec : floatOfInt .f64 ((z : Int) % ((y : Int) + 1)) = FN n := by
    have : (z : Int) % ((y : Int) + 1) = ((n : Nat) : Int) := by rw [← hn]; simp
    rw [this, floatOfInt_nat]
  have k1 : ∀ w : World, (binOp .add 30 (.float .f64 (FN y)) (.float .f64 4607182418800017408)).run Try.prog w = .ok (.float .f64 (FN (y + 1))) w := fun w => run_float_arith w _ _ _ _ _ _ (plus_one y (by omega))
  have k2 : ∀ w : World, (binOp .add 30 (.float .f64 (FN n)) (.float .f64 4607182418800017408)).run Try.prog w = .ok (.float .f64 (FN (n + 1))) w := fun w => run_float_arith w _ _ _ _ _ _ (plus_one n (by omega))
  have fb := (V_FN (n := y + 1) (by omega)).2
  have fr := (V_FN (n := 2 ^ k) (by omega)).2
  have fc := (V_FN (n := n + 1) (by omega)).2
  obtain ⟨q1, q2, q3⟩ := empties (r := FN (2 ^ k)) fb (num_pos (Nat.le_of_lt fb)) rfl
  obtain ⟨f1, f2, f3⟩ := wait_facts hk5 (show n < 256 by omega) hn1 hy
  have hr0 : FN (2 ^ k) ≠ 0 := fun e => by
    have := (FN_le (a := 2 ^ k) (b := 0) (by omega) (by omega)).1 (by rw [e]; exact Nat.zero_le _)
    omega
  have hw := least_all k hk5 n (by omega)
  have k3 : ∀ w : World, (binOp .quo 30 (.float .f64 (FN (n + 1))) (.float .f64 (FN (2 ^ k)))).run Try.prog w = .ok (.float .f64 (wv k n)) w := fun w => by
    have := (over_eq fc (Nat.le_of_lt fr) hr0).1
    rw [over_all k hk5 n (by omega)] at this
    exact run_float_arith w _ _ _ _ _ _ this
  have k4 : ∀ w : World, (binOp .sub 30 (.float .f64 (wv k n)) (.float .f64 4580160821035794432)).run Try.prog w = .ok (.float .f64 (uv k n)) w := fun w => by
    have h6 : (4580160821035794432 : Nat) < infR := Nat.lt_of_le_of_lt hw.1 hw.2
    have h7 := (EV_le_iff h6 hw.2).2 hw.1
    have h8 : Ieee.double.sub (wv k n) 4580160821035794432 = some (less (wv k n) 4580160821035794432) := by
      refine sub_ge (by rw [rung_pos (Nat.le_of_lt hw.2)]; exact hw.2) (by rw [rung_pos (Nat.le_of_lt h6)]; exact h6) ?_
      rcases Int.lt_or_eq_of_le h7 with g | g
      · exact .inl g
      · exact .inr ⟨g, sg_pos (Nat.le_of_lt hw.2)⟩
    rw [less_all k hk5 n (by omega)] at h8
    exact run_float_arith w _ _ _ _ _ _ h8
  have hww := self_eq hw.2
  have hj : Inv (FN (2 ^ k)) (FN (y + 1)) (FN (y + 1)) 18442240474082181120 := ⟨Nat.le_of_lt fr, fb, Nat.le_refl _, num_ninf⟩
  have hj0 : Inv (FN (2 ^ k)) (FN (y + 1)) 0 0 := ⟨Nat.le_of_lt fr, fb, Nat.zero_le _, num_0⟩
  have T1 : ∀ b w, Bk w b 56 (FN (2 ^ k)) (FN (y + 1)) (FN (y + 1)) 18442240474082181120 → Calls Try.prog 10 #[.pointer (some ⟨b, 0, none⟩), .float .f64 0, .float .f64 (FN (y + 1))] w fun e w' =>
      e = .returned (.int .i64 0) ∧ w.grownBy w' (some b) ∧ Bk w' b 56 (FN (2 ^ k)) (FN (y + 1)) 0 0 := fun b w hb => by
    have := take_ok hj b 0 (FN (y + 1)) w hb
    rw [q1, q2, q3] at this
    exact this
  have T2 : ∀ b w, Bk w b 56 (FN (2 ^ k)) (FN (y + 1)) 0 0 → Calls Try.prog 16 #[.pointer (some ⟨b, 0, none⟩), .float .f64 0, .float .f64 (FN (n + 1))] w fun e w' => e = .returned (.float .f64 (wv k n)) ∧ ∃ n, w.drewN n = w' := fun b w hb => by
    have := wait_ok hj0 b 0 (FN (n + 1)) w hb
    rw [f1] at this
    exact this
  have T3 : ∀ b w, Bk w b 56 (FN (2 ^ k)) (FN (y + 1)) 0 0 → Calls Try.prog 10 #[.pointer (some ⟨b, 0, none⟩), .float .f64 (uv k n), .float .f64 (FN (n + 1))] w fun e w' => e = .returned (.int .i64 19) ∧ w.grownBy w' (some b) := fun b w hb => by
    have := take_ok hj0 b (uv k n) (FN (n + 1)) w hb
    rw [f2] at this
    exact this.mono fun _ _ h => ⟨h.1, h.2.1⟩
  have T4 : ∀ b w, Bk w b 56 (FN (2 ^ k)) (FN (y + 1)) 0 0 → Calls Try.prog 10 #[.pointer (some ⟨b, 0, none⟩), .float .f64 (wv k n), .float .f64 (FN (n + 1))] w fun e w' => e = .returned (.int .i64 0) ∧ w.grownBy w' (some b) := fun b w hb => by
    have := take_ok hj0 b (wv k n) (FN (n + 1)) w hb
    rw [f3] at this
    exact this.mono fun _ _ h => ⟨h.1, h.2.1⟩
  have H1 := Lib.hid T1
  have H2 := Lib.hid T2
  have H3 := Lib.hid T3
  have H4 := Lib.hid T4
  clear T1 T2 T3 T4 hj hj0 hw hr0 f1 f2 f3 q1 q2 q3 hk hn fb fr fc
  go_enter Try.func6, Try.ntmps6
  go_wp2_with fail
  refine (new_FN (a := 2 ^ k) (b := y + 1) (by omega) (by omega) _).mono ?_
  rintro e w1 ⟨rfl, hb1, hB1⟩
  have hs1 : w.heap.size < w1.heap.size := (Array.getElem?_eq_some_iff.1 hB1).1
  go_wp2_with fail
  refine (new_FN (a := 2 ^ k) (b := y + 1) (by omega) (by omega) _).mono ?_
  rintro e w2 ⟨rfl, hb2, hB2⟩
  have hs2 : w1.heap.size < w2.heap.size := (Array.getElem?_eq_some_iff.1 hB2).1
  have hB1 : Bk w2 w.heap.size 56 (FN (2 ^ k)) (FN (y + 1)) (FN (y + 1)) 18442240474082181120 := (hb2.block _ hs1).trans hB1
  have hb2 := hb1.trans (hb2.mono hb1.size)
  obtain ⟨B2, hB2e⟩ : ∃ B, w1.heap.size = B := ⟨_, rfl⟩
  rw [hB2e] at hB2 hs1 hs2 ⊢
  clear hB2e hb1
  go_wp2_with fail
  refine (wakes_any _).mono ?_
  rintro e w3 ⟨rfl, hb3⟩
  have hB1 := (hb3.block _ (by omega)).trans hB1
  have hB2 := (hb3.block _ hs2).trans hB2
  have hb3 := hb2.trans (hb3.mono hb2.size)
  clear hb2 hs2
  go_wp2_with fail
  refine (H1.out _ _ hB1).mono ?_
  rintro e w4 ⟨rfl, hg4, hC1⟩
  have hC2 := Bk.only hB2 hg4 (by omega)
  have hb4 := hb3.grown hg4 hb3.size (fun k e => by cases e; exact Nat.le_refl _)
  clear hg4 hB1 hB2 hb3
  go_wp2_with fail
  refine (H1.out _ _ hC2).mono ?_
  rintro e w5 ⟨rfl, hg5, hD2⟩
  have hD1 := Bk.only hC1 hg5 (by omega)
  have hb5 := hb4.grown hg5 hb4.size (fun k e => by cases e; omega)
  clear hg5 hC1 hC2 hb4
  go_wp2_with fail
  refine (H2.out _ _ hD1).mono ?_
  rintro e w6 ⟨rfl, m, rfl⟩
  go_wp2_with fail
  refine (H3.out _ _ (by exact hD2)).mono ?_
  rintro e w7 ⟨rfl, hg7⟩
  have hE1 := Bk.only (w := w5.drewN m) hD1 hg7 (by omega)
  have hb7 : Below w.heap.size w w7 := Below.grown (w := w5.drewN m) (below_drewN hb5 m) hg7 hb5.size (fun k e => by cases e; omega)
  clear hg7
  go_wp2_with fail
  refine (H4.out _ _ (by exact hE1)).mono ?_
  rintro e w8 ⟨rfl, hg8⟩
  have hb8 := hb7.grown hg8 hb7.size (fun k e => by cases e; exact Nat.le_refl _)
  go_wp2_with fail
  go_ret
  exact ⟨rfl, hb8⟩

end Go.Proofs.Ytbodgbkblocphaa
