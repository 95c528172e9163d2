/- Until, the reference's, and LeaseUntil's walk. -/
import Derived.Test.YtfmcpcciokogiaaWake
import Derived.Test.YtfmcpcciokogiaaAdd
namespace Go.Proofs.Ytfmcpcciokogiaa
open Go.RowKit Fl

/-- Is the word an infinity's? -/
def infB (x : Nat) : Bool := isGt (bits .andNot .u64 (x : Int) 9223372036854775808).toNat 9218868437227405311

theorem until_bad (a b : Nat) (w : World) (h : isNe a a = true ∨ (isNe a a = false ∧ infB a = true) ∨ (isNe a a = false ∧ infB a = false ∧ isNe b b = true)) :
    Calls Try.prog 18 #[.float .f64 a, .float .f64 b] w fun e w' => e = .returned (.tuple #[.float .f64 0, .int .i64 1]) ∧ w = w' := by
  have H2 : Calls Try.prog 21 #[.float .f64 a, .int .i64 0] w fun e w' => e = .returned (.bool (infB a)) ∧ w = w' := isInf_any a w
  rcases h with h | ⟨h, h2⟩ | ⟨h, h2, h3⟩
  · clear H2
    go_enter Try.func18, Try.ntmps18
    go_wp2_with fail
    refine (isNaN_any a w).mono ?_
    rintro e w' ⟨rfl, rfl⟩
    go_wp2_with fail
    go_ret2
    exact ⟨rfl, rfl⟩
  · have H2 := Lib.hid H2
    go_enter Try.func18, Try.ntmps18
    go_wp2_with fail
    refine (isNaN_any a w).mono ?_
    rintro e w' ⟨rfl, rfl⟩
    go_wp2_with fail
    refine H2.out.mono ?_
    rintro e w' ⟨rfl, rfl⟩
    go_wp2_with fail
    go_ret2
    exact ⟨rfl, rfl⟩
  · have H2 := Lib.hid H2
    go_enter Try.func18, Try.ntmps18
    go_wp2_with fail
    refine (isNaN_any a w).mono ?_
    rintro e w' ⟨rfl, rfl⟩
    go_wp2_with fail
    refine H2.out.mono ?_
    rintro e w' ⟨rfl, rfl⟩
    go_wp2_with fail
    refine (isNaN_any b _).mono ?_
    rintro e w' ⟨rfl, rfl⟩
    go_wp2_with fail
    go_ret2
    exact ⟨rfl, rfl⟩

theorem until_good (a b r : Nat) (w : World) (h1 : isNe a a = false) (h2 : infB a = false) (h3 : isNe b b = false) (h : (isLe b 0 = true ∧ r = a) ∨ (isLe b 0 = false ∧ floatBits .add .f64 a b = some r)) :
    Calls Try.prog 18 #[.float .f64 a, .float .f64 b] w fun e w' => e = .returned (.tuple #[.float .f64 r, .int .i64 0]) ∧ w = w' := by
  have H2 : Calls Try.prog 21 #[.float .f64 a, .int .i64 0] w fun e w' => e = .returned (.bool (infB a)) ∧ w = w' := isInf_any a w
  have H2 := Lib.hid H2
  have K : isLe b 0 = false → ∀ w : World, (binOp .add 27 (.float .f64 a) (.float .f64 b)).run Try.prog w = .ok (.float .f64 r) w := fun q w => by
    rcases h with ⟨h4, _⟩ | ⟨_, h5⟩
    · rw [h4] at q
      cases q
    · exact run_float_arith w _ _ _ _ _ _ h5
  have HK := Lib.hid K
  clear K
  rcases h with ⟨h4, rfl⟩ | ⟨h4, _⟩
  all_goals
    have k0 := fun q => HK.out q
    first | (have k1 := k0 h4) | skip
    clear k0 HK
    go_enter Try.func18, Try.ntmps18
    go_wp2_with fail
    refine (isNaN_any _ w).mono ?_
    rintro e w' ⟨rfl, rfl⟩
    go_wp2_with fail
    refine H2.out.mono ?_
    rintro e w' ⟨rfl, rfl⟩
    go_wp2_with fail
    refine (isNaN_any b _).mono ?_
    rintro e w' ⟨rfl, rfl⟩
    go_wp2_with fail
    go_ret2
    exact ⟨rfl, rfl⟩

theorem runtil_bad (a b : Nat) (w : World) (h : isNe a a = true ∨ (isNe a a = false ∧ isNe b b = true) ∨ (isNe a a = false ∧ isNe b b = false ∧ infB a = true)) :
    Calls Try.prog 19 #[.float .f64 a, .float .f64 b] w fun e w' => e = .returned (.tuple #[.float .f64 0, .int .i64 1]) ∧ w = w' := by
  have H2 : Calls Try.prog 21 #[.float .f64 a, .int .i64 0] w fun e w' => e = .returned (.bool (infB a)) ∧ w = w' := isInf_any a w
  have H2 := Lib.hid H2
  rcases h with h | ⟨h, h2⟩ | ⟨h, h2, h3⟩
  · go_enter Try.func19, Try.ntmps19
    go_wp2_with fail
    go_ret2
    exact ⟨rfl, rfl⟩
  · go_enter Try.func19, Try.ntmps19
    go_wp2_with fail
    go_ret2
    exact ⟨rfl, rfl⟩
  · go_enter Try.func19, Try.ntmps19
    go_wp2_with fail
    refine H2.out.mono ?_
    rintro e w' ⟨rfl, rfl⟩
    go_wp2_with fail
    go_ret2
    exact ⟨rfl, rfl⟩

theorem runtil_good (a b r : Nat) (w : World) (h1 : isNe a a = false) (h2 : infB a = false) (h3 : isNe b b = false) (h : (isLe b 0 = true ∧ r = a) ∨ (isLe b 0 = false ∧ floatBits .add .f64 a b = some r)) :
    Calls Try.prog 19 #[.float .f64 a, .float .f64 b] w fun e w' => e = .returned (.tuple #[.float .f64 r, .int .i64 0]) ∧ w = w' := by
  have H2 : Calls Try.prog 21 #[.float .f64 a, .int .i64 0] w fun e w' => e = .returned (.bool (infB a)) ∧ w = w' := isInf_any a w
  have H2 := Lib.hid H2
  have K : isLe b 0 = false → ∀ w : World, (binOp .add 27 (.float .f64 a) (.float .f64 b)).run Try.prog w = .ok (.float .f64 r) w := fun q w => by
    rcases h with ⟨h4, _⟩ | ⟨_, h5⟩
    · rw [h4] at q
      cases q
    · exact run_float_arith w _ _ _ _ _ _ h5
  have HK := Lib.hid K
  clear K
  rcases h with ⟨h4, rfl⟩ | ⟨h4, _⟩
  all_goals
    have k0 := fun q => HK.out q
    first | (have k1 := k0 h4) | skip
    clear k0 HK
    go_enter Try.func19, Try.ntmps19
    go_wp2_with fail
    refine H2.out.mono ?_
    rintro e w' ⟨rfl, rfl⟩
    go_wp2_with fail
    go_ret2
    exact ⟨rfl, rfl⟩

theorem osame_any (x : Nat) (w : World) : Calls Try.prog 20 #[.float .f64 x, .float .f64 x] w fun e w' => e = .returned (.bool true) ∧ w = w' := by
  obtain ⟨v, hv⟩ : ∃ v : Int, (if isNe x x then 9221120237041090560 else (x : Int)) = v := ⟨_, rfl⟩
  have HO : ∀ w, Calls Try.prog 30 #[.float .f64 x] w fun e w' => e = .returned (.int .u64 v) ∧ w = w' := fun w => by
    have := obits_any x w
    rwa [hv] at this
  have HO := Lib.hid HO
  clear hv
  go_enter Try.func20, Try.ntmps20
  go_wp2_with fail
  refine (HO.out w).mono ?_
  rintro e w' ⟨rfl, rfl⟩
  go_wp2_with fail
  refine (HO.out _).mono ?_
  rintro e w' ⟨rfl, rfl⟩
  go_wp2_with fail
  go_ret
  exact ⟨rfl, rfl⟩

theorem inf_not {a : Nat} (ha : a < 18446744073709551616) (h1 : isNe a a = false) (h2 : infB a = false) : rung a < infR := by
  have hn : num a := by
    by_cases q : num a
    · exact q
    · have : isNe a a = true := ne_iff.2 fun p => q p.1
      rw [h1] at this
      cases this
  unfold num at hn
  rcases Nat.lt_or_ge (rung a) infR with h3 | h3
  · exact h3
  · have e : rung a = infR := by omega
    have : infB a = true := by
      unfold infB
      rw [abs_word ha, e]
      exact gt_iff.2 ⟨num_pos (Nat.le_refl _), num_mx, K_lt⟩
    rw [h2] at this
    cases this
theorem num_of {a : Nat} (h1 : isNe a a = false) : num a := by
  by_cases q : num a
  · exact q
  · have : isNe a a = true := ne_iff.2 fun p => q p.1
    rw [h1] at this
    cases this

/-- What Until says, and that it is not before now. -/
theorem until_says (a b : Nat) (ha : a < 18446744073709551616) (h1 : isNe a a = false) (h2 : infB a = false) (h3 : isNe b b = false) :
    ∃ r, ((isLe b 0 = true ∧ r = a) ∨ (isLe b 0 = false ∧ floatBits .add .f64 a b = some r)) ∧ isGe r a = true := by
  have hna := num_of h1
  have hnb := num_of h3
  cases h4 : isLe b 0 with
  | true => exact ⟨a, .inl ⟨rfl, rfl⟩, ge_iff.2 ⟨hna, hna, Int.le_refl _⟩⟩
  | false =>
    have hb : 0 < EV b := by
      rcases Int.lt_or_le 0 (EV b) with h5 | h5
      · exact h5
      · have : isLe b 0 = true := le_iff.2 ⟨hnb, num_0, by rw [EV_0]; exact h5⟩
        rw [h4] at this
        cases this
    obtain ⟨r, r1, r2, r3⟩ := add_up (inf_not ha h1 h2) hnb hb
    exact ⟨r, .inr ⟨rfl, r1⟩, ge_iff.2 ⟨r2, hna, r3⟩⟩

set_option maxHeartbeats 2000000 in
theorem until_walk (a b : Nat) (ha : a < 18446744073709551616) (w : World) :
    Calls Try.prog 4 #[.int .u64 (a : Int), .int .u64 (b : Int)] w fun e w' => e = .returned (.bool true) ∧ Below w.heap.size w w' := by
  by_cases hbad : isNe a a = true ∨ infB a = true ∨ isNe b b = true
  · have hP : isNe a a = true ∨ (isNe a a = false ∧ infB a = true) ∨ (isNe a a = false ∧ infB a = false ∧ isNe b b = true) := by
      cases h1 : isNe a a <;> cases h2 : infB a <;> cases h3 : isNe b b <;> simp_all
    have hR : isNe a a = true ∨ (isNe a a = false ∧ isNe b b = true) ∨ (isNe a a = false ∧ isNe b b = false ∧ infB a = true) := by
      cases h1 : isNe a a <;> cases h2 : infB a <;> cases h3 : isNe b b <;> simp_all
    have H1 := Lib.hid (fun w => until_bad a b w hP)
    have H2 := Lib.hid (fun w => runtil_bad a b w hR)
    clear hbad hP hR
    go_enter Try.func4, Try.ntmps4
    go_wp2_with fail
    refine (H1.out w).mono ?_
    rintro e w' ⟨rfl, rfl⟩
    go_wp2_with fail
    refine (H2.out _).mono ?_
    rintro e w' ⟨rfl, rfl⟩
    go_wp2_with fail
    refine (osame_any _ _).mono ?_
    rintro e w' ⟨rfl, rfl⟩
    go_wp2_with fail
    refine (wakes_any _).mono ?_
    rintro e w' ⟨rfl, hB⟩
    go_wp2_with fail
    go_ret
    exact ⟨rfl, hB⟩
  · have h1 : isNe a a = false := by cases h : isNe a a <;> simp_all
    have h2 : infB a = false := by cases h : infB a <;> simp_all
    have h3 : isNe b b = false := by cases h : isNe b b <;> simp_all
    obtain ⟨r, hr, hge⟩ := until_says a b ha h1 h2 h3
    have H1 := Lib.hid (fun w => until_good a b r w h1 h2 h3 hr)
    have H2 := Lib.hid (fun w => runtil_good a b r w h1 h2 h3 hr)
    clear hbad hr h1 h2 h3
    go_enter Try.func4, Try.ntmps4
    go_wp2_with fail
    refine (H1.out w).mono ?_
    rintro e w' ⟨rfl, rfl⟩
    go_wp2_with fail
    refine (H2.out _).mono ?_
    rintro e w' ⟨rfl, rfl⟩
    go_wp2_with fail
    refine (osame_any _ _).mono ?_
    rintro e w' ⟨rfl, rfl⟩
    go_wp2_with fail
    refine (wakes_any _).mono ?_
    rintro e w' ⟨rfl, hB⟩
    go_wp2_with fail
    go_ret
    exact ⟨rfl, hB⟩

end Go.Proofs.Ytfmcpcciokogiaa
