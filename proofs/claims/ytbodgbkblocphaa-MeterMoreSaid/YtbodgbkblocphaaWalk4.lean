/- Contracts of the reference's bucket. -/
import Derived.Test.YtbodgbkblocphaaWalk3
namespace Go.Proofs.Ytbodgbkblocphaa
open Go.RowKit

theorem rnew_refused (r s : Nat) (w : World) (h : isNe r r = true ∨ isNe s s = true ∨ isLt r 0 = true ∨ isLt s 0 = true ∨ isGt s 9218868437227405311 = true) :
    Calls Try.prog 13 #[.float .f64 r, .float .f64 s] w fun e w' => e = .returned (.tuple #[.pointer none, .bool false]) ∧ w = w' := by
  cases h1 : isNe r r
  · cases h2 : isNe s s
    · cases h3 : isLt r 0
      · cases h4 : isLt s 0
        · have h5 : isGt s 9218868437227405311 = true := by rw [h1, h2, h3, h4] at h; simpa using h
          clear h
          go_enter Try.func13, Try.ntmps13
          go_wp2_with (go_at_call 20; refine (isInf_pos _ _).mono ?_; rintro e w' ⟨rfl, rfl⟩)
          go_ret2
          exact ⟨rfl, rfl⟩
        · clear h
          go_enter Try.func13, Try.ntmps13
          go_wp2
          go_ret2
          exact ⟨rfl, rfl⟩
      · clear h
        go_enter Try.func13, Try.ntmps13
        go_wp2
        go_ret2
        exact ⟨rfl, rfl⟩
    · clear h
      go_enter Try.func13, Try.ntmps13
      go_wp2
      go_ret2
      exact ⟨rfl, rfl⟩
  · clear h
    go_enter Try.func13, Try.ntmps13
    go_wp2
    go_ret2
    exact ⟨rfl, rfl⟩

theorem rnew_made (r s r' s' : Nat) (w : World) (h1 : isNe r r = false) (h2 : isNe s s = false) (h3 : isLt r 0 = false) (h4 : isLt s 0 = false) (h5 : isGt s 9218868437227405311 = false)
    (er : floatBits .add .f64 r 0 = some r') (es : floatBits .add .f64 s 0 = some s') :
    Calls Try.prog 13 #[.float .f64 r, .float .f64 s] w fun e w' => e = .returned (.tuple #[.pointer (some ⟨w.heap.size, 0, none⟩), .bool true]) ∧
      w.alloc (.cells #[.float .f64 r', .float .f64 s', .float .f64 s', .float .f64 18442240474082181120] 58) = w' := by
  have k1 : ∀ w : World, (binOp .add 30 (.float .f64 r) (.float .f64 0)).run Try.prog w = .ok (.float .f64 r') w := fun w => run_float_arith w _ _ _ _ _ _ er
  have k2 : ∀ w : World, (binOp .add 30 (.float .f64 s) (.float .f64 0)).run Try.prog w = .ok (.float .f64 s') w := fun w => run_float_arith w _ _ _ _ _ _ es
  clear er es
  go_enter Try.func13, Try.ntmps13
  go_wp2_with (first | (go_at_call 20; refine (isInf_pos _ _).mono ?_; rintro e w' ⟨rfl, rfl⟩) | (go_at_call 22; refine (inf_neg _).mono ?_; rintro e w' ⟨rfl, rfl⟩))
  go_ret2
  exact ⟨rfl, rfl⟩

theorem wrong_arg (b now cost : Nat) (w : World) (h : isNe now now = true ∨ isNe cost cost = true ∨ isGt (Op.negFloat .f64 now) 9218868437227405311 = true ∨ isLt cost 0 = true) :
    Calls Try.prog 26 #[.pointer (some ⟨b, 0, none⟩), .float .f64 now, .float .f64 cost] w fun e w' => e = .returned (.int .i64 1) ∧ w = w' := by
  cases h1 : isNe now now
  · cases h2 : isNe cost cost
    · cases h3 : isGt (Op.negFloat .f64 now) 9218868437227405311
      · have h4 : isLt cost 0 = true := by rw [h1, h2, h3] at h; simpa using h
        clear h
        go_enter Try.func26, Try.ntmps26
        go_wp2_with (go_at_call 20; refine (isInf_neg _ _).mono ?_; rintro e w' ⟨rfl, rfl⟩)
        go_ret
        exact ⟨rfl, rfl⟩
      · clear h
        go_enter Try.func26, Try.ntmps26
        go_wp2_with (go_at_call 20; refine (isInf_neg _ _).mono ?_; rintro e w' ⟨rfl, rfl⟩)
        go_ret
        exact ⟨rfl, rfl⟩
    · clear h
      go_enter Try.func26, Try.ntmps26
      go_wp2
      go_ret
      exact ⟨rfl, rfl⟩
  · clear h
    go_enter Try.func26, Try.ntmps26
    go_wp2
    go_ret
    exact ⟨rfl, rfl⟩

theorem wrong_else (b r bu lv la now cost : Nat) (w : World) (hb : Bk w b 58 r bu lv la) (h1 : isNe now now = false) (h2 : isNe cost cost = false) (h3 : isGt (Op.negFloat .f64 now) 9218868437227405311 = false) (h4 : isLt cost 0 = false) (x : Int) (hx : x = if isGt cost bu = true then 3 else 0) :
    Calls Try.prog 26 #[.pointer (some ⟨b, 0, none⟩), .float .f64 now, .float .f64 cost] w fun e w' => e = .returned (.int .i64 x) ∧ w = w' := by
  obtain ⟨c0, c1, c2, c3, -, -⟩ := hb.cells
  clear hb
  cases h5 : isGt cost bu
  · rw [h5] at hx; simp at hx; subst hx
    go_enter Try.func26, Try.ntmps26
    go_wp2_with (go_at_call 20; refine (isInf_neg _ _).mono ?_; rintro e w' ⟨rfl, rfl⟩)
    go_ret
    exact ⟨rfl, rfl⟩
  · rw [h5] at hx; simp at hx; subst hx
    go_enter Try.func26, Try.ntmps26
    go_wp2_with (go_at_call 20; refine (isInf_neg _ _).mono ?_; rintro e w' ⟨rfl, rfl⟩)
    go_ret
    exact ⟨rfl, rfl⟩

theorem rlevel_early (b r bu lv la now : Nat) (w : World) (hb : Bk w b 58 r bu lv la)
    (h : isNe now now = true ∨ isGt (Op.negFloat .f64 la) 9218868437227405311 = true ∨ isLe now la = true) :
    Calls Try.prog 15 #[.pointer (some ⟨b, 0, none⟩), .float .f64 now] w fun e w' => e = .returned (.float .f64 lv) ∧ w = w' := by
  obtain ⟨c0, c1, c2, c3, -, -⟩ := hb.cells
  clear hb
  cases h1 : isNe now now
  · cases h2 : isGt (Op.negFloat .f64 la) 9218868437227405311
    · have h3 : isLe now la = true := by rw [h1, h2] at h; simpa using h
      clear h
      go_enter Try.func15, Try.ntmps15
      go_wp2_with (go_at_call 20; refine (isInf_neg _ _).mono ?_; rintro e w' ⟨rfl, rfl⟩)
      go_ret
      exact ⟨rfl, rfl⟩
    · clear h
      go_enter Try.func15, Try.ntmps15
      go_wp2_with (go_at_call 20; refine (isInf_neg _ _).mono ?_; rintro e w' ⟨rfl, rfl⟩)
      go_ret
      exact ⟨rfl, rfl⟩
  · clear h
    go_enter Try.func15, Try.ntmps15
    go_wp2
    go_ret
    exact ⟨rfl, rfl⟩

theorem rlevel_zero (b r bu lv la now : Nat) (w : World) (hb : Bk w b 58 r bu lv la)
    (h1 : isNe now now = false) (h2 : isGt (Op.negFloat .f64 la) 9218868437227405311 = false) (h3 : isLe now la = false) (h4 : isGt r 9218868437227405311 = false) (h5 : isEq r 0 = true) (h6 : isNe r 0 = false) :
    Calls Try.prog 15 #[.pointer (some ⟨b, 0, none⟩), .float .f64 now] w fun e w' => e = .returned (.float .f64 lv) ∧ w = w' := by
  obtain ⟨c0, c1, c2, c3, -, -⟩ := hb.cells
  clear hb
  cases h7 : isGt now 9218868437227405311
  all_goals
    go_enter Try.func15, Try.ntmps15
    go_wp2_with (go_at_call 20; first | ((with_reducible refine (isInf_neg _ _).mono ?_); rintro e w1 ⟨rfl, rfl⟩) | ((with_reducible refine (isInf_pos _ _).mono ?_); rintro e w1 ⟨rfl, rfl⟩))
    go_ret
    exact ⟨rfl, rfl⟩

theorem rlevel_burst (b r bu lv la now : Nat) (w : World) (hb : Bk w b 58 r bu lv la)
    (h1 : isNe now now = false) (h2 : isGt (Op.negFloat .f64 la) 9218868437227405311 = false) (h3 : isLe now la = false) (h4 : isGt r 9218868437227405311 = true ∨ isGt now 9218868437227405311 = true) (h6 : isNe r 0 = true) :
    Calls Try.prog 15 #[.pointer (some ⟨b, 0, none⟩), .float .f64 now] w fun e w' => e = .returned (.float .f64 bu) ∧ w = w' := by
  obtain ⟨c0, c1, c2, c3, -, -⟩ := hb.cells
  clear hb
  cases h7 : isGt r 9218868437227405311
  · have h8 : isGt now 9218868437227405311 = true := by rw [h7] at h4; simpa using h4
    clear h4
    go_enter Try.func15, Try.ntmps15
    go_wp2_with (go_at_call 20; first | ((with_reducible refine (isInf_neg _ _).mono ?_); rintro e w1 ⟨rfl, rfl⟩) | ((with_reducible refine (isInf_pos _ _).mono ?_); rintro e w1 ⟨rfl, rfl⟩))
    go_ret
    exact ⟨rfl, rfl⟩
  · clear h4
    go_enter Try.func15, Try.ntmps15
    go_wp2_with (go_at_call 20; first | ((with_reducible refine (isInf_neg _ _).mono ?_); rintro e w1 ⟨rfl, rfl⟩) | ((with_reducible refine (isInf_pos _ _).mono ?_); rintro e w1 ⟨rfl, rfl⟩))
    go_ret
    exact ⟨rfl, rfl⟩

theorem rlevel_more (b r bu lv la now d m s v : Nat) (w : World) (hb : Bk w b 58 r bu lv la)
    (h1 : isNe now now = false) (h2 : isGt (Op.negFloat .f64 la) 9218868437227405311 = false) (h3 : isLe now la = false) (h4 : isGt r 9218868437227405311 = false) (h5 : isGt now 9218868437227405311 = false) (h6 : isEq r 0 = false)
    (hd : floatBits .sub .f64 now la = some d) (hm : floatBits .mul .f64 d r = some m) (hs : floatBits .add .f64 lv m = some s) (hv : v = if isGt s bu = true then bu else s) :
    Calls Try.prog 15 #[.pointer (some ⟨b, 0, none⟩), .float .f64 now] w fun e w' => e = .returned (.float .f64 v) ∧ ∃ n, w.drewN n = w' := by
  obtain ⟨c0, c1, c2, c3, -, -⟩ := hb.cells
  clear hb
  have k1 : ∀ w : World, (binOp .sub 30 (.float .f64 now) (.float .f64 la)).run Try.prog w = .ok (.float .f64 d) w := fun w => run_float_arith w _ _ _ _ _ _ hd
  have k2 : ∀ w : World, (binOp .mul 30 (.float .f64 d) (.float .f64 r)).run Try.prog w = .ok (.float .f64 m) w := fun w => run_float_arith w _ _ _ _ _ _ hm
  have k3 : ∀ w : World, (binOp .add 30 (.float .f64 lv) (.float .f64 m)).run Try.prog w = .ok (.float .f64 s) w := fun w => run_float_arith w _ _ _ _ _ _ hs
  clear hd hm hs
  cases h7 : isGt s bu
  · rw [h7] at hv; simp at hv; subst hv
    go_enter Try.func15, Try.ntmps15
    go_wp2_with (go_at_call 20; first | ((with_reducible refine (isInf_neg _ _).mono ?_); rintro e w1 ⟨rfl, rfl⟩) | ((with_reducible refine (isInf_pos _ _).mono ?_); rintro e w1 ⟨rfl, rfl⟩))
    go_quiet (fail)
    go_wp2
    go_ret
    exact ⟨rfl, _, rfl⟩
  · rw [h7] at hv; simp at hv; subst hv
    go_enter Try.func15, Try.ntmps15
    go_wp2_with (go_at_call 20; first | ((with_reducible refine (isInf_neg _ _).mono ?_); rintro e w1 ⟨rfl, rfl⟩) | ((with_reducible refine (isInf_pos _ _).mono ?_); rintro e w1 ⟨rfl, rfl⟩))
    go_quiet (fail)
    go_wp2
    go_ret
    exact ⟨rfl, _, rfl⟩


def RGivesLevel (b r bu lv la now L : Nat) : Prop := ∀ w : World, Bk w b 58 r bu lv la → Calls Try.prog 15 #[.pointer (some ⟨b, 0, none⟩), .float .f64 now] w fun e w' => e = .returned (.float .f64 L) ∧ ∃ n, w.drewN n = w'

def GivesWrong (b r bu lv la now cost : Nat) (x : Int) : Prop := ∀ w : World, Bk w b 58 r bu lv la → Calls Try.prog 26 #[.pointer (some ⟨b, 0, none⟩), .float .f64 now, .float .f64 cost] w fun e w' => e = .returned (.int .i64 x) ∧ w = w'

theorem rtake_refused (b r bu lv la now cost : Nat) (x : Int) (w : World) (hb : Bk w b 58 r bu lv la) (hw : GivesWrong b r bu lv la now cost x) (h : x ≠ 0) :
    Calls Try.prog 18 #[.pointer (some ⟨b, 0, none⟩), .float .f64 now, .float .f64 cost] w fun e w' => e = .returned (.int .i64 x) ∧ w = w' := by
  have h' : (x != 0) = true := by simpa using h
  clear h
  go_enter Try.func18, Try.ntmps18
  go_wp2_with (go_at_call 26; refine (hw _ hb).mono ?_; rintro e w' ⟨rfl, rfl⟩)
  go_ret
  exact ⟨rfl, rfl⟩

def rLast (la now : Nat) : Nat := if isGt now la = true then now else la

set_option maxHeartbeats 1000000 in
theorem rtake_goes (b r bu lv la now cost L d : Nat) (w : World) (hb : Bk w b 58 r bu lv la) (hw : GivesWrong b r bu lv la now cost 0) (hL : RGivesLevel b r bu lv la now L)
    (hd : isGt cost L = false → floatBits .sub .f64 L cost = some d) :
    Calls Try.prog 18 #[.pointer (some ⟨b, 0, none⟩), .float .f64 now, .float .f64 cost] w fun e w' => e = .returned (.int .i64 (takeAns cost L)) ∧ w.grownBy w' (some b) ∧ Bk w' b 58 r bu (takeLev cost L d) (rLast la now) := by
  obtain ⟨c0, c1, c2, c3, f2, f3⟩ := hb.cells
  go_enter Try.func18, Try.ntmps18
  go_upto_if 26 with (first | (go_at_call 26; refine (hw _ hb).mono ?_; rintro e w' ⟨rfl, rfl⟩) | (go_at_call 15; refine (hL _ hb).mono ?_; rintro e w' ⟨rfl, n, rfl⟩))
  obtain ⟨W, hW⟩ : ∃ W, (w.drewN n).setCell ⟨b, 2, none⟩ (.float .f64 L) = W := ⟨_, rfl⟩
  rw [hW]
  have hg : w.grownBy W (some b) := by rw [← hW]; exact only_setCell (p := ⟨b, 2, none⟩) (only_drewN (only_refl _ _) _) (.inl rfl) _
  have hb1 : Bk W b 58 r bu L la := by rw [← hW]; exact (hb.drewN n).set2 L
  clear hW c0 c1 c2 c3 f2 f3 hb hw hL
  obtain ⟨c0, c1, c2, c3, f2, f3⟩ := hb1.cells
  go_cut [] (fun wx => w.grownBy wx (some b) ∧ Bk wx b 58 r bu L (rLast la now))
  case first =>
    cases h1 : isGt now la
    · have e1 : rLast la now = la := by simp [rLast, h1]
      have E1 := Lib.hid e1; clear e1
      go_wp2
      go_meet
      rw [E1.out]
      exact ⟨hg, hb1⟩
    · have e1 : rLast la now = now := by simp [rLast, h1]
      have E1 := Lib.hid e1; clear e1
      go_wp2
      go_meet
      rw [E1.out]
      exact ⟨only_setCell (p := ⟨b, 3, none⟩) hg (.inl rfl) _, hb1.set3 now⟩
  case rest =>
    clear hg hb1 c0 c1 c2 c3 f2 f3
    obtain ⟨hg, hb2⟩ := hcut
    obtain ⟨d0, d1, d2, d3, g2, g3⟩ := hb2.cells
    cases hc : isGt cost L
    · have hd2 := hd hc
      have k1 : ∀ w : World, (binOp .sub 30 (.float .f64 L) (.float .f64 cost)).run Try.prog w = .ok (.float .f64 d) w := fun w => run_float_arith w _ _ _ _ _ _ hd2
      clear hd2 hd
      have e1 : takeAns cost L = 0 := by simp [takeAns, hc]
      have e2 : takeLev cost L d = d := by simp [takeLev, hc]
      have E1 := Lib.hid e1; clear e1
      have E2 := Lib.hid e2; clear e2
      go_wp2
      go_ret
      rw [E1.out, E2.out]
      exact ⟨rfl, only_setCell (p := ⟨b, 2, none⟩) hg (.inl rfl) _, hb2.set2 d⟩
    · clear hd
      have e1 : takeAns cost L = 19 := by simp [takeAns, hc]
      have e2 : takeLev cost L d = L := by simp [takeLev, hc]
      have E1 := Lib.hid e1; clear e1
      have E2 := Lib.hid e2; clear e2
      go_wp2
      go_ret
      rw [E1.out, E2.out]
      exact ⟨rfl, hg, hb2⟩

/-- The reference's Wait. -/
theorem rwait_refused (b r bu lv la now cost : Nat) (x : Int) (w : World) (hb : Bk w b 58 r bu lv la) (hw : GivesWrong b r bu lv la now cost x) (h : x ≠ 0) :
    Calls Try.prog 17 #[.pointer (some ⟨b, 0, none⟩), .float .f64 now, .float .f64 cost] w fun e w' => e = .returned (.float .f64 9221120237041090561) ∧ ∃ n, w.drewN n = w' := by
  have h' : (x != 0) = true := by simpa using h
  clear h
  go_enter Try.func17, Try.ntmps17
  go_wp2_with (first | (go_at_call 26; refine (hw _ hb).mono ?_; rintro e w' ⟨rfl, rfl⟩) | (go_at_call 25; refine (nan_any _).mono ?_; rintro e w' ⟨rfl, rfl⟩))
  go_ret
  exact ⟨rfl, 0, rfl⟩

theorem rwait_none (b r bu lv la now cost L : Nat) (w : World) (hb : Bk w b 58 r bu lv la) (hw : GivesWrong b r bu lv la now cost 0) (hL : RGivesLevel b r bu lv la now L) (hc : isLe cost L = true) :
    Calls Try.prog 17 #[.pointer (some ⟨b, 0, none⟩), .float .f64 now, .float .f64 cost] w fun e w' => e = .returned (.float .f64 0) ∧ ∃ n, w.drewN n = w' := by
  go_enter Try.func17, Try.ntmps17
  go_wp2_with (first | (go_at_call 26; refine (hw _ hb).mono ?_; rintro e w' ⟨rfl, rfl⟩) | (go_at_call 15; refine (hL _ hb).mono ?_; rintro e w' ⟨rfl, n, rfl⟩))
  go_ret
  exact ⟨rfl, _, rfl⟩

theorem rwait_never (b r bu lv la now cost L : Nat) (w : World) (hb : Bk w b 58 r bu lv la) (hw : GivesWrong b r bu lv la now cost 0) (hL : RGivesLevel b r bu lv la now L) (hc : isLe cost L = false) (hr : isEq r 0 = true) :
    Calls Try.prog 17 #[.pointer (some ⟨b, 0, none⟩), .float .f64 now, .float .f64 cost] w fun e w' => e = .returned (.float .f64 9218868437227405312) ∧ ∃ n, w.drewN n = w' := by
  obtain ⟨c0, c1, c2, c3, -, -⟩ := hb.cells
  go_enter Try.func17, Try.ntmps17
  go_wp2_with (first | (go_at_call 26; refine (hw _ hb).mono ?_; rintro e w' ⟨rfl, rfl⟩) | (go_at_call 15; refine (hL _ hb).mono ?_; rintro e w' ⟨rfl, n, rfl⟩) | (go_at_call 22; refine (inf_pos _).mono ?_; rintro e w' ⟨rfl, rfl⟩))
  go_ret
  exact ⟨rfl, _, rfl⟩

theorem rwait_once (b r bu lv la now cost L : Nat) (w : World) (hb : Bk w b 58 r bu lv la) (hw : GivesWrong b r bu lv la now cost 0) (hL : RGivesLevel b r bu lv la now L) (hc : isLe cost L = false) (hr : isEq r 0 = false) (hi : isGt r 9218868437227405311 = true) :
    Calls Try.prog 17 #[.pointer (some ⟨b, 0, none⟩), .float .f64 now, .float .f64 cost] w fun e w' => e = .returned (.float .f64 0) ∧ ∃ n, w.drewN n = w' := by
  obtain ⟨c0, c1, c2, c3, -, -⟩ := hb.cells
  go_enter Try.func17, Try.ntmps17
  go_wp2_with (first | (go_at_call 26; refine (hw _ hb).mono ?_; rintro e w' ⟨rfl, rfl⟩) | (go_at_call 15; refine (hL _ hb).mono ?_; rintro e w' ⟨rfl, n, rfl⟩) | (go_at_call 20; refine (isInf_pos _ _).mono ?_; rintro e w' ⟨rfl, rfl⟩))
  go_ret
  exact ⟨rfl, _, rfl⟩

theorem rwait_some (b r bu lv la now cost L d q : Nat) (w : World) (hb : Bk w b 58 r bu lv la) (hw : GivesWrong b r bu lv la now cost 0) (hL : RGivesLevel b r bu lv la now L) (hc : isLe cost L = false) (hr : isEq r 0 = false) (hi : isGt r 9218868437227405311 = false)
    (hd : floatBits .sub .f64 cost L = some d) (hq : floatBits .quo .f64 d r = some q) :
    Calls Try.prog 17 #[.pointer (some ⟨b, 0, none⟩), .float .f64 now, .float .f64 cost] w fun e w' => e = .returned (.float .f64 q) ∧ ∃ n, w.drewN n = w' := by
  obtain ⟨c0, c1, c2, c3, -, -⟩ := hb.cells
  have k1 : ∀ w : World, (binOp .sub 30 (.float .f64 cost) (.float .f64 L)).run Try.prog w = .ok (.float .f64 d) w := fun w => run_float_arith w _ _ _ _ _ _ hd
  have k2 : ∀ w : World, (binOp .quo 30 (.float .f64 d) (.float .f64 r)).run Try.prog w = .ok (.float .f64 q) w := fun w => run_float_arith w _ _ _ _ _ _ hq
  clear hd hq
  go_enter Try.func17, Try.ntmps17
  go_wp2_with (first | (go_at_call 26; refine (hw _ hb).mono ?_; rintro e w' ⟨rfl, rfl⟩) | (go_at_call 15; refine (hL _ hb).mono ?_; rintro e w' ⟨rfl, n, rfl⟩) | (go_at_call 20; refine (isInf_pos _ _).mono ?_; rintro e w' ⟨rfl, rfl⟩))
  go_ret
  exact ⟨rfl, _, rfl⟩

theorem same_any (x : Nat) (w : World) : Calls Try.prog 14 #[.float .f64 x, .float .f64 x] w fun e w' => e = .returned (.bool true) ∧ w = w' := by
  go_enter Try.func14, Try.ntmps14
  go_wp2_with (go_at_call 24; refine (obits_any _ _).mono ?_; rintro e w' ⟨rfl, rfl⟩)
  all_goals (go_ret; exact ⟨rfl, rfl⟩)

end Go.Proofs.Ytbodgbkblocphaa
