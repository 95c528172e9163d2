/- Contracts of the bucket's Level, refused, New. -/
import Derived.Test.YtbodgbkblocphaaWalk1
namespace Go.Proofs.Ytbodgbkblocphaa
open Go.RowKit

/-- The bucket in block b. -/
def Bk (w : World) (b t r bu lv la : Nat) : Prop := w.heap[b]? = some (.cells #[.float .f64 r, .float .f64 bu, .float .f64 lv, .float .f64 la] t (0, 0))

theorem Bk.cells {w : World} {b t r bu lv la : Nat} (h : Bk w b t r bu lv la) :
    w.cell? ⟨b, 0, none⟩ = some (.float .f64 r) ∧ w.cell? ⟨b, 1, none⟩ = some (.float .f64 bu) ∧ w.cell? ⟨b, 2, none⟩ = some (.float .f64 lv) ∧ w.cell? ⟨b, 3, none⟩ = some (.float .f64 la) ∧
    w.frozen? ⟨b, 2, none⟩ = false ∧ w.frozen? ⟨b, 3, none⟩ = false := by
  unfold Bk at h
  simp [World.cell?, World.frozen?, h]

theorem level_early (b r bu lv la now : Nat) (w : World) (hb : Bk w b 56 r bu lv la)
    (h : isGt (Op.negFloat .f64 la) 9218868437227405311 = true ∨ isGt now la = false ∨ isEq r 0 = true) :
    Calls Try.prog 12 #[.pointer (some ⟨b, 0, none⟩), .float .f64 now] w fun e w' => e = .returned (.float .f64 lv) ∧ w = w' := by
  obtain ⟨c0, c1, c2, c3, -, -⟩ := hb.cells
  clear hb
  cases h1 : isGt (Op.negFloat .f64 la) 9218868437227405311
  · cases h2 : isGt now la
    · clear h
      go_enter Try.func12, Try.ntmps12
      go_wp2_with (go_at_call 20; refine (isInf_neg _ _).mono ?_; rintro e w' ⟨rfl, rfl⟩)
      go_ret
      exact ⟨rfl, rfl⟩
    · cases h3 : isEq r 0
      · rw [h1, h2, h3] at h; simp at h
      · clear h
        go_enter Try.func12, Try.ntmps12
        go_wp2_with (go_at_call 20; refine (isInf_neg _ _).mono ?_; rintro e w' ⟨rfl, rfl⟩)
        go_ret
        exact ⟨rfl, rfl⟩
  · clear h
    go_enter Try.func12, Try.ntmps12
    go_wp2_with (go_at_call 20; refine (isInf_neg _ _).mono ?_; rintro e w' ⟨rfl, rfl⟩)
    go_ret
    exact ⟨rfl, rfl⟩

theorem level_burst (b r bu lv la now : Nat) (w : World) (hb : Bk w b 56 r bu lv la)
    (h1 : isGt (Op.negFloat .f64 la) 9218868437227405311 = false) (h2 : isGt now la = true) (h3 : isEq r 0 = false) (h4 : isGt r 9218868437227405311 = true ∨ isGt now 9218868437227405311 = true) :
    Calls Try.prog 12 #[.pointer (some ⟨b, 0, none⟩), .float .f64 now] w fun e w' => e = .returned (.float .f64 bu) ∧ w = w' := by
  obtain ⟨c0, c1, c2, c3, -, -⟩ := hb.cells
  clear hb
  cases h5 : isGt r 9218868437227405311
  · cases h6 : isGt now 9218868437227405311
    · rw [h5, h6] at h4; simp at h4
    · clear h4
      go_enter Try.func12, Try.ntmps12
      go_wp2_with (go_at_call 20; first | ((with_reducible refine (isInf_neg _ _).mono ?_); rintro e w1 ⟨rfl, rfl⟩) | ((with_reducible refine (isInf_pos _ _).mono ?_); rintro e w1 ⟨rfl, rfl⟩))
      go_ret
      exact ⟨rfl, rfl⟩
  · clear h4
    go_enter Try.func12, Try.ntmps12
    go_wp2_with (go_at_call 20; first | ((with_reducible refine (isInf_neg _ _).mono ?_); rintro e w1 ⟨rfl, rfl⟩) | ((with_reducible refine (isInf_pos _ _).mono ?_); rintro e w1 ⟨rfl, rfl⟩))
    go_ret
    exact ⟨rfl, rfl⟩

theorem level_more (b r bu lv la now d m s v : Nat) (w : World) (hb : Bk w b 56 r bu lv la)
    (h1 : isGt (Op.negFloat .f64 la) 9218868437227405311 = false) (h2 : isGt now la = true) (h3 : isEq r 0 = false) (h4 : isGt r 9218868437227405311 = false) (h5 : isGt now 9218868437227405311 = false)
    (hd : floatBits .sub .f64 now la = some d) (hm : floatBits .mul .f64 d r = some m) (hs : floatBits .add .f64 lv m = some s)
    (hv : ∀ w : World, (Builtin.min_ #[30, 30] 30 #[.float .f64 bu, .float .f64 s]).run Try.prog w = .ok (.float .f64 v) w) :
    Calls Try.prog 12 #[.pointer (some ⟨b, 0, none⟩), .float .f64 now] w fun e w' => e = .returned (.float .f64 v) ∧ ∃ n, w.drewN n = w' := by
  obtain ⟨c0, c1, c2, c3, -, -⟩ := hb.cells
  clear hb
  have k1 : ∀ w : World, (binOp .sub 30 (.float .f64 now) (.float .f64 la)).run Try.prog w = .ok (.float .f64 d) w := fun w => run_float_arith w _ _ _ _ _ _ hd
  have k2 : ∀ w : World, (binOp .mul 30 (.float .f64 d) (.float .f64 r)).run Try.prog w = .ok (.float .f64 m) w := fun w => run_float_arith w _ _ _ _ _ _ hm
  have k3 : ∀ w : World, (binOp .add 30 (.float .f64 lv) (.float .f64 m)).run Try.prog w = .ok (.float .f64 s) w := fun w => run_float_arith w _ _ _ _ _ _ hs
  clear hd hm hs
  go_enter Try.func12, Try.ntmps12
  go_wp2_with (go_at_call 20; first | ((with_reducible refine (isInf_neg _ _).mono ?_); rintro e w1 ⟨rfl, rfl⟩) | ((with_reducible refine (isInf_pos _ _).mono ?_); rintro e w1 ⟨rfl, rfl⟩))
  go_quiet (fail)
  go_wp2
  go_quiet (fail)
  go_wp2
  go_ret
  exact ⟨rfl, _, (World.drewN_drewN _ _ _).symm⟩


def refusedF (bu now cost : Nat) : Int :=
  if isNe now now = true ∨ isGt (Op.negFloat .f64 now) 9218868437227405311 = true ∨ isGe cost 0 = false then 1 else if isGt cost bu = true then 3 else 0

theorem ret_int {k : IntKind} {a b : Int} (h : a = b) : Ending.returned (.int k a) = .returned (.int k b) := by rw [h]

theorem refused_any (b r bu lv la now cost : Nat) (w : World) (hb : Bk w b 56 r bu lv la) :
    Calls Try.prog 23 #[.pointer (some ⟨b, 0, none⟩), .float .f64 now, .float .f64 cost] w fun e w' => e = .returned (.int .i64 (refusedF bu now cost)) ∧ w = w' := by
  obtain ⟨c0, c1, c2, c3, -, -⟩ := hb.cells
  clear hb
  cases h1 : isNe now now
  · cases h2 : isGt (Op.negFloat .f64 now) 9218868437227405311
    · cases h3 : isGe cost 0
      · have e : refusedF bu now cost = 1 := by simp [refusedF, h3]
        have E := Lib.hid e; clear e
        go_enter Try.func23, Try.ntmps23
        go_wp2_with (first | (go_at_call 28; refine (isNaN_any _ _).mono ?_; rintro e w' ⟨rfl, rfl⟩) | (go_at_call 20; refine (isInf_neg _ _).mono ?_; rintro e w' ⟨rfl, rfl⟩))
        go_ret
        exact ⟨by rw [E.out]; rfl, rfl⟩
      · cases h4 : isGt cost bu
        · have e : refusedF bu now cost = 0 := by simp [refusedF, h1, h2, h3, h4]
          have E := Lib.hid e; clear e
          go_enter Try.func23, Try.ntmps23
          go_wp2_with (first | (go_at_call 28; refine (isNaN_any _ _).mono ?_; rintro e w' ⟨rfl, rfl⟩) | (go_at_call 20; refine (isInf_neg _ _).mono ?_; rintro e w' ⟨rfl, rfl⟩))
          go_ret
          exact ⟨by rw [E.out]; rfl, rfl⟩
        · have e : refusedF bu now cost = 3 := by simp [refusedF, h1, h2, h3, h4]
          have E := Lib.hid e; clear e
          go_enter Try.func23, Try.ntmps23
          go_wp2_with (first | (go_at_call 28; refine (isNaN_any _ _).mono ?_; rintro e w' ⟨rfl, rfl⟩) | (go_at_call 20; refine (isInf_neg _ _).mono ?_; rintro e w' ⟨rfl, rfl⟩))
          go_ret
          exact ⟨by rw [E.out]; rfl, rfl⟩
    · have e : refusedF bu now cost = 1 := by simp [refusedF, h2]
      have E := Lib.hid e; clear e
      go_enter Try.func23, Try.ntmps23
      go_wp2_with (first | (go_at_call 28; refine (isNaN_any _ _).mono ?_; rintro e w' ⟨rfl, rfl⟩) | (go_at_call 20; refine (isInf_neg _ _).mono ?_; rintro e w' ⟨rfl, rfl⟩))
      go_ret
      exact ⟨by rw [E.out]; rfl, rfl⟩
  · have e : refusedF bu now cost = 1 := by simp [refusedF, h1]
    have E := Lib.hid e; clear e
    go_enter Try.func23, Try.ntmps23
    go_wp2_with (first | (go_at_call 28; refine (isNaN_any _ _).mono ?_; rintro e w' ⟨rfl, rfl⟩) | (go_at_call 20; refine (isInf_neg _ _).mono ?_; rintro e w' ⟨rfl, rfl⟩))
    go_ret
    exact ⟨by rw [E.out]; rfl, rfl⟩

end Go.Proofs.Ytbodgbkblocphaa
