/- Contracts of the bucket's Take and Wait, and of New. -/
import Derived.Test.YtbodgbkblocphaaWalk2
import Derived.Deep.RegionWith
import Derived.Deep.DeepCutAuto
namespace Go.Proofs.Ytbodgbkblocphaa
open Go.RowKit

theorem Bk.drewN {w : World} {b t r bu lv la : Nat} (h : Bk w b t r bu lv la) (n : Nat) : Bk (w.drewN n) b t r bu lv la := h
theorem Bk.set2 {w : World} {b t r bu lv la : Nat} (h : Bk w b t r bu lv la) (x : Nat) : Bk (w.setCell ⟨b, 2, none⟩ (.float .f64 x)) b t r bu x la := by
  unfold Bk at h ⊢
  simp [World.setCell, Array.getElem?_modify, h]
theorem Bk.set3 {w : World} {b t r bu lv la : Nat} (h : Bk w b t r bu lv la) (x : Nat) : Bk (w.setCell ⟨b, 3, none⟩ (.float .f64 x)) b t r bu lv x := by
  unfold Bk at h ⊢
  simp [World.setCell, Array.getElem?_modify, h]
theorem only_refl (w : World) (row : Option Nat) : w.grownBy w row := World.grownBy.refl w row
theorem only_drewN {a w : World} {row : Option Nat} (h : a.grownBy w row) (n : Nat) : a.grownBy (w.drewN n) row := ⟨h.os, h.tape, h.output, h.size, h.block⟩
theorem only_setCell {a w : World} {g : Nat} (h : a.grownBy w (some g)) {p : Addr} (hp : p.block = g ∨ a.heap.size ≤ p.block) (u : Value) : a.grownBy (w.setCell p u) (some g) :=
  ⟨h.os, h.tape, h.output, by simpa [World.setCell] using h.size, fun i hi hne => (Below.heap_setCell w p u i (by
    rintro rfl
    rcases hp with hp | hp
    · exact hne (by rw [hp])
    · omega)).trans (h.block i hi hne)⟩

theorem take_rel {w : World} {b r bu lv la : Nat} (hb : Bk w b 56 r bu lv la) (n L m : Nat) :
    w.grownBy (((w.drewN n).setCell ⟨b, 2, none⟩ (.float .f64 L)).setCell ⟨b, 3, none⟩ (.float .f64 m)) (some b) ∧ Bk (((w.drewN n).setCell ⟨b, 2, none⟩ (.float .f64 L)).setCell ⟨b, 3, none⟩ (.float .f64 m)) b 56 r bu L m :=
  ⟨only_setCell (p := ⟨b, 3, none⟩) (only_setCell (p := ⟨b, 2, none⟩) (only_drewN (only_refl _ _) _) (.inl rfl) _) (.inl rfl) _, ((hb.drewN _).set2 L).set3 m⟩
theorem take_rel' {w : World} {b r bu lv la : Nat} (hb : Bk w b 56 r bu lv la) (n L m : Nat) :
    w.grownBy (((w.drewN n).setCell ⟨b, 3, none⟩ (.float .f64 m)).setCell ⟨b, 2, none⟩ (.float .f64 L)) (some b) ∧ Bk (((w.drewN n).setCell ⟨b, 3, none⟩ (.float .f64 m)).setCell ⟨b, 2, none⟩ (.float .f64 L)) b 56 r bu L m :=
  ⟨only_setCell (p := ⟨b, 2, none⟩) (only_setCell (p := ⟨b, 3, none⟩) (only_drewN (only_refl _ _) _) (.inl rfl) _) (.inl rfl) _, ((hb.drewN _).set3 m).set2 L⟩

/-- What Level is asked to give, in whatever world has the bucket. -/
def GivesLevel (b r bu lv la now L : Nat) : Prop := ∀ w : World, Bk w b 56 r bu lv la → Calls Try.prog 12 #[.pointer (some ⟨b, 0, none⟩), .float .f64 now] w fun e w' => e = .returned (.float .f64 L) ∧ ∃ n, w.drewN n = w'

theorem take_refused (b r bu lv la now cost : Nat) (w : World) (hb : Bk w b 56 r bu lv la) (h : refusedF bu now cost ≠ 0) :
    Calls Try.prog 10 #[.pointer (some ⟨b, 0, none⟩), .float .f64 now, .float .f64 cost] w fun e w' => e = .returned (.int .i64 (refusedF bu now cost)) ∧ w = w' := by
  have h' : (refusedF bu now cost != 0) = true := by simpa using h
  clear h
  go_enter Try.func10, Try.ntmps10
  go_wp2_with (go_at_call 23; refine (refused_any _ _ _ _ _ _ _ _ hb).mono ?_; rintro e w' ⟨rfl, rfl⟩)
  go_ret
  exact ⟨rfl, rfl⟩

def takeAns (cost L : Nat) : Int := if isGt cost L = true then 19 else 0
def takeLev (cost L d : Nat) : Nat := if isGt cost L = true then L else d

set_option maxHeartbeats 4000000 in
theorem take_goes (b r bu lv la now cost L m d : Nat) (w : World) (hb : Bk w b 56 r bu lv la) (h : refusedF bu now cost = 0) (hL : GivesLevel b r bu lv la now L)
    (hm : ∀ w : World, (Builtin.max_ #[30, 30] 30 #[.float .f64 la, .float .f64 now]).run Try.prog w = .ok (.float .f64 m) w)
    (hd : isGt cost L = false → floatBits .sub .f64 L cost = some d) :
    Calls Try.prog 10 #[.pointer (some ⟨b, 0, none⟩), .float .f64 now, .float .f64 cost] w fun e w' => e = .returned (.int .i64 (takeAns cost L)) ∧ w.grownBy w' (some b) ∧ Bk w' b 56 r bu (takeLev cost L d) m := by
  have h' : (refusedF bu now cost != 0) = false := by simp [h]
  clear h
  obtain ⟨c0, c1, c2, c3, f2, f3⟩ := hb.cells
  go_enter Try.func10, Try.ntmps10
  go_upto_region 4 with (go_at_call 23; refine (refused_any _ _ _ _ _ _ _ _ hb).mono ?_; rintro e w' ⟨rfl, rfl⟩)
  go_cut [] (fun wx => w.grownBy wx (some b) ∧ Bk wx b 56 r bu L m)
  case first =>
    go_region_with (go_at_call 12; refine (hL _ (by first | exact hb | exact hb)).mono ?_; rintro e w' ⟨rfl, n, rfl⟩)
    all_goals (go_wp2_with fail; go_meet)
    all_goals first | (with_reducible exact take_rel hb _ _ _) | (with_reducible exact take_rel' hb _ _ _)
  case rest =>
    obtain ⟨hg, hb2⟩ := hcut
    obtain ⟨d0, d1, d2, d3, g2, g3⟩ := hb2.cells
    clear c0 c1 c2 c3 f2 f3 hm hL hb
    cases hc : isGt cost L
    · have hd2 := hd hc
      have k1 : ∀ w : World, (binOp .sub 30 (.float .f64 L) (.float .f64 cost)).run Try.prog w = .ok (.float .f64 d) w := fun w => run_float_arith w _ _ _ _ _ _ hd2
      clear hd2 hd
      have e1 : takeAns cost L = 0 := by simp [takeAns, hc]
      have e2 : takeLev cost L d = d := by simp [takeLev, hc]
      have E1 := Lib.hid e1; clear e1
      have E2 := Lib.hid e2; clear e2
      go_wp2
      go_ret
      rw [E1.out, E2.out]
      exact ⟨rfl, only_setCell (p := ⟨b, 2, none⟩) hg (.inl rfl) _, hb2.set2 d⟩
    · clear hd
      have e1 : takeAns cost L = 19 := by simp [takeAns, hc]
      have e2 : takeLev cost L d = L := by simp [takeLev, hc]
      have E1 := Lib.hid e1; clear e1
      have E2 := Lib.hid e2; clear e2
      go_wp2
      go_ret
      rw [E1.out, E2.out]
      exact ⟨rfl, hg, hb2⟩


/-- Wait, where it is refused. -/
theorem wait_refused (b r bu lv la now cost : Nat) (w : World) (hb : Bk w b 56 r bu lv la) (h : refusedF bu now cost ≠ 0) :
    Calls Try.prog 16 #[.pointer (some ⟨b, 0, none⟩), .float .f64 now, .float .f64 cost] w fun e w' => e = .returned (.float .f64 9221120237041090561) ∧ ∃ n, w.drewN n = w' := by
  have h' : (refusedF bu now cost != 0) = true := by simpa using h
  clear h
  go_enter Try.func16, Try.ntmps16
  go_wp2_with (first | (go_at_call 23; refine (refused_any _ _ _ _ _ _ _ _ hb).mono ?_; rintro e w' ⟨rfl, rfl⟩) | (go_at_call 25; refine (nan_any _).mono ?_; rintro e w' ⟨rfl, rfl⟩))
  go_ret
  exact ⟨rfl, 0, rfl⟩

theorem wait_none (b r bu lv la now cost L : Nat) (w : World) (hb : Bk w b 56 r bu lv la) (h : refusedF bu now cost = 0) (hL : GivesLevel b r bu lv la now L) (hc : isLe cost L = true) :
    Calls Try.prog 16 #[.pointer (some ⟨b, 0, none⟩), .float .f64 now, .float .f64 cost] w fun e w' => e = .returned (.float .f64 0) ∧ ∃ n, w.drewN n = w' := by
  have h' : (refusedF bu now cost != 0) = false := by simp [h]
  clear h
  go_enter Try.func16, Try.ntmps16
  go_wp2_with (first | (go_at_call 23; refine (refused_any _ _ _ _ _ _ _ _ hb).mono ?_; rintro e w' ⟨rfl, rfl⟩) | (go_at_call 12; refine (hL _ hb).mono ?_; rintro e w' ⟨rfl, n, rfl⟩))
  go_ret
  exact ⟨rfl, _, rfl⟩

theorem wait_never (b r bu lv la now cost L : Nat) (w : World) (hb : Bk w b 56 r bu lv la) (h : refusedF bu now cost = 0) (hL : GivesLevel b r bu lv la now L) (hc : isLe cost L = false) (hr : isEq r 0 = true) :
    Calls Try.prog 16 #[.pointer (some ⟨b, 0, none⟩), .float .f64 now, .float .f64 cost] w fun e w' => e = .returned (.float .f64 9218868437227405312) ∧ ∃ n, w.drewN n = w' := by
  have h' : (refusedF bu now cost != 0) = false := by simp [h]
  clear h
  obtain ⟨c0, c1, c2, c3, -, -⟩ := hb.cells
  go_enter Try.func16, Try.ntmps16
  go_wp2_with (first | (go_at_call 23; refine (refused_any _ _ _ _ _ _ _ _ hb).mono ?_; rintro e w' ⟨rfl, rfl⟩) | (go_at_call 12; refine (hL _ hb).mono ?_; rintro e w' ⟨rfl, n, rfl⟩) | (go_at_call 22; refine (inf_pos _).mono ?_; rintro e w' ⟨rfl, rfl⟩))
  go_ret
  exact ⟨rfl, _, rfl⟩

theorem wait_some (b r bu lv la now cost L d q : Nat) (w : World) (hb : Bk w b 56 r bu lv la) (h : refusedF bu now cost = 0) (hL : GivesLevel b r bu lv la now L) (hc : isLe cost L = false) (hr : isEq r 0 = false)
    (hd : floatBits .sub .f64 cost L = some d) (hq : floatBits .quo .f64 d r = some q) :
    Calls Try.prog 16 #[.pointer (some ⟨b, 0, none⟩), .float .f64 now, .float .f64 cost] w fun e w' => e = .returned (.float .f64 q) ∧ ∃ n, w.drewN n = w' := by
  have h' : (refusedF bu now cost != 0) = false := by simp [h]
  clear h
  obtain ⟨c0, c1, c2, c3, -, -⟩ := hb.cells
  have k1 : ∀ w : World, (binOp .sub 30 (.float .f64 cost) (.float .f64 L)).run Try.prog w = .ok (.float .f64 d) w := fun w => run_float_arith w _ _ _ _ _ _ hd
  have k2 : ∀ w : World, (binOp .quo 30 (.float .f64 d) (.float .f64 r)).run Try.prog w = .ok (.float .f64 q) w := fun w => run_float_arith w _ _ _ _ _ _ hq
  clear hd hq
  go_enter Try.func16, Try.ntmps16
  go_wp2_with (first | (go_at_call 23; refine (refused_any _ _ _ _ _ _ _ _ hb).mono ?_; rintro e w' ⟨rfl, rfl⟩) | (go_at_call 12; refine (hL _ hb).mono ?_; rintro e w' ⟨rfl, n, rfl⟩))
  go_ret
  exact ⟨rfl, _, rfl⟩

/-- New, where it refuses. -/
theorem new_refused (r s : Nat) (w : World) (h : isGe r 0 = false ∨ isGe s 0 = false ∨ isGt s 9218868437227405311 = true) :
    Calls Try.prog 8 #[.float .f64 r, .float .f64 s] w fun e w' => e = .returned (.tuple #[.pointer none, .int .i64 1]) ∧ w = w' := by
  cases h1 : isGe r 0
  · clear h
    go_enter Try.func8, Try.ntmps8
    go_wp2
    go_ret2
    exact ⟨rfl, rfl⟩
  · cases h2 : isGe s 0
    · clear h
      go_enter Try.func8, Try.ntmps8
      go_wp2
      go_ret2
      exact ⟨rfl, rfl⟩
    · rw [h1, h2] at h
      have h3 : isGt s 9218868437227405311 = true := by simpa using h
      clear h
      go_enter Try.func8, Try.ntmps8
      go_wp2_with (go_at_call 20; refine (isInf_pos _ _).mono ?_; rintro e w' ⟨rfl, rfl⟩)
      go_ret2
      exact ⟨rfl, rfl⟩

theorem new_made (r s r' s' : Nat) (w : World) (h1 : isGe r 0 = true) (h2 : isGe s 0 = true) (h3 : isGt s 9218868437227405311 = false)
    (er : (bits .andNot .u64 (r : Int) 9223372036854775808).toNat = r') (es : (bits .andNot .u64 (s : Int) 9223372036854775808).toNat = s') :
    Calls Try.prog 8 #[.float .f64 r, .float .f64 s] w fun e w' => e = .returned (.tuple #[.pointer (some ⟨w.heap.size, 0, none⟩), .int .i64 0]) ∧
      w.alloc (.cells #[.float .f64 r', .float .f64 s', .float .f64 s', .float .f64 18442240474082181120] 56) = w' := by
  have Er := Lib.hid er
  have Es := Lib.hid es
  clear er es
  go_enter Try.func8, Try.ntmps8
  go_wp2_with (first | (go_at_call 20; refine (isInf_pos _ _).mono ?_; rintro e w' ⟨rfl, rfl⟩) | (go_at_call 21; refine (abs_any _ _).mono ?_; rintro e w' ⟨rfl, rfl⟩) | (go_at_call 22; refine (inf_neg _).mono ?_; rintro e w' ⟨rfl, rfl⟩))
  go_ret2
  rw [Er.out, Es.out]
  exact ⟨rfl, rfl⟩

end Go.Proofs.Ytbodgbkblocphaa
