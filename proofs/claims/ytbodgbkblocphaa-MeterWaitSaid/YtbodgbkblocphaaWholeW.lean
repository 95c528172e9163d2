/- The walk of MeterWhole. -/
import Derived.Test.YtbodgbkblocphaaSmall
import Derived.Test.YtbodgbkblocphaaOpen
namespace Go.Proofs.Ytbodgbkblocphaa
open Go.RowKit Fl

/-- A slice of bytes that came in: the numbers of its elements. -/
def Row8 (w : World) (a : Option Addr) (len : Nat) (z : Nat → Nat) : Prop :=
  len ≤ 9223372036854775807 ∧ ∀ i, i < len → z i < 256 ∧ ∃ b off, a = some ⟨b, off, none⟩ ∧ b < w.heap.size ∧ w.cell? ⟨b, off + i, none⟩ = some (.int .u8 (z i))

/-- The level of whole numbers. -/
theorem Lev_FN {rt bu l t now : Nat} (hr : rt < 65536) (hb : bu < 65536) (hl : l ≤ bu) (ht : t ≤ now) (hn : now < 1000) :
    Lev (FN rt) (FN bu) (FN l) (FN t) (FN now) = FN (min bu (l + (now - t) * rt)) := by
  have hp : (now - t) * rt ≤ 1000 * 65536 := Nat.mul_le_mul (by omega) (by omega)
  have e1 := EV_FN (n := t) (by omega)
  have e2 := EV_FN (n := now) (by omega)
  have h1 := EV_FN_lt (a := t) (b := now) (by omega) (by omega)
  have hI : I = EV infR := rfl
  have hfin := EV_fin (x := FN now) (by rw [rung_pos (Nat.le_of_lt (V_FN (by omega)).2)]; exact (V_FN (by omega)).2)
  have hK := K_lt
  have hKp := K_pos
  have hr0 : FN rt = 0 ↔ rt = 0 := by
    have := FN_le (a := rt) (b := 0) (by omega) (by omega)
    rw [FN_0] at this
    omega
  unfold Lev
  by_cases c : EV (FN t) = -I ∨ ¬ (num (FN now) ∧ EV (FN t) < EV (FN now)) ∨ FN rt = 0
  · rw [if_pos c]
    have : (now - t) * rt = 0 := by
      rcases c with c | c | c
      · omega
      · have hnum := num_pos (Nat.le_of_lt (V_FN (n := now) (by omega)).2)
        have : ¬ t < now := fun e => c ⟨hnum, h1.2 e⟩
        have : now - t = 0 := by omega
        rw [this, Nat.zero_mul]
      · rw [hr0.1 c, Nat.mul_zero]
    rw [this, Nat.add_zero, Nat.min_eq_right hl]
  · rw [if_neg c]
    have hri : FN rt ≠ infR := by have := (V_FN (n := rt) (by omega)).2; omega
    rw [if_neg (by rintro (e | e); exact hri e; omega)]
    rw [less_FN (by omega) (by omega), times_FN (by omega) (by omega), plus_FN (by omega) (by omega), FN_min (by omega) (by omega)]

theorem Lev_ninf (r bu lv now : Nat) : Lev r bu lv 18442240474082181120 now = lv := by
  unfold Lev
  rw [if_pos (.inl EV_ninf)]

theorem Ref_FN {bu now c : Nat} (hb : bu < 65536) (hn : now < 1000) (hc : c < 256) : Ref (FN bu) (FN now) (FN c) = if bu < c then 3 else 0 := by
  have f1 := (V_FN (n := now) (by omega)).2
  have f2 := (V_FN (n := c) (by omega)).2
  have e2 := EV_FN (n := now) (by omega)
  have e3 := EV_FN (n := c) (by omega)
  have hKp := K_pos
  have hK := K_lt
  unfold Ref
  rw [if_neg]
  · simp only [EV_FN_lt (a := bu) (b := c) (by omega) (by omega)]
  · rintro (e | e | e)
    · exact e (num_pos (Nat.le_of_lt f1))
    · omega
    · exact e ⟨num_pos (Nat.le_of_lt f2), by omega⟩


/-- What is kept from round to round: no more was let through than may be, with what is left counted in. -/
def InvW (rt bu now sum lv la : Nat) : Prop :=
  ∃ l, lv = FN l ∧ l ≤ bu ∧ ((la = 18442240474082181120 ∧ l = bu ∧ sum = 0) ∨ ∃ t, la = FN t ∧ t ≤ now ∧ sum + l ≤ bu + t * rt)

theorem InvW.inv {rt bu now sum lv la : Nat} (h : InvW rt bu now sum lv la) (hr : rt < 65536) (hb : bu < 65536) (hn : now < 1000) : Inv (FN rt) (FN bu) lv la := by
  obtain ⟨l, rfl, hl, h⟩ := h
  refine ⟨Nat.le_of_lt (V_FN (by omega)).2, (V_FN (by omega)).2, (FN_le (by omega) (by omega)).2 hl, ?_⟩
  rcases h with ⟨rfl, _, _⟩ | ⟨t, rfl, ht, _⟩
  · exact num_ninf
  · exact num_pos (Nat.le_of_lt (V_FN (by omega)).2)

theorem InvW.step {rt bu now nw sum lv la c : Nat} (h : InvW rt bu now sum lv la) (hr : rt < 65536) (hb : bu < 65536) (hn : now ≤ nw) (hn2 : nw < 1000) (hc : c < 256) :
    (Ans (FN rt) (FN bu) lv la (FN nw) (FN c) = 0 ∧ InvW rt bu nw (sum + c) (LvA (FN rt) (FN bu) lv la (FN nw) (FN c)) (LaA (FN bu) la (FN nw) (FN c)) ∧ sum + c ≤ bu + nw * rt) ∨
    (Ans (FN rt) (FN bu) lv la (FN nw) (FN c) = 19 ∧ InvW rt bu nw sum (LvA (FN rt) (FN bu) lv la (FN nw) (FN c)) (LaA (FN bu) la (FN nw) (FN c)) ∧ sum ≤ bu + nw * rt) ∨
    (Ans (FN rt) (FN bu) lv la (FN nw) (FN c) = 3 ∧ bu < c ∧ InvW rt bu nw sum (LvA (FN rt) (FN bu) lv la (FN nw) (FN c)) (LaA (FN bu) la (FN nw) (FN c)) ∧ sum ≤ bu + nw * rt) := by
  obtain ⟨l, rfl, hl, h⟩ := h
  have hR := Ref_FN (bu := bu) (now := nw) (c := c) hb hn2 hc
  -- what is there, and that it does not pass what may be
  obtain ⟨L, hL, hLb, hsum⟩ : ∃ L, Lev (FN rt) (FN bu) (FN l) la (FN nw) = FN L ∧ L ≤ bu ∧ sum + L ≤ bu + nw * rt := by
    rcases h with ⟨rfl, rfl, rfl⟩ | ⟨t, rfl, ht, hs⟩
    · exact ⟨l, Lev_ninf _ _ _ _, Nat.le_refl _, by omega⟩
    · refine ⟨min bu (l + (nw - t) * rt), Lev_FN hr hb hl (by omega) hn2, Nat.min_le_left _ _, ?_⟩
      have e : t * rt + (nw - t) * rt = nw * rt := by rw [← Nat.add_mul]; congr 1; omega
      have := Nat.min_le_right bu (l + (nw - t) * rt)
      omega
  have hold : sum ≤ bu + nw * rt := by omega
  have hla : LaA (FN bu) la (FN nw) (FN c) = if bu < c then la else FN nw := by
    unfold LaA
    rw [hR]
    by_cases g : bu < c
    · rw [if_pos g, if_pos g, if_neg (by omega)]
    · rw [if_neg g, if_neg g, if_pos rfl]
      unfold Last
      rcases h with ⟨rfl, _, _⟩ | ⟨t, rfl, ht, _⟩
      · have e2 := EV_FN (n := nw) (by omega)
        have hKp := K_pos
        have hK := K_lt
        rw [if_pos (by rw [EV_ninf]; omega)]
      · have h1 := EV_FN_lt (a := t) (b := nw) (by omega) (by omega)
        by_cases g2 : t < nw
        · rw [if_pos (h1.2 g2)]
        · have : t = nw := by omega
          subst this
          rw [if_neg (by omega), if_neg (by omega)]
          split <;> rfl
  by_cases g : bu < c
  · refine .inr (.inr ⟨?_, g, ?_, hold⟩)
    · unfold Ans
      rw [hR, if_pos g, if_neg (by omega)]
    · rw [hla, if_pos g]
      have : LvA (FN rt) (FN bu) (FN l) la (FN nw) (FN c) = FN l := by
        unfold LvA
        rw [hR, if_pos g, if_neg (by omega)]
      rw [this]
      refine ⟨l, rfl, hl, ?_⟩
      rcases h with h | ⟨t, e, ht, hs⟩
      · exact .inl h
      · exact .inr ⟨t, e, by omega, hs⟩
  · rw [hla, if_neg g]
    have hcmp := EV_FN_lt (a := L) (b := c) (by omega) (by omega)
    by_cases g2 : L < c
    · refine .inr (.inl ⟨?_, ?_, hold⟩)
      · unfold Ans
        rw [hR, if_neg g, if_pos rfl, hL, if_pos (hcmp.2 g2)]
      · have : LvA (FN rt) (FN bu) (FN l) la (FN nw) (FN c) = FN L := by
          unfold LvA
          rw [hR, if_neg g, if_pos rfl, hL, if_pos (hcmp.2 g2)]
        rw [this]
        exact ⟨L, rfl, hLb, .inr ⟨nw, rfl, Nat.le_refl _, hsum⟩⟩
    · refine .inl ⟨?_, ?_, by omega⟩
      · unfold Ans
        rw [hR, if_neg g, if_pos rfl, hL, if_neg (fun e => g2 (hcmp.1 e))]
      · have : LvA (FN rt) (FN bu) (FN l) la (FN nw) (FN c) = FN (L - c) := by
          unfold LvA
          rw [hR, if_neg g, if_pos rfl, hL, if_neg (fun e => g2 (hcmp.1 e)), less_FN (by omega) (by omega)]
        rw [this]
        exact ⟨L - c, rfl, by omega, .inr ⟨nw, rfl, Nat.le_refl _, by omega⟩⟩

theorem FN_rung {n : Nat} (h : n < 9007199254740992) : rung (FN n) = FN n := rung_pos (Nat.le_of_lt (V_FN h).2)
theorem FN_good {a b : Nat} (ha : a < 9007199254740992) (hb : b < 9007199254740992) : ¬ Bad (FN a) (FN b) := by
  have f1 := (V_FN ha).2
  have f2 := (V_FN hb).2
  refine Classical.not_not.2 ⟨num_pos (Nat.le_of_lt f1), EV_nonneg (Nat.le_of_lt f1), num_pos (Nat.le_of_lt f2), EV_nonneg (Nat.le_of_lt f2), ?_⟩
  have := EV_fin (x := FN b) (by rw [rung_pos (Nat.le_of_lt f2)]; exact f2)
  have := K_lt
  omega

theorem new_FN {a b : Nat} (ha : a < 65536) (hb : b < 65536) (w : World) : Calls Try.prog 8 #[.float .f64 (FN a), .float .f64 (FN b)] w fun e w' => e = .returned (.tuple #[.pointer (some ⟨w.heap.size, 0, none⟩), .int .i64 0]) ∧
      Below w.heap.size w w' ∧ Bk w' w.heap.size 56 (FN a) (FN b) (FN b) 18442240474082181120 := by
  have i := infR_lt
  have f1 := (V_FN (n := a) (by omega)).2
  have f2 := (V_FN (n := b) (by omega)).2
  refine (new_good (by omega) (by omega) (FN_good (by omega) (by omega)) w).mono ?_
  rw [FN_rung (by omega), FN_rung (by omega)]
  rintro e w' ⟨he, rfl⟩
  exact ⟨he, (Below.refl _ _).alloc (Nat.le_refl _) _, Bk.new _ _ _ _ _ _⟩

set_option maxRecDepth 100000 in
set_option maxHeartbeats 2000000 in
theorem whole_walk (rt bu : Nat) (hr : rt < 65536) (hb : bu < 65536) (a1 a2 : Option Addr) (n1 n2 c1 c2 : Nat) (z1 z2 : Nat → Nat) (w : World) (h1 : Row8 w a1 n1 z1) (h2 : Row8 w a2 n2 z2) :
    Calls Try.prog 3 #[.agg #[.int .u16 rt, .int .u16 bu, .slice a1 n1 c1, .slice a2 n2 c2]] w fun e w' => e = .returned (.bool true) ∧ Below w.heap.size w w' := by
  obtain ⟨l1, h1⟩ := h1
  obtain ⟨l2, h2⟩ := h2
  have H1 := Lib.hid h1; clear h1
  have H2 := Lib.hid h2; clear h2
  go_enter Try.func3, Try.ntmps3
  go_wp2_with fail
  go_quiet (fail)
  go_wp2_with fail
  refine (new_FN hr hb _).mono ?_
  rintro e w1 ⟨rfl, hb1, hB1⟩
  have hB1 : Bk w1 (w.heap.size + 1) 56 (FN rt) (FN bu) (FN bu) 18442240474082181120 := by simpa using hB1
  have hb1 : Below w.heap.size w w1 := (below_drewN ((Below.refl w.heap.size w).alloc (Nat.le_refl _) (Obj.cells #[Value.int IntKind.u16 ↑rt, Value.int IntKind.u16 ↑bu, Value.slice a1 n1 c1, Value.slice a2 n2 c2] 25)) nq).trans (hb1.mono (by simp))
  go_wp2_with fail
  refine (wakes_any _).mono ?_
  rintro e w2 ⟨rfl, hb2⟩
  have hstart : ∃ lv la, Bk w2 (w.heap.size + 1) 56 (FN rt) (FN bu) lv la ∧ InvW rt bu 0 0 lv la ∧ Below w.heap.size w w2 :=
    ⟨_, _, (hb2.block _ (Array.getElem?_eq_some_iff.1 hB1).1).trans hB1, ⟨bu, rfl, Nat.le_refl _, .inl ⟨rfl, rfl, rfl⟩⟩, hb1.trans (hb2.mono hb1.size)⟩
  have hs2 : w.heap.size + 1 < w2.heap.size := Nat.lt_of_lt_of_le (Array.getElem?_eq_some_iff.1 hB1).1 hb2.size
  clear hb1 hb2 hB1
  go_wp2_with fail
  go_loopw [9, 10, 11] (fun n s i wr => ∃ k now sum : Nat, i = .int .i64 k ∧ n = .int .u64 now ∧ s = .int .u64 sum ∧ k ≤ 300 ∧ now ≤ 3 * k ∧ sum ≤ 255 * k ∧
      ∃ lv la, Bk wr (w.heap.size + 1) 56 (FN rt) (FN bu) lv la ∧ InvW rt bu now sum lv la ∧ Below w.heap.size w wr) (fun _ _ i _ => 300 - (intOf i).toNat)
  case atStart => exact ⟨0, 0, 0, rfl, rfl, rfl, by omega, by omega, by omega, hstart⟩
  case round =>
    clear hstart
    obtain ⟨k, now, sum, rfl, rfl, rfl, hk, hnow, hsum, lv, la, hB, hI, hbw⟩ := hrel
    by_cases d1 : k < n1
    · by_cases d2 : k < n2
      · by_cases d3 : k < 300
        · obtain ⟨hz1, b, off, rfl, hbb, g1⟩ := H1.out k d1
          obtain ⟨hz2, b', off', rfl, hbb', g2w⟩ := H2.out k d2
          have g1 := (hbw.cell (p := ⟨b, off + k, none⟩) hbb).trans g1
          have g2 := (hbw.cell (p := ⟨b', off' + k, none⟩) hbb').trans g2w
          clear H1 H2
          obtain ⟨y1, hy1⟩ : ∃ y, z1 k = y := ⟨_, rfl⟩
          obtain ⟨y2, hy2⟩ : ∃ y, z2 k = y := ⟨_, rfl⟩
          rw [hy1] at g1 hz1
          rw [hy2] at g2 g2w hz2
          clear hy1 hy2
          obtain ⟨nw, hnw⟩ : ∃ nw : Nat, nw = now + y1 % 4 := ⟨_, rfl⟩
          have hnw2 : ((now : Int) + (y1 : Int) % 4) = (nw : Int) := by omega
          have hnw3 : now ≤ nw := by omega
          have hnw4 : nw ≤ 3 * k + 3 := by omega
          clear hnw
          obtain ⟨pr, hpr⟩ : ∃ pr : Nat, pr = nw * rt := ⟨_, rfl⟩
          have hpr2 : (nw : Int) * (rt : Int) = (pr : Int) := by rw [hpr]; simp
          have hpr3 : pr ≤ 1000 * 65536 := by rw [hpr]; exact Nat.mul_le_mul (by omega) (by omega)
          have hj := hI.inv hr hb (by omega)
          have hst := hI.step (c := y2) hr hb hnw3 (by omega) hz2
          rw [← hpr] at hst
          clear hpr hb1 hB1 hI
          have HS := Lib.hid hst
          clear hst
          go_wp2_with fail
          refine (take_ok hj _ _ _ _ (by exact hB)).mono ?_
          rintro e w3 ⟨rfl, hg3, hC⟩
          have hb3 : Below w.heap.size w w3 := hbw.grown hg3 hbw.size (fun k e => by cases e; omega)
          have g3 := (hb3.cell (p := ⟨b', off' + k, none⟩) hbb').trans g2w
          clear hg3 hB hj g2
          rcases HS.out with ⟨t1, t2, t3⟩ | ⟨t1, t2, t3⟩ | ⟨t1, t4, t2, t3⟩
          · clear HS
            rw [t1]
            clear t1
            have t3' : ¬ ((bu : Int) + (pr : Int) < (sum : Int) + (y2 : Int)) := by omega
            go_wp2_with fail
            go_roundw
            case rel => exact ⟨k + 1, nw, sum + y2, by go_num, rfl, by go_num, by omega, by omega, by omega, _, _, hC, t2, hb3⟩
            case measure => simp [intOf]; omega
          · clear HS
            rw [t1]
            clear t1
            go_wp2_with fail
            go_roundw
            case rel => exact ⟨k + 1, nw, sum, by go_num, rfl, rfl, by omega, by omega, by omega, _, _, hC, t2, hb3⟩
            case measure => simp [intOf]; omega
          · clear HS
            rw [t1]
            clear t1
            go_wp2_with fail
            go_roundw
            case rel => exact ⟨k + 1, nw, sum, by go_num, rfl, rfl, by omega, by omega, by omega, _, _, hC, t2, hb3⟩
            case measure => simp [intOf]; omega
        · go_wp2
          go_ret
          exact ⟨rfl, hbw⟩
      · go_wp2
        go_ret
        exact ⟨rfl, hbw⟩
    · go_wp2
      go_ret
      exact ⟨rfl, hbw⟩

end Go.Proofs.Ytbodgbkblocphaa
