/- The walk of MeterBounds. -/
import Derived.Test.YtbodgbkblocphaaOpen
namespace Go.Proofs.Ytbodgbkblocphaa
open Go.RowKit Fl

theorem signbit_pos {x : Nat} (h : x ≤ infR) (w : World) : Calls Try.prog 19 #[.float .f64 x] w fun e w' => e = .returned (.bool false) ∧ w = w' := by
  have e : decide (wrap64 (x : Int) < 0) = false := by
    have := infR_lt
    unfold wrap64
    simp
    omega
  have k := signbit_any x w
  rw [e] at k
  exact k

/-- What the asks of one round come to. -/
theorem round_facts {r bu lv la now cost : Nat} (h : Inv r bu lv la) :
    isGe (Lev r bu lv la now) 0 = true ∧ isNe (Lev r bu lv la now) (Lev r bu lv la now) = false ∧ isLt (Wai r bu lv la now cost) 0 = false ∧
    ((Ans r bu lv la now cost = 1 ∧ isNe (Wai r bu lv la now cost) (Wai r bu lv la now cost) = true) ∨ (Ans r bu lv la now cost = 3 ∧ isNe (Wai r bu lv la now cost) (Wai r bu lv la now cost) = true) ∨
     (Ans r bu lv la now cost = 19 ∧ isNe (Wai r bu lv la now cost) (Wai r bu lv la now cost) = false) ∨
     (Ans r bu lv la now cost = 0 ∧ isNe (Wai r bu lv la now cost) (Wai r bu lv la now cost) = false ∧ isNe (Wai r bu lv la now cost) 0 = false)) := by
  have hL : Lev r bu lv la now ≤ infR := Nat.le_trans (Lev_le h now) (Nat.le_of_lt h.hbu)
  have self : ∀ x, x ≤ infR → isNe x x = false := fun x hx => off ne_iff fun e => e ⟨num_pos hx, num_pos hx, rfl⟩
  have nn : ¬ num 9221120237041090561 := by unfold num; rw [infR_val]; decide
  have i_le : (9218868437227405312 : Nat) ≤ infR := by rw [infR_val]; decide
  have pos : ∀ x, x ≤ infR → isLt x 0 = false := fun x hx => off lt_iff fun ⟨_, _, e⟩ => by rw [EV_0] at e; have := EV_nonneg hx; omega
  refine ⟨ge_iff.2 ⟨num_pos hL, num_0, by rw [EV_0]; exact EV_nonneg hL⟩, self _ hL, ?_⟩
  by_cases e : Ref bu now cost = 0
  · obtain ⟨hn, hc, h0, hcn, hL'⟩ := goes h e
    have hW : Wai r bu lv la now cost ≤ infR := by
      unfold Wai
      rw [if_pos e]
      split
      · exact Nat.zero_le _
      · split
        · exact i_le
        · rename_i z
          exact (over_eq (less_below_fin hcn h0 (by have := EV_fin hc; have := K_lt; omega) (EV_nonneg hL)) h.hr z).2
    refine ⟨pos _ hW, ?_⟩
    by_cases c : EV (Lev r bu lv la now) < EV cost
    · refine .inr (.inr (.inl ⟨?_, self _ hW⟩))
      unfold Ans
      rw [if_pos e, if_pos c]
    · refine .inr (.inr (.inr ⟨?_, self _ hW, ?_⟩))
      · unfold Ans
        rw [if_pos e, if_neg c]
      · have : Wai r bu lv la now cost = 0 := by
          unfold Wai
          rw [if_pos e, if_pos (by omega)]
        rw [this]
        exact self 0 (Nat.zero_le _)
  · have hW : Wai r bu lv la now cost = 9221120237041090561 := by unfold Wai; rw [if_neg e]
    have hA : Ans r bu lv la now cost = Ref bu now cost := by unfold Ans; rw [if_neg e]
    rw [hW, hA]
    have hne : isNe 9221120237041090561 9221120237041090561 = true := ne_iff.2 fun e => nn e.1
    refine ⟨off lt_iff fun e => nn e.1, ?_⟩
    unfold Ref at e ⊢
    split
    · exact .inl ⟨rfl, hne⟩
    · split
      · exact .inr (.inl ⟨rfl, hne⟩)
      · rename_i h1 h2
        rw [if_neg h1, if_neg h2] at e
        exact absurd rfl e

theorem bounds_bad (x y : Nat) (a : Option Addr) (len cap : Nat) (w : World) (h : Bad x y) :
    Calls Try.prog 7 #[.int .u64 x, .int .u64 y, .slice a len cap] w fun e w' => e = .returned (.bool true) ∧ Below w.heap.size w w' := by
  go_enter Try.func7, Try.ntmps7
  go_wp2_with fail
  refine (new_bad h _).mono ?_
  rintro e w1 ⟨rfl, rfl⟩
  go_wp2_with fail
  refine (wakes_any _).mono ?_
  rintro e w1 ⟨rfl, hb⟩
  go_wp2_with fail
  go_ret
  exact ⟨rfl, hb⟩

def RelB (w : World) (B r bu k : Nat) (wr : World) : Prop :=
  ∃ lv la, Bk wr B 56 r bu lv la ∧ Inv r bu lv la ∧ Below B w wr ∧ k ≤ 9223372036854775807

set_option maxRecDepth 100000 in
set_option maxHeartbeats 2000000 in
theorem bounds_good (x y : Nat) (hx : x < 18446744073709551616) (hy : y < 18446744073709551616) (a : Option Addr) (len cap : Nat) (d : Nat → Int) (p q : Nat → Nat) (w : World) (h : ¬ Bad x y) (ha : Asks w a len d p q) :
    Calls Try.prog 7 #[.int .u64 x, .int .u64 y, .slice a len cap] w fun e w' => e = .returned (.bool true) ∧ Below w.heap.size w w' := by
  obtain ⟨hlen, ha⟩ := ha
  have HA := Lib.hid ha
  clear ha
  have hstart : RelB w w.heap.size (rung x) (rung y) 0 (w.alloc (.cells #[.float .f64 (rung x), .float .f64 (rung y), .float .f64 (rung y), .float .f64 18442240474082181120] 56)) :=
    ⟨_, _, Bk.new _ _ _ _ _ _, inv_new h, (Below.refl _ _).alloc (Nat.le_refl _) _, by omega⟩
  have hys : ∀ L, L ≤ rung y → isGt L y = false := by
    obtain ⟨n1, c1, n2, c2, c3⟩ := Classical.not_not.1 h
    intro L hL
    refine off gt_iff fun ⟨_, _, e⟩ => ?_
    have hf : rung y < infR := fin_of n2 c3 (by have := K_lt; have := K_pos; omega)
    have h1 := (EV_le_iff (Nat.lt_of_le_of_lt hL hf) hf).2 hL
    have h2 : EV (rung y) = EV y := by
      rw [EV_pos (Nat.le_of_lt hf)]
      unfold EV at c2 ⊢
      cases hs : sg y
      · simp
      · rw [hs] at c2
        simp at c2 ⊢
        omega
    omega
  have HY := Lib.hid hys
  clear hys
  go_enter Try.func7, Try.ntmps7
  go_wp2_with fail
  refine (new_good hx hy h _).mono ?_
  rintro e w1 ⟨rfl, rfl⟩
  go_wp2_with fail
  go_loopw [11] (fun i wr => ∃ k : Nat, i = .int .i64 k ∧ RelB w w.heap.size (rung x) (rung y) k wr) (fun i _ => 200 - (intOf i).toNat)
  case atStart => exact ⟨0, rfl, hstart⟩
  case round =>
    clear hstart
    obtain ⟨k, rfl, lv, la, hB1, hi, hbw, hk⟩ := hrel
    by_cases c1 : k < len
    · by_cases c2 : k < 200
      · obtain ⟨b, off, rfl, hbb, g0, g1, g2⟩ := HA.out k c1
        have g1 := (hbw.cell (p := ⟨b, off + k * 3 + 1, none⟩) hbb).trans g1
        have g2 := (hbw.cell (p := ⟨b, off + k * 3 + 2, none⟩) hbb).trans g2
        have hs : w.heap.size < wr.heap.size := (Array.getElem?_eq_some_iff.1 hB1).1
        obtain ⟨f1, f2, f3, f4⟩ := round_facts (now := p k) (cost := q k) hi
        have f5 := HY.out _ (Lev_le hi (p k))
        clear HA g0 HY
        have F4 := Lib.hid f4
        clear f4
        go_wp2_with fail
        go_quiet (fail)
        go_wp2_with fail
        refine (gives_level hi _ _ _ (by exact hB1)).mono ?_
        rintro e w2 ⟨rfl, n2, rfl⟩
        go_wp2_with fail
        refine (wait_ok hi _ _ _ _ (by exact hB1)).mono ?_
        rintro e w2 ⟨rfl, n3, rfl⟩
        go_wp2_with fail
        refine (signbit_pos (Nat.le_trans (Lev_le hi _) (Nat.le_of_lt hi.hbu)) _).mono ?_
        rintro e w2 ⟨rfl, rfl⟩
        go_wp2_with fail
        refine (gives_level hi _ _ _ (by exact hB1)).mono ?_
        rintro e w2 ⟨rfl, n4, rfl⟩
        go_wp2_with fail
        refine (take_ok hi _ _ _ _ (by exact hB1)).mono ?_
        rintro e w2 ⟨rfl, hg2, hC1⟩
        obtain ⟨n, hn⟩ : ∃ n, w2 = w2 ∧ Below w.heap.size w (wr.drewN n) := ⟨0, rfl, below_drewN hbw _⟩
        have hb2 : Below w.heap.size w w2 := Below.grown (w := wr.drewN (nq + n2 + n3 + n4)) (below_drewN hbw _) hg2 hbw.size (fun k e => by cases e; exact Nat.le_refl _)
        clear hg2 hn n hB1
        have hj := inv_take hi (p k) (q k)
        have hfin : ∃ lv la, Bk w2 w.heap.size 56 (rung x) (rung y) lv la ∧ Inv (rung x) (rung y) lv la := ⟨_, _, hC1, hj⟩
        clear hj hC1 hi
        rcases F4.out with ⟨t1, t2⟩ | ⟨t1, t2⟩ | ⟨t1, t2⟩ | ⟨t1, t2, t3⟩
        all_goals
          clear F4
          rw [t1]
          clear t1
          go_wp2_with fail
          go_roundw
          case rel =>
            obtain ⟨lv', la', hB', hi'⟩ := hfin
            exact ⟨k + 1, by go_num, lv', la', hB', hi', hb2, by omega⟩
          case measure => simp [intOf]; omega
      · go_wp2_with fail
        refine (wakes_any _).mono ?_
        rintro e w2 ⟨rfl, hb⟩
        go_wp2_with fail
        go_ret
        exact ⟨rfl, hbw.trans (hb.mono hbw.size)⟩
    · go_wp2_with fail
      refine (wakes_any _).mono ?_
      rintro e w2 ⟨rfl, hb⟩
      go_wp2_with fail
      go_ret
      exact ⟨rfl, hbw.trans (hb.mono hbw.size)⟩

end Go.Proofs.Ytbodgbkblocphaa
