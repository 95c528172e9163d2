/- MeterMore: what an emptied bucket has rises with the rate and with the time; the walk. -/
import Derived.Test.YtbodgbkblocphaaWaitP
import Derived.Test.YtbodgbkblocphaaOpen
namespace Go.Proofs.Ytbodgbkblocphaa
open Go.RowKit Fl

theorem plus_zero' {x : Nat} (h : x ≤ infR) : plus 0 x = x := by
  rcases Nat.lt_or_ge x infR with h1 | h1
  · exact plus_zero h1
  · have : x = infR := Nat.le_antisymm h h1
    subst this
    unfold plus
    rw [add_inf_right (Nat.zero_le _)]
    rfl

/-- A word of a number above 0 is its rung. -/
theorem EV_sg {t : Nat} (h : 0 ≤ EV t) : EV t = V (rung t) := by
  unfold EV at h ⊢
  cases hs : sg t
  · simp
  · rw [hs] at h
    simp at h ⊢
    omega

/-- What a bucket that was emptied at the time 0 has. -/
def Emp (r bu t : Nat) : Nat := if EV t ≤ 0 ∨ r = 0 then 0 else if r = infR ∨ EV t = I then bu else min bu (N (V (rung t) * V r) (-2148))

theorem Emp_eq {r bu t : Nat} (hr : r ≤ infR) (ht : num t) (h0 : 0 ≤ EV t) : Lev r bu 0 0 t = Emp r bu t := by
  have hK := K_lt
  have hKp := K_pos
  unfold Lev Emp
  by_cases c1 : EV t ≤ 0 ∨ r = 0
  · rw [if_pos c1, if_pos]
    rcases c1 with c | c
    · exact .inr (.inl fun e => by have := e.2; rw [EV_0] at this; omega)
    · exact .inr (.inr c)
  · have l1 : ¬ EV t ≤ 0 := fun e => c1 (.inl e)
    have l2 : r ≠ 0 := fun e => c1 (.inr e)
    rw [if_neg c1, if_neg]
    · by_cases c2 : r = infR ∨ EV t = I
      · rw [if_pos c2, if_pos c2]
      · rw [if_neg c2, if_neg c2]
        have fr : r < infR := Nat.lt_of_le_of_ne hr fun e => c2 (.inl e)
        have ft : rung t < infR := fin_of ht (fun e => c2 (.inr e)) (by omega)
        have e1 : less t 0 = rung t := by
          unfold less
          rw [EV_0, EV_sg h0]
          simp only [Int.sub_zero, Int.toNat_natCast]
          exact N_V ft
        have e2 : times (rung t) r = N (V (rung t) * V r) (-2148) := by
          unfold times
          rw [mul_fin ft fr]
          rfl
        rw [e1, e2, plus_zero' (N_le _ _)]
    · rw [EV_0]
      rintro (e | e | e)
      · omega
      · exact e ⟨ht, by omega⟩
      · exact l2 e

theorem V_mono' {x y : Nat} (hx : x ≤ infR) (h : V x ≤ V y) : x ≤ y := by
  rcases Nat.lt_or_ge y infR with h1 | h1
  · rcases Nat.lt_or_ge x infR with h2 | h2
    · exact (V_le h2 h1).1 h
    · have : x = infR := Nat.le_antisymm hx h2
      subst this
      have := V_inf h1
      omega
  · exact Nat.le_trans hx h1

theorem V_mono {x y : Nat} (hy : y ≤ infR) (h : x ≤ y) : V x ≤ V y := by
  rcases Nat.lt_or_ge y infR with h1 | h1
  · exact (V_le (Nat.lt_of_le_of_lt h h1) h1).2 h
  · have : y = infR := Nat.le_antisymm hy h1
    subst this
    rcases Nat.lt_or_ge x infR with h2 | h2
    · exact Nat.le_of_lt (V_inf h2)
    · have : x = infR := Nat.le_antisymm h h2
      subst this
      exact Nat.le_refl _

theorem Emp_le (r bu t : Nat) : Emp r bu t ≤ bu := by
  unfold Emp
  split
  · exact Nat.zero_le _
  · split
    · exact Nat.le_refl _
    · exact Nat.min_le_left _ _

theorem Emp_rate {r q bu t : Nat} (h : r ≤ q) (hq : q ≤ infR) : Emp r bu t ≤ Emp q bu t := by
  by_cases c1 : EV t ≤ 0 ∨ r = 0
  · have : Emp r bu t = 0 := by unfold Emp; rw [if_pos c1]
    omega
  · have l1 : ¬ EV t ≤ 0 := fun e => c1 (.inl e)
    have l2 : r ≠ 0 := fun e => c1 (.inr e)
    by_cases c2 : q = infR ∨ EV t = I
    · have : Emp q bu t = bu := by unfold Emp; rw [if_neg (by rintro (e | e); exact l1 e; omega), if_pos c2]
      rw [this]
      exact Emp_le r bu t
    · have : Emp q bu t = min bu (N (V (rung t) * V q) (-2148)) := by unfold Emp; rw [if_neg (by rintro (e | e); exact l1 e; omega), if_neg c2]
      rw [this]
      have c3 : ¬ (r = infR ∨ EV t = I) := by
        rintro (e | e)
        · exact c2 (.inl (by omega))
        · exact c2 (.inr e)
      have : Emp r bu t = min bu (N (V (rung t) * V r) (-2148)) := by unfold Emp; rw [if_neg c1, if_neg c3]
      rw [this]
      have hm := N_mono (-2148) (Nat.mul_le_mul_left (V (rung t)) (V_mono hq h))
      omega

theorem Emp_time {r bu t u : Nat} (hu : num u) (h0 : 0 ≤ EV t) (h : EV t ≤ EV u) : Emp r bu t ≤ Emp r bu u := by
  by_cases c1 : EV t ≤ 0 ∨ r = 0
  · have : Emp r bu t = 0 := by unfold Emp; rw [if_pos c1]
    omega
  · have l1 : ¬ EV t ≤ 0 := fun e => c1 (.inl e)
    have l2 : r ≠ 0 := fun e => c1 (.inr e)
    have c1' : ¬ (EV u ≤ 0 ∨ r = 0) := by rintro (e | e); omega; exact l2 e
    by_cases c2 : r = infR ∨ EV u = I
    · have : Emp r bu u = bu := by unfold Emp; rw [if_neg c1', if_pos c2]
      rw [this]
      exact Emp_le r bu t
    · have : Emp r bu u = min bu (N (V (rung u) * V r) (-2148)) := by unfold Emp; rw [if_neg c1', if_neg c2]
      rw [this]
      have hK := K_lt
      have hKp := K_pos
      have c3 : ¬ (r = infR ∨ EV t = I) := by
        rintro (e | e)
        · exact c2 (.inl e)
        · have := EV_range hu
          have h2 : EV u ≠ I := fun e => c2 (.inr e)
          omega
      have : Emp r bu t = min bu (N (V (rung t) * V r) (-2148)) := by unfold Emp; rw [if_neg c1, if_neg c3]
      rw [this]
      have hv : V (rung t) ≤ V (rung u) := by
        have e1 := EV_sg h0
        have e2 := EV_sg (t := u) (by omega)
        omega
      have hm := N_mono (-2148) (Nat.mul_le_mul_right (V r) hv)
      omega

theorem Emp_start (r bu : Nat) : Emp r bu 0 = 0 := by unfold Emp; rw [if_pos (.inl (by rw [EV_0]; omega))]

/-- A slice of uint64 that came in. -/
def Row64 (w : World) (a : Option Addr) (len : Nat) (z : Nat → Nat) : Prop :=
  len ≤ 9223372036854775807 ∧ ∀ i, i < len → ∃ b off, a = some ⟨b, off, none⟩ ∧ b < w.heap.size ∧ w.cell? ⟨b, off + i, none⟩ = some (.int .u64 (z i))

theorem good_order {lo hi s : Nat} (h1 : ¬ Bad lo s) (h2 : ¬ Bad hi s) (h : isGt lo hi = false) : EV lo ≤ EV hi := by
  obtain ⟨n1, _, _, _, _⟩ := Classical.not_not.1 h1
  obtain ⟨n2, _, _, _, _⟩ := Classical.not_not.1 h2
  have : ¬ EV hi < EV lo := fun e => by rw [gt_iff.2 ⟨n1, n2, e⟩] at h; cases h
  omega

set_option maxRecDepth 100000 in
set_option maxHeartbeats 4000000 in
theorem more_walk (x y s : Nat) (hx : x < 18446744073709551616) (hy : y < 18446744073709551616) (hs : s < 18446744073709551616) (a : Option Addr) (len cap : Nat) (z : Nat → Nat) (w : World) (ha : Row64 w a len z) :
    Calls Try.prog 4 #[.agg #[.int .u64 x, .int .u64 y, .int .u64 s, .slice a len cap]] w fun e w' => e = .returned (.bool true) ∧ Below w.heap.size w w' := by
  obtain ⟨hlen, ha⟩ := ha
  have HA := Lib.hid ha
  clear ha
  go_enter Try.func4, Try.ntmps4
  go_wp2_with fail
  go_quiet (fail)
  go_upto_if 29 with fail
  obtain ⟨W, hW⟩ : ∃ W, (w.alloc (Obj.cells #[Value.int IntKind.u64 ↑x, Value.int IntKind.u64 ↑y, Value.int IntKind.u64 ↑s, Value.slice a len cap] 37)).drewN nq = W := ⟨_, rfl⟩
  have hbW : Below w.heap.size w W := by rw [← hW]; exact below_drewN ((Below.refl w.heap.size w).alloc (Nat.le_refl _) _) nq
  rw [hW]
  clear hW
  go_cut [4, 5] (fun v4 v5 wx => ∃ lo hi : Nat, v4 = .float .f64 lo ∧ v5 = .float .f64 hi ∧ lo < 18446744073709551616 ∧ hi < 18446744073709551616 ∧ isGt lo hi = false ∧ wx = W)
  case first =>
    cases hc : isGt x y
    · go_wp2
      go_meet
      exact ⟨x, y, rfl, rfl, hx, hy, hc, rfl⟩
    · go_wp2
      go_meet
      refine ⟨y, x, rfl, rfl, hy, hx, off gt_iff fun ⟨_, _, e⟩ => ?_, rfl⟩
      have := (gt_iff.1 hc).2.2
      omega
  case rest =>
    obtain ⟨lo, hi, rfl, rfl, hlo, hhi, hord, rfl⟩ := hcut
    by_cases b1 : Bad lo s
    · by_cases b2 : Bad hi s
      · go_wp2_with fail
        refine (new_bad b1 _).mono ?_
        rintro e w1 ⟨rfl, rfl⟩
        go_wp2_with fail
        refine (new_bad b2 _).mono ?_
        rintro e w1 ⟨rfl, rfl⟩
        go_wp2_with fail
        refine (wakes_any _).mono ?_
        rintro e w1 ⟨rfl, hb1⟩
        go_wp2_with fail
        go_ret
        exact ⟨rfl, hbW.trans (hb1.mono hbW.size)⟩
      · go_wp2_with fail
        refine (new_bad b1 _).mono ?_
        rintro e w1 ⟨rfl, rfl⟩
        go_wp2_with fail
        refine (new_good hhi hs b2 _).mono ?_
        rintro e w1 ⟨rfl, rfl⟩
        go_wp2_with fail
        refine (wakes_any _).mono ?_
        rintro e w1 ⟨rfl, hb1⟩
        go_wp2_with fail
        go_ret
        exact ⟨rfl, (hbW.alloc hbW.size _).trans (hb1.mono (by have := hbW.size; simp; omega))⟩
    · by_cases b2 : Bad hi s
      · go_wp2_with fail
        refine (new_good hlo hs b1 _).mono ?_
        rintro e w1 ⟨rfl, rfl⟩
        go_wp2_with fail
        refine (new_bad b2 _).mono ?_
        rintro e w1 ⟨rfl, rfl⟩
        go_wp2_with fail
        refine (wakes_any _).mono ?_
        rintro e w1 ⟨rfl, hb1⟩
        go_wp2_with fail
        go_ret
        exact ⟨rfl, (hbW.alloc hbW.size _).trans (hb1.mono (by have := hbW.size; simp; omega))⟩
      · have hord2 := good_order b1 b2 hord
        obtain ⟨n1, p1, n3, p3, q3⟩ := Classical.not_not.1 b1
        obtain ⟨n2, p2, _, _, _⟩ := Classical.not_not.1 b2
        have hfs : rung s < infR := fin_of n3 q3 (by have := K_lt; have := K_pos; omega)
        have hes : EV s = EV (rung s) := by rw [EV_sg p3, EV_pos (Nat.le_of_lt hfs)]
        have hrr : rung lo ≤ rung hi := V_mono' n1 (by have := EV_sg p1; have := EV_sg p2; omega)
        have T : ∀ r, r ≤ infR → ∀ b w, Bk w b 56 r (rung s) (rung s) 18442240474082181120 → Calls Try.prog 10 #[.pointer (some ⟨b, 0, none⟩), .float .f64 0, .float .f64 s] w fun e w' =>
            e = .returned (.int .i64 0) ∧ w.grownBy w' (some b) ∧ Bk w' b 56 r (rung s) 0 0 := fun r hr b w hb => by
          have := take_ok ⟨hr, hfs, Nat.le_refl _, num_ninf⟩ b 0 s w hb
          obtain ⟨q1, q2, q3⟩ := empties (r := r) hfs n3 hes
          rw [q1, q2, q3] at this
          exact this
        have L : ∀ r, r ≤ infR → ∀ b w t, num t → 0 ≤ EV t → Bk w b 56 r (rung s) 0 0 → Calls Try.prog 12 #[.pointer (some ⟨b, 0, none⟩), .float .f64 t] w fun e w' => e = .returned (.float .f64 (Emp r (rung s) t)) ∧ ∃ n, w.drewN n = w' := fun r hr b w t ht h0 hb => by
          have := gives_level ⟨hr, hfs, Nat.zero_le _, num_0⟩ b t w hb
          rw [Emp_eq hr ht h0] at this
          exact this
        have HT := Lib.hid T
        have HL := Lib.hid L
        clear T L hord hord2 hes p1 p2 p3 q3 n3
        go_wp2_with fail
        refine (new_good hlo hs b1 _).mono ?_
        rintro e w1 ⟨rfl, rfl⟩
        go_wp2_with fail
        refine (new_good hhi hs b2 _).mono ?_
        rintro e w1 ⟨rfl, rfl⟩
        obtain ⟨B, hB⟩ : ∃ B, wc.heap.size = B := ⟨_, rfl⟩
        have hBw : w.heap.size ≤ B := by rw [← hB]; exact hbW.size
        obtain ⟨W2, hW2⟩ : ∃ W2, (wc.alloc (Obj.cells #[Value.float FloatKind.f64 (rung lo), Value.float FloatKind.f64 (rung s), Value.float FloatKind.f64 (rung s), Value.float FloatKind.f64 18442240474082181120] 56)).alloc
          (Obj.cells #[Value.float FloatKind.f64 (rung hi), Value.float FloatKind.f64 (rung s), Value.float FloatKind.f64 (rung s), Value.float FloatKind.f64 18442240474082181120] 56) = W2 := ⟨_, rfl⟩
        have hA1 : Bk W2 B 56 (rung lo) (rung s) (rung s) 18442240474082181120 := by
          rw [← hW2, ← hB]
          exact (Below.heap_alloc _ _ _ (by simp)).trans (Bk.new _ _ _ _ _ _)
        have hA2 : Bk W2 (B + 1) 56 (rung hi) (rung s) (rung s) 18442240474082181120 := by
          have e := Bk.new (wc.alloc (.cells #[.float .f64 (rung lo), .float .f64 (rung s), .float .f64 (rung s), .float .f64 18442240474082181120] 56)) 56 (rung hi) (rung s) (rung s) 18442240474082181120
          simp only [World.size_alloc] at e
          rw [← hW2, ← hB]
          exact e
        have hA3 : Below w.heap.size w W2 := by
          rw [← hW2]
          exact (hbW.alloc hbW.size _).alloc (by have := hbW.size; simp; omega) _
        have hB' := Lib.hid hB
        clear hB
        go_wp2_with fail
        rw [hB'.out] at *
        clear hW2 hB' hbW
        refine (HT.out _ n1 _ _ hA1).mono ?_
        rintro e w3 ⟨rfl, hg3, hC1⟩
        have hC2 := Bk.only hA2 hg3 (by omega)
        have hb3 := hA3.grown hg3 hA3.size (fun k e => by cases e; exact hBw)
        clear hg3 hA1 hA2 hA3
        go_wp2_with fail
        refine (HT.out _ n2 _ _ hC2).mono ?_
        rintro e w4 ⟨rfl, hg4, hD2⟩
        have hD1 := Bk.only hC1 hg4 (by omega)
        have hb4 := hb3.grown hg4 hb3.size (fun k e => by cases e; omega)
        clear hg4 hC1 hC2 hb3
        go_wp2_with fail
        refine (wakes_any _).mono ?_
        rintro e w5 ⟨rfl, hb5⟩
        have hstart : Bk w5 B 56 (rung lo) (rung s) 0 0 ∧ Bk w5 (B + 1) 56 (rung hi) (rung s) 0 0 ∧ Below w.heap.size w w5 :=
          ⟨(hb5.block _ (Array.getElem?_eq_some_iff.1 hD1).1).trans hD1, (hb5.block _ (Array.getElem?_eq_some_iff.1 hD2).1).trans hD2, hb4.trans (hb5.mono hb4.size)⟩
        clear hb4 hb5 hD1 hD2
        go_wp2_with fail
        go_loopw [11, 12, 13] (fun last was i wr => ∃ k tl : Nat, i = .int .i64 k ∧ last = .float .f64 tl ∧ was = .float .f64 (Emp (rung lo) (rung s) tl) ∧ k ≤ 60 ∧ num tl ∧ 0 ≤ EV tl ∧
            Bk wr B 56 (rung lo) (rung s) 0 0 ∧ Bk wr (B + 1) 56 (rung hi) (rung s) 0 0 ∧ Below w.heap.size w wr) (fun _ _ i _ => 60 - (intOf i).toNat)
        case atStart => exact ⟨0, 0, rfl, rfl, by rw [Emp_start], by omega, num_0, by rw [EV_0]; omega, hstart⟩
        case round =>
          clear hstart
          obtain ⟨k, tl, rfl, rfl, rfl, hk, htn, ht0, hB1, hB2, hbw⟩ := hrel
          by_cases d1 : k < len
          · by_cases d2 : k < 60
            · obtain ⟨b, off, rfl, hbb, g1⟩ := HA.out k d1
              have g1 := (hbw.cell (p := ⟨b, off + k, none⟩) hbb).trans g1
              obtain ⟨t, ht⟩ : ∃ t, z k = t := ⟨_, rfl⟩
              rw [ht] at g1
              clear ht HA HT
              cases hge : isGe t tl
              · go_wp2_with fail
                go_roundw
                case rel => exact ⟨k + 1, tl, by go_num, rfl, rfl, by omega, htn, ht0, hB1, hB2, hbw⟩
                case measure => simp [intOf]; omega
              · obtain ⟨hn, _, hle⟩ := ge_iff.1 hge
                have h0 : 0 ≤ EV t := by omega
                have f1 : isGt (Emp (rung lo) (rung s) t) (Emp (rung hi) (rung s) t) = false := by
                  have := Emp_rate (bu := rung s) (t := t) hrr n2
                  have h1 := Emp_le (rung lo) (rung s) t
                  have h2 := Emp_le (rung hi) (rung s) t
                  exact Go.Proofs.Ytbodgbkblocphaa.off (gt_pos (by omega) (by omega)) (by omega)
                have f2 : isLt (Emp (rung lo) (rung s) t) (Emp (rung lo) (rung s) tl) = false := by
                  have := Emp_time (r := rung lo) (bu := rung s) hn ht0 hle
                  have h1 := Emp_le (rung lo) (rung s) t
                  have h2 := Emp_le (rung lo) (rung s) tl
                  refine Go.Proofs.Ytbodgbkblocphaa.off lt_iff fun ⟨_, _, e⟩ => ?_
                  have := (EV_le_iff (x := Emp (rung lo) (rung s) tl) (y := Emp (rung lo) (rung s) t) (by omega) (by omega)).2 this
                  omega
                clear hle hrr
                go_wp2_with fail
                refine (HL.out _ n1 _ _ _ hn h0 hB1).mono ?_
                rintro e w6 ⟨rfl, m, rfl⟩
                go_wp2_with fail
                refine (HL.out _ n2 _ _ _ hn h0 (by exact hB2)).mono ?_
                rintro e w6 ⟨rfl, m', rfl⟩
                go_wp2_with fail
                go_roundw
                case rel => exact ⟨k + 1, t, by go_num, rfl, rfl, by omega, hn, h0, hB1, hB2, below_drewN hbw _⟩
                case measure => simp [intOf]; omega
            · go_wp2
              go_ret
              exact ⟨rfl, hbw⟩
          · go_wp2
            go_ret
            exact ⟨rfl, hbw⟩

end Go.Proofs.Ytbodgbkblocphaa
