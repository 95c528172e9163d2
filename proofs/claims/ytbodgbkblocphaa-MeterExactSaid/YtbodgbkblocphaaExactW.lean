/- The walk of MeterExact. -/
import Derived.Test.YtbodgbkblocphaaOpen
namespace Go.Proofs.Ytbodgbkblocphaa
open Go.RowKit Fl

theorem exact_bad (x y : Nat) (a : Option Addr) (len cap : Nat) (w : World) (h : Bad x y) :
    Calls Try.prog 5 #[.int .u64 x, .int .u64 y, .slice a len cap] w fun e w' => e = .returned (.bool true) ∧ Below w.heap.size w w' := by
  go_enter Try.func5, Try.ntmps5
  go_wp2_with fail
  refine (new_bad h _).mono ?_
  rintro e w1 ⟨rfl, rfl⟩
  go_wp2_with fail
  refine (rnew_bad h _).mono ?_
  rintro e w1 ⟨rfl, rfl⟩
  go_wp2_with fail
  refine (wakes_any _).mono ?_
  rintro e w1 ⟨rfl, hb⟩
  go_wp2_with fail
  go_ret
  exact ⟨rfl, hb⟩

/-- What holds between two rounds. -/
def Rel (w : World) (B r bu k : Nat) (wr : World) : Prop :=
  ∃ lv la la', Bk wr B 56 r bu lv la ∧ Bk wr (B + 1) 58 r bu lv la' ∧ Inv r bu lv la ∧ num la' ∧ EV la = EV la' ∧ Below B w wr ∧ k ≤ 9223372036854775807

set_option maxRecDepth 100000 in
set_option maxHeartbeats 1000000 in
theorem exact_good (x y : Nat) (hx : x < 18446744073709551616) (hy : y < 18446744073709551616) (a : Option Addr) (len cap : Nat) (d : Nat → Int) (p q : Nat → Nat) (w : World) (h : ¬ Bad x y) (ha : Asks w a len d p q) :
    Calls Try.prog 5 #[.int .u64 x, .int .u64 y, .slice a len cap] w fun e w' => e = .returned (.bool true) ∧ Below w.heap.size w w' := by
  obtain ⟨hlen, ha⟩ := ha
  have HA := Lib.hid ha
  clear ha
  go_enter Try.func5, Try.ntmps5
  go_wp2_with fail
  refine (new_good hx hy h _).mono ?_
  rintro e w1 ⟨rfl, rfl⟩
  go_wp2_with fail
  refine (rnew_good h _).mono ?_
  rintro e w1 ⟨rfl, rfl⟩
  go_wp2_with fail
  refine (wakes_any _).mono ?_
  rintro e w1 ⟨rfl, hb1⟩
  have hstart : Rel w w.heap.size (rung x) (rung y) 0 w1 := by
    refine ⟨_, _, _, ?_, ?_, inv_new h, num_ninf, rfl, ?_, by omega⟩
    · exact (hb1.block _ (by simp; omega)).trans ((Below.heap_alloc _ _ _ (by simp)).trans (Bk.new _ _ _ _ _ _))
    · have e := Bk.new (w.alloc (.cells #[.float .f64 (rung x), .float .f64 (rung y), .float .f64 (rung y), .float .f64 18442240474082181120] 56)) 58 (rung x) (rung y) (rung y) 18442240474082181120
      simp only [World.size_alloc] at e
      exact (hb1.block _ (by simp)).trans e
    · exact (((Below.refl _ _).alloc (Nat.le_refl _) _).alloc (by simp) _).trans (hb1.mono (by simp; omega))
  clear hb1
  go_wp2_with fail
  go_loopw [13] (fun i wr => ∃ k : Nat, i = .int .i64 k ∧ Rel w w.heap.size (rung x) (rung y) k wr) (fun i _ => 200 - (intOf i).toNat)
  case atStart => exact ⟨0, rfl, hstart⟩
  case round =>
    clear hstart
    obtain ⟨k, rfl, lv, la, la', hB1, hB2, hi, hn', he, hbw, hk⟩ := hrel
    have E := Lib.hid he; clear he
    by_cases c1 : k < len
    · by_cases c2 : k < 200
      · obtain ⟨b, off, rfl, hbb, g0, g1, g2⟩ := HA.out k c1
        have g0 := (hbw.cell (p := ⟨b, off + k * 3, none⟩) hbb).trans g0
        have g1 := (hbw.cell (p := ⟨b, off + k * 3 + 1, none⟩) hbb).trans g1
        have g2 := (hbw.cell (p := ⟨b, off + k * 3 + 2, none⟩) hbb).trans g2
        clear HA
        have hs : w.heap.size < wr.heap.size := (Array.getElem?_eq_some_iff.1 hB1).1
        have hne : w.heap.size ≠ w.heap.size + 1 := by omega
        by_cases e1 : d k = 1
        · have E1 : (d k == 1) = true := by simpa using e1
          clear e1
          go_wp2_with fail
          go_quiet (fail)
          go_wp2_with fail
          refine (gives_level hi _ _ _ (by exact hB1)).mono ?_
          rintro e w2 ⟨rfl, n2, rfl⟩
          go_wp2_with fail
          refine (gives_rlevel (inv_la hi hn') _ _ _ (by exact hB2)).mono ?_
          rintro e w2 ⟨rfl, n3, rfl⟩
          go_wp2_with fail
          rw [← Lev_same E.out]
          refine (same_any _ _).mono ?_
          rintro e w2 ⟨rfl, rfl⟩
          go_wp2_with fail
          go_roundw
          case rel => exact ⟨k + 1, by go_num, lv, la, la', hB1, hB2, hi, hn', E.out, below_drewN hbw _, by omega⟩
          case measure => simp [intOf]; omega
        · have E1 : (d k == 1) = false := by simpa using e1
          clear e1
          by_cases e2 : d k = 2
          · have E2 : (d k == 2) = true := by simpa using e2
            clear e2
            go_wp2_with fail
            go_quiet (fail)
            go_wp2_with fail
            refine (wait_ok hi _ _ _ _ (by exact hB1)).mono ?_
            rintro e w2 ⟨rfl, n2, rfl⟩
            go_wp2_with fail
            refine (rwait_ok (inv_la hi hn') _ _ _ _ (by exact hB2)).mono ?_
            rintro e w2 ⟨rfl, n3, rfl⟩
            go_wp2_with fail
            rw [← (ans_la E.out _ _).2.2]
            refine (same_any _ _).mono ?_
            rintro e w2 ⟨rfl, rfl⟩
            go_wp2_with fail
            go_roundw
            case rel => exact ⟨k + 1, by go_num, lv, la, la', hB1, hB2, hi, hn', E.out, below_drewN hbw _, by omega⟩
            case measure => simp [intOf]; omega
          · have E2 : (d k == 2) = false := by simpa using e2
            clear e2
            go_wp2_with fail
            go_quiet (fail)
            go_wp2_with fail
            refine (take_ok hi _ _ _ _ (by exact hB1)).mono ?_
            rintro e w2 ⟨rfl, hg2, hC1⟩
            have hC2 : Bk w2 (w.heap.size + 1) 58 (rung x) (rung y) lv la' := Bk.only (w := wr.drewN nq) hB2 hg2 (by omega)
            have hb2 : Below w.heap.size w w2 := (below_drewN hbw nq).grown hg2 hbw.size (fun k e => by cases e; exact Nat.le_refl _)
            clear hg2 hB2 hB1
            go_wp2_with fail
            refine (rtake_ok (inv_la hi hn') _ _ _ _ hC2).mono ?_
            rintro e w3 ⟨rfl, hg3, hD2⟩
            have hD1 := hC1.only hg3 (by omega)
            have hb3 := hb2.grown hg3 hb2.size (fun k e => by cases e; omega)
            clear hg3 hC1 hC2
            rw [← (ans_la E.out _ _).1]
            rw [← (ans_la E.out _ _).2.1] at hD2
            have E3 : (Ans (rung x) (rung y) lv la (p k) (q k) != Ans (rung x) (rung y) lv la (p k) (q k)) = false := by simp
            go_wp2_with fail
            go_roundw
            case rel => exact ⟨k + 1, by go_num, _, _, _, hD1, hD2, inv_take hi _ _, (la_step E.out hn').2, (la_step E.out hn').1, hb3, by omega⟩
            case measure => simp [intOf]; omega
      · go_wp2
        go_ret
        exact ⟨rfl, hbw⟩
    · go_wp2
      go_ret
      exact ⟨rfl, hbw⟩

end Go.Proofs.Ytbodgbkblocphaa
