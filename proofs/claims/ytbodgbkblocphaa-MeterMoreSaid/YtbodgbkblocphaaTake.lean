/- The bucket's calls and the reference's, whole: what they answer and what they leave; the document's run. -/
import Derived.Test.YtbodgbkblocphaaStep
namespace Go.Proofs.Ytbodgbkblocphaa
open Go.RowKit Fl

def Ans (r bu lv la now cost : Nat) : Int := if Ref bu now cost = 0 then (if EV (Lev r bu lv la now) < EV cost then 19 else 0) else Ref bu now cost
def LvA (r bu lv la now cost : Nat) : Nat := if Ref bu now cost = 0 then (if EV (Lev r bu lv la now) < EV cost then Lev r bu lv la now else less (Lev r bu lv la now) cost) else lv
def LaA (bu la now cost : Nat) : Nat := if Ref bu now cost = 0 then Last la now else la
def LaR (bu la now cost : Nat) : Nat := if Ref bu now cost = 0 then rLast la now else la
def Wai (r bu lv la now cost : Nat) : Nat :=
  if Ref bu now cost = 0 then (if EV cost ≤ EV (Lev r bu lv la now) then 0 else if r = 0 then 9218868437227405312 else over (less cost (Lev r bu lv la now)) r) else 9221120237041090561

theorem less_below {x y : Nat} (hx : x < infR) (hy : 0 ≤ EV y) : less x y ≤ x := by
  have h := N_mono (-1074) (m := (EV x - EV y).toNat) (n := V x) (by have := EV_pos (Nat.le_of_lt hx); omega)
  rw [N_V hx] at h
  exact h

theorem less_below_fin {x y : Nat} (hx : num x) (hx2 : 0 ≤ EV x) (hx3 : EV x < I) (hy : 0 ≤ EV y) : less x y < infR := by
  have hf : rung x < infR := fin_of hx (by omega) (by have := K_lt; have := K_pos; omega)
  have e : EV x ≤ V (rung x) := by unfold EV; split <;> omega
  have h := N_mono (-1074) (m := (EV x - EV y).toNat) (n := V (rung x)) (by omega)
  rw [N_V hf] at h
  exact Nat.lt_of_le_of_lt h hf

/-- What is known where nothing is refused. -/
theorem goes {r bu lv la now cost : Nat} (h : Inv r bu lv la) (e : Ref bu now cost = 0) :
    num now ∧ rung cost < infR ∧ 0 ≤ EV cost ∧ num cost ∧ Lev r bu lv la now < infR := by
  obtain ⟨hn, _, hc, h0, hle⟩ := Ref_zero e
  have hI : EV bu < I := by
    have := EV_fin (x := bu) (by rw [rung_pos (Nat.le_of_lt h.hbu)]; exact h.hbu)
    have := K_lt
    omega
  exact ⟨hn, fin_of hc (by omega) (by have := K_lt; have := K_pos; omega), h0, hc, Nat.lt_of_le_of_lt (Lev_le h now) h.hbu⟩

theorem gt_lev {L cost : Nat} (hL : L < infR) (hc : num cost) : isGt cost L = true ↔ EV L < EV cost := by
  rw [gt_iff]
  exact ⟨fun e => e.2.2, fun e => ⟨hc, num_pos (Nat.le_of_lt hL), e⟩⟩
theorem le_lev {L cost : Nat} (hL : L < infR) (hc : num cost) : isLe cost L = true ↔ EV cost ≤ EV L := by
  rw [le_iff]
  exact ⟨fun e => e.2.2, fun e => ⟨hc, num_pos (Nat.le_of_lt hL), e⟩⟩

theorem takes_less {L cost : Nat} (hL : L < infR) (hc : rung cost < infR) (h : ¬ EV L < EV cost) : Ieee.double.sub L cost = some (less L cost) := by
  refine sub_ge (by rw [rung_pos (Nat.le_of_lt hL)]; exact hL) hc ?_
  rcases Int.lt_or_eq_of_le (show EV cost ≤ EV L by omega) with g | g
  · exact .inl g
  · exact .inr ⟨g, sg_pos (Nat.le_of_lt hL)⟩

theorem take_ok {r bu lv la : Nat} (h : Inv r bu lv la) (b now cost : Nat) (w : World) (hb : Bk w b 56 r bu lv la) :
    Calls Try.prog 10 #[.pointer (some ⟨b, 0, none⟩), .float .f64 now, .float .f64 cost] w fun e w' =>
      e = .returned (.int .i64 (Ans r bu lv la now cost)) ∧ w.grownBy w' (some b) ∧ Bk w' b 56 r bu (LvA r bu lv la now cost) (LaA bu la now cost) := by
  have hr := refused_eq h.hbu now cost
  by_cases e : Ref bu now cost = 0
  · obtain ⟨hn, hc, h0, hcn, hL⟩ := goes h e
    refine (take_goes b r bu lv la now cost _ _ (less (Lev r bu lv la now) cost) w hb (by rw [hr, e]) (gives_level h b now) (fun w => run_max_num h.nla hn w) ?_).mono ?_
    · intro g
      exact takes_less hL hc fun c => by rw [(gt_lev hL hcn).2 c] at g; cases g
    · rintro e' w' ⟨he, hg, hB⟩
      have k1 : takeAns cost (Lev r bu lv la now) = Ans r bu lv la now cost := by
        unfold takeAns Ans
        rw [if_pos e]
        simp only [gt_lev hL hcn]
      have k2 : takeLev cost (Lev r bu lv la now) (less (Lev r bu lv la now) cost) = LvA r bu lv la now cost := by
        unfold takeLev LvA
        rw [if_pos e]
        simp only [gt_lev hL hcn]
      have k3 : Last la now = LaA bu la now cost := by unfold LaA; rw [if_pos e]
      rw [← k1, ← k2, ← k3]
      exact ⟨he, hg, hB⟩
  · refine (take_refused b r bu lv la now cost w hb (by rw [hr]; exact e)).mono ?_
    rintro e' w' ⟨he, rfl⟩
    have k1 : Ans r bu lv la now cost = Ref bu now cost := by unfold Ans; rw [if_neg e]
    have k2 : LvA r bu lv la now cost = lv := by unfold LvA; rw [if_neg e]
    have k3 : LaA bu la now cost = la := by unfold LaA; rw [if_neg e]
    rw [k1, k2, k3, he, hr]
    exact ⟨rfl, only_refl _ _, hb⟩

theorem rtake_ok {r bu lv la : Nat} (h : Inv r bu lv la) (b now cost : Nat) (w : World) (hb : Bk w b 58 r bu lv la) :
    Calls Try.prog 18 #[.pointer (some ⟨b, 0, none⟩), .float .f64 now, .float .f64 cost] w fun e w' =>
      e = .returned (.int .i64 (Ans r bu lv la now cost)) ∧ w.grownBy w' (some b) ∧ Bk w' b 58 r bu (LvA r bu lv la now cost) (LaR bu la now cost) := by
  have hw := gives_wrong h.hbu b r lv la now cost
  by_cases e : Ref bu now cost = 0
  · obtain ⟨hn, hc, h0, hcn, hL⟩ := goes h e
    rw [e] at hw
    refine (rtake_goes b r bu lv la now cost _ (less (Lev r bu lv la now) cost) w hb hw (gives_rlevel h b now) ?_).mono ?_
    · intro g
      exact takes_less hL hc fun c => by rw [(gt_lev hL hcn).2 c] at g; cases g
    · rintro e' w' ⟨he, hg, hB⟩
      have k1 : takeAns cost (Lev r bu lv la now) = Ans r bu lv la now cost := by
        unfold takeAns Ans
        rw [if_pos e]
        simp only [gt_lev hL hcn]
      have k2 : takeLev cost (Lev r bu lv la now) (less (Lev r bu lv la now) cost) = LvA r bu lv la now cost := by
        unfold takeLev LvA
        rw [if_pos e]
        simp only [gt_lev hL hcn]
      have k3 : rLast la now = LaR bu la now cost := by unfold LaR; rw [if_pos e]
      rw [← k1, ← k2, ← k3]
      exact ⟨he, hg, hB⟩
  · refine (rtake_refused b r bu lv la now cost _ w hb hw e).mono ?_
    rintro e' w' ⟨he, rfl⟩
    have k1 : Ans r bu lv la now cost = Ref bu now cost := by unfold Ans; rw [if_neg e]
    have k2 : LvA r bu lv la now cost = lv := by unfold LvA; rw [if_neg e]
    have k3 : LaR bu la now cost = la := by unfold LaR; rw [if_neg e]
    rw [k1, k2, k3, he]
    exact ⟨rfl, only_refl _ _, hb⟩

/-- What is left is a bucket again. -/
theorem inv_take {r bu lv la : Nat} (h : Inv r bu lv la) (now cost : Nat) : Inv r bu (LvA r bu lv la now cost) (LaA bu la now cost) := by
  refine ⟨h.hr, h.hbu, ?_, ?_⟩
  · unfold LvA
    split
    · rename_i e
      obtain ⟨_, _, h0, _, hL⟩ := goes h e
      split
      · exact Lev_le h now
      · exact Nat.le_trans (less_below hL h0) (Lev_le h now)
    · exact h.hlv
  · unfold LaA
    split
    · rename_i e
      exact Last_num h.nla (goes h e).1
    · exact h.nla

theorem rLast_num {la now : Nat} (h1 : num la) (h2 : num now) : num (rLast la now) := by
  unfold rLast
  split <;> assumption
theorem rLast_EV {la now : Nat} (h1 : num la) (h2 : num now) : EV (rLast la now) = max (EV la) (EV now) := by
  unfold rLast
  split
  · rename_i g
    have := (gt_iff.1 g).2.2
    omega
  · rename_i g
    have : ¬ EV la < EV now := fun e => g (gt_iff.2 ⟨h2, h1, e⟩)
    omega

theorem la_step {bu la la' now cost : Nat} (e : EV la = EV la') (h2 : num la') :
    EV (LaA bu la now cost) = EV (LaR bu la' now cost) ∧ num (LaR bu la' now cost) := by
  unfold LaA LaR
  by_cases c : Ref bu now cost = 0
  · rw [if_pos c, if_pos c, Last_EV, rLast_EV h2 (Ref_zero c).1, e]
    exact ⟨rfl, rLast_num h2 (Ref_zero c).1⟩
  · rw [if_neg c, if_neg c]
    exact ⟨e, h2⟩

theorem inv_la {r bu lv la la' : Nat} (h : Inv r bu lv la) (n : num la') : Inv r bu lv la' := ⟨h.hr, h.hbu, h.hlv, n⟩

theorem ans_la {r bu lv la la' : Nat} (e : EV la = EV la') (now cost : Nat) :
    Ans r bu lv la now cost = Ans r bu lv la' now cost ∧ LvA r bu lv la now cost = LvA r bu lv la' now cost ∧ Wai r bu lv la now cost = Wai r bu lv la' now cost := by
  unfold Ans LvA Wai
  rw [Lev_same e]
  exact ⟨rfl, rfl, rfl⟩

theorem wait_ok {r bu lv la : Nat} (h : Inv r bu lv la) (b now cost : Nat) (w : World) (hb : Bk w b 56 r bu lv la) :
    Calls Try.prog 16 #[.pointer (some ⟨b, 0, none⟩), .float .f64 now, .float .f64 cost] w fun e w' => e = .returned (.float .f64 (Wai r bu lv la now cost)) ∧ ∃ n, w.drewN n = w' := by
  have hr := refused_eq h.hbu now cost
  have key : ∀ x, x = Wai r bu lv la now cost → Calls Try.prog 16 #[.pointer (some ⟨b, 0, none⟩), .float .f64 now, .float .f64 cost] w fun e w' => e = .returned (.float .f64 x) ∧ ∃ n, w.drewN n = w' := by
    intro x hx
    unfold Wai at hx
    by_cases e : Ref bu now cost = 0
    · obtain ⟨hn, hc, h0, hcn, hL⟩ := goes h e
      rw [if_pos e] at hx
      rw [e] at hr
      have hl := le_lev (cost := cost) hL hcn
      by_cases c : EV cost ≤ EV (Lev r bu lv la now)
      · rw [if_pos c] at hx
        subst hx
        exact wait_none b r bu lv la now cost _ w hb hr (gives_level h b now) (hl.2 c)
      · rw [if_neg c] at hx
        have c1 : isLe cost (Lev r bu lv la now) = false := off hl c
        by_cases z : r = 0
        · rw [if_pos z] at hx
          subst hx
          exact wait_never b r bu lv la now cost _ w hb hr (gives_level h b now) c1 (eq_iff.2 ⟨num_pos h.hr, num_0, by rw [z]⟩)
        · rw [if_neg z] at hx
          subst hx
          have d := sub_ge (x := cost) (y := Lev r bu lv la now) hc (by rw [rung_pos (Nat.le_of_lt hL)]; exact hL) (.inl (by omega))
          have hd : less cost (Lev r bu lv la now) < infR := less_below_fin hcn h0 (by have := EV_fin hc; have := K_lt; omega) (EV_nonneg (Nat.le_of_lt hL))
          exact wait_some b r bu lv la now cost _ _ _ w hb hr (gives_level h b now) c1 (off eq_iff fun ⟨_, _, e⟩ => z ((EV_zero_iff h.hr).1 (by rw [e, EV_0]))) d (over_eq hd h.hr z).1
    · rw [if_neg e] at hx
      subst hx
      exact wait_refused b r bu lv la now cost w hb (by rw [hr]; exact e)
  exact key _ rfl

theorem over_inf {d q : Nat} (h : q = infR) (hd : d < infR) : over d q = 0 := by
  subst h
  unfold over
  rw [div_inf hd]
  rfl

theorem rwait_ok {r bu lv la : Nat} (h : Inv r bu lv la) (b now cost : Nat) (w : World) (hb : Bk w b 58 r bu lv la) :
    Calls Try.prog 17 #[.pointer (some ⟨b, 0, none⟩), .float .f64 now, .float .f64 cost] w fun e w' => e = .returned (.float .f64 (Wai r bu lv la now cost)) ∧ ∃ n, w.drewN n = w' := by
  have hw := gives_wrong h.hbu b r lv la now cost
  have key : ∀ x, x = Wai r bu lv la now cost → Calls Try.prog 17 #[.pointer (some ⟨b, 0, none⟩), .float .f64 now, .float .f64 cost] w fun e w' => e = .returned (.float .f64 x) ∧ ∃ n, w.drewN n = w' := by
    intro x hx
    unfold Wai at hx
    by_cases e : Ref bu now cost = 0
    · obtain ⟨hn, hc, h0, hcn, hL⟩ := goes h e
      rw [if_pos e] at hx
      rw [e] at hw
      have hl := le_lev (cost := cost) hL hcn
      by_cases c : EV cost ≤ EV (Lev r bu lv la now)
      · rw [if_pos c] at hx
        subst hx
        exact rwait_none b r bu lv la now cost _ w hb hw (gives_rlevel h b now) (hl.2 c)
      · rw [if_neg c] at hx
        have c1 : isLe cost (Lev r bu lv la now) = false := off hl c
        by_cases z : r = 0
        · rw [if_pos z] at hx
          subst hx
          exact rwait_never b r bu lv la now cost _ w hb hw (gives_rlevel h b now) c1 (eq_iff.2 ⟨num_pos h.hr, num_0, by rw [z]⟩)
        · rw [if_neg z] at hx
          have zf : isEq r 0 = false := off eq_iff fun ⟨_, _, e⟩ => z ((EV_zero_iff h.hr).1 (by rw [e, EV_0]))
          have d := sub_ge (x := cost) (y := Lev r bu lv la now) hc (by rw [rung_pos (Nat.le_of_lt hL)]; exact hL) (.inl (by omega))
          have hd : less cost (Lev r bu lv la now) < infR := less_below_fin hcn h0 (by have := EV_fin hc; have := K_lt; omega) (EV_nonneg (Nat.le_of_lt hL))
          by_cases i : r = infR
          · have e0 : over (less cost (Lev r bu lv la now)) r = 0 := over_inf i hd
            rw [e0] at hx
            subst hx
            exact rwait_once b r bu lv la now cost _ w hb hw (gives_rlevel h b now) c1 zf (pinf_iff.2 ⟨num_pos h.hr, (EV_I_iff h.hr).2 i⟩)
          · subst hx
            exact rwait_some b r bu lv la now cost _ _ _ w hb hw (gives_rlevel h b now) c1 zf (off pinf_iff fun ⟨_, e⟩ => i ((EV_I_iff h.hr).1 e)) d (over_eq hd h.hr z).1
    · rw [if_neg e] at hx
      subst hx
      exact rwait_refused b r bu lv la now cost _ w hb hw e
  exact key _ rfl

/-! ### New -/
/-- What New refuses. -/
def Bad (r s : Nat) : Prop := ¬ (num r ∧ 0 ≤ EV r ∧ num s ∧ 0 ≤ EV s ∧ EV s ≠ I)
instance (r s : Nat) : Decidable (Bad r s) := inferInstanceAs (Decidable (¬ _))

theorem new_bad {r s : Nat} (h : Bad r s) (w : World) : Calls Try.prog 8 #[.float .f64 r, .float .f64 s] w fun e w' => e = .returned (.tuple #[.pointer none, .int .i64 1]) ∧ w = w' := by
  refine new_refused r s w ?_
  by_cases c1 : num r ∧ 0 ≤ EV r
  · by_cases c2 : num s ∧ 0 ≤ EV s
    · refine .inr (.inr (pinf_iff.2 ⟨c2.1, ?_⟩))
      exact Classical.byContradiction fun e => h ⟨c1.1, c1.2, c2.1, c2.2, e⟩
    · exact .inr (.inl (off ge_iff fun e => c2 ⟨e.1, by have := e.2.2; rw [EV_0] at this; exact this⟩))
  · exact .inl (off ge_iff fun e => c1 ⟨e.1, by have := e.2.2; rw [EV_0] at this; exact this⟩)

theorem rnew_bad {r s : Nat} (h : Bad r s) (w : World) : Calls Try.prog 13 #[.float .f64 r, .float .f64 s] w fun e w' => e = .returned (.tuple #[.pointer none, .bool false]) ∧ w = w' := by
  refine rnew_refused r s w ?_
  by_cases n1 : num r
  · by_cases n2 : num s
    · by_cases c1 : 0 ≤ EV r
      · by_cases c2 : 0 ≤ EV s
        · exact .inr (.inr (.inr (.inr (pinf_iff.2 ⟨n2, Classical.byContradiction fun e => h ⟨n1, c1, n2, c2, e⟩⟩))))
        · exact .inr (.inr (.inr (.inl (lt_iff.2 ⟨n2, num_0, by rw [EV_0]; omega⟩))))
      · exact .inr (.inr (.inl (lt_iff.2 ⟨n1, num_0, by rw [EV_0]; omega⟩)))
    · exact .inr (.inl (ne_iff.2 fun e => n2 e.1))
  · exact .inl (ne_iff.2 fun e => n1 e.1)

theorem new_good {r s : Nat} (hr : r < 18446744073709551616) (hs : s < 18446744073709551616) (h : ¬ Bad r s) (w : World) : Calls Try.prog 8 #[.float .f64 r, .float .f64 s] w fun e w' => e = .returned (.tuple #[.pointer (some ⟨w.heap.size, 0, none⟩), .int .i64 0]) ∧
      w.alloc (.cells #[.float .f64 (rung r), .float .f64 (rung s), .float .f64 (rung s), .float .f64 18442240474082181120] 56) = w' := by
  obtain ⟨n1, c1, n2, c2, c3⟩ := Classical.not_not.1 h
  exact new_made r s _ _ w (ge_iff.2 ⟨n1, num_0, by rw [EV_0]; exact c1⟩) (ge_iff.2 ⟨n2, num_0, by rw [EV_0]; exact c2⟩) (off pinf_iff fun e => c3 e.2) (abs_word hr) (abs_word hs)

theorem signed_zero (s : Bool) (k : Nat) : Ieee.signed s 0 k = 0 := by
  unfold Ieee.signed
  cases s <;> simp

/-- 'x + 0' of an x that is not negative. -/
theorem add_zero {x : Nat} (hn : num x) (h0 : 0 ≤ EV x) : Ieee.double.add x 0 = some (rung x) := by
  cases hs : sg x
  · unfold Ieee.Format.add
    rw [read_pos infR_pos]
    rcases Nat.lt_or_ge (rung x) infR with h | h
    · rw [read_fin h, hs, ← read_pos h, ← read_pos infR_pos]
      have := add_fin h infR_pos
      unfold Ieee.Format.add at this
      rw [this, V_zero, Nat.add_zero, N_V h]
    · rw [read_infw (Nat.le_antisymm hn h), hs]
      have e : rung x = infR := Nat.le_antisymm hn h
      simp only [Ieee.Datum.sum, Option.map_some, write_inf, e]
  · have e : V (rung x) = 0 := by
      unfold EV at h0
      rw [hs] at h0
      simp at h0
      exact h0
    have e0 : rung x = 0 := by
      have h1 := (EV_zero_iff (x := rung x) hn).1 (by rw [EV_pos hn, e]; rfl)
      exact h1
    unfold Ieee.Format.add
    rw [read_fin (by rw [e0]; exact infR_pos), hs, e0, read_pos infR_pos, mg_0]
    simp only [Ieee.Datum.sum, Option.map_some, signed_zero]
    rw [if_pos (by decide)]
    show some (N 0 _) = some 0
    rw [N_zero]

end Go.Proofs.Ytbodgbkblocphaa
