/- A bucket's Level, Take and Wait, and the reference's, as functions of words. -/
import Derived.Test.YtbodgbkblocphaaFacts
namespace Go.Proofs.Ytbodgbkblocphaa
open Go.RowKit Fl

instance (x : Nat) : Decidable (num x) := inferInstanceAs (Decidable (rung x ≤ infR))

/-- The sum, the product, the quotient of two words that are not negative. -/
def plus (x y : Nat) : Nat := (Ieee.double.add x y).getD 0
def times (x y : Nat) : Nat := (Ieee.double.mul x y).getD 0
def over (x y : Nat) : Nat := (Ieee.double.div x y).getD 0
/-- The difference of x and what is not above it. -/
def less (x y : Nat) : Nat := N (EV x - EV y).toNat (-1074)

theorem plus_eq {x y : Nat} (hx : x ≤ infR) (hy : y ≤ infR) : Ieee.double.add x y = some (plus x y) ∧ plus x y ≤ infR := by
  unfold plus
  rcases Nat.lt_or_ge x infR with h | h
  · rcases Nat.lt_or_ge y infR with h2 | h2
    · rw [add_fin h h2]; exact ⟨rfl, N_le _ _⟩
    · have : y = infR := Nat.le_antisymm hy h2
      subst this
      rw [add_inf_right hx]; exact ⟨rfl, Nat.le_refl _⟩
  · have : x = infR := Nat.le_antisymm hx h
    subst this
    rw [add_inf_left hy]; exact ⟨rfl, Nat.le_refl _⟩

theorem times_eq {x y : Nat} (hx : x ≤ infR) (hy : y < infR) (h0 : y ≠ 0) : Ieee.double.mul x y = some (times x y) ∧ times x y ≤ infR := by
  unfold times
  rcases Nat.lt_or_ge x infR with h | h
  · rw [mul_fin h hy]; exact ⟨rfl, N_le _ _⟩
  · have : x = infR := Nat.le_antisymm hx h
    subst this
    rw [mul_inf_left (Nat.le_of_lt hy) h0]; exact ⟨rfl, Nat.le_refl _⟩

theorem over_eq {x y : Nat} (hx : x < infR) (hy : y ≤ infR) (h0 : y ≠ 0) : Ieee.double.div x y = some (over x y) ∧ over x y ≤ infR := by
  unfold over
  obtain ⟨r, h, hr⟩ := div_fin hx hy h0
  rw [h]; exact ⟨rfl, hr⟩

theorem less_le (x y : Nat) : less x y ≤ infR := N_le _ _

/-- What a bucket is: r and bu, lv are not negative, bu is a number, lv is not above bu; la is no NaN. -/
structure Inv (r bu lv la : Nat) : Prop where
  hr : r ≤ infR
  hbu : bu < infR
  hlv : lv ≤ bu
  nla : num la

/-- Level. -/
def Lev (r bu lv la now : Nat) : Nat :=
  if EV la = -I ∨ ¬ (num now ∧ EV la < EV now) ∨ r = 0 then lv
  else if r = infR ∨ EV now = I then bu
  else min bu (plus lv (times (less now la) r))

theorem Lev_le {r bu lv la : Nat} (h : Inv r bu lv la) (now : Nat) : Lev r bu lv la now ≤ bu := by
  unfold Lev
  split
  · exact h.hlv
  · split
    · exact Nat.le_refl _
    · exact Nat.min_le_left _ _

theorem EV_zero_iff {x : Nat} (h : x ≤ infR) : EV x = 0 ↔ x = 0 := by
  constructor
  · intro e
    rw [EV_pos h] at e
    rcases Nat.eq_zero_or_pos x with h0 | h0
    · exact h0
    · rcases Nat.lt_or_ge x infR with h1 | h1
      · have := (V_lt infR_pos h1).2 h0
        rw [V_zero] at this
        omega
      · have : x = infR := Nat.le_antisymm h h1
        subst this
        have := V_inf infR_pos
        rw [V_zero] at this
        omega
  · rintro rfl
    exact EV_0

theorem EV_I_iff {x : Nat} (h : x ≤ infR) : EV x = I ↔ x = infR := by
  constructor
  · intro e
    rcases Nat.lt_or_ge x infR with h1 | h1
    · have := EV_fin (x := x) (by rw [rung_pos h]; exact h1)
      have := K_lt
      omega
    · exact Nat.le_antisymm h h1
  · rintro rfl
    rfl

theorem EV_nonneg {x : Nat} (h : x ≤ infR) : 0 ≤ EV x := by rw [EV_pos h]; omega

theorem EV_le_iff {x y : Nat} (hx : x < infR) (hy : y < infR) : EV x ≤ EV y ↔ x ≤ y := by
  rw [EV_pos (Nat.le_of_lt hx), EV_pos (Nat.le_of_lt hy), ← V_le hx hy]
  omega

theorem gt_pos {x y : Nat} (hx : x ≤ infR) (hy : y ≤ infR) : isGt x y = true ↔ y < x := by
  unfold isGt
  rw [order_pos hx hy]
  simp [Nat.compare_eq_gt]

theorem run_min_pos {x y : Nat} (hx : x ≤ infR) (hy : y ≤ infR) (w : World) : (Builtin.min_ #[30, 30] 30 #[.float .f64 x, .float .f64 y]).run Try.prog w = .ok (.float .f64 (min x y)) w := by
  have e : FloatKind.f64.format.order x y = some (compare x y) := order_pos hx hy
  have ed : (FloatKind.f64.decode x).neg = false := by
    show (Ieee.double.read x).neg = false
    rcases Nat.lt_or_ge x infR with h | h
    · rw [read_pos h]; rfl
    · have : x = infR := Nat.le_antisymm hx h
      subst this
      rw [read_inf]; rfl
  simp only [Builtin.min_, List.foldlM_cons, List.foldlM_nil, Builtin.min2, e, ed]
  rcases Nat.lt_trichotomy x y with h | h | h
  · rw [Nat.compare_eq_lt.2 h, Nat.min_eq_left (Nat.le_of_lt h)]; rfl
  · subst h; rw [Nat.compare_eq_eq.2 rfl, Nat.min_self]; rfl
  · rw [Nat.compare_eq_gt.2 h, Nat.min_eq_right (Nat.le_of_lt h)]; rfl

/-- The last time, behind a Take. -/
def Last (la now : Nat) : Nat := if EV la < EV now then now else if EV now < EV la then la else if sg la then now else la

theorem run_max_num {x y : Nat} (hx : num x) (hy : num y) (w : World) : (Builtin.max_ #[30, 30] 30 #[.float .f64 x, .float .f64 y]).run Try.prog w = .ok (.float .f64 (Last x y)) w := by
  have e : FloatKind.f64.format.order x y = some (compare (EV x) (EV y)) := order_num hx hy
  have ed : (FloatKind.f64.decode x).neg = sg x := by
    show (Ieee.double.read x).neg = sg x
    rcases Nat.lt_or_ge (rung x) infR with h | h
    · rw [read_fin h]; rfl
    · rw [read_infw (Nat.le_antisymm hx h)]; rfl
  simp only [Builtin.max_, List.foldlM_cons, List.foldlM_nil, Builtin.max2, e, ed]
  unfold Last
  rcases cmp_cases (EV x) (EV y) with ⟨e, h⟩ | ⟨e, h⟩ | ⟨e, h⟩
  · rw [e, if_pos h]; rfl
  · rw [e, if_neg (by omega : ¬ EV x < EV y), if_neg (by omega : ¬ EV y < EV x)]; cases sg x <;> rfl
  · rw [e, if_neg (by omega : ¬ EV x < EV y), if_pos h]; rfl

theorem Last_num {la now : Nat} (h1 : num la) (h2 : num now) : num (Last la now) := by
  unfold Last
  repeat' split
  all_goals assumption
theorem Last_EV (la now : Nat) : EV (Last la now) = max (EV la) (EV now) := by
  unfold Last
  repeat' split
  all_goals omega

theorem not_gt_late {la now : Nat} (h : ¬ (num now ∧ EV la < EV now)) : isGt now la = false := off gt_iff fun ⟨a, _, c⟩ => h ⟨a, c⟩

theorem gives_level {r bu lv la : Nat} (h : Inv r bu lv la) (b now : Nat) : GivesLevel b r bu lv la now (Lev r bu lv la now) := by
  intro w hb
  have key : ∀ x, x = Lev r bu lv la now → Calls Try.prog 12 #[.pointer (some ⟨b, 0, none⟩), .float .f64 now] w fun e w' => e = .returned (.float .f64 x) ∧ ∃ n, w.drewN n = w' := by
    intro x hx
    unfold Lev at hx
    by_cases c1 : EV la = -I ∨ ¬ (num now ∧ EV la < EV now) ∨ r = 0
    · rw [if_pos c1] at hx
      subst hx
      refine (level_early b r bu x la now w hb ?_).mono fun e w' ⟨he, hw⟩ => ⟨he, 0, hw⟩
      rcases c1 with c | c | c
      · exact .inl (ninf_iff.2 ⟨h.nla, c⟩)
      · exact .inr (.inl (not_gt_late c))
      · exact .inr (.inr (eq_iff.2 ⟨num_pos h.hr, num_0, by rw [c]⟩))
    · rw [if_neg c1] at hx
      have l1 : EV la ≠ -I := fun e => c1 (.inl e)
      have l2 : num now ∧ EV la < EV now := Classical.byContradiction fun e => c1 (.inr (.inl e))
      have l3 : r ≠ 0 := fun e => c1 (.inr (.inr e))
      have t1 : isGt (Op.negFloat .f64 la) 9218868437227405311 = false := off ninf_iff fun ⟨_, e⟩ => l1 e
      have t2 : isGt now la = true := gt_iff.2 ⟨l2.1, h.nla, l2.2⟩
      have t3 : isEq r 0 = false := off eq_iff fun ⟨_, _, e⟩ => l3 ((EV_zero_iff h.hr).1 (by rw [e, EV_0]))
      by_cases c2 : r = infR ∨ EV now = I
      · rw [if_pos c2] at hx
        subst hx
        refine (level_burst b r x lv la now w hb t1 t2 t3 ?_).mono fun e w' ⟨he, hw⟩ => ⟨he, 0, hw⟩
        rcases c2 with c | c
        · exact .inl (pinf_iff.2 ⟨num_pos h.hr, (EV_I_iff h.hr).2 c⟩)
        · exact .inr (pinf_iff.2 ⟨l2.1, c⟩)
      · rw [if_neg c2] at hx
        have m1 : r ≠ infR := fun e => c2 (.inl e)
        have m2 : EV now ≠ I := fun e => c2 (.inr e)
        have fr : r < infR := Nat.lt_of_le_of_ne h.hr m1
        have fl : rung la < infR := fin_of h.nla (by rcases EV_range l2.1 with e | e | e <;> have := K_lt <;> have := K_pos <;> omega) l1
        have fn : rung now < infR := fin_of l2.1 m2 (by have := EV_fin fl; have := K_lt; omega)
        have s1 : Ieee.double.sub now la = some (less now la) := sub_ge fn fl (.inl l2.2)
        have s2 := times_eq (less_le now la) fr l3
        have s3 := plus_eq (x := lv) (Nat.le_trans h.hlv (Nat.le_of_lt h.hbu)) s2.2
        refine (level_more b r bu lv la now _ _ _ x w hb t1 t2 t3 (off pinf_iff fun ⟨_, e⟩ => m1 ((EV_I_iff h.hr).1 e)) (off pinf_iff fun ⟨_, e⟩ => m2 e) s1 s2.1 s3.1 ?_)
        intro w
        rw [hx]
        exact run_min_pos (Nat.le_of_lt h.hbu) s3.2 w
  exact key _ rfl


theorem not_le_of_gt {la now : Nat} (h : num now ∧ EV la < EV now) : isLe now la = false := off le_iff fun ⟨_, _, c⟩ => by omega

theorem gives_rlevel {r bu lv la : Nat} (h : Inv r bu lv la) (b now : Nat) : RGivesLevel b r bu lv la now (Lev r bu lv la now) := by
  intro w hb
  have key : ∀ x, x = Lev r bu lv la now → Calls Try.prog 15 #[.pointer (some ⟨b, 0, none⟩), .float .f64 now] w fun e w' => e = .returned (.float .f64 x) ∧ ∃ n, w.drewN n = w' := by
    intro x hx
    unfold Lev at hx
    by_cases c0 : EV la = -I ∨ ¬ (num now ∧ EV la < EV now)
    · rw [if_pos (by rcases c0 with c | c; exact .inl c; exact .inr (.inl c))] at hx
      subst hx
      refine (rlevel_early b r bu x la now w hb ?_).mono fun e w' ⟨he, hw⟩ => ⟨he, 0, hw⟩
      rcases c0 with c | c
      · exact .inr (.inl (ninf_iff.2 ⟨h.nla, c⟩))
      · by_cases hn : num now
        · exact .inr (.inr (le_iff.2 ⟨hn, h.nla, by have : ¬ EV la < EV now := fun e => c ⟨hn, e⟩; omega⟩))
        · exact .inl (ne_iff.2 fun e => hn e.1)
    · have l1 : EV la ≠ -I := fun e => c0 (.inl e)
      have l2 : num now ∧ EV la < EV now := Classical.byContradiction fun e => c0 (.inr e)
      have t0 : isNe now now = false := off ne_iff fun e => e ⟨l2.1, l2.1, rfl⟩
      have t1 : isGt (Op.negFloat .f64 la) 9218868437227405311 = false := off ninf_iff fun ⟨_, e⟩ => l1 e
      have t2 : isLe now la = false := not_le_of_gt l2
      by_cases l3 : r = 0
      · rw [if_pos (.inr (.inr l3))] at hx
        subst hx
        subst l3
        exact (rlevel_zero b 0 bu x la now w hb t0 t1 t2 (off pinf_iff fun ⟨_, e⟩ => by rw [EV_0] at e; have := K_lt; have := K_pos; omega) (eq_iff.2 ⟨num_0, num_0, rfl⟩) (off ne_iff fun e => e ⟨num_0, num_0, rfl⟩)).mono fun e w' ⟨he, hw⟩ => ⟨he, 0, hw⟩
      · rw [if_neg (by rintro (e | e | e); exact l1 e; exact e l2; exact l3 e)] at hx
        have t3 : isEq r 0 = false := off eq_iff fun ⟨_, _, e⟩ => l3 ((EV_zero_iff h.hr).1 (by rw [e, EV_0]))
        have t3' : isNe r 0 = true := ne_iff.2 fun ⟨_, _, e⟩ => l3 ((EV_zero_iff h.hr).1 (by rw [e, EV_0]))
        by_cases c2 : r = infR ∨ EV now = I
        · rw [if_pos c2] at hx
          subst hx
          refine (rlevel_burst b r x lv la now w hb t0 t1 t2 ?_ t3').mono fun e w' ⟨he, hw⟩ => ⟨he, 0, hw⟩
          rcases c2 with c | c
          · exact .inl (pinf_iff.2 ⟨num_pos h.hr, (EV_I_iff h.hr).2 c⟩)
          · exact .inr (pinf_iff.2 ⟨l2.1, c⟩)
        · rw [if_neg c2] at hx
          have m1 : r ≠ infR := fun e => c2 (.inl e)
          have m2 : EV now ≠ I := fun e => c2 (.inr e)
          have fr : r < infR := Nat.lt_of_le_of_ne h.hr m1
          have fl : rung la < infR := fin_of h.nla (by rcases EV_range l2.1 with e | e | e <;> have := K_lt <;> have := K_pos <;> omega) l1
          have fn : rung now < infR := fin_of l2.1 m2 (by have := EV_fin fl; have := K_lt; omega)
          have s1 : Ieee.double.sub now la = some (less now la) := sub_ge fn fl (.inl l2.2)
          have s2 := times_eq (less_le now la) fr l3
          have s3 := plus_eq (x := lv) (Nat.le_trans h.hlv (Nat.le_of_lt h.hbu)) s2.2
          refine (rlevel_more b r bu lv la now _ _ _ x w hb t0 t1 t2 (off pinf_iff fun ⟨_, e⟩ => m1 ((EV_I_iff h.hr).1 e)) (off pinf_iff fun ⟨_, e⟩ => m2 e) t3 s1 s2.1 s3.1 ?_)
          rw [hx]
          by_cases g : bu < plus lv (times (less now la) r)
          · rw [if_pos ((gt_pos s3.2 (Nat.le_of_lt h.hbu)).2 g), Nat.min_eq_left (Nat.le_of_lt g)]
          · rw [if_neg (fun e => g ((gt_pos s3.2 (Nat.le_of_lt h.hbu)).1 e)), Nat.min_eq_right (by omega)]
  exact key _ rfl

/-- The last time counts by its number alone. -/
theorem Lev_same {r bu lv la la' : Nat} (e : EV la = EV la') (now : Nat) : Lev r bu lv la now = Lev r bu lv la' now := by
  unfold Lev less
  rw [e]

/-! ### Refusals -/
def Ref (bu now cost : Nat) : Int := if ¬ num now ∨ EV now = -I ∨ ¬ (num cost ∧ 0 ≤ EV cost) then 1 else if EV bu < EV cost then 3 else 0

theorem refused_eq {bu : Nat} (hb : bu < infR) (now cost : Nat) : refusedF bu now cost = Ref bu now cost := by
  unfold refusedF Ref
  have n1 : isNe now now = true ↔ ¬ num now := by
    rw [ne_iff]
    exact ⟨fun h e => h ⟨e, e, rfl⟩, fun h e => h e.1⟩
  have n2 : isGe cost 0 = false ↔ ¬ (num cost ∧ 0 ≤ EV cost) := by
    rw [← Bool.not_eq_true, ge_iff, EV_0]
    exact ⟨fun h e => h ⟨e.1, num_0, e.2⟩, fun h e => h ⟨e.1, e.2.2⟩⟩
  simp only [n1, n2, ninf_iff]
  by_cases h : ¬ num now ∨ EV now = -I ∨ ¬ (num cost ∧ 0 ≤ EV cost)
  · rw [if_pos h]
    rw [if_pos]
    by_cases hn : num now
    · rcases h with h | h | h
      · exact .inl h
      · exact .inr (.inl ⟨hn, h⟩)
      · exact .inr (.inr h)
    · exact .inl hn
  · rw [if_neg h]
    have hn : num now := Classical.byContradiction fun e => h (.inl e)
    have hc : num cost := Classical.byContradiction fun e => h (.inr (.inr fun c => e c.1))
    rw [if_neg]
    · have g : isGt cost bu = true ↔ EV bu < EV cost := by
        rw [gt_iff]
        exact ⟨fun e => e.2.2, fun e => ⟨hc, num_pos (Nat.le_of_lt hb), e⟩⟩
      by_cases c : EV bu < EV cost
      · rw [if_pos c, if_pos (g.2 c)]
      · rw [if_neg c, if_neg (fun e => c (g.1 e))]
    · rintro (e | e | e)
      · exact h (.inl e)
      · exact h (.inr (.inl e.2))
      · exact h (.inr (.inr e))

theorem gives_wrong {bu : Nat} (hbu : bu < infR) (b r lv la now cost : Nat) : GivesWrong b r bu lv la now cost (Ref bu now cost) := by
  intro w hb
  have key : ∀ x, x = Ref bu now cost → Calls Try.prog 26 #[.pointer (some ⟨b, 0, none⟩), .float .f64 now, .float .f64 cost] w fun e w' => e = .returned (.int .i64 x) ∧ w = w' := by
    intro x hx
    unfold Ref at hx
    by_cases h : ¬ num now ∨ EV now = -I ∨ ¬ (num cost ∧ 0 ≤ EV cost)
    · rw [if_pos h] at hx
      subst hx
      refine wrong_arg b now cost w ?_
      by_cases hn : num now
      · by_cases hc : num cost
        · rcases h with h | h | h
          · exact absurd hn h
          · exact .inr (.inr (.inl (ninf_iff.2 ⟨hn, h⟩)))
          · refine .inr (.inr (.inr (lt_iff.2 ⟨hc, num_0, ?_⟩)))
            have : ¬ 0 ≤ EV cost := fun e => h ⟨hc, e⟩
            rw [EV_0]; omega
        · exact .inr (.inl (ne_iff.2 fun e => hc e.1))
      · exact .inl (ne_iff.2 fun e => hn e.1)
    · rw [if_neg h] at hx
      have hn : num now := Classical.byContradiction fun e => h (.inl e)
      have hc : num cost := Classical.byContradiction fun e => h (.inr (.inr fun c => e c.1))
      have h0 : 0 ≤ EV cost := Classical.byContradiction fun e => h (.inr (.inr fun c => e c.2))
      refine wrong_else b r bu lv la now cost w hb (off ne_iff fun e => e ⟨hn, hn, rfl⟩) (off ne_iff fun e => e ⟨hc, hc, rfl⟩) (off ninf_iff fun ⟨_, e⟩ => h (.inr (.inl e))) (off lt_iff fun ⟨_, _, e⟩ => by rw [EV_0] at e; omega) x ?_
      have g : isGt cost bu = true ↔ EV bu < EV cost := by
        rw [gt_iff]
        exact ⟨fun e => e.2.2, fun e => ⟨hc, num_pos (Nat.le_of_lt hbu), e⟩⟩
      rw [hx]
      by_cases c : EV bu < EV cost
      · rw [if_pos c, if_pos (g.2 c)]
      · rw [if_neg c, if_neg (fun e => c (g.1 e))]
  exact key _ rfl

/-- What is not refused. -/
theorem Ref_zero {bu now cost : Nat} (h : Ref bu now cost = 0) : num now ∧ EV now ≠ -I ∧ num cost ∧ 0 ≤ EV cost ∧ EV cost ≤ EV bu := by
  unfold Ref at h
  by_cases c : ¬ num now ∨ EV now = -I ∨ ¬ (num cost ∧ 0 ≤ EV cost)
  · rw [if_pos c] at h; omega
  · rw [if_neg c] at h
    have hn : num now := Classical.byContradiction fun e => c (.inl e)
    have hc : num cost := Classical.byContradiction fun e => c (.inr (.inr fun c => e c.1))
    have h0 : 0 ≤ EV cost := Classical.byContradiction fun e => c (.inr (.inr fun c => e c.2))
    refine ⟨hn, fun e => c (.inr (.inl e)), hc, h0, ?_⟩
    by_cases g : EV bu < EV cost
    · rw [if_pos g] at h; omega
    · omega

end Go.Proofs.Ytbodgbkblocphaa
