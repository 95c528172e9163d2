/- One call of both: Due, Next. -/
import Derived.Test.YtfmcpcciokogiaaPlayA
import Derived.BigQuiet
namespace Go.Proofs.Ytfmcpcciokogiaa
open Go.RowKit Fl

theorem Grew.drewN {w w' : World} {G : Nat → Prop} {h r T : Nat} (g : Grew w G h r T w') (n : Nat) : Grew w G h r T (w'.drewN n) := by
  obtain ⟨T', h1, h2, h3⟩ := g
  exact ⟨T', h1, h2.drewN n, h3.drewN n⟩

set_option maxRecDepth 100000 in
set_option maxHeartbeats 4000000 in
theorem plays_due (w : World) (G : Nat → Prop) (h r T : Nat) (on : Int) (key : ByteArray) (fl : Nat) (p : Pair w G h r T) (hT : T ≤ 100000) (hks : key.size ≤ maxLen) :
    Calls Try.prog 24 #[.pointer (some ⟨h, 0, none⟩), .pointer (some ⟨r, 0, none⟩), .agg #[.int .i64 on, .int .i64 4, .string key, .int .u64 fl]] w fun e w' => e = .returned (.bool true) ∧ Grew w G h r T w' := by
  have hcs := cutT_small hks
  have HT := Lib.hid (text_any key)
  generalize cutT key = ks at *
  go_enter Try.func24, Try.ntmps24
  go_wp2_with fail
  refine (HT.out _).mono ?_
  rintro e w4 ⟨rfl, rfl⟩
  clear HT
  go_wp2_with fail
  have hb := alloc_below w (.cells #[.int .i64 on, .int .i64 4, .string key, .int .u64 fl] 31)
  generalize hw0 : w.alloc (.cells #[.int .i64 on, .int .i64 4, .string key, .int .u64 fl] 31) = w0 at hb ⊢
  clear hw0
  have PP := Lib.hid (p.same hb)
  obtain ⟨Gh, Gr, L, p1, p2, p3, p4, p5, p6⟩ := p
  have p1 := p1.below hb
  have p2 := p2.below hb
  have hlt := p1.parts.2.2
  have nA := p1.parts.2.1
  have HP2 := Lib.hid p2
  have HP := Lib.hid (show (∀ k, Gh k → ¬ Gr k) ∧ (∀ k, Gh k → G k) ∧ (∀ k, Gr k → G k) ∧ ∀ k, G k → k < w.heap.size from ⟨p3, p4, p5, p6⟩)
  have HO := Lib.hid (oneP_of nA)
  have HB := Lib.hid hb
  clear p2 p3 p4 p5 p6 nA hb
  have HNP := Lib.hid (numP_of p1.parts.2.1)
  refine (due_any w0 Gh h T L fl p1 (by omega)).mono ?_
  rintro e w5 ⟨v, rfl, hrow5, h5, t5⟩
  obtain ⟨J, L4, j1, j2, j3, j4⟩ := due_own L fl
  rw [j1] at hrow5
  rw [j2] at h5
  have H5 := Lib.hid h5
  have T5 := Lib.hid t5
  have HROW := Lib.hid hrow5
  have r5 : RP w5 Gr r (pr L) := HP2.out.keep t5 fun k q1 q2 => HP.out.1 k q2 q1
  have hr5 := rdue_any w5 Gr r (pr L) fl r5 (by rw [pr_length]; omega) HO.out HNP.out
  have hcount := due_count (pr L) fl HO.out
  rw [j3, j4, pr_length, pr_length] at hcount
  rw [j3, j4] at hr5
  have HS5 := Lib.hid hr5
  have hJ : J.length ≤ 1000000000 := by omega
  have hGr : Hid (∀ k, Gr k → k < w0.heap.size) := HP2.out.size
  clear p1 h5 t5 r5 hr5 hrow5 j1 j2 j3 j4 hcount
  go_wp2_with fail
  refine HS5.out.mono ?_
  rintro e w6 ⟨v6, rfl, hrow6, r6, t6⟩
  have hv6 : Row w0.heap.size w6 9 v (tv J) := HROW.out.turned t6 hGr.out
  have s1 := hv6.src
  have s2 := hrow6.src
  have HN := Lib.hid (show Grew w G h r T w6 from grew_two HB.out HP.out.2.2.2 HP.out.2.1 HP.out.2.2.1 HP.out.1 H5.out T5.out (fun k q => .inl q) r6 t6 (fun k q => by
    rcases q with q | q
    · exact .inl q
    · exact .inr q.1) (Nat.le_succ _))
  have HSM := Lib.hid (same_any w6 v v6 J s1 s2 hJ)
  clear r6 t6 s1 s2 hv6 hrow6
  go_wp2_with fail
  refine HSM.out.mono ?_
  rintro e w7 ⟨rfl, n, rfl⟩
  have HN7 := Lib.hid (HN.out.drewN n)
  clear HN
  go_wp2_with fail
  go_ret
  exact ⟨rfl, HN7.out⟩

set_option maxRecDepth 100000 in
set_option maxHeartbeats 2000000 in
theorem plays_next (w : World) (G : Nat → Prop) (h r T : Nat) (on dO : Int) (key : ByteArray) (fl : Nat) (p : Pair w G h r T) (hT : T ≤ 100000) (hks : key.size ≤ maxLen) (n1 : dO ≠ 1) (n2 : dO ≠ 2) (n3 : dO ≠ 3) (n4 : dO ≠ 4) :
    Calls Try.prog 24 #[.pointer (some ⟨h, 0, none⟩), .pointer (some ⟨r, 0, none⟩), .agg #[.int .i64 on, .int .i64 dO, .string key, .int .u64 fl]] w fun e w' => e = .returned (.bool true) ∧ Grew w G h r T w' := by
  have hcs := cutT_small hks
  have HT := Lib.hid (text_any key)
  generalize cutT key = ks at *
  go_enter Try.func24, Try.ntmps24
  go_wp2_with fail
  refine (HT.out _).mono ?_
  rintro e w4 ⟨rfl, rfl⟩
  clear HT
  go_wp2_with fail
  have hb := alloc_below w (.cells #[.int .i64 on, .int .i64 dO, .string key, .int .u64 fl] 31)
  generalize hw0 : w.alloc (.cells #[.int .i64 on, .int .i64 dO, .string key, .int .u64 fl] 31) = w0 at hb ⊢
  clear hw0
  have PP := Lib.hid (p.same hb)
  obtain ⟨Gh, Gr, L, p1, p2, p3, p4, p5, p6⟩ := p
  have p1 := p1.below hb
  have p2 := p2.below hb
  have hlt := p1.parts.2.2
  have nA := p1.parts.2.1
  have HP2 := Lib.hid p2
  have HP := Lib.hid (show (∀ k, Gh k → ¬ Gr k) ∧ (∀ k, Gh k → G k) ∧ (∀ k, Gr k → G k) ∧ ∀ k, G k → k < w.heap.size from ⟨p3, p4, p5, p6⟩)
  have HO := Lib.hid (oneP_of nA)
  have HB := Lib.hid hb
  clear p2 p3 p4 p5 p6 nA hb
  have HNP := numP_of p1.parts.2.1
  have HA := next_any w0 Gh h T L p1
  have HR := rnext_any w0 Gr r (pr L) HP2.out (by rw [pr_length]; omega) HNP
  have HC := Lib.hid (fun n => count_any (w0.drewN n) Gh h T L (p1.drewN n))
  obtain ⟨A, c, A', c', q0, q1, q2⟩ := HP2.out.open
  obtain ⟨z0, _⟩ := two_cells q0
  rw [pr_length] at z0
  have hm := minP_pr L
  unfold nextV at HR
  rw [hm] at HR
  clear q0 q1 q2 hm p1
  cases hL : minOf L with
  | none =>
    rw [hL] at HA HR
    have HA := Lib.hid HA
    have HR := Lib.hid HR
    clear hL
    refine HA.out.mono ?_
    rintro e w5 ⟨rfl, rfl⟩
    go_wp2_with fail
    refine HR.out.mono ?_
    rintro e w5 ⟨rfl, n, rfl⟩
    have hEq : isEq 0 0 = true := eq_iff.2 ⟨num_0, num_0, rfl⟩
    go_wp2_with fail
    go_quiet (first | (go_at_call 13; exact (HC.out _).mono fun _ _ ⟨h, e⟩ => ⟨h, _, e.symm⟩))
    go_wp2_with fail
    go_ret
    refine ⟨rfl, ?_⟩
    exact PP.out.drewN (n + nq)
  | some x =>
    rw [hL] at HA HR
    have HA := Lib.hid HA
    have HR := Lib.hid HR
    have hx := HNP _ (List.mem_map.2 ⟨x, minOf_mem hL, rfl⟩)
    have hEq : isEq x.fin x.fin = true := eq_iff.2 ⟨hx, hx, rfl⟩
    clear hL hx HNP
    refine HA.out.mono ?_
    rintro e w5 ⟨rfl, rfl⟩
    go_wp2_with fail
    refine HR.out.mono ?_
    rintro e w5 ⟨rfl, n, rfl⟩
    go_wp2_with fail
    go_quiet (first | (go_at_call 13; exact (HC.out _).mono fun _ _ ⟨h, e⟩ => ⟨h, _, e.symm⟩))
    go_wp2_with fail
    go_ret
    refine ⟨rfl, ?_⟩
    exact PP.out.drewN (n + nq)

/-- Any call. -/
theorem plays_any (w : World) (G : Nat → Prop) (h r T : Nat) (on dO : Int) (key : ByteArray) (fl : Nat) (p : Pair w G h r T) (hT : T ≤ 100000) (hks : key.size ≤ maxLen) :
    Calls Try.prog 24 #[.pointer (some ⟨h, 0, none⟩), .pointer (some ⟨r, 0, none⟩), .agg #[.int .i64 on, .int .i64 dO, .string key, .int .u64 fl]] w fun e w' => e = .returned (.bool true) ∧ Grew w G h r T w' := by
  by_cases c1 : dO = 1
  · subst c1
    exact plays_set w G h r T on key fl p hT hks
  · by_cases c2 : dO = 2
    · subst c2
      exact plays_drop w G h r T on key fl p hT hks
    · by_cases c3 : dO = 3
      · subst c3
        exact plays_end w G h r T on key fl p hT hks
      · by_cases c4 : dO = 4
        · subst c4
          exact plays_due w G h r T on key fl p hT hks
        · exact plays_next w G h r T on dO key fl p hT hks c1 c2 c3 c4

end Go.Proofs.Ytfmcpcciokogiaa
