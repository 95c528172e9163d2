/- FrameFeed: the law's walk. -/
import Derived.Test.YtjeeiaelicekhaaStep
namespace Go.Proofs.Ytjeeiaelicekhaa
open Go.RowKit

/-- Pieces that came in. -/
def Pcs (w : World) (a : Option Addr) (len : Nat) : Prop :=
  len ≤ maxLen ∧ ∀ i, i < len → ∃ ad u l, a = some ad ∧ ad.block < w.heap.size ∧ w.cell? (ad.add i) = some u ∧ Src w u (cel l)

theorem add_block (ad : Addr) (k : Nat) : (ad.add k).block = ad.block := by unfold Addr.add; split <;> rfl

def FInv (w : World) (m1 m2 k : Nat) (wr : World) : Prop :=
  ∃ L1 b1 L2 b2, Rdr wr w.heap.size m1 L1 b1 ∧ Ref wr (w.heap.size + 1 + 1) m1 L1 b1 ∧ Rdr wr (w.heap.size + 1) m2 L2 b2 ∧ Ref wr (w.heap.size + 1 + 1 + 1) m2 L2 b2 ∧
    L1.length ≤ 600 * k ∧ L2.length ≤ 600 * k ∧ Below w.heap.size w wr ∧ w.heap.size + 4 ≤ wr.heap.size

theorem finv_start (w : World) (m1 m2 : Nat) :
    FInv w m1 m2 0 ((((w.alloc (.cells #[.int .u64 m1, .slice none 0 0, .bool false] 56)).alloc (.cells #[.int .u64 m2, .slice none 0 0, .bool false] 56)).alloc (.cells #[.int .i64 m1, .slice none 0 0, .bool false] 38)).alloc (.cells #[.int .i64 m2, .slice none 0 0, .bool false] 38)) := by
  refine ⟨[], false, [], false, ⟨_, ?_, byt_nil _ none 0 (Nat.zero_le _)⟩, ⟨_, ?_, byt_nil _ none 0 (Nat.zero_le _)⟩, ⟨_, ?_, byt_nil _ none 0 (Nat.zero_le _)⟩, ⟨_, ?_, byt_nil _ none 0 (Nat.zero_le _)⟩, by simp, by simp, ?_, by simp⟩
  · exact (Below.heap_alloc _ _ _ (by simp only [alloc_size]; omega)).trans ((Below.heap_alloc _ _ _ (by simp only [alloc_size]; omega)).trans ((Below.heap_alloc _ _ _ (by simp only [alloc_size]; omega)).trans (heap_alloc_new _ _)))
  · refine (Below.heap_alloc _ _ _ (by simp only [alloc_size]; omega)).trans ?_
    have := heap_alloc_new ((w.alloc (.cells #[.int .u64 m1, .slice none 0 0, .bool false] 56)).alloc (.cells #[.int .u64 m2, .slice none 0 0, .bool false] 56)) (.cells #[.int .i64 m1, .slice none 0 0, .bool false] 38)
    simpa only [alloc_size] using this
  · refine (Below.heap_alloc _ _ _ (by simp only [alloc_size]; omega)).trans ((Below.heap_alloc _ _ _ (by simp only [alloc_size]; omega)).trans ?_)
    have := heap_alloc_new (w.alloc (.cells #[.int .u64 m1, .slice none 0 0, .bool false] 56)) (.cells #[.int .u64 m2, .slice none 0 0, .bool false] 56)
    simpa only [alloc_size] using this
  · have := heap_alloc_new (((w.alloc (.cells #[.int .u64 m1, .slice none 0 0, .bool false] 56)).alloc (.cells #[.int .u64 m2, .slice none 0 0, .bool false] 56)).alloc (.cells #[.int .i64 m1, .slice none 0 0, .bool false] 38)) (.cells #[.int .i64 m2, .slice none 0 0, .bool false] 38)
    simpa only [alloc_size] using this
  · exact ((((Below.refl _ w).alloc (Nat.le_refl _) _).alloc (by simp only [alloc_size]; omega) _).alloc (by simp only [alloc_size]; omega) _).alloc (by simp only [alloc_size]; omega) _

theorem FInv.below {w wr wr' : World} {m1 m2 k : Nat} (h : FInv w m1 m2 k wr) (hb : Below wr.heap.size wr wr') : FInv w m1 m2 k wr' := by
  obtain ⟨L1, b1, L2, b2, h1, h2, h3, h4, h5, h6, h7, h8⟩ := h
  exact ⟨L1, b1, L2, b2, h1.below hb, h2.below hb, h3.below hb, h4.below hb, h5, h6, h7.trans (hb.mono (by omega)), Nat.le_trans h8 hb.size⟩

theorem below_drewN {B : Nat} {a w : World} (h : Below B a w) (n : Nat) : Below B a (w.drewN n) := ⟨h.os, h.tape, h.output, h.size, h.block⟩
theorem FInv.drewN {w wr : World} {m1 m2 k : Nat} (h : FInv w m1 m2 k wr) (n : Nat) : FInv w m1 m2 k (wr.drewN n) := by
  obtain ⟨L1, b1, L2, b2, h1, h2, h3, h4, h5, h6, h7, h8⟩ := h
  exact ⟨L1, b1, L2, b2, h1.drewN n, h2.drewN n, h3.drewN n, h4.drewN n, h5, h6, below_drewN h7 n, h8⟩

set_option maxRecDepth 100000 in
set_option maxHeartbeats 2000000 in
theorem ffeed_walk (n1 n2 : Int) (r1 : -9223372036854775808 ≤ n1) (s1 : n1 < 9223372036854775808) (r2 : -9223372036854775808 ≤ n2) (s2 : n2 < 9223372036854775808) (a : Option Addr) (len cap : Nat) (w : World) (hp : Pcs w a len) :
    Calls Try.prog 3 #[.int .i64 n1, .int .i64 n2, .slice a len cap] w fun e w' => e = .returned (.bool true) ∧ Below w.heap.size w w' := by
  have HP := Lib.hid hp.2
  have hlm := hp.1
  clear hp
  obtain ⟨m1, hm1⟩ : ∃ m, n1.toNat = m := ⟨_, rfl⟩
  obtain ⟨m2, hm2⟩ : ∃ m, n2.toNat = m := ⟨_, rfl⟩
  have b1 : m1 < 9223372036854775808 := by omega
  have b2 : m2 < 9223372036854775808 := by omega
  have N1 : ∀ w : World, Calls Try.prog 8 #[.int .i64 n1] w fun e w' => e = .returned (.pointer (some ⟨w.heap.size, 0, none⟩)) ∧ w' = w.alloc (.cells #[.int .u64 (m1 : Int), .slice none 0 0, .bool false] 56) := fun w => by
    have := new_any w n1 r1 s1
    rwa [hm1] at this
  have N2 : ∀ w : World, Calls Try.prog 8 #[.int .i64 n2] w fun e w' => e = .returned (.pointer (some ⟨w.heap.size, 0, none⟩)) ∧ w' = w.alloc (.cells #[.int .u64 (m2 : Int), .slice none 0 0, .bool false] 56) := fun w => by
    have := new_any w n2 r2 s2
    rwa [hm2] at this
  have N3 : ∀ w : World, Calls Try.prog 9 #[.int .i64 n1] w fun e w' => e = .returned (.pointer (some ⟨w.heap.size, 0, none⟩)) ∧ w' = w.alloc (.cells #[.int .i64 (m1 : Int), .slice none 0 0, .bool false] 38) := fun w => by
    have := rnew_any w n1 r1 s1
    rwa [hm1] at this
  have N4 : ∀ w : World, Calls Try.prog 9 #[.int .i64 n2] w fun e w' => e = .returned (.pointer (some ⟨w.heap.size, 0, none⟩)) ∧ w' = w.alloc (.cells #[.int .i64 (m2 : Int), .slice none 0 0, .bool false] 38) := fun w => by
    have := rnew_any w n2 r2 s2
    rwa [hm2] at this
  clear hm1 hm2
  go_enter Try.func3, Try.ntmps3
  go_wp2_with fail
  refine (N1 w).mono ?_
  rintro e w1 ⟨rfl, rfl⟩
  go_wp2_with fail
  refine (N2 _).mono ?_
  rintro e w1 ⟨rfl, rfl⟩
  go_wp2_with fail
  refine (N3 _).mono ?_
  rintro e w1 ⟨rfl, rfl⟩
  go_wp2_with fail
  refine (N4 _).mono ?_
  rintro e w1 ⟨rfl, rfl⟩
  have h0 := finv_start w m1 m2
  go_wp2_with fail
  refine (wakes_any _).mono ?_
  rintro e w1 ⟨rfl, hb1⟩
  have h0 := h0.below hb1
  clear hb1 N1 N2 N3 N4
  go_wp2_with fail
  go_loopw [11] (fun i wr => ∃ k : Nat, i = .int .i64 k ∧ FInv w m1 m2 k wr ∧ k ≤ 60) (fun i _ => 60 - (intOf i).toNat)
  case atStart => exact ⟨0, rfl, h0, by omega⟩
  case round =>
    clear h0
    obtain ⟨k, rfl, ⟨L1, x1, L2, x2, h1, h2, h3, h4, h5, h6, hbw, hsz⟩, hk⟩ := hrel
    by_cases c1 : k < len
    · by_cases c2 : k < 60
      · obtain ⟨ad, u, l, rfl, hlt, hcell, hsrc⟩ := HP.out k c1
        have g0 := (hbw.cell (p := ad.add k) (by rw [add_block]; exact hlt)).trans hcell
        by_cases c3 : k % 3 = 2
        · go_wp2_with fail
          refine (few_any _ u l (hsrc.below hbw)).mono ?_
          rintro e w1 ⟨v1, rfl, hv1, hB1⟩
          have hbw1 := hbw.trans (hB1.mono hbw.size)
          have hz1 := hB1.size
          go_wp2_with fail
          refine (feed_any w1 _ _ _ (l.take 600) _ v1 (h3.below hB1) hv1.src (by omega) (by rw [List.length_take]; omega)).mono ?_
          rintro e w2 ⟨u2, xs, rfl, hl2, hx2, hp2, hg2⟩
          have hN := (h3.below hB1).not5
          have hs2 := (h4.below hB1).other hg2 hN (by omega)
          have ho2 := (h1.below hB1).other hg2 hN (by omega)
          have hq2 := (h2.below hB1).other hg2 hN (by omega)
          have hbw2 := hbw1.grown hg2 hbw1.size (fun k e => by cases e; omega)
          have g2 := (hbw2.cell (p := ad.add k) (by rw [add_block]; exact hlt)).trans hcell
          have hz2 := hg2.size
          clear hg2 hN g0
          go_wp2_with fail
          refine (few_any _ u l (hsrc.below hbw2)).mono ?_
          rintro e w3 ⟨v3, rfl, hv3, hB3⟩
          have hbw3 := hbw2.trans (hB3.mono hbw2.size)
          have hz3 := hB3.size
          go_wp2_with fail
          refine (rfeed_any w3 _ _ _ (l.take 600) _ v3 (hs2.below hB3) b2 hv3.src (by omega) (by rw [List.length_take]; omega)).mono ?_
          rintro e w4 ⟨u4, ys, rfl, hl4, hx4, hs4, hg4⟩
          have hN4 := (hs2.below hB3).not5
          have hl5 := (hl2.below hB3).other hg4 hN4 (by omega)
          have hp4 := (hp2.below hB3).other hg4 hN4 (by omega)
          have ho4 := (ho2.below hB3).other hg4 hN4 (by omega)
          have hq4 := (hq2.below hB3).other hg4 hN4 (by omega)
          have hbw4 := hbw3.grown hg4 hbw3.size (fun k e => by cases e; omega)
          have hz4 := hg4.size
          clear hg4 hN4 hl2
          have lt : (l.take 600).length ≤ 600 := by rw [List.length_take]; omega
          have t1 := step_many m2 L2 x2 (l.take 600)
          have t2 := t1
          have t3 := step_left m2 L2 x2 (l.take 600)
          rw [← hx2, List.length_map] at t1
          rw [← hx4, List.length_map] at t2
          have HA := Lib.hid (hl5.rd (by omega))
          have HB := Lib.hid (hl4.rd (by omega))
          have HE := Lib.hid (hx2.trans hx4.symm)
          have HN := Lib.hid (show FInv w m1 m2 (k + 1) w4 from ⟨L1, x1, _, _, ho4, hq4, hp4, hs4, by omega, by omega, hbw4, by omega⟩)
          obtain ⟨V, hr4, hV4⟩ := id hs4
          obtain ⟨A4, c4, rfl, _⟩ := id hV4
          obtain ⟨e0, e1, e2, e3, e4, e5⟩ := three hr4
          clear hr4 hV4 hl5 hl4 hx2 hx4 t1 t2
          go_wp2_with fail
          go_quiet (first | (go_at_call 14; exact Calls.quiet_of ((same_true _ _ _ _ _ (HA.out.drewN _) (HB.out.drewN _) HE.out).mono fun e w' ⟨h, m, hm⟩ => ⟨h, m, hm.symm⟩)) | (go_at_call 15; exact Calls.quiet_of_same (held_any _ _ _ _ _ (hp4.drewN _))))
          go_wp2_with fail
          go_roundw
          case rel => exact ⟨k + 1, by go_num, HN.out.drewN _, by omega⟩
          case measure => simp [intOf]; omega
        · go_wp2_with fail
          refine (few_any _ u l (hsrc.below hbw)).mono ?_
          rintro e w1 ⟨v1, rfl, hv1, hB1⟩
          have hbw1 := hbw.trans (hB1.mono hbw.size)
          have hz1 := hB1.size
          go_wp2_with fail
          refine (feed_any w1 _ _ _ (l.take 600) _ v1 (h1.below hB1) hv1.src (by omega) (by rw [List.length_take]; omega)).mono ?_
          rintro e w2 ⟨u2, xs, rfl, hl2, hx2, hp2, hg2⟩
          have hN := (h1.below hB1).not5
          have hs2 := (h2.below hB1).other hg2 hN (by omega)
          have ho2 := (h3.below hB1).other hg2 hN (by omega)
          have hq2 := (h4.below hB1).other hg2 hN (by omega)
          have hbw2 := hbw1.grown hg2 hbw1.size (fun k e => by cases e; omega)
          have g2 := (hbw2.cell (p := ad.add k) (by rw [add_block]; exact hlt)).trans hcell
          have hz2 := hg2.size
          clear hg2 hN g0
          go_wp2_with fail
          refine (few_any _ u l (hsrc.below hbw2)).mono ?_
          rintro e w3 ⟨v3, rfl, hv3, hB3⟩
          have hbw3 := hbw2.trans (hB3.mono hbw2.size)
          have hz3 := hB3.size
          go_wp2_with fail
          refine (rfeed_any w3 _ _ _ (l.take 600) _ v3 (hs2.below hB3) b1 hv3.src (by omega) (by rw [List.length_take]; omega)).mono ?_
          rintro e w4 ⟨u4, ys, rfl, hl4, hx4, hs4, hg4⟩
          have hN4 := (hs2.below hB3).not5
          have hl5 := (hl2.below hB3).other hg4 hN4 (by omega)
          have hp4 := (hp2.below hB3).other hg4 hN4 (by omega)
          have ho4 := (ho2.below hB3).other hg4 hN4 (by omega)
          have hq4 := (hq2.below hB3).other hg4 hN4 (by omega)
          have hbw4 := hbw3.grown hg4 hbw3.size (fun k e => by cases e; omega)
          have hz4 := hg4.size
          clear hg4 hN4 hl2
          have lt : (l.take 600).length ≤ 600 := by rw [List.length_take]; omega
          have t1 := step_many m1 L1 x1 (l.take 600)
          have t2 := t1
          have t3 := step_left m1 L1 x1 (l.take 600)
          rw [← hx2, List.length_map] at t1
          rw [← hx4, List.length_map] at t2
          have HA := Lib.hid (hl5.rd (by omega))
          have HB := Lib.hid (hl4.rd (by omega))
          have HE := Lib.hid (hx2.trans hx4.symm)
          have HN := Lib.hid (show FInv w m1 m2 (k + 1) w4 from ⟨_, _, L2, x2, hp4, hs4, ho4, hq4, by omega, by omega, hbw4, by omega⟩)
          obtain ⟨V, hr4, hV4⟩ := id hs4
          obtain ⟨A4, c4, rfl, _⟩ := id hV4
          obtain ⟨e0, e1, e2, e3, e4, e5⟩ := three hr4
          clear hr4 hV4 hl5 hl4 hx2 hx4 t1 t2
          go_wp2_with fail
          go_quiet (first | (go_at_call 14; exact Calls.quiet_of ((same_true _ _ _ _ _ (HA.out.drewN _) (HB.out.drewN _) HE.out).mono fun e w' ⟨h, m, hm⟩ => ⟨h, m, hm.symm⟩)) | (go_at_call 15; exact Calls.quiet_of_same (held_any _ _ _ _ _ (hp4.drewN _))))
          go_wp2_with fail
          go_roundw
          case rel => exact ⟨k + 1, by go_num, HN.out.drewN _, by omega⟩
          case measure => simp [intOf]; omega
      · go_wp2_with fail
        go_ret
        exact ⟨rfl, hbw⟩
    · go_wp2_with fail
      go_ret
      exact ⟨rfl, hbw⟩

end Go.Proofs.Ytjeeiaelicekhaa
