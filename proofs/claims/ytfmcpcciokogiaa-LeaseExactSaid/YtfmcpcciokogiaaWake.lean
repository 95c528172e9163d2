/- Same; wakes. -/
import Derived.Test.YtfmcpcciokogiaaEnd
namespace Go.Proofs.Ytfmcpcciokogiaa
open Go.RowKit Fl

theorem Src.at {w : World} {u : Value} {l : List Value} (h : Src w u l) {k : Nat} (hk : k < l.length) : ∃ ad c, u = .slice (some ad) l.length c ∧ w.cell? (ad.add k) = some l[k] := by
  obtain ⟨A, c, rfl, _, hA⟩ := h
  obtain ⟨ad, rfl, hc⟩ := hA (by rintro rfl; simp at hk)
  exact ⟨ad, c, rfl, hc k _ (List.getElem?_eq_getElem hk)⟩
theorem Src.drewN {w : World} {u : Value} {l : List Value} (h : Src w u l) (n : Nat) : Src (w.drewN n) u l := h

set_option maxHeartbeats 2000000 in
/-- The same texts. -/
theorem same_any (w : World) (u v : Value) (ks : List ByteArray) (hu : Src w u (tv ks)) (hv : Src w v (tv ks)) (hl : ks.length ≤ 1000000000) :
    Calls Try.prog 17 #[u, v] w fun e w' => e = .returned (.bool true) ∧ ∃ n, w' = w.drewN n := by
  obtain ⟨A, c, e1, _⟩ := id hu
  obtain ⟨A', c', e2, _⟩ := id hv
  rw [tv_length] at e1 e2
  subst e1 e2
  have HU := Lib.hid hu
  have HV := Lib.hid hv
  clear hu hv
  go_enter Try.func17, Try.ntmps17
  go_wp2_with fail
  go_loopw [5] (fun i wr => ∃ k n : Nat, k ≤ ks.length ∧ i = .int .i64 k ∧ wr = w.drewN n) (fun i _ => ks.length - (intOf i).toNat)
  case atStart => exact ⟨0, 0, Nat.zero_le _, rfl, rfl⟩
  case round =>
    obtain ⟨k, n, hk, rfl, rfl⟩ := hrel
    by_cases c1 : k < ks.length
    · obtain ⟨ad, c2, e, g1⟩ := HU.out.at (k := k) (by rw [tv_length]; exact c1)
      rw [tv_length] at e
      cases e
      obtain ⟨ad', c2', e, g2⟩ := HV.out.at (k := k) (by rw [tv_length]; exact c1)
      rw [tv_length] at e
      cases e
      have g3 : (tv ks)[k]'(by rw [tv_length]; exact c1) = .string ks[k] := by simp [tv]
      rw [g3] at g1 g2
      generalize ks[k] = s at *
      have c1I : (k : Int) < (ks.length : Int) := by omega
      clear g3
      go_wp2_with fail
      go_quiet (fail)
      go_wp2_with fail
      exact ⟨⟨k + 1, _, by omega, by go_num, rfl⟩, by simp [intOf]; omega⟩
    · go_wp2_with fail
      go_ret
      exact ⟨rfl, n, rfl⟩

def f2 : Nat := 4611686018427387904
def f1 : Nat := 4607182418800017408
theorem ev12 : EV f1 < EV f2 := by
  have h1 : f1 < infR := by rw [infR_val]; decide
  have h2 : f2 < infR := by rw [infR_val]; decide
  rw [EV_pos (Nat.le_of_lt h1), EV_pos (Nat.le_of_lt h2)]
  have := (V_lt h1 h2).2 (by decide)
  omega
theorem num1 : num f1 := num_pos (by rw [infR_val]; decide)
theorem num2 : num f2 := num_pos (by rw [infR_val]; decide)

def ka : ByteArray := ⟨#[97]⟩
def kb : ByteArray := ⟨#[98]⟩
def kc : ByteArray := ⟨#[99]⟩

theorem wake_due (x y z : Nat) : dueL 3 [⟨x, ka, f2, 1⟩, ⟨y, kb, f1, 2⟩, ⟨z, kc, f2, 3⟩] f2 = ([kb, ka, kc], []) := by
  have n1 : ¬ EV f2 < EV f1 := by have := ev12; omega
  have n2 : ¬ EV f2 < EV f2 := by omega
  have l1 : isLe f1 f2 = true := le_iff.2 ⟨num1, num2, Int.le_of_lt ev12⟩
  have l2 : isLe f2 f2 = true := le_iff.2 ⟨num2, num2, Int.le_refl _⟩
  have w1 : without [⟨x, ka, f2, 1⟩, ⟨y, kb, f1, 2⟩, ⟨z, kc, f2, 3⟩] kb = [⟨x, ka, f2, 1⟩, ⟨z, kc, f2, 3⟩] := rfl
  have w2 : without [⟨x, ka, f2, 1⟩, ⟨z, kc, f2, 3⟩] ka = [⟨z, kc, f2, 3⟩] := rfl
  have w3 : without [⟨z, kc, f2, 3⟩] kc = [] := rfl
  simp only [dueL, minOf, if_neg n1, if_pos ev12, if_neg n2, l1, l2, if_true, w1, w2, w3]

theorem turned_below {B : Nat} {w w' : World} (hB : B ≤ w.heap.size) (h : Turned (fun k => B ≤ k) w w') : Below B w w' :=
  ⟨h.1, h.2.1, h.2.2.1, h.2.2.2.1, fun k hk => h.2.2.2.2 k (by omega) (by omega)⟩

theorem ks_small : ka.size ≤ maxLen ∧ kb.size ≤ maxLen ∧ kc.size ≤ maxLen := ⟨by decide, by decide, by decide⟩
theorem ne_12 : isNe f1 f1 = false ∧ isNe f2 f2 = false := ⟨off ne_iff (fun q => q ⟨num1, num1, rfl⟩), off ne_iff (fun q => q ⟨num2, num2, rfl⟩)⟩

set_option maxHeartbeats 2000000 in
theorem wakes_any (w : World) : Calls Try.prog 9 #[] w fun e w' => e = .returned (.bool true) ∧ Below w.heap.size w w' := by
  go_enter Try.func9, Try.ntmps9
  go_wp2_with fail
  refine (new_any w).mono ?_
  rintro e w1 ⟨rfl, h1, hB1, _⟩
  obtain ⟨h, hh⟩ : ∃ h, h = w.heap.size + 1 := ⟨_, rfl⟩
  rw [← hh] at h1 ⊢
  clear hh
  have t1 : Turned (fun k => w.heap.size ≤ k) w w1 := below_turned hB1
  obtain ⟨G1, h1, g1⟩ : ∃ G1, HS w1 G1 h [] 0 ∧ ∀ k, G1 k → w.heap.size ≤ k := ⟨_, h1, fun k hk => hk.1⟩
  clear hB1
  go_wp2_with fail
  refine (set_any w1 G1 h 0 [] ka f2 h1 ne_12.2 (by omega) ks_small.1).mono ?_
  rintro e w2 ⟨rfl, b1, h2, t2⟩
  have t2 := t1.trans (t2.mono g1)
  obtain ⟨G2, h2, g2⟩ : ∃ G2, HS w2 G2 h [⟨b1, ka, f2, 1⟩] 1 ∧ ∀ k, G2 k → w.heap.size ≤ k := ⟨_, h2, fun k hk => by
    rcases hk with hk | hk
    · exact g1 k hk
    · have := t1.2.2.2.1
      omega⟩
  clear h1 g1 t1
  go_wp2_with fail
  refine (set_any w2 G2 h 1 _ kb f1 h2 ne_12.1 (by omega) ks_small.2.1).mono ?_
  rintro e w3 ⟨rfl, b2, h3, t3⟩
  have t3 := t2.trans (t3.mono g2)
  obtain ⟨G3, h3, g3⟩ : ∃ G3, HS w3 G3 h [⟨b1, ka, f2, 1⟩, ⟨b2, kb, f1, 2⟩] 2 ∧ ∀ k, G3 k → w.heap.size ≤ k := ⟨_, h3, fun k hk => by
    rcases hk with hk | hk
    · exact g2 k hk
    · have := t2.2.2.2.1
      omega⟩
  clear h2 g2 t2
  go_wp2_with fail
  refine (set_any w3 G3 h 2 _ kc f2 h3 ne_12.2 (by omega) ks_small.2.2).mono ?_
  rintro e w4 ⟨rfl, b3, h4, t4⟩
  have t4 := t3.trans (t4.mono g3)
  obtain ⟨G4, h4, g4⟩ : ∃ G4, HS w4 G4 h [⟨b1, ka, f2, 1⟩, ⟨b2, kb, f1, 2⟩, ⟨b3, kc, f2, 3⟩] 3 ∧ ∀ k, G4 k → w.heap.size ≤ k := ⟨_, h4, fun k hk => by
    rcases hk with hk | hk
    · exact g3 k hk
    · have := t3.2.2.2.1
      omega⟩
  clear h3 g3 t3
  go_wp2_with fail
  refine (due_any w4 G4 h 3 _ f2 h4 (by omega)).mono ?_
  rintro e w5 ⟨v, rfl, hrow, h5, t5⟩
  have hd := wake_due b1 b2 b3
  rw [show ([⟨b1, ka, f2, 1⟩, ⟨b2, kb, f1, 2⟩, ⟨b3, kc, f2, 3⟩] : List It).length = 3 from rfl, hd] at hrow h5
  have t5 := t4.trans (t5.mono g4)
  have s1 : Src (w5.alloc (.cells #[.string kb, .string ka, .string kc] 9)) v (tv [kb, ka, kc]) := (Row.cells hrow fun g cur _ hg => (Below.heap_alloc _ _ _ (Array.getElem?_eq_some_iff.1 hg).1).trans hg).src
  have s2 : Src (w5.alloc (.cells #[.string kb, .string ka, .string kc] 9)) (.slice (some ⟨w5.heap.size, 0, none⟩) 3 3) (tv [kb, ka, kc]) := src_cells w5.heap.size 9 [.string kb, .string ka, .string kc] 3 (Nat.le_refl _) (heap_alloc_new _ _)
  have h6 := h5.below (alloc_below w5 (.cells #[.string kb, .string ka, .string kc] 9))
  have t6 : Turned (fun k => w.heap.size ≤ k) w (w5.alloc (.cells #[.string kb, .string ka, .string kc] 9)) := t5.trans (Turned.alloc _ _)
  clear hd h4 t4 h5 t5
  go_wp2_with fail
  refine (same_any _ v _ [kb, ka, kc] s1 s2 (by decide)).mono ?_
  rintro e w7 ⟨rfl, n, rfl⟩
  have h7 := h6.drewN n
  have hend := turned_below (Nat.le_refl _) (t6.drewN n)
  clear s1 s2 h6 t6
  go_wp2_with fail
  refine (count_any _ _ _ _ _ h7).mono ?_
  rintro e w8 ⟨rfl, rfl⟩
  go_wp2_with fail
  go_ret
  exact ⟨rfl, hend⟩

end Go.Proofs.Ytfmcpcciokogiaa
