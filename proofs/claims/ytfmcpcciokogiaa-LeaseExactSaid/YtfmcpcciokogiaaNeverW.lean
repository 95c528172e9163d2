/- LeaseNever: the law's walk. -/
import Derived.Test.YtfmcpcciokogiaaOpen
namespace Go.Proofs.Ytfmcpcciokogiaa
open Go.RowKit Fl

/-- Unsigned numbers that came in. -/
def Us (w : World) (a : Option Addr) (len : Nat) : Prop :=
  len ≤ maxLen ∧ ∀ i, i < len → ∃ (ad : Addr) (c : Nat), a = some ad ∧ ad.block < w.heap.size ∧ w.cell? (ad.add i) = some (.int .u64 (c : Int)) ∧ c < 18446744073709551616

theorem add_block (ad : Addr) (k : Nat) : (ad.add k).block = ad.block := by unfold Addr.add; split <;> rfl

def kn : ByteArray := ⟨#[110, 101, 118, 101, 114]⟩
def ko : ByteArray := ⟨#[111, 116, 104, 101, 114]⟩
def fI : Nat := 9218868437227405312
theorem fI_num : num fI := num_pos (by rw [infR_val]; decide)
theorem fI_EV : EV fI = I := I_eq
theorem fI_ne : isNe fI fI = false := off ne_iff (fun q => q ⟨fI_num, fI_num, rfl⟩)
theorem kn_small : kn.size ≤ maxLen ∧ ko.size ≤ maxLen := ⟨by decide, by decide⟩

theorem below_inf {f : Nat} (h1 : isNe f f = false) (h2 : isGt f 9218868437227405311 = false) : num f ∧ EV f < I := by
  have hn := num_of h1
  refine ⟨hn, ?_⟩
  have h3 : EV f ≠ I := fun e => by
    have := pinf_iff.2 ⟨hn, e⟩
    rw [h2] at this
    cases this
  have h4 := K_lt
  have h5 := K_pos
  rcases EV_range hn with h | h | h <;> omega

theorem never_due (b c t u f : Nat) (h1 : isNe f f = false) (h2 : isGt f 9218868437227405311 = false) : dueL 2 [⟨b, kn, fI, t⟩, ⟨c, ko, f, u⟩] f = ([ko], [⟨b, kn, fI, t⟩]) := by
  obtain ⟨hn, hlt⟩ := below_inf h1 h2
  have n1 : EV f < EV fI := by rw [fI_EV]; exact hlt
  have l1 : isLe f f = true := le_iff.2 ⟨hn, hn, Int.le_refl _⟩
  have l2 : isLe fI f = false := off le_iff fun q => by have := q.2.2; omega
  have w1 : without [⟨b, kn, fI, t⟩, ⟨c, ko, f, u⟩] ko = [⟨b, kn, fI, t⟩] := rfl
  simp only [dueL, minOf, if_pos n1, l1, if_true, w1, l2, Bool.false_eq_true, if_false]
theorem last_due (b t f : Nat) (h1 : isNe f f = false) : dueL 1 [⟨b, kn, f, t⟩] f = ([kn], []) := by
  have hn := num_of h1
  have l1 : isLe f f = true := le_iff.2 ⟨hn, hn, Int.le_refl _⟩
  have w1 : without [⟨b, kn, f, t⟩] kn = [] := rfl
  simp only [dueL, minOf, l1, if_true, w1]

def NInv (w : World) (h k : Nat) (wr : World) : Prop :=
  ∃ G b t T, HS wr G h [⟨b, kn, fI, t⟩] T ∧ T ≤ 1 + k ∧ (∀ k, G k → w.heap.size ≤ k) ∧ Turned (fun k => w.heap.size ≤ k) w wr

set_option maxRecDepth 100000 in
set_option maxHeartbeats 4000000 in
theorem never_walk (a : Option Addr) (len cap : Nat) (f : Nat) (w : World) (hp : Us w a len) :
    Calls Try.prog 5 #[.slice a len cap, .int .u64 (f : Int)] w fun e w' => e = .returned (.bool true) ∧ Below w.heap.size w w' := by
  have HP := Lib.hid hp.2
  have hlm := hp.1
  clear hp
  go_enter Try.func5, Try.ntmps5
  go_wp2_with fail
  refine (new_any w).mono ?_
  rintro e w1 ⟨rfl, h1, hB1, _⟩
  obtain ⟨h, hh⟩ : ∃ h, h = w.heap.size + 1 := ⟨_, rfl⟩
  rw [← hh] at h1 ⊢
  clear hh
  have t1 : Turned (fun k => w.heap.size ≤ k) w w1 := below_turned hB1
  obtain ⟨G1, h1, g1⟩ : ∃ G1, HS w1 G1 h [] 0 ∧ ∀ k, G1 k → w.heap.size ≤ k := ⟨_, h1, fun k hk => hk.1⟩
  clear hB1
  go_wp2_with fail
  refine (inf_pos w1).mono ?_
  rintro e w' ⟨rfl, rfl⟩
  go_wp2_with fail
  refine (set_any w1 G1 h 0 [] kn fI h1 fI_ne (by omega) kn_small.1).mono ?_
  rintro e w2 ⟨rfl, b1, h2, t2⟩
  have t2 := t1.trans (t2.mono g1)
  obtain ⟨G2, h2, g2⟩ : ∃ G2, HS w2 G2 h [⟨b1, kn, fI, 1⟩] 1 ∧ ∀ k, G2 k → w.heap.size ≤ k := ⟨_, h2, fun k hk => by
    rcases hk with hk | hk
    · exact g1 k hk
    · have := t1.2.2.2.1
      omega⟩
  clear h1 g1 t1
  go_wp2_with fail
  refine (wakes_any _).mono ?_
  rintro e w3 ⟨rfl, hB3⟩
  have h0 : NInv w h 0 w3 := ⟨G2, b1, 1, 1, h2.below hB3, by omega, g2, t2.trans ((below_turned hB3).mono fun k hk => by have := t2.2.2.2.1; omega)⟩
  clear h2 g2 t2 hB3
  go_wp2_with fail
  go_loopw [6] (fun i wr => ∃ k : Nat, i = .int .i64 k ∧ k ≤ 60 ∧ NInv w h k wr) (fun i _ => 60 - (intOf i).toNat)
  case atStart => exact ⟨0, rfl, by omega, h0⟩
  case round =>
    clear h0
    obtain ⟨k, rfl, hk, ⟨G, b, t, T, hH, hT, hG, hTu⟩⟩ := hrel
    by_cases c1 : k < len ∧ k < 60
    · obtain ⟨c1, c2⟩ := c1
      obtain ⟨ad, x, rfl, hlt, hcell, hx⟩ := HP.out k c1
      have g0 : wr.cell? (ad.add k) = some (.int .u64 (x : Int)) := ((turned_below (Nat.le_refl _) hTu).cell (p := ad.add k) (by rw [add_block]; exact hlt)).trans hcell
      have HN := Lib.hid (show NInv w h (k + 1) wr from ⟨G, b, t, T, hH, by omega, hG, hTu⟩)
      cases e1 : isNe x x with
      | true =>
        clear hH hTu hG hcell
        go_wp2_with fail
        exact ⟨⟨k + 1, by go_num, by omega, HN.out⟩, by simp [intOf]; omega⟩
      | false =>
        have HI := Lib.hid (isInf_pos x)
        cases e2 : isGt x 9218868437227405311 with
        | true =>
          clear hH hTu hG hcell
          go_wp2_with fail
          refine (HI.out wr).mono ?_
          rintro e w' ⟨rfl, rfl⟩
          go_wp2_with fail
          exact ⟨⟨k + 1, by go_num, by omega, HN.out⟩, by simp [intOf]; omega⟩
        | false =>
          clear HN hcell
          go_wp2_with fail
          refine (HI.out wr).mono ?_
          rintro e w' ⟨rfl, rfl⟩
          go_wp2_with fail
          refine (set_any wr G h T _ ko x hH e1 (by omega) kn_small.2).mono ?_
          rintro e w4 ⟨rfl, b4, h4, t4⟩
          have t4 := hTu.trans (t4.mono hG)
          obtain ⟨G4, h4, g4⟩ : ∃ G4, HS w4 G4 h [⟨b, kn, fI, t⟩, ⟨b4, ko, x, T + 1⟩] (T + 1) ∧ ∀ k, G4 k → w.heap.size ≤ k := ⟨_, h4, fun k hk => by
            rcases hk with hk | hk
            · exact hG k hk
            · have := hTu.2.2.2.1
              omega⟩
          clear hH hG hTu
          go_wp2_with fail
          refine (due_any w4 G4 h (T + 1) _ x h4 (by omega)).mono ?_
          rintro e w5 ⟨v, rfl, hrow, h5, t5⟩
          have hd := never_due b b4 t (T + 1) x e1 e2
          rw [show ([⟨b, kn, fI, t⟩, ⟨b4, ko, x, T + 1⟩] : List It).length = 2 from rfl, hd] at hrow h5
          obtain ⟨A5, c5, ev⟩ := hrow.slice
          have ev : v = .slice A5 1 c5 := ev
          subst ev
          have t5 := t4.trans (t5.mono g4)
          have HN := Lib.hid (show NInv w h (k + 1) w5 from ⟨G4, b, t, T + 1, h5, by omega, g4, t5⟩)
          clear hrow h4 t4 t5 hd
          go_wp2_with fail
          refine (count_any _ _ _ _ _ h5).mono ?_
          rintro e w6 ⟨rfl, rfl⟩
          clear h5
          go_wp2_with fail
          exact ⟨⟨k + 1, by go_num, by omega, HN.out⟩, by simp [intOf]; omega⟩
    · cases e1 : isNe f f with
      | true =>
        have HS1 := Lib.hid (set_nan wr h kn f e1)
        go_wp2_with fail
        all_goals
          refine HS1.out.mono ?_
          rintro e w' ⟨rfl, rfl⟩
          go_wp2_with fail
          refine (count_any _ _ _ _ _ hH).mono ?_
          rintro e w6 ⟨rfl, rfl⟩
          have hend := turned_below (Nat.le_refl _) hTu
          clear hH
          go_wp2_with fail
          go_ret
          exact ⟨rfl, hend⟩
      | false =>
        have heq : isEq f f = true := eq_iff.2 ⟨num_of e1, num_of e1, rfl⟩
        go_wp2_with fail
        all_goals
          refine (set_any wr G h T _ kn f hH e1 (by omega) kn_small.1).mono ?_
          rintro e w4 ⟨rfl, b4, h4, t4⟩
          have t4 := hTu.trans (t4.mono hG)
          obtain ⟨G4, h4, g4⟩ : ∃ G4, HS w4 G4 h [⟨b4, kn, f, T + 1⟩] (T + 1) ∧ ∀ k, G4 k → w.heap.size ≤ k := ⟨_, h4, fun k hk => by
            rcases hk with hk | hk
            · exact hG k hk
            · have := hTu.2.2.2.1
              omega⟩
          clear hH hG hTu
          go_wp2_with fail
          refine (end_any w4 G4 h (T + 1) _ kn h4 kn_small.1).mono ?_
          rintro e w' ⟨he, rfl⟩
          have he : e = .returned (.tuple #[.float .f64 f, .bool true]) := he
          subst he
          go_wp2_with fail
          refine (due_any w4 G4 h (T + 1) _ f h4 (by omega)).mono ?_
          rintro e w5 ⟨v, rfl, hrow, h5, t5⟩
          have hd := last_due b4 (T + 1) f e1
          rw [show ([⟨b4, kn, f, T + 1⟩] : List It).length = 1 from rfl, hd] at hrow h5
          obtain ⟨A5, c5, ev⟩ := hrow.slice
          have ev : v = .slice A5 1 c5 := ev
          subst ev
          have t5 := t4.trans (t5.mono g4)
          have hend := turned_below (Nat.le_refl _) t5
          clear hrow h4 t4 t5 hd
          go_wp2_with fail
          refine (count_any _ _ _ _ _ h5).mono ?_
          rintro e w6 ⟨rfl, rfl⟩
          clear h5
          go_wp2_with fail
          go_ret
          exact ⟨rfl, hend⟩

end Go.Proofs.Ytfmcpcciokogiaa
