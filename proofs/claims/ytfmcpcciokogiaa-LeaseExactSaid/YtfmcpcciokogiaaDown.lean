/- down of package heap. -/
import Derived.Test.YtfmcpcciokogiaaUp
namespace Go.Proofs.Ytfmcpcciokogiaa
open Go.RowKit Fl

/-- What down says, and what is then true. -/
def Said (xs xs' : List It) (i0 n : Nat) (b : Bool) : Prop := (b = true ∧ Ord (rkf xs') n) ∨ (b = false ∧ xs' = xs ∧ UpInv (rkf xs) i0 n)

theorem down_out {xs xs' : List It} {i0 k n : Nat} (h : (k = i0 ∧ xs' = xs ∧ FixInv (rkf xs) i0 n) ∨ (i0 < k ∧ DownInv (rkf xs') k n)) (hm : ∀ k', 0 < k' → k' < n → par k' = k → ¬ les (rkf xs' k') (rkf xs' k)) :
    Said xs xs' i0 n (decide (i0 < k)) := by
  rcases h with ⟨rfl, rfl, h⟩ | ⟨hlt, h⟩
  · exact .inr ⟨by simp, rfl, fix_end h hm⟩
  · exact .inl ⟨decide_eq_true hlt, down_end h hm⟩
theorem down_fix' {xs xs' : List It} {i0 k n : Nat} (h : (k = i0 ∧ xs' = xs ∧ FixInv (rkf xs) i0 n) ∨ (i0 < k ∧ DownInv (rkf xs') k n)) : FixInv (rkf xs') k n := by
  rcases h with ⟨rfl, rfl, h⟩ | ⟨_, h⟩
  · exact h
  · exact h.fix

set_option maxHeartbeats 8000000 in
theorem down_any (w : World) (F : Nat → Prop) (h : Nat) (xs : List It) (c1 c2 : Value) (hR : RowP w F h xs c1 c2) (i0 n : Nat) (hi0 : i0 ≤ n) (hn : n ≤ xs.length) (hl : xs.length ≤ 1000000000) (hU : FixInv (rkf xs) i0 n) :
    Calls Try.prog 40 #[ifc h, .int .i64 (i0 : Int), .int .i64 (n : Int)] w fun e w' => ∃ xs' b, e = .returned (.bool b) ∧ After w F h xs c1 c2 n xs' w' ∧ Said xs xs' i0 n b := by
  unfold ifc
  have h0 : After w F h xs c1 c2 n xs w := ⟨List.Perm.refl _, fun _ _ => rfl, hR, Turned.refl F w, rfl⟩
  clear hR
  go_enter Try.func40, Try.ntmps40
  go_wp2_with fail
  go_loopw [7] (fun i wr => ∃ (k : Nat) (xs' : List It), i = .int .i64 k ∧ k ≤ n ∧ After w F h xs c1 c2 n xs' wr ∧ ((k = i0 ∧ xs' = xs ∧ FixInv (rkf xs) i0 n) ∨ (i0 < k ∧ DownInv (rkf xs') k n))) (fun i _ => n - (intOf i).toNat)
  case atStart => exact ⟨i0, xs, rfl, hi0, h0, .inl ⟨rfl, rfl, hU⟩⟩
  case round =>
    clear h0 hU
    obtain ⟨k, xs', rfl, hk, hA, hD⟩ := hrel
    have hlen := hA.length
    obtain ⟨_, _, ⟨rv, hrv, hI, _⟩, _⟩ := id hA
    have hlx : n ≤ xs'.length := by omega
    have HD := Lib.hid hD
    have HA := Lib.hid hA
    clear hlen hD hA
    by_cases c1 : n ≤ 2 * k + 1
    · have c1I : (n : Int) ≤ 2 * (k : Int) + 1 := by omega
      have HX : Hid (∀ k', 0 < k' → k' < n → par k' = k → ¬ les (rkf xs' k') (rkf xs' k)) := fun k' h1 h2 h3 => by have := (par_eq h1).1 h3; omega
      go_wp2_with fail
      go_ret
      exact ⟨xs', _, rfl, HA.out, down_out HD.out HX.out⟩
    · have c1I : 2 * (k : Int) + 1 < (n : Int) := by omega
      have hkl : k < xs'.length := by omega
      obtain ⟨q0, _⟩ := three hrv
      obtain ⟨a1, ha1⟩ : ∃ a, a = 2 * k + 1 := ⟨_, rfl⟩
      obtain ⟨a2, ha2⟩ : ∃ a, a = 2 * k + 2 := ⟨_, rfl⟩
      have HKI : Hid (i0 ≤ k) := by
        rcases HD.out with ⟨h1, _⟩ | ⟨h1, _⟩
        · exact Nat.le_of_eq h1.symm
        · exact Nat.le_of_lt h1
      have a1n : a1 < n := by omega
      have a1x : a1 < xs'.length := by omega
      have e1 : 2 * (k : Int) + 1 = (a1 : Int) := by omega
      have e2 : (a1 : Int) + 1 = (a2 : Int) := by omega
      have e4 : (a1 : Int) < (n : Int) := by omega
      have a1p : Hid (par a1 = k) := (par_eq (by omega)).2 (by omega)
      have a2p : Hid (par a2 = k) := (par_eq (by omega)).2 (by omega)
      have H1 := Lib.hid ha1
      have H2 := Lib.hid ha2
      by_cases c2 : a2 < n
      · have a2n := c2
        have a2x : a2 < xs'.length := by omega
        have e3 : (a2 : Int) < (n : Int) := by omega
        have m1 := meth_val "Less" 60 q_less _ h rv q0
        clear ha1 ha2 c1I
        go_wp2_with fail
        refine (less_any _ F rv xs' hI a2 a1 a2x a1x).mono ?_
        rintro e w1 ⟨rfl, m, rfl⟩
        have f1 := List.getElem?_eq_getElem a1x
        have f2 := List.getElem?_eq_getElem a2x
        have HE2 := Lib.hid (lesB_iff (hI.num f2) (hI.num f1))
        have HS1 := Lib.hid (rkf_at f1)
        have HS2 := Lib.hid (rkf_at f2)
        have HA := Lib.hid (HA.out.drewN m)
        have hI := hI.drewN m
        have hrv : (World.drewN _ m).heap[h]? = _ := hrv
        generalize World.drewN _ m = wq at *
        obtain ⟨q0, _⟩ := three hrv
        clear m1 f1 f2
        cases hb2 : lesB xs'[a2] xs'[a1]
        · have HMN : Hid (∀ k', 0 < k' → k' < n → par k' = k → ¬ les (rkf xs' k') (rkf xs' a1)) := fun k' h1 h2 h3 => by
            have h4 := (par_eq h1).1 h3
            rw [← H1.out, ← H2.out] at h4
            rcases h4 with rfl | rfl
            · exact fun q => les_asym q q
            · rw [HS1.out, HS2.out]
              exact fun q => by rw [HE2.out.2 q] at hb2; cases hb2
          have m1 := meth_val "Less" 60 q_less _ h rv q0
          go_wp2_with fail
          refine (less_any _ F rv xs' hI a1 k a1x hkl).mono ?_
          rintro e w1 ⟨rfl, m, rfl⟩
          have ej := List.getElem?_eq_getElem a1x
          have ek := List.getElem?_eq_getElem hkl
          have HE := Lib.hid (lesB_iff (hI.num ej) (hI.num ek))
          have HR1 := Lib.hid (rkf_at ej)
          have HR2 := Lib.hid (rkf_at ek)
          have HA := Lib.hid (HA.out.drewN m)
          have hI := hI.drewN m
          have hrv : (World.drewN _ m).heap[h]? = _ := hrv
          generalize World.drewN _ m = wz at *
          obtain ⟨q0, _⟩ := three hrv
          have HRV := Lib.hid hrv
          clear m1 ej ek hrv
          cases hb : lesB xs'[a1] xs'[k]
          · have HX : Hid (∀ k', 0 < k' → k' < n → par k' = k → ¬ les (rkf xs' k') (rkf xs' k)) := fun k' h1 h2 h3 => nles_trans (HMN.out k' h1 h2 h3) (by
              rw [HR1.out, HR2.out]
              exact fun q => by rw [HE.out.2 q] at hb; cases hb)
            go_wp2_with fail
            go_ret
            exact ⟨xs', _, rfl, HA.out, down_out HD.out HX.out⟩
          · have hles := HE.out.1 hb
            have m2 := meth_val "Swap" 61 q_swap _ h rv q0
            go_wp2_with fail
            refine (swap_any _ F rv xs' hI k a1 hkl a1x).mono ?_
            rintro e w2 ⟨rfl, h1, h2, h3⟩
            have HA2 := Lib.hid (HA.out.swap HRV.out hkl a1x (by omega) a1n h1 h2 h3)
            have hD2 : DownInv (rkf (swl xs' k a1 xs'[k] xs'[a1])) a1 n := by
              rw [rkf_swl (List.getElem?_eq_getElem hkl) (List.getElem?_eq_getElem a1x)]
              exact down_step (down_fix' HD.out) a1p.out (by have := H1.out; have := H2.out; omega) a1n (by rw [HR1.out, HR2.out]; exact hles) HMN.out
            have HD2 := Lib.hid hD2
            have hki : i0 < a1 ∧ a1 ≤ n ∧ k < a1 ∧ k < n := by
              have := H1.out
              have := H2.out
              have := HKI.out
              omega
            clear h1 h2 h3 hI hD2 m2
            go_wp2_with fail
            exact ⟨⟨a1, _, rfl, hki.2.1, HA2.out, .inr ⟨hki.1, HD2.out⟩⟩, by simp [intOf]; omega⟩
        · have HMN : Hid (∀ k', 0 < k' → k' < n → par k' = k → ¬ les (rkf xs' k') (rkf xs' a2)) := fun k' h1 h2 h3 => by
            have h4 := (par_eq h1).1 h3
            rw [← H1.out, ← H2.out] at h4
            rcases h4 with rfl | rfl
            · rw [HS1.out, HS2.out]
              exact les_asym (HE2.out.1 hb2)
            · exact fun q => les_asym q q
          have m1 := meth_val "Less" 60 q_less _ h rv q0
          go_wp2_with fail
          refine (less_any _ F rv xs' hI a2 k a2x hkl).mono ?_
          rintro e w1 ⟨rfl, m, rfl⟩
          have ej := List.getElem?_eq_getElem a2x
          have ek := List.getElem?_eq_getElem hkl
          have HE := Lib.hid (lesB_iff (hI.num ej) (hI.num ek))
          have HR1 := Lib.hid (rkf_at ej)
          have HR2 := Lib.hid (rkf_at ek)
          have HA := Lib.hid (HA.out.drewN m)
          have hI := hI.drewN m
          have hrv : (World.drewN _ m).heap[h]? = _ := hrv
          generalize World.drewN _ m = wz at *
          obtain ⟨q0, _⟩ := three hrv
          have HRV := Lib.hid hrv
          clear m1 ej ek hrv
          cases hb : lesB xs'[a2] xs'[k]
          · have HX : Hid (∀ k', 0 < k' → k' < n → par k' = k → ¬ les (rkf xs' k') (rkf xs' k)) := fun k' h1 h2 h3 => nles_trans (HMN.out k' h1 h2 h3) (by
              rw [HR1.out, HR2.out]
              exact fun q => by rw [HE.out.2 q] at hb; cases hb)
            go_wp2_with fail
            go_ret
            exact ⟨xs', _, rfl, HA.out, down_out HD.out HX.out⟩
          · have hles := HE.out.1 hb
            have m2 := meth_val "Swap" 61 q_swap _ h rv q0
            go_wp2_with fail
            refine (swap_any _ F rv xs' hI k a2 hkl a2x).mono ?_
            rintro e w2 ⟨rfl, h1, h2, h3⟩
            have HA2 := Lib.hid (HA.out.swap HRV.out hkl a2x (by omega) a2n h1 h2 h3)
            have hD2 : DownInv (rkf (swl xs' k a2 xs'[k] xs'[a2])) a2 n := by
              rw [rkf_swl (List.getElem?_eq_getElem hkl) (List.getElem?_eq_getElem a2x)]
              exact down_step (down_fix' HD.out) a2p.out (by have := H1.out; have := H2.out; omega) a2n (by rw [HR1.out, HR2.out]; exact hles) HMN.out
            have HD2 := Lib.hid hD2
            have hki : i0 < a2 ∧ a2 ≤ n ∧ k < a2 ∧ k < n := by
              have := H1.out
              have := H2.out
              have := HKI.out
              omega
            clear h1 h2 h3 hI hD2 m2
            go_wp2_with fail
            exact ⟨⟨a2, _, rfl, hki.2.1, HA2.out, .inr ⟨hki.1, HD2.out⟩⟩, by simp [intOf]; omega⟩
      · have e3 : ¬ (a2 : Int) < (n : Int) := by omega
        clear ha1 ha2 c1I
        have HMN : Hid (∀ k', 0 < k' → k' < n → par k' = k → ¬ les (rkf xs' k') (rkf xs' a1)) := fun k' h1 h2 h3 => by
          have h4 := (par_eq h1).1 h3
          rw [← H1.out, ← H2.out] at h4
          rcases h4 with rfl | rfl
          · exact fun q => les_asym q q
          · exact absurd h2 c2
        have m1 := meth_val "Less" 60 q_less _ h rv q0
        go_wp2_with fail
        refine (less_any _ F rv xs' hI a1 k a1x hkl).mono ?_
        rintro e w1 ⟨rfl, m, rfl⟩
        have ej := List.getElem?_eq_getElem a1x
        have ek := List.getElem?_eq_getElem hkl
        have HE := Lib.hid (lesB_iff (hI.num ej) (hI.num ek))
        have HR1 := Lib.hid (rkf_at ej)
        have HR2 := Lib.hid (rkf_at ek)
        have HA := Lib.hid (HA.out.drewN m)
        have hI := hI.drewN m
        have hrv : (World.drewN _ m).heap[h]? = _ := hrv
        generalize World.drewN _ m = wz at *
        obtain ⟨q0, _⟩ := three hrv
        have HRV := Lib.hid hrv
        clear m1 ej ek hrv
        cases hb : lesB xs'[a1] xs'[k]
        · have HX : Hid (∀ k', 0 < k' → k' < n → par k' = k → ¬ les (rkf xs' k') (rkf xs' k)) := fun k' h1 h2 h3 => nles_trans (HMN.out k' h1 h2 h3) (by
            rw [HR1.out, HR2.out]
            exact fun q => by rw [HE.out.2 q] at hb; cases hb)
          go_wp2_with fail
          go_ret
          exact ⟨xs', _, rfl, HA.out, down_out HD.out HX.out⟩
        · have hles := HE.out.1 hb
          have m2 := meth_val "Swap" 61 q_swap _ h rv q0
          go_wp2_with fail
          refine (swap_any _ F rv xs' hI k a1 hkl a1x).mono ?_
          rintro e w2 ⟨rfl, h1, h2, h3⟩
          have HA2 := Lib.hid (HA.out.swap HRV.out hkl a1x (by omega) a1n h1 h2 h3)
          have hD2 : DownInv (rkf (swl xs' k a1 xs'[k] xs'[a1])) a1 n := by
            rw [rkf_swl (List.getElem?_eq_getElem hkl) (List.getElem?_eq_getElem a1x)]
            exact down_step (down_fix' HD.out) a1p.out (by have := H1.out; have := H2.out; omega) a1n (by rw [HR1.out, HR2.out]; exact hles) HMN.out
          have HD2 := Lib.hid hD2
          have hki : i0 < a1 ∧ a1 ≤ n ∧ k < a1 ∧ k < n := by
            have := H1.out
            have := H2.out
            have := HKI.out
            omega
          clear h1 h2 h3 hI hD2 m2
          go_wp2_with fail
          exact ⟨⟨a1, _, rfl, hki.2.1, HA2.out, .inr ⟨hki.1, HD2.out⟩⟩, by simp [intOf]; omega⟩

end Go.Proofs.Ytfmcpcciokogiaa
