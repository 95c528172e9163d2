/- The reference's first. -/
import Derived.Test.YtfmcpcciokogiaaRefA
namespace Go.Proofs.Ytfmcpcciokogiaa
open Go.RowKit Fl

theorem minP_idx {P : List Pr} : ∀ (k : Nat) (hk : k < P.length), (∀ m (hm : m < P.length), EV (P[k]).2 ≤ EV (P[m]).2) → (∀ m (hm : m < k), EV (P[k]).2 < EV (P[m]'(by omega)).2) → minP P = some P[k] := by
  induction P with
  | nil => intro k hk; simp at hk
  | cons a r ih =>
    intro k hk h1 h2
    simp only [minP]
    cases k with
    | zero =>
      cases hm : minP r with
      | none => rfl
      | some y =>
        obtain ⟨m, hml, e⟩ := List.mem_iff_getElem.1 (minP_mem hm)
        have := h1 (m + 1) (by simp; omega)
        simp only [List.getElem_cons_zero, List.getElem_cons_succ, e] at this
        dsimp only
        rw [if_neg (by omega)]
        rfl
    | succ k =>
      have hkr : k < r.length := by simpa using hk
      have e := ih k hkr (fun m hm => by have := h1 (m + 1) (by simp; omega); simpa using this) (fun m hm => by have := h2 (m + 1) (by omega); simpa using this)
      rw [e]
      have h0 := h2 0 (by omega)
      simp only [List.getElem_cons_zero, List.getElem_cons_succ] at h0
      dsimp only
      rw [if_pos h0]
      rfl

/-- What first says: nowhere, or where the first to end stands. -/
def FirstAt (P : List Pr) (v : Int) : Prop := (P = [] ∧ v = -1) ∨ ∃ k : Nat, ∃ hk : k < P.length, v = (k : Int) ∧ minP P = some P[k]

set_option maxRecDepth 100000 in
set_option maxHeartbeats 4000000 in
theorem first_any (w : World) (G : Nat → Prop) (r : Nat) (P : List Pr) (h : RP w G r P) (hl : P.length ≤ 1000000) (hN : NumP P) :
    Calls Try.prog 38 #[.pointer (some ⟨r, 0, none⟩)] w fun e w' => (∃ v, e = .returned (.int .i64 v) ∧ FirstAt P v) ∧ ∃ n, w' = w.drewN n := by
  obtain ⟨A, c, A', c', h1, h2, h3⟩ := h.open
  obtain ⟨q0, q1, _⟩ := two_cells h1
  have HE := Lib.hid h3.src
  have HNum := Lib.hid hN
  clear h1 h2 h3 h hN
  go_enter Try.func38, Try.ntmps38
  go_wp2_with fail
  go_loopw [3, 4] (fun kv i wr => ∃ (j n : Nat), i = .int .i64 j ∧ j ≤ P.length ∧ wr = w.drewN n ∧
    ((j = 0 ∧ kv = .int .i64 (-1)) ∨ ∃ k : Nat, kv = .int .i64 k ∧ ∃ hk : k < P.length, k < j ∧ Hid (∀ m (hm : m < P.length), m < j → EV (P[k]).2 ≤ EV (P[m]).2) ∧ Hid (∀ m (hm : m < k), EV (P[k]).2 < EV (P[m]'(by omega)).2))) (fun _ i _ => P.length - (intOf i).toNat)
  case atStart => exact ⟨0, 0, rfl, by omega, rfl, .inl ⟨rfl, rfl⟩⟩
  case round =>
    obtain ⟨j, n, rfl, hj, rfl, hc⟩ := hrel
    by_cases c1 : j < P.length
    · obtain ⟨ad, c5, e5, g5⟩ := HE.out.at (k := j) (by rw [et_length]; exact c1)
      rw [et_length] at e5
      cases e5
      have g6 : (et P)[j]'(by rw [et_length]; exact c1) = .float .f64 (P[j]).2 := by simp [et]
      rw [g6] at g5
      have c1I : (j : Int) < (P.length : Int) := by omega
      clear g6
      rcases hc with ⟨rfl, rfl⟩ | ⟨k, rfl, hk, hkj, hall, hpre⟩
      · have HA : Hid (∀ m (hm : m < P.length), m < 0 + 1 → EV (P[0]).2 ≤ EV (P[m]).2) := fun m hm h => by
          have : m = 0 := by omega
          subst this
          exact Int.le_refl _
        have HB : Hid (∀ m (hm : m < 0), EV (P[0]).2 < EV (P[m]'(by omega)).2) := fun m hm => by omega
        go_wp2_with fail
        go_quiet (fail)
        go_wp2_with fail
        refine ⟨⟨0 + 1, _, by go_num, by omega, rfl, .inr ⟨0, rfl, c1, by omega, HA, HB⟩⟩, by simp [intOf]; omega⟩
      · obtain ⟨ad', c6, e6, g7⟩ := HE.out.at (k := k) (by rw [et_length]; exact hk)
        rw [et_length] at e6
        cases e6
        have g8 : (et P)[k]'(by rw [et_length]; exact hk) = .float .f64 (P[k]).2 := by simp [et]
        rw [g8] at g7
        have hkI : (k : Int) < (P.length : Int) := by omega
        have hnj := HNum.out _ (List.getElem_mem c1)
        have hnk := HNum.out _ (List.getElem_mem hk)
        have HLT := Lib.hid (lt_iff (x := (P[j]).2) (y := (P[k]).2))
        clear g8
        cases hb : isLt (P[j]).2 (P[k]).2 with
        | true =>
          have hlt := (HLT.out.1 hb).2.2
          have HA : Hid (∀ m (hm : m < P.length), m < j + 1 → EV (P[j]).2 ≤ EV (P[m]).2) := fun m hm h => by
            rcases Nat.lt_or_ge m j with h5 | h5
            · have := hall.out m hm h5
              omega
            · have : m = j := by omega
              subst this
              exact Int.le_refl _
          have HB : Hid (∀ m (hm : m < j), EV (P[j]).2 < EV (P[m]'(by omega)).2) := fun m hm => by
            have := hall.out m (by omega) hm
            omega
          clear hall hpre hnj hnk hlt
          go_wp2_with fail
          go_quiet (fail)
          go_wp2_with fail
          refine ⟨⟨j + 1, _, by go_num, by omega, rfl, .inr ⟨j, rfl, c1, by omega, HA, HB⟩⟩, by simp [intOf]; omega⟩
        | false =>
          have hge : EV (P[k]).2 ≤ EV (P[j]).2 := by
            rcases Int.lt_or_le (EV (P[j]).2) (EV (P[k]).2) with h5 | h5
            · have := HLT.out.2 ⟨hnj, hnk, h5⟩
              rw [hb] at this
              cases this
            · exact h5
          have HA : Hid (∀ m (hm : m < P.length), m < j + 1 → EV (P[k]).2 ≤ EV (P[m]).2) := fun m hm h => by
            rcases Nat.lt_or_ge m j with h5 | h5
            · exact hall.out m hm h5
            · have : m = j := by omega
              subst this
              exact hge
          clear hall hnj hnk hge
          go_wp2_with fail
          go_quiet (fail)
          go_wp2_with fail
          refine ⟨⟨j + 1, _, by go_num, by omega, rfl, .inr ⟨k, rfl, hk, by omega, HA, hpre⟩⟩, by simp [intOf]; omega⟩
    · have c1I : ¬ (j : Int) < (P.length : Int) := by omega
      have HF : ∃ v, u3 = Value.int .i64 v ∧ FirstAt P v := by
        rcases hc with ⟨rfl, h5⟩ | ⟨k, h5, hk, hkj, hall, hpre⟩
        · exact ⟨_, h5, .inl ⟨List.length_eq_zero_iff.1 (by omega), rfl⟩⟩
        · exact ⟨_, h5, .inr ⟨k, hk, rfl, minP_idx k hk (fun m hm => hall.out m hm (by omega)) hpre.out⟩⟩
      obtain ⟨v, rfl, hv⟩ := HF
      have HV := Lib.hid hv
      clear hc hv
      go_wp2_with fail
      go_ret
      exact ⟨⟨v, rfl, HV.out⟩, n, rfl⟩

end Go.Proofs.Ytfmcpcciokogiaa
