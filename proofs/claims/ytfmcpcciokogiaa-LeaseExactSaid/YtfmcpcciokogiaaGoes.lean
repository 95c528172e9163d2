/- LeaseDrop's function value: is the key one of those that go? And what filters do to lists of pairs. -/
import Derived.Test.YtfmcpcciokogiaaArgs
namespace Go.Proofs.Ytfmcpcciokogiaa
open Go.RowKit Fl

theorem list_inj {s k : ByteArray} (h : s.toList = k.toList) : s = k := by
  rw [ByteArray.toList_eq, ByteArray.toList_eq] at h
  exact tx_inj h

/-- Truth values that came in. -/
def Bools (w : World) (a : Option Addr) (len : Nat) (g : Nat → Bool) : Prop :=
  len ≤ maxLen ∧ ∀ i, i < len → ∃ ad : Addr, a = some ad ∧ ad.block < w.heap.size ∧ w.cell? (ad.add i) = some (.bool (g i))

def goesB (n : Nat) (key : Nat → ByteArray) (g : Nat → Bool) (k : ByteArray) : Bool := (List.range n).any fun j => g j && decide (tx (cutT (key j)) = tx k)
theorem goesB_iff {n : Nat} {key : Nat → ByteArray} {g : Nat → Bool} {k : ByteArray} : goesB n key g k = true ↔ ∃ j, j < n ∧ g j = true ∧ cutT (key j) = k := by
  simp only [goesB, List.any_eq_true, List.mem_range, Bool.and_eq_true, decide_eq_true_eq]
  constructor
  · rintro ⟨j, h1, h2, h3⟩
    exact ⟨j, h1, h2, tx_inj h3⟩
  · rintro ⟨j, h1, h2, h3⟩
    exact ⟨j, h1, h2, by rw [h3]⟩

set_option maxRecDepth 100000 in
set_option maxHeartbeats 2000000 in
theorem goes_any (w : World) (B1 B2 : Nat) (a a2 : Option Addr) (len cap len2 cap2 : Nat) (key : Nat → ByteArray) (g : Nat → Bool) (k : ByteArray)
    (hb1 : w.cell? ⟨B1, 0, none⟩ = some (.slice a len cap)) (hb2 : w.cell? ⟨B2, 0, none⟩ = some (.slice a2 len2 cap2))
    (hk : ∀ i, i < len → ∃ b off, a = some ⟨b, off, none⟩ ∧ w.cell? ⟨b, off + i * 4 + 2, none⟩ = some (.string (key i)))
    (hg : ∀ i, i < len2 → ∃ ad : Addr, a2 = some ad ∧ w.cell? (ad.add i) = some (.bool (g i))) :
    Calls Try.prog 22 #[.string k, .pointer (some ⟨B1, 0, none⟩), .pointer (some ⟨B2, 0, none⟩)] w fun e w' => e = .returned (.bool (goesB (min len (min 200 len2)) key g k)) ∧ w = w' := by
  have HK := Lib.hid hk
  have HG := Lib.hid hg
  clear hk hg
  go_enter Try.func22, Try.ntmps22
  go_wp2_with fail
  go_loopw [5] (fun i wr => ∃ j : Nat, i = .int .i64 j ∧ j ≤ 200 ∧ Hid (∀ m, m < j → ¬ (g m = true ∧ cutT (key m) = k)) ∧ wr = w) (fun i _ => 200 - (intOf i).toNat)
  case atStart => exact ⟨0, rfl, by omega, fun m hm => by omega, rfl⟩
  case round =>
    obtain ⟨j, rfl, hj, hno, rfl⟩ := hrel
    by_cases c1 : j < len ∧ j < 200 ∧ j < len2
    · obtain ⟨c1, c2, c3⟩ := c1
      obtain ⟨b, off, rfl, k2⟩ := HK.out j c1
      obtain ⟨ad, rfl, g2⟩ := HG.out j c3
      have HT := Lib.hid (text_any (key j))
      cases hgj : g j with
      | false =>
        have HN : Hid (∀ m, m < j + 1 → ¬ (g m = true ∧ cutT (key m) = k)) := fun m hm => by
          rcases Nat.lt_or_ge m j with h | h
          · exact hno.out m h
          · have : m = j := by omega
            subst this
            rw [hgj]
            simp
        rw [hgj] at g2
        go_wp2_with fail
        exact ⟨⟨j + 1, by go_num, by omega, HN, trivial⟩, by simp [intOf]; omega⟩
      | true =>
        rw [hgj] at g2
        by_cases he : cutT (key j) = k
        · have HR : Hid (goesB (min len (min 200 len2)) key g k = true) := goesB_iff.2 ⟨j, by omega, hgj, he⟩
          go_wp2_with fail
          refine (HT.out _).mono ?_
          rintro e w' ⟨rfl, rfl⟩
          rw [he]
          go_wp2_with fail
          go_ret
          rw [HR.out]
          exact ⟨rfl, rfl⟩
        · have HN : Hid (∀ m, m < j + 1 → ¬ (g m = true ∧ cutT (key m) = k)) := fun m hm => by
            rcases Nat.lt_or_ge m j with h | h
            · exact hno.out m h
            · have : m = j := by omega
              subst this
              exact fun q => he q.2
          generalize cutT (key j) = s at *
          have hbe : (s.toList == k.toList) = false := beq_eq_false_iff_ne.2 fun q => he (list_inj q)
          go_wp2_with fail
          refine (HT.out _).mono ?_
          rintro e w' ⟨rfl, rfl⟩
          go_wp2_with fail
          exact ⟨⟨j + 1, by go_num, by omega, HN, trivial⟩, by simp [intOf]; omega⟩
    · have HR : Hid (goesB (min len (min 200 len2)) key g k = false) := by
        have : ¬ goesB (min len (min 200 len2)) key g k = true := fun q => by
          obtain ⟨m, h1, h2, h3⟩ := goesB_iff.1 q
          exact hno.out m (by omega) ⟨h2, h3⟩
        exact Bool.eq_false_iff.2 this
      have q1 : ¬ (j < len ∧ j < 200 ∧ j < len2) := c1
      by_cases d1 : j < len
      · by_cases d2 : j < 200
        · have d3 : ¬ j < len2 := fun h => c1 ⟨d1, d2, h⟩
          go_wp2_with fail
          go_ret
          rw [HR.out]
          exact ⟨rfl, rfl⟩
        · go_wp2_with fail
          go_ret
          rw [HR.out]
          exact ⟨rfl, rfl⟩
      · go_wp2_with fail
        go_ret
        rw [HR.out]
        exact ⟨rfl, rfl⟩

/-- What stays: the pairs whose key doesn't go. -/
def stay (go : ByteArray → Bool) (P : List Pr) : List Pr := P.filter fun p => !go p.1
theorem stay_out (go : ByteArray → Bool) (P : List Pr) (s : ByteArray) : stay go (outP P s) = outP (stay go P) s := by
  simp only [stay, outP, List.filter_filter]
  congr 1
  funext p
  rw [Bool.and_comm]
theorem stay_set (go : ByteArray → Bool) (P : List Pr) (s : ByteArray) (f : Nat) (h : go s = false) : stay go (outP P s ++ [(s, f)]) = outP (stay go P) s ++ [(s, f)] := by
  rw [← stay_out]
  unfold stay
  rw [List.filter_append, List.filter_cons_of_pos (by simp [h])]
  rfl
theorem outP_self {P : List Pr} {s : ByteArray} (h : ∀ p ∈ P, p.1 ≠ s) : outP P s = P := List.filter_eq_self.2 fun p hp => by
  have := h p hp
  simpa using fun q => this (tx_inj q)
theorem stay_no {go : ByteArray → Bool} {P : List Pr} {s : ByteArray} (h : go s = true) : ∀ p ∈ stay go P, p.1 ≠ s := fun p hp e => by
  have := (List.mem_filter.1 hp).2
  rw [e, h] at this
  simp at this
theorem stay_gone (go : ByteArray → Bool) (P : List Pr) (s : ByteArray) (f : Nat) (h : go s = true) : stay go (outP P s ++ [(s, f)]) = stay go P := by
  unfold stay
  rw [List.filter_append, List.filter_cons_of_neg (by simp [h])]
  have := stay_out go P s
  unfold stay at this
  rw [this, List.filter_nil, List.append_nil]
  exact outP_self (stay_no h)
theorem stay_drop (go : ByteArray → Bool) (P : List Pr) (s : ByteArray) (h : go s = true) : stay go (outP P s) = stay go P := by
  rw [stay_out]
  exact outP_self (stay_no h)

end Go.Proofs.Ytfmcpcciokogiaa
