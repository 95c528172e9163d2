/- A feed of either reader, broken or not; what it leaves of the rest. -/
import Derived.Test.YtjeeiaelicekhaaWake
namespace Go.Proofs.Ytjeeiaelicekhaa
open Go.RowKit

/-- What a feed gives: the payloads, what is held, whether it is broken. -/
def step (m : Nat) (L : List UInt8) (br : Bool) (b : List UInt8) : List (List UInt8) × List UInt8 × Bool := if br then ([], L, true) else parse m (L ++ b)

theorem parse_left (m : Nat) : ∀ (n : Nat) (L : List UInt8), L.length ≤ n → (parse m L).2.1.length ≤ L.length := by
  intro n
  induction n with
  | zero =>
    intro L h
    rw [parse_short (by omega)]
    exact Nat.le_refl _
  | succ n ih =>
    intro L h
    by_cases c1 : L.length < 4
    · rw [parse_short c1]
      exact Nat.le_refl _
    · by_cases c2 : m < num (L.take 4)
      · rw [parse_big c1 c2]
        exact Nat.zero_le _
      · by_cases c3 : L.length - 4 < num (L.take 4)
        · rw [parse_part c1 c2 c3]
          exact Nat.le_refl _
        · rw [parse_one c1 c2 c3]
          have := ih (L.drop (4 + num (L.take 4))) (by rw [List.length_drop]; omega)
          rw [List.length_drop] at this
          show (parse m (L.drop (4 + num (L.take 4)))).2.1.length ≤ _
          omega
theorem step_left (m : Nat) (L : List UInt8) (br : Bool) (b : List UInt8) : (step m L br b).2.1.length ≤ L.length + b.length := by
  unfold step
  cases br
  · have := parse_left m _ (L ++ b) (Nat.le_refl _)
    rw [List.length_append] at this
    exact this
  · exact Nat.le_add_right _ _

theorem feed_any (w : World) (r m : Nat) (L b : List UInt8) (br : Bool) (v : Value) (h : Rdr w r m L br) (hv : Src w v (cel b)) (hL : L.length ≤ 1000000000) (hb : b.length ≤ 1000000000) :
    Calls Try.prog 11 #[.pointer (some ⟨r, 0, none⟩), v] w fun e w' => ∃ u xs, e = .returned (.tuple #[u, .int .i64 (Err (step m L br b).2.2)]) ∧ Lst w.heap.size w' u xs ∧ xs.map (·.2) = (step m L br b).1 ∧ Rdr w' r m (step m L br b).2.1 (step m L br b).2.2 ∧ w.grownBy w' (some r) := by
  have hrw : r < w.heap.size := by
    obtain ⟨v, hr, _⟩ := h
    exact (Array.getElem?_eq_some_iff.1 hr).1
  cases br
  · refine (feed_ok w r m L b v h hv hL hb hrw).mono ?_
    rintro e w' ⟨u, xs, he, hl, hs, hg⟩
    exact ⟨u, xs, he, hl, hs.1, hs.2, hg⟩
  · refine (feed_broken w r m L v h).mono ?_
    rintro e w' ⟨he, rfl⟩
    exact ⟨_, [], he, ⟨row_none _ _ _, by simp⟩, rfl, h, World.grownBy.refl _ _⟩

theorem rfeed_any (w : World) (r m : Nat) (L b : List UInt8) (br : Bool) (v : Value) (h : Ref w r m L br) (hm : m < 9223372036854775808) (hv : Src w v (cel b)) (hL : L.length ≤ 1000000000) (hb : b.length ≤ 1000000000) :
    Calls Try.prog 13 #[.pointer (some ⟨r, 0, none⟩), v] w fun e w' => ∃ u xs, e = .returned (.tuple #[u, .int .i64 (Err (step m L br b).2.2)]) ∧ Lst w.heap.size w' u xs ∧ xs.map (·.2) = (step m L br b).1 ∧ Ref w' r m (step m L br b).2.1 (step m L br b).2.2 ∧ w.grownBy w' (some r) := by
  have hrw : r < w.heap.size := by
    obtain ⟨v, hr, _⟩ := h
    exact (Array.getElem?_eq_some_iff.1 hr).1
  cases br
  · exact rfeed_ok w r m L b v h hm hv hL hb hrw
  · refine (rfeed_broken w r m L v h).mono ?_
    rintro e w' ⟨he, rfl⟩
    exact ⟨_, [], he, ⟨row_none _ _ _, by simp⟩, rfl, h, World.grownBy.refl _ _⟩

/-! ### What another block's turn leaves -/
theorem Rdr.not5 {w : World} {r m : Nat} {L : List UInt8} {br : Bool} (h : Rdr w r m L br) : Not5 w r := by
  obtain ⟨v, hr, _⟩ := h
  exact ⟨_, 56, hr, by decide⟩
theorem Ref.not5 {w : World} {r m : Nat} {L : List UInt8} {br : Bool} (h : Ref w r m L br) : Not5 w r := by
  obtain ⟨v, hr, _⟩ := h
  exact ⟨_, 38, hr, by decide⟩
theorem Rdr.other {w w' : World} {r s m : Nat} {L : List UInt8} {br : Bool} (h : Rdr w r m L br) (hg : w.grownBy w' (some s)) (hs : Not5 w s) (hne : r ≠ s) : Rdr w' r m L br := by
  obtain ⟨v, hr, hv⟩ := h
  exact ⟨v, (hg.block r (Array.getElem?_eq_some_iff.1 hr).1 (by simpa using hne)).trans hr, hv.keep (keep5_grown hg hs)⟩
theorem Ref.other {w w' : World} {r s m : Nat} {L : List UInt8} {br : Bool} (h : Ref w r m L br) (hg : w.grownBy w' (some s)) (hs : Not5 w s) (hne : r ≠ s) : Ref w' r m L br := by
  obtain ⟨v, hr, hv⟩ := h
  exact ⟨v, (hg.block r (Array.getElem?_eq_some_iff.1 hr).1 (by simpa using hne)).trans hr, hv.keep (keep5_grown hg hs)⟩
theorem Ref.below {w w' : World} {r m : Nat} {L : List UInt8} {br : Bool} (h : Ref w r m L br) (hb : Below w.heap.size w w') : Ref w' r m L br := by
  obtain ⟨v, hr, hv⟩ := h
  exact ⟨v, (hb.block r (Array.getElem?_eq_some_iff.1 hr).1).trans hr, hv.keep (keep5_below hb)⟩
theorem Rdr.drewN {w : World} {r m : Nat} {L : List UInt8} {br : Bool} (h : Rdr w r m L br) (n : Nat) : Rdr (w.drewN n) r m L br := by
  obtain ⟨v, hr, hv⟩ := h
  exact ⟨v, by simpa using hr, hv.drewN n⟩

theorem Lst.rd {B : Nat} {w : World} {u : Value} {xs : List (Value × List UInt8)} (h : Lst B w u xs) (hx : xs.length ≤ 1000000000000) : Rd w u xs := ⟨h.1.src, h.2, hx⟩
theorem Rd.below {w w' : World} {u : Value} {xs : List (Value × List UInt8)} (h : Rd w u xs) (hb : Below w.heap.size w w') : Rd w' u xs := ⟨h.1.below hb, fun x hx => (h.2.1 x hx).keep (keep5_below hb), h.2.2⟩
theorem Lst.other {B : Nat} {w w' : World} {u : Value} {xs : List (Value × List UInt8)} {s : Nat} (h : Lst B w u xs) (hg : w.grownBy w' (some s)) (hs : Not5 w s) (hlt : s < B) : Lst B w' u xs :=
  ⟨h.1.cells fun g cur hv hc => (hg.block g (Array.getElem?_eq_some_iff.1 hc).1 (by have := (h.1.block hv).1; simp; omega)).trans hc, fun x hx => (h.2 x hx).keep (keep5_grown hg hs)⟩
theorem Lst.below {B : Nat} {w w' : World} {u : Value} {xs : List (Value × List UInt8)} (h : Lst B w u xs) (hb : Below w.heap.size w w') : Lst B w' u xs :=
  ⟨h.1.below hb, fun x hx => (h.2 x hx).keep (keep5_below hb)⟩

theorem parse_many (m : Nat) : ∀ (n : Nat) (L : List UInt8), L.length ≤ n → 4 * (parse m L).1.length ≤ L.length := by
  intro n
  induction n with
  | zero =>
    intro L h
    rw [parse_short (by omega)]
    exact Nat.zero_le _
  | succ n ih =>
    intro L h
    by_cases c1 : L.length < 4
    · rw [parse_short c1]
      exact Nat.zero_le _
    · by_cases c2 : m < num (L.take 4)
      · rw [parse_big c1 c2]
        exact Nat.zero_le _
      · by_cases c3 : L.length - 4 < num (L.take 4)
        · rw [parse_part c1 c2 c3]
          exact Nat.zero_le _
        · rw [parse_one c1 c2 c3]
          have := ih (L.drop (4 + num (L.take 4))) (by rw [List.length_drop]; omega)
          rw [List.length_drop] at this
          show 4 * ((parse m (L.drop (4 + num (L.take 4)))).1.length + 1) ≤ _
          omega
theorem step_many (m : Nat) (L : List UInt8) (br : Bool) (b : List UInt8) : 4 * (step m L br b).1.length ≤ L.length + b.length := by
  unfold step
  cases br
  · have := parse_many m _ (L ++ b) (Nat.le_refl _)
    rw [List.length_append] at this
    exact this
  · exact Nat.zero_le _

end Go.Proofs.Ytjeeiaelicekhaa
