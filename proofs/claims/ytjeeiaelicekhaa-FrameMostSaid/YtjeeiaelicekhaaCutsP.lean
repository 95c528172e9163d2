/- However a stream is cut, the payloads and the state are the same: the plain law. -/
import Derived.Test.YtjeeiaelicekhaaBackP
namespace Go.Proofs.Ytjeeiaelicekhaa
open Go.RowKit

theorem parse_cut (m : Nat) (b : List UInt8) : ∀ (n : Nat) (X : List UInt8), X.length ≤ n →
    parse m (X ++ b) = ((parse m X).1 ++ (step m (parse m X).2.1 (parse m X).2.2 b).1, (step m (parse m X).2.1 (parse m X).2.2 b).2) := by
  intro n
  induction n with
  | zero =>
    intro X h
    rw [parse_short (L := X) (by omega)]
    simp [step]
  | succ n ih =>
    intro X h
    by_cases c1 : X.length < 4
    · rw [parse_short (L := X) c1]
      simp [step]
    · have e1 : (X ++ b).take 4 = X.take 4 := List.take_append_of_le_length (by omega)
      have el : (X ++ b).length = X.length + b.length := List.length_append
      by_cases c2 : m < num (X.take 4)
      · rw [parse_big (L := X) c1 c2, parse_big (by omega) (by rw [e1]; exact c2)]
        simp [step]
      · by_cases c3 : X.length - 4 < num (X.take 4)
        · rw [parse_part (L := X) c1 c2 c3]
          simp [step]
        · rw [parse_one (L := X) c1 c2 c3, parse_one (L := X ++ b) (by omega) (by rw [e1]; exact c2) (by rw [e1, el]; omega), e1]
          have e2 : (X ++ b).drop (4 + num (X.take 4)) = X.drop (4 + num (X.take 4)) ++ b := List.drop_append_of_le_length (by omega)
          have e3 : ((X ++ b).drop 4).take (num (X.take 4)) = (X.drop 4).take (num (X.take 4)) := by
            rw [List.drop_append_of_le_length (by omega), List.take_append_of_le_length (by rw [List.length_drop]; omega)]
          rw [e2, e3, ih (X.drop (4 + num (X.take 4))) (by rw [List.length_drop]; omega)]
          rfl

end Go.Proofs.Ytjeeiaelicekhaa
