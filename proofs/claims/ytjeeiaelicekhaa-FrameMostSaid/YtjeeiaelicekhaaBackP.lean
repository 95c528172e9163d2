/- Frames that are written are read again: the plain law. -/
import Derived.Test.YtjeeiaelicekhaaOpen
namespace Go.Proofs.Ytjeeiaelicekhaa
open Go.RowKit

def flat (ps : List (List UInt8)) : List UInt8 := ps.flatMap fun p => be4 p.length ++ p

theorem flat_snoc (ps : List (List UInt8)) (p : List UInt8) : flat (ps ++ [p]) = flat ps ++ be4 p.length ++ p := by simp [flat]

theorem num_be4 (n : Nat) (h : n < 4294967296) : num (be4 n) = n := by
  simp only [num, be4, List.foldl_cons, List.foldl_nil]
  have e : ∀ k : Nat, (UInt8.ofNat k).toNat = k % 256 := fun _ => rfl
  rw [e, e, e, e]
  omega

theorem parse_frame (m : Nat) (p t : List UInt8) (hp : p.length ≤ m) (h : p.length < 4294967296) : parse m (be4 p.length ++ p ++ t) = (p :: (parse m t).1, (parse m t).2.1, (parse m t).2.2) := by
  have e1 : (be4 p.length ++ p ++ t).take 4 = be4 p.length := by
    rw [List.append_assoc, List.take_append_of_le_length (by rw [be4_length]; exact Nat.le_refl _)]
    exact List.take_of_length_le (by rw [be4_length]; exact Nat.le_refl _)
  have e2 : num ((be4 p.length ++ p ++ t).take 4) = p.length := by rw [e1, num_be4 _ h]
  have e3 : (be4 p.length ++ p ++ t).length = 4 + p.length + t.length := by simp only [List.length_append, be4_length]
  have e4 : (be4 p.length ++ p ++ t).drop 4 = p ++ t := by
    rw [List.append_assoc]
    exact List.drop_left' (be4_length _)
  rw [parse_one (by omega) (by rw [e2]; omega) (by rw [e2, e3]; omega), e2, ← List.drop_drop, e4, List.drop_left, List.take_left]

theorem parse_flat (m : Nat) : ∀ ps : List (List UInt8), (∀ p ∈ ps, p.length ≤ m ∧ p.length < 4294967296) → parse m (flat ps) = (ps, [], false)
  | [], _ => parse_short (by simp [flat])
  | p :: ps, h => by
    have ih := parse_flat m ps fun q hq => h q (List.mem_cons_of_mem _ hq)
    have e : flat (p :: ps) = be4 p.length ++ p ++ flat ps := by simp [flat]
    obtain ⟨h1, h2⟩ := h p List.mem_cons_self
    rw [e, parse_frame m p _ h1 h2, ih]

/-- One more length that is too great, behind whole frames. -/
theorem parse_then (m : Nat) (t : List UInt8) : ∀ ps : List (List UInt8), (∀ p ∈ ps, p.length ≤ m ∧ p.length < 4294967296) → parse m (flat ps ++ t) = (ps ++ (parse m t).1, (parse m t).2.1, (parse m t).2.2)
  | [], _ => by simp [flat]
  | p :: ps, h => by
    have ih := parse_then m t ps fun q hq => h q (List.mem_cons_of_mem _ hq)
    have e : flat (p :: ps) ++ t = be4 p.length ++ p ++ (flat ps ++ t) := by simp [flat]
    obtain ⟨h1, h2⟩ := h p List.mem_cons_self
    rw [e, parse_frame m p _ h1 h2, ih]
    rfl

end Go.Proofs.Ytjeeiaelicekhaa
