/- The reader's state; length, New, Held. -/
import Derived.Test.YtjeeiaelicekhaaWalk1
import Derived.Laws.BitsAllLaws
namespace Go.Proofs.Ytjeeiaelicekhaa
open Go.RowKit

/-- Bytes as a number, the highest first. -/
def num (l : List UInt8) : Nat := l.foldl (fun n c => n * 256 + c.toNat) 0

theorem num_snoc (l : List UInt8) (c : UInt8) : num (l ++ [c]) = num l * 256 + c.toNat := by simp [num]
theorem num_take_succ (l : List UInt8) (k : Nat) (h : k < l.length) : num (l.take (k + 1)) = num (l.take k) * 256 + l[k].toNat := by
  rw [List.take_succ_eq_append_getElem h, num_snoc]
theorem num_fold_lt (l : List UInt8) : ∀ n, l.foldl (fun n c => n * 256 + c.toNat) n < (n + 1) * 256 ^ l.length := by
  induction l with
  | nil => intro n; simp
  | cons c l ih =>
    intro n
    rw [List.foldl_cons]
    refine Nat.lt_of_lt_of_le (ih _) ?_
    rw [List.length_cons, Nat.pow_succ, Nat.mul_comm (256 ^ l.length), ← Nat.mul_assoc]
    refine Nat.mul_le_mul_right _ ?_
    have := c.toNat_lt
    omega
theorem num_lt (l : List UInt8) : num l < 256 ^ l.length := by
  have := num_fold_lt l 0
  rwa [Nat.zero_add, Nat.one_mul] at this

theorem wrap64 (n : Nat) (h : n < 18446744073709551616) : IntKind.u64.wrap (n : Int) = (n : Int) := by
  rw [IntKind.wrap_u64]
  omega

theorem or_nat (a b : Nat) (i m : Nat) (hm : m = 2 ^ i) (h : b < m) (hh : a * m < 18446744073709551616) (hb : b < 18446744073709551616) :
    bits BinOp.or IntKind.u64 ((a * m : Nat) : Int) (b : Int) = ((a * m + b : Nat) : Int) := by
  rw [u64_or_nat _ _ hh hb]
  congr 1
  subst hm
  rw [← Nat.shiftLeft_eq, Nat.shiftLeft_add_eq_or_of_lt h]

theorem or_step (n c : Nat) (hn : n < 16777216) (hc : c < 256) :
    bits BinOp.or IntKind.u64 (IntKind.u64.wrap ((n : Int) * 256)) (IntKind.u64.wrap (c : Int)) = ((n * 256 + c : Nat) : Int) := by
  have e : (n : Int) * 256 = ((n * 256 : Nat) : Int) := by omega
  rw [e, wrap64 _ (by omega), wrap64 _ (by omega), or_nat n c 8 256 (by decide) hc (by omega) (by omega)]

theorem three {w : World} {r t : Nat} {x y z : Value} (h : w.heap[r]? = some (.cells #[x, y, z] t (0, 0))) :
    w.cell? ⟨r, 0, none⟩ = some x ∧ w.cell? ⟨r, 1, none⟩ = some y ∧ w.cell? ⟨r, 2, none⟩ = some z ∧ w.frozen? ⟨r, 0, none⟩ = false ∧ w.frozen? ⟨r, 1, none⟩ = false ∧ w.frozen? ⟨r, 2, none⟩ = false := by
  simp [World.cell?, World.frozen?, h]

theorem Byt.at {w : World} {v : Value} {l : List UInt8} (h : Byt w v l) (k : Nat) (hk : k < l.length) :
    ∃ b off c, v = .slice (some ⟨b, off, none⟩) l.length c ∧ w.cell? ⟨b, off + k, none⟩ = some (.int .u8 (l[k].toNat : Int)) := by
  obtain ⟨A, c, rfl, _, _, hA⟩ := h
  obtain ⟨b, off, cs, rfl, hb, hc⟩ := hA (by rintro rfl; simp at hk)
  refine ⟨b, off, c, rfl, ?_⟩
  simp only [World.cell?, hb]
  exact hc k _ (cel_get l k hk)

/-- A reader at block r, of type t. -/
def Rdr (w : World) (r : Nat) (m : Nat) (l : List UInt8) (br : Bool) : Prop :=
  ∃ v, w.heap[r]? = some (.cells #[.int .u64 (m : Int), v, .bool br] 56 (0, 0)) ∧ Byt w v l
/-- The reference's. -/
def Ref (w : World) (r : Nat) (m : Nat) (l : List UInt8) (br : Bool) : Prop :=
  ∃ v, w.heap[r]? = some (.cells #[.int .i64 (m : Int), v, .bool br] 38 (0, 0)) ∧ Byt w v l

theorem length_short (w : World) (r m : Nat) (l : List UInt8) (br : Bool) (h : Rdr w r m l br) (hl : l.length < 4) :
    Calls Try.prog 27 #[.pointer (some ⟨r, 0, none⟩)] w fun e w' => e = .returned (.tuple #[.int .u64 0, .bool false]) ∧ w' = w := by
  obtain ⟨v, hr, A, c, rfl, hc, hm, hA⟩ := h
  clear hA
  obtain ⟨_, q1, _⟩ := three hr
  go_enter Try.func27, Try.ntmps27
  go_wp2_with fail
  go_ret2
  exact ⟨rfl, rfl⟩

theorem length_long (w : World) (r m : Nat) (l : List UInt8) (br : Bool) (h : Rdr w r m l br) (hl : 4 ≤ l.length) :
    Calls Try.prog 27 #[.pointer (some ⟨r, 0, none⟩)] w fun e w' => e = .returned (.tuple #[.int .u64 (num (l.take 4) : Int), .bool true]) ∧ w' = w := by
  obtain ⟨v, hr, hv⟩ := h
  have HA := Lib.hid hv
  obtain ⟨A, c, rfl, hc, hm, hA⟩ := hv
  clear hA
  obtain ⟨b, off, c', e, _⟩ := HA.out.at 0 (by omega)
  cases e
  obtain ⟨_, q1, _⟩ := three hr
  go_enter Try.func27, Try.ntmps27
  go_wp2_with fail
  go_loopw [4, 19] (fun n i wr => ∃ k : Nat, k ≤ 4 ∧ i = .int .i64 k ∧ n = .int .u64 (num (l.take k) : Int) ∧ wr = w) (fun _ i _ => 4 - (intOf i).toNat)
  case atStart => exact ⟨0, by omega, rfl, rfl, rfl⟩
  case round =>
    obtain ⟨k, hk, rfl, rfl, rfl⟩ := hrel
    by_cases c1 : k < 4
    · obtain ⟨b', off', c2, e, g⟩ := HA.out.at k (by omega)
      cases e
      clear HA
      go_wp2_with fail
      have e : (num (l.take k)) < 16777216 := by
        have h1 := num_lt (l.take k)
        rw [List.length_take, Nat.min_eq_left (by omega)] at h1
        exact Nat.lt_of_lt_of_le h1 (Nat.le_trans (Nat.pow_le_pow_right (by omega) (show k ≤ 3 by omega)) (by decide))
      refine ⟨⟨k + 1, by omega, by go_num, ?_, trivial⟩, by simp [intOf]; omega⟩
      rw [or_step _ _ e (l[k].toNat_lt), num_take_succ l k (by omega)]
    · have : k = 4 := by omega
      subst this
      go_wp2_with fail
      go_ret2
      exact ⟨rfl, rfl⟩

end Go.Proofs.Ytjeeiaelicekhaa
