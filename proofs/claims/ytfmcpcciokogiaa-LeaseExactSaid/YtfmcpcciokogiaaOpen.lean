/- What the rows of the lease laws open their arguments with. -/
import Derived.Test.YtfmcpcciokogiaaUntil
import Derived.ProofKit
import Derived.OpenShut
import Derived.ChangeOld
import Derived.Deep.Slices
import Derived.Deep.Fields
import Derived.ChangeSame
namespace Go.Proofs.Ytfmcpcciokogiaa
open Go.ChangeShapes Go.WideShapes Go.ChangeAt Go.RowKit Go.Deep

theorem own : ownKnob Try.prog.godebug = Option.none := by kernel_rfl
theorem laidOut : laidOutB Try.prog = true := by kernel_rfl

/-- A slice whose elements are one cell each. -/
theorem elems_of {H : Type} {enc : TypeId × Value → H} {P : Program} {w : World} {base : Nat} {spare : Nat → Bool} {held : Bool} {t e : TypeId} {fuel : Nat} {v : Value} {x : DataW H × List MemPlace}
    (ht : P.underlying t = some (.slice e)) (hC : P.cellsOf e = 1) (h : DataW.trod enc P w base spare held fuel t [v] = some x) :
    ∃ a len cap, v = .slice a len cap ∧ len ≤ maxLen ∧ len ≤ cap ∧ (len ≠ 0 → ∃ ad, a = some ad ∧ ∀ i, i < len → ∃ n u y, w.cell? (ad.add i) = some u ∧ DataW.trod enc P w base spare held n e [u] = some y) := by
  rcases open_slice ht h with ⟨h0, _⟩ | ⟨ad, l, c, m, n, D, Pl, hcs, _, hl, hm, hmm, _, hi⟩
  · simp only [List.cons.injEq, and_true] at h0
    exact ⟨_, _, _, h0, Nat.zero_le _, Nat.le_refl _, fun h => absurd rfl h⟩
  · simp only [List.cons.injEq, and_true] at hcs
    refine ⟨_, _, _, hcs, Nat.le_trans hl hm, hl, fun _ => ⟨ad, rfl, fun i hil => ?_⟩⟩
    obtain ⟨cells, hc, hr⟩ := hi i (by rw [hmm]; split <;> omega)
    rw [hC, Nat.mul_one] at hc
    obtain ⟨_, hcl, hat⟩ := World.cells?_some hc
    match cells, hcl, hat, hr with
    | [u], _, hat, hr =>
      have := hat 0 (by omega)
      rw [Go.Deep.add_add] at this
      exact ⟨_, u, _, this, hr⟩

theorem lt_of_cell {w : World} {a : Addr} {v : Value} (h : w.cell? a = some v) : a.block < w.heap.size := by
  unfold World.cell? at h
  rcases Nat.lt_or_ge a.block w.heap.size with g | g
  · exact g
  · rw [Array.getElem?_eq_none g] at h
    cases h

end Go.Proofs.Ytfmcpcciokogiaa
