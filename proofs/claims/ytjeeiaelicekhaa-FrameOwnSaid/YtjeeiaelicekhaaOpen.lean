/- Slices of bytes, and of slices of bytes, that came in. -/
import Derived.Test.YtjeeiaelicekhaaFeedW
import Derived.ProofKit
import Derived.OpenShut
import Derived.ChangeOld
import Derived.Deep.Slices
import Derived.Deep.Fields
import Derived.ChangeSame
namespace Go.Proofs.Ytjeeiaelicekhaa
open Go.ChangeShapes Go.WideShapes Go.ChangeAt Go.RowKit Go.Deep

theorem own : ownKnob Try.prog.godebug = Option.none := by kernel_rfl
theorem laidOut : laidOutB Try.prog = true := by kernel_rfl

/-- A slice whose elements are one cell each. -/
theorem elems_of {H : Type} {enc : TypeId × Value → H} {P : Program} {w : World} {base : Nat} {spare : Nat → Bool} {held : Bool} {t e : TypeId} {fuel : Nat} {v : Value} {x : DataW H × List MemPlace}
    (ht : P.underlying t = some (.slice e)) (hC : P.cellsOf e = 1) (h : DataW.trod enc P w base spare held fuel t [v] = some x) :
    ∃ a len cap, v = .slice a len cap ∧ len ≤ maxLen ∧ len ≤ cap ∧ (len ≠ 0 → ∃ ad, a = some ad ∧ ∀ i, i < len → ∃ n u y, w.cell? (ad.add i) = some u ∧ DataW.trod enc P w base spare held n e [u] = some y) := by
  rcases open_slice ht h with ⟨h0, _⟩ | ⟨ad, l, c, m, n, D, Pl, hcs, _, hl, hm, hmm, _, hi⟩
  · simp only [List.cons.injEq, and_true] at h0
    exact ⟨_, _, _, h0, Nat.zero_le _, Nat.le_refl _, fun h => absurd rfl h⟩
  · simp only [List.cons.injEq, and_true] at hcs
    refine ⟨_, _, _, hcs, Nat.le_trans hl hm, hl, fun _ => ⟨ad, rfl, fun i hil => ?_⟩⟩
    obtain ⟨cells, hc, hr⟩ := hi i (by rw [hmm]; split <;> omega)
    rw [hC, Nat.mul_one] at hc
    obtain ⟨_, hcl, hat⟩ := World.cells?_some hc
    match cells, hcl, hat, hr with
    | [u], _, hat, hr =>
      have := hat 0 (by omega)
      rw [Go.Deep.add_add] at this
      exact ⟨_, u, _, this, hr⟩

def byteOf (v : Option Value) : UInt8 := match v with | some (.int _ n) => UInt8.ofNat n.toNat | _ => 0

theorem bytes_of {H : Type} {enc : TypeId × Value → H} {W : World} {base : Nat} {spare : Nat → Bool} {held : Bool} {fuel : Nat} {v : Value} {x : DataW H × List MemPlace}
    (hf : DataW.trod enc Try.prog W base spare held fuel 31 [v] = some x) : ∃ l, Src W v (cel l) := by
  obtain ⟨a, len, cap, rfl, hm, hlc, hr⟩ := elems_of Try.underlying31 (by kernel_rfl) hf
  by_cases hz : len = 0
  · subst hz
    exact ⟨[], _, _, rfl, Nat.zero_le _, fun h => absurd rfl h⟩
  · obtain ⟨ad, rfl, hi⟩ := hr hz
    refine ⟨(List.range len).map fun j => byteOf (W.cell? (ad.add j)), some ad, cap, by simp [cel], by simpa [cel] using hlc, fun _ => ⟨ad, rfl, fun j u hj => ?_⟩⟩
    have hjl : j < len := by
      have := (List.getElem?_eq_some_iff.1 hj).1
      simpa [cel] using this
    obtain ⟨n, u', y, hc, ht⟩ := hi j hjl
    obtain ⟨n0, e0, _, w0⟩ := DataW.trod_int Try.underlying5 ht
    simp only [List.cons.injEq, and_true] at e0
    subst e0
    have b0 := bounds_u8 w0
    rw [hc]
    simp only [cel, List.map_map, List.getElem?_map, List.getElem?_range hjl, Option.map_some, Function.comp, hc, byteOf, Option.some.injEq] at hj
    rw [← hj]
    congr 2
    have : (UInt8.ofNat n0.toNat).toNat = n0.toNat := by
      show n0.toNat % 256 = n0.toNat
      omega
    rw [this]
    omega

theorem pcs_of {H : Type} {enc : TypeId × Value → H} {W : World} {base : Nat} {spare : Nat → Bool} {held : Bool} {fuel : Nat} {a : Option Addr} {len cap : Nat} {x : DataW H × List MemPlace}
    (hf : DataW.trod enc Try.prog W base spare held fuel 22 [.slice a len cap] = some x) : Pcs W a len := by
  obtain ⟨a', len', cap', e, hm, hlc, hr⟩ := elems_of Try.underlying22 (by kernel_rfl) hf
  cases e
  refine ⟨hm, fun i hil => ?_⟩
  obtain ⟨ad, rfl, hi⟩ := hr (by omega)
  obtain ⟨n, u, y, hc, ht⟩ := hi i hil
  obtain ⟨l, hl⟩ := bytes_of ht
  refine ⟨ad, u, l, rfl, ?_, hc, hl⟩
  have := lt_of_cell hc
  rwa [add_block] at this

end Go.Proofs.Ytjeeiaelicekhaa
