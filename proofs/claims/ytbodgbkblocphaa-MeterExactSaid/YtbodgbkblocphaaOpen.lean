/- A slice of structs that came in, opened to its cells. -/
import Derived.Test.YtbodgbkblocphaaExactW
import Derived.ProofKit
import Derived.OpenShut
import Derived.ChangeOld
import Derived.Deep.Slices
import Derived.Deep.Fields
import Derived.ChangeSame
namespace Go.Proofs.Ytbodgbkblocphaa
open Go.ChangeShapes Go.WideShapes Go.Deep

section
variable {H : Type} {enc : TypeId × Value → H} {P : Program} {w : World} {base : Nat} {spare : Nat → Bool} {held : Bool}

/-- A slice whose elements are structs of one-cell fields: element i's field j lies in cell i * (how many fields) + j, and reads as its type says. -/
theorem fields_of {t e : TypeId} {fs : Array Field} {fuel : Nat} {a : Option Addr} {len cap : Nat} {x : DataW H × List MemPlace} (ht : P.underlying t = some (.slice e)) (he : P.underlying e = some (.struct fs))
    (hone : oneCellFields P fs = true) (hC : P.cellsOf e = fs.size) (h : DataW.trod enc P w base spare held fuel t [.slice a len cap] = some x) :
    len ≤ maxLen ∧ (len ≠ 0 → ∃ ad, a = some ad ∧ ∀ i, i < len → ∃ n, ∀ (j : Nat) (f : Field), fs[j]? = some f →
      ∃ v y, w.cell? (ad.add (i * fs.size + j)) = some v ∧ DataW.trod enc P w base spare held n f.type [v] = some y) := by
  rcases open_slice ht h with ⟨h0, _⟩ | ⟨ad, l, c, m, n, D, Pl, hcs, _, hl, hm, hmm, _, hi⟩
  · simp only [List.cons.injEq, Value.slice.injEq, and_true] at h0
    obtain ⟨_, h0, _⟩ := h0
    exact ⟨by rw [h0]; exact Nat.zero_le _, fun hn => absurd h0 hn⟩
  · simp only [List.cons.injEq, Value.slice.injEq, and_true] at hcs
    obtain ⟨rfl, rfl, rfl⟩ := hcs
    refine ⟨Nat.le_trans hl hm, fun _ => ⟨ad, rfl, fun i hil => ?_⟩⟩
    obtain ⟨cells, hc, hr⟩ := hi i (by rw [hmm]; split <;> omega)
    rw [hC] at hc
    obtain ⟨ys, k, _, _, _, hyl, hf⟩ := DataW.trod_struct he hr
    obtain ⟨_, hcl, hat⟩ := World.cells?_some hc
    refine ⟨k, fun j f hj => ?_⟩
    obtain ⟨ho, hk⟩ := hone_of hone j f hj
    have hjs : j < fs.size := (Array.getElem?_eq_some_iff.1 hj).1
    have hr1 := hf j f hj
    rw [ho, hk, List.drop_eq_getElem_cons (by omega)] at hr1
    refine ⟨cells[j]'(by omega), ys[j]'(by omega), ?_, hr1.trans (List.getElem?_eq_getElem (by omega))⟩
    rw [← Go.Deep.add_add, hat j hjs, List.getElem?_eq_getElem (by omega)]
end

theorem lt_of_cell {w : World} {a : Addr} {v : Value} (h : w.cell? a = some v) : a.block < w.heap.size := by
  unfold World.cell? at h
  rcases Nat.lt_or_ge a.block w.heap.size with g | g
  · exact g
  · rw [Array.getElem?_eq_none g] at h
    cases h

/-- The number in a cell. -/
def numOf (v : Option Value) : Int := match v with | some (.int _ n) => n | _ => 0

end Go.Proofs.Ytbodgbkblocphaa
