/- A slice of structs that came in, opened to its cells. -/
import Derived.Test.YtbodgbkblocphaaWake
import Derived.ProofKit
import Derived.OpenShut
import Derived.ChangeOld
import Derived.Deep.Slices
import Derived.Deep.Fields
import Derived.ChangeSame
namespace Go.Proofs.Ytbodgbkblocphaa
open Go.ChangeShapes Go.WideShapes Go.ChangeAt Go.RowKit Go.Deep

section
variable {H : Type} {enc : TypeId × Value → H} {P : Program} {w : World} {base : Nat} {spare : Nat → Bool} {held : Bool}

/-- A slice whose elements are structs of one-cell fields: element i's field j lies in cell i * (how many fields) + j, and reads as its type says. -/
theorem fields_of {t e : TypeId} {fs : Array Field} {fuel : Nat} {a : Option Addr} {len cap : Nat} {x : DataW H × List MemPlace} (ht : P.underlying t = some (.slice e)) (he : P.underlying e = some (.struct fs))
    (hone : oneCellFields P fs = true) (hC : P.cellsOf e = fs.size) (h : DataW.trod enc P w base spare held fuel t [.slice a len cap] = some x) :
    len ≤ maxLen ∧ (len ≠ 0 → ∃ ad, a = some ad ∧ ∀ i, i < len → ∃ n, ∀ (j : Nat) (f : Field), fs[j]? = some f →
      ∃ v y, w.cell? (ad.add (i * fs.size + j)) = some v ∧ DataW.trod enc P w base spare held n f.type [v] = some y) := by
  rcases open_slice ht h with ⟨h0, _⟩ | ⟨ad, l, c, m, n, D, Pl, hcs, _, hl, hm, hmm, _, hi⟩
  · simp only [List.cons.injEq, Value.slice.injEq, and_true] at h0
    obtain ⟨_, h0, _⟩ := h0
    exact ⟨by rw [h0]; exact Nat.zero_le _, fun hn => absurd h0 hn⟩
  · simp only [List.cons.injEq, Value.slice.injEq, and_true] at hcs
    obtain ⟨rfl, rfl, rfl⟩ := hcs
    refine ⟨Nat.le_trans hl hm, fun _ => ⟨ad, rfl, fun i hil => ?_⟩⟩
    obtain ⟨cells, hc, hr⟩ := hi i (by rw [hmm]; split <;> omega)
    rw [hC] at hc
    obtain ⟨ys, k, _, _, _, hyl, hf⟩ := DataW.trod_struct he hr
    obtain ⟨_, hcl, hat⟩ := World.cells?_some hc
    refine ⟨k, fun j f hj => ?_⟩
    obtain ⟨ho, hk⟩ := hone_of hone j f hj
    have hjs : j < fs.size := (Array.getElem?_eq_some_iff.1 hj).1
    have hr1 := hf j f hj
    rw [ho, hk, List.drop_eq_getElem_cons (by omega)] at hr1
    refine ⟨cells[j]'(by omega), ys[j]'(by omega), ?_, hr1.trans (List.getElem?_eq_getElem (by omega))⟩
    rw [← Go.Deep.add_add, hat j hjs, List.getElem?_eq_getElem (by omega)]
end

theorem lt_of_cell {w : World} {a : Addr} {v : Value} (h : w.cell? a = some v) : a.block < w.heap.size := by
  unfold World.cell? at h
  rcases Nat.lt_or_ge a.block w.heap.size with g | g
  · exact g
  · rw [Array.getElem?_eq_none g] at h
    cases h

/-- The number in a cell. -/
def numOf (v : Option Value) : Int := match v with | some (.int _ n) => n | _ => 0

/-- What the walk is told of the calls that came in: cell 3 i + j of the row. -/
def Asks (w : World) (a : Option Addr) (len : Nat) (do_ : Nat → Int) (now cost : Nat → Nat) : Prop :=
  len ≤ 9223372036854775807 ∧ ∀ i, i < len → ∃ b off, a = some ⟨b, off, none⟩ ∧ b < w.heap.size ∧ w.cell? ⟨b, off + i * 3, none⟩ = some (.int .i64 (do_ i)) ∧
    w.cell? ⟨b, off + i * 3 + 1, none⟩ = some (.int .u64 (now i)) ∧ w.cell? ⟨b, off + i * 3 + 2, none⟩ = some (.int .u64 (cost i))

theorem Bk.only {w w' : World} {b b' t r bu lv la : Nat} (h : Bk w b t r bu lv la) (hg : w.grownBy w' (some b')) (hne : b ≠ b') : Bk w' b t r bu lv la := by
  have hlt : b < w.heap.size := (Array.getElem?_eq_some_iff.1 h).1
  exact (hg.block b hlt (fun e => hne (by injection e))).trans h

theorem own : ownKnob Try.prog.godebug = Option.none := by kernel_rfl
theorem laidOut : laidOutB Try.prog = true := by kernel_rfl

theorem asks_of {H : Type} {enc : TypeId × Value → H} {W : World} {base : Nat} {spare : Nat → Bool} {held : Bool} {fuel : Nat} {a : Option Addr} {len cap : Nat} {x : DataW H × List MemPlace}
    (hf : DataW.trod enc Try.prog W base spare held fuel 41 [.slice a len cap] = some x) : ∃ d p q, Asks W a len d p q := by
  obtain ⟨hm, hr⟩ := fields_of Try.underlying41 Try.underlying46 (by kernel_rfl) (by kernel_rfl) hf
  by_cases hz : len = 0
  · exact ⟨fun _ => 0, fun _ => 0, fun _ => 0, by omega, fun i hi => by omega⟩
  · obtain ⟨⟨b, off, spot⟩, rfl, hi⟩ := hr hz
    have hspot : spot = Option.none := by
      obtain ⟨_, hfs⟩ := hi 0 (by omega)
      obtain ⟨v0, y0, h0, _⟩ := hfs 0 _ rfl
      simpa [Addr.add] using World.cell?_spot h0
    subst hspot
    refine ⟨fun i => numOf (W.cell? ⟨b, off + i * 3, Option.none⟩), fun i => (numOf (W.cell? ⟨b, off + i * 3 + 1, Option.none⟩)).toNat, fun i => (numOf (W.cell? ⟨b, off + i * 3 + 2, Option.none⟩)).toNat, by unfold maxLen at hm; omega, fun i hil => ?_⟩
    obtain ⟨n, hfs⟩ := hi i hil
    obtain ⟨v0, y0, h0, t0⟩ := hfs 0 _ rfl
    obtain ⟨v1, y1, h1, t1⟩ := hfs 1 _ rfl
    obtain ⟨v2, y2, h2, t2⟩ := hfs 2 _ rfl
    obtain ⟨n0, e0, _, _⟩ := DataW.trod_int Try.underlying3 t0
    obtain ⟨n1, e1, _, w1⟩ := DataW.trod_int Try.underlying32 t1
    obtain ⟨n2, e2, _, w2⟩ := DataW.trod_int Try.underlying32 t2
    simp only [List.cons.injEq, and_true] at e0 e1 e2
    subst e0 e1 e2
    simp only [List.size_toArray, List.length_cons, List.length_nil] at h0 h1 h2
    have e : ∀ k, (⟨b, off, Option.none⟩ : Addr).add k = ⟨b, off + k, Option.none⟩ := fun k => by
      unfold Addr.add; split
      · rename_i hk; subst hk; rfl
      · rfl
    rw [e] at h0 h1 h2
    have a0 : W.cell? ⟨b, off + i * 3, Option.none⟩ = some (.int .i64 n0) := by simpa using h0
    have a1 : W.cell? ⟨b, off + i * 3 + 1, Option.none⟩ = some (.int .u64 n1) := by rw [← h1]; congr 2
    have a2 : W.cell? ⟨b, off + i * 3 + 2, Option.none⟩ = some (.int .u64 n2) := by rw [← h2]; congr 2
    have b1 := bounds_u64 w1
    have b2 := bounds_u64 w2
    refine ⟨b, off, rfl, lt_of_cell a0, ?_, ?_, ?_⟩
    · simp only [a0, numOf]
    · simp only [a1, numOf]
      rw [Int.toNat_of_nonneg b1.1]
    · simp only [a2, numOf]
      rw [Int.toNat_of_nonneg b2.1]

end Go.Proofs.Ytbodgbkblocphaa
