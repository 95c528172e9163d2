/- Calls and numbers that came in, read off the arguments. -/
import Derived.Test.YtfmcpcciokogiaaStepsW
namespace Go.Proofs.Ytfmcpcciokogiaa
open Go.ChangeShapes Go.WideShapes Go.ChangeAt Go.RowKit Go.Deep

section
variable {H : Type} {enc : TypeId × Value → H} {P : Program} {w : World} {base : Nat} {spare : Nat → Bool} {held : Bool}

/-- A slice whose elements are structs of one-cell fields: element i's field j lies in cell i * (how many fields) + j, and reads as its type says. -/
theorem fields_of {t e : TypeId} {fs : Array Field} {fuel : Nat} {a : Option Addr} {len cap : Nat} {x : DataW H × List MemPlace} (ht : P.underlying t = some (.slice e)) (he : P.underlying e = some (.struct fs))
    (hone : oneCellFields P fs = true) (hC : P.cellsOf e = fs.size) (h : DataW.trod enc P w base spare held fuel t [.slice a len cap] = some x) :
    len ≤ maxLen ∧ (len ≠ 0 → ∃ ad, a = some ad ∧ ∀ i, i < len → ∃ n, ∀ (j : Nat) (f : Field), fs[j]? = some f →
      ∃ v y, w.cell? (ad.add (i * fs.size + j)) = some v ∧ DataW.trod enc P w base spare held n f.type [v] = some y) := by
  rcases open_slice ht h with ⟨h0, _⟩ | ⟨ad, l, c, m, n, D, Pl, hcs, _, hl, hm, hmm, _, hi⟩
  · simp only [List.cons.injEq, Value.slice.injEq, and_true] at h0
    obtain ⟨_, h0, _⟩ := h0
    exact ⟨by rw [h0]; exact Nat.zero_le _, fun hn => absurd h0 hn⟩
  · simp only [List.cons.injEq, Value.slice.injEq, and_true] at hcs
    obtain ⟨rfl, rfl, rfl⟩ := hcs
    refine ⟨Nat.le_trans hl hm, fun _ => ⟨ad, rfl, fun i hil => ?_⟩⟩
    obtain ⟨cells, hc, hr⟩ := hi i (by rw [hmm]; split <;> omega)
    rw [hC] at hc
    obtain ⟨ys, k, _, _, _, hyl, hf⟩ := DataW.trod_struct he hr
    obtain ⟨_, hcl, hat⟩ := World.cells?_some hc
    refine ⟨k, fun j f hj => ?_⟩
    obtain ⟨ho, hk⟩ := hone_of hone j f hj
    have hjs : j < fs.size := (Array.getElem?_eq_some_iff.1 hj).1
    have hr1 := hf j f hj
    rw [ho, hk, List.drop_eq_getElem_cons (by omega)] at hr1
    refine ⟨cells[j]'(by omega), ys[j]'(by omega), ?_, hr1.trans (List.getElem?_eq_getElem (by omega))⟩
    rw [← Go.Deep.add_add, hat j hjs, List.getElem?_eq_getElem (by omega)]
end

def numOf (v : Option Value) : Int := match v with | some (.int _ n) => n | _ => 0
def strOf (v : Option Value) : ByteArray := match v with | some (.string s) => s | _ => ⟨#[]⟩

theorem acts_of {H : Type} {enc : TypeId × Value → H} {W : World} {base : Nat} {spare : Nat → Bool} {held : Bool} {fuel : Nat} {a : Option Addr} {len cap : Nat} {x : DataW H × List MemPlace}
    (hf : DataW.trod enc Try.prog W base spare held fuel 22 [.slice a len cap] = some x) : ∃ on dO key fl, Acts W a len on dO key fl := by
  obtain ⟨hm, hr⟩ := fields_of Try.underlying22 Try.underlying31 (by kernel_rfl) (by kernel_rfl) hf
  by_cases hz : len = 0
  · exact ⟨fun _ => 0, fun _ => 0, fun _ => ⟨#[]⟩, fun _ => 0, hm, fun i hi => by omega⟩
  · obtain ⟨⟨b, off, spot⟩, rfl, hi⟩ := hr hz
    have hspot : spot = Option.none := by
      obtain ⟨_, hfs⟩ := hi 0 (by omega)
      obtain ⟨v0, y0, h0, _⟩ := hfs 0 _ rfl
      simpa [Addr.add] using World.cell?_spot h0
    subst hspot
    refine ⟨fun i => numOf (W.cell? ⟨b, off + i * 4, Option.none⟩), fun i => numOf (W.cell? ⟨b, off + i * 4 + 1, Option.none⟩), fun i => strOf (W.cell? ⟨b, off + i * 4 + 2, Option.none⟩), fun i => (numOf (W.cell? ⟨b, off + i * 4 + 3, Option.none⟩)).toNat, hm, fun i hil => ?_⟩
    obtain ⟨n, hfs⟩ := hi i hil
    obtain ⟨v0, y0, h0, t0⟩ := hfs 0 _ rfl
    obtain ⟨v1, y1, h1, t1⟩ := hfs 1 _ rfl
    obtain ⟨v2, y2, h2, t2⟩ := hfs 2 _ rfl
    obtain ⟨v3, y3, h3, t3⟩ := hfs 3 _ rfl
    obtain ⟨n0, e0, _, w0⟩ := DataW.trod_int Try.underlying3 t0
    obtain ⟨n1, e1, _, _⟩ := DataW.trod_int Try.underlying3 t1
    obtain ⟨n2, e2, _, w2⟩ := DataW.trod_string Try.underlying9 t2
    obtain ⟨n3, e3, _, w3⟩ := DataW.trod_int Try.underlying29 t3
    simp only [List.cons.injEq, and_true] at e0 e1 e2 e3
    subst e0 e1 e2 e3
    simp only [List.size_toArray, List.length_cons, List.length_nil] at h0 h1 h2 h3
    have e : ∀ k, (⟨b, off, Option.none⟩ : Addr).add k = ⟨b, off + k, Option.none⟩ := fun k => by
      unfold Addr.add; split
      · rename_i hk; subst hk; rfl
      · rfl
    rw [e] at h0 h1 h2 h3
    have a0 : W.cell? ⟨b, off + i * 4, Option.none⟩ = some (.int .i64 n0) := by simpa using h0
    have a1 : W.cell? ⟨b, off + i * 4 + 1, Option.none⟩ = some (.int .i64 n1) := by rw [← h1]; congr 2
    have a2 : W.cell? ⟨b, off + i * 4 + 2, Option.none⟩ = some (.string n2) := by rw [← h2]; congr 2
    have a3 : W.cell? ⟨b, off + i * 4 + 3, Option.none⟩ = some (.int .u64 n3) := by rw [← h3]; congr 2
    have b0 := bounds_i64 w0
    have b3 := bounds_u64 w3
    refine ⟨b, off, rfl, lt_of_cell a0, ?_, ?_, ?_, ?_, ?_, ?_, ?_⟩
    · simp only [a0, numOf]
    · simp only [a1, numOf]
    · simp only [a2, strOf]
    · simp only [a3, numOf]
      rw [Int.toNat_of_nonneg b3.1]
    · simp only [a2, strOf]
      exact w2
    · simp only [a0, numOf]
      exact b0.1
    · simp only [a0, numOf]
      omega

theorem us_of {H : Type} {enc : TypeId × Value → H} {W : World} {base : Nat} {spare : Nat → Bool} {held : Bool} {fuel : Nat} {a : Option Addr} {len cap : Nat} {x : DataW H × List MemPlace}
    (hf : DataW.trod enc Try.prog W base spare held fuel 23 [.slice a len cap] = some x) : Us W a len := by
  obtain ⟨a', len', cap', e, hm, hlc, hr⟩ := elems_of Try.underlying23 (by kernel_rfl) hf
  cases e
  refine ⟨hm, fun i hil => ?_⟩
  obtain ⟨ad, rfl, hi⟩ := hr (by omega)
  obtain ⟨n, u, y, hc, ht⟩ := hi i hil
  obtain ⟨n0, e0, _, w0⟩ := DataW.trod_int Try.underlying29 ht
  simp only [List.cons.injEq, and_true] at e0
  subst e0
  have b0 := bounds_u64 w0
  obtain ⟨c, rfl⟩ : ∃ c : Nat, n0 = (c : Int) := ⟨n0.toNat, by omega⟩
  refine ⟨ad, c, rfl, ?_, hc, by omega⟩
  have := lt_of_cell hc
  rwa [add_block] at this

end Go.Proofs.Ytfmcpcciokogiaa
