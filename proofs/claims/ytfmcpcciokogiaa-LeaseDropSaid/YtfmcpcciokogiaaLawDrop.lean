/- LeaseDrop: a lease that is dropped is never due, and the others are, in their order, as if it had not been. For every input: no condition. -/
import Derived.Test.YtfmcpcciokogiaaDropW
namespace Go.Proofs.Ytfmcpcciokogiaa
open Go.ChangeShapes Go.WideShapes Go.ChangeAt Go.RowKit Go.Deep
open Go.ChangeMaps (open_string shut_string)

def boolOf (v : Option Value) : Bool := match v with | some (.bool b) => b | _ => false

theorem bools_of {H : Type} {enc : TypeId × Value → H} {W : World} {base : Nat} {spare : Nat → Bool} {held : Bool} {fuel : Nat} {a : Option Addr} {len cap : Nat} {x : DataW H × List MemPlace}
    (hf : DataW.trod enc Try.prog W base spare held fuel 51 [.slice a len cap] = some x) : ∃ g, Bools W a len g := by
  obtain ⟨a', len', cap', e, hm, hlc, hr⟩ := elems_of Try.underlying51 (by kernel_rfl) hf
  cases e
  by_cases hz : len = 0
  · exact ⟨fun _ => false, hm, fun i hi => by omega⟩
  · obtain ⟨ad, rfl, hi⟩ := hr hz
    refine ⟨fun i => boolOf (W.cell? (ad.add i)), hm, fun i hil => ?_⟩
    obtain ⟨n, u, y, hc, ht⟩ := hi i hil
    obtain ⟨b, e0, _⟩ := DataW.trod_bool Try.underlying4 ht
    simp only [List.cons.injEq, and_true] at e0
    subst e0
    refine ⟨ad, rfl, ?_, by dsimp only; rw [hc]; rfl⟩
    have := lt_of_cell hc
    rwa [add_block] at this

theorem caught_of {W : World} {a a2 : Option Addr} {len cap len2 cap2 : Nat} {on dO : Nat → Int} {key : Nat → ByteArray} {fl : Nat → Nat} {g : Nat → Bool} (hp : Acts W a len on dO key fl) (hq : Bools W a2 len2 g) :
    Caught ((W.alloc (.cells #[.slice a len cap] 22)).alloc (.cells #[.slice a2 len2 cap2] 51)) W.heap.size (W.heap.size + 1) a a2 len cap len2 cap2 key fl g := by
  have hB : Below W.heap.size W ((W.alloc (.cells #[.slice a len cap] 22)).alloc (.cells #[.slice a2 len2 cap2] 51)) := (alloc_below _ _).trans ((alloc_below _ _).mono (by rw [alloc_size]; omega))
  refine ⟨(Below.heap_alloc _ _ _ (by rw [alloc_size]; omega)).trans (heap_alloc_new _ _), ?_, fun i hi => ?_, fun i hi => ?_⟩
  · have := heap_alloc_new (W.alloc (.cells #[.slice a len cap] 22)) (.cells #[.slice a2 len2 cap2] 51)
    rw [alloc_size] at this
    exact this
  · obtain ⟨b, off, rfl, hlt, _, _, h2, h3, h4, _⟩ := hp.2 i hi
    exact ⟨b, off, rfl, by rw [alloc_size, alloc_size]; omega, (hB.cell (p := ⟨b, off + i * 4 + 2, Option.none⟩) hlt).trans h2, (hB.cell (p := ⟨b, off + i * 4 + 3, Option.none⟩) hlt).trans h3, h4⟩
  · obtain ⟨ad, rfl, hlt, h1⟩ := hq.2 i hi
    exact ⟨ad, rfl, by rw [alloc_size, alloc_size]; omega, (hB.cell (p := ad.add i) (by rw [add_block]; exact hlt)).trans h1⟩

theorem drop_law {W : World} (a : Option Addr) (len cap : Nat) (hp : ∃ on dO key fl, Acts W a len on dO key fl) (a2 : Option Addr) (len2 cap2 : Nat) (hq : ∃ g, Bools W a2 len2 g) :
    Calls Try.prog 6 #[.slice a len cap, .slice a2 len2 cap2] W fun e w' => e = .returned (.bool true) ∧ Below W.heap.size W w' := by
  obtain ⟨on, dO, key, fl, hp⟩ := hp
  obtain ⟨g, hq⟩ := hq
  exact drop_walk _ _ _ a a2 len cap len2 cap2 key fl g W rfl rfl rfl (caught_of hp hq)

set_option maxRecDepth 100000 in
theorem leaseDrop_lifted (os : Os) (started : os.Started) (H : Type) (enc : TypeId × Value → H) :
    ReturnsInHanded {} Try.checked os 6 .any (Rows.leaseDropSpec.pre6 enc Try.prog Try.f6 Rows.leaseDropRow.domain false) (Rows.leaseDropSpec.post enc Try.prog Try.f6 false true false false) := by
  refine returnsInHanded_of_change (C := Try.checked) own started (by kernel_rfl) Try.func6
    (ChangeSpec.witness6 (enc := enc) (C := Try.checked) false ⟨#[], #[.slice Option.none 0 0, .slice Option.none 0 0], []⟩ 8 (by kernel_rfl) (by kernel_rfl) (by kernel_rfl) (by kernel_rfl)) ?_
  intro W base args ds gs before hval0 hW hcnd _
  have hval : ∀ (j : Nat) t v, Try.f6.params[j]? = some t → args[j]? = some v → Value.okWide Try.prog W .any base t v := hval0
  have hW' := hW
  obtain ⟨p, q, hA0, hV, rfl, hfz, hnd⟩ := hW
  have hA : DataW.TrodAll enc Try.prog W 0 (fun _ => true) true Try.f6.params.toList args.toList ds p := hA0
  rw [Try.params6] at hA hval
  obtain ⟨v0, vs0, d0, ds0, p0, q0, hargs, rfl, rfl, h0, r0⟩ := trodAll_cons hA
  obtain ⟨v1, vs1, d1, ds1, p1, q1, rfl, rfl, rfl, h1, r1⟩ := trodAll_cons r0
  obtain ⟨rfl, rfl, rfl⟩ := trodAll_nil r1
  obtain rfl : args = #[v0, v1] := by cases args; simp_all
  obtain ⟨rfl, rfl⟩ := trodVars_none hV
  obtain ⟨a0, len0, cap0, rfl⟩ := okWide_slice Try.underlying22 (hval 0 22 v0 rfl rfl)
  have k0 := h0
  have lt0 : ∀ x ∈ p0, x.block < W.heap.size := by obtain ⟨m, hm⟩ := k0; exact DataW.trod_lt m _ _ _ hm
  have hp0 : ∃ on dO key fl, Acts W a0 len0 on dO key fl := by
    obtain ⟨fuel, hf⟩ := h0
    exact acts_of hf
  obtain ⟨a1, len1, cap1, rfl⟩ := okWide_slice Try.underlying51 (hval 1 51 v1 rfl rfl)
  have k1 := h1
  have lt1 : ∀ x ∈ p1, x.block < W.heap.size := by obtain ⟨m, hm⟩ := k1; exact DataW.trod_lt m _ _ _ hm
  have hp1 : ∃ g, Bools W a1 len1 g := by
    obtain ⟨fuel, hf⟩ := h1
    exact bools_of hf
  clear hA0 hval0
  refine ((drop_law a0 len0 cap0 hp0 a1 len1 cap1 hp1)).mono fun e W' ⟨he, bel⟩ => ?_
  subst he
  exact ⟨_, rfl, _, _, _, [], _, [], hW', trodAll_mk1 (shut_bool Try.underlying4 _), (trodAll_cons_mk (Below.trod laidOut (by kernel_rfl) (of_decide_eq_true (by kernel_rfl)) k0 bel lt0) (trodAll_cons_mk (Below.trod laidOut (by kernel_rfl) (of_decide_eq_true (by kernel_rfl)) k1 bel lt1) trodAll_mk0)), rfl, bel.frame _, fun h => by cases h⟩

theorem leaseDrop_over : Rows.leaseDropRow.holds Try.pinned (OpenSpec.ofChange Rows.leaseDropSpec) :=
  OpenClaim.holds_of_wide 6 Try.f6 rfl rfl rfl rfl rfl rfl rfl ⟨rfl, rfl, rfl, rfl, rfl⟩ rfl rfl rfl rfl rfl (by kernel_rfl) Try.func6 (by kernel_rfl)
    (of_decide_eq_true (by kernel_rfl)) (by unfold Func.isWrapper; first | (rw [if_pos (by decide +kernel)]; kernel_rfl) | (rw [if_neg (by decide +kernel)]; exact ⟨rfl, rfl⟩))
    (fun os started H enc _ => leaseDrop_lifted os started H enc)

/-- The statement. -/
theorem LeaseDrop_holds : Rows.LeaseDropSaid := leaseDrop_over
#print axioms LeaseDrop_holds

