/- FrameCuts: however a stream is cut, the payloads, the error and what is held are the same. For every input: no condition. -/
import Derived.Test.YtjeeiaelicekhaaCutsW
namespace Go.Proofs.Ytjeeiaelicekhaa
open Go.ChangeShapes Go.WideShapes Go.ChangeAt Go.RowKit Go.Deep
open Go.ChangeMaps (open_string shut_string)

theorem ints_of {H : Type} {enc : TypeId × Value → H} {W : World} {base : Nat} {spare : Nat → Bool} {held : Bool} {fuel : Nat} {a : Option Addr} {len cap : Nat} {x : DataW H × List MemPlace}
    (hf : DataW.trod enc Try.prog W base spare held fuel 40 [.slice a len cap] = some x) : Ints W a len := by
  obtain ⟨a', len', cap', e, hm, hlc, hr⟩ := elems_of Try.underlying40 (by kernel_rfl) hf
  cases e
  refine ⟨hm, fun i hil => ?_⟩
  obtain ⟨ad, rfl, hi⟩ := hr (by omega)
  obtain ⟨n, u, y, hc, ht⟩ := hi i hil
  obtain ⟨n0, e0, _, w0⟩ := DataW.trod_int Try.underlying3 ht
  simp only [List.cons.injEq, and_true] at e0
  subst e0
  have b0 := bounds_i64 w0
  refine ⟨ad, n0, rfl, ?_, hc, by omega, by omega⟩
  have := lt_of_cell hc
  rwa [add_block] at this

theorem cuts_law {W : World} (x : Int) (hx : (Lit.int .i64 x).wf = true) (v : Value) (hv : ∃ l, Src W v (cel l)) (a : Option Addr) (len cap : Nat) (hp : Ints W a len) :
    Calls Try.prog 4 #[.int .i64 x, v, .slice a len cap] W fun e w' => e = .returned (.bool true) ∧ Below W.heap.size W w' := by
  have bx := bounds_i64 hx
  obtain ⟨l, hl⟩ := hv
  exact fcuts_walk x (by omega) (by omega) v l a len cap W hl hp

set_option maxRecDepth 100000 in
theorem frameCuts_lifted (os : Os) (started : os.Started) (H : Type) (enc : TypeId × Value → H) :
    ReturnsInHanded {} Try.checked os 4 .any (Rows.frameCutsSpec.pre6 enc Try.prog Try.f4 Rows.frameCutsRow.domain false) (Rows.frameCutsSpec.post enc Try.prog Try.f4 false true false false) := by
  refine returnsInHanded_of_change (C := Try.checked) own started (by kernel_rfl) Try.func4
    (ChangeSpec.witness6 (enc := enc) (C := Try.checked) false ⟨#[], #[.int .i64 0, .slice Option.none 0 0, .slice Option.none 0 0], []⟩ 8 (by kernel_rfl) (by kernel_rfl) (by kernel_rfl) (by kernel_rfl)) ?_
  intro W base args ds gs before hval0 hW hcnd _
  have hval : ∀ (j : Nat) t v, Try.f4.params[j]? = some t → args[j]? = some v → Value.okWide Try.prog W .any base t v := hval0
  have hW' := hW
  obtain ⟨p, q, hA0, hV, rfl, hfz, hnd⟩ := hW
  have hA : DataW.TrodAll enc Try.prog W 0 (fun _ => true) true Try.f4.params.toList args.toList ds p := hA0
  rw [Try.params4] at hA hval
  obtain ⟨v0, vs0, d0, ds0, p0, q0, hargs, rfl, rfl, h0, r0⟩ := trodAll_cons hA
  obtain ⟨v1, vs1, d1, ds1, p1, q1, rfl, rfl, rfl, h1, r1⟩ := trodAll_cons r0
  obtain ⟨v2, vs2, d2, ds2, p2, q2, rfl, rfl, rfl, h2, r2⟩ := trodAll_cons r1
  obtain ⟨rfl, rfl, rfl⟩ := trodAll_nil r2
  obtain rfl : args = #[v0, v1, v2] := by cases args; simp_all
  obtain ⟨rfl, rfl⟩ := trodVars_none hV
  obtain ⟨a0, rfl, rfl, rfl, w0⟩ := open_int Try.underlying3 (hval 0 3 v0 rfl rfl) h0
  obtain ⟨a1, len1, cap1, rfl⟩ := okWide_slice Try.underlying31 (hval 1 31 v1 rfl rfl)
  have k1 := h1
  have lt1 : ∀ x ∈ p1, x.block < W.heap.size := by obtain ⟨m, hm⟩ := k1; exact DataW.trod_lt m _ _ _ hm
  have hp1 : ∃ l, Src W (.slice a1 len1 cap1) (cel l) := by
    obtain ⟨fuel, hf⟩ := h1
    exact bytes_of hf
  obtain ⟨a2, len2, cap2, rfl⟩ := okWide_slice Try.underlying40 (hval 2 40 v2 rfl rfl)
  have k2 := h2
  have lt2 : ∀ x ∈ p2, x.block < W.heap.size := by obtain ⟨m, hm⟩ := k2; exact DataW.trod_lt m _ _ _ hm
  have hp2 : Ints W a2 len2 := by
    obtain ⟨fuel, hf⟩ := h2
    exact ints_of hf
  clear hA0 hval0
  refine ((cuts_law a0 w0 _ hp1 a2 len2 cap2 hp2)).mono fun e W' ⟨he, bel⟩ => ?_
  subst he
  exact ⟨_, rfl, _, _, _, [], _, [], hW', trodAll_mk1 (shut_bool Try.underlying4 _), (trodAll_cons_mk (shut_int Try.underlying3 w0) (trodAll_cons_mk (Below.trod laidOut (by kernel_rfl) (of_decide_eq_true (by kernel_rfl)) k1 bel lt1) (trodAll_cons_mk (Below.trod laidOut (by kernel_rfl) (of_decide_eq_true (by kernel_rfl)) k2 bel lt2) trodAll_mk0))), rfl, bel.frame _, fun h => by cases h⟩

theorem frameCuts_over : Rows.frameCutsRow.holds Try.pinned (OpenSpec.ofChange Rows.frameCutsSpec) :=
  OpenClaim.holds_of_wide 4 Try.f4 rfl rfl rfl rfl rfl rfl rfl ⟨rfl, rfl, rfl, rfl, rfl⟩ rfl rfl rfl rfl rfl (by kernel_rfl) Try.func4 (by kernel_rfl)
    (of_decide_eq_true (by kernel_rfl)) (by unfold Func.isWrapper; first | (rw [if_pos (by decide +kernel)]; kernel_rfl) | (rw [if_neg (by decide +kernel)]; exact ⟨rfl, rfl⟩))
    (fun os started H enc _ => frameCuts_lifted os started H enc)

/-- The statement. -/
theorem FrameCuts_holds : Rows.FrameCutsSaid := frameCuts_over
#print axioms FrameCuts_holds

