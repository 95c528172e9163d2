/- LeaseNever: a lease without an end is due at no time that comes, however late; one that is set anew ends as it was set last. For every input: no condition. -/
import Derived.Test.YtfmcpcciokogiaaNeverW
namespace Go.Proofs.Ytfmcpcciokogiaa
open Go.ChangeShapes Go.WideShapes Go.ChangeAt Go.RowKit Go.Deep
open Go.ChangeMaps (open_string shut_string)

theorem us_of {H : Type} {enc : TypeId × Value → H} {W : World} {base : Nat} {spare : Nat → Bool} {held : Bool} {fuel : Nat} {a : Option Addr} {len cap : Nat} {x : DataW H × List MemPlace}
    (hf : DataW.trod enc Try.prog W base spare held fuel 23 [.slice a len cap] = some x) : Us W a len := by
  obtain ⟨a', len', cap', e, hm, hlc, hr⟩ := elems_of Try.underlying23 (by kernel_rfl) hf
  cases e
  refine ⟨hm, fun i hil => ?_⟩
  obtain ⟨ad, rfl, hi⟩ := hr (by omega)
  obtain ⟨n, u, y, hc, ht⟩ := hi i hil
  obtain ⟨n0, e0, _, w0⟩ := DataW.trod_int Try.underlying29 ht
  simp only [List.cons.injEq, and_true] at e0
  subst e0
  have b0 := bounds_u64 w0
  obtain ⟨c, rfl⟩ : ∃ c : Nat, n0 = (c : Int) := ⟨n0.toNat, by omega⟩
  refine ⟨ad, c, rfl, ?_, hc, by omega⟩
  have := lt_of_cell hc
  rwa [add_block] at this

theorem never_law {W : World} (y : Int) (hy : (Lit.int .u64 y).wf = true) (a : Option Addr) (len cap : Nat) (hp : Us W a len) :
    Calls Try.prog 5 #[.slice a len cap, .int .u64 y] W fun e w' => e = .returned (.bool true) ∧ Below W.heap.size W w' := by
  have bY := bounds_u64 hy
  obtain ⟨b, rfl⟩ : ∃ b : Nat, y = (b : Int) := ⟨y.toNat, by omega⟩
  exact never_walk a len cap b W hp

set_option maxRecDepth 100000 in
theorem leaseNever_lifted (os : Os) (started : os.Started) (H : Type) (enc : TypeId × Value → H) :
    ReturnsInHanded {} Try.checked os 5 .any (Rows.leaseNeverSpec.pre6 enc Try.prog Try.f5 Rows.leaseNeverRow.domain false) (Rows.leaseNeverSpec.post enc Try.prog Try.f5 false true false false) := by
  refine returnsInHanded_of_change (C := Try.checked) own started (by kernel_rfl) Try.func5
    (ChangeSpec.witness6 (enc := enc) (C := Try.checked) false ⟨#[], #[.slice Option.none 0 0, .int .u64 0], []⟩ 8 (by kernel_rfl) (by kernel_rfl) (by kernel_rfl) (by kernel_rfl)) ?_
  intro W base args ds gs before hval0 hW hcnd _
  have hval : ∀ (j : Nat) t v, Try.f5.params[j]? = some t → args[j]? = some v → Value.okWide Try.prog W .any base t v := hval0
  have hW' := hW
  obtain ⟨p, q, hA0, hV, rfl, hfz, hnd⟩ := hW
  have hA : DataW.TrodAll enc Try.prog W 0 (fun _ => true) true Try.f5.params.toList args.toList ds p := hA0
  rw [Try.params5] at hA hval
  obtain ⟨v0, vs0, d0, ds0, p0, q0, hargs, rfl, rfl, h0, r0⟩ := trodAll_cons hA
  obtain ⟨v1, vs1, d1, ds1, p1, q1, rfl, rfl, rfl, h1, r1⟩ := trodAll_cons r0
  obtain ⟨rfl, rfl, rfl⟩ := trodAll_nil r1
  obtain rfl : args = #[v0, v1] := by cases args; simp_all
  obtain ⟨rfl, rfl⟩ := trodVars_none hV
  obtain ⟨a0, len0, cap0, rfl⟩ := okWide_slice Try.underlying23 (hval 0 23 v0 rfl rfl)
  have k0 := h0
  have lt0 : ∀ x ∈ p0, x.block < W.heap.size := by obtain ⟨m, hm⟩ := k0; exact DataW.trod_lt m _ _ _ hm
  have hp0 : Us W a0 len0 := by
    obtain ⟨fuel, hf⟩ := h0
    exact us_of hf
  obtain ⟨a1, rfl, rfl, rfl, w1⟩ := open_int Try.underlying29 (hval 1 29 v1 rfl rfl) h1
  clear hA0 hval0
  refine ((never_law a1 w1 a0 len0 cap0 hp0)).mono fun e W' ⟨he, bel⟩ => ?_
  subst he
  exact ⟨_, rfl, _, _, _, [], _, [], hW', trodAll_mk1 (shut_bool Try.underlying4 _), (trodAll_cons_mk (Below.trod laidOut (by kernel_rfl) (of_decide_eq_true (by kernel_rfl)) k0 bel lt0) (trodAll_cons_mk (shut_int Try.underlying29 w1) trodAll_mk0)), rfl, bel.frame _, fun h => by cases h⟩

theorem leaseNever_over : Rows.leaseNeverRow.holds Try.pinned (OpenSpec.ofChange Rows.leaseNeverSpec) :=
  OpenClaim.holds_of_wide 5 Try.f5 rfl rfl rfl rfl rfl rfl rfl ⟨rfl, rfl, rfl, rfl, rfl⟩ rfl rfl rfl rfl rfl (by kernel_rfl) Try.func5 (by kernel_rfl)
    (of_decide_eq_true (by kernel_rfl)) (by unfold Func.isWrapper; first | (rw [if_pos (by decide +kernel)]; kernel_rfl) | (rw [if_neg (by decide +kernel)]; exact ⟨rfl, rfl⟩))
    (fun os started H enc _ => leaseNever_lifted os started H enc)

/-- The statement. -/
theorem LeaseNever_holds : Rows.LeaseNeverSaid := leaseNever_over
#print axioms LeaseNever_holds

