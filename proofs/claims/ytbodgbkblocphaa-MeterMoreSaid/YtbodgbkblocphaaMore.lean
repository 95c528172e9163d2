/- MeterMore: of two buckets that were emptied at the same time the one with the higher rate has never less, and both have never less as time goes on. For every input: no condition. -/
import Derived.Test.YtbodgbkblocphaaMoreW
import Derived.Lib.SmallJoins
namespace Go.Proofs.Ytbodgbkblocphaa
open Go.ChangeShapes Go.WideShapes Go.ChangeAt Go.RowKit Go.Deep Go.Joins
open Go.ChangeMaps (open_string shut_string)

theorem row64_of {H : Type} {enc : TypeId × Value → H} {W : World} {base : Nat} {spare : Nat → Bool} {held : Bool} {fuel : Nat} {v : Value} {x : DataW H × List MemPlace}
    (hf : DataW.trod enc Try.prog W base spare held fuel 35 [v] = some x) : ∃ a n c z, v = .slice a n c ∧ Row64 W a n z := by
  rcases open_ints Try.underlying35 Try.underlying32 (by kernel_rfl) hf with ⟨hcs, _⟩ | ⟨ad, l, c, zs, hcs, _, hl, hm, hz, _, hcell, hwz⟩
  · simp only [List.cons.injEq, and_true] at hcs
    exact ⟨_, _, _, fun _ => 0, hcs, by omega, fun i hi => by omega⟩
  · simp only [List.cons.injEq, and_true] at hcs
    have hlz : l ≤ zs.length := by rw [hz]; split <;> omega
    refine ⟨_, _, _, fun i => (zs.getD i 0).toNat, hcs, by unfold maxLen at hm; omega, fun i hil => ?_⟩
    have hb := bounds_u64 (hwz (zs.getD i 0) (by rw [List.getD_eq_getElem?_getD, List.getElem?_eq_getElem (by omega)]; exact List.getElem_mem _))
    obtain ⟨b, off, spot⟩ := ad
    have hspot : spot = Option.none := by
      have h0 := hcell 0 (by omega)
      simpa [Addr.add] using World.cell?_spot h0
    subst hspot
    have hc := hcell i (by omega)
    have e : (⟨b, off, Option.none⟩ : Addr).add i = ⟨b, off + i, Option.none⟩ := by
      unfold Addr.add; split
      · rename_i hk; subst hk; rfl
      · rfl
    rw [e] at hc
    refine ⟨b, off, rfl, lt_of_cell hc, ?_⟩
    rw [hc]
    show some (Value.int .u64 (zs.getD i 0)) = some (Value.int .u64 (((zs.getD i 0).toNat : Nat) : Int))
    rw [Int.toNat_of_nonneg hb.1]

theorem more_walk' (x y s : Int) (hx : (Lit.int .u64 x).wf = true) (hy : (Lit.int .u64 y).wf = true) (hs : (Lit.int .u64 s).wf = true) (a : Option Addr) (n c : Nat) (z : Nat → Nat) (w : World) (h : Row64 w a n z) :
    Calls Try.prog 4 #[.agg #[.int .u64 x, .int .u64 y, .int .u64 s, .slice a n c]] w fun e w' => e = .returned (.bool true) ∧ Below w.heap.size w w' := by
  have bx := bounds_u64 hx
  have bY := bounds_u64 hy
  have bs := bounds_u64 hs
  obtain ⟨m, rfl⟩ := Int.eq_ofNat_of_zero_le bx.1
  obtain ⟨l, rfl⟩ := Int.eq_ofNat_of_zero_le bY.1
  obtain ⟨k, rfl⟩ := Int.eq_ofNat_of_zero_le bs.1
  exact more_walk m l k (by omega) (by omega) (by omega) a n c z w h

set_option maxRecDepth 100000 in
theorem meterMore_lifted (os : Os) (started : os.Started) (H : Type) (enc : TypeId × Value → H) :
    ReturnsInHanded {} Try.checked os 4 .any (Rows.meterMoreSpec.pre6 enc Try.prog Try.f4 Rows.meterMoreRow.domain false) (Rows.meterMoreSpec.post enc Try.prog Try.f4 false true false false) := by
  refine returnsInHanded_of_change (C := Try.checked) own started (by kernel_rfl) Try.func4
    (ChangeSpec.witness6 (enc := enc) (C := Try.checked) false ⟨#[], #[.agg #[.int .u64 0, .int .u64 0, .int .u64 0, .slice Option.none 0 0]], []⟩ 8 (by kernel_rfl) (by kernel_rfl) (by kernel_rfl) (by kernel_rfl)) ?_
  intro W base args ds gs before hval0 hW hcnd _
  have hval : ∀ (j : Nat) t v, Try.f4.params[j]? = some t → args[j]? = some v → Value.okWide Try.prog W .any base t v := hval0
  have hW' := hW
  obtain ⟨p, q, hA0, hV, rfl, hfz, hnd⟩ := hW
  have hA : DataW.TrodAll enc Try.prog W 0 (fun _ => true) true Try.f4.params.toList args.toList ds p := hA0
  rw [Try.params4] at hA hval
  obtain ⟨v0, vs0, d0, ds0, p0, q0, hargs, rfl, rfl, h0, r0⟩ := trodAll_cons hA
  obtain ⟨rfl, rfl, rfl⟩ := trodAll_nil r0
  obtain rfl : args = #[v0] := by cases args; simp_all
  obtain ⟨rfl, rfl⟩ := trodVars_none hV
  have k0 := h0
  have lt0 : ∀ x ∈ p0, x.block < W.heap.size := by obtain ⟨m, hm⟩ := k0; exact DataW.trod_lt m _ _ _ hm
  obtain ⟨c0, c1, c2, c3, y0, y1, y2, y3, m, rfl, _, _, hy0, hy1, hy2, hy3⟩ := open_agg4 Try.underlying37 (by kernel_rfl) (by kernel_rfl) (hval 0 37 v0 rfl rfl) h0
  obtain ⟨xa, e0, _, w0⟩ := DataW.trod_int Try.underlying32 hy0
  obtain ⟨xb, e1, _, w1⟩ := DataW.trod_int Try.underlying32 hy1
  obtain ⟨xs, e2, _, w2⟩ := DataW.trod_int Try.underlying32 hy2
  obtain ⟨a3, n3, cp3, z3, e3, hz3⟩ := row64_of hy3
  simp only [List.cons.injEq, and_true] at e0 e1 e2
  subst e0 e1 e2 e3
  clear hA0 hval0
  refine (more_walk' xa xb xs w0 w1 w2 a3 n3 cp3 z3 W hz3).mono fun e W' ⟨he, bel⟩ => ?_
  subst he
  exact ⟨_, rfl, _, _, _, [], _, [], hW', trodAll_mk1 (shut_bool Try.underlying4 _), (trodAll_cons_mk (Below.trod laidOut (by kernel_rfl) (of_decide_eq_true (by kernel_rfl)) k0 bel lt0) trodAll_mk0), rfl, bel.frame _, fun h => by cases h⟩

theorem meterMore_over : Rows.meterMoreRow.holds Try.pinned (OpenSpec.ofChange Rows.meterMoreSpec) :=
  OpenClaim.holds_of_wide 4 Try.f4 rfl rfl rfl rfl rfl rfl rfl ⟨rfl, rfl, rfl, rfl, rfl⟩ rfl rfl rfl rfl rfl (by kernel_rfl) Try.func4 (by kernel_rfl)
    (of_decide_eq_true (by kernel_rfl)) (by unfold Func.isWrapper; first | (rw [if_pos (by decide +kernel)]; kernel_rfl) | (rw [if_neg (by decide +kernel)]; exact ⟨rfl, rfl⟩))
    (fun os started H enc _ => meterMore_lifted os started H enc)

/-- The statement. -/
theorem MeterMore_holds : Rows.MeterMoreSaid := meterMore_over
#print axioms MeterMore_holds
end Go.Proofs.Ytbodgbkblocphaa
