/- MeterWhole: of whole and small rates, costs and times no more is let through in a time than the burst and the rate times the time. For every input: no condition. -/
import Derived.Test.YtbodgbkblocphaaWholeW
import Derived.Lib.SmallJoins
namespace Go.Proofs.Ytbodgbkblocphaa
open Go.ChangeShapes Go.WideShapes Go.ChangeAt Go.RowKit Go.Deep Go.Joins
open Go.ChangeMaps (open_string shut_string)

theorem row8_of {H : Type} {enc : TypeId × Value → H} {W : World} {base : Nat} {spare : Nat → Bool} {held : Bool} {fuel : Nat} {v : Value} {x : DataW H × List MemPlace}
    (hf : DataW.trod enc Try.prog W base spare held fuel 23 [v] = some x) : ∃ a n c z, v = .slice a n c ∧ Row8 W a n z := by
  rcases open_ints Try.underlying23 Try.underlying5 (by kernel_rfl) hf with ⟨hcs, _⟩ | ⟨ad, l, c, zs, hcs, _, hl, hm, hz, _, hcell, hwz⟩
  · simp only [List.cons.injEq, and_true] at hcs
    exact ⟨_, _, _, fun _ => 0, hcs, by omega, fun i hi => by omega⟩
  · simp only [List.cons.injEq, and_true] at hcs
    have hlz : l ≤ zs.length := by rw [hz]; split <;> omega
    refine ⟨_, _, _, fun i => (zs.getD i 0).toNat, hcs, by unfold maxLen at hm; omega, fun i hil => ?_⟩
    have hb := bounds_u8 (hwz (zs.getD i 0) (by rw [List.getD_eq_getElem?_getD, List.getElem?_eq_getElem (by omega)]; exact List.getElem_mem _))
    obtain ⟨b, off, spot⟩ := ad
    have hspot : spot = Option.none := by
      have h0 := hcell 0 (by omega)
      simpa [Addr.add] using World.cell?_spot h0
    subst hspot
    have hc := hcell i (by omega)
    have e : (⟨b, off, Option.none⟩ : Addr).add i = ⟨b, off + i, Option.none⟩ := by
      unfold Addr.add; split
      · rename_i hk; subst hk; rfl
      · rfl
    rw [e] at hc
    refine ⟨by show (zs.getD i 0).toNat < 256; omega, b, off, rfl, lt_of_cell hc, ?_⟩
    rw [hc]
    show some (Value.int .u8 (zs.getD i 0)) = some (Value.int .u8 (((zs.getD i 0).toNat : Nat) : Int))
    rw [Int.toNat_of_nonneg hb.1]

theorem whole_walk' (rt bu : Int) (hr : (Lit.int .u16 rt).wf = true) (hb : (Lit.int .u16 bu).wf = true) (a1 a2 : Option Addr) (n1 n2 c1 c2 : Nat) (z1 z2 : Nat → Nat) (w : World) (h1 : Row8 w a1 n1 z1) (h2 : Row8 w a2 n2 z2) :
    Calls Try.prog 3 #[.agg #[.int .u16 rt, .int .u16 bu, .slice a1 n1 c1, .slice a2 n2 c2]] w fun e w' => e = .returned (.bool true) ∧ Below w.heap.size w w' := by
  have br := bounds_u16 hr
  have bb := bounds_u16 hb
  obtain ⟨m, rfl⟩ := Int.eq_ofNat_of_zero_le br.1
  obtain ⟨n, rfl⟩ := Int.eq_ofNat_of_zero_le bb.1
  exact whole_walk m n (by omega) (by omega) a1 a2 n1 n2 c1 c2 z1 z2 w h1 h2

set_option maxRecDepth 100000 in
theorem meterWhole_lifted (os : Os) (started : os.Started) (H : Type) (enc : TypeId × Value → H) :
    ReturnsInHanded {} Try.checked os 3 .any (Rows.meterWholeSpec.pre6 enc Try.prog Try.f3 Rows.meterWholeRow.domain false) (Rows.meterWholeSpec.post enc Try.prog Try.f3 false true false false) := by
  refine returnsInHanded_of_change (C := Try.checked) own started (by kernel_rfl) Try.func3
    (ChangeSpec.witness6 (enc := enc) (C := Try.checked) false ⟨#[], #[.agg #[.int .u16 0, .int .u16 0, .slice Option.none 0 0, .slice Option.none 0 0]], []⟩ 8 (by kernel_rfl) (by kernel_rfl) (by kernel_rfl) (by kernel_rfl)) ?_
  intro W base args ds gs before hval0 hW hcnd _
  have hval : ∀ (j : Nat) t v, Try.f3.params[j]? = some t → args[j]? = some v → Value.okWide Try.prog W .any base t v := hval0
  have hW' := hW
  obtain ⟨p, q, hA0, hV, rfl, hfz, hnd⟩ := hW
  have hA : DataW.TrodAll enc Try.prog W 0 (fun _ => true) true Try.f3.params.toList args.toList ds p := hA0
  rw [Try.params3] at hA hval
  obtain ⟨v0, vs0, d0, ds0, p0, q0, hargs, rfl, rfl, h0, r0⟩ := trodAll_cons hA
  obtain ⟨rfl, rfl, rfl⟩ := trodAll_nil r0
  obtain rfl : args = #[v0] := by cases args; simp_all
  obtain ⟨rfl, rfl⟩ := trodVars_none hV
  have k0 := h0
  have lt0 : ∀ x ∈ p0, x.block < W.heap.size := by obtain ⟨m, hm⟩ := k0; exact DataW.trod_lt m _ _ _ hm
  obtain ⟨c0, c1, c2, c3, y0, y1, y2, y3, m, rfl, _, _, hy0, hy1, hy2, hy3⟩ := open_agg4 Try.underlying25 (by kernel_rfl) (by kernel_rfl) (hval 0 25 v0 rfl rfl) h0
  obtain ⟨rt, e0, _, w0⟩ := DataW.trod_int Try.underlying22 hy0
  obtain ⟨bu, e1, _, w1⟩ := DataW.trod_int Try.underlying22 hy1
  obtain ⟨a2, n2, cp2, z2, e2, hz2⟩ := row8_of hy2
  obtain ⟨a3, n3, cp3, z3, e3, hz3⟩ := row8_of hy3
  simp only [List.cons.injEq, and_true] at e0 e1
  subst e0 e1 e2 e3
  clear hA0 hval0
  refine (whole_walk' rt bu w0 w1 a2 a3 n2 n3 cp2 cp3 z2 z3 W hz2 hz3).mono fun e W' ⟨he, bel⟩ => ?_
  subst he
  exact ⟨_, rfl, _, _, _, [], _, [], hW', trodAll_mk1 (shut_bool Try.underlying4 _), (trodAll_cons_mk (Below.trod laidOut (by kernel_rfl) (of_decide_eq_true (by kernel_rfl)) k0 bel lt0) trodAll_mk0), rfl, bel.frame _, fun h => by cases h⟩

theorem meterWhole_over : Rows.meterWholeRow.holds Try.pinned (OpenSpec.ofChange Rows.meterWholeSpec) :=
  OpenClaim.holds_of_wide 3 Try.f3 rfl rfl rfl rfl rfl rfl rfl ⟨rfl, rfl, rfl, rfl, rfl⟩ rfl rfl rfl rfl rfl (by kernel_rfl) Try.func3 (by kernel_rfl)
    (of_decide_eq_true (by kernel_rfl)) (by unfold Func.isWrapper; first | (rw [if_pos (by decide +kernel)]; kernel_rfl) | (rw [if_neg (by decide +kernel)]; exact ⟨rfl, rfl⟩))
    (fun os started H enc _ => meterWhole_lifted os started H enc)

/-- The statement. -/
theorem MeterWhole_holds : Rows.MeterWholeSaid := meterWhole_over
#print axioms MeterWhole_holds
end Go.Proofs.Ytbodgbkblocphaa
