/- up and down of package heap. -/
import Derived.Test.YtfmcpcciokogiaaSwap
namespace Go.Proofs.Ytfmcpcciokogiaa
open Go.RowKit Fl

theorem q_less : (Try.prog.info? 73).bind (fun i => (i.methods.find? (·.name == "Less")).map (fun m => (m.path.toList, m.func))) = some ([], some (60, false)) := by kernel_rfl
theorem q_swap : (Try.prog.info? 73).bind (fun i => (i.methods.find? (·.name == "Swap")).map (fun m => (m.path.toList, m.func))) = some ([], some (61, false)) := by kernel_rfl
theorem q_len : (Try.prog.info? 73).bind (fun i => (i.methods.find? (·.name == "Len")).map (fun m => (m.path.toList, m.func))) = some ([], some (59, false)) := by kernel_rfl

theorem meth_val (name : String) (f : FuncId) (hq : (Try.prog.info? 73).bind (fun i => (i.methods.find? (·.name == name)).map (fun m => (m.path.toList, m.func))) = some ([], some (f, false))) (w : World) (h : Nat) (rv : Value) (hc : w.cell? ⟨h, 0, none⟩ = some rv) :
    (method 205 73 (.pointer (some ⟨h, 0, none⟩)) name).run Try.prog w = .ok (f, rv) w := by
  have hl : (loadVar 64 ⟨h, 0, none⟩).run Try.prog w = .ok rv w := by go_simp
  obtain ⟨i, hi, hm⟩ := Option.bind_eq_some_iff.1 hq
  obtain ⟨m, hf, hm2⟩ := Option.map_eq_some_iff.1 hm
  simp only [Prod.mk.injEq] at hm2
  obtain ⟨hp, hfn⟩ := hm2
  have hpa : m.path = #[] := by
    apply Array.ext'
    exact hp
  have hu := Try.underlying73
  have hs : ∀ s, (Builtin.ssaWrapNilChk_ #[73] 73 #[.pointer (some ⟨h, 0, none⟩), strVal "", strVal s]).run Try.prog w = .ok (.pointer (some ⟨h, 0, none⟩)) w := fun s => rfl
  have ha : (asAddr (.pointer (some ⟨h, 0, none⟩))).run Try.prog w = .ok ⟨h, 0, none⟩ w := rfl
  have hrec : ∀ s, (receiverAt 73 (.val (.pointer (some ⟨h, 0, none⟩))) false (some s)).run Try.prog w = .ok rv w := fun s => by
    simp only [receiverAt, Sem.run_bind, run_underlying hu, Result.andThen_ok, Place.get, Sem.run_pure, hs, ha, hl]
  rw [show (205 : Nat) = 204 + 1 from rfl, method]
  simp [typeInfo, hi, hf, follow, hfn, hpa, hrec]

theorem meth_push (a : Addr) (w : World) : (method 205 73 (.pointer (some a)) "Push").run Try.prog w = .ok (63, .pointer (some a)) w := by kernel_rfl
theorem meth_pop (a : Addr) (w : World) : (method 205 73 (.pointer (some a)) "Pop").run Try.prog w = .ok (62, .pointer (some a)) w := by kernel_rfl

/-- A heap's row at block h. -/
def RowP (w : World) (F : Nat → Prop) (h : Nat) (xs : List It) (c1 c2 : Value) : Prop :=
  ∃ rv, w.heap[h]? = some (.cells #[rv, c1, c2] 66 (0, 0)) ∧ Items w F rv xs ∧ ¬ F h

theorem RowP.drewN {w : World} {F : Nat → Prop} {h : Nat} {xs : List It} {c1 c2 : Value} (k : RowP w F h xs c1 c2) (n : Nat) : RowP (w.drewN n) F h xs c1 c2 := k

theorem wrap_small (i : Nat) (h : i ≤ 2000000000) : RowKit.wrap64 (i : Int) = (i : Int) := IntWalk.wrap64_in _ ⟨by omega, by omega⟩

def ifc (h : Nat) : Value := .iface 73 (.pointer (some ⟨h, 0, none⟩))

theorem three {w : World} {r t : Nat} {x y z : Value} (h : w.heap[r]? = some (.cells #[x, y, z] t (0, 0))) :
    w.cell? ⟨r, 0, none⟩ = some x ∧ w.cell? ⟨r, 1, none⟩ = some y ∧ w.cell? ⟨r, 2, none⟩ = some z ∧ w.frozen? ⟨r, 0, none⟩ = false ∧ w.frozen? ⟨r, 1, none⟩ = false ∧ w.frozen? ⟨r, 2, none⟩ = false := by
  simp [World.cell?, World.frozen?, h]

/-- The ranks of a list, by place. -/
def rkf (xs : List It) (k : Nat) : Rk := match xs[k]? with | some x => rank x | none => (0, 0)
theorem rkf_at {xs : List It} {k : Nat} {x : It} (h : xs[k]? = some x) : rkf xs k = rank x := by simp [rkf, h]
theorem rkf_swl {xs : List It} {i j : Nat} {x y : It} (hx : xs[i]? = some x) (hy : xs[j]? = some y) : rkf (swl xs i j x y) = swf (rkf xs) i j := by
  have hil : i < xs.length := (List.getElem?_eq_some_iff.1 hx).1
  have hjl : j < xs.length := (List.getElem?_eq_some_iff.1 hy).1
  funext k
  by_cases c1 : k = j
  · subst c1
    rw [swf_right, rkf_at hx]
    refine rkf_at ?_
    simp only [swl]
    rw [List.getElem?_set_self (by simpa using hjl)]
  · by_cases c2 : k = i
    · subst c2
      rw [swf_left, rkf_at hy]
      refine rkf_at ?_
      simp only [swl]
      rw [List.getElem?_set_ne (fun e => c1 e.symm), List.getElem?_set_self hil]
    · rw [swf_far _ c2 c1]
      simp only [rkf, swl]
      rw [List.getElem?_set_ne (fun e => c1 e.symm), List.getElem?_set_ne (fun e => c2 e.symm)]
theorem swl_perm {xs : List It} {i j : Nat} (hi : i < xs.length) (hj : j < xs.length) : (swl xs i j xs[i] xs[j]).Perm xs := List.set_set_perm hi hj
theorem swl_far {xs : List It} {i j k : Nat} {x y : It} (h1 : k ≠ i) (h2 : k ≠ j) : (swl xs i j x y)[k]? = xs[k]? := by
  simp only [swl]
  rw [List.getElem?_set_ne (fun e => h2 e.symm), List.getElem?_set_ne (fun e => h1 e.symm)]

theorem Items.num {w : World} {F : Nat → Prop} {rv : Value} {xs : List It} (h : Items w F rv xs) {i : Nat} {x : It} (hi : xs[i]? = some x) : num x.fin := (h.2.2 i x hi).2.2

/-- What up and down leave. -/
def After (w : World) (F : Nat → Prop) (h : Nat) (xs : List It) (c1 c2 : Value) (n : Nat) (xs' : List It) (w' : World) : Prop :=
  xs'.Perm xs ∧ (∀ k, n ≤ k → xs'[k]? = xs[k]?) ∧ RowP w' F h xs' c1 c2 ∧ Turned F w w' ∧ w'.heap.size = w.heap.size
theorem After.length {w w' : World} {F : Nat → Prop} {h n : Nat} {xs xs' : List It} {c1 c2 : Value} (k : After w F h xs c1 c2 n xs' w') : xs'.length = xs.length := k.1.length_eq
theorem After.drewN {w w' : World} {F : Nat → Prop} {h n : Nat} {xs xs' : List It} {c1 c2 : Value} (k : After w F h xs c1 c2 n xs' w') (m : Nat) : After w F h xs c1 c2 n xs' (w'.drewN m) := k
theorem After.swap {w w' w2 : World} {F : Nat → Prop} {h n i j : Nat} {xs xs' : List It} {c1 c2 rv : Value} (k : After w F h xs c1 c2 n xs' w') (hh : w'.heap[h]? = some (.cells #[rv, c1, c2] 66 (0, 0)))
    (hi : i < xs'.length) (hj : j < xs'.length) (hin : i < n) (hjn : j < n) (h1 : Items w2 F rv (swl xs' i j xs'[i] xs'[j])) (h2 : Turned F w' w2) (h3 : w2.heap.size = w'.heap.size) :
    After w F h xs c1 c2 n (swl xs' i j xs'[i] xs'[j]) w2 := by
  obtain ⟨k1, k2, ⟨rv', hrv, _, hF⟩, k4, k5⟩ := k
  refine ⟨(swl_perm hi hj).trans k1, fun m hm => (swl_far (by omega) (by omega)).trans (k2 m hm), ⟨rv, ?_, h1, hF⟩, k4.trans h2, h3.trans k5⟩
  exact (h2.2.2.2.2 h (Array.getElem?_eq_some_iff.1 hh).1 hF).trans hh

set_option maxHeartbeats 4000000 in
theorem up_any (w : World) (F : Nat → Prop) (h : Nat) (xs : List It) (c1 c2 : Value) (hR : RowP w F h xs c1 c2) (j n : Nat) (hj : j < n) (hn : n ≤ xs.length) (hl : xs.length ≤ 1000000000) (hU : UpInv (rkf xs) j n) :
    Calls Try.prog 39 #[ifc h, .int .i64 (j : Int)] w fun e w' => e = .returned (.tuple #[]) ∧ ∃ xs', After w F h xs c1 c2 n xs' w' ∧ Ord (rkf xs') n := by
  unfold ifc
  have h0 : After w F h xs c1 c2 n xs w := ⟨List.Perm.refl _, fun _ _ => rfl, hR, Turned.refl F w, rfl⟩
  clear hR
  go_enter Try.func39, Try.ntmps39
  go_wp2_with fail
  go_loopw [1] (fun i wr => ∃ (k : Nat) (xs' : List It), i = .int .i64 k ∧ k < n ∧ After w F h xs c1 c2 n xs' wr ∧ UpInv (rkf xs') k n) (fun i _ => (intOf i).toNat)
  case atStart => exact ⟨j, xs, rfl, hj, h0, hU⟩
  case round =>
    clear h0 hU
    obtain ⟨k, xs', rfl, hk, hA, hU⟩ := hrel
    have hlen := hA.length
    obtain ⟨_, _, ⟨rv, hrv, hI, _⟩, _⟩ := id hA
    by_cases c0 : k = 0
    · subst c0
      go_wp2_with fail
      refine bodyPost_end (results_none rfl _ _ _) rfl ?_
      exact ⟨rfl, xs', hA, up_end hU (.inl rfl)⟩
    · obtain ⟨i, hi⟩ : ∃ i, par k = i := ⟨_, rfl⟩
      have hik : i < k := by rw [← hi]; exact par_lt (by omega)
      have hkl : k < xs'.length := by omega
      have hil : i < xs'.length := by omega
      have hq : ((k : Int) - 1).tdiv 2 = (i : Int) := by
        rw [Int.tdiv_eq_ediv_of_nonneg (by omega)]
        unfold par at hi
        omega
      have hw := wrap_small i (by omega)
      have hik2 : ((i : Int) == (k : Int)) = false := beq_eq_false_iff_ne.2 (fun e => Nat.ne_of_lt hik (Int.ofNat.inj e))
      obtain ⟨q0, _⟩ := three hrv
      have m1 := meth_val "Less" 60 q_less wr h rv q0
      have HL := Lib.hid hlen
      have HI := Lib.hid hi
      clear hlen hi
      go_wp2_with fail
      refine (less_any wr F rv xs' hI k i hkl hil).mono ?_
      rintro e w1 ⟨rfl, m, rfl⟩
      have ek : xs'[k]? = some xs'[k] := List.getElem?_eq_getElem hkl
      have ei : xs'[i]? = some xs'[i] := List.getElem?_eq_getElem hil
      have hiff := lesB_iff (hI.num ek) (hI.num ei)
      have er1 := rkf_at ek
      have er2 := rkf_at ei
      have hA := hA.drewN m
      have hI := hI.drewN m
      have hrv : (wr.drewN m).heap[h]? = _ := hrv
      obtain ⟨q0, _⟩ := three hrv
      have m2 := meth_val "Swap" 61 q_swap _ h rv q0
      have HE := Lib.hid hiff
      have HR1 := Lib.hid er1
      have HR2 := Lib.hid er2
      have HA := Lib.hid hA
      have HRV := Lib.hid hrv
      clear m1 hiff er1 er2 ek ei hA hrv
      cases hb : lesB xs'[k] xs'[i]
      · go_wp2_with fail
        refine bodyPost_end (results_none rfl _ _ _) rfl ?_
        refine ⟨rfl, xs', HA.out, up_end hU (.inr ?_)⟩
        rw [HI.out, HR1.out, HR2.out]
        exact fun q => by rw [HE.out.2 q] at hb; cases hb
      · have hles := HE.out.1 hb
        go_wp2_with fail
        refine (swap_any _ F rv xs' hI i k hil hkl).mono ?_
        rintro e w2 ⟨rfl, h1, h2, h3⟩
        have hA2 := HA.out.swap HRV.out hil hkl (by omega) hk h1 h2 h3
        have hU2 : UpInv (rkf (swl xs' i k xs'[i] xs'[k])) i n := by
          rw [rkf_swl (List.getElem?_eq_getElem hil) (List.getElem?_eq_getElem hkl)]
          have := up_step hU (by omega) hk (by rw [HI.out, HR1.out, HR2.out]; exact hles)
          rwa [HI.out] at this
        have HA2 := Lib.hid hA2
        clear h1 h2 h3 hI
        go_wp2_with fail
        exact ⟨⟨i, _, rfl, by omega, HA2.out, hU2⟩, by simp [intOf]; omega⟩

end Go.Proofs.Ytfmcpcciokogiaa
