/- Set. -/
import Derived.Test.YtfmcpcciokogiaaSetP
import Derived.Deep.RegionHeldLaw
namespace Go.Proofs.Ytfmcpcciokogiaa
open Go.RowKit Fl

theorem set_nan (w : World) (h : Nat) (s : ByteArray) (f : Nat) (hf : isNe f f = true) :
    Calls Try.prog 12 #[.pointer (some ⟨h, 0, none⟩), .string s, .float .f64 f] w fun e w' => e = .returned (.int .i64 1) ∧ w = w' := by
  go_enter Try.func12, Try.ntmps12
  go_wp2_with (go_at_call 26; refine (isNaN_any f w).mono ?_; rintro e w' ⟨rfl, rfl⟩)
  go_ret
  exact ⟨rfl, rfl⟩

theorem HS.parts {w : World} {G : Nat → Prop} {h T : Nat} {L : List It} (k : HS w G h L T) : (∀ k, G k → k < w.heap.size) ∧ Neat L T ∧ L.length ≤ T := by
  obtain ⟨_, _, _, _, _, _, _, _, _, _, _, a7, a8, _, _, _, _, a13⟩ := k
  exact ⟨a13, a7, a8⟩

set_option maxHeartbeats 4000000 in
theorem set_new (w : World) (G : Nat → Prop) (h T : Nat) (L : List It) (s : ByteArray) (f : Nat) (k : HS w G h L T) (hf : isNe f f = false) (hT : T ≤ 100000000) (hs : s.size ≤ maxLen) (hL : L.find? (isKey s) = none) :
    Calls Try.prog 12 #[.pointer (some ⟨h, 0, none⟩), .string s, .float .f64 f] w fun e w' => e = .returned (.int .i64 0) ∧
      HS w' (fun k => G k ∨ (w.heap.size ≤ k ∧ k < w'.heap.size)) h (without L s ++ [⟨w.heap.size, s, f, T + 1⟩]) (T + 1) ∧ Turned G w w' := by
  obtain ⟨F, mb, nm, M, xs, a1, a2, a3, a4, a5, a6, a7, a8, a9, a10, a11, a12, a13⟩ := k
  obtain ⟨rv, hrv, hI, hFh⟩ := a1
  obtain ⟨q0, q1, q2, f0, f1, f2⟩ := three hrv
  obtain ⟨T1, hT1⟩ : ∃ T1 : Nat, T1 = T + 1 := ⟨_, rfl⟩
  have e1 : (T : Int) + 1 = (T1 : Int) := by omega
  have e2 : IntKind.u64.wrap (T1 : Int) = (T1 : Int) := by rw [IntKind.wrap_u64]; exact Int.emod_eq_of_lt (by omega) (by omega)
  have hhl := (Array.getElem?_eq_some_iff.1 hrv).1
  have hmh : mb ≠ h := fun e => by
    obtain ⟨D, ⟨es, c, hb, _⟩, _⟩ := a4
    rw [e, hrv] at hb
    simp at hb
  have hnf : num f := by
    by_cases hq : num f
    · exact hq
    · have : isNe f f = true := ne_iff.2 fun q => hq q.1
      rw [hf] at this
      cases this
  have hM1 : OwnM (w.setCell ⟨h, 2, none⟩ (.int .u64 (T1 : Int))) mb nm M := a4.keep (set_off _ hmh)
  have hMs : M s = none := by rw [a6 s, hL]; rfl
  have kl := hM1.look s hs
  rw [hMs] at kl
  have hM2 : OwnM ((w.setCell ⟨h, 2, none⟩ (.int .u64 (T1 : Int))).alloc (.cells #[.string s, .float .f64 f, .int .u64 (T1 : Int), .int .i64 0] 71)) mb nm M := hM1.keep (Below.heap_alloc _ _ _ hM1.lt)
  obtain ⟨w3, kp, hM3, hg3⟩ := hM2.put (by simp only [maxLen]; omega) s hs w.heap.size
  have hk1 := set_at (o := 2) hrv (.int .u64 (T1 : Int))
  have hh3 : w3.heap[h]? = some (.cells #[rv, .map (some mb), .int .u64 (T1 : Int)] 66 (0, 0)) := by
    have h1 := (Below.heap_alloc (w.setCell ⟨h, 2, none⟩ (.int .u64 (T1 : Int))) (.cells #[.string s, .float .f64 f, .int .u64 (T1 : Int), .int .i64 0] 71) h (by rw [set_size]; exact hhl)).trans hk1
    exact (hg3.block h (Array.getElem?_eq_some_iff.1 h1).1 (fun e => hmh (Option.some.inj e).symm)).trans h1
  have hkF : ∀ k, F k → k < w.heap.size → w3.heap[k]? = w.heap[k]? := fun k hk hkl => by
    have hne : k ≠ h := fun e => hFh (by rw [← e]; exact hk)
    have hnm : k ≠ mb := fun e => a12 (by rw [← e]; exact hk)
    have h1 := set_off (w := w) (o := 2) (.int .u64 (T1 : Int)) hne
    have h2 := Below.heap_alloc (w.setCell ⟨h, 2, none⟩ (.int .u64 (T1 : Int))) (.cells #[.string s, .float .f64 f, .int .u64 (T1 : Int), .int .i64 0] 71) k (by rw [set_size]; exact hkl)
    exact (hg3.block k (by rw [alloc_size, set_size]; omega) (fun e => hnm (Option.some.inj e))).trans (h2.trans h1)
  have hs3 : w.heap.size + 1 ≤ w3.heap.size := by have := hg3.size; rw [alloc_size, set_size] at this; exact this
  have hLone : Lone w3 ⟨w.heap.size, s, f, T + 1⟩ 0 := by
    have h1 := heap_alloc_new (w.setCell ⟨h, 2, none⟩ (.int .u64 (T1 : Int))) (.cells #[.string s, .float .f64 f, .int .u64 (T1 : Int), .int .i64 0] 71)
    rw [set_size] at h1
    have h2 := (hg3.block w.heap.size (by rw [alloc_size, set_size]; omega) (fun e => by have := a13 mb a11; have := Option.some.inj e; omega)).trans h1
    rw [hT1] at h2
    exact h2
  have hFz : ¬ F w.heap.size := fun hq => by have := a13 _ (a9 _ hq); omega
  have HP := Lib.hid (hpush_any w3 F h xs (.map (some mb)) (.int .u64 (T1 : Int)) ⟨w.heap.size, s, f, T + 1⟩ 0 ⟨rv, hh3, hI.keep hkF, hFh⟩ hLone hFz hnf (by have := a2.length_eq; omega) a3)
  have T03 : Turned G w w3 := ((Turned.set (F := G) _ a10).trans (Turned.alloc _ _)).trans (Turned.grown hg3 (fun g e => by cases e; exact a11))
  have HT := Lib.hid T03
  have HM3 := Lib.hid hM3
  have H1 := Lib.hid hT1
  have HW := Lib.hid (without_none hL)
  unfold itv ifc at HP
  clear hI a4 hM1 hM2 hM3 hk1 hh3 hkF hLone T03 hg3 hT1 hrv hMs hL
  go_enter Try.func12, Try.ntmps12
  go_wp2_with (go_at_call 26; refine (isNaN_any f w).mono ?_; rintro e w' ⟨rfl, rfl⟩)
  refine HP.out.mono ?_
  rintro e w4 ⟨rfl, xs', p1, p2, p3, p4⟩
  have P1 := Lib.hid p1
  have P2 := Lib.hid p2
  have P3 := Lib.hid p3
  have P4 := Lib.hid p4
  clear p1 p2 p3 p4 HP
  go_wp2_with fail
  go_ret
  have hs4 : w3.heap.size ≤ w4.heap.size := P4.out.2.2.2.1
  have hmb := a13 mb a11
  have p3 := P3.out
  rw [H1.out] at p3
  refine ⟨rfl, ⟨_, mb, nm + 1, _, xs', p3, ?_, P2.out, HM3.out.keep (P4.out.2.2.2.2 mb (by omega) ?_), by omega, holds_set (z := ⟨w.heap.size, s, f, T + 1⟩) (s := s) a6 rfl, neat_set a7 rfl rfl hs hnf, ?_, ?_, .inl a10, .inl a11, ?_, ?_⟩, HT.out.step P4.out ?_⟩
  · rw [HW.out]
    exact P1.out.trans (a2.append_right _)
  · rintro (h1 | h1 | h1)
    · exact a12 h1
    · exact hmh h1
    · have : mb = w.heap.size := h1
      omega
  · rw [HW.out, List.length_append, List.length_singleton]
    omega
  · rintro k (h1 | h1 | h1)
    · exact .inl (a9 k h1)
    · have : k = w.heap.size := h1
      exact .inr ⟨by omega, by omega⟩
    · exact .inr ⟨by omega, h1.2⟩
  · rintro (h1 | h1 | h1)
    · exact a12 h1
    · have : mb = w.heap.size := h1
      omega
    · omega
  · rintro k (h1 | h1)
    · have := a13 k h1
      omega
    · exact h1.2
  · rintro k hk (h1 | h1 | h1)
    · exact a9 k h1
    · exact h1 ▸ a10
    · have : k = w.heap.size := h1
      omega

set_option maxHeartbeats 4000000 in
theorem set_old (w : World) (G : Nat → Prop) (h T : Nat) (L : List It) (s : ByteArray) (f : Nat) (x : It) (k : HS w G h L T) (hf : isNe f f = false) (hT : T ≤ 100000000) (hs : s.size ≤ maxLen) (hL : L.find? (isKey s) = some x) :
    Calls Try.prog 12 #[.pointer (some ⟨h, 0, none⟩), .string s, .float .f64 f] w fun e w' => e = .returned (.int .i64 0) ∧
      HS w' G h (without L s ++ [⟨x.blk, s, f, T + 1⟩]) (T + 1) ∧ Turned G w w' ∧ w'.heap.size = w.heap.size := by
  obtain ⟨F, mb, nm, M, xs, a1, a2, a3, a4, a5, a6, a7, a8, a9, a10, a11, a12, a13⟩ := k
  obtain ⟨rv, hrv, hI, hFh⟩ := a1
  obtain ⟨i, hxi, hxk⟩ := find_at a2 hL
  have hkey : x.key = s := tx_inj hxk
  obtain ⟨hxb, hFx, _⟩ := hI.2.2 i x hxi
  have hil := (List.getElem?_eq_some_iff.1 hxi).1
  obtain ⟨q0, q1, q2, f0, f1, f2⟩ := three hrv
  obtain ⟨_, i1, i2, i3, j1, j2, j3⟩ := itc_cells hxb
  obtain ⟨T1, hT1⟩ : ∃ T1 : Nat, T1 = T + 1 := ⟨_, rfl⟩
  have e1 : (T : Int) + 1 = (T1 : Int) := by omega
  have e2 : IntKind.u64.wrap (T1 : Int) = (T1 : Int) := by rw [IntKind.wrap_u64]; exact Int.emod_eq_of_lt (by omega) (by omega)
  have hmh : mb ≠ h := fun e => by
    obtain ⟨D, ⟨es, c, hb, _⟩, _⟩ := a4
    rw [e, hrv] at hb
    simp at hb
  have hmx : mb ≠ x.blk := fun e => a12 (by rw [e]; exact hFx)
  have hxh : x.blk ≠ h := fun e => hFh (by rw [← e]; exact hFx)
  have hhx := Ne.symm hxh
  have hnf : num f := by
    by_cases hq : num f
    · exact hq
    · have : isNe f f = true := ne_iff.2 fun q => hq q.1
      rw [hf] at this
      cases this
  have hM1 : OwnM (w.setCell ⟨h, 2, none⟩ (.int .u64 (T1 : Int))) mb nm M := a4.keep (set_off _ hmh)
  have hMs : M s = some x.blk := by rw [a6 s, hL]; rfl
  have kl := hM1.look s hs
  rw [hMs] at kl
  simp only [itemOf, Option.isSome] at kl
  obtain ⟨W, hW⟩ : ∃ W, ((w.setCell ⟨h, 2, none⟩ (.int .u64 (T1 : Int))).setCell ⟨x.blk, 1, none⟩ (.float .f64 f)).setCell ⟨x.blk, 2, none⟩ (.int .u64 (T1 : Int)) = W := ⟨_, rfl⟩
  have hx1 := (set_off (o := 2) (.int .u64 (T1 : Int)) hxh).trans hxb
  have hx2 := set_at (o := 1) hx1 (.float .f64 f)
  have hx3 := set_at (o := 2) hx2 (.int .u64 (T1 : Int))
  have hh3 := (set_off (o := 2) (.int .u64 (T1 : Int)) hhx).trans ((set_off (o := 1) (.float .f64 f) hhx).trans (set_at (o := 2) hrv (.int .u64 (T1 : Int))))
  have hoff : ∀ k, k ≠ h → k ≠ x.blk → W.heap[k]? = w.heap[k]? := fun k h1 h2 => by
    rw [← hW]
    exact (set_off _ h2).trans ((set_off _ h2).trans (set_off _ h1))
  have hWs : W.heap.size = w.heap.size := by rw [← hW]; simp only [set_size]
  have TW : Turned G w W := by
    rw [← hW]
    exact ((Turned.set (F := G) _ a10).trans (Turned.set (F := G) _ (a9 _ hFx))).trans (Turned.set (F := G) _ (a9 _ hFx))
  rw [hW] at hx3 hh3
  obtain ⟨z, hz⟩ : ∃ z : It, z = ⟨x.blk, s, f, T + 1⟩ := ⟨_, rfl⟩
  have hzb : z.blk = x.blk := by rw [hz]
  have hIW : Items W F rv (xs.set i z) := by
    refine ⟨?_, hI.2.1, fun j y hy => ?_⟩
    · have : (xs.set i z).map itv = xs.map itv := by
        rw [List.map_set]
        have h1 : (xs.map itv)[i]? = some (itv z) := by rw [List.getElem?_map, hxi]; simp [itv, hzb]
        have h2 : (xs.map itv)[i]'(by simpa using hil) = itv z := by
          have := List.getElem?_eq_some_iff.1 h1
          exact this.2
        rw [← h2]
        exact List.set_getElem_self _
      rw [this]
      exact hI.1.cells fun g cur hv hg => (hoff g (fun e => hFh (by rw [← e]; exact hI.2.1 g hv)) (fun e => by rw [e, hxb] at hg; simp at hg)).trans hg
    · by_cases c : j = i
      · subst c
        have : y = z := by
          rw [List.getElem?_set_self hil] at hy
          exact (Option.some.inj hy).symm
        subst this
        rw [hzb]
        refine ⟨hx3.trans ?_, hFx, by rw [hz]; exact hnf⟩
        rw [hz]
        simp [itc, hkey, hT1]
      · rw [List.getElem?_set_ne (fun e => c e.symm)] at hy
        obtain ⟨b1, b2, b3⟩ := hI.2.2 j y hy
        exact ⟨(hoff _ (fun e => hFh (by rw [← e]; exact b2)) (hI.apart hy hxi c)).trans b1, b2, b3⟩
  have hRW : RowP W F h (xs.set i z) (.map (some mb)) (.int .u64 (T1 : Int)) := ⟨rv, by rw [hh3]; simp, hIW, hFh⟩
  have hlen : (xs.set i z).length = xs.length := List.length_set
  have hxL := a2.length_eq
  have HF := Lib.hid (fun n => fix_any (W.drewN n) F h (xs.set i z) _ _ (hRW.drewN n) i (by rw [hlen]; exact hil) (by rw [hlen]; omega) (by
    rw [hlen]
    exact fix_of a3 fun k hk hne => by simp only [rkf, List.getElem?_set_ne (fun e => hne e.symm)]))
  have hpl : W.cell? ⟨x.blk, 3, none⟩ = some (.int .i64 (i : Int)) := by simp [World.cell?, hx3, itc]
  have HTW := Lib.hid TW
  have HMW := Lib.hid (a4.keep (hoff mb hmh hmx))
  have HWS := Lib.hid hWs
  have H1 := Lib.hid hT1
  have HZ := Lib.hid hz
  have HZB := Lib.hid hzb
  have HLN := Lib.hid hlen
  have HW := Lib.hid hW
  have HL := Lib.hid hL
  have HSP := Lib.hid (set_perm (z := z) a2 a7 hxi hxk)
  have hh0 : W.heap[h]? = some (.cells #[rv, .map (some mb), .int .u64 (T1 : Int)] 66 (0, 0)) := by rw [hh3]; simp
  obtain ⟨w0, w1, w2, _⟩ := three hh0
  unfold ifc at HF
  clear hI a4 hM1 hx1 hx2 hx3 hh3 hoff hWs TW hIW hRW hlen hh0 hrv hMs hL hT1 hz hzb hxb hxi hW
  go_enter Try.func12, Try.ntmps12
  go_wp2_with (go_at_call 26; refine (isNaN_any f w).mono ?_; rintro e w' ⟨rfl, rfl⟩)
  rw [HW.out]
  go_region_with (first | (go_at_call 28; refine Calls.mono (HF.out 1) ?_; rintro e w9 ⟨rfl, xs', hA, hO⟩))
  all_goals
    have HA := Lib.hid hA
    have HO := Lib.hid hO
    clear hA hO
    go_wp2_with fail
    go_ret
    obtain ⟨b1, _, b3, b4, b5⟩ := HA.out
    have hO := HO.out
    rw [HLN.out] at hO
    rw [H1.out] at b3
    have hT9 : Turned G w w9 := HTW.out.step b4 fun k _ hk => a9 k hk
    have hsz : w9.heap.size = w.heap.size := b5.trans HWS.out
    have hp := b1.trans HSP.out
    have hkk := HMW.out.keep (b4.2.2.2.2 mb (by rw [show (W.drewN 1).heap.size = w.heap.size from HWS.out]; exact a13 mb a11) a12)
    have hll := List.length_filter_le (fun y => !isKey s y) L
    rw [HZ.out] at hp
    refine ⟨rfl, ⟨F, mb, nm, M, xs', b3, hp, by rw [b1.length_eq, HLN.out]; exact hO, hkk, by omega, holds_same a6 rfl HL.out rfl, neat_set a7 rfl rfl hs hnf, ?_, a9, a10, a11, a12, fun k hk => by rw [hsz]; exact a13 k hk⟩, hT9, hsz⟩
    rw [List.length_append, List.length_singleton]
    unfold without
    omega

end Go.Proofs.Ytfmcpcciokogiaa
