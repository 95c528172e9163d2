/- The reference's Due. -/
import Derived.Test.YtfmcpcciokogiaaRefG
namespace Go.Proofs.Ytfmcpcciokogiaa
open Go.RowKit Fl

theorem RP.size {w : World} {G : Nat → Prop} {r : Nat} {P : List Pr} (h : RP w G r P) : ∀ k, G k → k < w.heap.size := by
  obtain ⟨_, _, _, _, _, _, _, _, q⟩ := h
  exact q
theorem RP.mono {w : World} {G H : Nat → Prop} {r : Nat} {P : List Pr} (h : RP w G r P) (hG : ∀ k, G k → H k) (hH : ∀ k, H k → k < w.heap.size) : RP w H r P := by
  obtain ⟨kv, ev, a1, a2, a3, a4, a5, a6, a7⟩ := h
  exact ⟨kv, ev, a1, a2, a3, fun g q => hG g (a4 g q), fun g q => hG g (a5 g q), hG r a6, hH⟩
theorem RP.rlen {w : World} {G : Nat → Prop} {r : Nat} {P : List Pr} (h : RP w G r P) : rlen w r = P.length := by
  obtain ⟨A, c, A', c', h1, _⟩ := h.open
  simp [Ytfmcpcciokogiaa.rlen, (two_cells h1).1]

def RDInv (w : World) (G : Nat → Prop) (r f : Nat) (P : List Pr) (out : Value) (wr : World) : Prop :=
  ∃ ks P' G', Row w.heap.size wr 9 out (tv ks) ∧ RP wr G' r P' ∧ (∀ k, G' k → G k ∨ w.heap.size ≤ k) ∧ (∀ g, out.ownBlock = some g → ¬ G' g) ∧ ks ++ (due P' f).1 = (due P f).1 ∧ (due P' f).2 = (due P f).2 ∧ Turned G w wr ∧
    ks.length + P'.length ≤ P.length ∧ OneP P' ∧ NumP P'

/-- What first meets. -/
theorem RP.key {w : World} {G : Nat → Prop} {r : Nat} {P : List Pr} (h : RP w G r P) {k : Nat} (hk : k < P.length) : ∃ a c, w.cell? ⟨r, 0, none⟩ = some (.slice (some a) P.length c) ∧ w.cell? (a.add k) = some (.string (P[k]).1) := by
  obtain ⟨A, c, A', c', h1, h2, h3⟩ := h.open
  obtain ⟨ad, c5, e5, g5⟩ := h2.src.at (k := k) (by rw [kt_length]; exact hk)
  rw [kt_length] at e5
  cases e5
  have g6 : (kt P)[k]'(by rw [kt_length]; exact hk) = .string (P[k]).1 := by simp [kt]
  rw [g6] at g5
  exact ⟨ad, c, (two_cells h1).1, g5⟩
theorem RP.till {w : World} {G : Nat → Prop} {r : Nat} {P : List Pr} (h : RP w G r P) {k : Nat} (hk : k < P.length) : ∃ a c, w.cell? ⟨r, 1, none⟩ = some (.slice (some a) P.length c) ∧ w.cell? (a.add k) = some (.float .f64 (P[k]).2) := by
  obtain ⟨A, c, A', c', h1, h2, h3⟩ := h.open
  obtain ⟨ad, c5, e5, g5⟩ := h3.src.at (k := k) (by rw [et_length]; exact hk)
  rw [et_length] at e5
  cases e5
  have g6 : (et P)[k]'(by rw [et_length]; exact hk) = .float .f64 (P[k]).2 := by simp [et]
  rw [g6] at g5
  exact ⟨ad, c', (two_cells h1).2.1, g5⟩

/-- Behind the append: the heap, and out's block apart. -/
theorem rdue_app {w wr w8 : World} {G' : Nat → Prop} {r : Nat} {P' : List Pr} {ks : List ByteArray} {out v8 : Value} {s : ByteArray} (hRP : RP wr G' r P') (hrow : Row w.heap.size wr 9 out (tv ks)) (hap : ∀ g, out.ownBlock = some g → ¬ G' g)
    (hg : (wr.alloc (.cells #[.string s] 9)).grownBy w8 out.ownBlock) (hown : Row w.heap.size w8 9 v8 (tv ks ++ [.string s])) (hat : v8.ownBlock = out.ownBlock ∨ v8.ownBlock = some (wr.heap.size + 1)) :
    RP w8 G' r P' ∧ (∀ g, v8.ownBlock = some g → ¬ G' g ∧ g < w8.heap.size) ∧ Turned (fun k => w.heap.size ≤ k) wr w8 ∧ wr.heap.size ≤ w8.heap.size := by
  have t0 : Turned (fun k => out.ownBlock = some k) wr w8 := (Turned.alloc (F := fun k => out.ownBlock = some k) _ _).trans (Turned.grown hg fun g e => e)
  refine ⟨hRP.keep t0 fun k h1 h2 => hap k h2 h1, fun g q => ⟨fun hG => ?_, ?_⟩, t0.mono fun k q => (hrow.block q).1, t0.2.2.2.1⟩
  · rcases hat with h | h
    · exact hap g (h ▸ q) hG
    · rw [h] at q
      have := Option.some.inj q
      have := hRP.size g hG
      omega
  · obtain ⟨cs, hc⟩ := (hown.block q).2
    exact (Array.getElem?_eq_some_iff.1 hc).1

set_option maxRecDepth 100000 in
set_option maxHeartbeats 4000000 in
theorem rdue_any (w : World) (G : Nat → Prop) (r : Nat) (P : List Pr) (f : Nat) (h : RP w G r P) (hl : P.length ≤ 100000) (hO : OneP P) (hN : NumP P) :
    Calls Try.prog 25 #[.pointer (some ⟨r, 0, none⟩), .float .f64 f] w fun e w' => ∃ v, e = .returned v ∧ Row w.heap.size w' 9 v (tv (due P f).1) ∧ RP w' (fun k => G k ∨ (w.heap.size ≤ k ∧ k < w'.heap.size)) r (due P f).2 ∧ Turned G w w' := by
  have hG := h.size
  have h0 : RDInv w G r f P (.slice none 0 0) w := ⟨[], P, G, ⟨rfl, .inl ⟨rfl, rfl⟩⟩, h, fun k q => .inl q, fun g q => (by cases q), rfl, rfl, Turned.refl G w, by simp, hO, hN⟩
  clear h hO hN
  go_enter Try.func25, Try.ntmps25
  go_wp2_with fail
  go_loopw [5] (fun out wr => RDInv w G r f P out wr) (fun _ wr => rlen wr r)
  case atStart => exact h0
  case round =>
    clear h0
    obtain ⟨ks, P', G', hrow, hRP, hsub, hap, hd1, hd2, hT, hkl, hO, hN⟩ := hrel
    have HR := Lib.hid hRP.rlen
    have HF := Lib.hid (first_any wr G' r P' hRP (by omega) hN)
    have hfin : due P' f = ([], P') → Row w.heap.size wr 9 u5 (tv (due P f).1) ∧ RP wr (fun k => G k ∨ (w.heap.size ≤ k ∧ k < wr.heap.size)) r (due P f).2 := fun D0 => by
      rw [D0] at hd1 hd2
      rw [← hd1, ← hd2, List.append_nil]
      refine ⟨hrow, hRP.mono (fun k q => ?_) fun k q => ?_⟩
      · rcases hsub k q with q2 | q2
        · exact .inl q2
        · exact .inr ⟨q2, hRP.size k q⟩
      · rcases q with q | q
        · exact Nat.lt_of_lt_of_le (hG k q) hT.2.2.2.1
        · exact q.2
    have HFIN := Lib.hid hfin
    clear hfin
    go_wp2_with fail
    refine HF.out.mono ?_
    rintro e w3 ⟨⟨v, rfl, hv⟩, n, rfl⟩
    clear HF
    rcases hv with ⟨rfl, rfl⟩ | ⟨i, hil, rfl, hm⟩
    · have HE := Lib.hid (HFIN.out (due_nil f))
      have HTT := Lib.hid (hT.drewN n)
      clear hrow hRP hd1 hd2 hT HFIN
      go_wp2_with fail
      go_ret
      exact ⟨_, rfl, HE.out.1, HE.out.2.drewN n, HTT.out⟩
    · obtain ⟨a1, c1, k0, k1⟩ := hRP.key hil
      obtain ⟨a2, c2, k2, k3⟩ := hRP.till hil
      obtain ⟨x, hx⟩ : ∃ x, x = P'[i] := ⟨_, rfl⟩
      rw [← hx] at k1 k3 hm
      have hi0 : ¬ (i : Int) < 0 := by omega
      have hiI : (i : Int) < (P'.length : Int) := by omega
      have HX := Lib.hid hx
      clear hx
      cases hf : isLe x.2 f with
      | false =>
        have HE := Lib.hid (HFIN.out (due_stop hm hf))
        have HTT := Lib.hid (hT.drewN n)
        clear hrow hRP hd1 hd2 hT HFIN hm
        go_wp2_with fail
        go_ret
        exact ⟨_, rfl, HE.out.1, HE.out.2.drewN n, HTT.out⟩
      | true =>
        have D := due_go hm hf
        rw [D] at hd1 hd2
        have hlt := outP_lt (minP_mem hm)
        have HD1 := Lib.hid hd1
        have HD2 := Lib.hid hd2
        have HTF := Lib.hid (texts_facts (s := x.1) hrow hT.2.2.2.1 (by omega))
        have HRP := Lib.hid hRP
        have HROW := Lib.hid hrow
        have HAP := Lib.hid hap
        have HSUB := Lib.hid hsub
        have HT := Lib.hid hT
        have HLT := Lib.hid hlt
        have HO := Lib.hid hO
        have HN := Lib.hid hN
        clear hrow hRP hd1 hd2 hT HFIN hm D hap hsub hlt hO hN
        go_wp2_with (at_builtin; refine app_texts rfl (.tmp 24) (.tmp 32) rfl w.heap.size _ _ HTF.out.1 HTF.out.2.1 HTF.out.2.2.1 HTF.out.2.2.2.1 HTF.out.2.2.2.2 ?_; refine Hid.out ?_)
        refine Lib.hid ?_
        intro v8 w8 hown8 hg8 hat8
        obtain ⟨m1, m2, m3, m4⟩ := rdue_app (w := w) (wr := wr.drewN n) (HRP.out.drewN n) HROW.out HAP.out hg8 hown8 hat8
        obtain ⟨a3, c3, k4, k5⟩ := m1.key hil
        rw [← HX.out] at k5
        have HDR := Lib.hid (rdrop_any w8 G' r P' x.1 m1 (by omega) HO.out)
        have M2 := Lib.hid m2
        have T8 := Lib.hid ((HT.out.drewN n).step m3 (fun k hk q => by omega))
        have M4 := Lib.hid m4
        have HO8 := Lib.hid hown8
        clear hown8 hg8 hat8 m1 m2 m3 m4 k0 k1 k2 k3
        go_wp2_with fail
        refine HDR.out.mono ?_
        rintro e w9 ⟨rfl, h9, t9⟩
        have hr9 : Row w.heap.size w9 9 v8 (tv (ks ++ [x.1])) := by
          have h5 : Row w.heap.size w9 9 v8 (tv ks ++ [.string x.1]) := HO8.out.cells fun g cur hv hg => (t9.2.2.2.2 g (M2.out g hv).2 (M2.out g hv).1).trans hg
          simpa [tv] using h5
        have hw8 : w.heap.size ≤ w8.heap.size := T8.out.2.2.2.1
        have HIN := Lib.hid (show RDInv w G r f P v8 w9 from ⟨ks ++ [x.1], outP P' x.1, _, hr9, h9, fun k q => by
          rcases q with q | q
          · exact HSUB.out k q
          · exact .inr (Nat.le_trans hw8 q.1), fun g q => by
          rintro (q2 | q2)
          · exact (M2.out g q).1 q2
          · have := (M2.out g q).2
            omega, by rw [List.append_assoc]; exact HD1.out, HD2.out, T8.out.step t9 (fun k hk q => (HSUB.out k q).resolve_right (by omega)), by
          have := HLT.out
          rw [List.length_append, List.length_singleton]
          omega, HO.out.out _, HN.out.out _⟩)
        have HLE := Lib.hid h9.rlen
        clear hr9 h9 t9 hw8
        go_wp2_with fail
        refine ⟨HIN.out, ?_⟩
        rw [HLE.out, HR.out]
        exact HLT.out

end Go.Proofs.Ytfmcpcciokogiaa
