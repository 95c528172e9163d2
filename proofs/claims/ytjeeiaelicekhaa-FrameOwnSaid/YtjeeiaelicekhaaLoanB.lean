/- Loan.Back. -/
import Derived.Test.YtjeeiaelicekhaaLoan
import Derived.Lib.BufferRead
namespace Go.Proofs.Ytjeeiaelicekhaa
open Go.RowKit

theorem Ents.store {w : World} {ow : Nat → Nat} {vs : List Value} {Ms : List (List UInt8)} {i g cap k : Nat} {m : List UInt8} (h : Ents w ow (fun i => i + 1) vs Ms) (hv : vs[i]? = some (.slice (some ⟨g, 0, none⟩) m.length cap)) (hm : Ms[i]? = some m)
    (hk : k < m.length) (c : UInt8) : Ents (w.setCell ⟨g, k, none⟩ (.int .u8 (c.toNat : Int))) ow (fun i => i + 1) vs (Ms.set i (m.set k c)) := by
  obtain ⟨r0, t0⟩ := h.2 i _ m hv hm
  have og : ow g = i + 1 := t0 g rfl
  refine ⟨by rw [List.length_set]; exact h.1, fun j u l hu hl => ?_⟩
  by_cases e : i = j
  · subst e
    rw [hv] at hu
    cases hu
    have hi := (List.getElem?_eq_some_iff.1 hm).1
    rw [List.getElem?_set_self hi] at hl
    cases hl
    exact ⟨by have := r0.store hk c; exact this, t0⟩
  · rw [List.getElem?_set_ne e] at hl
    obtain ⟨r, t⟩ := h.2 j u l hu hl
    refine ⟨r.cells fun g' cur hg' hc => (set_off _ fun e' => ?_).trans hc, t⟩
    have : ow g' = j + 1 := t g' hg'
    rw [e'] at this
    omega
theorem Ents.store_off {w : World} {ow : Nat → Nat} {ws : List Value} {Ls : List (List UInt8)} {i g k : Nat} (h : Ents w ow (fun _ => 0) ws Ls) (og : ow g = i + 1) (u : Value) : Ents (w.setCell ⟨g, k, none⟩ u) ow (fun _ => 0) ws Ls :=
  h.keep fun j v g' cs hv hg' hc => (set_off _ fun e' => by
    have hj := (List.getElem?_eq_some_iff.1 hv).1
    have : ow g' = 0 := (h.2 j v _ hv (List.getElem?_eq_getElem (by rw [← h.1]; exact hj))).2 g' hg'
    rw [e'] at this
    omega).trans hc
theorem Row.store_off {B : Nat} {w : World} {e : TypeId} {v : Value} {xs : List Value} {g k : Nat} (h : Row B w e v xs) {cs : Array Value} {t : TypeId} (hg : w.heap[g]? = some (.cells cs t (0, 0))) (ht : t ≠ e) (u : Value) : Row B (w.setCell ⟨g, k, none⟩ u) e v xs :=
  h.cells fun g' cur _ hc => (set_off _ fun e' => by
    rw [e', hg] at hc
    cases hc
    exact ht rfl).trans hc

theorem Ents.get {w : World} {ow tag : Nat → Nat} {vs : List Value} {Ls : List (List UInt8)} (h : Ents w ow tag vs Ls) {i : Nat} {l : List UInt8} (hl : Ls[i]? = some l) :
    ∃ v, vs[i]? = some v ∧ Row 0 w 5 v (cel l) ∧ ∀ k, v.ownBlock = some k → ow k = tag i := by
  have hi := (List.getElem?_eq_some_iff.1 hl).1
  have hv : vs[i]? = some (vs[i]'(by rw [h.1]; exact hi)) := List.getElem?_eq_getElem _
  exact ⟨_, hv, h.2 i _ _ hv hl⟩

/-- What Back leaves as it was: the lists from the s-th on. -/
def BackI (w : World) (G : Nat → Prop) (nb : Nat) (V W : Value) (vs ws : List Value) (ow : Nat → Nat) (Ls : List (List UInt8)) (s : Nat) (wr : World) : Prop :=
  wr.heap[nb]? = some (.cells #[V, W] 47 (0, 0)) ∧ Row 0 wr 31 V vs ∧ Row 0 wr 31 W ws ∧ Ents wr ow (fun _ => 0) ws Ls ∧ Tn G w wr ∧
    ∃ Ms, Ents wr ow (fun i => i + 1) vs Ms ∧ Ms.length = Ls.length ∧ (∀ (j : Nat) (m l : List UInt8), Ms[j]? = some m → Ls[j]? = some l → m.length = l.length) ∧ ∀ (j : Nat), s ≤ j → Ms[j]? = Ls[j]?

theorem BackI.drewN {w : World} {G : Nat → Prop} {nb : Nat} {V W : Value} {vs ws : List Value} {ow : Nat → Nat} {Ls : List (List UInt8)} {s : Nat} {wr : World} (h : BackI w G nb V W vs ws ow Ls s wr) (n : Nat) : BackI w G nb V W vs ws ow Ls s (wr.drewN n) := h
theorem BackI.mono {w : World} {G : Nat → Prop} {nb : Nat} {V W : Value} {vs ws : List Value} {ow : Nat → Nat} {Ls : List (List UInt8)} {s s' : Nat} {wr : World} (h : BackI w G nb V W vs ws ow Ls s wr) (hs : s ≤ s') : BackI w G nb V W vs ws ow Ls s' wr := by
  obtain ⟨h1, h2, h3, h4, h5, Ms, h6, h7, h8, h9⟩ := h
  exact ⟨h1, h2, h3, h4, h5, Ms, h6, h7, h8, fun j hj => h9 j (Nat.le_trans hs hj)⟩
/-- The lists at place i. -/
theorem BackI.at {w : World} {G : Nat → Prop} {nb : Nat} {V W : Value} {vs ws : List Value} {ow : Nat → Nat} {Ls : List (List UInt8)} {s i : Nat} {wr : World} (h : BackI w G nb V W vs ws ow Ls s wr) (hi : i < Ls.length) :
    ∃ gV cV gW cW A c A' c' m, V = .slice (some ⟨gV, 0, none⟩) vs.length cV ∧ W = .slice (some ⟨gW, 0, none⟩) ws.length cW ∧ wr.cell? ⟨gV, i, none⟩ = some (.slice A m.length c) ∧ wr.cell? ⟨gW, i, none⟩ = some (.slice A' Ls[i].length c') ∧
      Row 0 wr 5 (.slice A m.length c) (cel m) ∧ Row 0 wr 5 (.slice A' Ls[i].length c') (cel Ls[i]) ∧ m.length = Ls[i].length ∧ (s ≤ i → m = Ls[i]) := by
  obtain ⟨h1, h2, h3, h4, h5, Ms, h6, h7, h8, h9⟩ := h
  obtain ⟨v, hv, rv, _⟩ := h6.at (i := i) (by omega)
  obtain ⟨u, hu, ru, _⟩ := h4.at (i := i) hi
  obtain ⟨gV, cV, eV, c1, _⟩ := h2.at31 hv
  obtain ⟨gW, cW, eW, c2, _⟩ := h3.at31 hu
  obtain ⟨A, c, e1⟩ := rv.slice
  obtain ⟨A', c', e2⟩ := ru.slice
  rw [cel_length] at e1 e2
  subst e1 e2
  have hmi : Ms[i]? = some Ms[i] := List.getElem?_eq_getElem (by omega)
  have hli : Ls[i]? = some Ls[i] := List.getElem?_eq_getElem hi
  exact ⟨gV, cV, gW, cW, A, c, A', c', Ms[i], eV, eW, c1, c2, rv, ru, h8 i _ _ hmi hli, fun hs => by
    have := h9 i hs
    rw [hmi, hli] at this
    exact Option.some.inj this⟩
/-- A byte is written into list i. -/
theorem BackI.store {w : World} {G : Nat → Prop} {nb : Nat} {V W : Value} {vs ws : List Value} {ow : Nat → Nat} {Ls : List (List UInt8)} {i g cap gV k n : Nat} {wr : World} (h : BackI w G nb V W vs ws ow Ls (i + 1) wr) (hi : i < Ls.length)
    (hV : ∃ n c, V = .slice (some ⟨gV, 0, none⟩) n c) (hc : wr.cell? ⟨gV, i, none⟩ = some (.slice (some ⟨g, 0, none⟩) n cap)) (hk : k < n) (hG : ∀ v ∈ vs, ∀ k, v.ownBlock = some k → G k) (c : UInt8) :
    BackI w G nb V W vs ws ow Ls (i + 1) (wr.setCell ⟨g, k, none⟩ (.int .u8 (c.toNat : Int))) := by
  obtain ⟨h1, h2, h3, h4, h5, Ms, h6, h7, h8, h9⟩ := h
  have hli : Ls[i]? = some Ls[i] := List.getElem?_eq_getElem hi
  obtain ⟨m, hmi⟩ : ∃ m, Ms[i]? = some m := ⟨_, List.getElem?_eq_getElem (by omega)⟩
  obtain ⟨v, hv, rv, t⟩ := h6.get hmi
  obtain ⟨gV', cV, eV, c1, _⟩ := h2.at31 hv
  obtain ⟨n', c', hV⟩ := hV
  rw [eV] at hV
  cases hV
  rw [hc] at c1
  injection c1 with c1
  subst c1
  obtain ⟨A, c2, e⟩ := rv.slice
  rw [cel_length] at e
  have hn : n = m.length := by injection e
  subst hn
  clear e
  obtain ⟨_, cs, hgg⟩ := rv.block rfl
  replace hgg : wr.heap[g]? = some (.cells cs 5 (0, 0)) := hgg
  have hnb : nb ≠ g := fun e' => by
    rw [e', hgg] at h1
    cases h1
  refine ⟨(set_off _ hnb).trans h1, h2.store_off hgg (by decide) _, h3.store_off hgg (by decide) _, h4.store_off (t g rfl) _, h5.trans (Tn.set _ (hG _ (List.mem_of_getElem? hv) g rfl)), _, h6.store hv hmi hk c, by rw [List.length_set]; exact h7, fun j m l hm hl => ?_, fun j hj => ?_⟩
  · by_cases e' : i = j
    · subst e'
      rw [List.getElem?_set_self (by omega)] at hm
      cases hm
      rw [List.length_set]
      exact h8 i _ _ hmi hl
    · rw [List.getElem?_set_ne e'] at hm
      exact h8 j m l hm hl
  · rw [List.getElem?_set_ne (by omega)]
    exact h9 j hj

set_option maxRecDepth 100000 in
set_option maxHeartbeats 4000000 in
theorem back_any (w : World) (G : Nat → Prop) (nb : Nat) (Ls : List (List UInt8)) (h : LoanP w G nb Ls) (hn : Ls.length ≤ 1000000) (hL : ∀ l ∈ Ls, l.length ≤ 1000000) :
    Calls Try.prog 20 #[.pointer (some ⟨nb, 0, none⟩)] w fun e w' => e = .returned (.bool true) ∧ Tn G w w' := by
  obtain ⟨V, W, hnb, ⟨vs, ws, ow, hV, hW, e1, e2, hd, gV, gW, g1, g2⟩, gn, gl⟩ := h
  have h0 : BackI w G nb V W vs ws ow Ls 0 w := ⟨hnb, hV, hW, e2, Tn.refl _ _, Ls, e1, rfl, fun j m l hm hl => by rw [hm] at hl; cases hl; rfl, fun j _ => rfl⟩
  have HVL := Lib.hid e1.1
  have HWL := Lib.hid e2.1
  have HL := Lib.hid hL
  have HG := Lib.hid g1
  obtain ⟨A0, c0, hV0⟩ := hV.slice
  have HV0 := Lib.hid hV0
  clear hnb hV hW e1 e2 hd gV gW g1 g2 gn gl hL hV0
  go_enter Try.func20, Try.ntmps20
  go_wp2_with fail
  go_loopw [3, 4] (fun ok i wr => ok = .bool true ∧ ∃ k : Nat, i = .int .i64 k ∧ k ≤ Ls.length ∧ BackI w G nb V W vs ws ow Ls k wr) (fun _ i _ => Ls.length - (intOf i).toNat)
  case atStart => exact ⟨rfl, 0, rfl, Nat.zero_le _, h0⟩
  case round =>
    clear h0
    obtain ⟨rfl, k, rfl, hk, hI⟩ := hrel
    obtain ⟨p0, p1, q0, q1⟩ := two_cells hI.1
    by_cases c1 : k < Ls.length
    · obtain ⟨gV, cV, gW, cW, A, c, A', c', m, eV, eW, d0, d1, rv, ru, hml, hms⟩ := hI.at c1
      obtain rfl := hms (Nat.le_refl _)
      clear hms hml
      have hl6 := HL.out _ (List.getElem_mem c1)
      have k1 : ∀ n, (convert 31 9 (.slice A Ls[k].length c)).run Try.prog (wr.drewN n) = .ok (.string ⟨Ls[k].toArray⟩) (wr.drewN n) := fun n => conv_byt (rv.byt.drewN n)
      have k2 : ∀ n, (convert 31 9 (.slice A' Ls[k].length c')).run Try.prog (wr.drewN n) = .ok (.string ⟨Ls[k].toArray⟩) (wr.drewN n) := fun n => conv_byt (ru.byt.drewN n)
      have hIJ := Lib.hid hI
      clear hI rv ru
      subst eV eW
      have v1 : k < vs.length := by rw [HVL.out]; exact c1
      have v2 : k < ws.length := by rw [HWL.out]; exact c1
      have v3 : vs.length ≤ 1000000 := by rw [HVL.out]; exact hn
      have v4 : ws.length ≤ 1000000 := by rw [HWL.out]; exact hn
      generalize hlk : Ls[k] = l at *
      have HLK := Lib.hid hlk
      clear hlk
      go_wp2_with fail
      go_quiet (fail)
      go_wp2_with fail
      have hI0 := (hIJ.out.drewN nq).mono (Nat.le_succ k)
      obtain ⟨wo, hwo⟩ : ∃ wo, wr.drewN nq = wo := ⟨_, rfl⟩
      rw [hwo] at hI0 ⊢
      clear hIJ p0 p1 q0 q1 d0 d1 k1 k2 hwo
      go_loopw [5] (fun j wx => ∃ q : Nat, j = .int .i64 q ∧ q ≤ l.length ∧ BackI w G nb (.slice (some ⟨gV, 0, none⟩) vs.length cV) (.slice (some ⟨gW, 0, none⟩) ws.length cW) vs ws ow Ls (k + 1) wx) (fun j _ => l.length - (intOf j).toNat)
      case atStart => exact ⟨0, rfl, Nat.zero_le _, hI0⟩
      case round =>
        clear hI0
        obtain ⟨q, rfl, hq, hJ⟩ := hrel
        obtain ⟨p0, p1, q0, q1⟩ := two_cells hJ.1
        have hJ2 := hJ.at c1
        obtain ⟨gV', cV', gW', cW', A2, c2, A2', c2', m, eV, eW, d0, d1, rv, ru, hml, _⟩ := hJ2
        cases eV
        cases eW
        rw [HLK.out] at hml d1
        clear ru
        by_cases c2 : q < l.length
        · obtain ⟨g, cap, e, f0, f1, f2⟩ := rv.at5 (k := q) (by omega)
          cases e
          rw [hml] at d0
          have HJ := Lib.hid (hJ.store c1 ⟨_, _, rfl⟩ d0 c2 HG.out 90)
          generalize (m[q].toNat : Int) = x at f0
          clear hJ rv f2 hml
          go_wp2_with fail
          exact ⟨⟨q + 1, by go_num, by omega, HJ.out⟩, by simp [intOf]; omega⟩
        · rw [hml] at d0
          have HJ := Lib.hid hJ
          clear hJ rv hml
          go_wp2_with fail
          exact ⟨⟨rfl, k + 1, by go_num, by omega, HJ.out⟩, by simp [intOf]; omega⟩
    · obtain ⟨A1, c2, e⟩ := hI.2.1.slice
      subst e
      have v1 : vs.length ≤ k := by rw [HVL.out]; omega
      have v3 : vs.length ≤ 1000000 := by rw [HVL.out]; exact hn
      have HT := Lib.hid hI.2.2.2.2.1
      clear hI
      go_wp2_with fail
      go_ret
      exact ⟨rfl, HT.out⟩

end Go.Proofs.Ytjeeiaelicekhaa
