/- Book.Stands and Book.lookBytes. -/
import Derived.Test.YtjeeiaelicekhaaFam
namespace Go.Proofs.Ytjeeiaelicekhaa
open Go.RowKit

set_option maxRecDepth 100000 in
set_option maxHeartbeats 4000000 in
theorem look_any (w : World) (kb : Nat) (V L : Value) (vs ls : List Value) (Ls : List (List UInt8)) (ow : Nat → Nat) (F : Nat → Prop) (q : Nat) (hc : w.cell? ⟨kb, 0, none⟩ = some V) (hV : Row 0 w 31 V vs) (hL : Row 0 w 31 L ls)
    (h0 : Fam w ow F 0 vs Ls) (h1 : Fam w ow F q ls Ls) (hvl : vs.length = ls.length) (hq : q ≤ 1000) (hls : ls.length ≤ 1000000) (hll : ∀ l ∈ Ls, l.length ≤ 10000) :
    Calls Try.prog 28 #[.pointer (some ⟨kb, 0, none⟩), L] w fun e w' => e = .returned (.bool true) ∧ ∃ n, w.drewN n = w' := by
  obtain ⟨A, c, e⟩ := hL.slice
  subst e
  obtain ⟨A', c', e⟩ := hV.slice
  rw [hvl] at e
  subst e
  have HV := Lib.hid hV
  have HL := Lib.hid hL
  have H0 := Lib.hid h0
  have H1 := Lib.hid h1
  have HVL := Lib.hid hvl
  have HLL := Lib.hid hll
  clear hV hL h0 h1 hvl hll
  go_enter Try.func28, Try.ntmps28
  go_wp2_with fail
  go_loopw [5] (fun i wr => ∃ k n : Nat, k ≤ ls.length ∧ i = .int .i64 k ∧ w.drewN n = wr) (fun i _ => ls.length - (intOf i).toNat)
  case atStart => exact ⟨0, 0, Nat.zero_le _, rfl, rfl⟩
  case round =>
    obtain ⟨k, m, hk, rfl, rfl⟩ := hrel
    by_cases c1 : k < ls.length
    · have hvk : vs[k]? = some (vs[k]'(by rw [HVL.out]; exact c1)) := List.getElem?_eq_getElem _
      have hlk : ls[k]? = some ls[k] := List.getElem?_eq_getElem c1
      obtain ⟨gV, cV, eV, d0, _⟩ := HV.out.at31 hvk
      obtain ⟨gL, cL, eL, d1, _⟩ := HL.out.at31 hlk
      obtain ⟨l, e1, o0⟩ := H0.out.one hvk
      obtain ⟨l', e2, o1⟩ := H1.out.one hlk
      have e2 : Ls[k]? = some l' := e2
      rw [e1] at e2
      obtain rfl := Option.some.inj e2
      have hn := HLL.out l (List.mem_of_getElem? e1)
      generalize vs[k]'(by rw [HVL.out]; exact c1) = x at *
      generalize ls[k] = y at *
      obtain ⟨B0, b0, ex⟩ := o0.1.slice
      obtain ⟨B1, b1, ey⟩ := o1.1.slice
      rw [cel_length, spare_length, Nat.add_zero] at ex
      rw [cel_length, spare_length] at ey
      subst ex ey
      generalize l.length = n at *
      rw [HVL.out] at eV
      cases eV
      cases eL
      have O0 := Lib.hid o0
      have O1 := Lib.hid o1
      clear o0 o1 hvk hlk e1 e2
      have hkI : (k : Int) < (ls.length : Int) := by omega
      go_wp2_with fail
      go_loopw [7] (fun j wx => ∃ p r : Nat, p ≤ n + q ∧ j = .int .i64 p ∧ w.drewN r = wx) (fun j _ => n + q - (intOf j).toNat)
      case atStart => exact ⟨0, m, Nat.zero_le _, rfl, rfl⟩
      case round =>
        obtain ⟨p, r, hp, rfl, rfl⟩ := hrel
        by_cases c2 : p < n + q
        · obtain ⟨g1, cap1, e, f1⟩ := O1.out.at c2
          cases e
          have hpI : (p : Int) < (n : Int) + (q : Int) := by omega
          have hp0 : (0 : Int) ≤ (p : Int) := by omega
          have hk0 : (0 : Int) ≤ (k : Int) := by omega
          by_cases c3 : p < n
          · obtain ⟨g0, cap0, e, f0⟩ := O0.out.at (k := p) (by omega)
            rw [if_pos c3, mA_nat] at f1 f0
            cases e
            have d3 : decide ((p : Int) < (n : Int)) = true := by simp; omega
            have d4 : decide ((n : Int) ≤ (p : Int)) = false := by simp; omega
            go_wp2_with fail
            exact ⟨⟨p + 1, r, by omega, by go_num, rfl⟩, by simp [intOf]; omega⟩
          · rw [if_neg c3, mB_nat] at f1
            have d3 : decide ((p : Int) < (n : Int)) = false := by simp; omega
            have d4 : decide ((n : Int) ≤ (p : Int)) = true := by simp; omega
            go_wp2_with fail
            exact ⟨⟨p + 1, r, by omega, by go_num, rfl⟩, by simp [intOf]; omega⟩
        · go_wp2_with fail
          exact ⟨⟨k + 1, r, by omega, by go_num, rfl⟩, by simp [intOf]; omega⟩
    · go_wp2_with fail
      go_ret
      exact ⟨rfl, _, rfl⟩

set_option maxRecDepth 100000 in
set_option maxHeartbeats 2000000 in
theorem stands_any (w : World) (G : Nat → Prop) (kb n : Nat) (V W : Value) (Ls : List (List UInt8)) (h : w.heap[kb]? = some (.cells (B5 n V W) 50 (0, 0))) (hpl : PL w G V W Ls) (hn : Ls.length ≤ 1000000) :
    Calls Try.prog 25 #[.pointer (some ⟨kb, 0, none⟩)] w fun e w' => e = .returned (.bool true) ∧ ∃ n, w.drewN n = w' := by
  obtain ⟨vs, ws, ow, hV, hW, e1, e2, _⟩ := hpl
  obtain ⟨A, c, e⟩ := hV.slice
  subst e
  obtain ⟨A', c', e⟩ := hW.slice
  subst e
  obtain ⟨p0, p1, _⟩ := B5_cells h
  have HV := Lib.hid hV
  have HW := Lib.hid hW
  have hvl : vs.length = Ls.length := e1.1
  have hwl : ws.length = Ls.length := e2.1
  have v3 : vs.length ≤ 1000000 := by omega
  have v4 : ws.length ≤ 1000000 := by omega
  have HVL := Lib.hid hvl
  have HWL := Lib.hid hwl
  have H1 := Lib.hid e1
  have H2 := Lib.hid e2
  clear hV hW hvl hwl e1 e2 h
  go_enter Try.func25, Try.ntmps25
  go_wp2_with fail
  go_loopw [3] (fun i wr => ∃ k n : Nat, k ≤ Ls.length ∧ i = .int .i64 k ∧ w.drewN n = wr) (fun i _ => Ls.length - (intOf i).toNat)
  case atStart => exact ⟨0, 0, Nat.zero_le _, rfl, rfl⟩
  case round =>
    obtain ⟨k, m, hk, rfl, rfl⟩ := hrel
    by_cases c1 : k < Ls.length
    · obtain ⟨l, hl⟩ : ∃ l, Ls[k]? = some l := ⟨_, List.getElem?_eq_getElem c1⟩
      obtain ⟨x, hx, rx, _⟩ := H1.out.get hl
      obtain ⟨y, hy, ry, _⟩ := H2.out.get hl
      obtain ⟨gV, cV, eV, d0, _⟩ := HV.out.at31 hx
      obtain ⟨gW, cW, eW, d1, _⟩ := HW.out.at31 hy
      cases eV
      cases eW
      obtain ⟨B0, b0, ex⟩ := rx.slice
      obtain ⟨B1, b1, ey⟩ := ry.slice
      rw [cel_length] at ex ey
      subst ex ey
      have k1 : ∀ n, (convert 31 9 (.slice B0 l.length b0)).run Try.prog (w.drewN n) = .ok (.string ⟨l.toArray⟩) (w.drewN n) := fun n => conv_byt (rx.byt.drewN n)
      have k2 : ∀ n, (convert 31 9 (.slice B1 l.length b1)).run Try.prog (w.drewN n) = .ok (.string ⟨l.toArray⟩) (w.drewN n) := fun n => conv_byt (ry.byt.drewN n)
      have v1 : k < vs.length := by rw [HVL.out]; exact c1
      have v2 : k < ws.length := by rw [HWL.out]; exact c1
      clear rx ry hx hy hl
      go_wp2_with fail
      go_quiet (fail)
      go_wp2_with fail
      exact ⟨⟨k + 1, _, by omega, by go_num, rfl⟩, by simp [intOf]; omega⟩
    · have v1 : vs.length ≤ k := by rw [HVL.out]; omega
      go_wp2_with fail
      go_ret
      exact ⟨rfl, _, rfl⟩

end Go.Proofs.Ytjeeiaelicekhaa
