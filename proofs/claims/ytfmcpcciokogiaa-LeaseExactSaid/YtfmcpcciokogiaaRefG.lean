/- The reference's End, Next. -/
import Derived.Test.YtfmcpcciokogiaaRefF
namespace Go.Proofs.Ytfmcpcciokogiaa
open Go.RowKit Fl

/-- What End says of the list. -/
def endV (P : List Pr) (s : ByteArray) : Value := match posP P s with
  | none => .tuple #[.float .f64 0, .bool false]
  | some i => match P[i]? with
    | none => .tuple #[.float .f64 0, .bool false]
    | some p => .tuple #[.float .f64 p.2, .bool true]
def nextV (P : List Pr) : Value := match minP P with
  | none => .tuple #[.float .f64 0, .bool false]
  | some p => .tuple #[.float .f64 p.2, .bool true]

set_option maxHeartbeats 2000000 in
theorem rend_any (w : World) (G : Nat → Prop) (r : Nat) (P : List Pr) (s : ByteArray) (h : RP w G r P) (hl : P.length ≤ 1000000) :
    Calls Try.prog 35 #[.pointer (some ⟨r, 0, none⟩), .string s] w fun e w' => e = .returned (endV P s) ∧ w = w' := by
  have HA := Lib.hid (at_any w G r P s h hl)
  obtain ⟨A, c, A', c', h1, h2, h3⟩ := h.open
  obtain ⟨q0, q1, _⟩ := two_cells h1
  have HK := Lib.hid h3.src
  clear h1 h2 h3 h
  cases hp : posP P s with
  | none =>
    have hi : posI P s = -1 := by unfold posI; rw [hp]
    have hv : endV P s = .tuple #[.float .f64 0, .bool false] := by unfold endV; rw [hp]
    rw [hi] at HA
    rw [hv]
    clear hp hi hv
    go_enter Try.func35, Try.ntmps35
    go_wp2_with fail
    refine HA.out.mono ?_
    rintro e w' ⟨rfl, rfl⟩
    go_wp2_with fail
    go_ret2
    exact ⟨rfl, rfl⟩
  | some i =>
    have hil := posP_lt hp
    have hi : posI P s = (i : Int) := by unfold posI; rw [hp]
    have hv : endV P s = .tuple #[.float .f64 (P[i]).2, .bool true] := by unfold endV; rw [hp]; simp only; rw [List.getElem?_eq_getElem hil]
    rw [hi] at HA
    rw [hv]
    obtain ⟨ad, c5, e5, g5⟩ := HK.out.at (k := i) (by rw [et_length]; exact hil)
    rw [et_length] at e5
    cases e5
    have g6 : (et P)[i]'(by rw [et_length]; exact hil) = .float .f64 (P[i]).2 := by simp [et]
    rw [g6] at g5
    have hiI : (i : Int) < (P.length : Int) := by omega
    have hi0 : ¬ (i : Int) < 0 := by omega
    generalize (P[i]).2 = x at *
    clear hp hi hv g6 HK
    go_enter Try.func35, Try.ntmps35
    go_wp2_with fail
    refine HA.out.mono ?_
    rintro e w' ⟨rfl, rfl⟩
    go_wp2_with fail
    go_ret2
    exact ⟨rfl, rfl⟩

set_option maxHeartbeats 2000000 in
theorem rnext_any (w : World) (G : Nat → Prop) (r : Nat) (P : List Pr) (h : RP w G r P) (hl : P.length ≤ 1000000) (hN : NumP P) :
    Calls Try.prog 37 #[.pointer (some ⟨r, 0, none⟩)] w fun e w' => e = .returned (nextV P) ∧ ∃ n, w' = w.drewN n := by
  have HA := Lib.hid (first_any w G r P h hl hN)
  obtain ⟨A, c, A', c', h1, h2, h3⟩ := h.open
  obtain ⟨q0, q1, _⟩ := two_cells h1
  have HK := Lib.hid h3.src
  clear h1 h2 h3 h
  go_enter Try.func37, Try.ntmps37
  go_wp2_with fail
  refine HA.out.mono ?_
  rintro e w' ⟨⟨v, rfl, hv⟩, n, rfl⟩
  rcases hv with ⟨rfl, rfl⟩ | ⟨i, hil, rfl, hm⟩
  · go_wp2_with fail
    go_ret2
    exact ⟨rfl, n, rfl⟩
  · have hv : nextV P = .tuple #[.float .f64 (P[i]).2, .bool true] := by unfold nextV; rw [hm]
    have HV := Lib.hid hv
    obtain ⟨ad, c5, e5, g5⟩ := HK.out.at (k := i) (by rw [et_length]; exact hil)
    rw [et_length] at e5
    cases e5
    have g6 : (et P)[i]'(by rw [et_length]; exact hil) = .float .f64 (P[i]).2 := by simp [et]
    rw [g6] at g5
    have hiI : (i : Int) < (P.length : Int) := by omega
    have hi0 : ¬ (i : Int) < 0 := by omega
    clear hm hv
    generalize (P[i]).2 = x at *
    clear g6 HK
    go_wp2_with fail
    go_ret2
    rw [HV.out]
    exact ⟨rfl, n, rfl⟩

end Go.Proofs.Ytfmcpcciokogiaa
