/- The reference's heap: where a key stands; the first to end. -/
import Derived.Test.YtfmcpcciokogiaaGoes
import Derived.Deep.RegionHeldLaw
namespace Go.Proofs.Ytfmcpcciokogiaa
open Go.RowKit Fl

def kt (P : List Pr) : List Value := P.map fun p => .string p.1
def et (P : List Pr) : List Value := P.map fun p => .float .f64 p.2
theorem kt_length (P : List Pr) : (kt P).length = P.length := by simp [kt]
theorem et_length (P : List Pr) : (et P).length = P.length := by simp [et]

/-- The reference's heap at block r. -/
def RP (w : World) (G : Nat → Prop) (r : Nat) (P : List Pr) : Prop :=
  ∃ kv ev, w.heap[r]? = some (.cells #[kv, ev] 59 (0, 0)) ∧ Row 0 w 9 kv (kt P) ∧ Row 0 w 27 ev (et P) ∧ (∀ g, kv.ownBlock = some g → G g) ∧ (∀ g, ev.ownBlock = some g → G g) ∧ G r ∧ ∀ k, G k → k < w.heap.size

theorem RP.keep {w w' : World} {G H : Nat → Prop} {r : Nat} {P : List Pr} (h : RP w G r P) (t : Turned H w w') (hd : ∀ k, G k → ¬ H k) : RP w' G r P := by
  obtain ⟨kv, ev, a1, a2, a3, a4, a5, a6, a7⟩ := h
  have hk : ∀ k, G k → k < w.heap.size → w'.heap[k]? = w.heap[k]? := fun k h1 h2 => t.2.2.2.2 k h2 (hd k h1)
  exact ⟨kv, ev, (hk r a6 (a7 r a6)).trans a1, a2.cells fun g cur hv hg => (hk g (a4 g hv) (Array.getElem?_eq_some_iff.1 hg).1).trans hg, a3.cells fun g cur hv hg => (hk g (a5 g hv) (Array.getElem?_eq_some_iff.1 hg).1).trans hg, a4, a5, a6, fun k q => Nat.lt_of_lt_of_le (a7 k q) t.2.2.2.1⟩
theorem RP.drewN {w : World} {G : Nat → Prop} {r : Nat} {P : List Pr} (h : RP w G r P) (n : Nat) : RP (w.drewN n) G r P := h
theorem RP.below {w w' : World} {G : Nat → Prop} {r : Nat} {P : List Pr} (h : RP w G r P) (hb : Below w.heap.size w w') : RP w' G r P := by
  have hG : ∀ k, G k → k < w.heap.size := by
    obtain ⟨_, _, _, _, _, _, _, _, q⟩ := h
    exact q
  exact h.keep (below_turned hb) fun k h1 h2 => by have := hG k h1; omega

theorem two_cells {w : World} {r t : Nat} {x y : Value} (h : w.heap[r]? = some (.cells #[x, y] t (0, 0))) :
    w.cell? ⟨r, 0, none⟩ = some x ∧ w.cell? ⟨r, 1, none⟩ = some y ∧ w.frozen? ⟨r, 0, none⟩ = false ∧ w.frozen? ⟨r, 1, none⟩ = false := by
  simp [World.cell?, World.frozen?, h]

/-- The parts, the slices opened. -/
theorem RP.open {w : World} {G : Nat → Prop} {r : Nat} {P : List Pr} (h : RP w G r P) :
    ∃ A c A' c', w.heap[r]? = some (.cells #[.slice A P.length c, .slice A' P.length c'] 59 (0, 0)) ∧ Row 0 w 9 (.slice A P.length c) (kt P) ∧ Row 0 w 27 (.slice A' P.length c') (et P) := by
  obtain ⟨kv, ev, a1, a2, a3, _⟩ := h
  obtain ⟨A, c, rfl⟩ := a2.slice
  obtain ⟨A', c', rfl⟩ := a3.slice
  rw [kt_length, et_length] at *
  exact ⟨A, c, A', c', a1, a2, a3⟩

/-- Where the key stands. -/
def posP (P : List Pr) (s : ByteArray) : Option Nat := P.findIdx? fun p => decide (tx p.1 = tx s)
def posI (P : List Pr) (s : ByteArray) : Int := match posP P s with | some i => (i : Int) | none => -1

set_option maxRecDepth 100000 in
set_option maxHeartbeats 2000000 in
theorem at_any (w : World) (G : Nat → Prop) (r : Nat) (P : List Pr) (s : ByteArray) (h : RP w G r P) (hl : P.length ≤ 1000000) :
    Calls Try.prog 42 #[.pointer (some ⟨r, 0, none⟩), .string s] w fun e w' => e = .returned (.int .i64 (posI P s)) ∧ w = w' := by
  obtain ⟨A, c, A', c', h1, h2, h3⟩ := h.open
  obtain ⟨q0, q1, _⟩ := two_cells h1
  have HK := Lib.hid h2.src
  clear h1 h2 h3 h
  go_enter Try.func42, Try.ntmps42
  go_wp2_with fail
  go_loopw [5] (fun i wr => ∃ j : Nat, i = .int .i64 j ∧ j ≤ P.length ∧ Hid (∀ m (hm : m < j) (hm2 : m < P.length), (P[m]).1 ≠ s) ∧ wr = w) (fun i _ => P.length - (intOf i).toNat)
  case atStart => exact ⟨0, rfl, by omega, fun m hm => by omega, rfl⟩
  case round =>
    obtain ⟨j, rfl, hj, hno, rfl⟩ := hrel
    by_cases c1 : j < P.length
    · obtain ⟨ad, c5, e5, g5⟩ := HK.out.at (k := j) (by rw [kt_length]; exact c1)
      rw [kt_length] at e5
      cases e5
      have g6 : (kt P)[j]'(by rw [kt_length]; exact c1) = .string (P[j]).1 := by simp [kt]
      rw [g6] at g5
      have c1I : (j : Int) < (P.length : Int) := by omega
      clear g6
      by_cases he : (P[j]).1 = s
      · have HR : Hid (posI P s = (j : Int)) := by
          have : posP P s = some j := by
            unfold posP
            rw [List.findIdx?_eq_some_iff_getElem]
            refine ⟨c1, by simp [he], fun m hm => ?_⟩
            have := hno.out m hm (by omega)
            simpa using fun q => this (tx_inj q)
          show posI P s = _
          unfold posI
          rw [this]
        rw [he] at g5
        go_wp2_with fail
        go_ret
        rw [HR.out]
        exact ⟨rfl, rfl⟩
      · have HN : Hid (∀ m (hm : m < j + 1) (hm2 : m < P.length), (P[m]).1 ≠ s) := fun m hm hm2 => by
          rcases Nat.lt_or_ge m j with h | h
          · exact hno.out m h hm2
          · have : m = j := by omega
            subst this
            exact he
        generalize (P[j]).1 = x at *
        have hbe : (x.toList == s.toList) = false := beq_eq_false_iff_ne.2 fun q => he (list_inj q)
        go_wp2_with fail
        exact ⟨⟨j + 1, by go_num, by omega, HN, trivial⟩, by simp [intOf]; omega⟩
    · have HR : Hid (posI P s = -1) := by
        have : posP P s = none := by
          unfold posP
          rw [List.findIdx?_eq_none_iff]
          intro p hp
          obtain ⟨m, hm, e⟩ := List.mem_iff_getElem.1 hp
          have := hno.out m (by omega) hm
          rw [e] at this
          simpa using fun q => this (tx_inj q)
        show posI P s = _
        unfold posI
        rw [this]
      have c1I : ¬ (j : Int) < (P.length : Int) := by omega
      go_wp2_with fail
      go_ret
      rw [HR.out]
      exact ⟨rfl, rfl⟩

end Go.Proofs.Ytfmcpcciokogiaa
