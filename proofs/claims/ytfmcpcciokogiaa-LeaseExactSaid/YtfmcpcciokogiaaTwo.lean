/- Two heaps side by side; the calls that came in; Text. -/
import Derived.Test.YtfmcpcciokogiaaPairs
namespace Go.Proofs.Ytfmcpcciokogiaa
open Go.RowKit Fl

/-- A text, cut. -/
def cutT (s : ByteArray) : ByteArray := if 30 < s.size then s.extract 0 30 else s
theorem cutT_small {s : ByteArray} (h : s.size ≤ maxLen) : (cutT s).size ≤ maxLen := by
  unfold cutT
  split
  · rw [ByteArray.size_extract]
    omega
  · exact h
theorem text_any (s : ByteArray) (w : World) : Calls Try.prog 11 #[.string s, .int .i64 30] w fun e w' => e = .returned (.string (cutT s)) ∧ w = w' := by
  unfold cutT
  by_cases c : 30 < s.size
  · rw [if_pos c]
    have hcI : (30 : Int) < (s.size : Int) := by omega
    go_enter Try.func11, Try.ntmps11
    go_wp2_with fail
    go_ret
    exact ⟨rfl, rfl⟩
  · rw [if_neg c]
    have hcI : ¬ (30 : Int) < (s.size : Int) := by omega
    go_enter Try.func11, Try.ntmps11
    go_wp2_with fail
    go_ret
    exact ⟨rfl, rfl⟩

/-- The calls that came in, by place: which heap, what, the key, the float's bits. -/
def Acts (w : World) (a : Option Addr) (len : Nat) (on dO : Nat → Int) (key : Nat → ByteArray) (fl : Nat → Nat) : Prop :=
  len ≤ maxLen ∧ ∀ i, i < len → ∃ b off, a = some ⟨b, off, none⟩ ∧ b < w.heap.size ∧ w.cell? ⟨b, off + i * 4, none⟩ = some (.int .i64 (on i)) ∧ w.cell? ⟨b, off + i * 4 + 1, none⟩ = some (.int .i64 (dO i)) ∧
    w.cell? ⟨b, off + i * 4 + 2, none⟩ = some (.string (key i)) ∧ w.cell? ⟨b, off + i * 4 + 3, none⟩ = some (.int .u64 (fl i)) ∧ (key i).size ≤ maxLen ∧ -9223372036854775808 ≤ on i ∧ on i < 9223372036854775808

/-- Two heaps, apart from one another and from what was there. -/
def Two (w0 : World) (wr : World) (Ga Gb : Nat → Prop) (ha hb : Nat) (LA LB : List It) (TA TB : Nat) : Prop :=
  HS wr Ga ha LA TA ∧ HS wr Gb hb LB TB ∧ (∀ k, Ga k → ¬ Gb k) ∧ (∀ k, Ga k → w0.heap.size ≤ k) ∧ (∀ k, Gb k → w0.heap.size ≤ k) ∧ Turned (fun k => w0.heap.size ≤ k) w0 wr

theorem Two.swap {w0 wr : World} {Ga Gb : Nat → Prop} {ha hb TA TB : Nat} {LA LB : List It} (k : Two w0 wr Ga Gb ha hb LA LB TA TB) : Two w0 wr Gb Ga hb ha LB LA TB TA :=
  ⟨k.2.1, k.1, fun j h1 h2 => k.2.2.1 j h2 h1, k.2.2.2.2.1, k.2.2.2.1, k.2.2.2.2.2⟩
theorem Two.grow {w0 wr w' : World} {Ga Gb : Nat → Prop} {ha hb TA TB TA' : Nat} {LA LB LA' : List It} (k : Two w0 wr Ga Gb ha hb LA LB TA TB) (h : HS w' (fun k => Ga k ∨ (wr.heap.size ≤ k ∧ k < w'.heap.size)) ha LA' TA') (t : Turned Ga wr w') :
    ∃ Ga', Two w0 w' Ga' Gb ha hb LA' LB TA' TB := by
  obtain ⟨k1, k2, k3, k4, k5, k6⟩ := k
  refine ⟨_, h, k2.keep t fun j h1 h2 => k3 j h2 h1, fun j h1 h2 => ?_, fun j h1 => ?_, k5, k6.trans (t.mono k4)⟩
  · rcases h1 with h1 | h1
    · exact k3 j h1 h2
    · have := k2.parts.1 j h2
      omega
  · rcases h1 with h1 | h1
    · exact k4 j h1
    · have := k6.2.2.2.1
      omega
theorem Two.turn {w0 wr w' : World} {Ga Gb : Nat → Prop} {ha hb TA TB TA' : Nat} {LA LB LA' : List It} (k : Two w0 wr Ga Gb ha hb LA LB TA TB) (h : HS w' Ga ha LA' TA') (t : Turned Ga wr w') :
    Two w0 w' Ga Gb ha hb LA' LB TA' TB := by
  obtain ⟨k1, k2, k3, k4, k5, k6⟩ := k
  exact ⟨h, k2.keep t fun j h1 h2 => k3 j h2 h1, k3, k4, k5, k6.trans (t.mono k4)⟩
/-- What changes lies apart from both. -/
theorem Two.aside {w0 wr w' : World} {Ga Gb H : Nat → Prop} {ha hb TA TB : Nat} {LA LB : List It} (k : Two w0 wr Ga Gb ha hb LA LB TA TB) (t : Turned H wr w') (h1 : ∀ k, Ga k → ¬ H k) (h2 : ∀ k, Gb k → ¬ H k) (h3 : ∀ k, k < wr.heap.size → H k → w0.heap.size ≤ k) :
    Two w0 w' Ga Gb ha hb LA LB TA TB := by
  obtain ⟨k1, k2, k3, k4, k5, k6⟩ := k
  refine ⟨k1.keep t h1, k2.keep t h2, k3, k4, k5, k6.step t fun j hj hH => ?_⟩
  exact h3 j (Nat.lt_of_lt_of_le hj k6.2.2.2.1) hH
theorem Two.below {w0 wr w' : World} {Ga Gb : Nat → Prop} {ha hb TA TB : Nat} {LA LB : List It} (k : Two w0 wr Ga Gb ha hb LA LB TA TB) (h : Below wr.heap.size wr w') : Two w0 w' Ga Gb ha hb LA LB TA TB :=
  k.aside (below_turned h) (fun j h1 h2 => by have := k.1.parts.1 j h1; omega) (fun j h1 h2 => by have := k.2.1.parts.1 j h1; omega) (fun j h1 h2 => by omega)
theorem Two.drewN {w0 wr : World} {Ga Gb : Nat → Prop} {ha hb TA TB : Nat} {LA LB : List It} (k : Two w0 wr Ga Gb ha hb LA LB TA TB) (n : Nat) : Two w0 (wr.drewN n) Ga Gb ha hb LA LB TA TB :=
  ⟨k.1.drewN n, k.2.1.drewN n, k.2.2.1, k.2.2.2.1, k.2.2.2.2.1, k.2.2.2.2.2.drewN n⟩

/-- Two that are new. -/
theorem two_new {w0 w1 w2 : World} {Ga Gb : Nat → Prop} {ha hb : Nat} (h1 : HS w1 Ga ha [] 0) (g1 : ∀ k, Ga k → w0.heap.size ≤ k) (t1 : Turned (fun k => w0.heap.size ≤ k) w0 w1) (h2 : HS w2 Gb hb [] 0) (g2 : ∀ k, Gb k → w1.heap.size ≤ k) (b2 : Below w1.heap.size w1 w2) :
    Two w0 w2 Ga Gb ha hb [] [] 0 0 := by
  have hs := t1.2.2.2.1
  refine ⟨h1.below b2, h2, fun j q1 q2 => ?_, g1, fun j q => Nat.le_trans hs (g2 j q), t1.trans ((below_turned b2).mono fun j q => by omega)⟩
  have := h1.parts.1 j q1
  have := g2 j q2
  omega

end Go.Proofs.Ytfmcpcciokogiaa
