/- Two pairs side by side, behind two arrays. -/
import Derived.Test.YtfmcpcciokogiaaPlayB
import Derived.Laws.BitsLemmas
namespace Go.Proofs.Ytfmcpcciokogiaa
open Go.RowKit Fl

theorem i64_and1 (n : Int) : bits .and .i64 n 1 = n % 2 := by
  have h1 : (BitVec.ofInt 64 1).toNat = 2 ^ 1 - 1 := by decide
  have key : (BitVec.ofInt 64 n &&& BitVec.ofInt 64 1).toNat = (n % ((2 ^ 64 : Nat) : Int)).toNat % 2 ^ 1 := by
    rw [BitVec.toNat_and, BitVec.toNat_ofInt, h1, Nat.and_two_pow_sub_one_eq_mod]
  show IntKind.i64.wrap ((BitVec.ofInt 64 n &&& BitVec.ofInt 64 1).toNat : Nat) = n % 2
  rw [key, IntKind.wrap_i64]
  omega

def ptr (h : Nat) : Value := .pointer (some ⟨h, 0, none⟩)

/-- Of the two pairs the one that stands at k; the other beside it. -/
def Side (w wr : World) (k h r B : Nat) (G : Nat → Prop) (T : Nat) : Prop :=
  k ≤ 1 ∧ wr.cell? ⟨w.heap.size, k, none⟩ = some (ptr h) ∧ wr.cell? ⟨w.heap.size + 1, k, none⟩ = some (ptr r) ∧ Pair wr G h r T ∧ T ≤ B ∧ (∀ j, G j → w.heap.size + 2 ≤ j) ∧ w.heap.size + 2 ≤ wr.heap.size ∧ Turned (fun j => w.heap.size ≤ j) w wr ∧
    ∃ h' r' G' T', wr.cell? ⟨w.heap.size, 1 - k, none⟩ = some (ptr h') ∧ wr.cell? ⟨w.heap.size + 1, 1 - k, none⟩ = some (ptr r') ∧ Pair wr G' h' r' T' ∧ T' ≤ B ∧ (∀ j, G' j → w.heap.size + 2 ≤ j) ∧ ∀ j, G j → ¬ G' j

theorem Side.flip {w wr : World} {k h r B T : Nat} {G : Nat → Prop} (s : Side w wr k h r B G T) : ∃ h' r' G' T', Side w wr (1 - k) h' r' B G' T' := by
  obtain ⟨s1, s2, s3, s4, s5, s6, s7, s8, h', r', G', T', t1, t2, t3, t4, t5, t6⟩ := s
  have e : 1 - (1 - k) = k := by omega
  exact ⟨h', r', G', T', by omega, t1, t2, t3, t4, t5, s7, s8, h, r, G, T, by rw [e]; exact s2, by rw [e]; exact s3, s4, s5, s6, fun j q1 q2 => t6 j q2 q1⟩

theorem Side.grow {w wr w' : World} {k h r B T : Nat} {G : Nat → Prop} (s : Side w wr k h r B G T) (g : Grew wr G h r T w') : ∃ G' T', Side w w' k h r (B + 1) G' T' := by
  obtain ⟨s1, s2, s3, s4, s5, s6, s7, s8, h', r', G', T', t1, t2, t3, t4, t5, t6⟩ := s
  obtain ⟨T2, g1, g2, g3⟩ := g
  have hc : ∀ b o, b < w.heap.size + 2 → w'.cell? ⟨b, o, none⟩ = wr.cell? ⟨b, o, none⟩ := fun b o hb => World.cell?_of_block (g3.2.2.2.2 b (by omega) (fun q => by have := s6 b q; omega))
  have hs := g3.2.2.2.1
  refine ⟨_, T2, s1, (hc _ _ (by omega)).trans s2, (hc _ _ (by omega)).trans s3, g2, by omega, fun j q => ?_, by omega, s8.trans (g3.mono fun j q => by have := s6 j q; omega), h', r', G', T', (hc _ _ (by omega)).trans t1, (hc _ _ (by omega)).trans t2, t3.keep g3 fun j q1 q2 => t6 j q2 q1, by omega, t5, fun j q1 q2 => ?_⟩
  · rcases q with q | q
    · exact s6 j q
    · omega
  · rcases q1 with q | q
    · exact t6 j q q2
    · have := t3.size j q2
      omega
theorem Side.drewN {w wr : World} {k h r B T : Nat} {G : Nat → Prop} (s : Side w wr k h r B G T) (n : Nat) : Side w (wr.drewN n) k h r B G T := by
  obtain ⟨s1, s2, s3, s4, s5, s6, s7, s8, h', r', G', T', t1, t2, t3, t4, t5, t6⟩ := s
  exact ⟨s1, s2, s3, s4.drewN n, s5, s6, s7, s8.drewN n, h', r', G', T', t1, t2, t3.drewN n, t4, t5, t6⟩

/-- Either of them. -/
def Both (w : World) (B : Nat) (wr : World) : Prop := ∃ h r G T, Side w wr 0 h r B G T
theorem Side.both {w wr : World} {k h r B T : Nat} {G : Nat → Prop} (s : Side w wr k h r B G T) : Both w B wr := by
  have h1 := s.1
  rcases Nat.lt_or_ge 0 k with h2 | h2
  · have e : 1 - k = 0 := by omega
    have := s.flip
    rw [e] at this
    exact this
  · have e : k = 0 := by omega
    subst e
    exact ⟨_, _, _, _, s⟩
theorem Both.side {w wr : World} {B : Nat} (b : Both w B wr) {k : Nat} (hk : k ≤ 1) : ∃ h r G T, Side w wr k h r B G T := by
  obtain ⟨h, r, G, T, s⟩ := b
  rcases Nat.lt_or_ge 0 k with h2 | h2
  · have e : k = 1 - 0 := by omega
    rw [e]
    exact s.flip
  · have e : k = 0 := by omega
    subst e
    exact ⟨_, _, _, _, s⟩

/-- A new pair, put into the arrays. -/
theorem new_pair {wr w1 : World} {A i h r m : Nat} {x y : Value} (hA : A + 2 ≤ wr.heap.size) (h1 : HS w1 (fun k => wr.heap.size ≤ k ∧ k < w1.heap.size) h [] 0) (hb : Below wr.heap.size wr w1) (hs : w1.heap.size = m) (hr : r = m) :
    Pair (((w1.alloc (.cells #[.slice none 0 0, .slice none 0 0] 59)).setCell ⟨A, i, none⟩ x).setCell ⟨A + 1, i, none⟩ y) (fun k => wr.heap.size ≤ k ∧ k < m + 1) h r 0 ∧
      Turned (fun k => k = A ∨ k = A + 1) wr (((w1.alloc (.cells #[.slice none 0 0, .slice none 0 0] 59)).setCell ⟨A, i, none⟩ x).setCell ⟨A + 1, i, none⟩ y) ∧
      (((w1.alloc (.cells #[.slice none 0 0, .slice none 0 0] 59)).setCell ⟨A, i, none⟩ x).setCell ⟨A + 1, i, none⟩ y).heap.size = m + 1 := by
  subst hs
  subst hr
  have t1 : Turned (fun k => k = A ∨ k = A + 1) wr w1 := ⟨hb.os, hb.tape, hb.output, hb.size, fun k hk _ => hb.block k hk⟩
  have t2 : Turned (fun k => k = A ∨ k = A + 1) w1 (((w1.alloc (.cells #[.slice none 0 0, .slice none 0 0] 59)).setCell ⟨A, i, none⟩ x).setCell ⟨A + 1, i, none⟩ y) :=
    ((Turned.alloc _ _).trans (Turned.set _ (.inl rfl))).trans (Turned.set _ (.inr rfl))
  have hsz : (((w1.alloc (.cells #[.slice none 0 0, .slice none 0 0] 59)).setCell ⟨A, i, none⟩ x).setCell ⟨A + 1, i, none⟩ y).heap.size = w1.heap.size + 1 := by rw [set_size, set_size, alloc_size]
  have hbs := hb.size
  refine ⟨⟨_, fun k => k = w1.heap.size, [], h1.keep t2 fun k q1 q2 => by omega, ⟨.slice none 0 0, .slice none 0 0, ?_, ⟨rfl, .inl ⟨rfl, rfl⟩⟩, ⟨rfl, .inl ⟨rfl, rfl⟩⟩, fun g q => (by cases q), fun g q => (by cases q), rfl, fun k q => (by rw [hsz]; omega)⟩, fun k q1 q2 => by omega, fun k q => ⟨q.1, by omega⟩, fun k q => by omega, fun k q => by rw [hsz]; exact q.2⟩, t1.trans t2, hsz⟩
  rw [set_off _ (by simp; omega), set_off _ (by simp; omega)]
  exact heap_alloc_new _ _

theorem Side.mono {w wr : World} {k h r B C T : Nat} {G : Nat → Prop} (s : Side w wr k h r B G T) (hc : B ≤ C) : Side w wr k h r C G T := by
  obtain ⟨s1, s2, s3, s4, s5, s6, s7, s8, h', r', G', T', t1, t2, t3, t4, t5, t6⟩ := s
  exact ⟨s1, s2, s3, s4, by omega, s6, s7, s8, h', r', G', T', t1, t2, t3, by omega, t5, t6⟩
theorem Both.mono {w wr : World} {B C : Nat} (b : Both w B wr) (hc : B ≤ C) : Both w C wr := by
  obtain ⟨h, r, G, T, s⟩ := b
  exact ⟨h, r, G, T, s.mono hc⟩
theorem Both.turned {w wr : World} {B : Nat} (b : Both w B wr) : Turned (fun j => w.heap.size ≤ j) w wr := by
  obtain ⟨_, _, _, _, _, _, _, _, _, _, _, q, _⟩ := b
  exact q
theorem Side.pair {w wr : World} {k h r B T : Nat} {G : Nat → Prop} (s : Side w wr k h r B G T) : Pair wr G h r T ∧ T ≤ B ∧ Turned (fun j => w.heap.size ≤ j) w wr := by
  obtain ⟨_, _, _, q, q2, _, _, q3, _⟩ := s
  exact ⟨q, q2, q3⟩

/-- What the law reads: the two pointers, the call. -/
def Sees (w : World) (k h r : Nat) (b o : Nat) (on dO : Int) (key : ByteArray) (fl : Nat) (w' : World) : Prop :=
  w'.cell? ⟨w.heap.size, k, none⟩ = some (.pointer (some ⟨h, 0, none⟩)) ∧ w'.cell? ⟨w.heap.size + 1, k, none⟩ = some (.pointer (some ⟨r, 0, none⟩)) ∧ w'.cell? ⟨b, o, none⟩ = some (.int .i64 on) ∧ w'.cell? ⟨b, o + 1, none⟩ = some (.int .i64 dO) ∧
    w'.cell? ⟨b, o + 2, none⟩ = some (.string key) ∧ w'.cell? ⟨b, o + 3, none⟩ = some (.int .u64 fl)
theorem Side.sees {w wr w' : World} {k h r B T b o fl C T' : Nat} {G G' : Nat → Prop} {on dO : Int} {key : ByteArray} (s : Side w wr k h r B G T) (hb : b < w.heap.size) (s' : Side w w' k h r C G' T') (v : Sees w k h r b o on dO key fl wr) : Sees w k h r b o on dO key fl w' := by
  have t := s.pair.2.2
  have t' := s'.pair.2.2
  have hc : ∀ p : Addr, p.block = b → w'.cell? p = wr.cell? p := fun p hp => ((turned_below (Nat.le_refl _) t').cell (by rw [hp]; exact hb)).trans ((turned_below (Nat.le_refl _) t).cell (by rw [hp]; exact hb)).symm
  exact ⟨s'.2.1, s'.2.2.1, (hc _ rfl).trans v.2.2.1, (hc _ rfl).trans v.2.2.2.1, (hc _ rfl).trans v.2.2.2.2.1, (hc _ rfl).trans v.2.2.2.2.2⟩

end Go.Proofs.Ytfmcpcciokogiaa
