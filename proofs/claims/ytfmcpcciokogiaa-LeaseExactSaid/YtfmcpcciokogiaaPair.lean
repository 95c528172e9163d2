/- A heap and the reference's in step. -/
import Derived.Test.YtfmcpcciokogiaaRefH
namespace Go.Proofs.Ytfmcpcciokogiaa
open Go.RowKit Fl

theorem pos_find (L : List It) (s : ByteArray) : (posP (pr L) s = none ∧ L.find? (isKey s) = none) ∨ ∃ i x, posP (pr L) s = some i ∧ L.find? (isKey s) = some x ∧ (pr L)[i]? = some (x.key, x.fin) := by
  induction L with
  | nil => exact .inl ⟨rfl, rfl⟩
  | cons a l ih =>
    have e : pr (a :: l) = (a.key, a.fin) :: pr l := rfl
    rw [e, posP_cons]
    by_cases c : tx a.key = tx s
    · refine .inr ⟨0, a, by rw [if_pos c], ?_, rfl⟩
      rw [List.find?_cons_of_pos (isKey_iff.2 c)]
    · have c' : ¬ isKey s a = true := fun q => c (isKey_iff.1 q)
      rw [if_neg c, List.find?_cons_of_neg c']
      rcases ih with ⟨h1, h2⟩ | ⟨i, x, h1, h2, h3⟩
      · exact .inl ⟨by rw [h1]; rfl, h2⟩
      · exact .inr ⟨i + 1, x, by rw [h1]; rfl, h2, by simpa using h3⟩

/-- A heap at h and the reference's at r hold the same; all their blocks lie in G. -/
def Pair (w : World) (G : Nat → Prop) (h r T : Nat) : Prop :=
  ∃ Gh Gr L, HS w Gh h L T ∧ RP w Gr r (pr L) ∧ (∀ k, Gh k → ¬ Gr k) ∧ (∀ k, Gh k → G k) ∧ (∀ k, Gr k → G k) ∧ ∀ k, G k → k < w.heap.size

theorem Pair.keep {w w' : World} {G H : Nat → Prop} {h r T : Nat} (p : Pair w G h r T) (t : Turned H w w') (hd : ∀ k, G k → ¬ H k) : Pair w' G h r T := by
  obtain ⟨Gh, Gr, L, p1, p2, p3, p4, p5, p6⟩ := p
  exact ⟨Gh, Gr, L, p1.keep t fun k q => hd k (p4 k q), p2.keep t fun k q => hd k (p5 k q), p3, p4, p5, fun k q => Nat.lt_of_lt_of_le (p6 k q) t.2.2.2.1⟩
theorem Pair.size {w : World} {G : Nat → Prop} {h r T : Nat} (p : Pair w G h r T) : ∀ k, G k → k < w.heap.size := by
  obtain ⟨_, _, _, _, _, _, _, _, q⟩ := p
  exact q
theorem Pair.below {w w' : World} {G : Nat → Prop} {h r T : Nat} (p : Pair w G h r T) (hb : Below w.heap.size w w') : Pair w' G h r T :=
  p.keep (below_turned hb) fun k h1 h2 => by have := p.size k h1; omega
theorem Pair.drewN {w : World} {G : Nat → Prop} {h r T : Nat} (p : Pair w G h r T) (n : Nat) : Pair (w.drewN n) G h r T :=
  p.keep (H := fun _ => False) ⟨rfl, rfl, rfl, Nat.le_refl _, fun _ _ _ => rfl⟩ fun _ _ h => h

/-- What a call leaves. -/
def Grew (w : World) (G : Nat → Prop) (h r T : Nat) (w' : World) : Prop :=
  ∃ T', T' ≤ T + 1 ∧ Pair w' (fun k => G k ∨ (w.heap.size ≤ k ∧ k < w'.heap.size)) h r T' ∧ Turned G w w'

theorem grew_of {w w' : World} {G Gh Gr : Nat → Prop} {h r T T' : Nat} {L : List It} (hT : T' ≤ T + 1) (h1 : HS w' Gh h L T') (h2 : RP w' Gr r (pr L)) (h3 : ∀ k, Gh k → ¬ Gr k) (h4 : ∀ k, Gh k → G k ∨ w.heap.size ≤ k) (h5 : ∀ k, Gr k → G k ∨ w.heap.size ≤ k) (hG : ∀ k, G k → k < w.heap.size) (t : Turned G w w') :
    Grew w G h r T w' := by
  refine ⟨T', hT, ⟨Gh, Gr, L, h1, h2, h3, fun k q => ?_, fun k q => ?_, fun k q => ?_⟩, t⟩
  · rcases h4 k q with q2 | q2
    · exact .inl q2
    · exact .inr ⟨q2, h1.parts.1 k q⟩
  · rcases h5 k q with q2 | q2
    · exact .inl q2
    · exact .inr ⟨q2, h2.size k q⟩
  · rcases q with q | q
    · exact Nat.lt_of_lt_of_le (hG k q) t.2.2.2.1
    · exact q.2
theorem Pair.same {w w' : World} {G : Nat → Prop} {h r T : Nat} (p : Pair w G h r T) (hb : Below w.heap.size w w') : Grew w G h r T w' := by
  obtain ⟨Gh, Gr, L, p1, p2, p3, p4, p5, p6⟩ := p
  exact grew_of (Nat.le_succ T) (p1.below hb) (p2.below hb) p3 (fun k q => .inl (p4 k q)) (fun k q => .inl (p5 k q)) p6 ⟨hb.os, hb.tape, hb.output, hb.size, fun k hk _ => hb.block k hk⟩

end Go.Proofs.Ytfmcpcciokogiaa
