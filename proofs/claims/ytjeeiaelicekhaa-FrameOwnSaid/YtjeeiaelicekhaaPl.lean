/- Two lists of rows side by side: what was lent and its copies, what is kept and its copies. -/
import Derived.Test.YtjeeiaelicekhaaTn
namespace Go.Proofs.Ytjeeiaelicekhaa
open Go.RowKit

/-- The lists Ls lie in rows of their own; ow tells whose a block is. -/
def Ents (w : World) (ow tag : Nat → Nat) (vs : List Value) (Ls : List (List UInt8)) : Prop :=
  vs.length = Ls.length ∧ ∀ i v l, vs[i]? = some v → Ls[i]? = some l → Row 0 w 5 v (cel l) ∧ ∀ k, v.ownBlock = some k → ow k = tag i

theorem Ents.keep {w w' : World} {ow tag : Nat → Nat} {vs : List Value} {Ls : List (List UInt8)} (h : Ents w ow tag vs Ls)
    (hk : ∀ (i : Nat) (v : Value) (g : Nat) (cs : Array Value), vs[i]? = some v → v.ownBlock = some g → w.heap[g]? = some (.cells cs 5 (0, 0)) → w'.heap[g]? = some (.cells cs 5 (0, 0))) : Ents w' ow tag vs Ls :=
  ⟨h.1, fun i v l hv hl => ⟨(h.2 i v l hv hl).1.cells fun g cur e hg => hk i v g cur hv e hg, (h.2 i v l hv hl).2⟩⟩
theorem Ents.at {w : World} {ow tag : Nat → Nat} {vs : List Value} {Ls : List (List UInt8)} (h : Ents w ow tag vs Ls) {i : Nat} (hi : i < Ls.length) :
    ∃ v, vs[i]? = some v ∧ Row 0 w 5 v (cel Ls[i]) ∧ ∀ k, v.ownBlock = some k → ow k = tag i := by
  have hv : vs[i]? = some (vs[i]'(by rw [h.1]; exact hi)) := List.getElem?_eq_getElem _
  exact ⟨_, hv, h.2 i _ _ hv (List.getElem?_eq_getElem hi)⟩

def PL (w : World) (G : Nat → Prop) (V W : Value) (Ls : List (List UInt8)) : Prop :=
  ∃ vs ws ow, Row 0 w 31 V vs ∧ Row 0 w 31 W ws ∧ Ents w ow (fun i => i + 1) vs Ls ∧ Ents w ow (fun _ => 0) ws Ls ∧ (∀ k, V.ownBlock = some k → W.ownBlock ≠ some k) ∧
    (∀ k, V.ownBlock = some k → G k) ∧ (∀ k, W.ownBlock = some k → G k) ∧ (∀ v ∈ vs, ∀ k, v.ownBlock = some k → G k) ∧ (∀ v ∈ ws, ∀ k, v.ownBlock = some k → G k)

theorem PL.tn {w w' : World} {F G : Nat → Prop} {V W : Value} {Ls : List (List UInt8)} (h : PL w G V W Ls) (t : Tn F w w') (hd : ∀ k, G k → ¬ F k) : PL w' G V W Ls := by
  obtain ⟨vs, ws, ow, h1, h2, h3, h4, h5, h6, h7, h8, h9⟩ := h
  exact ⟨vs, ws, ow, h1.tn t fun k hk => hd k (h6 k hk), h2.tn t fun k hk => hd k (h7 k hk), h3.keep fun i v g cs hv hg hc => t.block hc (hd g (h8 v (List.mem_of_getElem? hv) g hg)),
    h4.keep fun i v g cs hv hg hc => t.block hc (hd g (h9 v (List.mem_of_getElem? hv) g hg)), h5, h6, h7, h8, h9⟩

theorem PL.nil (w : World) (G : Nat → Prop) : PL w G (.slice none 0 0) (.slice none 0 0) [] :=
  ⟨[], [], fun _ => 0, row_none _ _ _, row_none _ _ _, ⟨rfl, fun i v l hv => by simp at hv⟩, ⟨rfl, fun i v l hv => by simp at hv⟩, (fun k hk => by cases hk), (fun k hk => by cases hk), (fun k hk => by cases hk), by simp, by simp⟩

theorem Ents.push {w w5 : World} {G : Nat → Prop} {ow ow' tag : Nat → Nat} {vs : List Value} {Ls : List (List UInt8)} {v : Value} {l : List UInt8} (h : Ents w ow tag vs Ls) (hk : Keep5 w w5)
    (hg : ∀ v ∈ vs, ∀ k, v.ownBlock = some k → G k) (how : ∀ k, G k → ow' k = ow k) (r : Row 0 w5 5 v (cel l)) (ht : ∀ k, v.ownBlock = some k → ow' k = tag Ls.length) : Ents w5 ow' tag (vs ++ [v]) (Ls ++ [l]) := by
  refine ⟨by simp [h.1], fun i u m hu hm => ?_⟩
  rcases Nat.lt_or_ge i Ls.length with hi | hi
  · rw [List.getElem?_append_left (by rw [h.1]; exact hi)] at hu
    rw [List.getElem?_append_left hi] at hm
    obtain ⟨h1, h2⟩ := h.2 i u m hu hm
    exact ⟨h1.cells fun g cur _ hc => hk g cur hc, fun k e => (how k (hg u (List.mem_of_getElem? hu) k e)).trans (h2 k e)⟩
  · rw [List.getElem?_append_right (by rw [h.1]; exact hi), h.1] at hu
    rw [List.getElem?_append_right hi] at hm
    have hi0 : i - Ls.length = 0 := by
      have := (List.getElem?_eq_some_iff.1 hm).1
      simpa using this
    rw [hi0] at hu hm
    have hu : v = u := by simpa using hu
    have hm : l = m := by simpa using hm
    subst hu hm
    have : i = Ls.length := by omega
    subst this
    exact ⟨r, ht⟩

theorem PL.push {w w5 : World} {G G' : Nat → Prop} {ow : Nat → Nat} {V' W' v2 v3 : Value} {vs ws : List Value} {Ls : List (List UInt8)} {l : List UInt8}
    (e1 : Ents w ow (fun i => i + 1) vs Ls) (e2 : Ents w ow (fun _ => 0) ws Ls) (g1 : ∀ v ∈ vs, ∀ k, v.ownBlock = some k → G k) (g2 : ∀ v ∈ ws, ∀ k, v.ownBlock = some k → G k)
    (hk : Keep5 w w5) (r1 : Row 0 w5 31 V' (vs ++ [v2])) (r2 : Row 0 w5 31 W' (ws ++ [v3])) (r3 : Row 0 w5 5 v2 (cel l)) (r4 : Row 0 w5 5 v3 (cel l))
    (n2 : ∀ k, v2.ownBlock = some k → ¬ G k ∧ v3.ownBlock ≠ some k ∧ G' k) (n3 : ∀ k, v3.ownBlock = some k → ¬ G k ∧ G' k) (hGG : ∀ k, G k → G' k)
    (d : ∀ k, V'.ownBlock = some k → W'.ownBlock ≠ some k) (gV : ∀ k, V'.ownBlock = some k → G' k) (gW : ∀ k, W'.ownBlock = some k → G' k) : PL w5 G' V' W' (Ls ++ [l]) := by
  have hmem : ∀ (us : List Value) (u : Value), (∀ v ∈ us, ∀ k, v.ownBlock = some k → G k) → (∀ k, u.ownBlock = some k → G' k) → ∀ v ∈ us ++ [u], ∀ k, v.ownBlock = some k → G' k := fun us u h1 h2 v hv k hk => by
    rcases List.mem_append.1 hv with hv | hv
    · exact hGG k (h1 v hv k hk)
    · rw [List.mem_singleton.1 hv] at hk
      exact h2 k hk
  refine ⟨vs ++ [v2], ws ++ [v3], fun k => if v2.ownBlock = some k then Ls.length + 1 else if v3.ownBlock = some k then 0 else ow k, r1, r2,
    e1.push hk g1 (fun k hg => ?_) r3 (fun k e => by simp [e]), e2.push hk g2 (fun k hg => ?_) r4 (fun k e => ?_), d, gV, gW, hmem vs v2 g1 fun k e => (n2 k e).2.2, hmem ws v3 g2 fun k e => (n3 k e).2⟩
  · rw [if_neg (fun e => (n2 k e).1 hg), if_neg (fun e => (n3 k e).1 hg)]
  · rw [if_neg (fun e => (n2 k e).1 hg), if_neg (fun e => (n3 k e).1 hg)]
  · rw [if_neg (fun e' => (n2 k e').2.1 e), if_pos e]

/-! ### Cells of rows -/
theorem Row.at5 {B : Nat} {w : World} {v : Value} {l : List UInt8} (h : Row B w 5 v (cel l)) {k : Nat} (hk : k < l.length) :
    ∃ g cap, v = .slice (some ⟨g, 0, none⟩) l.length cap ∧ w.cell? ⟨g, k, none⟩ = some (.int .u8 (l[k].toNat : Int)) ∧ w.frozen? ⟨g, k, none⟩ = false ∧ ∃ cs, w.heap[g]? = some (.cells cs 5 (0, 0)) := by
  rcases h.form with ⟨_, h1⟩ | ⟨g, cap, cur, rfl, _, hg, hn, _, hs, ht⟩
  · have := congrArg List.length h1
    rw [cel_length, List.length_nil] at this
    omega
  · refine ⟨g, cap, by rw [cel_length], ?_, ?_, _, hg⟩
    · have := cel_get l k hk
      rw [← ht, List.getElem?_take, if_pos (by rw [cel_length]; exact hk)] at this
      simp only [World.cell?, hg]
      simpa using this
    · simp [World.frozen?, hg]

theorem Row.at31 {B : Nat} {w : World} {v u : Value} {xs : List Value} {e : TypeId} (h : Row B w e v xs) {k : Nat} (hk : xs[k]? = some u) :
    ∃ g cap, v = .slice (some ⟨g, 0, none⟩) xs.length cap ∧ w.cell? ⟨g, k, none⟩ = some u ∧ w.heap[g]?.isSome ∧ ∃ cs, w.heap[g]? = some (.cells cs e (0, 0)) := by
  have hkl := (List.getElem?_eq_some_iff.1 hk).1
  rcases h.form with ⟨_, h1⟩ | ⟨g, cap, cur, rfl, _, hg, hn, _, hs, ht⟩
  · subst h1
    simp at hk
  · refine ⟨g, cap, rfl, ?_, by rw [hg]; rfl, _, hg⟩
    rw [← ht, List.getElem?_take, if_pos hkl] at hk
    simp only [World.cell?, hg]
    simpa using hk

theorem cel_set (l : List UInt8) (k : Nat) (c : UInt8) : cel (l.set k c) = (cel l).set k (.int .u8 (c.toNat : Int)) := by
  simp [cel, List.map_set]

/-- A byte is written. -/
theorem Row.store {B : Nat} {w : World} {g cap k : Nat} {l : List UInt8} (h : Row B w 5 (.slice (some ⟨g, 0, none⟩) l.length cap) (cel l)) (_hk : k < l.length) (c : UInt8) :
    Row B (w.setCell ⟨g, k, none⟩ (.int .u8 (c.toNat : Int))) 5 (.slice (some ⟨g, 0, none⟩) l.length cap) (cel (l.set k c)) := by
  rcases h.form with ⟨h1, _⟩ | ⟨g', cap', cur, e, hB, hg, hn, hm, hs, ht⟩
  · cases h1
  · rw [cel_length] at e
    cases e
    rw [cel_length] at hn ht
    refine ⟨by simp [cel_length], .inr ⟨g, cap, _, by rw [cel_length, List.length_set], hB, set_at hg _, by rw [cel_length, List.length_set]; exact hn, hm, by simpa using hs, ?_⟩⟩
    rw [cel_set, Nat.mul_one, List.length_set, cel_length, Array.toList_setIfInBounds, List.take_set, ht]

end Go.Proofs.Ytjeeiaelicekhaa
