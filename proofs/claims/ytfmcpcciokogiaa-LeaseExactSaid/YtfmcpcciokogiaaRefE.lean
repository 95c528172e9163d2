/- The reference's Set, End, Next. -/
import Derived.Test.YtfmcpcciokogiaaRefC
import Derived.Test.YtfmcpcciokogiaaRefD
namespace Go.Proofs.Ytfmcpcciokogiaa
open Go.RowKit Fl

theorem posP_cons (a : Pr) (P : List Pr) (s : ByteArray) : posP (a :: P) s = if tx a.1 = tx s then some 0 else (posP P s).map (· + 1) := by
  unfold posP
  rw [List.findIdx?_cons]
  by_cases h : tx a.1 = tx s <;> simp [h]
theorem posP_none {P : List Pr} {s : ByteArray} (h : posP P s = none) : ∀ p ∈ P, p.1 ≠ s := fun p hp e => by
  unfold posP at h
  rw [List.findIdx?_eq_none_iff] at h
  have := h p hp
  rw [e] at this
  simp at this
theorem posP_out {P : List Pr} {s : ByteArray} : ∀ {i : Nat}, OneP P → posP P s = some i → P.take i ++ P.drop (i + 1) = outP P s := by
  induction P with
  | nil => intro i _ h; simp [posP] at h
  | cons a r ih =>
    intro i hO h
    obtain ⟨h1, h2⟩ := List.pairwise_cons.1 hO
    rw [posP_cons] at h
    by_cases c : tx a.1 = tx s
    · rw [if_pos c] at h
      cases h
      unfold outP
      rw [List.filter_cons_of_neg (by simpa using c), List.filter_eq_self.2 (fun p hp => by
        have := h1 p hp
        simpa using fun q => this (c.trans q.symm))]
      rfl
    · rw [if_neg c] at h
      obtain ⟨j, hj, rfl⟩ := Option.map_eq_some_iff.1 h
      have := ih h2 hj
      unfold outP at this ⊢
      rw [List.filter_cons_of_pos (by simpa using c), ← this]
      rfl

theorem rdrop_any (w : World) (G : Nat → Prop) (r : Nat) (P : List Pr) (s : ByteArray) (h : RP w G r P) (hl : P.length ≤ 100000) (hO : OneP P) :
    Calls Try.prog 34 #[.pointer (some ⟨r, 0, none⟩), .string s] w fun e w' => e = .returned (.bool (posP P s).isSome) ∧ RP w' (fun k => G k ∨ (w.heap.size ≤ k ∧ k < w'.heap.size)) r (outP P s) ∧ Turned G w w' := by
  cases hp : posP P s with
  | none =>
    refine (rdrop_none w G r P s h (by omega) hp).mono ?_
    rintro e w' ⟨rfl, rfl⟩
    refine ⟨rfl, ?_, Turned.refl G w⟩
    rw [outP_self (posP_none hp)]
    obtain ⟨kv, ev, a1, a2, a3, a4, a5, a6, a7⟩ := h
    exact ⟨kv, ev, a1, a2, a3, fun g q => .inl (a4 g q), fun g q => .inl (a5 g q), .inl a6, fun k q => by
      rcases q with q | q
      · exact a7 k q
      · exact q.2⟩
  | some i =>
    refine (rdrop_some w G r P s i h hl hp).mono ?_
    rintro e w' ⟨rfl, h1, h2⟩
    rw [posP_out hO hp] at h1
    exact ⟨rfl, h1, h2⟩

theorem grow_part {w w2 : World} {r : Nat} {G : Nat → Prop} {e e' : TypeId} {xs ys zs : List Value} {kv other v2 : Value} {o : Obj} (at0 : Bool) (hr : w.heap[r]? = some (.cells (if at0 then #[kv, other] else #[other, kv]) 59 (0, 0)))
    (hkv : Row 0 w e kv zs) (hoth : Row 0 w e' other ys) (he : e ≠ 59) (he' : e' ≠ 59) (hee : e ≠ e') (hGk : ∀ g, kv.ownBlock = some g → G g) (hg : (w.alloc o).grownBy w2 kv.ownBlock) (hown : Row 0 w2 e v2 xs)
    (hat : v2.ownBlock = kv.ownBlock ∨ v2.ownBlock = some (w.alloc o).heap.size) (hGr : G r) :
    w2.heap[r]? = some (.cells (if at0 then #[kv, other] else #[other, kv]) 59 (0, 0)) ∧
      (w2.setCell ⟨r, if at0 then 0 else 1, none⟩ v2).heap[r]? = some (.cells (if at0 then #[v2, other] else #[other, v2]) 59 (0, 0)) ∧ Row 0 (w2.setCell ⟨r, if at0 then 0 else 1, none⟩ v2) e v2 xs ∧ Row 0 (w2.setCell ⟨r, if at0 then 0 else 1, none⟩ v2) e' other ys ∧
      (∀ g, v2.ownBlock = some g → G g ∨ (w.heap.size ≤ g ∧ g < w2.heap.size)) ∧ Turned G w (w2.setCell ⟨r, if at0 then 0 else 1, none⟩ v2) ∧ (w2.setCell ⟨r, if at0 then 0 else 1, none⟩ v2).heap.size = w2.heap.size := by
  have hrl := (Array.getElem?_eq_some_iff.1 hr).1
  have keep : ∀ k c, w.heap[k]? = some c → kv.ownBlock ≠ some k → w2.heap[k]? = some c := fun k c hc hne => by
    have hk := (Array.getElem?_eq_some_iff.1 hc).1
    exact (hg.block k (by rw [alloc_size]; omega) (fun q => hne q.symm)).trans ((Below.heap_alloc w o k hk).trans hc)
  have nk : ∀ k cs t, w.heap[k]? = some (.cells cs t (0, 0)) → t ≠ e → kv.ownBlock ≠ some k := fun k cs t hc ht q => by
    obtain ⟨cs', hc'⟩ := (hkv.block q).2
    rw [hc] at hc'
    injection hc' with h
    injection h with _ h
    exact ht h
  have hr2 := keep r _ hr (nk r _ _ hr (Ne.symm he))
  have T2 : Turned G w w2 := (Turned.alloc (F := G) w o).step (Turned.grown (F := G) hg hGk) (fun k _ h => h)
  refine ⟨hr2, ?_, hown.cells fun g cur hv hgc => (set_off _ (fun q => ?_)).trans hgc, hoth.cells fun g cur hv hgc => (set_off _ (fun q => ?_)).trans (keep g _ hgc (nk g _ _ hgc (Ne.symm hee))), fun g q => ?_, T2.trans (Turned.set (F := G) _ hGr), set_size _⟩
  · cases at0
    · exact set_at (o := 1) hr2 v2
    · exact set_at (o := 0) hr2 v2
  · rw [q, hr2] at hgc
    injection hgc with h
    injection h with _ h
    exact he h.symm
  · rw [q, hr] at hgc
    injection hgc with h
    injection h with _ h
    exact he' h.symm
  · rcases hat with h | h
    · exact .inl (hGk g (by rw [← h]; exact q))
    · rw [h, alloc_size] at q
      have := Option.some.inj q
      have h5 := hg.size
      rw [alloc_size] at h5
      obtain ⟨cs, hc⟩ := (hown.block (k := g) (by rw [h, alloc_size]; exact q)).2
      exact .inr ⟨by omega, (Array.getElem?_eq_some_iff.1 hc).1⟩

end Go.Proofs.Ytfmcpcciokogiaa
