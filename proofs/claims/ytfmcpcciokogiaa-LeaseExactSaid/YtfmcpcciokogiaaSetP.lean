/- A lease that is set: the list, the map's law. No walk here. -/
import Derived.Test.YtfmcpcciokogiaaState
namespace Go.Proofs.Ytfmcpcciokogiaa
open Go.RowKit Fl

theorem isKey_iff {s : ByteArray} {x : It} : isKey s x = true ↔ tx x.key = tx s := by simp [isKey]
theorem isKey_not {s : ByteArray} {x : It} : (!isKey s x) = true ↔ tx x.key ≠ tx s := by simp [isKey]
theorem mem_without {L : List It} {s : ByteArray} {x : It} : x ∈ without L s ↔ x ∈ L ∧ tx x.key ≠ tx s := by
  simp only [without, List.mem_filter, isKey_not]

theorem find_without {L : List It} {s k : ByteArray} : (without L s).find? (isKey k) = if tx k = tx s then none else L.find? (isKey k) := by
  split
  · rename_i e
    rw [List.find?_eq_none]
    intro x hx
    rw [isKey_iff, e]
    exact (mem_without.1 hx).2
  · rename_i e
    induction L with
    | nil => rfl
    | cons x L ih =>
      simp only [without] at ih ⊢
      by_cases c : tx x.key = tx s
      · rw [List.filter_cons_of_neg (p := fun x => !isKey s x) (by rw [isKey_not]; exact fun q => q c), ih, List.find?_cons_of_neg (by rw [isKey_iff]; exact fun q => e (q.symm.trans c))]
      · rw [List.filter_cons_of_pos (p := fun x => !isKey s x) (isKey_not.2 c)]
        by_cases d : isKey k x = true
        · rw [List.find?_cons_of_pos d, List.find?_cons_of_pos d]
        · rw [List.find?_cons_of_neg d, List.find?_cons_of_neg d, ih]

theorem find_set {L : List It} {s k : ByteArray} {z : It} (hz : tx z.key = tx s) : (without L s ++ [z]).find? (isKey k) = if tx k = tx s then some z else L.find? (isKey k) := by
  rw [List.find?_append, find_without]
  split
  · rename_i e
    rw [Option.none_or, List.find?_cons_of_pos (by rw [isKey_iff, hz, e])]
  · rename_i e
    rw [List.find?_cons_of_neg (by rw [isKey_iff, hz]; exact fun q => e q.symm)]
    simp

theorem holds_set {L : List It} {M : ByteArray → Option Nat} {s : ByteArray} {z : It} (hM : Holds M L) (hz : tx z.key = tx s) : Holds (fun k => if tx k = tx s then some z.blk else M k) (without L s ++ [z]) := by
  intro k
  dsimp only
  rw [find_set hz]
  split
  · rfl
  · exact hM k
theorem holds_same {L : List It} {M : ByteArray → Option Nat} {s : ByteArray} {x z : It} (hM : Holds M L) (hz : tx z.key = tx s) (hx : L.find? (isKey s) = some x) (hb : z.blk = x.blk) : Holds M (without L s ++ [z]) := by
  intro k
  rw [find_set hz, hM k]
  split
  · rename_i e
    have : isKey k = isKey s := by
      funext y
      simp [isKey, e]
    rw [this, hx]
    simp [hb]
  · rfl
theorem holds_drop {L : List It} {M : ByteArray → Option Nat} {s : ByteArray} (hM : Holds M L) : Holds (fun k => if tx k = tx s then none else M k) (without L s) := by
  intro k
  dsimp only
  rw [find_without]
  split
  · rfl
  · exact hM k

theorem neat_without {L : List It} {T : Nat} (h : Neat L T) (s : ByteArray) : Neat (without L s) T :=
  ⟨h.1.filter _, fun x hx => h.2 x (mem_without.1 hx).1⟩
theorem neat_set {L : List It} {T : Nat} {s : ByteArray} {z : It} (h : Neat L T) (hz : tx z.key = tx s) (ht : z.turn = T + 1) (hs : z.key.size ≤ maxLen) (hn : num z.fin) : Neat (without L s ++ [z]) (T + 1) := by
  refine ⟨List.pairwise_append.2 ⟨(neat_without h s).1, List.pairwise_singleton _ _, fun x hx y hy => ?_⟩, fun x hx => ?_⟩
  · rw [List.mem_singleton.1 hy]
    obtain ⟨h1, h2⟩ := mem_without.1 hx
    have := (h.2 x h1).2.1
    exact ⟨by omega, by rw [hz]; exact h2⟩
  · rcases List.mem_append.1 hx with h1 | h1
    · obtain ⟨a, b, c⟩ := h.2 x (mem_without.1 h1).1
      exact ⟨a, by omega, c⟩
    · rw [List.mem_singleton.1 h1]
      exact ⟨hs, by omega, hn⟩

theorem without_none {L : List It} {s : ByteArray} (h : L.find? (isKey s) = none) : without L s = L := by
  rw [List.find?_eq_none] at h
  refine List.filter_eq_self.2 fun x hx => ?_
  have := h x hx
  simpa using this

/-- Keys apart, as a relation that has no order. -/
theorem apart_of {L : List It} {T : Nat} (h : Neat L T) : L.Pairwise fun x y => tx x.key ≠ tx y.key := h.1.imp fun h => h.2

theorem perm_erase (xs : List It) (i : Nat) (hi : i < xs.length) : (xs[i] :: xs.eraseIdx i).Perm xs := by
  rw [List.eraseIdx_eq_take_drop_succ]
  have h := List.take_append_drop i xs
  rw [List.drop_eq_getElem_cons hi] at h
  conv => rhs; rw [← h]
  exact List.perm_middle.symm
theorem perm_set (xs : List It) (i : Nat) (hi : i < xs.length) (z : It) : (xs.set i z).Perm (z :: xs.eraseIdx i) := by
  rw [List.eraseIdx_eq_take_drop_succ, List.set_eq_take_append_cons_drop, if_pos hi]
  exact List.perm_middle

/-- One of the row is replaced: the others are those of another key. -/
theorem rest_perm {xs L : List It} {T i : Nat} {x : It} {s : ByteArray} (hp : xs.Perm L) (h : Neat L T) (hx : xs[i]? = some x) (hk : tx x.key = tx s) : (xs.eraseIdx i).Perm (without L s) := by
  have hil := (List.getElem?_eq_some_iff.1 hx).1
  have hxe : xs[i] = x := (List.getElem?_eq_some_iff.1 hx).2
  have h1 : (x :: xs.eraseIdx i).Perm xs := by
    rw [← hxe]
    exact perm_erase xs i hil
  have h2 := (h1.trans hp)
  have h3 : (x :: xs.eraseIdx i).Pairwise fun x y => tx x.key ≠ tx y.key := (h2.pairwise_iff (fun {_ _} q => Ne.symm q)).2 (apart_of h)
  have h4 := (h2.filter fun x => !isKey s x)
  rw [List.filter_cons_of_neg (p := fun x => !isKey s x) (by rw [isKey_not]; exact fun q => q hk)] at h4
  have h5 : (xs.eraseIdx i).filter (fun x => !isKey s x) = xs.eraseIdx i := List.filter_eq_self.2 fun y hy => by
    have := (List.pairwise_cons.1 h3).1 y hy
    rw [isKey_not, ← hk]
    exact Ne.symm this
  rw [h5] at h4
  exact h4
theorem set_perm {xs L : List It} {T i : Nat} {x z : It} {s : ByteArray} (hp : xs.Perm L) (h : Neat L T) (hx : xs[i]? = some x) (hk : tx x.key = tx s) : (xs.set i z).Perm (without L s ++ [z]) := by
  have hil := (List.getElem?_eq_some_iff.1 hx).1
  have h1 : (xs.set i z).Perm (z :: xs.eraseIdx i) := perm_set xs i hil z
  exact (h1.trans ((rest_perm hp h hx hk).cons z)).trans (List.perm_append_singleton z _).symm
theorem tail_perm {xs ys L : List It} {T : Nat} {x : It} {s : ByteArray} (hp : xs.Perm L) (h : Neat L T) (hy : (x :: ys).Perm xs) (hk : tx x.key = tx s) : ys.Perm (without L s) := by
  have := rest_perm (xs := x :: ys) (i := 0) (hy.trans hp) h rfl hk
  simpa using this

theorem find_at {xs L : List It} {x : It} {s : ByteArray} (hp : xs.Perm L) (hx : L.find? (isKey s) = some x) : ∃ i : Nat, xs[i]? = some x ∧ tx x.key = tx s := by
  have h1 : x ∈ xs := hp.mem_iff.2 (List.mem_of_find?_eq_some hx)
  obtain ⟨i, hi, e⟩ := List.mem_iff_getElem.1 h1
  exact ⟨i, by rw [List.getElem?_eq_getElem hi, e], isKey_iff.1 (List.find?_some hx)⟩

end Go.Proofs.Ytfmcpcciokogiaa
