/- What is kept, written over with marks; lists that have grown out of it. -/
import Derived.Test.YtjeeiaelicekhaaBook
namespace Go.Proofs.Ytjeeiaelicekhaa
open Go.RowKit

/-- The mark of list i, and the one of what it grows by. -/
def mA (i : Nat) : UInt8 := UInt8.ofNat (i % 125)
def mB (i : Nat) : UInt8 := UInt8.ofNat (125 + i % 125)
theorem mA_nat (i : Nat) : ((mA i).toNat : Int) = (i : Int) % 125 := by
  have : (mA i).toNat = i % 125 % 256 := rfl
  omega
theorem mB_nat (i : Nat) : ((mB i).toNat : Int) = 125 + (i : Int) % 125 := by
  have : (mB i).toNat = (125 + i % 125) % 256 := rfl
  omega
/-- n marks, and q of the other kind behind them. -/
def spare (i n q : Nat) : List UInt8 := List.replicate n (mA i) ++ List.replicate q (mB i)
theorem spare_length (i n q : Nat) : (spare i n q).length = n + q := by simp [spare]
theorem spare_zero (i n : Nat) : spare i n 0 = List.replicate n (mA i) := by simp [spare]
theorem spare_snoc (i n q k : Nat) : spare i n q ++ List.replicate k (mB i) = spare i n (q + k) := by
  simp [spare, List.append_assoc]
theorem spare_get (i n q k : Nat) (h : k < (spare i n q).length) : (spare i n q)[k] = if k < n then mA i else mB i := by
  simp only [spare, List.getElem_append, List.getElem_replicate, List.length_replicate]
  split <;> rfl
theorem spare_agree (i n q p : Nat) : Agree (cel (spare i n q)) (cel (spare i n p)) := by
  intro j a b ha hb
  have h1 := (List.getElem?_eq_some_iff.1 ha).1
  have h2 := (List.getElem?_eq_some_iff.1 hb).1
  rw [cel_length] at h1 h2
  rw [cel_get _ j h1] at ha
  rw [cel_get _ j h2] at hb
  rw [spare_get] at ha hb
  rw [ha] at hb
  exact Option.some.inj hb
theorem agree_nil (ys : List Value) : Agree [] ys := fun j a b h => by simp at h

/-- Lists that read as marks, each in blocks of its own. -/
def Fam (w : World) (ow : Nat → Nat) (F : Nat → Prop) (q : Nat) (os : List Value) (Ls : List (List UInt8)) : Prop :=
  ∀ (j : Nat) (o : Value), os[j]? = some o → ∃ l, Ls[j]? = some l ∧ Row 0 w 5 o (cel (spare j l.length q)) ∧ ∀ k, o.ownBlock = some k → ow k = j + 1 ∧ F k
/-- One of them, that grows. -/
def One (w : World) (ow : Nat → Nat) (F : Nat → Prop) (i n q : Nat) (o : Value) : Prop := Row 0 w 5 o (cel (spare i n q)) ∧ ∀ k, o.ownBlock = some k → ow k = i + 1 ∧ F k

theorem Fam.keep {w w' : World} {ow : Nat → Nat} {F : Nat → Prop} {q : Nat} {os : List Value} {Ls : List (List UInt8)} (h : Fam w ow F q os Ls) (hk : Keep5 w w') : Fam w' ow F q os Ls := fun j o ho => by
  obtain ⟨l, h1, h2, h3⟩ := h j o ho
  exact ⟨l, h1, h2.cells fun g cur _ hc => hk g cur hc, h3⟩
theorem One.keep {w w' : World} {ow : Nat → Nat} {F : Nat → Prop} {i n q : Nat} {o : Value} (h : One w ow F i n q o) (hk : Keep5 w w') : One w' ow F i n q o := ⟨h.1.cells fun g cur _ hc => hk g cur hc, h.2⟩

/-- The owners, with a new block. -/
def own1 (ow : Nat → Nat) (s i : Nat) : Nat → Nat := fun k => if k = s then i + 1 else ow k
theorem own1_lt {ow : Nat → Nat} {s i k : Nat} (h : k < s) : own1 ow s i k = ow k := if_neg (by omega)
theorem own1_at {ow : Nat → Nat} {s i : Nat} : own1 ow s i s = i + 1 := if_pos rfl

/-- A list of i grows: the others stay. -/
theorem Fam.app {w w' : World} {ow : Nat → Nat} {F : Nat → Prop} {q i n p p' : Nat} {os : List Value} {Ls : List (List UInt8)} {v : Value} {l : List UInt8} (h : Fam w ow F q os Ls) (hl : Ls[i]? = some l) (hn : l.length = n) (hv : One w ow F i n p v)
    (hk : ∀ u ys, Row 0 w 5 u ys → (u.ownBlock = v.ownBlock → Agree ys (cel (spare i n p'))) → Row 0 w' 5 u ys) : Fam w' (own1 ow w.heap.size i) F q os Ls := fun j o ho => by
  obtain ⟨m, h1, h2, h3⟩ := h j o ho
  refine ⟨m, h1, hk _ _ h2 fun e => ?_, fun k hk => ⟨(own1_lt (h2.lt hk)).trans (h3 k hk).1, (h3 k hk).2⟩⟩
  rcases h2.form with ⟨_, e2⟩ | ⟨g, cap, cur, eo, _⟩
  · rw [e2]
    exact agree_nil _
  · have hg : o.ownBlock = some g := by rw [eo]; rfl
    have a1 := (h3 g hg).1
    have a2 := (hv.2 g (e.symm.trans hg)).1
    have : j = i := by omega
    subst this
    rw [hl] at h1
    cases h1
    rw [hn]
    exact spare_agree _ _ _ _
theorem One.app {w w' : World} {ow : Nat → Nat} {F : Nat → Prop} {i n p k : Nat} {v v' : Value} (hv : One w ow F i n p v) (hF : F w.heap.size) (hr : Row 0 w' 5 v' (cel (spare i n p ++ List.replicate k (mB i)))) (hat : v'.ownBlock = v.ownBlock ∨ v'.ownBlock = some w.heap.size) :
    One w' (own1 ow w.heap.size i) F i n (p + k) v' := by
  rw [spare_snoc] at hr
  refine ⟨hr, fun g hg => ?_⟩
  rcases hat with h | h
  · rw [h] at hg
    have h1 := hv.2 g hg
    exact ⟨(own1_lt (hv.1.lt hg)).trans h1.1, h1.2⟩
  · rw [h] at hg
    cases hg
    exact ⟨own1_at, hF⟩
theorem Fam.push {w : World} {ow : Nat → Nat} {F : Nat → Prop} {q n : Nat} {os : List Value} {Ls : List (List UInt8)} {o : Value} {l : List UInt8} (h : Fam w ow F q os Ls) (hl : Ls[os.length]? = some l) (hn : l.length = n) (ho : One w ow F os.length n q o) : Fam w ow F q (os ++ [o]) Ls := fun j u hu => by
  rcases Nat.lt_or_ge j os.length with hj | hj
  · rw [List.getElem?_append_left hj] at hu
    exact h j u hu
  · rw [List.getElem?_append_right hj] at hu
    have h0 : j - os.length = 0 := by
      have := (List.getElem?_eq_some_iff.1 hu).1
      simpa using this
    have : j = os.length := by omega
    subst this
    rw [h0] at hu
    have : o = u := by simpa using hu
    subst this
    exact ⟨l, hl, by rw [hn]; exact ho.1, ho.2⟩

/-- Cells of a marked list. -/
theorem One.at {w : World} {ow : Nat → Nat} {F : Nat → Prop} {i n q : Nat} {o : Value} (h : One w ow F i n q o) {k : Nat} (hk : k < n + q) :
    ∃ g cap, o = .slice (some ⟨g, 0, none⟩) (n + q) cap ∧ w.cell? ⟨g, k, none⟩ = some (.int .u8 (if k < n then ((mA i).toNat : Int) else (mB i).toNat)) := by
  obtain ⟨g, cap, e, hc, _⟩ := h.1.at5 (k := k) (by rw [spare_length]; exact hk)
  rw [spare_length] at e
  refine ⟨g, cap, e, hc.trans ?_⟩
  rw [spare_get]
  split <;> rfl
theorem Fam.one {w : World} {ow : Nat → Nat} {F : Nat → Prop} {q j : Nat} {os : List Value} {Ls : List (List UInt8)} {o : Value} (h : Fam w ow F q os Ls) (ho : os[j]? = some o) : ∃ l, Ls[j]? = some l ∧ One w ow F j l.length q o := by
  obtain ⟨l, h1, h2, h3⟩ := h j o ho
  exact ⟨l, h1, h2, h3⟩

end Go.Proofs.Ytjeeiaelicekhaa
