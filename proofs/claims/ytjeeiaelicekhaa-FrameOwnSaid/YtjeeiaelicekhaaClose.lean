/- What closeBytes keeps, loop by loop. -/
import Derived.Test.YtjeeiaelicekhaaLook
namespace Go.Proofs.Ytjeeiaelicekhaa
open Go.RowKit

theorem replicate_take_set {m : List UInt8} {q : Nat} {c : UInt8} (h : m.take q = List.replicate q c) (hq : q < m.length) : (m.set q c).take (q + 1) = List.replicate (q + 1) c := by
  rw [List.take_set, List.take_succ_eq_append_getElem hq, h, List.set_append_right _ _ (by simp), List.length_replicate, Nat.sub_self, List.set_cons_zero, List.replicate_succ']

/-- The first loop: lists before i are full of marks, list i up to q. -/
def C1 (w : World) (G : Nat → Prop) (kb n : Nat) (V W : Value) (vs : List Value) (ow : Nat → Nat) (Ls : List (List UInt8)) (i q : Nat) (wr : World) : Prop :=
  wr.heap[kb]? = some (.cells (B5 n V W) 50 (0, 0)) ∧ Row 0 wr 31 V vs ∧ Tn G w wr ∧ ∃ Ms : List (List UInt8), Ents wr ow (fun i => i + 1) vs Ms ∧ Ms.length = Ls.length ∧
    ∀ (j : Nat) (l m : List UInt8), Ls[j]? = some l → Ms[j]? = some m → m.length = l.length ∧ (j < i → m = spare j l.length 0) ∧ (j = i → m.take q = List.replicate q (mA i))

theorem C1.at {w : World} {G : Nat → Prop} {kb n : Nat} {V W : Value} {vs : List Value} {ow : Nat → Nat} {Ls : List (List UInt8)} {i q : Nat} {wr : World} (h : C1 w G kb n V W vs ow Ls i q wr) {l : List UInt8} (hl : Ls[i]? = some l) :
    ∃ gV cV A c m, V = .slice (some ⟨gV, 0, none⟩) vs.length cV ∧ wr.cell? ⟨gV, i, none⟩ = some (.slice A l.length c) ∧ Row 0 wr 5 (.slice A l.length c) (cel m) ∧ m.length = l.length := by
  obtain ⟨h1, h2, h3, Ms, h4, h5, h6⟩ := h
  obtain ⟨m, hm⟩ : ∃ m, Ms[i]? = some m := ⟨_, List.getElem?_eq_getElem (by have := (List.getElem?_eq_some_iff.1 hl).1; omega)⟩
  obtain ⟨v, hv, rv, _⟩ := h4.get hm
  obtain ⟨gV, cV, eV, c1, _⟩ := h2.at31 hv
  obtain ⟨A, c, e⟩ := rv.slice
  have hml := (h6 i l m hl hm).1
  rw [cel_length, hml] at e
  subst e
  exact ⟨gV, cV, A, c, m, eV, c1, rv, hml⟩

theorem C1.store {w : World} {G : Nat → Prop} {kb n : Nat} {V W : Value} {vs : List Value} {ow : Nat → Nat} {Ls : List (List UInt8)} {i q g cap gV k : Nat} {wr : World} (h : C1 w G kb n V W vs ow Ls i q wr) {l : List UInt8} (hl : Ls[i]? = some l)
    (hV : ∃ n c, V = .slice (some ⟨gV, 0, none⟩) n c) (hc : wr.cell? ⟨gV, i, none⟩ = some (.slice (some ⟨g, 0, none⟩) k cap)) (hk : q < k) (hG : ∀ v ∈ vs, ∀ k, v.ownBlock = some k → G k) :
    C1 w G kb n V W vs ow Ls i (q + 1) (wr.setCell ⟨g, q, none⟩ (.int .u8 ((mA i).toNat : Int))) := by
  obtain ⟨h1, h2, h3, Ms, h4, h5, h6⟩ := h
  obtain ⟨m, hmi⟩ : ∃ m, Ms[i]? = some m := ⟨_, List.getElem?_eq_getElem (by have := (List.getElem?_eq_some_iff.1 hl).1; omega)⟩
  obtain ⟨v, hv, rv, t⟩ := h4.get hmi
  obtain ⟨gV', cV, eV, c1, _⟩ := h2.at31 hv
  obtain ⟨n', c', hV⟩ := hV
  rw [eV] at hV
  cases hV
  rw [hc] at c1
  injection c1 with c1
  subst c1
  obtain ⟨A, c2, e⟩ := rv.slice
  rw [cel_length] at e
  have hn : k = m.length := by injection e
  subst hn
  clear e
  obtain ⟨_, cs, hgg⟩ := rv.block rfl
  replace hgg : wr.heap[g]? = some (.cells cs 5 (0, 0)) := hgg
  have hkb : kb ≠ g := fun e' => by
    rw [e', hgg] at h1
    cases h1
  have hi := (List.getElem?_eq_some_iff.1 hmi).1
  refine ⟨(set_off _ hkb).trans h1, h2.store_off hgg (by decide) _, h3.trans (Tn.set _ (hG _ (List.mem_of_getElem? hv) g rfl)), _, h4.store hv hmi hk (mA i), by rw [List.length_set]; exact h5, fun j l' m' hl' hm' => ?_⟩
  by_cases e : i = j
  · subst e
    rw [List.getElem?_set_self hi] at hm'
    cases hm'
    obtain ⟨a1, a2, a3⟩ := h6 i l' m hl' hmi
    exact ⟨by rw [List.length_set]; exact a1, fun h => absurd h (Nat.lt_irrefl _), fun _ => replicate_take_set (a3 rfl) hk⟩
  · rw [List.getElem?_set_ne e] at hm'
    obtain ⟨a1, a2, a3⟩ := h6 j l' m' hl' hm'
    exact ⟨a1, a2, fun h => absurd h.symm e⟩
theorem C1.next {w : World} {G : Nat → Prop} {kb n : Nat} {V W : Value} {vs : List Value} {ow : Nat → Nat} {Ls : List (List UInt8)} {i q : Nat} {wr : World} (h : C1 w G kb n V W vs ow Ls i q wr) {l : List UInt8} (hl : Ls[i]? = some l) (hq : l.length ≤ q) : C1 w G kb n V W vs ow Ls (i + 1) 0 wr := by
  obtain ⟨h1, h2, h3, Ms, h4, h5, h6⟩ := h
  refine ⟨h1, h2, h3, Ms, h4, h5, fun j l' m' hl' hm' => ?_⟩
  obtain ⟨a1, a2, a3⟩ := h6 j l' m' hl' hm'
  refine ⟨a1, fun hj => ?_, fun _ => by simp⟩
  by_cases e : j = i
  · subst e
    rw [hl] at hl'
    cases hl'
    have h := a3 rfl
    rw [List.take_of_length_le (by omega)] at h
    have hql : q = l.length := by rw [← a1, h, List.length_replicate]
    rw [spare_zero, h, hql]
  · exact a2 (by omega)

/-- Blocks that may turn. -/
def FG (w : World) (G : Nat → Prop) (k : Nat) : Prop := G k ∨ w.heap.size ≤ k

theorem C1.fam {w : World} {G : Nat → Prop} {kb n : Nat} {V W : Value} {vs : List Value} {ow : Nat → Nat} {Ls : List (List UInt8)} {i q : Nat} {wr : World} (h : C1 w G kb n V W vs ow Ls i q wr) (hi : Ls.length ≤ i) (hG : ∀ v ∈ vs, ∀ k, v.ownBlock = some k → G k) : Fam wr ow (FG w G) 0 vs Ls := by
  obtain ⟨h1, h2, h3, Ms, h4, h5, h6⟩ := h
  intro j o ho
  have hj : j < Ls.length := by
    have := (List.getElem?_eq_some_iff.1 ho).1
    have := h4.1
    omega
  obtain ⟨l, hl⟩ : ∃ l, Ls[j]? = some l := ⟨_, List.getElem?_eq_getElem hj⟩
  obtain ⟨m, hm⟩ : ∃ m, Ms[j]? = some m := ⟨_, List.getElem?_eq_getElem (by omega)⟩
  obtain ⟨r, t⟩ := h4.2 j o m ho hm
  have e := (h6 j l m hl hm).2.1 (by omega)
  rw [e] at r
  exact ⟨l, hl, r, fun k hk => ⟨t k hk, .inl (hG o (List.mem_of_getElem? ho) k hk)⟩⟩

/-! ### The lists that grow -/
def B6 (n : Nat) (x y o m : Value) : Array Value := #[x, y, o, m, .int .i64 (n : Int)]
theorem B6_cells {w : World} {r t n : Nat} {x y o m : Value} (h : w.heap[r]? = some (.cells (B6 n x y o m) t (0, 0))) :
    w.cell? ⟨r, 0, none⟩ = some x ∧ w.cell? ⟨r, 2, none⟩ = some o ∧ w.cell? ⟨r, 3, none⟩ = some m ∧ w.frozen? ⟨r, 2, none⟩ = false ∧ w.frozen? ⟨r, 3, none⟩ = false := by
  simp [World.cell?, World.frozen?, h, B6]
theorem B6_set2 (n : Nat) (x y o m v : Value) : (B6 n x y o m).setIfInBounds 2 v = B6 n x y v m := rfl
theorem B6_set3 (n : Nat) (x y o m v : Value) : (B6 n x y o m).setIfInBounds 3 v = B6 n x y o v := rfl

theorem FG_tn {w wr w' : World} {G : Nat → Prop} (t : Tn G w wr) (t2 : Tn (FG w G) wr w') : Tn G w w' :=
  ⟨t2.1.trans t.1, t2.2.1.trans t.2.1, t2.2.2.1.trans t.2.2.1, Nat.le_trans t.size t2.size, fun k hk hn => (t2.2.2.2.2 k (Nat.lt_of_lt_of_le hk t.size) (fun q => q.elim hn (by omega))).trans (t.2.2.2.2 k hk hn)⟩

/-- Between the rounds: three rows of lists, what was kept, what has grown a little, what has grown much. -/
structure CS (w : World) (G : Nat → Prop) (kb n : Nat) (V W O M : Value) (vs os ms : List Value) (ow : Nat → Nat) (Ls : List (List UInt8)) (wr : World) : Prop where
  head : wr.heap[kb]? = some (.cells (B6 n V W O M) 50 (0, 0))
  rowV : Row 0 wr 31 V vs
  rowO : Row 0 wr 31 O os
  rowM : Row 0 wr 31 M ms
  dVO : ∀ k, V.ownBlock = some k → O.ownBlock ≠ some k
  dVM : ∀ k, V.ownBlock = some k → M.ownBlock ≠ some k
  dOM : ∀ k, O.ownBlock = some k → M.ownBlock ≠ some k
  fO : ∀ k, O.ownBlock = some k → FG w G k
  fM : ∀ k, M.ownBlock = some k → FG w G k
  famV : Fam wr ow (FG w G) 0 vs Ls
  famO : Fam wr ow (FG w G) 16 os Ls
  famM : Fam wr ow (FG w G) 700 ms Ls
  tn : Tn G w wr

theorem CS.drewN {w : World} {G : Nat → Prop} {kb n : Nat} {V W O M : Value} {vs os ms : List Value} {ow : Nat → Nat} {Ls : List (List UInt8)} {wr : World} (h : CS w G kb n V W O M vs os ms ow Ls wr) (k : Nat) : CS w G kb n V W O M vs os ms ow Ls (wr.drewN k) :=
  ⟨h.head, h.rowV, h.rowO, h.rowM, h.dVO, h.dVM, h.dOM, h.fO, h.fM, h.famV, h.famO, h.famM, h.tn⟩
/-- Something new is laid. -/
theorem CS.below {w : World} {G : Nat → Prop} {kb n : Nat} {V W O M : Value} {vs os ms : List Value} {ow : Nat → Nat} {Ls : List (List UInt8)} {wr w' : World} (h : CS w G kb n V W O M vs os ms ow Ls wr) (hb : Below wr.heap.size wr w') : CS w G kb n V W O M vs os ms ow Ls w' :=
  ⟨(hb.block kb (Array.getElem?_eq_some_iff.1 h.head).1).trans h.head, h.rowV.below hb, h.rowO.below hb, h.rowM.below hb, h.dVO, h.dVM, h.dOM, h.fO, h.fM, h.famV.keep (keep5_below hb), h.famO.keep (keep5_below hb), h.famM.keep (keep5_below hb), h.tn.below hb⟩

/-- A block of bytes turns, or is new: rows of lists and the head stay. -/
theorem keep_not5 {wr w' : World} {r : Option Nat} (hg : wr.grownBy w' r) (hr : ∀ k, r = some k → ∃ cs, wr.heap[k]? = some (.cells cs 5 (0, 0))) {k : Nat} {cs : Array Value} {t : TypeId} (h : wr.heap[k]? = some (.cells cs t (0, 0))) (ht : t ≠ 5) : w'.heap[k]? = some (.cells cs t (0, 0)) :=
  (hg.block k (Array.getElem?_eq_some_iff.1 h).1 (fun e => by
    obtain ⟨cs', h'⟩ := hr k e.symm
    rw [h] at h'
    cases h'
    exact ht rfl)).trans h

/-- A list of i grows, in a world where the new block is the next. -/
theorem CS.app {w : World} {G : Nat → Prop} {kb n : Nat} {V W O M : Value} {vs os ms : List Value} {ow : Nat → Nat} {Ls : List (List UInt8)} {wr w' : World} {i p p' N : Nat} {v : Value} {l : List UInt8} (h : CS w G kb n V W O M vs os ms ow Ls wr) (hl : Ls[i]? = some l) (hn : l.length = N) (hv : One wr ow (FG w G) i N p v)
    (hg : wr.grownBy w' v.ownBlock) (hk : ∀ u ys, Row 0 wr 5 u ys → (u.ownBlock = v.ownBlock → Agree ys (cel (spare i N p'))) → Row 0 w' 5 u ys) : CS w G kb n V W O M vs os ms (own1 ow wr.heap.size i) Ls w' := by
  have hr : ∀ k, v.ownBlock = some k → ∃ cs, wr.heap[k]? = some (.cells cs 5 (0, 0)) := fun k e => (hv.1.block e).2
  exact ⟨keep_not5 hg hr h.head (by decide), h.rowV.cells fun g cur _ hc => keep_not5 hg hr hc (by decide), h.rowO.cells fun g cur _ hc => keep_not5 hg hr hc (by decide), h.rowM.cells fun g cur _ hc => keep_not5 hg hr hc (by decide),
    h.dVO, h.dVM, h.dOM, h.fO, h.fM, h.famV.app hl hn hv hk, h.famO.app hl hn hv hk, h.famM.app hl hn hv hk, FG_tn h.tn (Tn.grown hg fun g e => (hv.2 g e).2)⟩

end Go.Proofs.Ytjeeiaelicekhaa
