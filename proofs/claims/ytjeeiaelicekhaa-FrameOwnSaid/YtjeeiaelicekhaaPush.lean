/- closeBytes: a list of lists grows; append on bytes with what stays. -/
import Derived.Test.YtjeeiaelicekhaaClose
namespace Go.Proofs.Ytjeeiaelicekhaa
open Go.RowKit

theorem CS.pushO {w : World} {G : Nat → Prop} {kb n : Nat} {V W O M O8 v : Value} {vs os ms : List Value} {ow : Nat → Nat} {Ls : List (List UInt8)} {wr w8 : World} {N : Nat} {l : List UInt8} (gn : FG w G kb) (h : CS w G kb n V W O M vs os ms ow Ls wr)
    (hl : Ls[os.length]? = some l) (hn : l.length = N) (ho : One wr ow (FG w G) os.length N 16 v) (hown : Row 0 w8 31 O8 (os ++ [v])) (hg : (wr.alloc (.cells #[v] 31)).grownBy w8 O.ownBlock)
    (hat : O8.ownBlock = O.ownBlock ∨ O8.ownBlock = some (wr.alloc (.cells #[v] 31)).heap.size) :
    w8.heap[kb]? = some (.cells (B6 n V W O M) 50 (0, 0)) ∧ CS w G kb n V W O8 M vs (os ++ [v]) ms ow Ls (w8.setCell ⟨kb, 2, none⟩ O8) := by
  have hsz : (wr.alloc (.cells #[v] 31)).heap.size = wr.heap.size + 1 := alloc_size _ _
  have hts := h.tn.size
  have old : ∀ (k : Nat) (ob : Obj), wr.heap[k]? = some ob → O.ownBlock ≠ some k → w8.heap[k]? = some ob := fun k ob h1 h2 => by
    have h3 := (Array.getElem?_eq_some_iff.1 h1).1
    exact ((hg.block k (by rw [hsz]; omega) (fun e => h2 e.symm)).trans (Below.heap_alloc _ _ _ h3)).trans h1
  have ne : ∀ (k : Nat) (cs : Array Value) (t : TypeId), wr.heap[k]? = some (.cells cs t (0, 0)) → t ≠ 31 → O.ownBlock ≠ some k := fun k cs t h1 h2 e => by
    obtain ⟨cs', h3⟩ := (h.rowO.block e).2
    rw [h1] at h3
    cases h3
    exact h2 rfl
  have h8 := old kb _ h.head (ne kb _ 50 h.head (by decide))
  have nkb : ∀ k cs t, w8.heap[k]? = some (.cells cs t (0, 0)) → t ≠ 50 → k ≠ kb := fun k cs t h1 ht e => by
    rw [e, h8] at h1
    cases h1
    exact ht rfl
  have k5 : Keep5 wr (w8.setCell ⟨kb, 2, none⟩ O8) := fun k cs h1 => by
    have h2 := old k _ h1 (ne k cs 5 h1 (by decide))
    exact (set_off _ (nkb k _ 5 h2 (by decide))).trans h2
  have row : ∀ (U : Value) (us : List Value), Row 0 wr 31 U us → (∀ k, U.ownBlock = some k → O.ownBlock ≠ some k) → Row 0 (w8.setCell ⟨kb, 2, none⟩ O8) 31 U us := fun U us hU hd => hU.cells fun g cur hv hc => by
    have h2 := old g _ hc (hd g hv)
    exact (set_off _ (nkb g _ 31 h2 (by decide))).trans h2
  have apart : ∀ (U : Value) (us : List Value), Row 0 wr 31 U us → (∀ k, U.ownBlock = some k → O.ownBlock ≠ some k) → ∀ k, U.ownBlock = some k → O8.ownBlock ≠ some k := fun U us hU hd k hk e => by
    rcases hat with h1 | h1
    · rw [h1] at e
      exact hd k hk e
    · rw [h1, hsz] at e
      cases e
      have := hU.lt hk
      omega
  have fo : ∀ k, O8.ownBlock = some k → FG w G k := fun k hk => by
    rcases hat with h1 | h1
    · rw [h1] at hk
      exact h.fO k hk
    · rw [h1, hsz] at hk
      cases hk
      exact .inr (by omega)
  have hnew : Row 0 (w8.setCell ⟨kb, 2, none⟩ O8) 31 O8 (os ++ [v]) := hown.cells fun g cur _ hc => (set_off _ (nkb g _ 31 hc (by decide))).trans hc
  have gk : Tn (FG w G) wr (w8.setCell ⟨kb, 2, none⟩ O8) := by
    have t1 : Tn (FG w G) wr w8 := (Tn.alloc _ _).trans (Tn.grown hg h.fO)
    exact t1.trans (Tn.set _ gn)
  refine ⟨h8, ⟨by rw [← B6_set2 n V W O M O8]; exact set_at h8 O8, row V vs h.rowV h.dVO, hnew, row M ms h.rowM (fun k a b => h.dOM k b a), apart V vs h.rowV h.dVO, h.dVM, fun k a b => apart M ms h.rowM (fun k a b => h.dOM k b a) k b a,
    fo, h.fM, h.famV.keep k5, (h.famO.push hl hn ho).keep k5, h.famM.keep k5, FG_tn h.tn gk⟩⟩

theorem CS.pushM {w : World} {G : Nat → Prop} {kb n : Nat} {V W O M O8 v : Value} {vs os ms : List Value} {ow : Nat → Nat} {Ls : List (List UInt8)} {wr w8 : World} {N : Nat} {l : List UInt8} (gn : FG w G kb) (h : CS w G kb n V W O M vs os ms ow Ls wr)
    (hl : Ls[ms.length]? = some l) (hn : l.length = N) (ho : One wr ow (FG w G) ms.length N 700 v) (hown : Row 0 w8 31 O8 (ms ++ [v])) (hg : (wr.alloc (.cells #[v] 31)).grownBy w8 M.ownBlock)
    (hat : O8.ownBlock = M.ownBlock ∨ O8.ownBlock = some (wr.alloc (.cells #[v] 31)).heap.size) :
    w8.heap[kb]? = some (.cells (B6 n V W O M) 50 (0, 0)) ∧ CS w G kb n V W O O8 vs os (ms ++ [v]) ow Ls (w8.setCell ⟨kb, 3, none⟩ O8) := by
  have hsz : (wr.alloc (.cells #[v] 31)).heap.size = wr.heap.size + 1 := alloc_size _ _
  have hts := h.tn.size
  have old : ∀ (k : Nat) (ob : Obj), wr.heap[k]? = some ob → M.ownBlock ≠ some k → w8.heap[k]? = some ob := fun k ob h1 h2 => by
    have h3 := (Array.getElem?_eq_some_iff.1 h1).1
    exact ((hg.block k (by rw [hsz]; omega) (fun e => h2 e.symm)).trans (Below.heap_alloc _ _ _ h3)).trans h1
  have ne : ∀ (k : Nat) (cs : Array Value) (t : TypeId), wr.heap[k]? = some (.cells cs t (0, 0)) → t ≠ 31 → M.ownBlock ≠ some k := fun k cs t h1 h2 e => by
    obtain ⟨cs', h3⟩ := (h.rowM.block e).2
    rw [h1] at h3
    cases h3
    exact h2 rfl
  have h8 := old kb _ h.head (ne kb _ 50 h.head (by decide))
  have nkb : ∀ k cs t, w8.heap[k]? = some (.cells cs t (0, 0)) → t ≠ 50 → k ≠ kb := fun k cs t h1 ht e => by
    rw [e, h8] at h1
    cases h1
    exact ht rfl
  have k5 : Keep5 wr (w8.setCell ⟨kb, 3, none⟩ O8) := fun k cs h1 => by
    have h2 := old k _ h1 (ne k cs 5 h1 (by decide))
    exact (set_off _ (nkb k _ 5 h2 (by decide))).trans h2
  have row : ∀ (U : Value) (us : List Value), Row 0 wr 31 U us → (∀ k, U.ownBlock = some k → M.ownBlock ≠ some k) → Row 0 (w8.setCell ⟨kb, 3, none⟩ O8) 31 U us := fun U us hU hd => hU.cells fun g cur hv hc => by
    have h2 := old g _ hc (hd g hv)
    exact (set_off _ (nkb g _ 31 h2 (by decide))).trans h2
  have apart : ∀ (U : Value) (us : List Value), Row 0 wr 31 U us → (∀ k, U.ownBlock = some k → M.ownBlock ≠ some k) → ∀ k, U.ownBlock = some k → O8.ownBlock ≠ some k := fun U us hU hd k hk e => by
    rcases hat with h1 | h1
    · rw [h1] at e
      exact hd k hk e
    · rw [h1, hsz] at e
      cases e
      have := hU.lt hk
      omega
  have fo : ∀ k, O8.ownBlock = some k → FG w G k := fun k hk => by
    rcases hat with h1 | h1
    · rw [h1] at hk
      exact h.fM k hk
    · rw [h1, hsz] at hk
      cases hk
      exact .inr (by omega)
  have hnew : Row 0 (w8.setCell ⟨kb, 3, none⟩ O8) 31 O8 (ms ++ [v]) := hown.cells fun g cur _ hc => (set_off _ (nkb g _ 31 hc (by decide))).trans hc
  have gk : Tn (FG w G) wr (w8.setCell ⟨kb, 3, none⟩ O8) := by
    have t1 : Tn (FG w G) wr w8 := (Tn.alloc _ _).trans (Tn.grown hg h.fM)
    exact t1.trans (Tn.set _ gn)
  refine ⟨h8, ⟨by rw [← B6_set3 n V W O M O8]; exact set_at h8 O8, row V vs h.rowV h.dVM, row O os h.rowO h.dOM, hnew, h.dVO, apart V vs h.rowV h.dVM, apart O os h.rowO h.dOM,
    h.fO, fo, h.famV.keep k5, h.famO.keep k5, (h.famM.push hl hn ho).keep k5, FG_tn h.tn gk⟩⟩

/-- append on bytes, and what stays beside it. -/
theorem app_bytes2 {w : World} {ops : Array Oper} {rest : List Oper} {o : Oper} {a : Act} {Q : Exit → Act → World → Prop} (hgd : o.guard = none) (s x : Operand)
    (ho : o.op = .call { callee := .builtin .append, args := #[s, x], argTypes := #[31, 31] }) (B : Nat) (l m : List UInt8)
    (hown : Row B w 5 (a.eval s) (cel l)) (hx : Src w (a.eval x) (cel m)) (hb : l.length + m.length ≤ 140737488355328) (hB : B ≤ w.heap.size)
    (h : ∀ v' w', Row B w' 5 v' (cel (l ++ m)) → w.grownBy w' (a.eval s).ownBlock → (v'.ownBlock = (a.eval s).ownBlock ∨ v'.ownBlock = some w.heap.size) →
      (∀ u ys, Row 0 w 5 u ys → (u.ownBlock = (a.eval s).ownBlock → Agree ys (cel (l ++ m))) → Row 0 w' 5 u ys) → wpList Try.prog ops Q rest (a.put o.dst v') w') :
    wpList Try.prog ops Q (o :: rest) a w := by
  obtain ⟨i, hi, hz, hs, hby⟩ := info_parts info5
  refine wp_app2 hgd s x 31 ho B 5 i _ 1 Try.underlying31 hi hz hs hby rfl (cel l) (cel m) hown hx (cel_one m) (by simp only [cel_length, maxLen]; omega) (by simp only [cel_length]; omega) hB ?_
  intro v' w' h1 h2 h3 h4
  rw [← cel_append] at h1 h4
  exact h v' w' h1 h2 h3 h4

end Go.Proofs.Ytjeeiaelicekhaa
