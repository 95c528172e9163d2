/- A range over a method value whose receiver's block the method writes: the caller's law. -/
import Derived.Test.YtjeeiaelicekhaaWalk3
import Derived.RangeFuncNested
import Derived.RangeFuncBound
import Derived.RangeFuncCalls
import Derived.RangeFuncLeaves
import Derived.RangeFuncKeeps
import Derived.Shelf.Abstract
import Derived.Shelf.RegionOpen
import Derived.TacticsInMore
import Derived.LoopNIn
import Derived.LoopIn
namespace Go.Proofs.Ytjeeiaelicekhaa
open Go.RowKit

/-- The iterator's contract: T its own turns, G what is said of a payload, S how it ends. -/
def SeqT {α : Type} (F : Fence) (n : Nat) (P : Program) (g : Nat) (rc : Value) (encs : α → Array Value) (Kp T : World → World → Prop) (G : α → World → Prop) (S : List α → World → Prop) (N : Nat) (W0 : World → Prop) : Prop :=
  ∀ (l : Nat) (J : List α → World → Prop) (W : World), W0 W → (∀ s A B, J s A → T A B → J s B) →
    (∀ pre x W1, J pre W1 → G x W1 → pre.length < N → YieldAt F (n - 1) P l (encs x) W1 fun e W' => e = .returned (.bool true) ∧ J (pre ++ [x]) W' ∧ Kp W1 W') →
    J [] W →
    CallsIn F n P g #[rc, .func (.yield l) #[] #[]] W fun e W' => (∃ v, e = .returned v) ∧ ∃ xs, S xs W' ∧ J xs W'

def bodyPostT {α : Type} (Kp : World → World → Prop) (I : List α → World → Prop) (xs : List α) (W : World) : Exit → Act → World → Prop
  | .normal, _, W' => KeepsOthers W W' ∧ Kp W W' ∧ I xs W'
  | _, _, _ => False

/-- A turn of a block from B on that is no cells, or a new block. -/
def Book (B : Nat) (W W' : World) : Prop := (∃ o, W' = W.alloc o) ∨ ∃ l o o', B ≤ l ∧ W.heap[l]? = some o ∧ o.isCells = false ∧ W' = W.putObj l o'

theorem wpIn_rangeFunc_T {F : Fence} {n : Nat} {P : Program} {α : Type} {g : Operand} {ps : Array Tmp} {assign body : Code} {Q : Exit → Act → World → Prop} {a : Act} {w : World}
    (hro : F.round = none) (h1 : 1 ≤ n) {gf : Nat} {rc : Value} (hg : a.eval g = .func (.func gf) #[rc] #[]) (hFg : F.fn gf) (eg : Enters P gf)
    {encs : α → Array Value} {Kp T : World → World → Prop} {G : α → World → Prop} {S : List α → World → Prop} {N : Nat} {W0 : World → Prop} (hseq : SeqT F (n - 1) P gf rc encs Kp T G S N W0)
    (hKt : ∀ {A B C : World}, Kp A B → Kp B C → Kp A C) (hKb : ∀ {A : World} {l : Nat} {o o' : Obj}, w.heap.size ≤ l → A.heap[l]? = some o → o.isCells = false → Kp A (A.putObj l o'))
    (hT : ∀ {A B : World}, T A B → ∀ (k : Nat) (o : Obj), A.heap[k]? = some o → o.isCells = false → B.heap[k]? = some o)
    (hG : ∀ {x A B}, G x A → Book w.heap.size A B → G x B) (hS : ∀ {xs A B}, S xs A → Book w.heap.size A B → S xs B) (hW0 : ∀ {A B}, W0 A → Book w.heap.size A B → W0 B) (hw0 : W0 w)
    (hps : ∀ x, (encs x).size = ps.size)
    (I : List α → World → Prop) (hI : ∀ {s A B}, I s A → Book w.heap.size A B → I s B) (hIT : ∀ {s A B}, I s A → T A B → I s B) (h0 : I [] w) (a₁ : α → Act)
    (hassign : ∀ (l : Nat) (x : α) (W : World) (K : Act → World → Prop), K (a₁ x) W →
      assign.wpIn (F.inRound l) (n - 1 - 1) P (Exit.then K (fun _ _ _ => False)) { tmps := (ps.zip (encs x)).foldl (fun t (p, v) => t.setIfInBounds p v) a.tmps, defers := [] } W)
    (hbody : ∀ (l : Nat) (pre : List α) (x : α) (W : World), I pre W → G x W → pre.length < N → body.wpIn (F.inRound l) (n - 1 - 1) P (bodyPostT Kp I (pre ++ [x]) W) (a₁ x) W)
    (hdone : ∀ (D : Nat) (xs : List α) (W : World), w.heap.size ≤ D → S xs W → I xs W → W.heap[D]? = some (.deferred (some [])) → Q .normal { a with defers := { target := .collected D, args := #[] } :: a.defers } W) :
    (Code.rangeFunc g ps assign body).wpIn F n P Q a w := by
  refine wpIn_rangeFunc fun fn hfn => ?_
  rw [hro]
  obtain ⟨rec, hrec⟩ : ∃ rec : LoopState → Option Code → Loop, rec = fun st pe => { state := st, pending := pe, fn, tmps := a.tmps, params := ps, assign, body, defers := w.heap.size } := ⟨_, rfl⟩
  obtain ⟨W1, hW1⟩ : ∃ W1, (w.alloc (.deferred (some []))).alloc (.loop (rec .ready none)) = W1 := ⟨_, rfl⟩
  have hL1 : W1.heap[w.heap.size + 1]? = some (.loop (rec .ready none)) := by
    rw [← hW1]
    have := World.alloc_heap_new (w.alloc (.deferred (some []))) (.loop (rec .ready none))
    rwa [World.size_alloc] at this
  have hK1 : W1.heap[w.heap.size]? = some (.deferred (some [])) := by
    rw [← hW1]
    exact (Below.heap_alloc _ _ _ (by simp)).trans (World.alloc_heap_new w _)
  have b1 : Book w.heap.size w (w.alloc (.deferred (some []))) := .inl ⟨_, rfl⟩
  have b2 : Book w.heap.size (w.alloc (.deferred (some []))) W1 := .inl ⟨_, hW1.symm⟩
  refine ⟨w.heap.size + 1, [{ target := .collected w.heap.size, args := #[] }], W1, { target := .fn (.func gf) #[], args := #[rc, .func (.yield (w.heap.size + 1)) #[] #[]] }, W1, gf,
    #[rc, .func (.yield (w.heap.size + 1)) #[] #[]], W1, ?_, ?_, ?_, ?_, fun _ => h1, ?_⟩
  · rw [← hW1, hrec]
    exact run_enterLoop_outer _ _ _ _ _
  · simp only [resolve, hg]
    simp [go_sem]
  · intro f' hf'
    simp [Target.leads] at hf'
    subst hf'
    exact hFg
  · have := eg #[rc, .func (.yield (w.heap.size + 1)) #[] #[]] W1
    simp [invoke, go_sem, this]
  · refine (hseq (w.heap.size + 1) (fun pre W => I pre W ∧ W.heap[w.heap.size + 1]? = some (.loop (rec .ready none)) ∧ W.heap[w.heap.size]? = some (.deferred (some []))) W1
      (hW0 (hW0 hw0 b1) b2) (fun s A B hs ht => ⟨hIT hs.1 ht, hT ht _ _ hs.2.1 rfl, hT ht _ _ hs.2.2 rfl⟩) ?_ ⟨hI (hI h0 b1) b2, hL1, hK1⟩).mono ?_
    · rintro pre x W ⟨hi, hl, hk⟩ hgx hlen
      have hlt : w.heap.size + 1 < W.heap.size := (Array.getElem?_eq_some_iff.1 hl).1
      have hy := run_yield (P := P) (args := encs x) hl (by rw [hrec]; exact hps x)
      rw [hrec] at hy
      refine ⟨fn, _, assign, body, hy, roundIn_of_wpIn hfn (hassign _ x W _ ⟨_, run_beginRound hl (by rw [hrec]), ?_⟩)⟩
      obtain ⟨Wb, hWb⟩ : ∃ Wb, W.putObj (w.heap.size + 1) (.loop { rec .ready none with state := .busy }) = Wb := ⟨_, rfl⟩
      rw [hrec] at hWb ⊢
      rw [hWb]
      have bb : Book w.heap.size W Wb := .inr ⟨_, _, _, by omega, hl, rfl, hWb.symm⟩
      have hl2 : Wb.heap[w.heap.size + 1]? = some (.loop { rec .ready none with state := .busy }) := by rw [← hWb, hrec]; exact World.putObj_heap_same hlt
      have hk2 : Wb.heap[w.heap.size]? = some (.deferred (some [])) := by rw [← hWb]; exact (World.putObj_heap_other (by omega)).trans hk
      refine wpIn_mono (hbody _ pre x _ (hI hi bb) (hG hgx bb) hlen) ?_
      rintro e a3 W3 hp
      cases e with
      | normal =>
        obtain ⟨hk3, hkp3, hi3⟩ := hp
        have hl3 := hk3.same _ _ hl2 rfl
        have hr := run_endRound (P := P) none hl3
        have be : Book w.heap.size W3 (W3.putObj (w.heap.size + 1) (.loop (rec .ready none))) := .inr ⟨_, _, _, by omega, hl3, rfl, rfl⟩
        rw [hrec] at hr be
        refine ⟨_, _, hr, rfl, ⟨hI hi3 be, ?_, ?_⟩, hKt (hKt (by rw [← hWb]; exact hKb (by omega) hl rfl) hkp3) (hKb (by omega) hl3 rfl)⟩
        · rw [World.putObj_heap_same (Array.getElem?_eq_some_iff.1 hl3).1]
          rfl
        · exact (World.putObj_heap_other (by omega)).trans (hk3.same _ _ hk2 rfl)
      | _ => exact hp.elim
    · rintro e W2 ⟨⟨v, rfl⟩, xs, hs, hi, hl, hk⟩
      have hr := run_endLoop (P := P) hl (by rw [hrec]; simp)
      have be : Book w.heap.size W2 (W2.putObj (w.heap.size + 1) (.loop { rec .ready none with state := .exhausted })) := .inr ⟨_, _, _, by omega, hl, rfl, rfl⟩
      rw [hrec] at hr be
      exact ⟨none, _, hr, hdone _ xs _ (Nat.le_refl _) (hS hs be) (hI hi be) ((World.putObj_heap_other (by omega)).trans hk)⟩

end Go.Proofs.Ytjeeiaelicekhaa
