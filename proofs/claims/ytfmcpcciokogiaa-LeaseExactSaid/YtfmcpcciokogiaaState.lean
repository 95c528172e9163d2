/- A heap of leases as a list in the order of its turns. -/
import Derived.Test.YtfmcpcciokogiaaOps
namespace Go.Proofs.Ytfmcpcciokogiaa
open Go.RowKit Fl

def isKey (s : ByteArray) (x : It) : Bool := decide (tx x.key = tx s)
def without (L : List It) (s : ByteArray) : List It := L.filter fun x => !isKey s x

/-- Turns rise, no key stands twice. -/
def Neat (L : List It) (T : Nat) : Prop :=
  L.Pairwise (fun x y => x.turn < y.turn ∧ tx x.key ≠ tx y.key) ∧ ∀ x ∈ L, x.key.size ≤ maxLen ∧ x.turn ≤ T ∧ num x.fin

/-- What the map holds. -/
def Holds (M : ByteArray → Option Nat) (L : List It) : Prop := ∀ s, M s = (L.find? (isKey s)).map (·.blk)

def HS (w : World) (G : Nat → Prop) (h : Nat) (L : List It) (T : Nat) : Prop :=
  ∃ F mb nm M xs, RowP w F h xs (.map (some mb)) (.int .u64 (T : Int)) ∧ xs.Perm L ∧ Ord (rkf xs) xs.length ∧ OwnM w mb nm M ∧ nm ≤ T ∧ Holds M L ∧ Neat L T ∧ L.length ≤ T ∧
    (∀ k, F k → G k) ∧ G h ∧ G mb ∧ ¬ F mb ∧ ∀ k, G k → k < w.heap.size

theorem Items.keep {w w' : World} {F : Nat → Prop} {rv : Value} {xs : List It} (h : Items w F rv xs) (hk : ∀ k, F k → k < w.heap.size → w'.heap[k]? = w.heap[k]?) : Items w' F rv xs := by
  refine ⟨h.1.cells fun g cur hv hg => (hk g (h.2.1 g hv) (Array.getElem?_eq_some_iff.1 hg).1).trans hg, h.2.1, fun i x hx => ?_⟩
  obtain ⟨a, b, c⟩ := h.2.2 i x hx
  exact ⟨(hk _ b (Array.getElem?_eq_some_iff.1 a).1).trans a, b, c⟩
theorem RowP.keep {w w' : World} {F : Nat → Prop} {h : Nat} {xs : List It} {c1 c2 : Value} (k : RowP w F h xs c1 c2) (hk : ∀ k, F k ∨ k = h → k < w.heap.size → w'.heap[k]? = w.heap[k]?) : RowP w' F h xs c1 c2 := by
  obtain ⟨rv, a, b, c⟩ := k
  exact ⟨rv, (hk h (.inr rfl) (Array.getElem?_eq_some_iff.1 a).1).trans a, b.keep fun k h1 h2 => hk k (.inl h1) h2, c⟩

theorem HS.keep {w w' : World} {G H : Nat → Prop} {h T : Nat} {L : List It} (k : HS w G h L T) (t : Turned H w w') (hd : ∀ k, G k → ¬ H k) : HS w' G h L T := by
  obtain ⟨F, mb, nm, M, xs, a1, a2, a3, a4, a5, a6, a7, a8, a9, a10, a11, a12, a13⟩ := k
  have hk : ∀ k, G k → k < w.heap.size → w'.heap[k]? = w.heap[k]? := fun k h1 h2 => t.2.2.2.2 k h2 (hd k h1)
  refine ⟨F, mb, nm, M, xs, a1.keep fun k h1 h2 => hk k ?_ h2, a2, a3, a4.keep (hk mb a11 (a13 mb a11)), a5, a6, a7, a8, a9, a10, a11, a12, fun k h1 => Nat.lt_of_lt_of_le (a13 k h1) t.2.2.2.1⟩
  rcases h1 with h1 | rfl
  · exact a9 k h1
  · exact a10
theorem HS.drewN {w : World} {G : Nat → Prop} {h T : Nat} {L : List It} (k : HS w G h L T) (n : Nat) : HS (w.drewN n) G h L T := k.keep (H := fun _ => False) ⟨rfl, rfl, rfl, Nat.le_refl _, fun _ _ _ => rfl⟩ fun _ _ h => h

theorem below_turned {B : Nat} {w w' : World} (h : Below B w w') : Turned (fun k => B ≤ k) w w' :=
  ⟨h.os, h.tape, h.output, h.size, fun k hk hn => h.block k (by omega)⟩
theorem HS.below {w w' : World} {G : Nat → Prop} {h T : Nat} {L : List It} (k : HS w G h L T) (hb : Below w.heap.size w w') : HS w' G h L T := by
  have hG : ∀ k, G k → k < w.heap.size := by
    obtain ⟨_, _, _, _, _, _, _, _, _, _, _, _, _, _, _, _, _, h⟩ := k
    exact h
  exact k.keep (below_turned hb) fun k h1 h2 => by have := hG k h1; omega

theorem alloc_below (w : World) (o : Obj) : Below w.heap.size w (w.alloc o) := (Below.refl _ w).alloc (Nat.le_refl _) o

/-- New. -/
theorem new_any (w : World) : Calls Try.prog 8 #[] w fun e w' => e = .returned (.pointer (some ⟨w.heap.size + 1, 0, none⟩)) ∧ HS w' (fun k => w.heap.size ≤ k ∧ k < w'.heap.size) (w.heap.size + 1) [] 0 ∧ Below w.heap.size w w' ∧ w'.heap.size = w.heap.size + 2 := by
  have hmm := @run_makeMap Try.prog
  go_enter Try.func8, Try.ntmps8
  go_wp2_with fail
  go_ret
  refine ⟨rfl, ⟨fun _ => False, w.heap.size, 0, fun _ => none, [], ⟨.slice none 0 0, ?_, ⟨⟨rfl, .inl ⟨rfl, rfl⟩⟩, (fun g e => by cases e), (fun i x hx => by simp at hx)⟩, fun h => h⟩, List.Perm.refl _, (fun k _ hk => by simp at hk), ?_, Nat.le_refl _, fun _ => rfl, ⟨List.Pairwise.nil, by simp⟩, Nat.le_refl _, fun _ h => h.elim, ?_, ?_, fun h => h, fun k h => h.2⟩, ?_, ?_⟩
  · have := heap_alloc_new (w.alloc (.map #[] 0)) (.cells #[.slice none 0 0, .map (some w.heap.size), .int .u64 0] 66)
    rw [alloc_size] at this
    exact this
  · exact (OwnM.made w).keep (Below.heap_alloc _ _ _ (by rw [alloc_size]; omega))
  · simp only [alloc_size]
    omega
  · simp only [alloc_size]
    omega
  · exact (alloc_below _ _).trans ((alloc_below _ _).mono (by rw [alloc_size]; omega))
  · simp

/-- Len. -/
theorem count_any (w : World) (G : Nat → Prop) (h T : Nat) (L : List It) (k : HS w G h L T) : Calls Try.prog 13 #[.pointer (some ⟨h, 0, none⟩)] w fun e w' => e = .returned (.int .i64 (L.length : Int)) ∧ w = w' := by
  obtain ⟨F, mb, nm, M, xs, a1, a2, _⟩ := k
  obtain ⟨A, c, hrv, _⟩ := a1.open
  obtain ⟨q0, _⟩ := three hrv
  have e := a2.length_eq
  rw [e] at q0
  clear hrv a1 e
  go_enter Try.func13, Try.ntmps13
  go_wp2_with fail
  go_ret
  exact ⟨rfl, rfl⟩

end Go.Proofs.Ytfmcpcciokogiaa
