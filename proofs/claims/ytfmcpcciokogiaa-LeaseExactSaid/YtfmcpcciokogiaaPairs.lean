/- Keys and ends alone: the first, what is due; in steps, at once. No program in sight. -/
import Derived.Test.YtfmcpcciokogiaaOpen
namespace Go.Proofs.Ytfmcpcciokogiaa
open Fl

abbrev Pr := ByteArray × Nat
def pr (L : List It) : List Pr := L.map fun x => (x.key, x.fin)
def minP : List Pr → Option Pr
  | [] => none
  | a :: r => match minP r with
    | none => some a
    | some y => if EV y.2 < EV a.2 then some y else some a
def outP (P : List Pr) (s : ByteArray) : List Pr := P.filter fun p => !decide (tx p.1 = tx s)
def dueP : Nat → List Pr → Nat → List ByteArray × List Pr
  | 0, P, _ => ([], P)
  | n + 1, P, f => match minP P with
    | none => ([], P)
    | some x => if isLe x.2 f then (x.1 :: (dueP n (outP P x.1) f).1, (dueP n (outP P x.1) f).2) else ([], P)

theorem pr_length (L : List It) : (pr L).length = L.length := by simp [pr]
theorem pr_append (L M : List It) : pr (L ++ M) = pr L ++ pr M := by simp [pr]
theorem minP_pr (L : List It) : minP (pr L) = (minOf L).map fun x => (x.key, x.fin) := by
  induction L with
  | nil => rfl
  | cons a r ih =>
    have e : pr (a :: r) = (a.key, a.fin) :: pr r := rfl
    rw [e]
    simp only [minP, minOf]
    rw [ih]
    cases minOf r with
    | none => rfl
    | some y =>
      dsimp only [Option.map]
      split <;> rfl
theorem outP_pr (L : List It) (s : ByteArray) : outP (pr L) s = pr (without L s) := by
  induction L with
  | nil => rfl
  | cons a r ih =>
    have e : pr (a :: r) = (a.key, a.fin) :: pr r := rfl
    rw [e]
    unfold outP without at *
    by_cases c : tx a.key = tx s
    · rw [List.filter_cons_of_neg (by simpa using c), List.filter_cons_of_neg (by simpa [isKey] using c), ih]
    · rw [List.filter_cons_of_pos (by simpa using c), List.filter_cons_of_pos (by simpa [isKey] using c), ih]
      rfl
theorem dueP_pr (f : Nat) : ∀ (n : Nat) (L : List It), dueP n (pr L) f = ((dueL n L f).1, pr (dueL n L f).2) := by
  intro n
  induction n with
  | zero => intro L; rfl
  | succ n ih =>
    intro L
    simp only [dueP, dueL]
    rw [minP_pr]
    cases minOf L with
    | none => rfl
    | some x =>
      dsimp only [Option.map]
      cases isLe x.fin f with
      | true =>
        simp only [if_true]
        rw [outP_pr, ih]
      | false => simp

theorem minP_mem {P : List Pr} {x : Pr} (h : minP P = some x) : x ∈ P := by
  induction P generalizing x with
  | nil => simp [minP] at h
  | cons a r ih =>
    simp only [minP] at h
    cases hm : minP r with
    | none =>
      rw [hm] at h
      simp at h
      simp [h]
    | some y =>
      rw [hm] at h
      dsimp only at h
      split at h
      · cases h
        exact List.mem_cons_of_mem _ (ih hm)
      · cases h
        exact List.mem_cons_self
theorem minP_none {P : List Pr} : minP P = none ↔ P = [] := by
  cases P with
  | nil => simp [minP]
  | cons a r =>
    simp only [minP]
    cases minP r with
    | none => simp
    | some y =>
      dsimp only
      split <;> simp
theorem outP_lt {P : List Pr} {x : Pr} (h : x ∈ P) : (outP P x.1).length < P.length := by
  unfold outP
  have h1 := List.length_filter_le (fun p : Pr => !decide (tx p.1 = tx x.1)) P
  rcases Nat.lt_or_ge (List.filter (fun p : Pr => !decide (tx p.1 = tx x.1)) P).length P.length with h2 | h2
  · exact h2
  · have h3 := (List.length_filter_eq_length_iff.1 (Nat.le_antisymm h1 h2)) x h
    simp at h3

/-- More rounds than leases change nothing. -/
theorem dueP_fuel (f : Nat) : ∀ (n : Nat) (P : List Pr) (m : Nat), P.length ≤ n → n ≤ m → dueP m P f = dueP n P f := by
  intro n
  induction n with
  | zero =>
    intro P m hP _
    have : P = [] := List.length_eq_zero_iff.1 (by omega)
    subst this
    cases m <;> rfl
  | succ n ih =>
    intro P m hP hm
    obtain ⟨m, rfl⟩ : ∃ k, m = k + 1 := ⟨m - 1, by omega⟩
    simp only [dueP]
    cases h : minP P with
    | none => rfl
    | some x =>
      have hlt := outP_lt (minP_mem h)
      dsimp only
      rw [ih (outP P x.1) m (by omega) (by omega)]

/-- What is due. -/
def due (P : List Pr) (f : Nat) : List ByteArray × List Pr := dueP P.length P f

theorem due_go {P : List Pr} {x : Pr} {f : Nat} (h : minP P = some x) (hf : isLe x.2 f = true) : due P f = (x.1 :: (due (outP P x.1) f).1, (due (outP P x.1) f).2) := by
  have hlt := outP_lt (minP_mem h)
  unfold due
  obtain ⟨n, hn⟩ : ∃ n, P.length = n + 1 := ⟨P.length - 1, by omega⟩
  rw [hn]
  simp only [dueP, h, hf, if_true]
  rw [dueP_fuel f _ (outP P x.1) n (Nat.le_refl _) (by omega)]
theorem due_stop {P : List Pr} {x : Pr} {f : Nat} (h : minP P = some x) (hf : isLe x.2 f = false) : due P f = ([], P) := by
  unfold due
  cases P.length with
  | zero => rfl
  | succ n => simp [dueP, h, hf]
theorem due_nil (f : Nat) : due [] f = ([], []) := rfl

/-- An induction along the pops. -/
theorem due_ind {p : List Pr → Prop} (h0 : p []) (h1 : ∀ P x, minP P = some x → p (outP P x.1) → p P) (P : List Pr) : p P := by
  generalize hn : P.length = n
  induction n using Nat.strongRecOn generalizing P with
  | _ n ih =>
    cases h : minP P with
    | none => rw [minP_none.1 h]; exact h0
    | some x =>
      have hlt := outP_lt (minP_mem h)
      exact h1 P x h (ih _ (by omega) _ rfl)

def NumP (P : List Pr) : Prop := ∀ p ∈ P, num p.2
def OneP (P : List Pr) : Prop := P.Pairwise fun p q => tx p.1 ≠ tx q.1
theorem NumP.out {P : List Pr} (h : NumP P) (s : ByteArray) : NumP (outP P s) := fun p hp => h p (List.mem_filter.1 hp).1
theorem OneP.out {P : List Pr} (h : OneP P) (s : ByteArray) : OneP (outP P s) := h.filter _

theorem le_inf {x : Nat} (h : num x) : isLe x 9218868437227405312 = true := by
  refine le_iff.2 ⟨h, fI_num', ?_⟩
  rw [I_eq]
  have h4 := K_lt
  have h5 := K_pos
  rcases EV_range h with h | h | h <;> omega
where
  fI_num' : num 9218868437227405312 := num_pos (by rw [infR_val]; decide)

/-- In the end all are due. -/
theorem due_inf (P : List Pr) : NumP P → (due P 9218868437227405312).2 = [] := by
  refine due_ind (p := fun P => NumP P → (due P 9218868437227405312).2 = []) (fun _ => rfl) (fun P x h ih hN => ?_) P
  rw [due_go h (le_inf (hN x (minP_mem h)))]
  exact ih (hN.out _)
theorem outP_len {P : List Pr} (h : OneP P) : ∀ {x : Pr}, x ∈ P → (outP P x.1).length + 1 = P.length := by
  induction P with
  | nil => intro x hx; simp at hx
  | cons a r ih =>
    intro x hx
    obtain ⟨h1, h2⟩ := List.pairwise_cons.1 h
    unfold outP
    rcases List.mem_cons.1 hx with rfl | hxr
    · rw [List.filter_cons_of_neg (by simp), List.filter_eq_self.2 (fun p hp => by simpa using fun q => h1 p hp q.symm)]
      rfl
    · rw [List.filter_cons_of_pos (by simpa using h1 x hxr)]
      have := ih h2 hxr
      unfold outP at this
      simp only [List.length_cons]
      omega
theorem due_count (P : List Pr) (f : Nat) : OneP P → (due P f).1.length + (due P f).2.length = P.length := by
  refine due_ind (p := fun P => OneP P → (due P f).1.length + (due P f).2.length = P.length) (fun _ => rfl) (fun P x h ih hO => ?_) P
  cases hf : isLe x.2 f with
  | true =>
    rw [due_go h hf]
    have := ih (hO.out _)
    have := outP_len hO (minP_mem h)
    simp only [List.length_cons]
    omega
  | false =>
    rw [due_stop h hf]
    simp
/-- In steps, then the rest: as at once. -/
theorem due_steps (P : List Pr) (f : Nat) : NumP P → (due P f).1 ++ (due (due P f).2 9218868437227405312).1 = (due P 9218868437227405312).1 := by
  refine due_ind (p := fun P => NumP P → (due P f).1 ++ (due (due P f).2 9218868437227405312).1 = (due P 9218868437227405312).1) (fun _ => rfl) (fun P x h ih hN => ?_) P
  cases hf : isLe x.2 f with
  | true =>
    rw [due_go h hf, due_go h (le_inf (hN x (minP_mem h)))]
    dsimp only
    rw [List.cons_append, ih (hN.out _)]
  | false =>
    rw [due_stop h hf]
    rfl
/-- Nothing is told twice. -/
theorem due_again (P : List Pr) (f : Nat) : due (due P f).2 f = ([], (due P f).2) := by
  refine due_ind (p := fun P => due (due P f).2 f = ([], (due P f).2)) rfl (fun P x h ih => ?_) P
  cases hf : isLe x.2 f with
  | true =>
    rw [due_go h hf]
    exact ih
  | false =>
    rw [due_stop h hf]
    exact due_stop h hf
theorem due_num (P : List Pr) (f : Nat) : NumP P → NumP (due P f).2 := by
  refine due_ind (p := fun P => NumP P → NumP (due P f).2) (fun h => h) (fun P x h ih hN => ?_) P
  cases hf : isLe x.2 f with
  | true =>
    rw [due_go h hf]
    exact ih (hN.out _)
  | false =>
    rw [due_stop h hf]
    exact hN
/-- Who was due is gone. -/
theorem due_gone (P : List Pr) (f : Nat) : ∀ s ∈ (due P f).1, ∀ p ∈ (due P f).2, tx p.1 ≠ tx s := by
  have sub : ∀ P : List Pr, ∀ p ∈ (due P f).2, p ∈ P := fun P => by
    refine due_ind (p := fun P => ∀ p ∈ (due P f).2, p ∈ P) (fun p h => h) (fun P x h ih p hp => ?_) P
    cases hf : isLe x.2 f with
    | true =>
      rw [due_go h hf] at hp
      exact (List.mem_filter.1 (ih p hp)).1
    | false =>
      rw [due_stop h hf] at hp
      exact hp
  refine due_ind (p := fun P => ∀ s ∈ (due P f).1, ∀ p ∈ (due P f).2, tx p.1 ≠ tx s) (fun s hs => by simp [due_nil] at hs) (fun P x h ih s hs p hp => ?_) P
  cases hf : isLe x.2 f with
  | true =>
    rw [due_go h hf] at hs hp
    dsimp only at hs hp
    rcases List.mem_cons.1 hs with rfl | hs
    · have := sub _ p hp
      simpa using (List.mem_filter.1 this).2
    · exact ih s hs p hp
  | false =>
    rw [due_stop h hf] at hs
    simp at hs

/-- The heap's own. -/
theorem due_pr (L : List It) (f : Nat) : due (pr L) f = ((dueL L.length L f).1, pr (dueL L.length L f).2) := by
  unfold due
  rw [pr_length, dueP_pr]
theorem numP_of {L : List It} {T : Nat} (h : Neat L T) : NumP (pr L) := fun p hp => by
  obtain ⟨x, hx, rfl⟩ := List.mem_map.1 hp
  exact (h.2 x hx).2.2
theorem oneP_of {L : List It} {T : Nat} (h : Neat L T) : OneP (pr L) := by
  unfold OneP pr
  rw [List.pairwise_map]
  exact apart_of h
theorem find_pr {L : List It} {s : ByteArray} (h : ∀ p ∈ pr L, tx p.1 ≠ tx s) : L.find? (isKey s) = none := by
  rw [List.find?_eq_none]
  intro x hx
  rw [isKey_iff]
  exact h _ (List.mem_map.2 ⟨x, hx, rfl⟩)
theorem set_pr {L M : List It} {s : ByteArray} {b c f t u : Nat} (h : pr L = pr M) : pr (without L s ++ [⟨b, s, f, t⟩]) = pr (without M s ++ [⟨c, s, f, u⟩]) := by
  rw [pr_append, pr_append, ← outP_pr, ← outP_pr, h]
  rfl

end Go.Proofs.Ytfmcpcciokogiaa
