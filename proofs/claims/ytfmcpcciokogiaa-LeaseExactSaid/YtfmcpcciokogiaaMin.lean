/- The first to end; what is due: as functions of the list. Delete, as a step. -/
import Derived.Test.YtfmcpcciokogiaaSet
import Derived.Deep.RegionLaw
namespace Go.Proofs.Ytfmcpcciokogiaa
open Go.RowKit Fl

/-- The first to end; of those that end alike the one that was set first. -/
def minOf : List It → Option It
  | [] => none
  | a :: r => match minOf r with
    | none => some a
    | some y => if EV y.fin < EV a.fin then some y else some a

theorem minOf_none {L : List It} : minOf L = none ↔ L = [] := by
  cases L with
  | nil => simp [minOf]
  | cons a r =>
    simp only [minOf]
    cases minOf r with
    | none => simp
    | some y =>
      dsimp only
      split <;> simp
theorem minOf_mem {L : List It} : ∀ {x : It}, minOf L = some x → x ∈ L := by
  induction L with
  | nil => intro x h; simp [minOf] at h
  | cons a r ih =>
    intro x h
    simp only [minOf] at h
    cases hm : minOf r with
    | none =>
      rw [hm] at h
      simp at h
      simp [h]
    | some y =>
      rw [hm] at h
      dsimp only at h
      split at h
      · cases h
        exact List.mem_cons_of_mem _ (ih hm)
      · cases h
        exact List.mem_cons_self
theorem minOf_spec {L : List It} (h : L.Pairwise fun x y => x.turn < y.turn) : ∀ {x : It}, x ∈ L → (∀ y ∈ L, ¬ les (rank y) (rank x)) → minOf L = some x := by
  induction L with
  | nil => intro x hx; simp at hx
  | cons a r ih =>
    intro x hx hm
    obtain ⟨h1, h2⟩ := List.pairwise_cons.1 h
    simp only [minOf]
    rcases List.mem_cons.1 hx with rfl | hxr
    · cases hr : minOf r with
      | none => rfl
      | some y =>
        have hy := hm y (List.mem_cons_of_mem _ (minOf_mem hr))
        dsimp only
        rw [if_neg (show ¬ EV y.fin < EV x.fin from fun q => hy (.inl q))]
    · rw [ih h2 hxr fun y hy => hm y (List.mem_cons_of_mem _ hy)]
      dsimp only
      have ha := hm a List.mem_cons_self
      have ht := h1 x hxr
      have hlt : EV x.fin < EV a.fin := by
        simp only [les, rank, not_or, not_and] at ha
        obtain ⟨q1, q2⟩ := ha
        have : EV a.fin ≠ EV x.fin := fun e => q2 e (by omega)
        omega
      rw [if_pos hlt]

theorem turns_of {L : List It} {T : Nat} (h : Neat L T) : L.Pairwise fun x y => x.turn < y.turn := h.1.imp fun h => h.1

/-- The row's first is the list's. -/
theorem first_of {xs L : List It} {T : Nat} {x : It} (hp : xs.Perm L) (h : Neat L T) (hO : Ord (rkf xs) xs.length) (hx : xs[0]? = some x) : minOf L = some x := by
  refine minOf_spec (turns_of h) (hp.mem_iff.1 (List.mem_of_getElem? hx)) fun y hy => ?_
  obtain ⟨k, hk, e⟩ := List.mem_iff_getElem.1 (hp.mem_iff.2 hy)
  have h1 := ord_first hO k k (Nat.le_refl _) hk
  rw [rkf_at (by rw [List.getElem?_eq_getElem hk, e] : xs[k]? = some y), rkf_at hx] at h1
  exact h1

/-- What is due, and what is left. -/
def dueL : Nat → List It → Nat → List ByteArray × List It
  | 0, L, _ => ([], L)
  | n + 1, L, f => match minOf L with
    | none => ([], L)
    | some x => if isLe x.fin f then (x.key :: (dueL n (without L x.key) f).1, (dueL n (without L x.key) f).2) else ([], L)

theorem dueL_none {n f : Nat} {L : List It} (h : minOf L = none) : dueL n L f = ([], L) := by
  cases n with
  | zero => rfl
  | succ n => simp [dueL, h]
theorem dueL_stop {n f : Nat} {L : List It} {x : It} (h : minOf L = some x) (hf : isLe x.fin f = false) : dueL n L f = ([], L) := by
  cases n with
  | zero => rfl
  | succ n => simp [dueL, h, hf]
theorem dueL_go {n f : Nat} {L : List It} {x : It} (h : minOf L = some x) (hf : isLe x.fin f = true) : dueL (n + 1) L f = (x.key :: (dueL n (without L x.key) f).1, (dueL n (without L x.key) f).2) := by
  simp [dueL, h, hf]
theorem without_lt {L : List It} {x : It} (h : x ∈ L) : (without L x.key).length < L.length := by
  unfold without
  have h1 := List.length_filter_le (fun y => !isKey x.key y) L
  rcases Nat.lt_or_ge (List.filter (fun y => !isKey x.key y) L).length L.length with h2 | h2
  · exact h2
  · have h3 := (List.length_filter_eq_length_iff.1 (Nat.le_antisymm h1 h2)) x h
    simp [isKey] at h3

/-- delete, at a plain region's list; at a step of one that draws. -/
theorem wp_del {w w' : World} {ops : Array Oper} {rest : List Oper} {o : Oper} {a : Act} {Q : Exit → Act → World → Prop} (hgd : o.guard = none) (m x : Operand)
    (ho : o.op = .call { callee := .builtin .delete, args := #[m, x], argTypes := #[62, 9] }) (b : Nat) (s : ByteArray) (hm : a.eval m = .map (some b)) (hx : a.eval x = .string s)
    (hr : (Builtin.delete_ #[62, 9] o.type #[.map (some b), .string s]).run Try.prog w = .ok (.tuple #[]) w') (h : wpList Try.prog ops Q rest (a.put o.dst (.tuple #[])) w') : wpList Try.prog ops Q (o :: rest) a w := by
  refine wpList_plain hgd fun K hK => ?_
  unfold Oper.wp execOp
  simp only [ho, resolve, invoke, builtin, Sem.run_bind, Sem.run_pure, Result.andThen_ok, List.map_toArray, List.map_cons, List.map_nil, hm, hx, hr]
  exact hK _ _ h
theorem step_del {w w' : World} {ops : Array Oper} {o : Oper} {a : Act} {K : Act → World → Prop} {Q : Exit → Act → World → Prop} {E : Prop} (hgd : o.guard = none) (m x : Operand)
    (ho : o.op = .call { callee := .builtin .delete, args := #[m, x], argTypes := #[62, 9] }) (b : Nat) (s : ByteArray) (hm : a.eval m = .map (some b)) (hx : a.eval x = .string s)
    (hr : (Builtin.delete_ #[62, 9] o.type #[.map (some b), .string s]).run Try.prog w = .ok (.tuple #[]) w') (h : K (a.put o.dst (.tuple #[])) w') :
    if Region.wanted o (yielded ops a.tmps) = true then Oper.wp Try.prog o a w K Q else E := by
  have hw : Region.wanted o (yielded ops a.tmps) = true := by simp [Region.wanted, hgd]
  rw [if_pos hw]
  unfold Oper.wp execOp
  simp only [ho, resolve, invoke, builtin, Sem.run_bind, Sem.run_pure, Result.andThen_ok, List.map_toArray, List.map_cons, List.map_nil, hm, hx, hr]
  exact h

end Go.Proofs.Ytfmcpcciokogiaa
