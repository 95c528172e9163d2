/- Bytes in memory: rows of the program's own, what reads as a list of bytes, append. -/
import Derived.Test.YtjeeiaelicekhaaRows
import Derived.WalkKit
import Derived.WalkLawsBesides
import Derived.BigQuiet
import Derived.Deep.QuietTactic
import Derived.Lib.Hide
import Derived.Deep.RegionWith
import Derived.Deep.DeepCutAuto
import Derived.Maps.AppendAt
import Derived.OwnWalkIn
namespace Go.Proofs.Ytjeeiaelicekhaa
open Go.RowKit

def cel (l : List UInt8) : List Value := l.map fun c => .int .u8 (c.toNat : Int)
theorem cel_length (l : List UInt8) : (cel l).length = l.length := by simp [cel]
theorem cel_append (l m : List UInt8) : cel (l ++ m) = cel l ++ cel m := by simp [cel]
theorem cel_get (l : List UInt8) (i : Nat) (h : i < l.length) : (cel l)[i]? = some (.int .u8 (l[i].toNat : Int)) := by
  simp [cel, h]
theorem cel_one (l : List UInt8) : ∀ u ∈ cel l, u.oneCell' = true := by
  intro u hu
  simp only [cel, List.mem_map] at hu
  obtain ⟨c, _, rfl⟩ := hu
  rfl

/-- A source of an append: a slice whose elements are the cells xs. -/
def Src (w : World) (v : Value) (xs : List Value) : Prop :=
  ∃ A c, v = .slice A xs.length c ∧ xs.length ≤ c ∧ (xs ≠ [] → ∃ ad, A = some ad ∧ ∀ j u, xs[j]? = some u → w.cell? (ad.add j) = some u)

/-- A row of the program's own with one-cell elements of type e, in a block from B on. -/
def Row (B : Nat) (w : World) (e : TypeId) (v : Value) (xs : List Value) : Prop := w.ownsRow B e 1 v xs.length xs

theorem addr_add (b off k : Nat) : (⟨b, off, none⟩ : Addr).add k = ⟨b, off + k, none⟩ := by
  unfold Addr.add
  split
  · rename_i hk; subst hk; rfl
  · rfl

theorem Row.form {B : Nat} {w : World} {e : TypeId} {v : Value} {xs : List Value} (h : Row B w e v xs) :
    (v = .slice none 0 0 ∧ xs = []) ∨ ∃ g cap cur, v = .slice (some ⟨g, 0, none⟩) xs.length cap ∧ B ≤ g ∧ w.heap[g]? = some (.cells cur e (0, 0)) ∧ xs.length ≤ cap ∧ cap ≤ maxLen ∧ cur.size = cap ∧ cur.toList.take xs.length = xs := by
  rcases h.2 with ⟨h1, h2⟩ | ⟨g, cap, cur, h1, h2, h3, h4, h5, h6, h7⟩
  · exact .inl ⟨h1, List.eq_nil_of_length_eq_zero h2⟩
  · exact .inr ⟨g, cap, cur, h1, h2, h3, h4, h5, by omega, by rw [Nat.mul_one] at h7; exact h7⟩

theorem Row.src {B : Nat} {w : World} {e : TypeId} {v : Value} {xs : List Value} (h : Row B w e v xs) : Src w v xs := by
  rcases h.form with ⟨rfl, rfl⟩ | ⟨g, cap, cur, rfl, _, hg, hn, _, hs, ht⟩
  · exact ⟨none, 0, rfl, Nat.le_refl _, fun h => absurd rfl h⟩
  · refine ⟨_, _, rfl, hn, fun _ => ⟨_, rfl, fun j u hj => ?_⟩⟩
    rw [addr_add]
    have hjl : j < xs.length := (List.getElem?_eq_some_iff.1 hj).1
    rw [← ht, List.getElem?_take, if_pos hjl] at hj
    simp only [World.cell?, hg, Nat.zero_add]
    simpa using hj

section
variable {P : Program}

/-- append onto a row of one's own, whatever the source: nil, empty or not. -/
theorem run_app (w : World) (B : Nat) (t ty e : TypeId) (i : TypeInfo) (z : Value) (bytes : Nat) (ht : P.underlying t = some (.slice e)) (hi : P.info? e = some i) (hz : i.zero = some z)
    (hsize : i.size = 1) (hby : i.bytes = bytes) (hzs : z.cells.size = 1) (v x : Value) (xs news : List Value) (hown : Row B w e v xs) (hx : Src w x news) (h1 : ∀ u ∈ news, u.oneCell' = true)
    (h63 : xs.length + news.length ≤ maxLen) (hbytes : (xs.length + news.length) * bytes ≤ 140737488355328) (hB : B ≤ w.heap.size) :
    ∃ v' w', (Builtin.append_ #[t, t] ty #[v, x]).run P w = .ok v' w' ∧ Row B w' e v' (xs ++ news) ∧ w.grownBy w' v.ownBlock ∧ (v'.ownBlock = v.ownBlock ∨ v'.ownBlock = some w.heap.size) := by
  obtain ⟨A, c, rfl, _, hA⟩ := hx
  cases A with
  | none =>
    have hn : news = [] := by
      rcases List.eq_nil_or_concat news with h | ⟨l, b, h⟩
      · exact h
      · obtain ⟨ad, e, _⟩ := hA (by rw [h]; simp)
        cases e
    subst hn
    refine ⟨v, w, ?_, by simpa using hown, World.grownBy.refl w _, .inl rfl⟩
    rcases hown.form with ⟨rfl, rfl⟩ | ⟨g, cap, cur, rfl, _, _, hnc, _⟩
    · simp [Builtin.append_, run_underlying ht, sizeOf, typeInfo, hi, Builtin.lenOf, Builtin.firstCells]
    · simp [Builtin.append_, run_underlying ht, sizeOf, typeInfo, hi, Builtin.lenOf, Builtin.firstCells, hnc, storeCells]
  | some ad =>
    have hc : ∀ j u, news[j]? = some u → w.cell? (ad.add j) = some u := by
      intro j u hj
      obtain ⟨ad', e', h⟩ := hA (by rintro rfl; simp at hj)
      cases e'
      exact h j u hj
    obtain ⟨v', w', hr, ho, hg, _, hat⟩ := run_append_own_at (P := P) w B t ty e i z 1 bytes ht hi hz hsize hby hzs (by omega) v xs.length xs hown ad news.length c news (by omega) hc h1 h63 hbytes hB
    refine ⟨v', w', hr, ?_, hg, hat⟩
    unfold Row
    rw [List.length_append]
    exact ho

/-- At the operation, in the plain walk. -/
theorem wp_app {w : World} {ops : Array Oper} {rest : List Oper} {o : Oper} {a : Act} {Q : Exit → Act → World → Prop} (hgd : o.guard = none) (s x : Operand) (t : TypeId)
    (ho : o.op = .call { callee := .builtin .append, args := #[s, x], argTypes := #[t, t] })
    (B : Nat) (e : TypeId) (i : TypeInfo) (z : Value) (bytes : Nat) (ht : P.underlying t = some (.slice e)) (hi : P.info? e = some i) (hz : i.zero = some z)
    (hsize : i.size = 1) (hby : i.bytes = bytes) (hzs : z.cells.size = 1) (xs news : List Value) (hown : Row B w e (a.eval s) xs) (hx : Src w (a.eval x) news) (h1 : ∀ u ∈ news, u.oneCell' = true)
    (h63 : xs.length + news.length ≤ maxLen) (hbytes : (xs.length + news.length) * bytes ≤ 140737488355328) (hB : B ≤ w.heap.size)
    (h : ∀ v' w', Row B w' e v' (xs ++ news) → w.grownBy w' (a.eval s).ownBlock → (v'.ownBlock = (a.eval s).ownBlock ∨ v'.ownBlock = some w.heap.size) → wpList P ops Q rest (a.put o.dst v') w') :
    wpList P ops Q (o :: rest) a w := by
  refine wpList_plain hgd fun K hK => ?_
  obtain ⟨v', w', hr, h2, h3, h4⟩ := run_app (P := P) w B t o.type e i z bytes ht hi hz hsize hby hzs _ _ xs news hown hx h1 h63 hbytes hB
  unfold Oper.wp execOp
  simp only [ho, resolve, invoke, builtin, Sem.run_bind, Sem.run_pure, Result.andThen_ok, List.map_toArray, List.map_cons, List.map_nil, hr]
  exact hK _ _ (h v' w' h2 h3 h4)

/-- And within a fence. -/
theorem wpIn_app {F : Fence} {n : Nat} {w : World} {ops : Array Oper} {rest : List Oper} {o : Oper} {a : Act} {Q : Exit → Act → World → Prop} (hgd : o.guard = none) (s x : Operand) (t : TypeId)
    (ho : o.op = .call { callee := .builtin .append, args := #[s, x], argTypes := #[t, t] })
    (B : Nat) (e : TypeId) (i : TypeInfo) (z : Value) (bytes : Nat) (ht : P.underlying t = some (.slice e)) (hi : P.info? e = some i) (hz : i.zero = some z)
    (hsize : i.size = 1) (hby : i.bytes = bytes) (hzs : z.cells.size = 1) (xs news : List Value) (hown : Row B w e (a.eval s) xs) (hx : Src w (a.eval x) news) (h1 : ∀ u ∈ news, u.oneCell' = true)
    (h63 : xs.length + news.length ≤ maxLen) (hbytes : (xs.length + news.length) * bytes ≤ 140737488355328) (hB : B ≤ w.heap.size)
    (h : ∀ v' w', Row B w' e v' (xs ++ news) → w.grownBy w' (a.eval s).ownBlock → (v'.ownBlock = (a.eval s).ownBlock ∨ v'.ownBlock = some w.heap.size) → wpListIn F n P ops Q rest (a.put o.dst v') w') :
    wpListIn F n P ops Q (o :: rest) a w := by
  refine wpListIn_plain hgd fun K hK => ?_
  obtain ⟨v', w', hr, h2, h3, h4⟩ := run_app (P := P) w B t o.type e i z bytes ht hi hz hsize hby hzs _ _ xs news hown hx h1 h63 hbytes hB
  unfold Oper.wpIn
  refine ⟨?_, ?_⟩
  · simp [Oper.about, ho, resolve, Target.leads, Sem.run_pure]
  · rw [Oper.semAt_plain F _ _ (by rw [ho]; intro c hc'; cases hc')]
    simp [execOp, ho, resolve, invoke, builtin, hr, Result.andThen]
    exact hK _ _ (h v' w' h2 h3 h4)
end

theorem info5 : (Try.prog.info? 5).map (fun i => (i.zero, i.size, i.bytes)) = some (some (.int .u8 0), 1, 1) := by kernel_rfl
theorem info31 : (Try.prog.info? 31).map (fun i => (i.zero, i.size, i.bytes)) = some (some (.slice none 0 0), 1, 24) := by kernel_rfl

/-- append on bytes: type 31, elements of type 5. -/
theorem app_bytes {w : World} {ops : Array Oper} {rest : List Oper} {o : Oper} {a : Act} {Q : Exit → Act → World → Prop} (hgd : o.guard = none) (s x : Operand)
    (ho : o.op = .call { callee := .builtin .append, args := #[s, x], argTypes := #[31, 31] }) (B : Nat) (l m : List UInt8)
    (hown : Row B w 5 (a.eval s) (cel l)) (hx : Src w (a.eval x) (cel m)) (hb : l.length + m.length ≤ 140737488355328) (hB : B ≤ w.heap.size)
    (h : ∀ v' w', Row B w' 5 v' (cel (l ++ m)) → w.grownBy w' (a.eval s).ownBlock → (v'.ownBlock = (a.eval s).ownBlock ∨ v'.ownBlock = some w.heap.size) → wpList Try.prog ops Q rest (a.put o.dst v') w') :
    wpList Try.prog ops Q (o :: rest) a w := by
  obtain ⟨i, hi, hz, hs, hby⟩ := info_parts info5
  refine wp_app hgd s x 31 ho B 5 i _ 1 Try.underlying31 hi hz hs hby rfl (cel l) (cel m) hown hx (cel_one m) (by simp only [cel_length, maxLen]; omega) (by simp only [cel_length]; omega) hB ?_
  intro v' w' h1 h2 h3
  rw [← cel_append] at h1
  exact h v' w' h1 h2 h3

theorem app_bytes_in {F : Fence} {n : Nat} {w : World} {ops : Array Oper} {rest : List Oper} {o : Oper} {a : Act} {Q : Exit → Act → World → Prop} (hgd : o.guard = none) (s x : Operand)
    (ho : o.op = .call { callee := .builtin .append, args := #[s, x], argTypes := #[31, 31] }) (B : Nat) (l m : List UInt8)
    (hown : Row B w 5 (a.eval s) (cel l)) (hx : Src w (a.eval x) (cel m)) (hb : l.length + m.length ≤ 140737488355328) (hB : B ≤ w.heap.size)
    (h : ∀ v' w', Row B w' 5 v' (cel (l ++ m)) → w.grownBy w' (a.eval s).ownBlock → (v'.ownBlock = (a.eval s).ownBlock ∨ v'.ownBlock = some w.heap.size) → wpListIn F n Try.prog ops Q rest (a.put o.dst v') w') :
    wpListIn F n Try.prog ops Q (o :: rest) a w := by
  obtain ⟨i, hi, hz, hs, hby⟩ := info_parts info5
  refine wpIn_app hgd s x 31 ho B 5 i _ 1 Try.underlying31 hi hz hs hby rfl (cel l) (cel m) hown hx (cel_one m) (by simp only [cel_length, maxLen]; omega) (by simp only [cel_length]; omega) hB ?_
  intro v' w' h1 h2 h3
  rw [← cel_append] at h1
  exact h v' w' h1 h2 h3

/-- append on lists of lists of bytes: type 22, elements of type 31. -/
theorem app_lists {w : World} {ops : Array Oper} {rest : List Oper} {o : Oper} {a : Act} {Q : Exit → Act → World → Prop} (hgd : o.guard = none) (s x : Operand)
    (ho : o.op = .call { callee := .builtin .append, args := #[s, x], argTypes := #[22, 22] }) (B : Nat) (l m : List Value)
    (hown : Row B w 31 (a.eval s) l) (hx : Src w (a.eval x) m) (h1 : ∀ u ∈ m, u.oneCell' = true) (hb : (l.length + m.length) * 24 ≤ 140737488355328) (hB : B ≤ w.heap.size)
    (h : ∀ v' w', Row B w' 31 v' (l ++ m) → w.grownBy w' (a.eval s).ownBlock → (v'.ownBlock = (a.eval s).ownBlock ∨ v'.ownBlock = some w.heap.size) → wpList Try.prog ops Q rest (a.put o.dst v') w') :
    wpList Try.prog ops Q (o :: rest) a w := by
  obtain ⟨i, hi, hz, hs, hby⟩ := info_parts info31
  exact wp_app hgd s x 22 ho B 31 i _ 24 Try.underlying22 hi hz hs hby rfl l m hown hx h1 (by simp only [maxLen]; omega) hb hB h

theorem app_lists_in {F : Fence} {n : Nat} {w : World} {ops : Array Oper} {rest : List Oper} {o : Oper} {a : Act} {Q : Exit → Act → World → Prop} (hgd : o.guard = none) (s x : Operand)
    (ho : o.op = .call { callee := .builtin .append, args := #[s, x], argTypes := #[22, 22] }) (B : Nat) (l m : List Value)
    (hown : Row B w 31 (a.eval s) l) (hx : Src w (a.eval x) m) (h1 : ∀ u ∈ m, u.oneCell' = true) (hb : (l.length + m.length) * 24 ≤ 140737488355328) (hB : B ≤ w.heap.size)
    (h : ∀ v' w', Row B w' 31 v' (l ++ m) → w.grownBy w' (a.eval s).ownBlock → (v'.ownBlock = (a.eval s).ownBlock ∨ v'.ownBlock = some w.heap.size) → wpListIn F n Try.prog ops Q rest (a.put o.dst v') w') :
    wpListIn F n Try.prog ops Q (o :: rest) a w := by
  obtain ⟨i, hi, hz, hs, hby⟩ := info_parts info31
  exact wpIn_app hgd s x 22 ho B 31 i _ 24 Try.underlying22 hi hz hs hby rfl l m hown hx h1 (by simp only [maxLen]; omega) hb hB h

/-! ### What stays -/
theorem Src.keep {w w' : World} {v : Value} {xs : List Value} (h : Src w v xs) (hk : ∀ ad, (∃ x, w.cell? ad = some x) → v.ownBlock = some ad.block → w'.cell? ad = w.cell? ad) : Src w' v xs := by
  obtain ⟨A, c, rfl, hl, hA⟩ := h
  refine ⟨A, c, rfl, hl, fun hn => ?_⟩
  obtain ⟨ad, rfl, hc⟩ := hA hn
  have hblk : ∀ j, (ad.add j).block = ad.block := fun j => by unfold Addr.add; split <;> rfl
  exact ⟨ad, rfl, fun j u hj => (hk _ ⟨u, hc j u hj⟩ (by simp [Value.ownBlock, hblk])).trans (hc j u hj)⟩

theorem lt_of_cell {w : World} {a : Addr} {v : Value} (h : w.cell? a = some v) : a.block < w.heap.size := by
  unfold World.cell? at h
  rcases Nat.lt_or_ge a.block w.heap.size with g | g
  · exact g
  · rw [Array.getElem?_eq_none g] at h
    cases h

theorem Src.below {w w' : World} {v : Value} {xs : List Value} (h : Src w v xs) (hb : Below w.heap.size w w') : Src w' v xs :=
  h.keep fun _ ⟨_, hx⟩ _ => hb.cell (lt_of_cell hx)
theorem Src.grown {w w' : World} {v : Value} {xs : List Value} {row : Option Nat} (h : Src w v xs) (hg : w.grownBy w' row) (hne : v.ownBlock ≠ row ∨ v.ownBlock = none) : Src w' v xs :=
  h.keep fun ad ⟨x, hx⟩ hb => World.cell?_of_block (hg.block ad.block (lt_of_cell hx) (by
    rcases hne with hne | hne
    · rw [← hb]; exact hne
    · rw [hb] at hne; cases hne))

end Go.Proofs.Ytjeeiaelicekhaa
