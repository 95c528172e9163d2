/- The reference's Drop. -/
import Derived.Test.YtfmcpcciokogiaaRefA
import Derived.Deep.RegionLaw
import Derived.Deep.DeepCutAuto
namespace Go.Proofs.Ytfmcpcciokogiaa
open Go.RowKit Fl

/-- append onto a row of one's own, as one step of a region that draws. -/
theorem step_app {w : World} {ops : Array Oper} {o : Oper} {a : Act} {K : Act → World → Prop} {Q : Exit → Act → World → Prop} {E : Prop} (hgd : o.guard = none) (s x : Operand) (t : TypeId)
    (ho : o.op = .call { callee := .builtin .append, args := #[s, x], argTypes := #[t, t] }) (e : TypeId) (z : Value) (bytes : Nat) (ht : Try.prog.underlying t = some (.slice e)) (hinfo : (Try.prog.info? e).map (fun i => (i.zero, i.size, i.bytes)) = some (some z, 1, bytes))
    (hz1 : z.cells.size = 1) (hb1 : bytes ≤ 16) (xs news : List Value) (hown : Row 0 w e (a.eval s) xs) (hx : Src w (a.eval x) news) (h1 : ∀ u ∈ news, u.oneCell' = true) (hl : xs.length ≤ 1000000) (hn : news.length ≤ 1000000)
    (h : ∀ v' w', Row 0 w' e v' (xs ++ news) → w.grownBy w' (a.eval s).ownBlock → (v'.ownBlock = (a.eval s).ownBlock ∨ v'.ownBlock = some w.heap.size) → K (a.put o.dst v') w') :
    if Region.wanted o (yielded ops a.tmps) = true then Oper.wp Try.prog o a w K Q else E := by
  have hw : Region.wanted o (yielded ops a.tmps) = true := by simp [Region.wanted, hgd]
  rw [if_pos hw]
  obtain ⟨i, hi, hz, hs, hby⟩ := info_parts hinfo
  have hbb : (xs.length + news.length) * bytes ≤ 140737488355328 := Nat.le_trans (Nat.mul_le_mul_left _ hb1) (by omega)
  obtain ⟨v', w', hr, h2, h3, h4⟩ := run_app (P := Try.prog) w 0 t o.type e i z bytes ht hi hz hs hby hz1 _ _ xs news hown hx h1 (by simp only [maxLen]; omega) hbb (Nat.zero_le _)
  unfold Oper.wp execOp
  simp only [ho, resolve, invoke, builtin, Sem.run_bind, Sem.run_pure, Result.andThen_ok, List.map_toArray, List.map_cons, List.map_nil, hr]
  exact h v' w' h2 h3 h4

theorem src_take {w : World} {e : TypeId} {g n c i : Nat} {xs : List Value} (h : Row 0 w e (.slice (some ⟨g, 0, none⟩) n c) xs) (hn : xs.length = n) (hi : i ≤ n) : Src w (.slice (some ⟨g, 0, none⟩) i c) (xs.take i) := by
  obtain ⟨A, c', e1, hc, hA⟩ := h.src
  have hl : (xs.take i).length = i := by rw [List.length_take]; omega
  injection e1 with q1 q2 q3
  refine ⟨some ⟨g, 0, none⟩, c, by rw [hl], by rw [hl]; omega, fun hne => ?_⟩
  obtain ⟨ad, e2, hx⟩ := hA (fun q => hne (by rw [q]; simp))
  rw [← q1] at e2
  cases e2
  refine ⟨_, rfl, fun j u hj => ?_⟩
  have hjl := (List.getElem?_eq_some_iff.1 hj).1
  rw [hl] at hjl
  rw [List.getElem?_take, if_pos hjl] at hj
  exact hx j u hj
theorem src_drop {w : World} {e : TypeId} {g n c i o' c' : Nat} {xs : List Value} (h : Row 0 w e (.slice (some ⟨g, 0, none⟩) n c) xs) (hn : xs.length = n) (hi : i ≤ n) (ho : n = i ∨ o' = i) (hc' : n - i ≤ c') : Src w (.slice (some ⟨g, o', none⟩) (n - i) c') (xs.drop i) := by
  obtain ⟨A, c2, e1, hc, hA⟩ := h.src
  have hl : (xs.drop i).length = n - i := by rw [List.length_drop, hn]
  injection e1 with q1 q2 q3
  refine ⟨some ⟨g, o', none⟩, c', by rw [hl], by rw [hl]; exact hc', fun hne => ?_⟩
  have hlt : i < n := by
    rcases Nat.lt_or_ge i n with h | h
    · exact h
    · exact absurd (List.drop_eq_nil_of_le (by omega)) hne
  have : o' = i := by omega
  subst this
  obtain ⟨ad, e2, hx⟩ := hA (fun q => by rw [q] at hn; simp at hn; omega)
  rw [← q1] at e2
  cases e2
  refine ⟨_, rfl, fun j u hj => ?_⟩
  rw [List.getElem?_drop] at hj
  have := hx (o' + j) u hj
  rw [addr_add] at this ⊢
  simpa using this
theorem Src.grown {w w' : World} {v : Value} {xs : List Value} {o : Option Nat} (h : Src w v xs) (hg : w.grownBy w' o) (hne : ∀ A n c, v = .slice (some A) n c → some A.block ≠ o) : Src w' v xs := by
  obtain ⟨A, c, rfl, hc, hA⟩ := h
  refine ⟨A, c, rfl, hc, fun hx => ?_⟩
  obtain ⟨ad, rfl, hcell⟩ := hA hx
  refine ⟨ad, rfl, fun j u hj => ?_⟩
  have h1 := hcell j u hj
  have hb : (ad.add j).block = ad.block := add_block ad j
  have hlt : (ad.add j).block < w.heap.size := lt_of_cell h1
  exact (World.cell?_of_block (hg.block _ hlt (by rw [hb]; exact hne ad _ _ rfl))).trans h1
theorem fresh_row {w : World} (e : TypeId) : Row 0 (w.alloc (.cells #[] e)) e (.slice (some ⟨w.heap.size, 0, none⟩) 0 0) [] :=
  ⟨rfl, .inr ⟨w.heap.size, 0, #[], rfl, Nat.zero_le _, heap_alloc_new _ _, Nat.le_refl _, Nat.zero_le _, rfl, rfl⟩⟩

/-- What the two appends of Drop meet, by the row that is read. -/
theorem drop_facts {w : World} {e : TypeId} {r g n c i o' c' : Nat} {xs : List Value} {cs : Array Value} (hr : w.heap[r]? = some (.cells cs 59 (0, 0))) (h : Row 0 w e (.slice (some ⟨g, 0, none⟩) n c) xs) (hn : xs.length = n) (hi : i + 1 ≤ n)
    (ho : n = i + 1 ∨ o' = i + 1) (hc' : n - (i + 1) ≤ c') :
    Src (w.alloc (.cells #[] e)) (.slice (some ⟨g, 0, none⟩) i c) (xs.take i) ∧
      ∀ w1, (w.alloc (.cells #[] e)).grownBy w1 (some w.heap.size) → w1.heap[r]? = some (.cells cs 59 (0, 0)) ∧ Src w1 (.slice (some ⟨g, o', none⟩) (n - (i + 1)) c') (xs.drop (i + 1)) ∧ w.heap.size < w1.heap.size := by
  have hg := (h.block (k := g) rfl).2
  obtain ⟨cur, hg⟩ := hg
  have hgl := (Array.getElem?_eq_some_iff.1 hg).1
  have hrl := (Array.getElem?_eq_some_iff.1 hr).1
  have ga : w.grownBy (w.alloc (.cells #[] e)) none := ⟨rfl, rfl, rfl, by simp, fun k hk _ => Below.heap_alloc _ _ _ hk⟩
  refine ⟨(src_take h hn (by omega)).grown ga (fun _ _ _ _ => by simp), fun w1 h1 => ⟨?_, ?_, ?_⟩⟩
  · exact (h1.block r (by rw [alloc_size]; omega) (fun q => by have := Option.some.inj q; omega)).trans ((Below.heap_alloc _ _ _ hrl).trans hr)
  · refine ((src_drop h hn hi ho hc').grown ga (fun _ _ _ _ => by simp)).grown h1 fun A n' c'' q => ?_
    cases q
    intro q
    have := Option.some.inj q
    have : g = w.heap.size := this
    omega
  · have := h1.size
    rw [alloc_size] at this
    exact this

/-- Behind a region of Drop: one field is a new row, the other is as it was. -/
def Part (w : World) (r : Nat) (e e' : TypeId) (at0 : Bool) (xs : List Value) (other : Value) (ys : List Value) (wx : World) : Prop :=
  ∃ v, wx.heap[r]? = some (.cells (if at0 then #[v, other] else #[other, v]) 59 (0, 0)) ∧ Row 0 wx e v xs ∧ (∀ g, v.ownBlock = some g → w.heap.size ≤ g ∧ g < wx.heap.size) ∧ Row 0 wx e' other ys ∧ Turned (fun k => k = r) w wx

theorem part_of {w w1 w2 : World} {r : Nat} {e e' : TypeId} {xs ys : List Value} {kv other v1 v2 : Value} (at0 : Bool) (hr : w.heap[r]? = some (.cells (if at0 then #[kv, other] else #[other, kv]) 59 (0, 0))) (hoth : Row 0 w e' other ys)
    (he59 : e' ≠ 59) (h1 : (w.alloc (.cells #[] e)).grownBy w1 (some w.heap.size)) (hat1 : v1.ownBlock = some w.heap.size ∨ v1.ownBlock = some (w.alloc (.cells #[] e)).heap.size)
    (hown2 : Row 0 w2 e v2 xs) (h2 : w1.grownBy w2 v1.ownBlock) (hat2 : v2.ownBlock = v1.ownBlock ∨ v2.ownBlock = some w1.heap.size) (he : e ≠ 59) :
    w2.heap[r]? = some (.cells (if at0 then #[kv, other] else #[other, kv]) 59 (0, 0)) ∧ Part w r e e' at0 xs other ys (w2.setCell ⟨r, if at0 then 0 else 1, none⟩ v2) := by
  have hrl := (Array.getElem?_eq_some_iff.1 hr).1
  have s1 : w.heap.size < w1.heap.size := by
    have := h1.size
    rw [alloc_size] at this
    exact this
  have hv1 : ∀ g, v1.ownBlock = some g → w.heap.size ≤ g := fun g q => by
    rw [alloc_size] at hat1
    rcases hat1 with h | h
    · rw [h] at q
      have := Option.some.inj q
      omega
    · rw [h] at q
      have := Option.some.inj q
      omega
  have keep : ∀ k o, k < w.heap.size → w.heap[k]? = some o → w2.heap[k]? = some o := fun k o hk ho => by
    have a1 := (Below.heap_alloc w (.cells #[] e) k hk).trans ho
    have a2 := (h1.block k (by rw [alloc_size]; omega) (fun q => by have := Option.some.inj q; omega)).trans a1
    exact (h2.block k (by omega) (fun q => by have := hv1 k q.symm; omega)).trans a2
  have hr2 := keep r _ hrl hr
  have hv2 : ∀ g, v2.ownBlock = some g → w.heap.size ≤ g ∧ g < w2.heap.size := fun g q => by
    obtain ⟨cs, hc⟩ := (hown2.block q).2
    refine ⟨?_, (Array.getElem?_eq_some_iff.1 hc).1⟩
    rcases hat2 with h | h
    · exact hv1 g (by rw [← h]; exact q)
    · rw [h] at q
      have := Option.some.inj q
      omega
  have T2 : Turned (fun k => k = r) w w2 := ((Turned.alloc (F := fun k => k = r) w (.cells #[] e)).step (Turned.grown (F := fun k => w.heap.size ≤ k) h1 fun g q => by have := Option.some.inj q; omega) (fun k h3 h4 => by omega)).step (Turned.grown (F := fun k => w.heap.size ≤ k) h2 hv1) (fun k h3 h4 => by omega)
  refine ⟨hr2, v2, ?_, hown2.cells fun g cur hv hg => (set_off _ (fun q => ?_)).trans hg, fun g q => by rw [set_size]; exact hv2 g q, hoth.cells fun g cur hv hg => (set_off _ (fun q => ?_)).trans (keep g _ (Array.getElem?_eq_some_iff.1 hg).1 hg), T2.trans (Turned.set (F := fun k => k = r) _ rfl)⟩
  · cases at0
    · exact set_at (o := 1) hr2 v2
    · exact set_at (o := 0) hr2 v2
  · rw [q, hr2] at hg
    injection hg with hg
    injection hg with _ hg
    exact he hg.symm
  · rw [q, hr] at hg
    injection hg with hg
    injection hg with _ hg
    exact he59 hg.symm

end Go.Proofs.Ytfmcpcciokogiaa
