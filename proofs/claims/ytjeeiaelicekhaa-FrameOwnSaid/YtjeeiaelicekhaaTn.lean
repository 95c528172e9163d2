/- Which blocks turn; append onto a row, and what stays beside it. -/
import Derived.Test.YtjeeiaelicekhaaStep
namespace Go.Proofs.Ytjeeiaelicekhaa
open Go.RowKit

/-- Only blocks of F have turned, and new ones are there. -/
def Tn (F : Nat → Prop) (w w' : World) : Prop :=
  w'.os = w.os ∧ w'.tape = w.tape ∧ w'.output = w.output ∧ w.heap.size ≤ w'.heap.size ∧ ∀ k, k < w.heap.size → ¬ F k → w'.heap[k]? = w.heap[k]?
theorem Tn.refl (F : Nat → Prop) (w : World) : Tn F w w := ⟨rfl, rfl, rfl, Nat.le_refl _, fun _ _ _ => rfl⟩
theorem Tn.trans {F : Nat → Prop} {a b c : World} (h : Tn F a b) (k : Tn F b c) : Tn F a c :=
  ⟨k.1.trans h.1, k.2.1.trans h.2.1, k.2.2.1.trans h.2.2.1, Nat.le_trans h.2.2.2.1 k.2.2.2.1, fun i hi hn => (k.2.2.2.2 i (Nat.lt_of_lt_of_le hi h.2.2.2.1) hn).trans (h.2.2.2.2 i hi hn)⟩
theorem Tn.mono {F G : Nat → Prop} {a b : World} (h : Tn F a b) (hFG : ∀ k, k < a.heap.size → F k → G k) : Tn G a b :=
  ⟨h.1, h.2.1, h.2.2.1, h.2.2.2.1, fun i hi hn => h.2.2.2.2 i hi fun q => hn (hFG i hi q)⟩
theorem Tn.drewN {F : Nat → Prop} {a b : World} (h : Tn F a b) (n : Nat) : Tn F a (b.drewN n) := h
theorem Tn.size {F : Nat → Prop} {a b : World} (h : Tn F a b) : a.heap.size ≤ b.heap.size := h.2.2.2.1
theorem Tn.block {F : Nat → Prop} {a b : World} (h : Tn F a b) {k : Nat} {o : Obj} (hk : a.heap[k]? = some o) (hn : ¬ F k) : b.heap[k]? = some o :=
  (h.2.2.2.2 k (Array.getElem?_eq_some_iff.1 hk).1 hn).trans hk
theorem Tn.of_below {F : Nat → Prop} {a b : World} (h : Below a.heap.size a b) : Tn F a b := ⟨h.os, h.tape, h.output, h.size, fun k hk _ => h.block k hk⟩
theorem Tn.below {F : Nat → Prop} {a b c : World} (h : Tn F a b) (k : Below b.heap.size b c) : Tn F a c := h.trans (Tn.of_below k)
theorem Tn.to_below {F : Nat → Prop} {B : Nat} {a b : World} (h : Tn F a b) (hB : B ≤ a.heap.size) (hF : ∀ k, F k → B ≤ k) : Below B a b :=
  ⟨h.1, h.2.1, h.2.2.1, h.2.2.2.1, fun k hk => h.2.2.2.2 k (by omega) fun q => by have := hF k q; omega⟩
theorem Tn.alloc {F : Nat → Prop} (w : World) (o : Obj) : Tn F w (w.alloc o) := ⟨rfl, rfl, rfl, by simp, fun k hk _ => Below.heap_alloc _ _ _ hk⟩
theorem Tn.grown {F : Nat → Prop} {w w' : World} {o : Option Nat} (h : w.grownBy w' o) (hF : ∀ g, o = some g → F g) : Tn F w w' :=
  ⟨h.os, h.tape, h.output, h.size, fun k hk hn => h.block k hk fun e => hn (hF k e.symm)⟩
theorem set_at {w : World} {b o : Nat} {cs : Array Value} {t : TypeId} {f : Nat × Nat} (h : w.heap[b]? = some (.cells cs t f)) (v : Value) :
    (w.setCell ⟨b, o, none⟩ v).heap[b]? = some (.cells (cs.setIfInBounds o v) t f) := by
  obtain ⟨hlt, hk⟩ := Array.getElem?_eq_some_iff.1 h
  show (w.heap.modify b _)[b]? = _
  rw [Array.getElem?_eq_getElem (by rw [Array.size_modify]; exact hlt), Array.getElem_modify_self, hk]
  rfl
theorem set_off {w : World} {b o k : Nat} (v : Value) (h : k ≠ b) : (w.setCell ⟨b, o, none⟩ v).heap[k]? = w.heap[k]? := Below.heap_setCell _ _ _ k (fun e => h e)
theorem set_size {w : World} {b o : Nat} (v : Value) : (w.setCell ⟨b, o, none⟩ v).heap.size = w.heap.size := by
  show (w.heap.modify b _).size = _
  rw [Array.size_modify]
theorem Tn.set {F : Nat → Prop} {a : World} {b o : Nat} (v : Value) (hb : F b) : Tn F a (a.setCell ⟨b, o, none⟩ v) :=
  ⟨rfl, rfl, rfl, by rw [set_size]; exact Nat.le_refl _, fun k _ hn => set_off v fun e => hn (by rw [e]; exact hb)⟩

theorem Row.tn {B : Nat} {F : Nat → Prop} {w w' : World} {e : TypeId} {v : Value} {xs : List Value} (h : Row B w e v xs) (t : Tn F w w') (hd : ∀ k, v.ownBlock = some k → ¬ F k) : Row B w' e v xs :=
  h.cells fun g _ hv hg => t.block hg (hd g hv)
theorem Row.lt {B : Nat} {w : World} {e : TypeId} {v : Value} {xs : List Value} (h : Row B w e v xs) {k : Nat} (hk : v.ownBlock = some k) : k < w.heap.size := by
  obtain ⟨_, cs, h1⟩ := h.block hk
  exact (Array.getElem?_eq_some_iff.1 h1).1
theorem Row.base {B B' : Nat} {w : World} {e : TypeId} {v : Value} {xs : List Value} (h : Row B w e v xs) (hb : ∀ k, v.ownBlock = some k → B' ≤ k) : Row B' w e v xs := by
  rcases h.2 with h2 | ⟨g, cap, cur, h1, _, h3, h4⟩
  · exact ⟨h.1, .inl h2⟩
  · exact ⟨h.1, .inr ⟨g, cap, cur, h1, hb g (by rw [h1]; rfl), h3, h4⟩⟩
theorem Row.zero {B : Nat} {w : World} {e : TypeId} {v : Value} {xs : List Value} (h : Row B w e v xs) : Row 0 w e v xs := h.base fun _ _ => Nat.zero_le _

/-- Two lists that do not differ where both are. -/
def Agree (xs ys : List Value) : Prop := ∀ (j : Nat) (a b : Value), xs[j]? = some a → ys[j]? = some b → a = b

theorem take_of_agree {l xs ys : List Value} (hl : ∃ t, l = ys ++ t) (hxs : ∃ t, xs <+: t ∧ t.length = l.length ∧ ∀ j, ys.length ≤ j → t[j]? = l[j]?) (h : Agree xs ys) : l.take xs.length = xs := by
  obtain ⟨t, rfl⟩ := hl
  obtain ⟨u, ⟨s, rfl⟩, hul, hu⟩ := hxs
  apply List.ext_getElem?
  intro j
  rw [List.getElem?_take]
  split
  · rename_i hj
    by_cases hjy : j < ys.length
    · rw [List.getElem?_append_left hjy]
      have e1 : xs[j]? = some xs[j] := by simp [hj]
      have e2 : ys[j]? = some ys[j] := by simp [hjy]
      rw [e1, e2, h j _ _ e1 e2]
    · rw [← hu j (by omega), List.getElem?_append_left hj]
  · rename_i hj
    rw [List.getElem?_eq_none (by omega)]

section
variable {P : Program}

/-- append onto a row of one's own; and other rows stay, if they lie elsewhere or read the same. -/
theorem run_app2 (w : World) (B : Nat) (t ty e : TypeId) (i : TypeInfo) (z : Value) (bytes : Nat) (ht : P.underlying t = some (.slice e)) (hi : P.info? e = some i) (hz : i.zero = some z)
    (hsize : i.size = 1) (hby : i.bytes = bytes) (hzs : z.cells.size = 1) (v x : Value) (xs news : List Value) (hown : Row B w e v xs) (hx : Src w x news) (h1 : ∀ u ∈ news, u.oneCell' = true)
    (h63 : xs.length + news.length ≤ maxLen) (hbytes : (xs.length + news.length) * bytes ≤ 140737488355328) (hB : B ≤ w.heap.size) :
    ∃ v' w', (Builtin.append_ #[t, t] ty #[v, x]).run P w = .ok v' w' ∧ Row B w' e v' (xs ++ news) ∧ w.grownBy w' v.ownBlock ∧ (v'.ownBlock = v.ownBlock ∨ v'.ownBlock = some w.heap.size) ∧
      ∀ u ys, Row 0 w e u ys → (u.ownBlock = v.ownBlock → Agree ys (xs ++ news)) → Row 0 w' e u ys := by
  obtain ⟨v', w', hr, h2, h3, h4⟩ := run_app w B t ty e i z bytes ht hi hz hsize hby hzs v x xs news hown hx h1 h63 hbytes hB
  refine ⟨v', w', hr, h2, h3, h4, fun u ys hu hag => ?_⟩
  by_cases hne : u.ownBlock = v.ownBlock
  · rcases hu.form with ⟨rfl, rfl⟩ | ⟨g, cap, cur, rfl, _, hg, hn, hcm, hcs, htk⟩
    · exact row_none _ _ _
    · have hvb : v.ownBlock = some g := hne.symm
      have hag2 := hag hne
      obtain ⟨cap', hv⟩ : ∃ cap', v = .slice (some ⟨g, 0, none⟩) xs.length cap' ∧ cap' = cap := by
        rcases hown.form with ⟨rfl, _⟩ | ⟨g', cap', cur', rfl, _, hg', _, _, hcs', _⟩
        · cases hvb
        · cases hvb
          rw [hg] at hg'
          cases hg'
          exact ⟨cap', rfl, by rw [← hcs', hcs]⟩
      obtain ⟨hv, rfl⟩ := hv
      have holds : ∀ j u, xs[j]? = some u → w.cell? ((⟨g, 0, none⟩ : Addr).add j) = some u := by
        obtain ⟨A, c, e1, _, hA⟩ := hown.src
        rw [hv] at e1
        cases e1
        intro j u hj
        obtain ⟨ad, e2, hc⟩ := hA (by rintro rfl; simp at hj)
        cases e2
        exact hc j u hj
      obtain ⟨A, c, rfl, hlc, hA⟩ := hx
      cases A with
      | none =>
        have hn0 : news = [] := by
          rcases List.eq_nil_or_concat news with h | ⟨l, b, h⟩
          · exact h
          · obtain ⟨ad, e, _⟩ := hA (by rw [h]; simp)
            cases e
        subst hn0
        subst hv
        have hxc : xs.length ≤ cap' := by
          rcases hown.form with ⟨h, _⟩ | ⟨g', c', cur', h, _, _, h', _⟩
          · cases h
          · cases h
            exact h'
        have hr2 : (Builtin.append_ #[t, t] ty #[.slice (some ⟨g, 0, none⟩) xs.length cap', .slice none 0 c]).run P w = .ok (.slice (some ⟨g, 0, none⟩) xs.length cap') w := by
          simp [Builtin.append_, run_underlying ht, sizeOf, typeInfo, hi, Builtin.lenOf, Builtin.firstCells, hxc, storeCells]
        rw [List.length_nil, hr2] at hr
        cases hr
        exact hu
      | some ad =>
        have hc : ∀ j u, news[j]? = some u → w.cell? (ad.add j) = some u := by
          intro j u hj
          obtain ⟨ad', e', h⟩ := hA (by rintro rfl; simp at hj)
          cases e'
          exact h j u hj
        subst hv
        by_cases hroom : xs.length + news.length ≤ cap'
        · have hr2 := run_append_room (P := P) w t ty e i ht hi g xs.length cap' cur hg ad news.length c news (by rw [hsize]; omega) hc h1 hroom (by rw [hsize, hcs]; omega)
          rw [hr2] at hr
          cases hr
          refine ⟨hu.1, .inr ⟨g, cap', _, rfl, Nat.zero_le _, setRow_heap w g cur _ e _ hg, hn, hcm, ?_, ?_⟩⟩
          · simp only [List.size_toArray, List.length_append, List.length_take, List.length_drop, Array.length_toList, hsize]
            omega
          · have hxt : cur.toList.take xs.length = xs := by
              rcases hown.form with ⟨h, _⟩ | ⟨g', c', cur', h, _, hg', _, _, _, h'⟩
              · cases h
              · cases h
                rw [hg] at hg'
                cases hg'
                exact h'
            simp only [hsize, Nat.mul_one, hxt]
            refine take_of_agree (ys := xs ++ news) ⟨_, rfl⟩ ⟨cur.toList, ?_, ?_, ?_⟩ hag2
            · rw [← htk]
              exact List.take_prefix _ _
            · simp only [List.length_append, List.length_drop, Array.length_toList]
              omega
            · intro j hj
              rw [List.length_append] at hj
              rw [List.getElem?_append_right (by rw [List.length_append]; exact hj), List.getElem?_drop, List.length_append]
              congr 1
              omega
        · have hr2 := run_append_grow (P := P) w t ty e i z ht hi hz ⟨g, 0, none⟩ xs.length cap' xs (by rw [hsize]; omega) holds ad news.length c news (by rw [hsize]; omega) hc (by omega) (by simp only [maxLen] at h63; omega) (growslice_fits (by omega) (by rw [hby]; exact hbytes))
          rw [hr2] at hr
          cases hr
          exact hu.cells fun g' cur' _ hg' => by
            have := (Array.getElem?_eq_some_iff.1 hg').1
            exact (Below.heap_alloc w.drew _ g' this).trans hg'
  · exact hu.cells fun g cur hv hg => (h3.block g (Array.getElem?_eq_some_iff.1 hg).1 (fun e => hne (by rw [hv, e]))).trans hg

/-- At the operation, in the plain walk. -/
theorem wp_app2 {w : World} {ops : Array Oper} {rest : List Oper} {o : Oper} {a : Act} {Q : Exit → Act → World → Prop} (hgd : o.guard = none) (s x : Operand) (t : TypeId)
    (ho : o.op = .call { callee := .builtin .append, args := #[s, x], argTypes := #[t, t] })
    (B : Nat) (e : TypeId) (i : TypeInfo) (z : Value) (bytes : Nat) (ht : P.underlying t = some (.slice e)) (hi : P.info? e = some i) (hz : i.zero = some z)
    (hsize : i.size = 1) (hby : i.bytes = bytes) (hzs : z.cells.size = 1) (xs news : List Value) (hown : Row B w e (a.eval s) xs) (hx : Src w (a.eval x) news) (h1 : ∀ u ∈ news, u.oneCell' = true)
    (h63 : xs.length + news.length ≤ maxLen) (hbytes : (xs.length + news.length) * bytes ≤ 140737488355328) (hB : B ≤ w.heap.size)
    (h : ∀ v' w', Row B w' e v' (xs ++ news) → w.grownBy w' (a.eval s).ownBlock → (v'.ownBlock = (a.eval s).ownBlock ∨ v'.ownBlock = some w.heap.size) →
      (∀ u ys, Row 0 w e u ys → (u.ownBlock = (a.eval s).ownBlock → Agree ys (xs ++ news)) → Row 0 w' e u ys) → wpList P ops Q rest (a.put o.dst v') w') :
    wpList P ops Q (o :: rest) a w := by
  refine wpList_plain hgd fun K hK => ?_
  obtain ⟨v', w', hr, h2, h3, h4, h5⟩ := run_app2 (P := P) w B t o.type e i z bytes ht hi hz hsize hby hzs _ _ xs news hown hx h1 h63 hbytes hB
  unfold Oper.wp execOp
  simp only [ho, resolve, invoke, builtin, Sem.run_bind, Sem.run_pure, Result.andThen_ok, List.map_toArray, List.map_cons, List.map_nil, hr]
  exact hK _ _ (h v' w' h2 h3 h4 h5)

/-- At a step of a region that draws its order. -/
theorem step_app {w : World} {ops : Array Oper} {o : Oper} {a : Act} {K : Act → World → Prop} {Q : Exit → Act → World → Prop} {E : Prop} (hgd : o.guard = none) (s x : Operand) (t : TypeId)
    (ho : o.op = .call { callee := .builtin .append, args := #[s, x], argTypes := #[t, t] })
    (B : Nat) (e : TypeId) (i : TypeInfo) (z : Value) (bytes : Nat) (ht : P.underlying t = some (.slice e)) (hi : P.info? e = some i) (hz : i.zero = some z)
    (hsize : i.size = 1) (hby : i.bytes = bytes) (hzs : z.cells.size = 1) (v u : Value) (hv : a.eval s = v) (hu : a.eval x = u) (xs news : List Value) (hown : Row B w e v xs) (hx : Src w u news) (h1 : ∀ u ∈ news, u.oneCell' = true)
    (h63 : xs.length + news.length ≤ maxLen) (hbytes : (xs.length + news.length) * bytes ≤ 140737488355328) (hB : B ≤ w.heap.size)
    (h : ∀ v' w', Row B w' e v' (xs ++ news) → w.grownBy w' v.ownBlock → (v'.ownBlock = v.ownBlock ∨ v'.ownBlock = some w.heap.size) →
      (∀ u ys, Row 0 w e u ys → (u.ownBlock = v.ownBlock → Agree ys (xs ++ news)) → Row 0 w' e u ys) → K (a.put o.dst v') w') :
    if Region.wanted o (yielded ops a.tmps) = true then Oper.wp P o a w K Q else E := by
  rw [if_pos (by simp [Region.wanted, hgd])]
  obtain ⟨v', w', hr, h2, h3, h4, h5⟩ := run_app2 (P := P) w B t o.type e i z bytes ht hi hz hsize hby hzs _ _ xs news hown hx h1 h63 hbytes hB
  unfold Oper.wp execOp
  simp only [ho, resolve, invoke, builtin, Sem.run_bind, Sem.run_pure, Result.andThen_ok, List.map_toArray, List.map_cons, List.map_nil, hv, hu, hr]
  exact h v' w' h2 h3 h4 h5

end

end Go.Proofs.Ytjeeiaelicekhaa
