/- Loan: what is lent, and whether it came back as it was. -/
import Derived.Test.YtjeeiaelicekhaaPl
import Derived.Deep.RegionHeld3
import Derived.Deep.RegionLaw
import Derived.Deep.DrawnRows

namespace Go.Proofs.Ytjeeiaelicekhaa
open Go.RowKit

def LoanP (w : World) (G : Nat → Prop) (nb : Nat) (Ls : List (List UInt8)) : Prop :=
  ∃ V W, w.heap[nb]? = some (.cells #[V, W] 47 (0, 0)) ∧ PL w G V W Ls ∧ G nb ∧ ∀ k, G k → k < w.heap.size

theorem LoanP.tn {w w' : World} {F G : Nat → Prop} {nb : Nat} {Ls : List (List UInt8)} (h : LoanP w G nb Ls) (t : Tn F w w') (hd : ∀ k, G k → ¬ F k) : LoanP w' G nb Ls := by
  obtain ⟨V, W, h1, h2, h3, h4⟩ := h
  exact ⟨V, W, t.block h1 (hd nb h3), h2.tn t hd, h3, fun k hk => Nat.lt_of_lt_of_le (h4 k hk) t.size⟩

theorem Row.src_form {B : Nat} {w : World} {e : TypeId} {v : Value} {xs : List Value} (h : Row B w e v xs) : ∃ A c, v = .slice A xs.length c ∧ xs.length ≤ c := by
  obtain ⟨A, c, h1, h2, _⟩ := h.src
  exact ⟨A, c, h1, h2⟩

theorem s_alloc {w : World} (o : Obj) {b i : Nat} {v : Value} (h : w.cell? ⟨b, i, none⟩ = some v ∧ w.frozen? ⟨b, i, none⟩ = false) : (w.alloc o).cell? ⟨b, i, none⟩ = some v ∧ (w.alloc o).frozen? ⟨b, i, none⟩ = false := by
  have hb := lt_of_cell h.1
  have e : (w.alloc o).heap[b]? = w.heap[b]? := Below.heap_alloc _ _ _ hb
  exact ⟨(World.cell?_of_block (a := ⟨b, i, none⟩) e).trans h.1, (World.frozen?_of_block (a := ⟨b, i, none⟩) e).trans h.2⟩

theorem s_below {w w' : World} {b i : Nat} {v : Value} (hb : Below w.heap.size w w') (h : w.cell? ⟨b, i, none⟩ = some v ∧ w.frozen? ⟨b, i, none⟩ = false) : w'.cell? ⟨b, i, none⟩ = some v ∧ w'.frozen? ⟨b, i, none⟩ = false := by
  have hl := lt_of_cell h.1
  have e : w'.heap[b]? = w.heap[b]? := hb.block _ hl
  exact ⟨(World.cell?_of_block (a := ⟨b, i, none⟩) e).trans h.1, (World.frozen?_of_block (a := ⟨b, i, none⟩) e).trans h.2⟩
theorem grown_drew {w w' : World} {r : Option Nat} (h : w.drew.grownBy w' r) : w.grownBy w' r := ⟨h.os, h.tape, h.output, h.size, h.block⟩

theorem two_cells {w : World} {r t : Nat} {x y : Value} (h : w.heap[r]? = some (.cells #[x, y] t (0, 0))) :
    w.cell? ⟨r, 0, none⟩ = some x ∧ w.cell? ⟨r, 1, none⟩ = some y ∧ w.frozen? ⟨r, 0, none⟩ = false ∧ w.frozen? ⟨r, 1, none⟩ = false := by
  simp [World.cell?, World.frozen?, h]

def marks : List UInt8 := [77, 78, 79, 80, 81]
theorem cel_marks : cel marks = [.int .u8 77, .int .u8 78, .int .u8 79, .int .u8 80, .int .u8 81] := rfl

theorem info31' : (Try.prog.info? 31).map (fun i => (i.zero, i.size, i.bytes)) = some (some (.slice none 0 0), 1, 24) := info31

/-- append at a step of a drawn region: bytes. -/
theorem step_bytes {w : World} {ops : Array Oper} {o : Oper} {a : Act} {K : Act → World → Prop} {Q : Exit → Act → World → Prop} {E : Prop} (hgd : o.guard = none) (s x : Operand)
    (ho : o.op = .call { callee := .builtin .append, args := #[s, x], argTypes := #[31, 31] }) (B : Nat) (l m : List UInt8) (v u : Value) (hv : a.eval s = v) (hu : a.eval x = u)
    (hown : Row B w 5 v (cel l)) (hx : Src w u (cel m)) (hb : l.length + m.length ≤ 140737488355328) (hB : B ≤ w.heap.size)
    (h : ∀ v' w', Row B w' 5 v' (cel (l ++ m)) → w.grownBy w' v.ownBlock → (v'.ownBlock = v.ownBlock ∨ v'.ownBlock = some w.heap.size) →
      (∀ u ys, Row 0 w 5 u ys → (u.ownBlock = v.ownBlock → Agree ys (cel (l ++ m))) → Row 0 w' 5 u ys) → K (a.put o.dst v') w') :
    if Region.wanted o (yielded ops a.tmps) = true then Oper.wp Try.prog o a w K Q else E := by
  obtain ⟨i, hi, hz, hs, hby⟩ := info_parts info5
  refine step_app hgd s x 31 ho B 5 i _ 1 Try.underlying31 hi hz hs hby rfl v u hv hu (cel l) (cel m) hown hx (cel_one m) (by simp only [cel_length, maxLen]; omega) (by simp only [cel_length]; omega) hB ?_
  intro v' w' h1 h2 h3 h4
  rw [← cel_append] at h1 h4
  exact h v' w' h1 h2 h3 h4
/-- Lists. -/
theorem step_lists {w : World} {ops : Array Oper} {o : Oper} {a : Act} {K : Act → World → Prop} {Q : Exit → Act → World → Prop} {E : Prop} (hgd : o.guard = none) (s x : Operand)
    (ho : o.op = .call { callee := .builtin .append, args := #[s, x], argTypes := #[22, 22] }) (B : Nat) (l m : List Value) (v u : Value) (hv : a.eval s = v) (hu : a.eval x = u)
    (hown : Row B w 31 v l) (hx : Src w u m) (h1 : ∀ u ∈ m, u.oneCell' = true) (hb : (l.length + m.length) * 24 ≤ 140737488355328) (hB : B ≤ w.heap.size)
    (h : ∀ v' w', Row B w' 31 v' (l ++ m) → w.grownBy w' v.ownBlock → (v'.ownBlock = v.ownBlock ∨ v'.ownBlock = some w.heap.size) → K (a.put o.dst v') w') :
    if Region.wanted o (yielded ops a.tmps) = true then Oper.wp Try.prog o a w K Q else E := by
  obtain ⟨i, hi, hz, hs, hby⟩ := info_parts info31
  exact step_app hgd s x 22 ho B 31 i _ 24 Try.underlying22 hi hz hs hby rfl v u hv hu l m hown hx h1 (by simp only [maxLen]; omega) hb hB fun v' w' h2 h3 h4 _ => h v' w' h2 h3 h4

/-- Between the two lists: the first has grown, the second has not. -/
structure Half (w w4 : World) (G : Nat → Prop) (V' W : Value) (vs ws : List Value) (v2 : Value) : Prop where
  row1 : Row 0 w4 31 V' (vs ++ [v2])
  row2 : Row 0 w4 31 W ws
  keep : Keep5 w w4
  blk : ∀ k, V'.ownBlock = some k → W.ownBlock ≠ some k ∧ (G k ∨ w.heap.size ≤ k)
  tn : Tn G w w4

theorem half_facts {w w2 w8 : World} {G : Nat → Prop} {nb : Nat} {V W V8 v2 : Value} {vs ws : List Value} (A : Value → Value → Array Value) (t : TypeId) (hA : ∀ x y v, (A x y).setIfInBounds 0 v = A v y) (ht : t ≠ 31) (ht5 : t ≠ 5) (hnb : w.heap[nb]? = some (.cells (A V W) t (0, 0))) (hV : Row 0 w 31 V vs) (hW : Row 0 w 31 W ws)
    (hd : ∀ k, V.ownBlock = some k → W.ownBlock ≠ some k) (gV : ∀ k, V.ownBlock = some k → G k) (gn : G nb) (hB : Below w.heap.size w w2)
    (hown : Row 0 w8 31 V8 (vs ++ [v2])) (hg : (w2.alloc (.cells #[v2] 31)).grownBy w8 V.ownBlock) (hat : V8.ownBlock = V.ownBlock ∨ V8.ownBlock = some (w2.alloc (.cells #[v2] 31)).heap.size) :
    w8.heap[nb]? = some (.cells (A V W) t (0, 0)) ∧ Half w (w8.setCell ⟨nb, 0, none⟩ V8) G V8 W vs ws v2 ∧ (w8.setCell ⟨nb, 0, none⟩ V8).heap[nb]? = some (.cells (A V8 W) t (0, 0)) ∧ Keep5 w2 (w8.setCell ⟨nb, 0, none⟩ V8) := by
  have hs := hB.size
  have hsz : (w2.alloc (.cells #[v2] 31)).heap.size = w2.heap.size + 1 := alloc_size _ _
  have hVb : ∀ k, V.ownBlock = some k → ∃ cs, w.heap[k]? = some (.cells cs 31 (0, 0)) := fun k hk => (hV.block hk).2
  have old : ∀ (k : Nat) (ob : Obj), w2.heap[k]? = some ob → V.ownBlock ≠ some k → w8.heap[k]? = some ob := fun k ob h1 h2 => by
    have h3 := (Array.getElem?_eq_some_iff.1 h1).1
    exact ((hg.block k (by rw [hsz]; omega) (fun e => h2 e.symm)).trans (Below.heap_alloc _ _ _ h3)).trans h1
  have up : ∀ (k : Nat) (ob : Obj), w.heap[k]? = some ob → w2.heap[k]? = some ob := fun k ob h => (hB.block k (Array.getElem?_eq_some_iff.1 h).1).trans h
  have ne : ∀ (k : Nat) (cs : Array Value) (t : TypeId), w2.heap[k]? = some (.cells cs t (0, 0)) → t ≠ 31 → V.ownBlock ≠ some k := fun k cs t h1 h2 e => by
    obtain ⟨cs', h3⟩ := hVb k e
    have := up k _ h3
    rw [h1] at this
    cases this
    exact h2 rfl
  have h8 : w8.heap[nb]? = some (.cells (A V W) t (0, 0)) := old nb _ (up nb _ hnb) (ne nb _ t (up nb _ hnb) ht)
  have off8 : ∀ k, k ≠ nb → (w8.setCell ⟨nb, 0, none⟩ V8).heap[k]? = w8.heap[k]? := fun k h => set_off _ h
  have n31 : ∀ k cs, w8.heap[k]? = some (.cells cs 31 (0, 0)) → k ≠ nb := fun k cs h e => by
    rw [e, h8] at h
    cases h
    exact ht rfl
  have k5 : Keep5 w2 (w8.setCell ⟨nb, 0, none⟩ V8) := fun k cs h => by
    have h1 := old k _ h (ne k cs 5 h (by decide))
    refine (off8 k fun e => ?_).trans h1
    rw [e, h8] at h1
    cases h1
    exact ht5 rfl
  refine ⟨h8, ⟨hown.cells fun g cur _ hc => (off8 g (n31 g _ hc)).trans hc, hW.cells fun g cur hv hc => ?_, (keep5_below hB).trans k5, fun k hk => ?_, ?_⟩, by rw [← hA V W V8]; exact set_at h8 V8, k5⟩
  · have h1 := old g _ (up g _ hc) (fun e => hd g e hv)
    exact (off8 g (n31 g _ h1)).trans h1
  · rcases hat with h | h
    · rw [h] at hk
      exact ⟨hd k hk, .inl (gV k hk)⟩
    · rw [h, hsz] at hk
      cases hk
      refine ⟨fun e => ?_, .inr (by omega)⟩
      have := hW.lt e
      omega
  · have t1 : Tn G w (w2.alloc (.cells #[v2] 31)) := (Tn.of_below hB).trans (Tn.alloc _ _)
    exact (t1.trans (Tn.grown hg gV)).trans (Tn.set _ gn)

theorem cel_cons (c : UInt8) (l : List UInt8) : cel (c :: l) = .int .u8 (c.toNat : Int) :: cel l := rfl

def Lent (w : World) (G : Nat → Prop) (nb : Nat) (Ls : List (List UInt8)) (l : List UInt8) (e : Ending) (w' : World) : Prop :=
  ∃ u G', e = .returned u ∧ Byt w' u l ∧ LoanP w' G' nb (Ls ++ [l ++ marks]) ∧ Tn G w w' ∧ Keep5 w w' ∧ ∀ k, G' k → G k ∨ w.heap.size ≤ k

theorem lend_close {w w4 w9 : World} {G : Nat → Prop} {ow : Nat → Nat} {nb : Nat} {V8 W W9 v2 v3 : Value} {vs ws : List Value} {Ls : List (List UInt8)} {l : List UInt8}
    (A : Value → Value → Array Value) (t : TypeId) (hA : ∀ x y v, (A x y).setIfInBounds 1 v = A x v) (ht : t ≠ 31) (ht5 : t ≠ 5)
    (e1 : Ents w ow (fun i => i + 1) vs Ls) (e2 : Ents w ow (fun _ => 0) ws Ls) (g1 : ∀ v ∈ vs, ∀ k, v.ownBlock = some k → G k) (g2 : ∀ v ∈ ws, ∀ k, v.ownBlock = some k → G k)
    (gW : ∀ k, W.ownBlock = some k → G k) (gl : ∀ k, G k → k < w.heap.size) (gn : G nb)
    (hh : Half w w4 G V8 W vs ws v2) (hn : w4.heap[nb]? = some (.cells (A V8 W) t (0, 0))) (r2 : Row 0 w4 5 v2 (cel l)) (nv : ∀ k, v2.ownBlock = some k → ¬ G k)
    {wa wb w5 : World} (ha : Below w4.heap.size w4 wa) (r3 : Row w4.heap.size wa 5 v3 (cel l)) (hb : wb = wa.alloc (.cells #[v3] 31))
    (hown : Row 0 w5 31 W9 (ws ++ [v3])) (hg : wb.grownBy w5 W.ownBlock) (hat : W9.ownBlock = W.ownBlock ∨ W9.ownBlock = some wb.heap.size) (h9 : w9 = w5.setCell ⟨nb, 1, none⟩ W9) :
    w5.heap[nb]? = some (.cells (A V8 W) t (0, 0)) ∧ Row 0 w9 5 v2 (cel l) ∧ PL w9 (fun k => G k ∨ v2.ownBlock = some k ∨ (w.heap.size ≤ k ∧ k < w9.heap.size)) V8 W9 (Ls ++ [l]) ∧ w9.heap[nb]? = some (.cells (A V8 W9) t (0, 0)) ∧
      (∀ k, G k ∨ v2.ownBlock = some k ∨ (w.heap.size ≤ k ∧ k < w9.heap.size) → k < w9.heap.size) ∧ Tn G w w9 ∧ Keep5 w4 w9 := by
  subst hb h9
  have hs4 := hh.tn.size
  have hsa := ha.size
  have hsz : (wa.alloc (.cells #[v3] 31)).heap.size = wa.heap.size + 1 := alloc_size _ _
  have hs5 := hg.size
  have up : ∀ (k : Nat) (ob : Obj), w4.heap[k]? = some ob → wa.heap[k]? = some ob := fun k ob h => (ha.block k (Array.getElem?_eq_some_iff.1 h).1).trans h
  have old : ∀ (k : Nat) (ob : Obj), wa.heap[k]? = some ob → W.ownBlock ≠ some k → w5.heap[k]? = some ob := fun k ob h1 h2 => by
    have h3 := (Array.getElem?_eq_some_iff.1 h1).1
    exact ((hg.block k (by rw [hsz]; omega) (fun e => h2 e.symm)).trans (Below.heap_alloc _ _ _ h3)).trans h1
  have ne : ∀ (k : Nat) (cs : Array Value) (t : TypeId), wa.heap[k]? = some (.cells cs t (0, 0)) → t ≠ 31 → W.ownBlock ≠ some k := fun k cs t h1 h2 e => by
    obtain ⟨cs', h3⟩ := (hh.row2.block e).2
    have := up k _ h3
    rw [h1] at this
    cases this
    exact h2 rfl
  have h5 : w5.heap[nb]? = some (.cells (A V8 W) t (0, 0)) := old nb _ (up nb _ hn) (ne nb _ t (up nb _ hn) ht)
  have n31 : ∀ k cs t', w5.heap[k]? = some (.cells cs t' (0, 0)) → t' ≠ t → k ≠ nb := fun k cs t' h ht' e => by
    rw [e, h5] at h
    cases h
    exact ht' rfl
  have k5a : Keep5 wa (w5.setCell ⟨nb, 1, none⟩ W9) := fun k cs h => by
    have h1 := old k _ h (ne k cs 5 h (by decide))
    exact (set_off _ (n31 k _ 5 h1 (Ne.symm ht5))).trans h1
  have k5 : Keep5 w4 (w5.setCell ⟨nb, 1, none⟩ W9) := (keep5_below ha).trans k5a
  have hs9 : (w5.setCell ⟨nb, 1, none⟩ W9).heap.size = w5.heap.size := set_size _
  have R2 : Row 0 (w5.setCell ⟨nb, 1, none⟩ W9) 5 v2 (cel l) := r2.cells fun g cur _ hc => k5 g cur hc
  have R3 : Row w4.heap.size (w5.setCell ⟨nb, 1, none⟩ W9) 5 v3 (cel l) := r3.cells fun g cur _ hc => k5a g cur hc
  have tn : Tn G w (w5.setCell ⟨nb, 1, none⟩ W9) := (((hh.tn.below ha).trans (Tn.alloc _ _)).trans (Tn.grown hg gW)).trans (Tn.set _ gn)
  refine ⟨h5, R2, ?_, by rw [← hA V8 W W9]; exact set_at h5 W9, fun k hk => ?_, tn, k5⟩
  · refine PL.push e1 e2 g1 g2 (hh.keep.trans k5) (hh.row1.cells fun g cur hv hc => ?_) (hown.cells fun g cur _ hc => (set_off _ (n31 g _ 31 hc (Ne.symm ht))).trans hc) R2 R3.zero (fun k e => ?_) (fun k e => ?_) (fun k h => .inl h) (fun k e => ?_) (fun k e => ?_) (fun k e => ?_)
    · have h1 := old g _ (up g _ hc) (hh.blk g hv).1
      exact (set_off _ (n31 g _ 31 h1 (Ne.symm ht))).trans h1
    · refine ⟨nv k e, fun e' => ?_, .inr (.inl e)⟩
      have := (r3.block e').1
      have := r2.lt e
      omega
    · have h1 := (R3.block e).1
      exact ⟨fun h => by have := gl k h; omega, .inr (.inr ⟨by omega, R3.lt e⟩)⟩
    · intro e'
      rcases hat with h | h
      · rw [h] at e'
        exact (hh.blk k e).1 e'
      · rw [h, hsz] at e'
        cases e'
        have := hh.row1.lt e
        omega
    · rcases (hh.blk k e).2 with h | h
      · exact .inl h
      · refine .inr (.inr ⟨h, ?_⟩)
        have := hh.row1.lt e
        omega
    · rcases hat with h | h
      · rw [h] at e
        exact .inl (gW k e)
      · have h1 := hown.lt e
        rw [h, hsz] at e
        cases e
        exact .inr (.inr ⟨by omega, by omega⟩)
  · rcases hk with hk | hk | hk
    · exact Nat.lt_of_lt_of_le (gl k hk) tn.size
    · exact R2.lt hk
    · exact hk.2

def L2 (x y : Value) : Array Value := #[x, y]
theorem L2_set0 (x y v : Value) : (L2 x y).setIfInBounds 0 v = L2 v y := rfl
theorem L2_set1 (x y v : Value) : (L2 x y).setIfInBounds 1 v = L2 x v := rfl

set_option maxRecDepth 100000 in
set_option maxHeartbeats 2000000 in
theorem lend_any (w : World) (G : Nat → Prop) (nb : Nat) (Ls : List (List UInt8)) (v : Value) (l : List UInt8) (h : LoanP w G nb Ls) (hv : Src w v (cel l)) (hl : l.length ≤ 1000000) (hn : Ls.length ≤ 1000000) :
    Calls Try.prog 19 #[.pointer (some ⟨nb, 0, none⟩), v] w (Lent w G nb Ls l) := by
  obtain ⟨V, W, hnb, ⟨vs, ws, ow, hV, hW, e1, e2, hd, gV, gW, g1, g2⟩, gn, gl⟩ := h
  obtain ⟨A, c, rfl, hc, hA⟩ := id hv
  clear hA
  rw [cel_length] at hv hc ⊢
  have h0 := hv.below (alloc_below w (.cells #[] 5))
  have hvl : vs.length = Ls.length := e1.1
  have hwl : ws.length = Ls.length := e2.1
  have HVL := Lib.hid hvl
  have HWL := Lib.hid hwl
  have hv6 : vs.length ≤ 1000000 := by omega
  have hw6 : ws.length ≤ 1000000 := by omega
  clear hvl hwl
  have HE1 := Lib.hid e1
  have HE2 := Lib.hid e2
  have HG1 := Lib.hid g1
  have HG2 := Lib.hid g2
  have HGV := Lib.hid gV
  have HGW := Lib.hid gW
  have HGL := Lib.hid gl
  have HD := Lib.hid hd
  have HV := Lib.hid hV
  have HW := Lib.hid hW
  have HN := Lib.hid hnb
  clear e1 e2 g1 g2 gV gW gl hd hV hW hnb
  have hnl := (Array.getElem?_eq_some_iff.1 HN.out).1
  go_enter Try.func19, Try.ntmps19
  go_wp2_with (at_builtin; first
    | (refine app_bytes rfl (.tmp 6) (.tmp 7) rfl w.heap.size [] l (row_empty 5 (Nat.le_refl _)) h0 (by simp; omega) (by simp) ?_
       intro v1 w1 hown1 hg1 hat1
       have hB1 : Below w.heap.size w w1 := (alloc_below _ _).grown hg1 (by simp) (fun k e => by cases e; exact Nat.le_refl _)
       rw [List.nil_append] at hown1
       clear hg1 hat1)
    | (refine app_bytes rfl (.tmp 8) (.tmp 9) rfl w.heap.size l marks (hown1.below (alloc_below _ _)) (by rw [cel_marks]; exact src_cells _ 5 _ 5 (Nat.le_refl _) (heap_alloc_new _ _)) (by simp [marks]; omega) (by rw [alloc_size]; have := hB1.size; omega) ?_
       intro v2 w2 hown2 hg2 hat2
       have hB2 : Below w.heap.size w w2 := (hB1.alloc hB1.size _).grown hg2 (by rw [alloc_size]; have := hB1.size; omega) hown1.own_ge
       have hN2 := (hB2.block nb hnl).trans HN.out
       obtain ⟨p0, p1, q0, q1⟩ := two_cells hN2
       have HB2 := Lib.hid hB2
       obtain ⟨A2, c2, e2, hc2⟩ := hown2.src_form
       rw [cel_length, List.length_append, show marks.length = 5 from rfl] at e2 hc2
       subst e2
       have HO2 := Lib.hid hown2
       clear hg2 hat2 hown1 hB1 hown2 hB2 hN2)
    | (refine app_lists rfl (.tmp 15) (.tmp 17) rfl 0 vs [_] ((HV.out.below HB2.out).below (alloc_below _ _)) (src_cells _ 31 _ 1 (Nat.le_refl _) (heap_alloc_new _ _)) (by intro u hu; rw [List.mem_singleton.1 hu]; rfl) (by simp; omega) (Nat.zero_le _) ?_
       intro v8 w8 hown8 hg8 hat8
       obtain ⟨x1, x2, x3, x4⟩ := half_facts L2 47 L2_set0 (by decide) (by decide) HN.out HV.out HW.out HD.out HGV.out gn HB2.out hown8 hg8 hat8
       obtain ⟨n0, n1, m0, m1⟩ := two_cells x1
       obtain ⟨A8, c8, e8⟩ := hown8.slice
       rw [List.length_append, List.length_singleton] at e8
       subst e8
       have X2 := Lib.hid x2
       have X3 := Lib.hid x3
       have X4 := Lib.hid x4
       clear hown8 hg8 hat8 x1 x2 x3 x4 p0 p1 q0 q1))
  obtain ⟨W4, hW4⟩ : ∃ W4, w8.setCell ⟨nb, 0, none⟩ (.slice A8 (vs.length + 1) c8) = W4 := ⟨_, rfl⟩
  rw [hW4] at X2 X3 X4 ⊢
  obtain ⟨n0, n1, m0, m1⟩ := two_cells X3.out
  clear hW4 HN n0 m0
  have hE : Row W4.heap.size (W4.alloc (.cells #[] 5)) 5 (.slice (some ⟨W4.heap.size, 0, none⟩) 0 0) (cel []) := row_empty 5 (Nat.le_refl _)
  have hR4 : Row w.heap.size W4 5 (.slice A2 (l.length + 5) c2) (cel (l ++ marks)) := HO2.out.cells fun g cur _ hc => X4.out g cur hc
  have hS4 : Src (W4.alloc (.cells #[] 5)) (.slice A2 (l.length + 5) c2) (cel (l ++ marks)) := hR4.src.below (alloc_below _ _)
  have HE := Lib.hid hE
  have HS := Lib.hid hS4
  have HR4 := Lib.hid hR4
  clear hE hS4 hR4
  obtain ⟨n2, m2⟩ := s_alloc (.cells #[] 5) ⟨n1, m1⟩
  go_region_law
    (first
    | (refine step_bytes (by rfl) (.tmp 26) (.tmp 27) (by rfl) W4.heap.size [] (l ++ marks) _ _ (by rfl) (by rfl) HE.out HS.out (by simp [marks]; omega) (by show W4.heap.size ≤ (W4.alloc _).heap.size; rw [alloc_size]; omega) ?_
       intro v9 w9 hown9 hg9 hat9 hk9
       have hB9 : Below W4.heap.size W4 w9 := (alloc_below W4 (.cells #[] 5)).grown (grown_drew hg9) (by rw [alloc_size]; omega) (fun k e => by cases e; exact Nat.le_refl _)
       obtain ⟨s9, t9⟩ := s_below hB9 ⟨n1, m1⟩
       rw [List.nil_append] at hown9
       obtain ⟨A9, c9, e9⟩ := hown9.slice
       rw [cel_length, List.length_append, show marks.length = 5 from rfl] at e9
       subst e9
       obtain ⟨u9, x9⟩ := s_alloc (.cells #[.slice A9 (l.length + 5) c9] 31) ⟨s9, t9⟩
       have HO9 := Lib.hid hown9
       have HB9 := Lib.hid hB9
       clear hown9 hg9 hat9 hk9 hB9)
    | (refine step_lists (by rfl) (.tmp 25) (.tmp 29) (by rfl) 0 ws [_] _ _ (by rfl) (by rfl) ((X2.out.row2.below HB9.out).below (alloc_below _ _)) (src_cells _ 31 _ 1 (Nat.le_refl _) (heap_alloc_new _ _)) (by intro u hu; rw [List.mem_singleton.1 hu]; rfl) (by simp; omega) (Nat.zero_le _) ?_
       intro v10 w10 hown10 hg10 hat10
       have LC := lend_close L2 47 L2_set1 (by decide) (by decide) HE1.out HE2.out HG1.out HG2.out HGW.out HGL.out gn X2.out X3.out HR4.out.zero (fun k e q => by have := (HR4.out.block e).1; have := HGL.out k q; omega) HB9.out HO9.out rfl hown10 hg10 hat10 rfl
       have hS10 := (two_cells LC.1).2
       have s10 := hS10.1
       have t10 := hS10.2.2
       obtain ⟨A10, c10, e10⟩ := hown10.slice
       rw [List.length_append, List.length_singleton] at e10
       subst e10
       have LC := Lib.hid LC.2
       clear hown10 hg10 hat10 hS10))
  all_goals
    obtain ⟨y1, y2, y3, y4, y5, y6⟩ := LC.out
    have hy : l.length ≤ c2 := by omega
    have hk5 := X2.out.keep.trans y6
    go_wp2_with fail
    go_ret
    refine ⟨.slice A2 l.length c2, _, rfl, ?_, ⟨_, _, y3, y2, .inl gn, y4⟩, y5, hk5, fun k hk => ?_⟩
    · obtain ⟨A', c', e, h1, h0, h2⟩ := y1.byt
      simp only [Value.slice.injEq] at e
      obtain ⟨rfl, _, rfl⟩ := e
      refine ⟨A2, c2, rfl, hy, h0, fun hn => ?_⟩
      obtain ⟨b, off, cs, rfl, h3, h4⟩ := h2 (by intro e; exact hn (List.append_eq_nil_iff.1 e).1)
      refine ⟨b, off, cs, rfl, h3, fun j u hj => h4 j u ?_⟩
      rw [cel_append, List.getElem?_append_left (List.getElem?_eq_some_iff.1 hj).1]
      exact hj
    · rcases hk with hk | hk | hk
      · exact .inl hk
      · exact .inr (HR4.out.block hk).1
      · exact .inr hk.1

end Go.Proofs.Ytjeeiaelicekhaa
