/- Reader.Feed. -/
import Derived.Test.YtjeeiaelicekhaaWhole
namespace Go.Proofs.Ytjeeiaelicekhaa
open Go.RowKit

attribute [local go_sem] Oper.semAt_some

/-- A list of payloads: the row, and what its elements read as. -/
def Lst (B : Nat) (w : World) (u : Value) (xs : List (Value × List UInt8)) : Prop := Row B w 31 u (xs.map (·.1)) ∧ ∀ x ∈ xs, Byt w x.1 x.2

theorem Row.slice {B : Nat} {w : World} {e : TypeId} {v : Value} {xs : List Value} (h : Row B w e v xs) : ∃ A c, v = .slice A xs.length c := by
  rcases h.form with ⟨rfl, rfl⟩ | ⟨g, cap, cur, rfl, _⟩
  · exact ⟨none, 0, rfl⟩
  · exact ⟨_, _, rfl⟩

theorem book_cells {B : Nat} {A A' : World} (h : Book B A A') {k : Nat} {cs : Array Value} {t : TypeId} {f : Nat × Nat} (hk : A.heap[k]? = some (.cells cs t f)) : A'.heap[k]? = some (.cells cs t f) := by
  rcases h with ⟨o, rfl⟩ | ⟨l, o, o', _, hl, ho, rfl⟩
  · exact (Below.heap_alloc _ _ _ (Array.getElem?_eq_some_iff.1 hk).1).trans hk
  · refine (World.putObj_heap_other ?_).trans hk
    rintro rfl
    rw [hl] at hk
    cases hk
    cases ho
theorem book_keep5 {B : Nat} {A A' : World} (h : Book B A A') : Keep5 A A' := fun _ _ hk => book_cells h hk
theorem book_size {B : Nat} {A A' : World} (h : Book B A A') : A.heap.size ≤ A'.heap.size := by
  rcases h with ⟨o, rfl⟩ | ⟨l, o, o', _, hl, ho, rfl⟩
  · simp
  · simp
theorem book_grown {B r : Nat} {w A A' : World} (h : Book B A A') (hB : w.heap.size ≤ B) (hg : w.grownBy A (some r)) : w.grownBy A' (some r) := by
  rcases h with ⟨o, rfl⟩ | ⟨l, o, o', hl, _, _, rfl⟩
  · exact grown_trans hg (grown_below (alloc_below _ _))
  · exact ⟨hg.os, hg.tape, hg.output, by rw [World.putObj_size]; exact hg.size, fun k hk hn => (World.putObj_heap_other (by omega)).trans (hg.block k hk hn)⟩
theorem Row.cells {B : Nat} {w w' : World} {e : TypeId} {v : Value} {xs : List Value} (h : Row B w e v xs) (hk : ∀ g cur, v.ownBlock = some g → w.heap[g]? = some (.cells cur e (0, 0)) → w'.heap[g]? = some (.cells cur e (0, 0))) : Row B w' e v xs := by
  rcases h.2 with h2 | ⟨g, cap, cur, h1, h2, h3, h4⟩
  · exact ⟨h.1, .inl h2⟩
  · exact ⟨h.1, .inr ⟨g, cap, cur, h1, h2, hk g cur (by rw [h1]; rfl) h3, h4⟩⟩
theorem Rdr.book {B r m : Nat} {L : List UInt8} {br : Bool} {A A' : World} (h : Rdr A r m L br) (hb : Book B A A') : Rdr A' r m L br := by
  obtain ⟨v, hr, hv⟩ := h
  exact ⟨v, book_cells hb hr, hv.keep (book_keep5 hb)⟩
theorem Row.block {B : Nat} {w : World} {e : TypeId} {v : Value} {xs : List Value} (h : Row B w e v xs) {k : Nat} (hk : v.ownBlock = some k) : B ≤ k ∧ ∃ cs, w.heap[k]? = some (.cells cs e (0, 0)) := by
  rcases h.form with ⟨rfl, _⟩ | ⟨g, cap, cur, rfl, hB, hg, _⟩
  · cases hk
  · cases hk
    exact ⟨hB, _, hg⟩

/-- Between two rounds. -/
def Mid (w : World) (r bx B1 : Nat) (pre : List (Value × List UInt8)) (W : World) : Prop :=
  (∃ v, Boxed W bx 22 v ∧ Row w.heap.size W 31 v (pre.map (·.1))) ∧ (∀ x ∈ pre, Byt W x.1 x.2) ∧ w.grownBy W (some r) ∧ Is56 W r ∧ B1 ≤ W.heap.size

theorem Mid.book {w : World} {r bx B1 B : Nat} {pre : List (Value × List UInt8)} {A A' : World} (h : Mid w r bx B1 pre A) (hb : Book B A A') (hB : w.heap.size ≤ B) : Mid w r bx B1 pre A' := by
  obtain ⟨⟨v, h1, h2⟩, h3, h4, ⟨cs, h5⟩, h6⟩ := h
  exact ⟨⟨v, book_cells hb h1, h2.cells fun g cur _ hg => book_cells hb hg⟩, fun x hx => (h3 x hx).keep (book_keep5 hb), book_grown hb hB h4, ⟨cs, book_cells hb h5⟩, Nat.le_trans h6 (book_size hb)⟩
theorem Mid.turn {w : World} {r bx B1 : Nat} {pre : List (Value × List UInt8)} {A A' : World} (h : Mid w r bx B1 pre A) (ht : Turn r A A') (hr : r < w.heap.size) (hbx : w.heap.size ≤ bx) : Mid w r bx B1 pre A' := by
  obtain ⟨⟨v, h1, h2⟩, h3, h4, h5, h6⟩ := h
  obtain ⟨t1, t2, t3⟩ := ht
  refine ⟨⟨v, h1.kept t1 (by simp; omega), h2.cells fun g cur hv hg => ?_⟩, fun x hx => (h3 x hx).keep (keep5_grown t1 t2.not5), grown_trans h4 t1, t3, Nat.le_trans h6 t1.size⟩
  refine (t1.block g (Array.getElem?_eq_some_iff.1 hg).1 ?_).trans hg
  have := (h2.block hv).1
  simp
  omega

theorem mid_step {w W w5 : World} {r bx B1 : Nat} {pre : List (Value × List UInt8)} {x : Value × List UInt8} {v V6 : Value} {o : Obj} {a : Act} (hr : r < w.heap.size) (hwb : w.heap.size ≤ bx)
    (hb : Boxed W bx 22 v) (hrow : Row w.heap.size W 31 v (pre.map (·.1))) (hby : ∀ y ∈ pre, Byt W y.1 y.2) (hgr : w.grownBy W (some r)) (h56 : Is56 W r) (hsz : B1 ≤ W.heap.size) (hgx : Byt W x.1 x.2)
    (hg : (W.alloc o).grownBy w5 v.ownBlock) (hb5 : Boxed w5 bx 22 v) (hown : Row w.heap.size w5 31 V6 (pre.map (·.1) ++ [x.1])) :
    bodyPostT (Kp r) (Mid w r bx B1) (pre ++ [x]) W .normal a (w5.setCell ⟨bx, 0, none⟩ V6) := by
  have hsame : ∀ k, k < W.heap.size → k ≠ bx → v.ownBlock ≠ some k → (w5.setCell ⟨bx, 0, none⟩ V6).heap[k]? = W.heap[k]? := fun k h1 h2 h3 =>
    ((set_grown w5 bx 0 V6).block k (Nat.lt_of_lt_of_le (Nat.lt_of_lt_of_le h1 (by simp)) hg.size) (by simpa using h2)).trans
      ((hg.block k (by rw [alloc_size]; omega) (fun e => h3 e.symm)).trans (Below.heap_alloc _ _ _ h1))
  have hK5 : Keep5 W (w5.setCell ⟨bx, 0, none⟩ V6) := fun k cs hk => by
    refine (hsame k (Array.getElem?_eq_some_iff.1 hk).1 ?_ ?_).trans hk
    · rintro rfl
      have e := (show W.heap[k]? = _ from hb).symm.trans hk
      cases e
    · intro e
      obtain ⟨_, cs', h'⟩ := hrow.block e
      rw [hk] at h'
      cases h'
  have hrown : v.ownBlock ≠ some r := fun e => by
    have := (hrow.block e).1
    omega
  have hr' : (w5.setCell ⟨bx, 0, none⟩ V6).heap[r]? = W.heap[r]? := hsame r (Nat.lt_of_lt_of_le hr hgr.size) (by omega) hrown
  have hs : W.heap.size ≤ (w5.setCell ⟨bx, 0, none⟩ V6).heap.size := Nat.le_trans (by simp) (Nat.le_trans hg.size (set_grown w5 bx 0 V6).size)
  have hown6 : Row w.heap.size (w5.setCell ⟨bx, 0, none⟩ V6) 31 V6 (pre.map (·.1) ++ [x.1]) := by
    refine hown.cells fun g cur hv hgc => ?_
    refine ((set_grown w5 bx 0 V6).block g (Array.getElem?_eq_some_iff.1 hgc).1 ?_).trans hgc
    intro e
    have e' : g = bx := by simpa using e
    rw [e'] at hgc
    have e := (show w5.heap[bx]? = _ from hb5).symm.trans hgc
    cases e
  refine ⟨(KeepsOthers.alloc W o).trans ((KeepsOthers.of_grownBy hg fun j ob hj ho => ?_).trans (KeepsOthers.setCell _ _ _)), ⟨hr', hK5, hs⟩,
    ⟨V6, Boxed.set V6 hb5, by rw [List.map_append]; exact hown6⟩, fun y hy => ?_, ⟨?_, ?_, ?_, Nat.le_trans hgr.size hs, fun k h1 h2 => ?_⟩, ?_, Nat.le_trans hsz hs⟩
  · obtain ⟨_, cs, hc⟩ := hrow.block hj
    rw [Below.heap_alloc _ _ _ (Array.getElem?_eq_some_iff.1 hc).1, hc] at ho
    cases ho
    rfl
  · rcases List.mem_append.1 hy with hy | hy
    · exact (hby y hy).keep hK5
    · rw [List.mem_singleton.1 hy]
      exact hgx.keep hK5
  · exact ((set_grown w5 bx 0 V6).os.trans hg.os).trans hgr.os
  · exact ((set_grown w5 bx 0 V6).tape.trans hg.tape).trans hgr.tape
  · exact ((set_grown w5 bx 0 V6).output.trans hg.output).trans hgr.output
  · refine (hsame k (Nat.lt_of_lt_of_le h1 hgr.size) (by omega) ?_).trans (hgr.block k h1 h2)
    intro e
    have := (hrow.block e).1
    omega
  · obtain ⟨cs, h⟩ := h56
    exact ⟨cs, hr'.trans h⟩

def Err (br : Bool) : Int := if br then 5 else 0

theorem feed_broken (w : World) (r m : Nat) (L : List UInt8) (v : Value) (h : Rdr w r m L true) :
    Calls Try.prog 11 #[.pointer (some ⟨r, 0, none⟩), v] w fun e w' => e = .returned (.tuple #[.slice none 0 0, .int .i64 5]) ∧ w' = w := by
  obtain ⟨v, hr, A, c, rfl, hc, hm, hA⟩ := h
  clear hA
  obtain ⟨_, _, q1, _⟩ := three hr
  go_enter Try.func11, Try.ntmps11
  go_wp2_with fail
  go_ret2
  exact ⟨rfl, rfl⟩

set_option maxRecDepth 100000 in
set_option maxHeartbeats 2000000 in
theorem feed_ok (w : World) (r m : Nat) (L b : List UInt8) (v : Value) (h : Rdr w r m L false) (hv : Src w v (cel b)) (hL : L.length ≤ 1000000000) (hb : b.length ≤ 1000000000) (hrw : r < w.heap.size) :
    Calls Try.prog 11 #[.pointer (some ⟨r, 0, none⟩), v] w fun e w' => ∃ u xs, e = .returned (.tuple #[u, .int .i64 (Err (parse m (L ++ b)).2.2)]) ∧ Lst w.heap.size w' u xs ∧ S r m (L ++ b) xs w' ∧ w.grownBy w' (some r) := by
  obtain ⟨V, hr, hV⟩ := id h
  obtain ⟨A, c, rfl, hc, hcm, hA⟩ := id hV
  obtain ⟨A', c', rfl, hc', hA'⟩ := id hv
  clear hA hA'
  simp only [cel_length] at hv hc'
  obtain ⟨q0, q1, q2, f0, f1, f2⟩ := three hr
  rw [cel_length]
  refine (callsIn_wide (n := 5)).1 ?_
  refine callsIn_of_wp_marks Try.func11 rfl trivial ?_ rfl
  simp only [Try.ntmps11, List.size_toArray, List.length_cons, List.length_nil, Nat.reduceAdd, Nat.reduceSub, Array.replicate_succ, Array.replicate_zero, List.push_toArray, List.append_toArray, List.nil_append, List.cons_append]
  gi_wp2_with (gi_at_builtin; first
    | (refine app_bytes_in rfl (.const (.slice none 0 0)) (.tmp 16) rfl w.heap.size [] L (row_none _ _ _) hV.src (by simp; omega) (Nat.le_refl _) ?_
       intro v1 w1 hown1 hg1 hat1
       have hB1 : Below w.heap.size w w1 := (Below.refl w.heap.size w).grown hg1 (Nat.le_refl _) (fun k e => by simp [Act.eval, Value.ownBlock] at e))
    | (refine app_bytes_in rfl (.tmp 17) (.tmp 18) rfl w.heap.size L b hown1 (hv.below hB1) (by omega) hB1.size ?_
       intro v2 w2 hown2 hg2 hat2
       have hB2 : Below w.heap.size w w2 := hB1.grown hg2 hB1.size hown1.own_ge
       have hr2 := (hB2.block r hrw).trans hr
       clear hg1 hat1 hg2 hat2
       obtain ⟨p0, p1, p2, g0, g1, g2⟩ := three hr2
       obtain ⟨A2, c2, rfl⟩ := hown2.slice))
  rw [cel_length] at hown2 ⊢
  have hMl : (L ++ b).length ≤ 2000000000 := by rw [List.length_append]; omega
  generalize hLb : L ++ b = M at *
  have hbt : Byt w2 (.slice A2 M.length c2) M := hown2.byt
  have hw12 : w.heap.size ≤ w2.heap.size := hB2.size
  obtain ⟨W1, hW1⟩ : ∃ W1, w2.setCell ⟨r, 1, none⟩ (.slice A2 M.length c2) = W1 := ⟨_, rfl⟩
  have s2 := (set_heap hr2 (.slice A2 M.length c2)).1
  rw [hW1] at s2 ⊢
  have hs1 : W1.heap.size = w2.heap.size := by rw [← hW1]; simp [World.setCell]
  have hk1 : Keep5 w2 W1 := by rw [← hW1]; exact keep5_grown (set_grown _ _ _ _) (Is56.not5 ⟨_, hr2⟩)
  have hg1 : w.grownBy W1 (some r) := by rw [← hW1]; exact grown_trans (grown_below hB2) (set_grown _ _ _ _)
  have hR1 : Rdr W1 r m M false := ⟨_, s2, hbt.keep hk1⟩
  rw [← hs1] at hw12 ⊢
  obtain ⟨W2, hW2⟩ : ∃ W2, W1.alloc (.cells #[.slice none 0 0] 22) = W2 := ⟨_, rfl⟩
  have hs2 : W2.heap.size = W1.heap.size + 1 := by rw [← hW2]; simp
  have bk : Book 0 W1 W2 := .inl ⟨_, hW2.symm⟩
  have hR2 := hR1.book bk
  have hM : Mid w r W1.heap.size W2.heap.size [] W2 :=
    ⟨⟨_, by rw [← hW2]; exact Boxed.new _ _ _, row_none _ _ _⟩, by simp, by rw [← hW2]; exact grown_trans hg1 (grown_below (alloc_below _ _)), hR2.is56, Nat.le_refl _⟩
  rw [hW2]
  have HLb := Lib.hid hLb
  clear hLb hs1 hW1 s2 hk1 hg1 hR1 bk hbt hown2 hB2 hr2 p0 p1 p2 g0 g1 g2 hown1 hB1 hr h q0 q1 q2 f0 f1 f2 hv hV hW2
  refine wpIn_rangeFunc_T (T := Turn r) (G := G) (S := S r m M) (Kp := Kp r) (W0 := fun W => Rdr W r m M false) (N := M.length + 1) (gf := 23) (rc := .pointer (some ⟨r, 0, none⟩)) rfl (by omega) rfl trivial
    (enters_of Try.func23 (by kernel_rfl) rfl) (whole_seq 4 r m M) (fun h k => ⟨k.1.trans h.1, h.2.1.trans k.2.1, Nat.le_trans h.2.2 k.2.2⟩)
    (fun {A l o o'} hl h ho => ⟨World.putObj_heap_other (by omega), book_keep5 (B := 0) (.inr ⟨l, o, o', Nat.zero_le _, h, ho, rfl⟩), by simp⟩)
    (fun {A B} h k o hk ho => ?_) (fun h k => h.keep (book_keep5 k)) (fun h k => ⟨h.1, h.2.book k⟩) (fun h k => h.book k) hR2 (fun _ => rfl)
    (Mid w r W1.heap.size W2.heap.size) (fun h k => h.book k (by omega)) (fun h k => h.turn k hrw hw12) hM
    (fun x => { tmps := #[.pointer (some ⟨r, 0, none⟩), .slice A' b.length c', undef, undef, .slice none 0 0, .int .i64 0, .pointer (some ⟨W1.heap.size, 0, none⟩), x.1, .pointer (some ⟨r, 0, none⟩), .pointer (some ⟨r, 0, none⟩), .pointer (some ⟨r, 2, none⟩), .bool false, .pointer (some ⟨r, 0, none⟩), .pointer (some ⟨r, 0, none⟩), .pointer (some ⟨r, 0, none⟩), .pointer (some ⟨r, 1, none⟩), .slice A L.length c, v1, .slice A' b.length c', .slice A2 M.length c2, .pointer (some ⟨r, 0, none⟩), .pointer (some ⟨r, 1, none⟩), .pointer (some ⟨r, 0, none⟩), .func (.func 23) #[.pointer (some ⟨r, 0, none⟩)] #[], x.1, undef, undef, undef, undef, undef, undef, undef, undef, undef, undef], defers := [] }) ?assign ?body ?done
  case assign =>
    intro l x W K hK
    gi_wp2
    exact hK
  case body =>
    rintro l pre x W ⟨⟨v, hbx, hrow⟩, hby, hgr, h56, hsz⟩ hgx hlen
    have q1 := hbx.frozen
    have q0 := hbx.cell
    obtain ⟨A3, c3, rfl⟩ := hrow.slice
    simp only [List.length_map] at hrow hbx q0
    clear q1
    have q1 := hbx.frozen
    obtain ⟨xv, xb⟩ := x
    obtain ⟨A4, c4, rfl, _⟩ := id (show Byt W xv xb from hgx)
    dsimp only
    have hrA : Row w.heap.size (W.alloc (.cells #[.slice A4 xb.length c4] 31)) 31 (.slice A3 pre.length c3) (pre.map (·.1)) := hrow.below (alloc_below _ _)
    have hsA : Src (W.alloc (.cells #[.slice A4 xb.length c4] 31)) (.slice (some ⟨W.heap.size, 0, none⟩) 1 1) [.slice A4 xb.length c4] := src_cells _ 31 _ 1 (Nat.le_refl _) (heap_alloc_new _ _)
    have h1A : ∀ u ∈ [Value.slice A4 xb.length c4], u.oneCell' = true := by
      intro u hu
      rw [List.mem_singleton.1 hu]
      rfl
    have hbA : Boxed (W.alloc (.cells #[.slice A4 xb.length c4] 31)) W1.heap.size 22 (.slice A3 pre.length c3) := Boxed.alloc hbx _
    have hlA : ((pre.map (·.1)).length + [Value.slice A4 xb.length c4].length) * 24 ≤ 140737488355328 := by
      rw [List.length_map, List.length_singleton]
      omega
    have hBA : w.heap.size ≤ (W.alloc (.cells #[.slice A4 xb.length c4] 31)).heap.size := by
      rw [alloc_size]
      omega
    have HA := Lib.hid hrA
    have HB := Lib.hid hsA
    have HC := Lib.hid hbA
    clear hrA hsA hbA
    gi_wp2_with (gi_at_builtin; refine app_lists_in rfl (.tmp 25) (.tmp 27) rfl w.heap.size _ _ HA.out HB.out h1A hlA hBA ?_; intro v5 w5 hown5 hg5 hat5; have hb5 : Boxed w5 W1.heap.size 22 (.slice A3 pre.length c3) := HC.out.kept hg5 (Boxed.not_row HC.out (by decide) HA.out); have q2 := hb5.cell; have q3 := hb5.frozen; obtain ⟨A6, c6, rfl⟩ := hown5.slice)
    rw [List.length_append, List.length_map, List.length_singleton] at hown5
    exact mid_step (x := (.slice A4 xb.length c4, xb)) hrw hw12 hbx hrow hby hgr h56 hsz hgx hg5 hb5 hown5
  case done =>
    intro D xs W hD hS hM hK
    obtain ⟨hS1, V, hr3, hV3⟩ := id hS
    obtain ⟨q0, q1, q2, f0, f1, f2⟩ := three hr3
    obtain ⟨⟨v, hbx, hrow⟩, hby, hgr, h56, hsz⟩ := id hM
    have q3 := hbx.cell
    have bk : Book W2.heap.size W (W.putObj D (.deferred none)) := .inr ⟨D, _, _, hD, hK, rfl, rfl⟩
    have hS' : S r m M xs (W.putObj D (.deferred none)) := ⟨hS1, hS.2.book bk⟩
    have hM' := hM.book bk (by omega)
    have hrow' : Row w.heap.size (W.putObj D (.deferred none)) 31 v (xs.map (·.1)) := hrow.cells fun g cur _ hg => book_cells bk hg
    clear hS1 hS hM hrow hby hgr h56 hsz
    generalize hbr : (parse m M).2.2 = br at *
    cases br
    · gi_wp2
      refine ⟨by simp, .inl ⟨_, _, rfl, run_takeDeferred hK, ?_⟩⟩
      refine ⟨_, results_tmp2 rfl _ _ _, v, xs, ?_⟩
      rw [HLb.out, hbr]
      exact ⟨rfl, ⟨hrow', hM'.2.1⟩, hS', hM'.2.2.1⟩
    · gi_wp2
      refine ⟨by simp, .inl ⟨_, _, rfl, run_takeDeferred hK, ?_⟩⟩
      refine ⟨_, results_tmp2 rfl _ _ _, v, xs, ?_⟩
      rw [HLb.out, hbr]
      exact ⟨rfl, ⟨hrow', hM'.2.1⟩, hS', hM'.2.2.1⟩
  obtain ⟨cs, hc⟩ := h.2.1
  refine (h.1.block k (Array.getElem?_eq_some_iff.1 hk).1 ?_).trans hk
  rintro e
  cases e
  rw [hk] at hc
  cases hc
  cases ho

end Go.Proofs.Ytjeeiaelicekhaa
