/- Swap. -/
import Derived.Test.YtfmcpcciokogiaaItem
namespace Go.Proofs.Ytfmcpcciokogiaa
open Go.RowKit Fl

set_option maxHeartbeats 2000000 in
theorem swap_run (w : World) (g cap n i j xb yb : Nat) (pi pj : Value) (hi : i < n) (hj : j < n) (hij : i ≠ j) (hxy : xb ≠ yb) (hxg : xb ≠ g) (hyg : yb ≠ g)
    (a1 : w.cell? ⟨g, i, none⟩ = some (.pointer (some ⟨xb, 0, none⟩))) (a2 : w.frozen? ⟨g, i, none⟩ = false) (b1 : w.cell? ⟨g, j, none⟩ = some (.pointer (some ⟨yb, 0, none⟩))) (b2 : w.frozen? ⟨g, j, none⟩ = false)
    (c1 : w.cell? ⟨xb, 3, none⟩ = some pi) (c2 : w.frozen? ⟨xb, 3, none⟩ = false) (d1 : w.cell? ⟨yb, 3, none⟩ = some pj) (d2 : w.frozen? ⟨yb, 3, none⟩ = false) :
    Calls Try.prog 61 #[.slice (some ⟨g, 0, none⟩) n cap, .int .i64 (i : Int), .int .i64 (j : Int)] w fun e w' => e = .returned (.tuple #[]) ∧
      ∃ q, w' = (((((w.setCell ⟨g, i, none⟩ (.pointer (some ⟨yb, 0, none⟩))).setCell ⟨g, j, none⟩ (.pointer (some ⟨xb, 0, none⟩))).setCell ⟨yb, 3, none⟩ (.int .i64 (i : Int))).setCell ⟨xb, 3, none⟩ (.int .i64 (j : Int)))).drewN q := by
  have hiI : (i : Int) < (n : Int) := by omega
  have hjI : (j : Int) < (n : Int) := by omega
  have hji := Ne.symm hij
  have hyx := Ne.symm hxy
  have hgx := Ne.symm hxg
  have hgy := Ne.symm hyg
  go_enter Try.func61, Try.ntmps61
  go_wp2_with fail
  go_region
  go_wp2_with fail
  go_region
  go_wp2_with fail
  refine bodyPost_end (results_none rfl _ _ _) rfl ?_
  exact ⟨rfl, 2, rfl⟩

set_option maxHeartbeats 2000000 in
theorem swap_run_same (w : World) (g cap n i xb : Nat) (pi : Value) (hi : i < n) (hxg : xb ≠ g)
    (a1 : w.cell? ⟨g, i, none⟩ = some (.pointer (some ⟨xb, 0, none⟩))) (a2 : w.frozen? ⟨g, i, none⟩ = false)
    (c1 : w.cell? ⟨xb, 3, none⟩ = some pi) (c2 : w.frozen? ⟨xb, 3, none⟩ = false) :
    Calls Try.prog 61 #[.slice (some ⟨g, 0, none⟩) n cap, .int .i64 (i : Int), .int .i64 (i : Int)] w fun e w' => e = .returned (.tuple #[]) ∧
      ∃ q, w' = (((((w.setCell ⟨g, i, none⟩ (.pointer (some ⟨xb, 0, none⟩))).setCell ⟨g, i, none⟩ (.pointer (some ⟨xb, 0, none⟩))).setCell ⟨xb, 3, none⟩ (.int .i64 (i : Int))).setCell ⟨xb, 3, none⟩ (.int .i64 (i : Int)))).drewN q := by
  have hiI : (i : Int) < (n : Int) := by omega
  have hgx := Ne.symm hxg
  go_enter Try.func61, Try.ntmps61
  go_wp2_with fail
  go_region
  go_wp2_with fail
  go_region
  go_wp2_with fail
  refine bodyPost_end (results_none rfl _ _ _) rfl ?_
  exact ⟨rfl, 2, rfl⟩

theorem Items.apart {w : World} {F : Nat → Prop} {rv : Value} {xs : List It} (h : Items w F rv xs) {i j : Nat} {x y : It} (hi : xs[i]? = some x) (hj : xs[j]? = some y) (hne : i ≠ j) : x.blk ≠ y.blk := by
  intro e
  have h1 := (h.2.2 i x hi).1
  have h2 := (h.2.2 j y hj).1
  rw [e, h2] at h1
  simp only [Option.some.injEq, Obj.cells.injEq, itc] at h1
  have h3 := h1.1
  injection h3 with h3
  simp at h3
  omega
theorem Items.row_ne {w : World} {F : Nat → Prop} {rv : Value} {xs : List It} (h : Items w F rv xs) {i : Nat} {x : It} (hi : xs[i]? = some x) {g : Nat} {cur : Array Value} (hg : w.heap[g]? = some (.cells cur 68 (0, 0))) : x.blk ≠ g := by
  intro e
  have h1 := (h.2.2 i x hi).1
  rw [e, hg] at h1
  simp at h1

/-- The row's block, whole. -/
theorem Items.row {w : World} {F : Nat → Prop} {rv : Value} {xs : List It} (h : Items w F rv xs) (h0 : 0 < xs.length) :
    ∃ g cap cur, rv = .slice (some ⟨g, 0, none⟩) xs.length cap ∧ w.heap[g]? = some (.cells cur 68 (0, 0)) ∧ xs.length ≤ cap ∧ cap ≤ maxLen ∧ cur.size = cap ∧ cur.toList.take xs.length = xs.map itv ∧ F g := by
  rcases h.1.form with ⟨_, e⟩ | ⟨g, cap, cur, hv, _, hg, hn, hm, hs, ht⟩
  · have := congrArg List.length e
    simp at this
    simp [this] at h0
  · rw [List.length_map] at hv hn ht
    exact ⟨g, cap, cur, hv, hg, hn, hm, hs, ht, h.2.1 g (by rw [hv]; rfl)⟩

theorem row_mk {w : World} {g cap : Nat} {cur : Array Value} {xs : List It} (hg : w.heap[g]? = some (.cells cur 68 (0, 0))) (hn : xs.length ≤ cap) (hm : cap ≤ maxLen) (hs : cur.size = cap) (ht : cur.toList.take xs.length = xs.map itv) :
    Row 0 w 68 (.slice (some ⟨g, 0, none⟩) xs.length cap) (xs.map itv) := by
  refine ⟨by simp, .inr ⟨g, cap, cur, by rw [List.length_map], Nat.zero_le _, hg, by rw [List.length_map]; exact hn, hm, by omega, by rw [List.length_map, Nat.mul_one]; exact ht⟩⟩

theorem swap_items {w W : World} {F : Nat → Prop} {g cap i j : Nat} {cur : Array Value} {xs : List It} {x y : It} (h : Items w F (.slice (some ⟨g, 0, none⟩) xs.length cap) xs) (hg : w.heap[g]? = some (.cells cur 68 (0, 0)))
    (hn : xs.length ≤ cap) (hm : cap ≤ maxLen) (hs : cur.size = cap) (ht : cur.toList.take xs.length = xs.map itv) (hF : F g) (hx : xs[i]? = some x) (hy : xs[j]? = some y)
    (k1 : W.heap[g]? = some (.cells ((cur.setIfInBounds i (itv y)).setIfInBounds j (itv x)) 68 (0, 0))) (k2 : W.heap[x.blk]? = some (.cells (itc x j) 71 (0, 0))) (k3 : W.heap[y.blk]? = some (.cells (itc y i) 71 (0, 0)))
    (k4 : ∀ k, k ≠ g → k ≠ x.blk → k ≠ y.blk → W.heap[k]? = w.heap[k]?) : Items W F (.slice (some ⟨g, 0, none⟩) xs.length cap) (swl xs i j x y) := by
  have hil : i < xs.length := (List.getElem?_eq_some_iff.1 hx).1
  have hjl : j < xs.length := (List.getElem?_eq_some_iff.1 hy).1
  have hlen : (swl xs i j x y).length = xs.length := by simp [swl]
  refine ⟨?_, fun g' e => by cases e; exact hF, fun k z hz => ?_⟩
  · have h2 : ((cur.setIfInBounds i (itv y)).setIfInBounds j (itv x)).toList.take (swl xs i j x y).length = (swl xs i j x y).map itv := by
      rw [hlen]
      simp only [swl, Array.toList_setIfInBounds, List.take_set, ht, List.map_set]
    have := row_mk (cap := cap) (xs := swl xs i j x y) k1 (by rw [hlen]; exact hn) hm (by simp only [Array.size_setIfInBounds]; exact hs) h2
    rw [hlen] at this
    exact this
  · by_cases c1 : k = j
    · subst c1
      have : z = x := by
        simp only [swl] at hz
        rw [List.getElem?_set_self (by simpa using hjl)] at hz
        exact (Option.some.inj hz).symm
      subst this
      exact ⟨k2, (h.2.2 i _ hx).2⟩
    · by_cases c2 : k = i
      · subst c2
        have : z = y := by
          simp only [swl] at hz
          rw [List.getElem?_set_ne (fun e => c1 e.symm), List.getElem?_set_self hil] at hz
          exact (Option.some.inj hz).symm
        subst this
        exact ⟨k3, (h.2.2 j _ hy).2⟩
      · have hz' : xs[k]? = some z := by
          simp only [swl] at hz
          rwa [List.getElem?_set_ne (fun e => c1 e.symm), List.getElem?_set_ne (fun e => c2 e.symm)] at hz
        obtain ⟨q1, q2⟩ := h.2.2 k z hz'
        exact ⟨(k4 _ (h.row_ne hz' hg) (h.apart hz' hx c2) (h.apart hz' hy c1)).trans q1, q2⟩

theorem swap_any (w : World) (F : Nat → Prop) (rv : Value) (xs : List It) (h : Items w F rv xs) (i j : Nat) (hi : i < xs.length) (hj : j < xs.length) :
    Calls Try.prog 61 #[rv, .int .i64 (i : Int), .int .i64 (j : Int)] w fun e w' => e = .returned (.tuple #[]) ∧ Items w' F rv (swl xs i j xs[i] xs[j]) ∧ Turned F w w' ∧ w'.heap.size = w.heap.size := by
  obtain ⟨g, cap, cur, rfl, hg, hn, hm, hs, ht, hFg⟩ := h.row (by omega)
  have ei : xs[i]? = some xs[i] := List.getElem?_eq_getElem hi
  have ej : xs[j]? = some xs[j] := List.getElem?_eq_getElem hj
  obtain ⟨_, _, e, a1, a2, a3, _⟩ := h.at hi
  cases e
  obtain ⟨_, _, e, b1, b2, b3, _⟩ := h.at hj
  cases e
  obtain ⟨_, _, _, c4, _, _, c7⟩ := itc_cells a3
  obtain ⟨_, _, _, d4, _, _, d7⟩ := itc_cells b3
  have hxg := h.row_ne ei hg
  have hyg := h.row_ne ej hg
  have hFx := (h.2.2 i _ ei).2.1
  have hFy := (h.2.2 j _ ej).2.1
  generalize hx : xs[i] = x at *
  generalize hy : xs[j] = y at *
  by_cases hij : i = j
  · subst hij
    have exy : x = y := by rw [← hx, ← hy]
    subst exy
    refine (swap_run_same w g cap xs.length i x.blk _ hi hxg a1 a2 c4 c7).mono ?_
    rintro e w' ⟨rfl, q, rfl⟩
    refine ⟨rfl, ?_, ?_, by simp only [World.drewN, set_size]⟩
    · have k1 := set_at (o := i) hg (.pointer (some ⟨x.blk, 0, none⟩))
      have k2 := set_at (o := i) k1 (.pointer (some ⟨x.blk, 0, none⟩))
      have kx := (set_off (o := i) (.pointer (some ⟨x.blk, 0, none⟩)) hxg).trans ((set_off (o := i) (.pointer (some ⟨x.blk, 0, none⟩)) hxg).trans a3)
      have m1 := set_at (o := 3) kx (.int .i64 (i : Int))
      have m2 := set_at (o := 3) m1 (.int .i64 (i : Int))
      have m3 := (set_off (o := 3) (.int .i64 (i : Int)) (Ne.symm hxg)).trans ((set_off (o := 3) (.int .i64 (i : Int)) (Ne.symm hxg)).trans k2)
      exact Items.drewN (swap_items h hg hn hm hs ht hFg (by rw [ei]) (by rw [ei]) m3 m2 m2 (fun k e1 e2 _ => (set_off _ e2).trans ((set_off _ e2).trans ((set_off _ e1).trans (set_off _ e1))))) q
    · exact Turned.drewN (((((Turned.refl F w).trans (Turned.set _ hFg)).trans (Turned.set _ hFg)).trans (Turned.set _ hFx)).trans (Turned.set _ hFx)) q
  · have hxy := h.apart ei ej hij
    refine (swap_run w g cap xs.length i j x.blk y.blk _ _ hi hj hij hxy hxg hyg a1 a2 b1 b2 c4 c7 d4 d7).mono ?_
    rintro e w' ⟨rfl, q, rfl⟩
    refine ⟨rfl, ?_, ?_, by simp only [World.drewN, set_size]⟩
    · have k1 := set_at (o := i) hg (.pointer (some ⟨y.blk, 0, none⟩))
      have k2 := set_at (o := j) k1 (.pointer (some ⟨x.blk, 0, none⟩))
      have kx := (set_off (o := j) (.pointer (some ⟨x.blk, 0, none⟩)) hxg).trans ((set_off (o := i) (.pointer (some ⟨y.blk, 0, none⟩)) hxg).trans a3)
      have ky := (set_off (o := j) (.pointer (some ⟨x.blk, 0, none⟩)) hyg).trans ((set_off (o := i) (.pointer (some ⟨y.blk, 0, none⟩)) hyg).trans b3)
      have m1 := set_at (o := 3) ky (.int .i64 (i : Int))
      have m2 := set_at (o := 3) ((set_off (o := 3) (.int .i64 (i : Int)) hxy).trans kx) (.int .i64 (j : Int))
      have m4 := (set_off (o := 3) (.int .i64 (j : Int)) (Ne.symm hxy)).trans m1
      have m3 := (set_off (o := 3) (.int .i64 (j : Int)) (Ne.symm hxg)).trans ((set_off (o := 3) (.int .i64 (i : Int)) (Ne.symm hyg)).trans k2)
      exact Items.drewN (swap_items h hg hn hm hs ht hFg ei ej m3 m2 m4 (fun k e1 e2 e3 => (set_off _ e2).trans ((set_off _ e3).trans ((set_off _ e1).trans (set_off _ e1))))) q
    · exact Turned.drewN (((((Turned.refl F w).trans (Turned.set _ hFg)).trans (Turned.set _ hFg)).trans (Turned.set _ hFy)).trans (Turned.set _ hFx)) q

end Go.Proofs.Ytfmcpcciokogiaa
