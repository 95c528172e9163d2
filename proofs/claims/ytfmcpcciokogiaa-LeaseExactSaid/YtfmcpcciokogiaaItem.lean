/- Items in memory; Less, Swap, Len of the row. -/
import Derived.Test.YtfmcpcciokogiaaHeapP
import Derived.BigRegion
namespace Go.Proofs.Ytfmcpcciokogiaa
open Go.RowKit Fl

/-- A lease: its block, its key, its end, its turn. -/
structure It where
  blk : Nat
  key : ByteArray
  fin : Nat
  turn : Nat
def itv (x : It) : Value := .pointer (some ⟨x.blk, 0, none⟩)
def itc (x : It) (i : Nat) : Array Value := #[.string x.key, .float .f64 x.fin, .int .u64 (x.turn : Int), .int .i64 (i : Int)]
def rank (x : It) : Rk := (EV x.fin, (x.turn : Int))
def lesB (x y : It) : Bool := if isNe x.fin y.fin then isLt x.fin y.fin else decide ((x.turn : Int) < (y.turn : Int))

theorem lesB_iff {x y : It} (hx : num x.fin) (hy : num y.fin) : lesB x y = true ↔ les (rank x) (rank y) := by
  unfold lesB les rank
  by_cases h : EV x.fin = EV y.fin
  · have : isNe x.fin y.fin = false := off ne_iff (fun q => q ⟨hx, hy, h⟩)
    rw [this]
    simp [h]
  · have : isNe x.fin y.fin = true := ne_iff.2 fun q => h q.2.2
    rw [this, if_pos rfl, lt_iff]
    simp only [hx, hy, true_and, h, false_and, or_false]

/-- The row r reads as the items xs, each item's block holds it and where it stands. -/
def Items (w : World) (F : Nat → Prop) (rv : Value) (xs : List It) : Prop :=
  Row 0 w 68 rv (xs.map itv) ∧ (∀ g, rv.ownBlock = some g → F g) ∧ ∀ (i : Nat) (x : It), xs[i]? = some x → w.heap[x.blk]? = some (.cells (itc x i) 71 (0, 0)) ∧ F x.blk ∧ num x.fin

theorem Items.at {w : World} {F : Nat → Prop} {rv : Value} {xs : List It} (h : Items w F rv xs) {i : Nat} (hi : i < xs.length) :
    ∃ g cap, rv = .slice (some ⟨g, 0, none⟩) xs.length cap ∧ w.cell? ⟨g, i, none⟩ = some (itv xs[i]) ∧ w.frozen? ⟨g, i, none⟩ = false ∧ w.heap[(xs[i]).blk]? = some (.cells (itc xs[i] i) 71 (0, 0)) ∧ xs.length ≤ cap := by
  obtain ⟨h1, _, h3⟩ := h
  rcases h1.form with ⟨_, e⟩ | ⟨g, cap, cur, hv, _, hg, hn, _, hs, ht⟩
  · have := congrArg List.length e
    simp at this
    simp [this] at hi
  · rw [List.length_map] at hv hn ht
    refine ⟨g, cap, hv, ?_, ?_, (h3 i xs[i] (by simp [hi])).1, hn⟩
    · have h4 : (xs.map itv)[i]? = some (itv xs[i]) := by simp [hi]
      rw [← ht, List.getElem?_take, if_pos hi] at h4
      simp only [World.cell?, hg]
      simpa using h4
    · simp only [World.frozen?, hg]
      simp

theorem itc_cells {w : World} {b : Nat} {x : It} {i : Nat} (h : w.heap[b]? = some (.cells (itc x i) 71 (0, 0))) :
    w.cell? ⟨b, 0, none⟩ = some (.string x.key) ∧ w.cell? ⟨b, 1, none⟩ = some (.float .f64 x.fin) ∧ w.cell? ⟨b, 2, none⟩ = some (.int .u64 (x.turn : Int)) ∧ w.cell? ⟨b, 3, none⟩ = some (.int .i64 (i : Int)) ∧
      w.frozen? ⟨b, 1, none⟩ = false ∧ w.frozen? ⟨b, 2, none⟩ = false ∧ w.frozen? ⟨b, 3, none⟩ = false := by
  simp [World.cell?, World.frozen?, h, itc]

set_option maxHeartbeats 2000000 in
theorem less_any (w : World) (F : Nat → Prop) (rv : Value) (xs : List It) (h : Items w F rv xs) (i j : Nat) (hi : i < xs.length) (hj : j < xs.length) :
    Calls Try.prog 60 #[rv, .int .i64 (i : Int), .int .i64 (j : Int)] w fun e w' => e = .returned (.bool (lesB xs[i] xs[j])) ∧ ∃ n, w' = w.drewN n := by
  obtain ⟨g, cap, rfl, a1, _, a3, _⟩ := h.at hi
  obtain ⟨g', cap', e, b1, _, b3, _⟩ := h.at hj
  cases e
  generalize hx : xs[i] = x at *
  generalize hy : xs[j] = y at *
  obtain ⟨c0, c1, c2, c3, _⟩ := itc_cells a3
  obtain ⟨d0, d1, d2, d3, _⟩ := itc_cells b3
  have hiI : (i : Int) < (xs.length : Int) := by omega
  have hjI : (j : Int) < (xs.length : Int) := by omega
  unfold lesB
  simp only [itv] at a1 b1
  clear a3 b3 hx hy h
  cases hn : isNe x.fin y.fin
  · go_enter Try.func60, Try.ntmps60
    go_wp2_with fail
    go_quiet (fail)
    go_wp2_with fail
    go_quiet (fail)
    go_wp2_with fail
    go_ret
    exact ⟨rfl, _, rfl⟩
  · go_enter Try.func60, Try.ntmps60
    go_wp2_with fail
    go_quiet (fail)
    go_wp2_with fail
    go_quiet (fail)
    go_wp2_with fail
    go_ret
    exact ⟨rfl, _, rfl⟩

theorem set_at {w : World} {b o : Nat} {cs : Array Value} {t : TypeId} {f : Nat × Nat} (h : w.heap[b]? = some (.cells cs t f)) (v : Value) :
    (w.setCell ⟨b, o, none⟩ v).heap[b]? = some (.cells (cs.setIfInBounds o v) t f) := by
  obtain ⟨hlt, hk⟩ := Array.getElem?_eq_some_iff.1 h
  show (w.heap.modify b _)[b]? = _
  rw [Array.getElem?_eq_getElem (by rw [Array.size_modify]; exact hlt), Array.getElem_modify_self, hk]
  rfl
theorem set_off {w : World} {b o k : Nat} (v : Value) (h : k ≠ b) : (w.setCell ⟨b, o, none⟩ v).heap[k]? = w.heap[k]? := Below.heap_setCell _ _ _ k (fun e => h e)
theorem set_size {w : World} {b o : Nat} (v : Value) : (w.setCell ⟨b, o, none⟩ v).heap.size = w.heap.size := by
  show (w.heap.modify b _).size = _
  rw [Array.size_modify]

/-- Only blocks of F have turned, and new ones are there. -/
def Turned (F : Nat → Prop) (w w' : World) : Prop :=
  w'.os = w.os ∧ w'.tape = w.tape ∧ w'.output = w.output ∧ w.heap.size ≤ w'.heap.size ∧ ∀ k, k < w.heap.size → ¬ F k → w'.heap[k]? = w.heap[k]?
theorem Turned.refl (F : Nat → Prop) (w : World) : Turned F w w := ⟨rfl, rfl, rfl, Nat.le_refl _, fun _ _ _ => rfl⟩
theorem Turned.trans {F : Nat → Prop} {a b c : World} (h : Turned F a b) (k : Turned F b c) : Turned F a c :=
  ⟨k.1.trans h.1, k.2.1.trans h.2.1, k.2.2.1.trans h.2.2.1, Nat.le_trans h.2.2.2.1 k.2.2.2.1, fun i hi hn => (k.2.2.2.2 i (Nat.lt_of_lt_of_le hi h.2.2.2.1) hn).trans (h.2.2.2.2 i hi hn)⟩
theorem Turned.mono {F G : Nat → Prop} {a b : World} (h : Turned F a b) (hFG : ∀ k, F k → G k) : Turned G a b :=
  ⟨h.1, h.2.1, h.2.2.1, h.2.2.2.1, fun i hi hn => h.2.2.2.2 i hi fun q => hn (hFG i q)⟩
theorem Turned.set {F : Nat → Prop} {a : World} {b o : Nat} (v : Value) (hb : F b) : Turned F a (a.setCell ⟨b, o, none⟩ v) :=
  ⟨rfl, rfl, rfl, by rw [set_size]; exact Nat.le_refl _, fun k _ hn => set_off v fun e => hn (by rw [e]; exact hb)⟩
theorem Turned.drewN {F : Nat → Prop} {a b : World} (h : Turned F a b) (n : Nat) : Turned F a (b.drewN n) := h
theorem Items.drewN {w : World} {F : Nat → Prop} {rv : Value} {xs : List It} (h : Items w F rv xs) (n : Nat) : Items (w.drewN n) F rv xs := h

def swl (xs : List It) (i j : Nat) (x y : It) : List It := (xs.set i y).set j x

end Go.Proofs.Ytfmcpcciokogiaa
