/- Contracts of Twin, few, Put, New, Held. -/
import Derived.Test.YtjeeiaelicekhaaBase
namespace Go.Proofs.Ytjeeiaelicekhaa
open Go.RowKit

/-- Reads as bytes that lie in a block of bytes; such blocks are never turned. -/
def Byt (w : World) (v : Value) (l : List UInt8) : Prop :=
  ∃ A c, v = .slice A l.length c ∧ l.length ≤ c ∧ c ≤ maxLen ∧ (l ≠ [] → ∃ b off cs, A = some ⟨b, off, none⟩ ∧ w.heap[b]? = some (.cells cs 5 (0, 0)) ∧ ∀ j u, (cel l)[j]? = some u → cs[off + j]? = some u)

theorem Row.byt {B : Nat} {w : World} {v : Value} {l : List UInt8} (h : Row B w 5 v (cel l)) : Byt w v l := by
  rcases h.form with ⟨rfl, hn⟩ | ⟨g, cap, cur, rfl, _, hg, hc, hm, hs, ht⟩
  · have : l = [] := by
      have := congrArg List.length hn
      rw [cel_length] at this
      exact List.eq_nil_of_length_eq_zero this
    subst this
    exact ⟨none, 0, rfl, Nat.le_refl _, by simp [maxLen], fun h => absurd rfl h⟩
  · rw [cel_length] at hc ht
    refine ⟨some ⟨g, 0, none⟩, cap, by rw [cel_length], hc, hm, fun _ => ⟨g, 0, cur, rfl, hg, fun j u hj => ?_⟩⟩
    have hjl : j < l.length := by have := (List.getElem?_eq_some_iff.1 hj).1; rwa [cel_length] at this
    rw [← ht, List.getElem?_take, if_pos hjl] at hj
    simpa using hj

theorem Byt.src {w : World} {v : Value} {l : List UInt8} (h : Byt w v l) : Src w v (cel l) := by
  obtain ⟨A, c, rfl, hl, _, hA⟩ := h
  refine ⟨A, c, by rw [cel_length], by rw [cel_length]; exact hl, fun hn => ?_⟩
  obtain ⟨b, off, cs, rfl, hb, hc⟩ := hA (by rintro rfl; exact hn rfl)
  refine ⟨_, rfl, fun j u hj => ?_⟩
  rw [addr_add]
  simp only [World.cell?, hb]
  exact hc j u hj

/-- Blocks of bytes are as they were. -/
def Keep5 (w w' : World) : Prop := ∀ (b : Nat) (cs : Array Value), w.heap[b]? = some (Obj.cells cs 5 (0, 0)) → w'.heap[b]? = some (Obj.cells cs 5 (0, 0))
theorem Keep5.refl (w : World) : Keep5 w w := fun _ _ h => h
theorem Keep5.trans {a b c : World} (h : Keep5 a b) (k : Keep5 b c) : Keep5 a c := fun x cs hx => k x cs (h x cs hx)
theorem Byt.keep {w w' : World} {v : Value} {l : List UInt8} (h : Byt w v l) (hk : Keep5 w w') : Byt w' v l := by
  obtain ⟨A, c, rfl, h1, h2, hA⟩ := h
  refine ⟨A, c, rfl, h1, h2, fun hn => ?_⟩
  obtain ⟨b, off, cs, e, hb, hc⟩ := hA hn
  exact ⟨b, off, cs, e, hk b cs hb, hc⟩
theorem keep5_below {w w' : World} (hb : Below w.heap.size w w') : Keep5 w w' := fun b _ h => (hb.block b (Array.getElem?_eq_some_iff.1 h).1).trans h
/-- Block r holds cells of another type. -/
def Not5 (w : World) (r : Nat) : Prop := ∃ cs t, w.heap[r]? = some (.cells cs t (0, 0)) ∧ t ≠ 5
theorem keep5_grown {w w' : World} {r : Nat} (hg : w.grownBy w' (some r)) (hr : Not5 w r) : Keep5 w w' := fun b cs h => by
  refine (hg.block b (Array.getElem?_eq_some_iff.1 h).1 ?_).trans h
  intro e
  obtain ⟨cs', t, h', ht⟩ := hr
  cases e
  rw [h] at h'
  injection h' with h'
  injection h' with _ h'
  exact ht h'.symm

theorem row_none (B : Nat) (w : World) (e : TypeId) : Row B w e (.slice none 0 0) [] := World.ownsRow_nil w B e 1
theorem row_empty {B : Nat} {w : World} (e : TypeId) (hB : B ≤ w.heap.size) : Row B (w.alloc (.cells #[] e)) e (.slice (some ⟨w.heap.size, 0, none⟩) 0 0) [] :=
  ⟨rfl, .inr ⟨w.heap.size, 0, #[], rfl, hB, heap_alloc_new w _, Nat.le_refl _, by simp [maxLen], rfl, rfl⟩⟩
theorem src_cells {w : World} (g : Nat) (e : TypeId) (xs : List Value) (c : Nat) (hc : xs.length ≤ c) (h : w.heap[g]? = some (.cells xs.toArray e (0, 0))) : Src w (.slice (some ⟨g, 0, none⟩) xs.length c) xs :=
  ⟨_, _, rfl, hc, fun _ => ⟨_, rfl, fun j u hj => by
    rw [addr_add]
    simp only [World.cell?, h, Nat.zero_add]
    simpa using hj⟩⟩

/-- A beginning of a source. -/
theorem Src.take {w : World} {A : Option Addr} {c : Nat} {xs : List Value} (h : Src w (.slice A xs.length c) xs) {k : Nat} (hk : k ≤ xs.length) (c' : Nat) (hc' : k ≤ c') : Src w (.slice A k c') (xs.take k) := by
  obtain ⟨A', c2, e, _, hA⟩ := h
  cases e
  refine ⟨A, c', by rw [List.length_take, Nat.min_eq_left hk], by rw [List.length_take]; omega, fun hn => ?_⟩
  obtain ⟨ad, rfl, hc⟩ := hA (by rintro rfl; simp at hn)
  refine ⟨ad, rfl, fun j u hj => ?_⟩
  rw [List.getElem?_take] at hj
  split at hj
  · exact hc j u hj
  · cases hj

theorem twin_short (w : World) (v : Value) (l : List UInt8) (k : Nat) (h : Src w v (cel l)) (hk : l.length ≤ k) (hl : k ≤ 1000000) :
    Calls Try.prog 16 #[v, .int .i64 k] w fun e w' => ∃ u, e = .returned u ∧ Row w.heap.size w' 5 u (cel l) ∧ Below w.heap.size w w' := by
  obtain ⟨A, c, rfl, hc, hA⟩ := id h
  rw [cel_length] at h hc ⊢
  clear hA
  have h0 := h.below ((Below.refl w.heap.size w).alloc (Nat.le_refl _) (.cells #[] 5))
  go_enter Try.func16, Try.ntmps16
  go_wp2_with (at_builtin; refine app_bytes rfl (.tmp 12) (.tmp 13) rfl w.heap.size [] l (row_empty 5 (Nat.le_refl _)) h0 (by simp; omega) (by simp) ?_; intro v' w1 hown hg hat)
  go_ret
  refine ⟨v', rfl, by simpa using hown, ?_⟩
  exact ((Below.refl w.heap.size w).alloc (Nat.le_refl _) _).grown hg (by simp) (fun k e => by cases e; exact Nat.le_refl _)

theorem cel_take (l : List UInt8) (k : Nat) : cel (l.take k) = (cel l).take k := by simp [cel, List.map_take]

theorem twin_long (w : World) (v : Value) (l : List UInt8) (k : Nat) (h : Src w v (cel l)) (hk : k < l.length) (hl : k ≤ 1000000) :
    Calls Try.prog 16 #[v, .int .i64 k] w fun e w' => ∃ u, e = .returned u ∧ Row w.heap.size w' 5 u (cel (l.take k)) ∧ Below w.heap.size w w' := by
  obtain ⟨A, c, rfl, hc, hA⟩ := id h
  clear hA
  have h0 := (h.take (k := k) (by rw [cel_length]; omega) c (by rw [cel_length] at hc; omega)).below ((Below.refl w.heap.size w).alloc (Nat.le_refl _) (.cells #[] 5))
  rw [← cel_take] at h0
  rw [cel_length] at h hc ⊢
  go_enter Try.func16, Try.ntmps16
  go_wp2_with (at_builtin; refine app_bytes rfl (.tmp 12) (.tmp 13) rfl w.heap.size [] (l.take k) (row_empty 5 (Nat.le_refl _)) h0 (by simp; omega) (by simp) ?_; intro v' w1 hown hg hat)
  go_ret
  refine ⟨v', rfl, by simpa using hown, ?_⟩
  exact ((Below.refl w.heap.size w).alloc (Nat.le_refl _) _).grown hg (by simp) (fun k e => by cases e; exact Nat.le_refl _)

/-- Twin: bytes in new memory, at most k. -/
theorem twin_any (w : World) (v : Value) (l : List UInt8) (k : Nat) (h : Src w v (cel l)) (hl : k ≤ 1000000) :
    Calls Try.prog 16 #[v, .int .i64 k] w fun e w' => ∃ u, e = .returned u ∧ Row w.heap.size w' 5 u (cel (l.take k)) ∧ Below w.heap.size w w' := by
  rcases Nat.lt_or_ge k l.length with hk | hk
  · exact twin_long w v l k h hk hl
  · rw [List.take_of_length_le hk]
    exact twin_short w v l k h hk hl

theorem few_any (w : World) (v : Value) (l : List UInt8) (h : Src w v (cel l)) :
    Calls Try.prog 12 #[v] w fun e w' => ∃ u, e = .returned u ∧ Row w.heap.size w' 5 u (cel (l.take 600)) ∧ Below w.heap.size w w' := by
  go_enter Try.func12, Try.ntmps12
  go_wp2_with (go_at_call 16; refine (twin_any _ _ l 600 h (by omega)).mono ?_; rintro e w' ⟨u, rfl, hu, hb⟩)
  go_ret
  exact ⟨u, rfl, hu, hb⟩

/-- A length as four bytes. -/
def be4 (n : Nat) : List UInt8 := [UInt8.ofNat (n / 16777216), UInt8.ofNat (n / 65536), UInt8.ofNat (n / 256), UInt8.ofNat n]

theorem be4_cel (n : Nat) (hn : n ≤ 1000000000) : cel (be4 n) = [.int .u8 ((n : Int) / 16777216), .int .u8 ((n : Int) / 65536 % 256), .int .u8 ((n : Int) / 256 % 256), .int .u8 ((n : Int) % 256)] := by
  simp [cel, be4]
  omega

theorem be4_length (n : Nat) : (be4 n).length = 4 := rfl

theorem Row.below {B : Nat} {w w' : World} {e : TypeId} {v : Value} {xs : List Value} (h : Row B w e v xs) (hb : Below w.heap.size w w') : Row B w' e v xs := by
  rcases h.2 with h2 | ⟨g, cap, cur, h1, h2, h3, h4⟩
  · exact ⟨h.1, .inl h2⟩
  · exact ⟨h.1, .inr ⟨g, cap, cur, h1, h2, (hb.block g (Array.getElem?_eq_some_iff.1 h3).1).trans h3, h4⟩⟩

/-- The row's own block lies from B on. -/
theorem Row.own_ge {B : Nat} {w : World} {e : TypeId} {v : Value} {xs : List Value} (h : Row B w e v xs) : ∀ k, v.ownBlock = some k → B ≤ k := by
  intro k hk
  rcases h.form with ⟨rfl, _⟩ | ⟨g, cap, cur, rfl, hB, _⟩
  · cases hk
  · cases hk
    exact hB

theorem alloc_size (w : World) (o : Obj) : (w.alloc o).heap.size = w.heap.size + 1 := by simp
theorem alloc_below (w : World) (o : Obj) : Below w.heap.size w (w.alloc o) := (Below.refl w.heap.size w).alloc (Nat.le_refl _) o

theorem below_more {B : Nat} {w w' w'' : World} (h : Below B w w') (hB : B ≤ w'.heap.size) (h' : Below w'.heap.size w' w'') : Below B w w'' := h.trans (h'.mono hB)

theorem put_any (w : World) (a b : Value) (l m : List UInt8) (ha : Src w a (cel l)) (hb : Src w b (cel m)) (hl : l.length ≤ 1000000000) (hm : m.length ≤ 1000000000) :
    Calls Try.prog 17 #[a, b] w fun e w' => ∃ u, e = .returned u ∧ Row w.heap.size w' 5 u (cel (l ++ be4 m.length ++ m)) ∧ Below w.heap.size w w' := by
  obtain ⟨A, c, rfl, hc, hA⟩ := id ha
  obtain ⟨A', c', rfl, hc', hA'⟩ := id hb
  clear hA hA'
  simp only [cel_length] at ha hb hc hc' ⊢
  go_enter Try.func17, Try.ntmps17
  go_wp2_with (at_builtin; first
    | (refine app_bytes rfl (.const (.slice none 0 0)) (.tmp 9) rfl w.heap.size [] l (row_none _ _ _) ha (by simp; omega) (Nat.le_refl _) ?_
       intro v1 w1 hown1 hg1 hat1
       have hB1 : Below w.heap.size w w1 := (Below.refl w.heap.size w).grown hg1 (Nat.le_refl _) (fun k e => by simp [Act.eval, Value.ownBlock] at e))
    | (refine app_bytes rfl (.tmp 10) (.tmp 22) rfl w.heap.size l (be4 m.length) (by rw [List.nil_append] at hown1; exact hown1.below (alloc_below _ _)) (by rw [be4_cel _ hm]; exact src_cells _ 5 _ 4 (Nat.le_refl _) (heap_alloc_new _ _)) (by rw [be4_length]; omega) (by rw [alloc_size]; have := hB1.size; omega) ?_
       intro v2 w2 hown2 hg2 hat2
       have hB2 : Below w.heap.size w w2 := (hB1.alloc hB1.size _).grown hg2 (by rw [alloc_size]; have := hB1.size; omega) hown1.own_ge)
    | (refine app_bytes rfl (.tmp 24) (.tmp 25) rfl w.heap.size (l ++ be4 m.length) m hown2 (hb.below hB2) (by simp [be4_length]; omega) (hB2.size) ?_
       intro v3 w3 hown3 hg3 hat3
       have hB3 : Below w.heap.size w w3 := hB2.grown hg3 hB2.size hown2.own_ge))
  go_ret
  exact ⟨v3, rfl, hown3, hB3⟩

end Go.Proofs.Ytjeeiaelicekhaa
