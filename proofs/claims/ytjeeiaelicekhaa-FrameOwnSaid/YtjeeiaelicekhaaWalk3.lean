/- New, Held, the reference's New and Put. -/
import Derived.Test.YtjeeiaelicekhaaWalk2
namespace Go.Proofs.Ytjeeiaelicekhaa
open Go.RowKit

theorem held_any (w : World) (r m : Nat) (l : List UInt8) (br : Bool) (h : Rdr w r m l br) :
    Calls Try.prog 15 #[.pointer (some ⟨r, 0, none⟩)] w fun e w' => e = .returned (.int .i64 (l.length : Int)) ∧ w' = w := by
  obtain ⟨v, hr, A, c, rfl, hc, hm, hA⟩ := h
  clear hA
  obtain ⟨_, q1, _⟩ := three hr
  go_enter Try.func15, Try.ntmps15
  go_wp2_with fail
  go_ret
  exact ⟨rfl, rfl⟩

theorem new_any (w : World) (n : Int) (h0 : -9223372036854775808 ≤ n) (h1 : n < 9223372036854775808) :
    Calls Try.prog 8 #[.int .i64 n] w fun e w' => e = .returned (.pointer (some ⟨w.heap.size, 0, none⟩)) ∧ w' = w.alloc (.cells #[.int .u64 (n.toNat : Int), .slice none 0 0, .bool false] 56) := by
  by_cases c : 0 ≤ n
  · have e : n.toNat = n := by omega
    rw [e]
    clear e
    go_enter Try.func8, Try.ntmps8
    go_wp2_with fail
    go_ret
    exact ⟨rfl, rfl⟩
  · have e : n.toNat = (0 : Int) := by omega
    rw [e]
    clear e
    go_enter Try.func8, Try.ntmps8
    go_wp2_with fail
    go_ret
    exact ⟨rfl, rfl⟩

theorem rnew_any (w : World) (n : Int) (h0 : -9223372036854775808 ≤ n) (h1 : n < 9223372036854775808) :
    Calls Try.prog 9 #[.int .i64 n] w fun e w' => e = .returned (.pointer (some ⟨w.heap.size, 0, none⟩)) ∧ w' = w.alloc (.cells #[.int .i64 (n.toNat : Int), .slice none 0 0, .bool false] 38) := by
  by_cases c : n < 0
  · have e : n.toNat = (0 : Int) := by omega
    rw [e]
    clear e
    go_enter Try.func9, Try.ntmps9
    go_wp2_with fail
    go_ret
    exact ⟨rfl, rfl⟩
  · have e : n.toNat = n := by omega
    rw [e]
    clear e
    go_enter Try.func9, Try.ntmps9
    go_wp2_with fail
    go_ret
    exact ⟨rfl, rfl⟩

theorem rput_any (w : World) (a b : Value) (l m : List UInt8) (ha : Src w a (cel l)) (hb : Src w b (cel m)) (hl : l.length ≤ 1000000000) (hm : m.length ≤ 1000000000) :
    Calls Try.prog 18 #[a, b] w fun e w' => ∃ u, e = .returned u ∧ Row w.heap.size w' 5 u (cel (l ++ be4 m.length ++ m)) ∧ Below w.heap.size w w' := by
  obtain ⟨A, c, rfl, hc, hA⟩ := id ha
  obtain ⟨A', c', rfl, hc', hA'⟩ := id hb
  clear hA hA'
  simp only [cel_length] at ha hb hc hc' ⊢
  have h0 := ha.below (alloc_below w (.cells #[] 5))
  go_enter Try.func18, Try.ntmps18
  go_wp2_with (at_builtin; first
    | (refine app_bytes rfl (.tmp 9) (.tmp 10) rfl w.heap.size [] l (row_empty 5 (Nat.le_refl _)) h0 (by simp; omega) (by simp) ?_
       intro v1 w1 hown1 hg1 hat1
       have hB1 : Below w.heap.size w w1 := (alloc_below _ _).grown hg1 (by simp) (fun k e => by cases e; exact Nat.le_refl _))
    | (refine app_bytes rfl (.tmp 11) (.tmp 23) rfl w.heap.size l (be4 m.length) (by rw [List.nil_append] at hown1; exact hown1.below (alloc_below _ _)) (by rw [be4_cel _ hm]; exact src_cells _ 5 _ 4 (Nat.le_refl _) (heap_alloc_new _ _)) (by rw [be4_length]; omega) (by rw [alloc_size]; have := hB1.size; omega) ?_
       intro v2 w2 hown2 hg2 hat2
       have hB2 : Below w.heap.size w w2 := (hB1.alloc hB1.size _).grown hg2 (by rw [alloc_size]; have := hB1.size; omega) hown1.own_ge)
    | (refine app_bytes rfl (.tmp 25) (.tmp 26) rfl w.heap.size (l ++ be4 m.length) m hown2 (hb.below hB2) (by simp [be4_length]; omega) (hB2.size) ?_
       intro v3 w3 hown3 hg3 hat3
       have hB3 : Below w.heap.size w w3 := hB2.grown hg3 hB2.size hown2.own_ge))
  go_ret
  exact ⟨v3, rfl, hown3, hB3⟩

end Go.Proofs.Ytjeeiaelicekhaa
