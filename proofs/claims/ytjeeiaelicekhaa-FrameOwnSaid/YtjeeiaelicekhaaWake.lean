/- wakes. -/
import Derived.Test.YtjeeiaelicekhaaRef
import Derived.Lib.SmallJoins
namespace Go.Proofs.Ytjeeiaelicekhaa
open Go.RowKit

theorem parse_w : parse 10 [0, 0, 0, 2, 97, 98, 0] = ([[97, 98]], [0], false) := by
  rw [parse_one (by decide) (by decide) (by decide)]
  have e : num (List.take 4 [0, 0, 0, 2, 97, 98, 0]) = 2 := by decide
  rw [e, show List.drop (4 + 2) ([0, 0, 0, 2, 97, 98, 0] : List UInt8) = [0] from rfl, parse_short (by decide)]
  rfl

theorem Rdr.below {w w' : World} {r m : Nat} {L : List UInt8} {br : Bool} (h : Rdr w r m L br) (hb : Below w.heap.size w w') : Rdr w' r m L br := by
  obtain ⟨v, hr, hv⟩ := h
  exact ⟨v, (hb.block r (Array.getElem?_eq_some_iff.1 hr).1).trans hr, hv.keep (keep5_below hb)⟩

theorem src_new (w : World) (xs : List Value) (e : TypeId) (fr : Nat × Nat) (c : Nat) (hc : xs.length ≤ c) : Src (w.alloc (.cells xs.toArray e fr)) (.slice (some ⟨w.heap.size, 0, none⟩) xs.length c) xs :=
  ⟨_, _, rfl, hc, fun _ => ⟨_, rfl, fun j u hj => by
    rw [addr_add]
    simp only [World.cell?, heap_alloc_new, Nat.zero_add]
    simpa using hj⟩⟩

theorem wakes_any (w : World) : Calls Try.prog 10 #[] w fun e w' => e = .returned (.bool true) ∧ Below w.heap.size w w' := by
  go_enter Try.func10, Try.ntmps10
  go_wp2_with fail
  refine (new_any w 10 (by omega) (by omega)).mono ?_
  rintro e w1 ⟨rfl, rfl⟩
  go_wp2_with fail
  have hR : Rdr ((w.alloc (.cells #[.int .u64 10, .slice none 0 0, .bool false] 56)).alloc (.cells #[.int .u8 0, .int .u8 0, .int .u8 0, .int .u8 2, .int .u8 97, .int .u8 98, .int .u8 0] 5)) w.heap.size 10 [] false :=
    ⟨_, (Below.heap_alloc _ _ _ (by simp)).trans (heap_alloc_new _ _), byt_nil _ _ _ (Nat.zero_le _)⟩
  have hS : Src ((w.alloc (.cells #[.int .u64 10, .slice none 0 0, .bool false] 56)).alloc (.cells #[.int .u8 0, .int .u8 0, .int .u8 0, .int .u8 2, .int .u8 97, .int .u8 98, .int .u8 0] 5)) (.slice (some ⟨w.heap.size + 1, 0, none⟩) 7 7) (cel [0, 0, 0, 2, 97, 98, 0]) :=
    src_cells _ 5 _ 7 (Nat.le_refl _) (by have := heap_alloc_new (w.alloc (.cells #[.int .u64 10, .slice none 0 0, .bool false] 56)) (.cells #[.int .u8 0, .int .u8 0, .int .u8 0, .int .u8 2, .int .u8 97, .int .u8 98, .int .u8 0] 5); rw [alloc_size] at this; exact this)
  refine (feed_ok _ w.heap.size 10 [] [0, 0, 0, 2, 97, 98, 0] _ hR hS (by simp) (by simp) (by simp only [alloc_size]; omega)).mono ?_
  clear hR hS
  rintro e w3 ⟨u, xs, rfl, hl, ⟨hs1, hs2⟩, hg⟩
  simp only [List.nil_append, parse_w] at hs1 hs2 ⊢
  have hb3 : Below w.heap.size w w3 := (((Below.refl w.heap.size w).alloc (Nat.le_refl _) _).alloc (by simp) _).grown hg (by simp only [alloc_size]; omega) (fun k e => by cases e; exact Nat.le_refl _)
  match xs, hs1, hl with
  | [(V, l)], hs1, hl =>
    simp only [List.map_cons, List.map_nil, List.cons.injEq, and_true] at hs1
    subst hs1
    have hV : Byt w3 V [97, 98] := hl.2 _ (List.mem_singleton.2 rfl)
    obtain ⟨g, cp, rfl, g0⟩ : ∃ g cp, u = .slice (some ⟨g, 0, none⟩) 1 cp ∧ w3.cell? ⟨g, 0, none⟩ = some V := by
      rcases hl.1.form with ⟨_, h⟩ | ⟨g, cp, cur, h, _⟩
      · cases h
      · obtain ⟨A, c, e, hc, hA⟩ := hl.1.src
        rw [h] at e
        cases e
        obtain ⟨ad, e, hcell⟩ := hA (by simp)
        cases e
        have g0 := hcell 0 V rfl
        rw [addr_add] at g0
        exact ⟨g, cp, h, g0⟩
    have k1 := conv_byt hV
    have kc := fun (w : World) (C : Array Value) (n c : Nat) => Lib.run_convert_bytes_const (P := Try.prog) w 31 5 C n c Try.underlying31 Try.underlying5
    clear hl hV hg
    go_wp2_with (go_at_call 15; refine (held_any _ _ _ _ _ hs2).mono ?_; rintro e w' ⟨rfl, rfl⟩)
    refine (put_any _ _ _ [] [97, 98] (row_none 0 _ 5).src (src_new _ [.int .u8 97, .int .u8 98] 5 (2, 3) 2 (Nat.le_refl _)) (by simp) (by simp)).mono ?_
    rintro e w6 ⟨u, rfl, hu, hb6⟩
    have k2 := conv_byt hu.byt
    rw [show ([] ++ be4 ([97, 98] : List UInt8).length ++ [97, 98] : List UInt8) = [0, 0, 0, 2, 97, 98] from by decide] at k2
    have hb7 := hb3.trans (((alloc_below _ _).trans (hb6.mono (by simp))).mono hb3.size)
    go_wp2_with fail
    go_ret
    exact ⟨rfl, hb7⟩

end Go.Proofs.Ytjeeiaelicekhaa
