/- The reference's Feed. -/
import Derived.Test.YtjeeiaelicekhaaSame
namespace Go.Proofs.Ytjeeiaelicekhaa
open Go.RowKit

theorem rfeed_broken (w : World) (r m : Nat) (L : List UInt8) (v : Value) (h : Ref w r m L true) :
    Calls Try.prog 13 #[.pointer (some ⟨r, 0, none⟩), v] w fun e w' => e = .returned (.tuple #[.slice none 0 0, .int .i64 5]) ∧ w' = w := by
  obtain ⟨v, hr, A, c, rfl, hc, hm, hA⟩ := h
  clear hA
  obtain ⟨_, _, q1, _⟩ := three hr
  go_enter Try.func13, Try.ntmps13
  go_wp2_with fail
  go_ret2
  exact ⟨rfl, rfl⟩

theorem Ref.hlen {W : World} {r m : Nat} {L : List UInt8} {br : Bool} (h : Ref W r m L br) : hlen W r = L.length := by
  obtain ⟨v, hr, A, c, rfl, _⟩ := h
  simp [Ytjeeiaelicekhaa.hlen, (three hr).2.1]
theorem Ref.drewN {w : World} {r m : Nat} {L : List UInt8} {br : Bool} (h : Ref w r m L br) (n : Nat) : Ref (w.drewN n) r m L br := by
  obtain ⟨v, hr, hv⟩ := h
  exact ⟨v, by simpa using hr, hv.drewN n⟩

theorem be_sum (d0 d1 d2 d3 : Nat) (u0 : d0 < 256) (u1 : d1 < 256) (u2 : d2 < 256) (u3 : d3 < 256) :
    bits BinOp.or IntKind.u64 (bits BinOp.or IntKind.u64 (bits BinOp.or IntKind.u64 ((d0 : Int) * 16777216) ((d1 : Int) * 65536)) ((d2 : Int) * 256)) (d3 : Int) = ((((d0 * 256 + d1) * 256 + d2) * 256 + d3 : Nat) : Int) := by
  have e0 : (d0 : Int) * 16777216 = ((d0 * 16777216 : Nat) : Int) := by omega
  have e1 : (d1 : Int) * 65536 = ((d1 * 65536 : Nat) : Int) := by omega
  have e2 : (d2 : Int) * 256 = ((d2 * 256 : Nat) : Int) := by omega
  obtain ⟨x, hx⟩ : ∃ x, d0 * 256 + d1 = x := ⟨_, rfl⟩
  obtain ⟨y, hy⟩ : ∃ y, x * 256 + d2 = y := ⟨_, rfl⟩
  have e3 : d0 * 16777216 + d1 * 65536 = x * 65536 := by rw [← hx, Nat.add_mul, Nat.mul_assoc]
  have e4 : x * 65536 + d2 * 256 = y * 256 := by rw [← hy, Nat.add_mul, Nat.mul_assoc]
  have b1 : x < 65536 := by omega
  have b2 : y < 16777216 := by omega
  rw [hx, hy, e0, e1, e2, or_nat d0 (d1 * 65536) 24 16777216 (by simp) (by omega) (by omega) (by omega), e3, or_nat x (d2 * 256) 16 65536 (by simp) (by omega) (by omega) (by omega), e4, or_nat y d3 8 256 (by simp) (by omega) (by omega) (by omega)]

theorem lists_facts {w W0 w5 : World} {A6 A7 : Option Addr} {c6 c7 p : Nat} {xs : List (Value × List UInt8)} (hl : Lst w.heap.size W0 (.slice A6 xs.length c6) xs) (hB : Below W0.heap.size W0 w5) (hs : w.heap.size ≤ W0.heap.size) (hx : xs.length ≤ 1000000000000) :
    Row w.heap.size (w5.alloc (.cells #[.slice A7 p c7] 31)) 31 (.slice A6 xs.length c6) (xs.map (·.1)) ∧ Src (w5.alloc (.cells #[.slice A7 p c7] 31)) (.slice (some ⟨w5.heap.size, 0, none⟩) 1 1) [.slice A7 p c7] ∧
      (∀ u ∈ [Value.slice A7 p c7], u.oneCell' = true) ∧ ((xs.map (·.1)).length + [Value.slice A7 p c7].length) * 24 ≤ 140737488355328 ∧ w.heap.size ≤ (w5.alloc (.cells #[.slice A7 p c7] 31)).heap.size := by
  refine ⟨(hl.1.below hB).below (alloc_below _ _), src_cells _ 31 _ 1 (Nat.le_refl _) (heap_alloc_new _ _), fun u hu => ?_, ?_, ?_⟩
  · rw [List.mem_singleton.1 hu]
    rfl
  · rw [List.length_map, List.length_singleton]
    omega
  · rw [alloc_size]
    have := hB.size
    omega

theorem rstep {w W0 w1 w5 : World} {r m : Nat} {xs : List (Value × List UInt8)} {out out' V v1 : Value} {p : List UInt8} {o : Obj} (hrw : r < w.heap.size) (hg : w.grownBy W0 (some r)) (hl : Lst w.heap.size W0 out xs)
    (hr0 : W0.heap[r]? = some (.cells #[.int .i64 (m : Int), V, .bool false] 38 (0, 0))) (hB1 : Below W0.heap.size W0 w1) (hx : Byt w1 v1 p) (hg5 : (w1.alloc o).grownBy w5 out.ownBlock)
    (hown5 : Row w.heap.size w5 31 out' (xs.map (·.1) ++ [v1])) :
    w5.heap[r]? = W0.heap[r]? ∧ Keep5 W0 w5 ∧ ∀ V2 L2, Byt w5 V2 L2 → Ref (w5.setCell ⟨r, 1, none⟩ V2) r m L2 false ∧ Lst w.heap.size (w5.setCell ⟨r, 1, none⟩ V2) out' (xs ++ [(v1, p)]) ∧ w.grownBy (w5.setCell ⟨r, 1, none⟩ V2) (some r) := by
  have hrW : r < W0.heap.size := Nat.lt_of_lt_of_le hrw hg.size
  have hown : ∀ k, out.ownBlock = some k → w.heap.size ≤ k ∧ ∃ cs, (w1.alloc o).heap[k]? = some (.cells cs 31 (0, 0)) := fun k hk => by
    obtain ⟨h1, cs, h2⟩ := hl.1.block hk
    have h3 := (hB1.block k (Array.getElem?_eq_some_iff.1 h2).1).trans h2
    exact ⟨h1, cs, (Below.heap_alloc _ _ _ (Array.getElem?_eq_some_iff.1 h3).1).trans h3⟩
  have hr1 : w1.heap[r]? = W0.heap[r]? := hB1.block r hrW
  have hr1s : r < w1.heap.size := Nat.lt_of_lt_of_le hrW hB1.size
  have hr5 : w5.heap[r]? = W0.heap[r]? := ((hg5.block r (by rw [alloc_size]; omega) (fun e => by have := (hown r e.symm).1; omega)).trans (Below.heap_alloc _ _ _ hr1s)).trans hr1
  have k15 : Keep5 (w1.alloc o) w5 := fun b cs hb => (hg5.block b (Array.getElem?_eq_some_iff.1 hb).1 (fun e => by
    obtain ⟨_, cs', h⟩ := hown b e.symm
    rw [hb] at h
    cases h)).trans hb
  have k01 : Keep5 W0 (w1.alloc o) := (keep5_below hB1).trans (keep5_below (alloc_below _ _))
  refine ⟨hr5, k01.trans k15, fun V2 L2 hV => ?_⟩
  have hr5' := hr5.trans hr0
  have s2 := (set_heap hr5' V2).1
  have k56 : Keep5 w5 (w5.setCell ⟨r, 1, none⟩ V2) := keep5_grown (set_grown _ _ _ _) ⟨_, 38, hr5', by decide⟩
  refine ⟨⟨_, s2, hV.keep k56⟩, ⟨?_, fun x hx' => ?_⟩, ?_⟩
  · rw [List.map_append]
    refine hown5.cells fun g cur hv hgc => ((set_grown w5 r 1 V2).block g (Array.getElem?_eq_some_iff.1 hgc).1 ?_).trans hgc
    have := (hown5.block hv).1
    simp
    omega
  · rcases List.mem_append.1 hx' with h | h
    · exact (hl.2 x h).keep ((k01.trans k15).trans k56)
    · rw [List.mem_singleton.1 h]
      exact hx.keep (((keep5_below (alloc_below _ _)).trans k15).trans k56)
  · refine grown_trans ?_ (set_grown _ _ _ _)
    have h1 : w.grownBy (w1.alloc o) (some r) := grown_trans (grown_trans hg (grown_below hB1)) (grown_below (alloc_below w1 o))
    exact ⟨hg5.os.trans h1.os, hg5.tape.trans h1.tape, hg5.output.trans h1.output, Nat.le_trans h1.size hg5.size, fun k hk hn => (hg5.block k (Nat.lt_of_lt_of_le hk h1.size) (fun e => by have := (hown k e.symm).1; omega)).trans (h1.block k hk hn)⟩

theorem num4 (L : List UInt8) (h : 4 ≤ L.length) : num (L.take 4) = ((L[0].toNat * 256 + L[1].toNat) * 256 + L[2].toNat) * 256 + L[3].toNat := by
  match L, h with
  | a :: b :: c :: d :: t, _ => simp [num]

def RInv (w : World) (r m : Nat) (M : List UInt8) (out : Value) (wr : World) : Prop :=
  ∃ xs L', Ref wr r m L' false ∧ Lst w.heap.size wr out xs ∧ xs.map (·.2) ++ (parse m L').1 = (parse m M).1 ∧ (parse m L').2 = (parse m M).2 ∧ w.grownBy wr (some r) ∧ 4 * xs.length + L'.length ≤ M.length

set_option maxRecDepth 100000 in
set_option maxHeartbeats 2000000 in
theorem rfeed_ok (w : World) (r m : Nat) (L b : List UInt8) (v : Value) (h : Ref w r m L false) (hm : m < 9223372036854775808) (hv : Src w v (cel b)) (hL : L.length ≤ 1000000000) (hb : b.length ≤ 1000000000) (hrw : r < w.heap.size) :
    Calls Try.prog 13 #[.pointer (some ⟨r, 0, none⟩), v] w fun e w' => ∃ u xs, e = .returned (.tuple #[u, .int .i64 (Err (parse m (L ++ b)).2.2)]) ∧ Lst w.heap.size w' u xs ∧ xs.map (·.2) = (parse m (L ++ b)).1 ∧ Ref w' r m (parse m (L ++ b)).2.1 (parse m (L ++ b)).2.2 ∧ w.grownBy w' (some r) := by
  obtain ⟨V, hr, hV⟩ := id h
  obtain ⟨A, c, rfl, hc, hcm, hA⟩ := id hV
  obtain ⟨A', c', rfl, hc', hA'⟩ := id hv
  clear hA hA'
  simp only [cel_length] at hv hc'
  obtain ⟨q0, q1, q2, f0, f1, f2⟩ := three hr
  rw [cel_length]
  have hV0 := hV.src.below (alloc_below w (.cells #[] 5))
  have hr0 : (w.alloc (.cells #[] 5)).heap[r]? = some (.cells #[.int .i64 (m : Int), .slice A L.length c, .bool false] 38 (0, 0)) := (Below.heap_alloc _ _ _ hrw).trans hr
  obtain ⟨z0, z1, z2, y0, y1, y2⟩ := three hr0
  clear hr0
  go_enter Try.func13, Try.ntmps13
  go_wp2_with (at_builtin; first
    | (refine app_bytes rfl (.tmp 13) (.tmp 17) rfl w.heap.size [] L (row_empty 5 (Nat.le_refl _)) hV0 (by simp; omega) (by simp) ?_
       intro v1 w1 hown1 hg1 hat1
       have hB1 : Below w.heap.size w w1 := (alloc_below _ _).grown hg1 (by simp) (fun k e => by cases e; exact Nat.le_refl _))
    | (refine app_bytes rfl (.tmp 18) (.tmp 19) rfl w.heap.size L b hown1 (hv.below hB1) (by omega) hB1.size ?_
       intro v2 w2 hown2 hg2 hat2
       have hB2 : Below w.heap.size w w2 := hB1.grown hg2 hB1.size hown1.own_ge
       have hr2 := (hB2.block r hrw).trans hr
       clear hg1 hat1 hg2 hat2
       obtain ⟨p0, p1, p2, g0, g1, g2⟩ := three hr2
       obtain ⟨A2, c2, rfl⟩ := hown2.slice))
  rw [cel_length] at hown2 ⊢
  have hMl : (L ++ b).length ≤ 2000000000 := by rw [List.length_append]; omega
  generalize hLb : L ++ b = M at *
  have HLb := Lib.hid hLb
  clear hLb
  have hbt : Byt w2 (.slice A2 M.length c2) M := hown2.byt
  have s2 := (set_heap hr2 (.slice A2 M.length c2)).1
  have hk1 : Keep5 w2 (w2.setCell ⟨r, 1, none⟩ (.slice A2 M.length c2)) := keep5_grown (set_grown _ _ _ _) ⟨_, 38, hr2, by decide⟩
  have hg1 : w.grownBy (w2.setCell ⟨r, 1, none⟩ (.slice A2 M.length c2)) (some r) := grown_trans (grown_below hB2) (set_grown _ _ _ _)
  have h0 : RInv w r m M (.slice none 0 0) (w2.setCell ⟨r, 1, none⟩ (.slice A2 M.length c2)) := ⟨[], M, ⟨_, s2, hbt.keep hk1⟩, ⟨row_none _ _ _, by simp⟩, rfl, rfl, hg1, by simp⟩
  clear s2 hk1 hg1 hbt hown2 hB2 hr2 p0 p1 p2 g0 g1 g2 hown1 hB1 hr h q0 q1 q2 f0 f1 f2 hv hV z0 z1 z2 y0 y1 y2 hV0
  go_loopw [6] (fun out wr => RInv w r m M out wr) (fun _ wr => hlen wr r)
  case atStart => exact h0
  case round =>
    clear h0
    obtain ⟨xs, L', hR, hl, hp1, hp2, hg, hlen⟩ := hrel
    obtain ⟨V, hr, hV⟩ := id hR
    obtain ⟨A3, cp, rfl, hc3, hcm3, hA3⟩ := id hV
    clear hA3
    obtain ⟨q0, q1, q2, f0, f1, f2⟩ := three hr
    by_cases c1 : L'.length < 4
    · rw [parse_short c1] at hp1 hp2
      go_wp2_with fail
      go_ret2
      rw [HLb.out, ← hp2]
      exact ⟨_, rfl, xs, hl, by simpa using hp1, hR, hg⟩
    · obtain ⟨bb, off, c9, e, z0⟩ := hV.at 0 (by omega)
      cases e
      obtain ⟨_, _, _, e, z1⟩ := hV.at 1 (by omega)
      cases e
      obtain ⟨_, _, _, e, z2⟩ := hV.at 2 (by omega)
      cases e
      obtain ⟨_, _, _, e, z3⟩ := hV.at 3 (by omega)
      cases e
      rw [Nat.add_zero] at z0
      have hn4 := num4 L' (by omega)
      have u0 := L'[0].toNat_lt
      have u1 := L'[1].toNat_lt
      have u2 := L'[2].toNat_lt
      have u3 := L'[3].toNat_lt
      generalize L'[0].toNat = d0 at *
      generalize L'[1].toNat = d1 at *
      generalize L'[2].toNat = d2 at *
      generalize L'[3].toNat = d3 at *
      have i1 : (4 : Int) ≤ (L'.length : Int) := by omega
      have i2 : (0 : Int) < (L'.length : Int) := by omega
      have i3 : (1 : Int) < (L'.length : Int) := by omega
      have i4 : (2 : Int) < (L'.length : Int) := by omega
      have i5 : (3 : Int) < (L'.length : Int) := by omega
      have HN := Lib.hid hn4
      clear hn4
      obtain ⟨d, hd⟩ : ∃ d, L'.length = d + 4 := ⟨L'.length - 4, by omega⟩
      have w1 : RowKit.wrap64 ((L'.length : Int) - 4) = (d : Int) := by
        rw [hd]
        simp only [RowKit.wrap64, maxLen] at *
        omega
      have w2 : IntKind.u64.wrap (d : Int) = (d : Int) := wrap64 _ (by simp only [maxLen] at *; omega)
      have HD := Lib.hid hd
      clear hd
      go_wp2_with fail
      go_quiet (fail)
      have hR0 := hR.drewN nq
      have hV0 := hV.drewN nq
      have hl0 : Lst w.heap.size (wr.drewN nq) _ xs := ⟨hl.1.cells fun g cur _ h => by simpa using h, fun x hx => (hl.2 x hx).drewN nq⟩
      have hg0 : w.grownBy (wr.drewN nq) (some r) := ⟨hg.os, hg.tape, hg.output, hg.size, hg.block⟩
      have hr0 : (wr.drewN nq).heap[r]? = _ := (by simp : (wr.drewN nq).heap[r]? = wr.heap[r]?).trans hr
      have HH := Lib.hid hR.hlen
      clear hR hV hl hg hr q0 q1 q2 f0 f1 f2
      have hl := hl0
      have hg := hg0
      obtain ⟨W0, hW0⟩ : ∃ W0, wr.drewN nq = W0 := ⟨_, rfl⟩
      rw [hW0] at hR0 hV0 hl hg hr0 ⊢
      clear hl0 hg0 hW0
      obtain ⟨q0, q1, q2, f0, f1, f2⟩ := three hr0
      rw [be_sum d0 d1 d2 d3 u0 u1 u2 u3, ← HN.out]
      have hk4 : num (L'.take 4) < 4294967296 := by rw [HN.out]; omega
      clear z0 z1 z2 z3 u0 u1 u2 u3 HN
      by_cases c2 : m < num (L'.take 4)
      · rw [parse_big c1 c2] at hp1 hp2
        generalize num (L'.take 4) = k at *
        go_wp2_with fail
        go_ret2
        rw [HLb.out, ← hp2]
        have s1 := (set_heap hr0 (.bool true)).2
        have s2 := (set_heap s1 (.slice none 0 0)).1
        have k56 : Keep5 W0 ((W0.setCell ⟨r, 2, none⟩ (.bool true)).setCell ⟨r, 1, none⟩ (.slice none 0 0)) := (keep5_grown (set_grown _ _ _ _) ⟨_, 38, hr0, by decide⟩).trans (keep5_grown (set_grown _ _ _ _) ⟨_, 38, s1, by decide⟩)
        have g56 : W0.grownBy ((W0.setCell ⟨r, 2, none⟩ (.bool true)).setCell ⟨r, 1, none⟩ (.slice none 0 0)) (some r) := grown_trans (set_grown _ _ _ _) (set_grown _ _ _ _)
        refine ⟨_, rfl, xs, ⟨hl.1.cells fun g cur hv hgc => (g56.block g (Array.getElem?_eq_some_iff.1 hgc).1 ?_).trans hgc, fun x hx => (hl.2 x hx).keep k56⟩, by simpa using hp1, ⟨_, s2, (row_none 0 _ 5).byt⟩, grown_trans hg g56⟩
        have := (hl.1.block hv).1
        simp
        omega
      · by_cases c3 : L'.length - 4 < num (L'.take 4)
        · rw [parse_part c1 c2 c3] at hp1 hp2
          generalize num (L'.take 4) = k at *
          go_wp2_with fail
          go_ret2
          rw [HLb.out, ← hp2]
          exact ⟨_, rfl, xs, hl, by simpa using hp1, hR0, hg⟩
        · rw [parse_one c1 c2 c3] at hp1 hp2
          have hkl : 4 + num (L'.take 4) ≤ L'.length := by omega
          have b1 := hV0.part 4 (num (L'.take 4)) hkl
          have b2 := hV0.tail (4 + num (L'.take 4)) hkl
          generalize num (L'.take 4) = k at *
          have c4 : ¬ d < k := by have := HD.out; omega
          have hpl : ((L'.drop 4).take k).length = k := by rw [List.length_take, List.length_drop]; omega
          generalize (L'.drop 4).take k = p at *
          have HP := Lib.hid hpl
          clear hpl
          obtain ⟨A6, c6, rfl⟩ := hl.1.slice
          rw [List.length_map] at hl
          have hrW : r < W0.heap.size := Nat.lt_of_lt_of_le hrw hg.size
          have hra := (Below.heap_alloc W0 (.cells #[] 5) r hrW).trans hr0
          obtain ⟨s0, s1, s2, t0, t1, t2⟩ := three hra
          have HL := Lib.hid hl
          have HG := Lib.hid hg
          have HR := Lib.hid hr0
          have hw0 := hg.size
          clear hl hg hr0 hra
          have key : (cp = 4 ∧ k = 0) ∨ (cp ≠ 4 ∧ cp = 4 + k) ∨ (cp ≠ 4 ∧ cp ≠ 4 + k) := by omega
          rcases key with ⟨rfl, rfl⟩ | ⟨k1, rfl⟩ | ⟨k1, k2⟩
          all_goals
            go_wp2_with (at_builtin; first
              | (refine app_bytes rfl (.tmp 88) (.tmp 95) rfl W0.heap.size [] p (row_empty 5 (Nat.le_refl _)) (by refine Src.below ?_ (alloc_below _ _); refine Byt.src ?_; simp [Act.eval]; refine b1 _ _ ?_ ?_ ?_ <;> first | omega | exact .inl trivial) (by have := HP.out; rw [List.length_nil]; omega) (by simp) ?_
                 intro v5 w5 hown5 hg5 hat5
                 rw [List.nil_append] at hown5
                 obtain ⟨A7, c7, rfl⟩ := hown5.slice
                 rw [cel_length] at hown5 ⊢
                 have HB5 := Lib.hid ((alloc_below W0 (.cells #[] 5)).grown hg5 (by simp) (fun k e => by cases e; exact Nat.le_refl _))
                 have HX := Lib.hid hown5.byt
                 have HF := Lib.hid (lists_facts (A7 := A7) (c7 := c7) (p := p.length) HL.out HB5.out hw0 (by omega))
                 clear hown5 hg5 hat5)
              | (refine app_lists rfl (.tmp 87) (.tmp 97) rfl w.heap.size _ _ HF.out.1 HF.out.2.1 HF.out.2.2.1 HF.out.2.2.2.1 HF.out.2.2.2.2 ?_
                 intro v8 w8 hown8 hg8 hat8
                 obtain ⟨A8, c8, rfl⟩ := hown8.slice
                 rw [List.length_append, List.length_map, List.length_singleton] at hown8 ⊢
                 obtain ⟨x1, x2, x3⟩ := rstep hrw HG.out HL.out HR.out HB5.out HX.out hg8 hown8
                 have hr8 := x1.trans HR.out
                 obtain ⟨n0, n1, n2, m0, m1, m2⟩ := three hr8
                 have X2 := Lib.hid x2
                 have X3 := Lib.hid x3
                 clear hown8 hg8 hat8 x1 x2 x3 hr8))
          · obtain ⟨y1, y2, y3⟩ := X3.out (.slice (some ⟨bb, off, none⟩) 0 0) (L'.drop (4 + 0)) (by rw [List.drop_eq_nil_of_le (by omega)]; exact byt_nil _ _ _ (Nat.zero_le _))
            refine ⟨⟨xs ++ [(.slice A7 p.length c7, p)], L'.drop (4 + 0), y1, y2, by rw [List.map_append, List.append_assoc]; exact hp1, hp2, y3, by rw [List.length_append, List.length_drop, List.length_singleton]; omega⟩, ?_⟩
            rw [y1.hlen, HH.out, List.length_drop]
            omega
          · obtain ⟨y1, y2, y3⟩ := X3.out (.slice (some ⟨bb, off, none⟩) 0 0) (L'.drop (4 + k)) (by rw [List.drop_eq_nil_of_le (by omega)]; exact byt_nil _ _ _ (Nat.zero_le _))
            refine ⟨⟨xs ++ [(.slice A7 p.length c7, p)], L'.drop (4 + k), y1, y2, by rw [List.map_append, List.append_assoc]; exact hp1, hp2, y3, by rw [List.length_append, List.length_drop, List.length_singleton]; omega⟩, ?_⟩
            rw [y1.hlen, HH.out, List.length_drop]
            omega
          · obtain ⟨y1, y2, y3⟩ := X3.out _ _ ((b2 _ (cp - (4 + k)) (.inr rfl) (by omega) (by omega)).keep X2.out)
            refine ⟨⟨xs ++ [(.slice A7 p.length c7, p)], L'.drop (4 + k), y1, y2, by rw [List.map_append, List.append_assoc]; exact hp1, hp2, y3, by rw [List.length_append, List.length_drop, List.length_singleton]; omega⟩, ?_⟩
            rw [y1.hlen, HH.out, List.length_drop]
            omega

end Go.Proofs.Ytjeeiaelicekhaa
