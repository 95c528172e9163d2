/- LeaseExact: the law's walk. -/
import Derived.Test.YtfmcpcciokogiaaSide
import Derived.Deep.RegionHeld
namespace Go.Proofs.Ytfmcpcciokogiaa
open Go.RowKit Fl

/-- Behind k rounds of the making. -/
def Made (w : World) (k : Nat) (wr : World) : Prop :=
  w.heap.size + 2 ≤ wr.heap.size ∧ Turned (fun j => w.heap.size ≤ j) w wr ∧
    ((k = 0 ∧ wr.heap[w.heap.size]? = some (.cells #[.pointer none, .pointer none] 54 (0, 0)) ∧ wr.heap[w.heap.size + 1]? = some (.cells #[.pointer none, .pointer none] 56 (0, 0))) ∨
      (k = 1 ∧ ∃ h r G, wr.heap[w.heap.size]? = some (.cells #[ptr h, .pointer none] 54 (0, 0)) ∧ wr.heap[w.heap.size + 1]? = some (.cells #[ptr r, .pointer none] 56 (0, 0)) ∧ Pair wr G h r 0 ∧ ∀ j, G j → w.heap.size + 2 ≤ j) ∨
      (k = 2 ∧ Both w 0 wr))

/-- The stores into the arrays. -/
theorem arr_facts {w1 : World} {A i : Nat} {cs ds : Array Value} {x y : Value} (o : Obj) (hA : w1.heap[A]? = some (.cells cs 54 (0, 0))) (hB : w1.heap[A + 1]? = some (.cells ds 56 (0, 0))) (hi : i < cs.size) (hj : i < ds.size) :
    (w1.alloc o).cell? ⟨A, i, none⟩ = some cs[i] ∧ (w1.alloc o).frozen? ⟨A, i, none⟩ = false ∧ ((w1.alloc o).setCell ⟨A, i, none⟩ x).cell? ⟨A + 1, i, none⟩ = some ds[i] ∧ ((w1.alloc o).setCell ⟨A, i, none⟩ x).frozen? ⟨A + 1, i, none⟩ = false ∧
      (((w1.alloc o).setCell ⟨A, i, none⟩ x).setCell ⟨A + 1, i, none⟩ y).heap[A]? = some (.cells (cs.setIfInBounds i x) 54 (0, 0)) ∧
      (((w1.alloc o).setCell ⟨A, i, none⟩ x).setCell ⟨A + 1, i, none⟩ y).heap[A + 1]? = some (.cells (ds.setIfInBounds i y) 56 (0, 0)) := by
  have a2 : (w1.alloc o).heap[A]? = some (.cells cs 54 (0, 0)) := (Below.heap_alloc _ _ _ (Array.getElem?_eq_some_iff.1 hA).1).trans hA
  have b2 : (w1.alloc o).heap[A + 1]? = some (.cells ds 56 (0, 0)) := (Below.heap_alloc _ _ _ (Array.getElem?_eq_some_iff.1 hB).1).trans hB
  have b3 : ((w1.alloc o).setCell ⟨A, i, none⟩ x).heap[A + 1]? = some (.cells ds 56 (0, 0)) := (set_off x (by omega)).trans b2
  have a3 : ((w1.alloc o).setCell ⟨A, i, none⟩ x).heap[A]? = some (.cells (cs.setIfInBounds i x) 54 (0, 0)) := set_at a2 x
  refine ⟨?_, ?_, ?_, ?_, (set_off y (by omega)).trans a3, set_at b3 y⟩
  · simp [World.cell?, a2, hi]
  · simp [World.frozen?, a2]
  · simp [World.cell?, b3, hj]
  · simp [World.frozen?, b3]

theorem made_one {w wr w4 w5 : World} {h r m : Nat} (hs : w.heap.size + 2 ≤ wr.heap.size) (t0 : Turned (fun j => w.heap.size ≤ j) w wr) (a : w4.heap[w.heap.size]? = some (.cells #[ptr h, .pointer none] 54 (0, 0))) (b : w4.heap[w.heap.size + 1]? = some (.cells #[ptr r, .pointer none] 56 (0, 0)))
    (p : Pair w4 (fun k => wr.heap.size ≤ k ∧ k < m) h r 0 ∧ Turned (fun k => k = w.heap.size ∨ k = w.heap.size + 1) wr w4 ∧ w4.heap.size = m) (hb : Below w4.heap.size w4 w5) : Made w 1 w5 := by
  have h1 := p.2.1.2.2.2.1
  have h2 := hb.size
  refine ⟨by omega, (t0.trans (p.2.1.mono fun j q => by omega)).trans ((below_turned hb).mono fun j q => by omega), .inr (.inl ⟨rfl, h, r, _, (hb.block _ (by omega)).trans a, (hb.block _ (by omega)).trans b, p.1.below hb, fun j q => by omega⟩)⟩
theorem made_two {w wr w4 w5 : World} {h r m h0 r0 : Nat} {G : Nat → Prop} (hs : w.heap.size + 2 ≤ wr.heap.size) (t0 : Turned (fun j => w.heap.size ≤ j) w wr) (p0 : Pair wr G h0 r0 0) (g0 : ∀ j, G j → w.heap.size + 2 ≤ j) (a : w4.heap[w.heap.size]? = some (.cells #[ptr h0, ptr h] 54 (0, 0)))
    (b : w4.heap[w.heap.size + 1]? = some (.cells #[ptr r0, ptr r] 56 (0, 0))) (p : Pair w4 (fun k => wr.heap.size ≤ k ∧ k < m) h r 0 ∧ Turned (fun k => k = w.heap.size ∨ k = w.heap.size + 1) wr w4 ∧ w4.heap.size = m) (hb : Below w4.heap.size w4 w5) : Both w 0 w5 := by
  have h1 := p.2.1.2.2.2.1
  have h2 := hb.size
  have a5 := (hb.block _ (by omega)).trans a
  have b5 := (hb.block _ (by omega)).trans b
  obtain ⟨x0, x1, _⟩ := two_cells a5
  obtain ⟨y0, y1, _⟩ := two_cells b5
  exact ⟨h0, r0, G, 0, by omega, x0, y0, (p0.keep p.2.1 fun k q1 q2 => by have := g0 k q1; omega).below hb, Nat.le_refl _, g0, by omega, (t0.trans (p.2.1.mono fun j q => by omega)).trans ((below_turned hb).mono fun j q => by omega),
    h, r, _, 0, x1, y1, p.1.below hb, Nat.le_refl _, fun j q => by omega, fun j q1 q2 => by have := p0.size j q1; omega⟩

/-- Behind the heap's Due. -/
theorem fin_due {w w1 w5 : World} {h r : Nat} {Gh Gr : Nat → Prop} {L : List It} (hd : ∀ k, Gh k → ¬ Gr k) (g1 : ∀ k, Gh k → w.heap.size + 2 ≤ k) (hr : RP w1 Gr r (pr L)) (t : Turned Gh w1 w5) (hs : w.heap.size + 2 ≤ w1.heap.size)
    (k : w1.cell? ⟨w.heap.size, 0, none⟩ = some (.pointer (some ⟨h, 0, none⟩)) ∧ w1.cell? ⟨w.heap.size + 1, 0, none⟩ = some (.pointer (some ⟨r, 0, none⟩))) (tw : Turned (fun j => w.heap.size ≤ j) w w1) :
    (w5.cell? ⟨w.heap.size, 0, none⟩ = some (.pointer (some ⟨h, 0, none⟩)) ∧ w5.cell? ⟨w.heap.size + 1, 0, none⟩ = some (.pointer (some ⟨r, 0, none⟩))) ∧ RP w5 Gr r (pr L) ∧ Turned (fun j => w.heap.size ≤ j) w w5 ∧ w.heap.size + 2 ≤ w5.heap.size := by
  have hc : ∀ b o, b < w.heap.size + 2 → w5.cell? ⟨b, o, none⟩ = w1.cell? ⟨b, o, none⟩ := fun b o hb => World.cell?_of_block (t.2.2.2.2 b (by omega) (fun q => by have := g1 b q; omega))
  have := t.2.2.2.1
  exact ⟨⟨(hc _ _ (by omega)).trans k.1, (hc _ _ (by omega)).trans k.2⟩, hr.keep t fun j q1 q2 => hd j q2 q1, tw.trans (t.mono fun j q => by have := g1 j q; omega), by omega⟩
theorem fin_rdue {w w5 w6 : World} {h r T B : Nat} {Gh Gr : Nat → Prop} {L : List It} {v5 : Value} {J : List ByteArray} (hd : ∀ k, Gh k → ¬ Gr k) (g2 : ∀ k, Gr k → w.heap.size + 2 ≤ k) (g3 : ∀ k, Gr k → k < B) (hh : HS w5 Gh h L T) (hv : Row B w5 9 v5 (tv J)) (t : Turned Gr w5 w6) (hs : w.heap.size + 2 ≤ w5.heap.size)
    (k : w5.cell? ⟨w.heap.size, 0, none⟩ = some (.pointer (some ⟨h, 0, none⟩)) ∧ w5.cell? ⟨w.heap.size + 1, 0, none⟩ = some (.pointer (some ⟨r, 0, none⟩))) (tw : Turned (fun j => w.heap.size ≤ j) w w5) :
    (w6.cell? ⟨w.heap.size, 0, none⟩ = some (.pointer (some ⟨h, 0, none⟩)) ∧ w6.cell? ⟨w.heap.size + 1, 0, none⟩ = some (.pointer (some ⟨r, 0, none⟩))) ∧ HS w6 Gh h L T ∧ Turned (fun j => w.heap.size ≤ j) w w6 ∧ Src w6 v5 (tv J) := by
  have hc : ∀ b o, b < w.heap.size + 2 → w6.cell? ⟨b, o, none⟩ = w5.cell? ⟨b, o, none⟩ := fun b o hb => World.cell?_of_block (t.2.2.2.2 b (by omega) (fun q => by have := g2 b q; omega))
  exact ⟨⟨(hc _ _ (by omega)).trans k.1, (hc _ _ (by omega)).trans k.2⟩, hh.keep t fun j q1 q2 => hd j q1 q2, tw.trans (t.mono fun j q => by have := g2 j q; omega), (hv.turned t g3).src⟩

set_option maxRecDepth 100000 in
set_option maxHeartbeats 4000000 in
theorem exact_walk (a : Option Addr) (len cap : Nat) (w : World) (on dO : Nat → Int) (key : Nat → ByteArray) (fl : Nat → Nat) (hp : Acts w a len on dO key fl) :
    Calls Try.prog 7 #[.slice a len cap] w fun e w' => e = .returned (.bool true) ∧ Below w.heap.size w w' := by
  have HP := Lib.hid hp
  have h0 : Made w 0 ((w.alloc (.cells #[.pointer none, .pointer none] 54)).alloc (.cells #[.pointer none, .pointer none] 56)) := ⟨by rw [alloc_size, alloc_size]; omega, (Turned.alloc _ _).trans (Turned.alloc _ _), .inl ⟨rfl,
    (Below.heap_alloc _ _ _ (by rw [alloc_size]; omega)).trans (heap_alloc_new _ _), by
      have := heap_alloc_new (w.alloc (.cells #[.pointer none, .pointer none] 54)) (.cells #[.pointer none, .pointer none] 56)
      rwa [alloc_size] at this⟩⟩
  clear hp
  go_enter Try.func7, Try.ntmps7
  go_upto_block 0 with fail
  generalize (w.alloc (.cells #[.pointer none, .pointer none] 54)).alloc (.cells #[.pointer none, .pointer none] 56) = wa at *
  go_cut [] (fun wx => Both w 0 wx)
  case first =>
    go_wp2_with fail
    go_loopw [5] (fun i wr => ∃ k : Nat, i = .int .i64 k ∧ k ≤ 2 ∧ Made w k wr) (fun i _ => 2 - (intOf i).toNat)
    case atStart => exact ⟨0, rfl, by omega, h0⟩
    case round =>
      clear h0
      obtain ⟨k, rfl, hk, hs0, t0, hm⟩ := hrel
      rcases hm with ⟨rfl, a0, b0⟩ | ⟨rfl, h, r, G, a0, b0, p0, g0⟩ | ⟨rfl, hb⟩
      · go_wp2_with fail
        refine (new_any wr).mono ?_
        rintro e w1 ⟨rfl, h1, hb1, hs1⟩
        have a1 := (hb1.block _ (by omega)).trans a0
        have b1 := (hb1.block _ (by omega)).trans b0
        obtain ⟨c1, c2, c3, c4, c5, c6⟩ := arr_facts (i := 0) (x := ptr (wr.heap.size + 1)) (y := ptr (wr.heap.size + 2)) (.cells #[.slice none 0 0, .slice none 0 0] 59) a1 b1 (by simp) (by simp)
        have NP := Lib.hid (new_pair (i := 0) (x := ptr (wr.heap.size + 1)) (y := ptr (wr.heap.size + 2)) (A := w.heap.size) hs0 h1 hb1 hs1 rfl)
        have C5 := Lib.hid c5
        have C6 := Lib.hid c6
        have c7 : (((w1.alloc (.cells #[.slice none 0 0, .slice none 0 0] 59)).setCell ⟨w.heap.size, 0, none⟩ (ptr (wr.heap.size + 1))).setCell ⟨w.heap.size + 1, 0, none⟩ (ptr (wr.heap.size + 2))).cell? ⟨w.heap.size, 0, none⟩ = some (ptr (wr.heap.size + 1)) := by
          simp [World.cell?, c5]
        unfold ptr at c3 c4 c7
        simp only [List.getElem_toArray, List.getElem_cons_zero] at c1 c3
        clear a1 b1 c5 c6 h1 hb1 a0 b0
        go_wp2_with fail
        change Calls _ _ _ ((((w1.alloc (.cells #[.slice none 0 0, .slice none 0 0] 59)).setCell ⟨w.heap.size, 0, none⟩ (ptr (wr.heap.size + 1))).setCell ⟨w.heap.size + 1, 0, none⟩ (ptr (wr.heap.size + 2)))) _
        generalize (((w1.alloc (.cells #[.slice none 0 0, .slice none 0 0] 59)).setCell ⟨w.heap.size, 0, none⟩ (ptr (wr.heap.size + 1))).setCell ⟨w.heap.size + 1, 0, none⟩ (ptr (wr.heap.size + 2))) = w4 at NP C5 C6 ⊢
        clear c1 c2 c3 c4 c7
        refine (wakes_any w4).mono ?_
        rintro e w5 ⟨rfl, hb5⟩
        have HM := Lib.hid (made_one hs0 t0 C5.out C6.out NP.out hb5)
        clear hb5
        go_wp2_with fail
        exact ⟨⟨1, by go_num, by omega, HM.out⟩, by simp [intOf]⟩
      · go_wp2_with fail
        refine (new_any wr).mono ?_
        rintro e w1 ⟨rfl, h1, hb1, hs1⟩
        have a1 := (hb1.block _ (by omega)).trans a0
        have b1 := (hb1.block _ (by omega)).trans b0
        obtain ⟨c1, c2, c3, c4, c5, c6⟩ := arr_facts (i := 1) (x := ptr (wr.heap.size + 1)) (y := ptr (wr.heap.size + 2)) (.cells #[.slice none 0 0, .slice none 0 0] 59) a1 b1 (by simp) (by simp)
        have NP := Lib.hid (new_pair (i := 1) (x := ptr (wr.heap.size + 1)) (y := ptr (wr.heap.size + 2)) (A := w.heap.size) hs0 h1 hb1 hs1 rfl)
        have C5 := Lib.hid c5
        have C6 := Lib.hid c6
        have c7 : (((w1.alloc (.cells #[.slice none 0 0, .slice none 0 0] 59)).setCell ⟨w.heap.size, 1, none⟩ (ptr (wr.heap.size + 1))).setCell ⟨w.heap.size + 1, 1, none⟩ (ptr (wr.heap.size + 2))).cell? ⟨w.heap.size, 1, none⟩ = some (ptr (wr.heap.size + 1)) := by
          simp [World.cell?, c5]
        unfold ptr at c3 c4 c7
        simp only [List.getElem_toArray, List.getElem_cons_zero, List.getElem_cons_succ] at c1 c3
        clear a1 b1 c5 c6 h1 hb1 a0 b0
        go_wp2_with fail
        change Calls _ _ _ ((((w1.alloc (.cells #[.slice none 0 0, .slice none 0 0] 59)).setCell ⟨w.heap.size, 1, none⟩ (ptr (wr.heap.size + 1))).setCell ⟨w.heap.size + 1, 1, none⟩ (ptr (wr.heap.size + 2)))) _
        generalize (((w1.alloc (.cells #[.slice none 0 0, .slice none 0 0] 59)).setCell ⟨w.heap.size, 1, none⟩ (ptr (wr.heap.size + 1))).setCell ⟨w.heap.size + 1, 1, none⟩ (ptr (wr.heap.size + 2))) = w4 at NP C5 C6 ⊢
        clear c1 c2 c3 c4 c7
        refine (wakes_any w4).mono ?_
        rintro e w5 ⟨rfl, hb5⟩
        have HM := Lib.hid (made_two hs0 t0 p0 g0 C5.out C6.out NP.out hb5)
        have HT := Lib.hid (show w.heap.size + 2 ≤ w5.heap.size ∧ Turned (fun j => w.heap.size ≤ j) w w5 by
          obtain ⟨_, _, _, _, _, _, _, _, _, _, q1, q2, _⟩ := HM.out
          exact ⟨q1, q2⟩)
        clear hb5
        go_wp2_with fail
        exact ⟨⟨2, by go_num, by omega, HT.out.1, HT.out.2, .inr (.inr ⟨rfl, HM.out⟩)⟩, by simp [intOf]⟩
      · have HB := Lib.hid hb
        clear hb
        go_wp2_with fail
        go_meet
        exact HB.out
  case rest =>
    generalize wc = wb at *
    clear h0
    go_upto_block 2 with fail
    go_cut [] (fun wx => Both w 400 wx)
    case first =>
      go_wp2_with fail
      go_loopw [6] (fun i wr => ∃ k : Nat, i = .int .i64 k ∧ k ≤ 200 ∧ k ≤ len ∧ Both w (2 * k) wr) (fun i _ => 200 - (intOf i).toNat)
      case atStart => exact ⟨0, rfl, by omega, Nat.zero_le _, hcut⟩
      case round =>
        clear hcut
        obtain ⟨k, rfl, hk, hkl, hB⟩ := hrel
        have HB := Lib.hid hB
        clear hB
        by_cases c1 : k < len ∧ k < 200
        · obtain ⟨c1, c2⟩ := c1
          obtain ⟨b, off, rfl, hlt, g0, g1, g2, g3, hks⟩ := Acts.at HP.out.2 (turned_below (Nat.le_refl _) HB.out.turned) c1
          have hand := i64_and1 (on k)
          have hq : on k % 2 = 0 ∨ on k % 2 = 1 := by omega
          rcases hq with hq | hq
          all_goals rw [hq] at hand
          all_goals clear hq
          · obtain ⟨h, r, G, T, s⟩ := HB.out.side (k := 0) (by omega)
            have HS := Lib.hid s
            have k0 := s.2.1
            have k1 := s.2.2.1
            unfold ptr at k0 k1
            have V0 : Hid (Sees w 0 h r b (off + k * 4) (on k) (dO k) (key k) (fl k) wr) := ⟨k0, k1, g0, g1, g2, g3⟩
            generalize on k = onk at *
            generalize dO k = dok at *
            generalize key k = keyk at *
            generalize fl k = flk at *
            clear s
            go_wp2_with fail
            have s1 := HS.out.drewN 1
            have K1 : Sees w 0 h r b (off + k * 4) onk dok keyk flk wr.drew := HS.out.sees hlt s1 V0.out
            have hT1 := s1.pair.2.1
            clear V0 HS g0 g1 g2 g3 k0 k1
            go_region_held (fun w' : World => w'.cell? ⟨w.heap.size, 0, none⟩ = some (.pointer (some ⟨h, 0, none⟩)) ∧ w'.cell? ⟨w.heap.size + 1, 0, none⟩ = some (.pointer (some ⟨r, 0, none⟩)) ∧ w'.cell? ⟨b, off + k * 4, none⟩ = some (.int .i64 onk) ∧ w'.cell? ⟨b, off + k * 4 + 1, none⟩ = some (.int .i64 dok) ∧ w'.cell? ⟨b, off + k * 4 + 2, none⟩ = some (.string keyk) ∧ w'.cell? ⟨b, off + k * 4 + 3, none⟩ = some (.int .u64 flk))
              (first | exact K1 | exact K2 | exact K3)
              (first
              | (go_at_call 24; refine Calls.mono (plays_any _ G2 h r T2 0 0 ⟨#[]⟩ 0 s2.pair.1 (by omega) (by decide)) ?_; rintro e w6 ⟨rfl, hg6⟩; obtain ⟨G3, T3, s3⟩ := s2.grow hg6; have K3 := s2.sees hlt s3 K2)
              | (go_at_call 24; refine Calls.mono (plays_any _ G h r T onk dok keyk flk s1.pair.1 (by omega) hks) ?_; rintro e w5 ⟨rfl, hg5⟩; obtain ⟨G2, T2, s2⟩ := s1.grow hg5; have hT2 := s2.pair.2.1; have K2 := s1.sees hlt s2 K1))
            have HN := Lib.hid (s3.both.mono (C := 2 * (k + 1)) (by omega))
            clear s1 s2 s3 hg5 hg6
            go_wp2_with fail
            exact ⟨⟨k + 1, by go_num, by omega, by omega, HN.out⟩, by simp [intOf]; omega⟩
          · obtain ⟨h, r, G, T, s⟩ := HB.out.side (k := 1) (by omega)
            have HS := Lib.hid s
            have k0 := s.2.1
            have k1 := s.2.2.1
            unfold ptr at k0 k1
            have V0 : Hid (Sees w 1 h r b (off + k * 4) (on k) (dO k) (key k) (fl k) wr) := ⟨k0, k1, g0, g1, g2, g3⟩
            generalize on k = onk at *
            generalize dO k = dok at *
            generalize key k = keyk at *
            generalize fl k = flk at *
            clear s
            go_wp2_with fail
            have s1 := HS.out.drewN 1
            have K1 : Sees w 1 h r b (off + k * 4) onk dok keyk flk wr.drew := HS.out.sees hlt s1 V0.out
            have hT1 := s1.pair.2.1
            clear V0 HS g0 g1 g2 g3 k0 k1
            go_region_held (fun w' : World => w'.cell? ⟨w.heap.size, 1, none⟩ = some (.pointer (some ⟨h, 0, none⟩)) ∧ w'.cell? ⟨w.heap.size + 1, 1, none⟩ = some (.pointer (some ⟨r, 0, none⟩)) ∧ w'.cell? ⟨b, off + k * 4, none⟩ = some (.int .i64 onk) ∧ w'.cell? ⟨b, off + k * 4 + 1, none⟩ = some (.int .i64 dok) ∧ w'.cell? ⟨b, off + k * 4 + 2, none⟩ = some (.string keyk) ∧ w'.cell? ⟨b, off + k * 4 + 3, none⟩ = some (.int .u64 flk))
              (first | exact K1 | exact K2 | exact K3)
              (first
              | (go_at_call 24; refine Calls.mono (plays_any _ G2 h r T2 0 0 ⟨#[]⟩ 0 s2.pair.1 (by omega) (by decide)) ?_; rintro e w6 ⟨rfl, hg6⟩; obtain ⟨G3, T3, s3⟩ := s2.grow hg6; have K3 := s2.sees hlt s3 K2)
              | (go_at_call 24; refine Calls.mono (plays_any _ G h r T onk dok keyk flk s1.pair.1 (by omega) hks) ?_; rintro e w5 ⟨rfl, hg5⟩; obtain ⟨G2, T2, s2⟩ := s1.grow hg5; have hT2 := s2.pair.2.1; have K2 := s1.sees hlt s2 K1))
            have HN := Lib.hid (s3.both.mono (C := 2 * (k + 1)) (by omega))
            clear s1 s2 s3 hg5 hg6
            go_wp2_with fail
            exact ⟨⟨k + 1, by go_num, by omega, by omega, HN.out⟩, by simp [intOf]; omega⟩
        · have HN := Lib.hid (HB.out.mono (C := 400) (by omega))
          go_wp2_with fail
          all_goals
            go_meet
            exact HN.out
    case rest =>
      generalize wc = wr at *
      obtain ⟨h, r, G, T, s⟩ := hcut
      have s := s.drewN 1
      obtain ⟨_, k0, k1, ⟨Gh, Gr, L, p1, p2, p3, p4, p5, p6⟩, hT, g0, hs, t0, _⟩ := s
      have HD := Lib.hid p3
      have HG1 := Lib.hid (show ∀ k, Gh k → w.heap.size + 2 ≤ k from fun k q => g0 k (p4 k q))
      have HG2 := Lib.hid (show ∀ k, Gr k → w.heap.size + 2 ≤ k from fun k q => g0 k (p5 k q))
      have HG3 := Lib.hid p2.size
      have nL := p1.parts.2.1
      have lL := p1.parts.2.2
      have HO := Lib.hid (oneP_of nL)
      have HNP := Lib.hid (numP_of nL)
      obtain ⟨J, L4, j1, j2, j3, j4⟩ := due_own L fInf
      have hall : (due (pr L) fInf).2 = [] := due_inf (pr L) (numP_of nL)
      have hcount := due_count (pr L) fInf (oneP_of nL)
      rw [j3, j4, pr_length, pr_length] at hcount
      rw [j4] at hall
      have h40 : L4 = [] := List.map_eq_nil_iff.1 hall
      subst h40
      have HJ1 := Lib.hid j1
      have HJ2 := Lib.hid j2
      have HJ3 := Lib.hid j3
      have hJ : J.length ≤ 1000000000 := by simp at hcount; omega
      have K1 : wr.drew.cell? ⟨w.heap.size, 0, none⟩ = some (.pointer (some ⟨h, 0, none⟩)) ∧ wr.drew.cell? ⟨w.heap.size + 1, 0, none⟩ = some (.pointer (some ⟨r, 0, none⟩)) := ⟨k0, k1⟩
      have P1 : Hid (HS wr.drew Gh h L T) := p1
      have P2 : Hid (RP wr.drew Gr r (pr L)) := p2
      have T0 : Hid (Turned (fun j => w.heap.size ≤ j) w wr.drew ∧ w.heap.size + 2 ≤ wr.drew.heap.size) := ⟨t0, hs⟩
      clear p1 p2 p3 p4 p5 p6 g0 hs t0 k0 k1 j1 j2 j3 j4 hall hcount nL
      go_wp2_with fail
      go_region_held (fun w' : World => w'.cell? ⟨w.heap.size, 0, none⟩ = some (.pointer (some ⟨h, 0, none⟩)) ∧ w'.cell? ⟨w.heap.size + 1, 0, none⟩ = some (.pointer (some ⟨r, 0, none⟩)))
        (first | exact K1 | exact K2 | exact K3)
        (first
        | (go_at_call 14; refine (inf_pos _).mono ?_; rintro e w' ⟨rfl, rfl⟩)
        | (go_at_call 15; refine Calls.mono (due_any _ Gh h T L fInf P1.out (by omega)) ?_; rintro e w5 ⟨v5, rfl, hrow5, h5, t5⟩; rw [HJ1.out] at hrow5; rw [HJ2.out] at h5; obtain ⟨K2, r5, T5, s5⟩ := fin_due HD.out HG1.out P2.out t5 T0.out.2 K1 T0.out.1)
        | (go_at_call 25; refine Calls.mono (rdue_any w5 Gr r (pr L) fInf r5 (by rw [pr_length]; omega) HO.out HNP.out) ?_; rintro e w6 ⟨v6, rfl, hrow6, h6, t6⟩; rw [HJ3.out] at hrow6; obtain ⟨K3, H6, T6, s6⟩ := fin_rdue HD.out HG2.out HG3.out h5 hrow5 t6 s5 K2 T5)
        | (go_at_call 17; refine Calls.mono (same_any w6 v5 v6 J s6 hrow6.src hJ) ?_; rintro e w7 ⟨rfl, n, rfl⟩)
        | (go_at_call 13; refine Calls.mono (count_any _ Gh h T [] (H6.drewN n)) ?_; rintro e w8 ⟨rfl, rfl⟩))
      have HE := Lib.hid (turned_below (Nat.le_refl _) (T6.drewN n))
      clear h5 t5 r5 T5 s5 hrow5 h6 t6 hrow6 H6 T6 s6
      go_wp2_with fail
      go_ret
      exact ⟨rfl, HE.out⟩

end Go.Proofs.Ytfmcpcciokogiaa
