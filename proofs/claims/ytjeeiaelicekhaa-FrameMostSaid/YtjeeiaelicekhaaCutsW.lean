/- FrameCuts: the law's walk. -/
import Derived.Test.YtjeeiaelicekhaaCutsP
import Derived.Test.YtjeeiaelicekhaaBackW
namespace Go.Proofs.Ytjeeiaelicekhaa
open Go.RowKit

/-- Whole numbers that came in. -/
def Ints (w : World) (a : Option Addr) (len : Nat) : Prop :=
  len ≤ maxLen ∧ ∀ i, i < len → ∃ ad c, a = some ad ∧ ad.block < w.heap.size ∧ w.cell? (ad.add i) = some (.int .i64 c) ∧ -9223372036854775808 ≤ c ∧ c < 9223372036854775808

theorem grown_tail {A B C : World} {r : Nat} {o : Option Nat} (h : A.grownBy B (some r)) (k : B.grownBy C o) (ho : ∀ g, o = some g → A.heap.size ≤ g) : A.grownBy C (some r) :=
  ⟨k.os.trans h.os, k.tape.trans h.tape, k.output.trans h.output, Nat.le_trans h.size k.size, fun i hi hn => (k.block i (Nat.lt_of_lt_of_le hi h.size) (fun e => by have := ho i e.symm; omega)).trans (h.block i hi hn)⟩

/-- Two lists of payloads put together: what the append asks for. -/
theorem cat_facts {B B' : Nat} {w5 : World} {u v : Value} {xs ys : List (Value × List UInt8)} (hl : Lst B w5 u xs) (hr : Lst B' w5 v ys) (hB : B ≤ w5.heap.size) (h1 : xs.length ≤ 1000000000) (h2 : ys.length ≤ 1000000000) :
    Row B w5 31 u (xs.map (·.1)) ∧ Src w5 v (ys.map (·.1)) ∧ (∀ u ∈ ys.map (·.1), u.oneCell' = true) ∧ ((xs.map (·.1)).length + (ys.map (·.1)).length) * 24 ≤ 140737488355328 ∧ B ≤ w5.heap.size := by
  refine ⟨hl.1, hr.1.src, fun u hu => ?_, ?_, hB⟩
  · obtain ⟨x, hx, rfl⟩ := List.mem_map.1 hu
    obtain ⟨A, c, e, _⟩ := hr.2 x hx
    rw [e]
    rfl
  · rw [List.length_map, List.length_map]
    omega

/-- What lies when the list has grown. -/
theorem cat_after {B B' r m : Nat} {w5 w8 : World} {u v v8 : Value} {xs ys : List (Value × List UInt8)} {L : List UInt8} {br : Bool} (hl : Lst B w5 u xs) (hr : Lst B' w5 v ys) (hR : Rdr w5 r m L br)
    (hg : w5.grownBy w8 u.ownBlock) (hown : Row B w8 31 v8 (xs.map (·.1) ++ ys.map (·.1))) :
    Keep5 w5 w8 ∧ Lst B w8 v8 (xs ++ ys) ∧ Rdr w8 r m L br := by
  have hkeep : ∀ (b : Nat) (cs : Array Value) (t : TypeId), t ≠ 31 → w5.heap[b]? = some (.cells cs t (0, 0)) → w8.heap[b]? = some (.cells cs t (0, 0)) := fun b cs t ht hb => by
    refine (hg.block b (Array.getElem?_eq_some_iff.1 hb).1 (fun e => ?_)).trans hb
    obtain ⟨_, cs', h⟩ := hl.1.block e.symm
    rw [hb] at h
    injection h with h
    injection h with _ h
    exact ht h
  have k : Keep5 w5 w8 := fun b cs hb => hkeep b cs 5 (by decide) hb
  refine ⟨k, ⟨by rw [List.map_append]; exact hown, fun x hx => ?_⟩, ?_⟩
  · rcases List.mem_append.1 hx with h | h
    · exact (hl.2 x h).keep k
    · exact (hr.2 x h).keep k
  · obtain ⟨v, hr, hv⟩ := hR
    exact ⟨v, hkeep r _ 56 (by decide) hr, hv.keep k⟩

/-- Between two turns: X was fed, Y is left. -/
def CInv (w4 : World) (p m k : Nat) (q : List UInt8) (l f rest : Value) (wr : World) : Prop :=
  ∃ X Y xs, X ++ Y = q ∧ Byt wr rest Y ∧ Lst w4.heap.size wr l xs ∧ xs.map (·.2) = (parse m X).1 ∧ Rdr wr p m (parse m X).2.1 (parse m X).2.2 ∧
    f = .int .i64 (Err (parse m X).2.2) ∧ w4.grownBy wr (some p) ∧ (400 < k → Y = [])

theorem CInv.step {w4 w8 : World} {p m k n : Nat} {X Y q L : List UInt8} {P : List (List UInt8)} {br : Bool} {xs ys : List (Value × List UInt8)} {v8 rest : Value} {st : List (List UInt8) × List UInt8 × Bool}
    (hst : Ytjeeiaelicekhaa.step m L br (Y.take n) = st) (hP : parse m X = (P, L, br)) (hq : X ++ Y = q) (hx : xs.map (·.2) = P) (hy : ys.map (·.2) = st.1)
    (hR : Rdr w8 p m st.2.1 st.2.2)
    (hl : Lst w4.heap.size w8 v8 (xs ++ ys)) (hg : w4.grownBy w8 (some p)) (hb : Byt w8 rest (Y.drop n)) (hk : 400 < k → Y.drop n = []) :
    CInv w4 p m k q v8 (.int .i64 (Err st.2.2)) rest w8 := by
  subst hst
  have e := parse_cut m (Y.take n) X.length X (Nat.le_refl _)
  rw [hP] at e
  refine ⟨X ++ Y.take n, Y.drop n, xs ++ ys, by rw [List.append_assoc, List.take_append_drop]; exact hq, hb, hl, ?_, ?_, ?_, hg, hk⟩
  · rw [List.map_append, hx, hy, e]
  · rw [e]
    exact hR
  · rw [e]

theorem tm (c : Int) : (0 ≤ c ∧ c.tmod 40 = c % 40) ∨ (c < 0 ∧ c.tmod 40 = -((-c) % 40)) := by
  by_cases h : 0 ≤ c
  · exact .inl ⟨h, Int.tmod_eq_emod_of_nonneg h⟩
  · refine .inr ⟨by omega, ?_⟩
    have : c = -(-c) := by omega
    rw [this, Int.neg_tmod, Int.tmod_eq_emod_of_nonneg (by omega)]
    simp
theorem tmod40 (c : Int) : ∃ j : Nat, j < 40 ∧ RowKit.wrap64 ((c.tmod 40 + 40)) = c.tmod 40 + 40 ∧ (c.tmod 40 + 40).tmod 40 = (j : Int) := by
  have h1 : -40 < c.tmod 40 ∧ c.tmod 40 < 40 := by rcases tm c with ⟨_, e⟩ | ⟨_, e⟩ <;> omega
  have h2 : 0 ≤ (c.tmod 40 + 40).tmod 40 ∧ (c.tmod 40 + 40).tmod 40 < 40 := by rcases tm (c.tmod 40 + 40) with ⟨_, e⟩ | ⟨_, e⟩ <;> omega
  exact ⟨((c.tmod 40 + 40).tmod 40).toNat, by omega, by simp only [RowKit.wrap64]; omega, by omega⟩

set_option maxRecDepth 100000 in
set_option maxHeartbeats 4000000 in
theorem fcuts_walk (n0 : Int) (r1 : -9223372036854775808 ≤ n0) (s1 : n0 < 9223372036854775808) (v : Value) (lv : List UInt8) (a : Option Addr) (len cap : Nat) (w : World) (hs : Src w v (cel lv)) (hp : Ints w a len) :
    Calls Try.prog 4 #[.int .i64 n0, v, .slice a len cap] w fun e w' => e = .returned (.bool true) ∧ Below w.heap.size w w' := by
  have HP := Lib.hid hp.2
  have hlm := hp.1
  clear hp
  obtain ⟨m, hm⟩ : ∃ m, n0.toNat = m := ⟨_, rfl⟩
  have N1 : ∀ w : World, Calls Try.prog 8 #[.int .i64 n0] w fun e w' => e = .returned (.pointer (some ⟨w.heap.size, 0, none⟩)) ∧ w' = w.alloc (.cells #[.int .u64 (m : Int), .slice none 0 0, .bool false] 56) := fun w => by
    have := new_any w n0 r1 s1
    rwa [hm] at this
  clear hm
  go_enter Try.func4, Try.ntmps4
  go_wp2_with fail
  refine (twin_any _ v lv 3000 hs (by omega)).mono ?_
  rintro e w0 ⟨bv, rfl, hbv, hB⟩
  have hq6 : (lv.take 3000).length ≤ 3000 := by rw [List.length_take]; omega
  have HT : ∀ z : List UInt8, z.length ≤ 3000 → z.take 3000 = z := fun z h => List.take_of_length_le h
  have HT := Lib.hid HT
  have HQL := Lib.hid hq6
  clear hq6
  generalize lv.take 3000 = q at *
  have hb0 := hbv.byt
  obtain ⟨A0, c0, rfl⟩ := hbv.slice
  rw [cel_length] at hb0
  rw [cel_length]
  clear hbv
  go_wp2_with fail
  refine (N1 w0).mono ?_
  rintro e w1 ⟨rfl, rfl⟩
  go_wp2_with fail
  refine (N1 _).mono ?_
  rintro e w1 ⟨rfl, rfl⟩
  have g1 : Rdr ((w0.alloc (.cells #[.int .u64 (m : Int), .slice none 0 0, .bool false] 56)).alloc (.cells #[.int .u64 (m : Int), .slice none 0 0, .bool false] 56)) w0.heap.size m [] false :=
    ⟨_, (Below.heap_alloc _ _ _ (by rw [alloc_size]; omega)).trans (heap_alloc_new _ _), byt_nil _ _ _ (Nat.zero_le _)⟩
  have g2 : Rdr ((w0.alloc (.cells #[.int .u64 (m : Int), .slice none 0 0, .bool false] 56)).alloc (.cells #[.int .u64 (m : Int), .slice none 0 0, .bool false] 56)) (w0.heap.size + 1) m [] false := by
    have := heap_alloc_new (w0.alloc (.cells #[.int .u64 (m : Int), .slice none 0 0, .bool false] 56)) (.cells #[.int .u64 (m : Int), .slice none 0 0, .bool false] 56)
    rw [alloc_size] at this
    exact ⟨_, this, byt_nil _ _ _ (Nat.zero_le _)⟩
  have hB2 : Below w0.heap.size w0 ((w0.alloc (.cells #[.int .u64 (m : Int), .slice none 0 0, .bool false] 56)).alloc (.cells #[.int .u64 (m : Int), .slice none 0 0, .bool false] 56)) := (alloc_below _ _).trans ((alloc_below _ _).mono (by rw [alloc_size]; omega))
  have hb0 := hb0.keep (keep5_below hB2)
  have hz0 := hB.size
  have hB := hB.trans (hB2.mono hB.size)
  have hz : w0.heap.size + 1 < ((w0.alloc (.cells #[.int .u64 (m : Int), .slice none 0 0, .bool false] 56)).alloc (.cells #[.int .u64 (m : Int), .slice none 0 0, .bool false] 56)).heap.size := by rw [alloc_size, alloc_size]; omega
  clear hB2
  go_wp2_with fail
  refine (wakes_any _).mono ?_
  rintro e w2 ⟨rfl, hb2⟩
  have g1 := g1.below hb2
  have g2 := g2.below hb2
  have hb0 := hb0.keep (keep5_below hb2)
  have hz := Nat.lt_of_lt_of_le hz hb2.size
  have hB := hB.trans (hb2.mono hB.size)
  clear hb2 N1
  generalize w0.heap.size = p at *
  go_wp2_with fail
  refine (twin_any _ _ q 3000 hb0.src (by omega)).mono ?_
  rintro e w3 ⟨v3, rfl, hv3, hB3⟩
  rw [HT.out q HQL.out] at hv3
  have hB' := hB.trans (hB3.mono hB.size)
  have hz3 := Nat.lt_of_lt_of_le hz hB3.size
  go_wp2_with fail
  have hL0 : ([] : List UInt8).length ≤ 1000000000 := by simp
  have hqB : q.length ≤ 1000000000 := by have := HQL.out; omega
  have hst : step m [] false q = parse m q := by simp [step]
  refine (feed_any w3 p m [] q false v3 (g1.below hB3) hv3.src hL0 hqB).mono ?_
  rintro e w4 ⟨u4, xs4, rfl, hl4, hx4, hR4, hg4⟩
  rw [hst] at *
  obtain ⟨Pq, Lq, bq, hPQ⟩ : ∃ P L br, parse m q = (P, L, br) := ⟨_, _, _, rfl⟩
  have hpmq := parse_many m _ q (Nat.le_refl _)
  rw [hPQ] at hx4 hR4 hpmq ⊢
  rw [← hx4, List.length_map] at hpmq
  have HXQ := Lib.hid (show xs4.length ≤ 3000 by have := HQL.out; omega)
  have HPQ := Lib.hid hPQ
  have hN := (g1.below hB3).not5
  have hR2 := (g2.below hB3).other hg4 hN (by omega)
  have HN2 := Lib.hid hR2.not5
  have hb4 := (hb0.keep (keep5_below hB3)).keep (keep5_grown hg4 hN)
  have hB4 := hB'.grown hg4 hB'.size (fun k e => by cases e; exact hz0)
  have hz4 := Nat.lt_of_lt_of_le hz3 hg4.size
  clear hg4 hN hst hL0 g1 g2 hb0 hB3 hB' hv3 hB hz hpmq hPQ
  have hpe : parse m [] = ([], [], false) := parse_short (by simp)
  have h0 : CInv w4 (p + 1) m 0 q (.slice none 0 0) (.int .i64 0) (.slice A0 q.length c0) w4 :=
    ⟨[], q, [], rfl, hb4, ⟨row_none _ _ _, by simp⟩, by rw [hpe]; rfl, by rw [hpe]; exact hR2, by rw [hpe]; rfl, ⟨rfl, rfl, rfl, Nat.le_refl _, fun _ _ _ => rfl⟩, fun h => by omega⟩
  clear hpe hR2 hb4
  go_wp2_with fail
  go_loopw [12, 13, 14, 15] (fun l f rest i wr => ∃ k : Nat, i = .int .i64 k ∧ CInv w4 (p + 1) m k q l f rest wr ∧ k ≤ 401) (fun _ _ _ i _ => 401 - (intOf i).toNat)
  case atStart => exact ⟨0, rfl, h0, by omega⟩
  case round =>
    clear h0
    obtain ⟨k, rfl, ⟨X, Y, xs, hq, hY, hl, hx, hR, rfl, hg, hk4⟩, hk⟩ := hrel
    obtain ⟨P, L, br, hPX⟩ : ∃ P L br, parse m X = (P, L, br) := ⟨_, _, _, rfl⟩
    have HPX := Lib.hid hPX
    have hll := parse_left m _ X (Nat.le_refl _)
    have hpm := parse_many m _ X (Nat.le_refl _)
    rw [hPX] at hx hR hll hpm ⊢
    rw [← hx, List.length_map] at hpm
    have hYq : Y.length ≤ 3000 := by have := HQL.out; rw [← hq, List.length_append] at this; omega
    have hXq : X.length ≤ 3000 := by have := HQL.out; rw [← hq, List.length_append] at this; omega
    have HLL := Lib.hid (show L.length ≤ 3000 from Nat.le_trans hll hXq)
    have HXL := Lib.hid (show xs.length ≤ 3000 by omega)
    have HQ := Lib.hid hq
    have HX := Lib.hid hx
    clear hPX hll hpm hXq hq hx
    by_cases c0 : Y = []
    · subst c0
      have hXe : X = q := by have := HQ.out; rwa [List.append_nil] at this
      have hPe : (P, L, br) = (Pq, Lq, bq) := by rw [← HPX.out, hXe, HPQ.out]
      obtain ⟨A1, c1, rfl, _⟩ := hY
      rw [List.length_nil]
      simp only [Prod.mk.injEq] at hPe
      obtain ⟨rfl, rfl, rfl⟩ := hPe
      have hN2 := HN2.out
      have HA := Lib.hid ((hl4.other hg hN2 (by omega)).rd (by have := HXQ.out; omega))
      have HB := Lib.hid (hl.rd (by have := HXL.out; omega))
      have HE := Lib.hid (hx4.trans HX.out.symm)
      have hR4 := hR4.other hg hN2 (by omega)
      have hend := hB4.grown hg hB4.size (fun k e => by cases e; omega)
      clear hl4 hl hx4 hg hN2 hB4
      go_wp2_with fail
      refine (same_true _ _ _ _ _ HA.out HB.out HE.out).mono ?_
      rintro e w' ⟨rfl, n, rfl⟩
      have h1 := hR4.drewN n
      have h2 := hR.drewN n
      have hend := below_drewN hend n
      clear hR4 hR
      go_wp2_with fail
      refine (held_any _ _ _ _ _ h1).mono ?_
      rintro e w' ⟨rfl, rfl⟩
      go_wp2_with fail
      refine (held_any _ _ _ _ _ h2).mono ?_
      rintro e w' ⟨rfl, rfl⟩
      go_wp2_with fail
      go_ret
      exact ⟨rfl, hend⟩
    · have hY0 : 0 < Y.length := List.length_pos_iff.2 c0
      have hk400 : k ≤ 400 := Nat.le_of_not_lt fun h => c0 (hk4 h)
      clear hk4
      obtain ⟨b, off, c, rfl, _⟩ := hY.at 0 hY0
      obtain ⟨_, _, e, hYc, hcm, _⟩ := id hY
      cases e
      have hYi : (0 : Int) < (Y.length : Int) := by omega
      by_cases k1 : k < len ∧ k < 400
      · obtain ⟨k1, k2⟩ := k1
        obtain ⟨ad, x, rfl, hlt, hcell, _, _⟩ := HP.out k k1
        have g0 : wr.cell? (ad.add k) = some (.int .i64 x) := ((hB4.grown hg hB4.size (fun k e => by cases e; omega)).cell (p := ad.add k) (by rw [add_block]; exact hlt)).trans hcell
        obtain ⟨j, hj, t1, t2⟩ := tmod40 x
        have k3 : (k : Int) < (len : Int) := by omega
        have k4 : (k : Int) < 400 := by omega
        by_cases c3 : j ≤ Y.length
        · have c4 : ¬ (Y.length : Int) < (j : Int) := by omega

          have hn : j ≤ Y.length := c3
          have hnk : 400 < k + 1 → Y.drop (j) = [] := fun h => by omega
          have hnk := Lib.hid hnk
          have hb1 : Byt wr (.slice (some ⟨b, off, none⟩) (j) c) (Y.take (j)) := by
            have := hY.part 0 (j) (by omega) off c (.inr rfl) (by omega) hcm
            rwa [List.drop_zero] at this
          have ht := HT.out (Y.take (j)) (by rw [List.length_take]; omega)
          have hd1 := fun off' c' => hY.tail (j) hn off' c'
          have HD := Lib.hid hd1
          have HY1 := Lib.hid hY
          clear hd1 hY
          go_wp2_with fail
          refine (twin_any wr _ (Y.take (j)) 3000 hb1.src (by omega)).mono ?_
          rintro e w1 ⟨v1, rfl, hv1, hB1⟩
          rw [ht] at hv1
          clear hb1 ht
          have hg1 := grown_trans hg (grown_below hB1)
          have hY1 := keep5_below hB1
          have hl1 := hl.below hB1
          have hR1 := hR.below hB1
          have hz1 := hB1.size
          clear hl hR
          go_wp2_with fail
          refine (feed_any w1 (p + 1) m L (Y.take (j)) br v1 hR1 hv1.src (by have := HLL.out; omega) (by rw [List.length_take]; omega)).mono ?_
          rintro e w2 ⟨u2, ys, rfl, hl2, hx2, hR2, hg2⟩
          have hN1 := hR1.not5
          have hz2 := hg2.size
          have hl3 := hl1.other hg2 hN1 (by omega)
          have hg3 := grown_trans hg1 hg2
          have hY2 := hY1.trans (keep5_grown hg2 hN1)
          have hys := step_many m L br (Y.take (j))
          have hle : (Y.take (j)).length ≤ 3000 := by rw [List.length_take]; omega
          have hyl : ys.length ≤ 1000000000 := by rw [← hx2, List.length_map] at hys; have := HLL.out; omega
          have hxl : xs.length ≤ 1000000000 := by have := HXL.out; omega
          clear hys hle hl1 hR1 hg2 hN1 hY1 hg1 hB1
          obtain ⟨A1, c1, e1⟩ := hl3.1.slice
          obtain ⟨A2, c2, e2⟩ := hl2.1.slice
          have F := cat_facts hl3 hl2 (by have := hg3.size; omega) hxl hyl
          rw [List.length_map] at e1 e2
          subst e1 e2
          have HF := Lib.hid F
          have HL2 := Lib.hid hl2
          have HL3 := Lib.hid hl3
          have HX2 := Lib.hid hx2
          have HG3 := Lib.hid hg3
          have HY2 := Lib.hid hY2
          clear F hl2 hl3 hx2 hg3 hY2 hxl hyl hg
          generalize hst : Ytjeeiaelicekhaa.step m L br (Y.take (j)) = st at *
          have HST := Lib.hid hst
          clear hst
          go_wp2_with (at_builtin; refine app_lists rfl (.tmp 81) (.tmp 82) rfl w4.heap.size _ _ HF.out.1 HF.out.2.1 HF.out.2.2.1 HF.out.2.2.2.1 HF.out.2.2.2.2 ?_; intro v8 w8 hown8 hg8 hat8; have HO := Lib.hid hown8; have HG := Lib.hid hg8; clear hown8 hg8 hat8; refine Hid.out ?_)
          refine Lib.hid ?_
          obtain ⟨x1, x2, x3⟩ := cat_after HL3.out HL2.out hR2 HG.out HO.out
          have x4 := grown_tail HG3.out HG.out (fun g e => (HL3.out.1.block e).1)
          have HS := fun rest hb => CInv.step (k := k + 1) (n := j) (rest := rest) HST.out HPX.out HQ.out HX.out HX2.out x3 x2 x4 hb hnk.out
          have HSH := Lib.hid HS
          have hkeep := HY2.out.trans x1
          clear HS x1 x2 x3 x4 hR2
          by_cases hcc : c = j
          · go_wp2_with fail
            exact ⟨⟨k + 1, by go_num, HSH.out _ ((HD.out off 0 (by omega) (by omega) (by omega)).keep hkeep), by omega⟩, by simp [intOf]; omega⟩
          · go_wp2_with fail
            exact ⟨⟨k + 1, by go_num, HSH.out _ ((HD.out (off + j) (c - j) (.inr rfl) (by omega) (by omega)).keep hkeep), by omega⟩, by simp [intOf]; omega⟩
        · have c4 : (Y.length : Int) < (j : Int) := by omega
          have hn : Y.length ≤ Y.length := Nat.le_refl _
          have hnk : 400 < k + 1 → Y.drop (Y.length) = [] := fun h => by omega
          have hnk := Lib.hid hnk
          have hb1 : Byt wr (.slice (some ⟨b, off, none⟩) (Y.length) c) (Y.take (Y.length)) := by
            have := hY.part 0 (Y.length) (by omega) off c (.inr rfl) (by omega) hcm
            rwa [List.drop_zero] at this
          have ht := HT.out (Y.take (Y.length)) (by rw [List.length_take]; omega)
          have hd1 := fun off' c' => hY.tail (Y.length) hn off' c'
          have HD := Lib.hid hd1
          have HY1 := Lib.hid hY
          clear hd1 hY
          go_wp2_with fail
          refine (twin_any wr _ (Y.take (Y.length)) 3000 hb1.src (by omega)).mono ?_
          rintro e w1 ⟨v1, rfl, hv1, hB1⟩
          rw [ht] at hv1
          clear hb1 ht
          have hg1 := grown_trans hg (grown_below hB1)
          have hY1 := keep5_below hB1
          have hl1 := hl.below hB1
          have hR1 := hR.below hB1
          have hz1 := hB1.size
          clear hl hR
          go_wp2_with fail
          refine (feed_any w1 (p + 1) m L (Y.take (Y.length)) br v1 hR1 hv1.src (by have := HLL.out; omega) (by rw [List.length_take]; omega)).mono ?_
          rintro e w2 ⟨u2, ys, rfl, hl2, hx2, hR2, hg2⟩
          have hN1 := hR1.not5
          have hz2 := hg2.size
          have hl3 := hl1.other hg2 hN1 (by omega)
          have hg3 := grown_trans hg1 hg2
          have hY2 := hY1.trans (keep5_grown hg2 hN1)
          have hys := step_many m L br (Y.take (Y.length))
          have hle : (Y.take (Y.length)).length ≤ 3000 := by rw [List.length_take]; omega
          have hyl : ys.length ≤ 1000000000 := by rw [← hx2, List.length_map] at hys; have := HLL.out; omega
          have hxl : xs.length ≤ 1000000000 := by have := HXL.out; omega
          clear hys hle hl1 hR1 hg2 hN1 hY1 hg1 hB1
          obtain ⟨A1, c1, e1⟩ := hl3.1.slice
          obtain ⟨A2, c2, e2⟩ := hl2.1.slice
          have F := cat_facts hl3 hl2 (by have := hg3.size; omega) hxl hyl
          rw [List.length_map] at e1 e2
          subst e1 e2
          have HF := Lib.hid F
          have HL2 := Lib.hid hl2
          have HL3 := Lib.hid hl3
          have HX2 := Lib.hid hx2
          have HG3 := Lib.hid hg3
          have HY2 := Lib.hid hY2
          clear F hl2 hl3 hx2 hg3 hY2 hxl hyl hg
          generalize hst : Ytjeeiaelicekhaa.step m L br (Y.take (Y.length)) = st at *
          have HST := Lib.hid hst
          clear hst
          go_wp2_with (at_builtin; refine app_lists rfl (.tmp 81) (.tmp 82) rfl w4.heap.size _ _ HF.out.1 HF.out.2.1 HF.out.2.2.1 HF.out.2.2.2.1 HF.out.2.2.2.2 ?_; intro v8 w8 hown8 hg8 hat8; have HO := Lib.hid hown8; have HG := Lib.hid hg8; clear hown8 hg8 hat8; refine Hid.out ?_)
          refine Lib.hid ?_
          obtain ⟨x1, x2, x3⟩ := cat_after HL3.out HL2.out hR2 HG.out HO.out
          have x4 := grown_tail HG3.out HG.out (fun g e => (HL3.out.1.block e).1)
          have HS := fun rest hb => CInv.step (k := k + 1) (n := Y.length) (rest := rest) HST.out HPX.out HQ.out HX.out HX2.out x3 x2 x4 hb hnk.out
          have HSH := Lib.hid HS
          have hkeep := HY2.out.trans x1
          clear HS x1 x2 x3 x4 hR2
          by_cases hcc : c = Y.length
          · go_wp2_with fail
            exact ⟨⟨k + 1, by go_num, HSH.out _ (by rw [List.drop_length]; exact byt_nil _ _ _ (by omega)), by omega⟩, by simp [intOf]; omega⟩
          · go_wp2_with fail
            exact ⟨⟨k + 1, by go_num, HSH.out _ (by rw [List.drop_length]; exact byt_nil _ _ _ (by omega)), by omega⟩, by simp [intOf]; omega⟩
      · by_cases k5 : k < len
        · have k3 : (k : Int) < (len : Int) := by omega
          have k4 : ¬ (k : Int) < 400 := by omega
          have hn : Y.length ≤ Y.length := Nat.le_refl _
          have hnk : 400 < k + 1 → Y.drop (Y.length) = [] := fun _ => List.drop_length
          have hnk := Lib.hid hnk
          have hb1 : Byt wr (.slice (some ⟨b, off, none⟩) (Y.length) c) (Y.take (Y.length)) := by
            have := hY.part 0 (Y.length) (by omega) off c (.inr rfl) (by omega) hcm
            rwa [List.drop_zero] at this
          have ht := HT.out (Y.take (Y.length)) (by rw [List.length_take]; omega)
          have hd1 := fun off' c' => hY.tail (Y.length) hn off' c'
          have HD := Lib.hid hd1
          have HY1 := Lib.hid hY
          clear hd1 hY
          go_wp2_with fail
          refine (twin_any wr _ (Y.take (Y.length)) 3000 hb1.src (by omega)).mono ?_
          rintro e w1 ⟨v1, rfl, hv1, hB1⟩
          rw [ht] at hv1
          clear hb1 ht
          have hg1 := grown_trans hg (grown_below hB1)
          have hY1 := keep5_below hB1
          have hl1 := hl.below hB1
          have hR1 := hR.below hB1
          have hz1 := hB1.size
          clear hl hR
          go_wp2_with fail
          refine (feed_any w1 (p + 1) m L (Y.take (Y.length)) br v1 hR1 hv1.src (by have := HLL.out; omega) (by rw [List.length_take]; omega)).mono ?_
          rintro e w2 ⟨u2, ys, rfl, hl2, hx2, hR2, hg2⟩
          have hN1 := hR1.not5
          have hz2 := hg2.size
          have hl3 := hl1.other hg2 hN1 (by omega)
          have hg3 := grown_trans hg1 hg2
          have hY2 := hY1.trans (keep5_grown hg2 hN1)
          have hys := step_many m L br (Y.take (Y.length))
          have hle : (Y.take (Y.length)).length ≤ 3000 := by rw [List.length_take]; omega
          have hyl : ys.length ≤ 1000000000 := by rw [← hx2, List.length_map] at hys; have := HLL.out; omega
          have hxl : xs.length ≤ 1000000000 := by have := HXL.out; omega
          clear hys hle hl1 hR1 hg2 hN1 hY1 hg1 hB1
          obtain ⟨A1, c1, e1⟩ := hl3.1.slice
          obtain ⟨A2, c2, e2⟩ := hl2.1.slice
          have F := cat_facts hl3 hl2 (by have := hg3.size; omega) hxl hyl
          rw [List.length_map] at e1 e2
          subst e1 e2
          have HF := Lib.hid F
          have HL2 := Lib.hid hl2
          have HL3 := Lib.hid hl3
          have HX2 := Lib.hid hx2
          have HG3 := Lib.hid hg3
          have HY2 := Lib.hid hY2
          clear F hl2 hl3 hx2 hg3 hY2 hxl hyl hg
          generalize hst : Ytjeeiaelicekhaa.step m L br (Y.take (Y.length)) = st at *
          have HST := Lib.hid hst
          clear hst
          go_wp2_with (at_builtin; refine app_lists rfl (.tmp 81) (.tmp 82) rfl w4.heap.size _ _ HF.out.1 HF.out.2.1 HF.out.2.2.1 HF.out.2.2.2.1 HF.out.2.2.2.2 ?_; intro v8 w8 hown8 hg8 hat8; have HO := Lib.hid hown8; have HG := Lib.hid hg8; clear hown8 hg8 hat8; refine Hid.out ?_)
          refine Lib.hid ?_
          obtain ⟨x1, x2, x3⟩ := cat_after HL3.out HL2.out hR2 HG.out HO.out
          have x4 := grown_tail HG3.out HG.out (fun g e => (HL3.out.1.block e).1)
          have HS := fun rest hb => CInv.step (k := k + 1) (n := Y.length) (rest := rest) HST.out HPX.out HQ.out HX.out HX2.out x3 x2 x4 hb hnk.out
          have HSH := Lib.hid HS
          have hkeep := HY2.out.trans x1
          clear HS x1 x2 x3 x4 hR2
          by_cases hcc : c = Y.length
          · go_wp2_with fail
            exact ⟨⟨k + 1, by go_num, HSH.out _ (by rw [List.drop_length]; exact byt_nil _ _ _ (by omega)), by omega⟩, by simp [intOf]; omega⟩
          · go_wp2_with fail
            exact ⟨⟨k + 1, by go_num, HSH.out _ (by rw [List.drop_length]; exact byt_nil _ _ _ (by omega)), by omega⟩, by simp [intOf]; omega⟩
        · have k3 : ¬ (k : Int) < (len : Int) := by omega
          have hn : Y.length ≤ Y.length := Nat.le_refl _
          have hnk : 400 < k + 1 → Y.drop (Y.length) = [] := fun _ => List.drop_length
          have hnk := Lib.hid hnk
          have hb1 : Byt wr (.slice (some ⟨b, off, none⟩) (Y.length) c) (Y.take (Y.length)) := by
            have := hY.part 0 (Y.length) (by omega) off c (.inr rfl) (by omega) hcm
            rwa [List.drop_zero] at this
          have ht := HT.out (Y.take (Y.length)) (by rw [List.length_take]; omega)
          have hd1 := fun off' c' => hY.tail (Y.length) hn off' c'
          have HD := Lib.hid hd1
          have HY1 := Lib.hid hY
          clear hd1 hY
          go_wp2_with fail
          refine (twin_any wr _ (Y.take (Y.length)) 3000 hb1.src (by omega)).mono ?_
          rintro e w1 ⟨v1, rfl, hv1, hB1⟩
          rw [ht] at hv1
          clear hb1 ht
          have hg1 := grown_trans hg (grown_below hB1)
          have hY1 := keep5_below hB1
          have hl1 := hl.below hB1
          have hR1 := hR.below hB1
          have hz1 := hB1.size
          clear hl hR
          go_wp2_with fail
          refine (feed_any w1 (p + 1) m L (Y.take (Y.length)) br v1 hR1 hv1.src (by have := HLL.out; omega) (by rw [List.length_take]; omega)).mono ?_
          rintro e w2 ⟨u2, ys, rfl, hl2, hx2, hR2, hg2⟩
          have hN1 := hR1.not5
          have hz2 := hg2.size
          have hl3 := hl1.other hg2 hN1 (by omega)
          have hg3 := grown_trans hg1 hg2
          have hY2 := hY1.trans (keep5_grown hg2 hN1)
          have hys := step_many m L br (Y.take (Y.length))
          have hle : (Y.take (Y.length)).length ≤ 3000 := by rw [List.length_take]; omega
          have hyl : ys.length ≤ 1000000000 := by rw [← hx2, List.length_map] at hys; have := HLL.out; omega
          have hxl : xs.length ≤ 1000000000 := by have := HXL.out; omega
          clear hys hle hl1 hR1 hg2 hN1 hY1 hg1 hB1
          obtain ⟨A1, c1, e1⟩ := hl3.1.slice
          obtain ⟨A2, c2, e2⟩ := hl2.1.slice
          have F := cat_facts hl3 hl2 (by have := hg3.size; omega) hxl hyl
          rw [List.length_map] at e1 e2
          subst e1 e2
          have HF := Lib.hid F
          have HL2 := Lib.hid hl2
          have HL3 := Lib.hid hl3
          have HX2 := Lib.hid hx2
          have HG3 := Lib.hid hg3
          have HY2 := Lib.hid hY2
          clear F hl2 hl3 hx2 hg3 hY2 hxl hyl hg
          generalize hst : Ytjeeiaelicekhaa.step m L br (Y.take (Y.length)) = st at *
          have HST := Lib.hid hst
          clear hst
          go_wp2_with (at_builtin; refine app_lists rfl (.tmp 81) (.tmp 82) rfl w4.heap.size _ _ HF.out.1 HF.out.2.1 HF.out.2.2.1 HF.out.2.2.2.1 HF.out.2.2.2.2 ?_; intro v8 w8 hown8 hg8 hat8; have HO := Lib.hid hown8; have HG := Lib.hid hg8; clear hown8 hg8 hat8; refine Hid.out ?_)
          refine Lib.hid ?_
          obtain ⟨x1, x2, x3⟩ := cat_after HL3.out HL2.out hR2 HG.out HO.out
          have x4 := grown_tail HG3.out HG.out (fun g e => (HL3.out.1.block e).1)
          have HS := fun rest hb => CInv.step (k := k + 1) (n := Y.length) (rest := rest) HST.out HPX.out HQ.out HX.out HX2.out x3 x2 x4 hb hnk.out
          have HSH := Lib.hid HS
          have hkeep := HY2.out.trans x1
          clear HS x1 x2 x3 x4 hR2
          by_cases hcc : c = Y.length
          · go_wp2_with fail
            exact ⟨⟨k + 1, by go_num, HSH.out _ (by rw [List.drop_length]; exact byt_nil _ _ _ (by omega)), by omega⟩, by simp [intOf]; omega⟩
          · go_wp2_with fail
            exact ⟨⟨k + 1, by go_num, HSH.out _ (by rw [List.drop_length]; exact byt_nil _ _ _ (by omega)), by omega⟩, by simp [intOf]; omega⟩

end Go.Proofs.Ytjeeiaelicekhaa
