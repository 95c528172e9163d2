/- Push, Fix, Pop, Remove of package heap. -/
import Derived.Test.YtfmcpcciokogiaaRow
namespace Go.Proofs.Ytfmcpcciokogiaa
open Go.RowKit Fl

theorem len_any (w : World) (A : Option Addr) (n c : Nat) : Calls Try.prog 59 #[.slice A n c] w fun e w' => e = .returned (.int .i64 (n : Int)) ∧ w = w' := by
  go_enter Try.func59, Try.ntmps59
  go_wp2_with fail
  go_ret
  exact ⟨rfl, rfl⟩

theorem Turned.step {F G : Nat → Prop} {a b c : World} (h : Turned G a b) (k : Turned F b c) (hF : ∀ k, k < a.heap.size → F k → G k) : Turned G a c :=
  ⟨k.1.trans h.1, k.2.1.trans h.2.1, k.2.2.1.trans h.2.2.1, Nat.le_trans h.2.2.2.1 k.2.2.2.1, fun i hi hn => (k.2.2.2.2 i (Nat.lt_of_lt_of_le hi h.2.2.2.1) (fun q => hn (hF i hi q))).trans (h.2.2.2.2 i hi hn)⟩

theorem rkf_push {xs : List It} {z : It} (k : Nat) (h : k < xs.length) : rkf (xs ++ [z]) k = rkf xs k := by
  simp only [rkf, List.getElem?_append_left h]
theorem Ord.mono {f : Nat → Rk} {m n : Nat} (h : Ord f n) (hm : m ≤ n) : Ord f m := fun k h0 hk => h k h0 (by omega)
theorem Ord.same {f g : Nat → Rk} {n : Nat} (h : Ord f n) (hg : ∀ k, k < n → g k = f k) : Ord g n := fun k h0 hk => by
  rw [hg k hk, hg (par k) (by have := par_lt h0; omega)]
  exact h k h0 hk

/-- The row's value, opened. -/
theorem RowP.open {w : World} {F : Nat → Prop} {h : Nat} {xs : List It} {c1 c2 : Value} (k : RowP w F h xs c1 c2) :
    ∃ A c, w.heap[h]? = some (.cells #[.slice A xs.length c, c1, c2] 66 (0, 0)) ∧ Items w F (.slice A xs.length c) xs := by
  obtain ⟨rv, h1, h2, _⟩ := k
  obtain ⟨A, c, rfl⟩ := h2.1.slice
  rw [List.length_map] at h1 h2
  exact ⟨A, c, h1, h2⟩

set_option maxHeartbeats 2000000 in
theorem hpush_any (w : World) (F : Nat → Prop) (h : Nat) (xs : List It) (c1 c2 : Value) (z : It) (p : Int) (hR : RowP w F h xs c1 c2) (hz : Lone w z p) (hzF : ¬ F z.blk) (hnz : num z.fin) (hl : xs.length ≤ 900000000) (hO : Ord (rkf xs) xs.length) :
    Calls Try.prog 27 #[ifc h, .iface 68 (itv z)] w fun e w' => e = .returned (.tuple #[]) ∧ ∃ xs', xs'.Perm (xs ++ [z]) ∧ Ord (rkf xs') xs'.length ∧
      RowP w' (fun k => F k ∨ k = z.blk ∨ (w.heap.size ≤ k ∧ k < w'.heap.size)) h xs' c1 c2 ∧ Turned (fun k => F k ∨ k = h ∨ k = z.blk) w w' := by
  have m1 := meth_push ⟨h, 0, none⟩ w
  have HP := Lib.hid (push_row w F h xs c1 c2 z p hR hz hzF hnz (by omega))
  unfold ifc
  go_enter Try.func27, Try.ntmps27
  go_wp2_with fail
  refine HP.out.mono ?_
  rintro e w1 ⟨rfl, h1, h2⟩
  obtain ⟨A, c, hrv, _⟩ := h1.open
  have hlen : (xs ++ [z]).length = xs.length + 1 := by simp
  rw [hlen] at hrv
  obtain ⟨q0, _⟩ := three hrv
  have m2 := meth_val "Len" 59 q_len w1 h _ q0
  have H1 := Lib.hid h1
  have H2 := Lib.hid h2
  have HL := Lib.hid hlen
  clear m1 h1 h2 hrv hlen
  go_wp2_with fail
  refine (len_any _ _ _ _).mono ?_
  rintro e w2 ⟨rfl, rfl⟩
  go_wp2_with fail
  have HU : UpInv (rkf (xs ++ [z])) xs.length (xs.length + 1) := up_of hO fun k hk => rkf_push k hk
  refine (up_any w1 _ h (xs ++ [z]) c1 c2 H1.out xs.length (xs.length + 1) (by omega) (by rw [HL.out]; exact Nat.le_refl _) (by rw [HL.out]; omega) HU).mono ?_
  rintro e w3 ⟨rfl, xs', hA, hOrd⟩
  have hxl := hA.length
  rw [HL.out] at hxl
  have HA := Lib.hid hA
  have HX := Lib.hid hxl
  clear hA hxl
  go_wp2_with fail
  refine bodyPost_end (results_none rfl _ _ _) rfl ?_
  obtain ⟨a1, _, a3, a4, a5⟩ := HA.out
  refine ⟨rfl, xs', a1, by rw [HX.out]; exact hOrd, by rw [a5]; exact a3, H2.out.step a4 (fun k hk hF => ?_)⟩
  rcases hF with h | h | ⟨h, _⟩
  · exact .inl h
  · exact .inr (.inr h)
  · omega

set_option maxHeartbeats 2000000 in
theorem fix_any (w : World) (F : Nat → Prop) (h : Nat) (xs : List It) (c1 c2 : Value) (hR : RowP w F h xs c1 c2) (i : Nat) (hi : i < xs.length) (hl : xs.length ≤ 1000000000) (hU : FixInv (rkf xs) i xs.length) :
    Calls Try.prog 28 #[ifc h, .int .i64 (i : Int)] w fun e w' => e = .returned (.tuple #[]) ∧ ∃ xs', After w F h xs c1 c2 xs.length xs' w' ∧ Ord (rkf xs') xs.length := by
  obtain ⟨A, c, hrv, _⟩ := hR.open
  obtain ⟨q0, _⟩ := three hrv
  have m2 := meth_val "Len" 59 q_len w h _ q0
  have HD := Lib.hid (down_any w F h xs c1 c2 hR i xs.length (by omega) (Nat.le_refl _) hl hU)
  unfold ifc at HD ⊢
  clear hrv hR
  go_enter Try.func28, Try.ntmps28
  go_wp2_with fail
  refine (len_any _ _ _ _).mono ?_
  rintro e w2 ⟨rfl, rfl⟩
  clear m2 q0
  go_wp2_with fail
  refine HD.out.mono ?_
  rintro e w3 ⟨xs', b, rfl, hA, hS⟩
  rcases hS with ⟨rfl, hO⟩ | ⟨rfl, rfl, hU2⟩
  · have HA := Lib.hid hA
    clear hA
    go_wp2_with fail
    refine bodyPost_end (results_none rfl _ _ _) rfl ?_
    exact ⟨rfl, xs', HA.out, hO⟩
  · have HA := Lib.hid hA
    have HP := Lib.hid (up_any w3 F h xs' c1 c2 hA.2.2.1 i xs'.length hi (Nat.le_refl _) hl hU2)
    unfold ifc at HP
    clear hA
    go_wp2_with fail
    refine HP.out.mono ?_
    rintro e w4 ⟨rfl, ys, hB, hO⟩
    have HB := Lib.hid hB
    clear hB
    go_wp2_with fail
    refine bodyPost_end (results_none rfl _ _ _) rfl ?_
    obtain ⟨a1, a2, a3, a4, a5⟩ := HA.out
    obtain ⟨b1, b2, b3, b4, b5⟩ := HB.out
    exact ⟨rfl, ys, ⟨b1, b2, b3, a4.trans b4, b5.trans a5⟩, hO⟩

theorem rkf_dropLast {xs ys : List It} {n : Nat} (h : ∀ k, k < n → ys[k]? = xs[k]?) : ∀ k, k < n → rkf ys k = rkf xs k := fun k hk => by
  simp only [rkf, h k hk]

/-- A list by its beginning and its last. -/
theorem split_last {xs : List It} {n : Nat} {z : It} (hl : xs.length = n + 1) (hz : xs[n]? = some z) : xs = xs.take n ++ [z] := by
  have h1 : n < xs.length := by omega
  have h2 : xs[n] = z := by
    rw [List.getElem?_eq_getElem h1] at hz
    exact Option.some.inj hz
  rw [← h2, ← List.take_succ_eq_append_getElem h1]
  exact (List.take_of_length_le (by omega)).symm

/-- What the shift to the end and the way down leave: the last is z, the others are in order. -/
theorem tail_of {w w1 w2 : World} {F : Nat → Prop} {h n : Nat} {xs xs1 xs2 : List It} {c1 c2 : Value} {z : It} (hp : xs1.Perm xs) (hl : xs.length = n + 1) (hz : xs1[n]? = some z) (hA : After w1 F h xs1 c1 c2 n xs2 w2) (hO : Ord (rkf xs2) n) (h1 : Turned F w w1) (hs : w1.heap.size = w.heap.size) :
    ∃ ys, xs2 = ys ++ [z] ∧ (z :: ys).Perm xs ∧ ys.length = n ∧ Ord (rkf ys) n ∧ RowP w2 F h (ys ++ [z]) c1 c2 ∧ Turned F w w2 ∧ w2.heap.size = w.heap.size := by
  obtain ⟨a1, a2, a3, a4, a5⟩ := hA
  have hl2 : xs2.length = n + 1 := by rw [a1.length_eq, hp.length_eq, hl]
  have hz2 : xs2[n]? = some z := (a2 n (Nat.le_refl _)).trans hz
  have he := split_last hl2 hz2
  have hyl : (xs2.take n).length = n := by rw [List.length_take]; omega
  refine ⟨xs2.take n, he, ?_, hyl, hO.same (rkf_dropLast fun k hk => ?_), by rw [← he]; exact a3, h1.trans a4, a5.trans hs⟩
  · have p1 : (z :: xs2.take n).Perm (xs2.take n ++ [z]) := List.perm_append_singleton z (xs2.take n) |>.symm
    rw [← he] at p1
    exact p1.trans (a1.trans hp)
  · rw [List.getElem?_take, if_pos hk]

set_option maxHeartbeats 2000000 in
theorem hpop_any (w : World) (F : Nat → Prop) (h : Nat) (xs : List It) (c1 c2 : Value) (z : It) (hR : RowP w F h xs c1 c2) (hz : xs[0]? = some z) (hl : xs.length ≤ 900000000) (hO : Ord (rkf xs) xs.length) :
    Calls Try.prog 29 #[ifc h] w fun e w' => e = .returned (.iface 68 (itv z)) ∧ ∃ ys, (z :: ys).Perm xs ∧ Ord (rkf ys) ys.length ∧ RowP w' F h ys c1 c2 ∧ Turned (fun k => F k ∨ k = h) w w' ∧ w'.heap.size = w.heap.size ∧ w'.heap[z.blk]? = some (.cells (itc z ys.length) 71 (0, 0)) := by
  obtain ⟨n, hn⟩ : ∃ n, xs.length = n + 1 := ⟨xs.length - 1, by have := (List.getElem?_eq_some_iff.1 hz).1; omega⟩
  obtain ⟨A, c, hrv, hI⟩ := hR.open
  rw [hn] at hrv hI
  obtain ⟨q0, _⟩ := three hrv
  have h0x : 0 < xs.length := by omega
  have hnx : n < xs.length := by omega
  have e0 : xs[0] = z := by
    rw [List.getElem?_eq_getElem h0x] at hz
    exact Option.some.inj hz
  have m2 := meth_val "Len" 59 q_len w h _ q0
  have m3 := meth_val "Swap" 61 q_swap w h _ q0
  have HS := Lib.hid (swap_any w F _ xs hI 0 n h0x hnx)
  have HN := Lib.hid hn
  have HRV := Lib.hid hrv
  have hFh : ¬ F h := by
    obtain ⟨_, _, _, hF⟩ := hR
    exact hF
  have hAf : After w F h xs c1 c2 (n + 1) xs w := ⟨List.Perm.refl _, fun _ _ => rfl, hR, Turned.refl F w, rfl⟩
  have HAF := Lib.hid hAf
  clear hrv hR hn hAf hz
  unfold ifc
  go_enter Try.func29, Try.ntmps29
  go_wp2_with fail
  refine (len_any _ _ _ _).mono ?_
  rintro e w1 ⟨rfl, rfl⟩
  go_wp2_with fail
  refine HS.out.mono ?_
  rintro e w1 ⟨rfl, h1, h2, h3⟩
  have hA1 := HAF.out.swap HRV.out h0x hnx (by omega) (by omega) h1 h2 h3
  have hx1n : (swl xs 0 n xs[0] xs[n])[n]? = some z := by
    simp only [swl]
    rw [List.getElem?_set_self (by simpa using hnx), e0]
  have hU : FixInv (rkf (swl xs 0 n xs[0] xs[n])) 0 n := by
    rw [rkf_swl (List.getElem?_eq_getElem h0x) (List.getElem?_eq_getElem hnx)]
    exact fix_of (hO.mono (by omega)) fun k hk hne => swf_far _ hne (by omega)
  have hx1l : (swl xs 0 n xs[0] xs[n]).length = n + 1 := by rw [hA1.length, HN.out]
  have HD := Lib.hid (down_any w1 F h _ c1 c2 hA1.2.2.1 0 n (Nat.zero_le _) (by omega) (by omega) hU)
  have HT := Lib.hid (fun xs2 w2 => tail_of (w := w) (w1 := w1) (w2 := w2) (xs2 := xs2) (F := F) (h := h) (c1 := c1) (c2 := c2) hA1.1 HN.out hx1n)
  have HT1 := Lib.hid hA1.2.2.2
  have HU := Lib.hid hU
  generalize swl xs 0 n xs[0] xs[n] = xs1 at *
  unfold ifc at HD
  clear h1 h2 h3 hA1 hx1n hU hx1l m2 m3 q0 HS
  go_wp2_with fail
  refine HD.out.mono ?_
  rintro e w2 ⟨xs2, b, rfl, hA2, hS⟩
  have hO2 : Ord (rkf xs2) n := by
    rcases hS with ⟨_, h4⟩ | ⟨_, rfl, h4⟩
    · exact h4
    · exact up_end h4 (.inl rfl)
  obtain ⟨ys, rfl, t1, t2, t3, t4, t5, t6⟩ := HT.out xs2 w2 hA2 hO2 HT1.out.1 HT1.out.2
  have HYL := Lib.hid t2
  have HP := Lib.hid (pop_row w2 F h ys c1 c2 z t4 (by omega))
  have m4 := meth_pop ⟨h, 0, none⟩ w2
  have HK := Lib.hid t4
  have T1 := Lib.hid t1
  have T3 := Lib.hid t3
  have T5 := Lib.hid t5
  have T6 := Lib.hid t6
  clear hA2 hS t1 t2 t3 t4 t5 t6 HD HT HT1 HU
  go_wp2_with fail
  refine HP.out.mono ?_
  rintro e w3 ⟨rfl, r1, r2, r3⟩
  have R1 := Lib.hid r1
  have R2 := Lib.hid r2
  have R3 := Lib.hid r3
  clear r1 r2 r3 m4
  go_wp2_with fail
  go_ret
  have hzb : w2.heap[z.blk]? = some (.cells (itc z ys.length) 71 (0, 0)) ∧ F z.blk := by
    obtain ⟨_, _, h5, _⟩ := HK.out
    have h6 := h5.2.2 ys.length z (by simp)
    exact ⟨h6.1, h6.2.1⟩
  refine ⟨rfl, ys, T1.out, by rw [HYL.out]; exact T3.out, R1.out, ?_, R3.out.trans T6.out, ?_⟩
  · exact (T5.out.mono fun k hk => .inl hk).step R2.out fun k _ hk => .inr hk
  · refine (R2.out.2.2.2.2 z.blk (Array.getElem?_eq_some_iff.1 hzb.1).1 (fun e => hFh (by rw [← e]; exact hzb.2))).trans hzb.1

set_option maxHeartbeats 4000000 in
theorem remove_any (w : World) (F : Nat → Prop) (h : Nat) (xs : List It) (c1 c2 : Value) (z : It) (i : Nat) (hR : RowP w F h xs c1 c2) (hz : xs[i]? = some z) (hl : xs.length ≤ 900000000) (hO : Ord (rkf xs) xs.length) :
    Calls Try.prog 32 #[ifc h, .int .i64 (i : Int)] w fun e w' => e = .returned (.iface 68 (itv z)) ∧ ∃ ys, (z :: ys).Perm xs ∧ Ord (rkf ys) ys.length ∧ RowP w' F h ys c1 c2 ∧ Turned (fun k => F k ∨ k = h) w w' ∧ w'.heap.size = w.heap.size := by
  have hix := (List.getElem?_eq_some_iff.1 hz).1
  obtain ⟨n, hn⟩ : ∃ n, xs.length = n + 1 := ⟨xs.length - 1, by omega⟩
  obtain ⟨A, c, hrv, hI⟩ := hR.open
  rw [hn] at hrv hI
  obtain ⟨q0, _⟩ := three hrv
  have m2 := meth_val "Len" 59 q_len w h _ q0
  have hAf : After w F h xs c1 c2 (n + 1) xs w := ⟨List.Perm.refl _, fun _ _ => rfl, hR, Turned.refl F w, rfl⟩
  by_cases hin : i = n
  · subst hin
    have he := split_last hn hz
    obtain ⟨ys, hys⟩ : ∃ ys, xs.take i = ys := ⟨_, rfl⟩
    rw [hys] at he
    have t2 : ys.length = i := by rw [← hys, List.length_take]; omega
    have t1 : (z :: ys).Perm xs := by rw [he]; exact (List.perm_append_singleton z ys).symm
    have t3 : Ord (rkf ys) i := (hO.mono (by omega)).same (rkf_dropLast fun k hk => by rw [← hys, List.getElem?_take, if_pos hk])
    have t4 : RowP w F h (ys ++ [z]) c1 c2 := by rw [← he]; exact hR
    have t5 := Turned.refl F w
    have HN := Lib.hid hn
    clear hys he hI hAf hR hrv hz hn
    unfold ifc
    go_enter Try.func32, Try.ntmps32
    go_wp2_with fail
    refine (len_any _ _ _ _).mono ?_
    rintro e w1 ⟨rfl, rfl⟩
    have HP := Lib.hid (pop_row w F h ys c1 c2 z t4 (by omega))
    have m4 := meth_pop ⟨h, 0, none⟩ w
    have T1 := Lib.hid t1
    have T2 := Lib.hid t2
    have T3 := Lib.hid t3
    have T5 := Lib.hid t5
    clear t1 t2 t3 t4 t5 m2 q0
    go_wp2_with fail
    refine HP.out.mono ?_
    rintro e w9 ⟨rfl, r1, r2, r3⟩
    have R1 := Lib.hid r1
    have R2 := Lib.hid r2
    have R3 := Lib.hid r3
    clear r1 r2 r3 m4
    go_wp2_with fail
    go_ret
    exact ⟨rfl, ys, T1.out, by rw [T2.out]; exact T3.out, R1.out, (T5.out.mono fun k hk => .inl hk).step R2.out fun k _ hk => .inr hk, R3.out⟩
  · have hnx : n < xs.length := by omega
    have hin2 : i < n := by omega
    have hni : ((n : Int) == (i : Int)) = false := beq_eq_false_iff_ne.2 (fun e => hin (Int.ofNat.inj e).symm)
    have e0 : xs[i] = z := by
      rw [List.getElem?_eq_getElem hix] at hz
      exact Option.some.inj hz
    have m3 := meth_val "Swap" 61 q_swap w h _ q0
    have HS := Lib.hid (swap_any w F _ xs hI i n hix hnx)
    have HN := Lib.hid hn
    have HRV := Lib.hid hrv
    have HAF := Lib.hid hAf
    clear hrv hR hn hAf hz
    unfold ifc
    go_enter Try.func32, Try.ntmps32
    go_wp2_with fail
    refine (len_any _ _ _ _).mono ?_
    rintro e w1 ⟨rfl, rfl⟩
    go_wp2_with fail
    refine HS.out.mono ?_
    rintro e w1 ⟨rfl, h1, h2, h3⟩
    have hA1 := HAF.out.swap HRV.out hix hnx (by omega) (by omega) h1 h2 h3
    have hx1n : (swl xs i n xs[i] xs[n])[n]? = some z := by
      simp only [swl]
      rw [List.getElem?_set_self (by simpa using hnx), e0]
    have hU : FixInv (rkf (swl xs i n xs[i] xs[n])) i n := by
      rw [rkf_swl (List.getElem?_eq_getElem hix) (List.getElem?_eq_getElem hnx)]
      exact fix_of (hO.mono (by omega)) fun k hk hne => swf_far _ hne (by omega)
    have hx1l : (swl xs i n xs[i] xs[n]).length = n + 1 := by rw [hA1.length, HN.out]
    have HD := Lib.hid (down_any w1 F h _ c1 c2 hA1.2.2.1 i n (by omega) (by omega) (by omega) hU)
    have HT := Lib.hid (fun xs2 w2 => tail_of (w := w) (w1 := w1) (w2 := w2) (xs2 := xs2) (F := F) (h := h) (c1 := c1) (c2 := c2) hA1.1 HN.out hx1n)
    have HT1 := Lib.hid hA1.2.2.2
    have HX1 := Lib.hid hx1l
    generalize swl xs i n xs[i] xs[n] = xs1 at *
    unfold ifc at HD
    clear h1 h2 h3 hA1 hx1n hU hx1l m2 m3 q0 HS
    go_wp2_with fail
    refine HD.out.mono ?_
    rintro e w2 ⟨xs2, b, rfl, hA2, hS⟩
    rcases hS with ⟨rfl, hO2⟩ | ⟨rfl, rfl, hU2⟩
    · obtain ⟨ys, rfl, t1, t2, t3, t4, t5, t6⟩ := HT.out xs2 w2 hA2 hO2 HT1.out.1 HT1.out.2
      have HP := Lib.hid (pop_row w2 F h ys c1 c2 z t4 (by omega))
      have m4 := meth_pop ⟨h, 0, none⟩ w2
      have T1 := Lib.hid t1
      have T2 := Lib.hid t2
      have T3 := Lib.hid t3
      have T5 := Lib.hid t5
      have T6 := Lib.hid t6
      clear t1 t2 t3 t4 t5 t6 hA2 HD HT HT1
      go_wp2_with fail
      refine HP.out.mono ?_
      rintro e w9 ⟨rfl, r1, r2, r3⟩
      have R1 := Lib.hid r1
      have R2 := Lib.hid r2
      have R3 := Lib.hid r3
      clear r1 r2 r3 m4
      go_wp2_with fail
      go_ret
      exact ⟨rfl, ys, T1.out, by rw [T2.out]; exact T3.out, R1.out, (T5.out.mono fun k hk => .inl hk).step R2.out fun k _ hk => .inr hk, R3.out.trans T6.out⟩
    · have HP := Lib.hid (up_any w2 F h xs2 c1 c2 hA2.2.2.1 i n (by have := HN.out; omega) (by have := HX1.out; omega) (by have := HX1.out; have := HN.out; omega) hU2)
      have HA2 := Lib.hid hA2
      unfold ifc at HP
      clear hA2 HD
      go_wp2_with fail
      refine HP.out.mono ?_
      rintro e w3 ⟨rfl, xs3, hA3, hO3⟩
      have hA4 : After w1 F h xs2 c1 c2 n xs3 w3 := ⟨hA3.1, hA3.2.1, hA3.2.2.1, HA2.out.2.2.2.1.trans hA3.2.2.2.1, hA3.2.2.2.2.trans HA2.out.2.2.2.2⟩
      obtain ⟨ys, rfl, t1, t2, t3, t4, t5, t6⟩ := HT.out xs3 w3 hA4 hO3 HT1.out.1 HT1.out.2
      clear HP
      have HP := Lib.hid (pop_row w3 F h ys c1 c2 z t4 (by omega))
      have m4 := meth_pop ⟨h, 0, none⟩ w3
      have T1 := Lib.hid t1
      have T2 := Lib.hid t2
      have T3 := Lib.hid t3
      have T5 := Lib.hid t5
      have T6 := Lib.hid t6
      clear t1 t2 t3 t4 t5 t6 hA3 hA4 HT HT1
      go_wp2_with fail
      refine HP.out.mono ?_
      rintro e w9 ⟨rfl, r1, r2, r3⟩
      have R1 := Lib.hid r1
      have R2 := Lib.hid r2
      have R3 := Lib.hid r3
      clear r1 r2 r3 m4
      go_wp2_with fail
      go_ret
      exact ⟨rfl, ys, T1.out, by rw [T2.out]; exact T3.out, R1.out, (T5.out.mono fun k hk => .inl hk).step R2.out fun k _ hk => .inr hk, R3.out.trans T6.out⟩

end Go.Proofs.Ytfmcpcciokogiaa
