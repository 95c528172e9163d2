/- The reference's Drop: the walk. -/
import Derived.Test.YtfmcpcciokogiaaRefB
namespace Go.Proofs.Ytfmcpcciokogiaa
open Go.RowKit Fl

theorem kt_one {P : List Pr} : ∀ u ∈ kt P, u.oneCell' = true := fun u hu => by obtain ⟨p, _, rfl⟩ := List.mem_map.1 hu; rfl
theorem et_one {P : List Pr} : ∀ u ∈ et P, u.oneCell' = true := fun u hu => by obtain ⟨p, _, rfl⟩ := List.mem_map.1 hu; rfl
theorem posP_lt {P : List Pr} {s : ByteArray} {i : Nat} (h : posP P s = some i) : i < P.length := by
  unfold posP at h
  rw [List.findIdx?_eq_some_iff_getElem] at h
  exact h.1

theorem rdrop_none (w : World) (G : Nat → Prop) (r : Nat) (P : List Pr) (s : ByteArray) (h : RP w G r P) (hl : P.length ≤ 1000000) (hi : posP P s = none) :
    Calls Try.prog 34 #[.pointer (some ⟨r, 0, none⟩), .string s] w fun e w' => e = .returned (.bool false) ∧ w = w' := by
  have HA := at_any w G r P s h hl
  have hp : posI P s = -1 := by unfold posI; rw [hi]
  rw [hp] at HA
  have HA := Lib.hid HA
  clear hp hi
  go_enter Try.func34, Try.ntmps34
  go_wp2_with fail
  refine HA.out.mono ?_
  rintro e w' ⟨rfl, rfl⟩
  go_wp2_with fail
  go_ret
  exact ⟨rfl, rfl⟩

set_option maxRecDepth 100000 in
set_option maxHeartbeats 4000000 in
theorem rdrop_some (w : World) (G : Nat → Prop) (r : Nat) (P : List Pr) (s : ByteArray) (i : Nat) (h : RP w G r P) (hl : P.length ≤ 100000) (hi : posP P s = some i) :
    Calls Try.prog 34 #[.pointer (some ⟨r, 0, none⟩), .string s] w fun e w' => e = .returned (.bool true) ∧ RP w' (fun k => G k ∨ (w.heap.size ≤ k ∧ k < w'.heap.size)) r (P.take i ++ P.drop (i + 1)) ∧ Turned G w w' := by
  have hil := posP_lt hi
  have HA := at_any w G r P s h (by omega)
  have hp : posI P s = (i : Int) := by unfold posI; rw [hi]
  rw [hp] at HA
  have HA := Lib.hid HA
  obtain ⟨A, c, A', c', h1, h2, h3⟩ := h.open
  obtain ⟨_, _, _, _, _, _, _, hGr, hGs⟩ := h
  rcases h2.form with ⟨_, e⟩ | ⟨g, cap, cur, e, _, hg, hn, _⟩
  · have := congrArg List.length e
    rw [kt_length] at this
    simp at this
    simp [this] at hil
  rw [kt_length] at e hn
  cases e
  rcases h3.form with ⟨_, e⟩ | ⟨g', cap', cur', e, _, hg', hn', _⟩
  · have := congrArg List.length e
    rw [et_length] at this
    simp at this
    simp [this] at hil
  rw [et_length] at e hn'
  cases e
  obtain ⟨q0, q1, f0, f1⟩ := two_cells h1
  have hiI : (i : Int) < (P.length : Int) := by omega
  clear hp hi hg hg'
  go_enter Try.func34, Try.ntmps34
  go_wp2_with fail
  refine HA.out.mono ?_
  rintro e w' ⟨rfl, rfl⟩
  clear HA
  go_upto_region 4 with fail

  have cases4 : ∃ o' c2, (P.length = i + 1 ∨ o' = i + 1) ∧ P.length - (i + 1) ≤ c2 ∧ (c = i + 1 ∧ o' = 0 ∧ c2 = 0 ∨ c ≠ i + 1 ∧ o' = i + 1 ∧ c2 = c - (i + 1)) := by
    by_cases hc : c = i + 1
    · exact ⟨0, 0, by omega, by omega, .inl ⟨hc, rfl, rfl⟩⟩
    · exact ⟨i + 1, c - (i + 1), by omega, by omega, .inr ⟨hc, rfl, rfl⟩⟩
  obtain ⟨o4, d4, ho4, hd4, hc4⟩ := cases4
  have KF := Lib.hid (drop_facts (w := w) (r := r) (e := 9) (xs := kt P) (o' := o4) (c' := d4) h1 h2 (kt_length P) (by omega) ho4 hd4)
  have KP := Lib.hid (fun w1 w2 v1 v2 => part_of (w := w) (w1 := w1) (w2 := w2) (r := r) (e := 9) (e' := 27) (xs := (kt P).take i ++ (kt P).drop (i + 1)) (ys := et P) (v1 := v1) (v2 := v2) true h1 h3 (by decide))
  have L1 := Lib.hid (show ((kt P).take i).length ≤ 1000000 by rw [List.length_take, kt_length]; omega)
  have L2 := Lib.hid (show ((kt P).drop (i + 1)).length ≤ 1000000 by rw [List.length_drop, kt_length]; omega)
  have O1 := Lib.hid (show ∀ u ∈ (kt P).take i, u.oneCell' = true from fun u hu => kt_one u (List.mem_of_mem_take hu))
  have O2 := Lib.hid (show ∀ u ∈ (kt P).drop (i + 1), u.oneCell' = true from fun u hu => kt_one u (List.mem_of_mem_drop hu))
  have ca4 : (w.alloc (.cells #[] 9)).cell? ⟨r, 0, none⟩ = some (.slice (some ⟨g, 0, none⟩) P.length c) := (World.cell?_of_block (Below.heap_alloc _ _ _ (Array.getElem?_eq_some_iff.1 h1).1)).trans q0
  have wi : IntKind.i64.wrap ((i : Int) + 1) = (i : Int) + 1 := IntWalk.i64_in _ ⟨by omega, by omega⟩
  have b1 : (i : Int) ≤ (i : Int) + 1 := by omega
  have b2 : i ≤ c := by omega
  have b3 : (i : Int) ≤ (c : Int) := by omega
  have b4 : i + 1 ≤ P.length := by omega
  have b5 : (i : Int) + 1 ≤ (P.length : Int) := by omega
  have b6 : i + 1 ≤ c := by omega
  have b7 : (i : Int) + 1 ≤ (c : Int) := by omega
  have b8 : (P.length : Int) ≤ (c : Int) := by omega
  have b9 : (0 : Int) ≤ (i : Int) + 1 := by omega
  clear ho4 hd4 h2
  go_cut [] (fun wx => Part w r 9 27 true ((kt P).take i ++ (kt P).drop (i + 1)) (.slice (some ⟨g', 0, none⟩) P.length c') (et P) wx)
  case first =>
    have HH := Lib.hid h1
    clear h1
    rcases hc4 with ⟨rfl, rfl, rfl⟩ | ⟨hcn, rfl, rfl⟩
    · have KF := Lib.hid (show _ from (show P.length - (i + 1) = 0 by omega) ▸ KF.out)
      go_region_law (first
        | (refine step_app rfl (.tmp 12) (.tmp 18) 36 rfl 9 _ 16 Try.underlying36 info9 rfl (by omega) [] ((kt P).take i) (fresh_row (w := w) 9) KF.out.1 O1.out (by simp) L1.out ?_; intro v1 w1 hown1 hg1 hat1; have hg1 : (w.alloc (.cells #[] 9)).grownBy w1 (some w.heap.size) := ⟨hg1.os, hg1.tape, hg1.output, hg1.size, hg1.block⟩; obtain ⟨k1, k2, k3⟩ := KF.out.2 w1 hg1; obtain ⟨p0, p1, p2, p3⟩ := two_cells k1; have HG1 := Lib.hid hg1; have HAT1 := Lib.hid hat1; have K2 := Lib.hid k2; clear k1 k2 k3 hg1 hat1)
        | (refine step_app rfl (.tmp 19) (.tmp 26) 36 rfl 9 _ 16 Try.underlying36 info9 rfl (by omega) ((kt P).take i) ((kt P).drop (i + 1)) hown1 K2.out O2.out L1.out L2.out ?_; intro v2 w2 hown2 hg2 hat2; obtain ⟨m1, m2⟩ := KP.out w1 w2 v1 v2 HG1.out HAT1.out hown2 hg2 hat2 (by decide); obtain ⟨r0, r1, r2, r3⟩ := two_cells m1; obtain ⟨A2, c2, rfl⟩ := hown2.slice; clear hown2 hg2 hat2; generalize ((kt P).take i ++ (kt P).drop (i + 1)).length = n2 at m2 ⊢; have M2 := Lib.hid m2; clear m1 m2))
      all_goals
        go_wp2_with fail
        go_meet
        exact M2.out
    · go_region_law (first
        | (refine step_app rfl (.tmp 12) (.tmp 18) 36 rfl 9 _ 16 Try.underlying36 info9 rfl (by omega) [] ((kt P).take i) (fresh_row (w := w) 9) KF.out.1 O1.out (by simp) L1.out ?_; intro v1 w1 hown1 hg1 hat1; have hg1 : (w.alloc (.cells #[] 9)).grownBy w1 (some w.heap.size) := ⟨hg1.os, hg1.tape, hg1.output, hg1.size, hg1.block⟩; obtain ⟨k1, k2, k3⟩ := KF.out.2 w1 hg1; obtain ⟨p0, p1, p2, p3⟩ := two_cells k1; have HG1 := Lib.hid hg1; have HAT1 := Lib.hid hat1; have K2 := Lib.hid k2; clear k1 k2 k3 hg1 hat1)
        | (refine step_app rfl (.tmp 19) (.tmp 26) 36 rfl 9 _ 16 Try.underlying36 info9 rfl (by omega) ((kt P).take i) ((kt P).drop (i + 1)) hown1 K2.out O2.out L1.out L2.out ?_; intro v2 w2 hown2 hg2 hat2; obtain ⟨m1, m2⟩ := KP.out w1 w2 v1 v2 HG1.out HAT1.out hown2 hg2 hat2 (by decide); obtain ⟨r0, r1, r2, r3⟩ := two_cells m1; obtain ⟨A2, c2, rfl⟩ := hown2.slice; clear hown2 hg2 hat2; generalize ((kt P).take i ++ (kt P).drop (i + 1)).length = n2 at m2 ⊢; have M2 := Lib.hid m2; clear m1 m2))
      all_goals
        go_wp2_with fail
        go_meet
        exact M2.out
  case rest =>
    generalize wc = ws at *
    obtain ⟨v, hr, hv, hvb, h3, hT4⟩ := hcut
    have h1 : ws.heap[r]? = some (.cells #[v, .slice (some ⟨g', 0, none⟩) P.length c'] 59 (0, 0)) := hr
    obtain ⟨q0, q1, f0, f1⟩ := two_cells h1
    have HT4 := Lib.hid hT4
    have HVB := Lib.hid hvb
    clear hr hT4 hvb KF KP L1 L2 O1 O2 ca4 wi b1 b2 b3 b4 b5 b6 b7 b8 b9 hc4
    go_upto_region 5 with fail

    have cases5 : ∃ o' c2, (P.length = i + 1 ∨ o' = i + 1) ∧ P.length - (i + 1) ≤ c2 ∧ (c' = i + 1 ∧ o' = 0 ∧ c2 = 0 ∨ c' ≠ i + 1 ∧ o' = i + 1 ∧ c2 = c' - (i + 1)) := by
      by_cases hc : c' = i + 1
      · exact ⟨0, 0, by omega, by omega, .inl ⟨hc, rfl, rfl⟩⟩
      · exact ⟨i + 1, c' - (i + 1), by omega, by omega, .inr ⟨hc, rfl, rfl⟩⟩
    obtain ⟨o5, d5, ho5, hd5, hc5⟩ := cases5
    have KF := Lib.hid (drop_facts (w := ws) (r := r) (e := 27) (xs := et P) (o' := o5) (c' := d5) h1 h3 (et_length P) (by omega) ho5 hd5)
    have KP := Lib.hid (fun w1 w2 v1 v2 => part_of (w := ws) (w1 := w1) (w2 := w2) (r := r) (e := 27) (e' := 9) (xs := (et P).take i ++ (et P).drop (i + 1)) (ys := (kt P).take i ++ (kt P).drop (i + 1)) (v1 := v1) (v2 := v2) false h1 hv (by decide))
    have L1 := Lib.hid (show ((et P).take i).length ≤ 1000000 by rw [List.length_take, et_length]; omega)
    have L2 := Lib.hid (show ((et P).drop (i + 1)).length ≤ 1000000 by rw [List.length_drop, et_length]; omega)
    have O1 := Lib.hid (show ∀ u ∈ (et P).take i, u.oneCell' = true from fun u hu => et_one u (List.mem_of_mem_take hu))
    have O2 := Lib.hid (show ∀ u ∈ (et P).drop (i + 1), u.oneCell' = true from fun u hu => et_one u (List.mem_of_mem_drop hu))
    have ca5 : (ws.alloc (.cells #[] 27)).cell? ⟨r, 1, none⟩ = some (.slice (some ⟨g', 0, none⟩) P.length c') := (World.cell?_of_block (Below.heap_alloc _ _ _ (Array.getElem?_eq_some_iff.1 h1).1)).trans q1
    have wi : IntKind.i64.wrap ((i : Int) + 1) = (i : Int) + 1 := IntWalk.i64_in _ ⟨by omega, by omega⟩
    have b1 : (i : Int) ≤ (i : Int) + 1 := by omega
    have b2 : i ≤ c' := by omega
    have b3 : (i : Int) ≤ (c' : Int) := by omega
    have b4 : i + 1 ≤ P.length := by omega
    have b5 : (i : Int) + 1 ≤ (P.length : Int) := by omega
    have b6 : i + 1 ≤ c' := by omega
    have b7 : (i : Int) + 1 ≤ (c' : Int) := by omega
    have b8 : (P.length : Int) ≤ (c' : Int) := by omega
    have b9 : (0 : Int) ≤ (i : Int) + 1 := by omega
    clear ho5 hd5 h3
    go_cut [] (fun wx => Part ws r 27 9 false ((et P).take i ++ (et P).drop (i + 1)) v ((kt P).take i ++ (kt P).drop (i + 1)) wx)
    case first =>
      have HH := Lib.hid h1
      clear h1
      rcases hc5 with ⟨rfl, rfl, rfl⟩ | ⟨hcn, rfl, rfl⟩
      · have KF := Lib.hid (show _ from (show P.length - (i + 1) = 0 by omega) ▸ KF.out)
        go_region_law (first
          | (refine step_app rfl (.tmp 31) (.tmp 37) 57 rfl 27 _ 8 Try.underlying57 info27 rfl (by omega) [] ((et P).take i) (fresh_row (w := ws) 27) KF.out.1 O1.out (by simp) L1.out ?_; intro v1 w1 hown1 hg1 hat1; have hg1 : (ws.alloc (.cells #[] 27)).grownBy w1 (some ws.heap.size) := ⟨hg1.os, hg1.tape, hg1.output, hg1.size, hg1.block⟩; obtain ⟨k1, k2, k3⟩ := KF.out.2 w1 hg1; obtain ⟨p0, p1, p2, p3⟩ := two_cells k1; have HG1 := Lib.hid hg1; have HAT1 := Lib.hid hat1; have K2 := Lib.hid k2; clear k1 k2 k3 hg1 hat1)
          | (refine step_app rfl (.tmp 38) (.tmp 45) 57 rfl 27 _ 8 Try.underlying57 info27 rfl (by omega) ((et P).take i) ((et P).drop (i + 1)) hown1 K2.out O2.out L1.out L2.out ?_; intro v2 w2 hown2 hg2 hat2; obtain ⟨m1, m2⟩ := KP.out w1 w2 v1 v2 HG1.out HAT1.out hown2 hg2 hat2 (by decide); obtain ⟨r0, r1, r2, r3⟩ := two_cells m1; obtain ⟨A2, c2, rfl⟩ := hown2.slice; clear hown2 hg2 hat2; generalize ((et P).take i ++ (et P).drop (i + 1)).length = n2 at m2 ⊢; have M2 := Lib.hid m2; clear m1 m2))
        all_goals
          go_wp2_with fail
          go_meet
          exact M2.out
      · go_region_law (first
          | (refine step_app rfl (.tmp 31) (.tmp 37) 57 rfl 27 _ 8 Try.underlying57 info27 rfl (by omega) [] ((et P).take i) (fresh_row (w := ws) 27) KF.out.1 O1.out (by simp) L1.out ?_; intro v1 w1 hown1 hg1 hat1; have hg1 : (ws.alloc (.cells #[] 27)).grownBy w1 (some ws.heap.size) := ⟨hg1.os, hg1.tape, hg1.output, hg1.size, hg1.block⟩; obtain ⟨k1, k2, k3⟩ := KF.out.2 w1 hg1; obtain ⟨p0, p1, p2, p3⟩ := two_cells k1; have HG1 := Lib.hid hg1; have HAT1 := Lib.hid hat1; have K2 := Lib.hid k2; clear k1 k2 k3 hg1 hat1)
          | (refine step_app rfl (.tmp 38) (.tmp 45) 57 rfl 27 _ 8 Try.underlying57 info27 rfl (by omega) ((et P).take i) ((et P).drop (i + 1)) hown1 K2.out O2.out L1.out L2.out ?_; intro v2 w2 hown2 hg2 hat2; obtain ⟨m1, m2⟩ := KP.out w1 w2 v1 v2 HG1.out HAT1.out hown2 hg2 hat2 (by decide); obtain ⟨r0, r1, r2, r3⟩ := two_cells m1; obtain ⟨A2, c2, rfl⟩ := hown2.slice; clear hown2 hg2 hat2; generalize ((et P).take i ++ (et P).drop (i + 1)).length = n2 at m2 ⊢; have M2 := Lib.hid m2; clear m1 m2))
        all_goals
          go_wp2_with fail
          go_meet
          exact M2.out
    case rest =>
      generalize wc = wx at *
      obtain ⟨v3, hr3, hrow3, hv3, hv9, hT5⟩ := hcut
      have hs4 : w.heap.size ≤ ws.heap.size := HT4.out.2.2.2.1
      have hs5 : ws.heap.size ≤ wx.heap.size := hT5.2.2.2.1
      have ek : kt (P.take i ++ P.drop (i + 1)) = (kt P).take i ++ (kt P).drop (i + 1) := by simp [kt, List.map_take, List.map_drop]
      have ee : et (P.take i ++ P.drop (i + 1)) = (et P).take i ++ (et P).drop (i + 1) := by simp [et, List.map_take, List.map_drop]
      have HRP := Lib.hid (show RP wx (fun k => G k ∨ (w.heap.size ≤ k ∧ k < wx.heap.size)) r (P.take i ++ P.drop (i + 1)) from ⟨v, v3, hr3, by rw [ek]; exact hv9, by rw [ee]; exact hrow3, fun k q => .inr ⟨(HVB.out k q).1, Nat.lt_of_lt_of_le (HVB.out k q).2 hs5⟩, fun k q => .inr ⟨Nat.le_trans hs4 (hv3 k q).1, (hv3 k q).2⟩, .inl hGr, fun k q => by
        rcases q with q | q
        · exact Nat.lt_of_lt_of_le (hGs k q) (Nat.le_trans hs4 hs5)
        · exact q.2⟩)
      have HTT := Lib.hid (show Turned G w wx from (HT4.out.trans hT5).mono fun k q => by rw [q]; exact hGr)
      clear hr3 hrow3 hv3 hv9 hT5
      go_wp2_with fail
      go_ret
      exact ⟨rfl, HRP.out, HTT.out⟩

end Go.Proofs.Ytfmcpcciokogiaa
