/- LeaseDrop: the law's walk. -/
import Derived.Test.YtfmcpcciokogiaaGoes
namespace Go.Proofs.Ytfmcpcciokogiaa
open Go.RowKit Fl

/-- What lies in the boxes of the captured variables, and behind them. -/
def Caught (w : World) (B1 B2 : Nat) (a a2 : Option Addr) (len cap len2 cap2 : Nat) (key : Nat → ByteArray) (fl : Nat → Nat) (g : Nat → Bool) : Prop :=
  w.heap[B1]? = some (.cells #[.slice a len cap] 22 (0, 0)) ∧ w.heap[B2]? = some (.cells #[.slice a2 len2 cap2] 51 (0, 0)) ∧
  (∀ i, i < len → ∃ b off, a = some ⟨b, off, none⟩ ∧ b < w.heap.size ∧ w.cell? ⟨b, off + i * 4 + 2, none⟩ = some (.string (key i)) ∧ w.cell? ⟨b, off + i * 4 + 3, none⟩ = some (.int .u64 (fl i)) ∧ (key i).size ≤ maxLen) ∧
  (∀ i, i < len2 → ∃ ad : Addr, a2 = some ad ∧ ad.block < w.heap.size ∧ w.cell? (ad.add i) = some (.bool (g i)))

theorem Caught.at {wb w : World} {B1 B2 : Nat} {a a2 : Option Addr} {len cap len2 cap2 : Nat} {key : Nat → ByteArray} {fl : Nat → Nat} {g : Nat → Bool} (h : Caught wb B1 B2 a a2 len cap len2 cap2 key fl g) (hB : Below wb.heap.size wb w) :
    w.cell? ⟨B1, 0, none⟩ = some (.slice a len cap) ∧ (∀ i, i < len → ∃ b off, a = some ⟨b, off, none⟩ ∧ w.cell? ⟨b, off + i * 4 + 2, none⟩ = some (.string (key i)) ∧ w.cell? ⟨b, off + i * 4 + 3, none⟩ = some (.int .u64 (fl i)) ∧ (key i).size ≤ maxLen) ∧
      ∀ k, Calls Try.prog 22 #[.string k, .pointer (some ⟨B1, 0, none⟩), .pointer (some ⟨B2, 0, none⟩)] w fun e w' => e = .returned (.bool (goesB (min len (min 200 len2)) key g k)) ∧ w = w' := by
  obtain ⟨h1, h2, h3, h4⟩ := h
  have b1 : w.cell? ⟨B1, 0, none⟩ = some (.slice a len cap) := by
    have := (hB.block B1 (Array.getElem?_eq_some_iff.1 h1).1).trans h1
    simp [World.cell?, this]
  have b2 : w.cell? ⟨B2, 0, none⟩ = some (.slice a2 len2 cap2) := by
    have := (hB.block B2 (Array.getElem?_eq_some_iff.1 h2).1).trans h2
    simp [World.cell?, this]
  have k3 : ∀ i, i < len → ∃ b off, a = some ⟨b, off, none⟩ ∧ w.cell? ⟨b, off + i * 4 + 2, none⟩ = some (.string (key i)) ∧ w.cell? ⟨b, off + i * 4 + 3, none⟩ = some (.int .u64 (fl i)) ∧ (key i).size ≤ maxLen := fun i hi => by
    obtain ⟨b, off, rfl, hlt, q2, q3, q4⟩ := h3 i hi
    exact ⟨b, off, rfl, (hB.cell (p := ⟨b, off + i * 4 + 2, none⟩) hlt).trans q2, (hB.cell (p := ⟨b, off + i * 4 + 3, none⟩) hlt).trans q3, q4⟩
  refine ⟨b1, k3, fun k => goes_any w B1 B2 a a2 len cap len2 cap2 key g k b1 b2 (fun i hi => ?_) fun i hi => ?_⟩
  · obtain ⟨b, off, rfl, q2, _⟩ := k3 i hi
    exact ⟨b, off, rfl, q2⟩
  · obtain ⟨ad, rfl, hlt, q⟩ := h4 i hi
    exact ⟨ad, rfl, (hB.cell (p := ad.add i) (by rw [add_block]; exact hlt)).trans q⟩

/-- Both heaps after k calls: the second has what stays. -/
def DInv1 (wb : World) (go : ByteArray → Bool) (key : Nat → ByteArray) (ha hb k : Nat) (wr : World) : Prop :=
  ∃ Ga Gb LA LB TA TB, Two wb wr Ga Gb ha hb LA LB TA TB ∧ pr LB = stay go (pr LA) ∧ (∀ p ∈ pr LA, ∃ j, j < k ∧ p.1 = cutT (key j)) ∧ TA ≤ k ∧ TB ≤ k

theorem mem_set {P : List Pr} {s : ByteArray} {f k : Nat} {key : Nat → ByteArray} (h : ∀ p ∈ P, ∃ j, j < k ∧ p.1 = cutT (key j)) (hs : s = cutT (key k)) : ∀ p ∈ outP P s ++ [(s, f)], ∃ j, j < k + 1 ∧ p.1 = cutT (key j) := fun p hp => by
  rcases List.mem_append.1 hp with h1 | h1
  · obtain ⟨j, h2, h3⟩ := h p (List.mem_filter.1 h1).1
    exact ⟨j, by omega, h3⟩
  · rw [List.mem_singleton.1 h1]
    exact ⟨k, by omega, hs⟩
theorem pr_set (L : List It) (s : ByteArray) (b f t : Nat) : pr (without L s ++ [⟨b, s, f, t⟩]) = outP (pr L) s ++ [(s, f)] := by
  rw [pr_append, ← outP_pr]
  rfl

/-- Behind k of the drops. -/
def DInv2 (wb : World) (go : ByteArray → Bool) (key : Nat → ByteArray) (ha hb n k : Nat) (wr : World) : Prop :=
  ∃ Ga Gb LA LB TA TB, Two wb wr Ga Gb ha hb LA LB TA TB ∧ pr LB = stay go (pr LA) ∧ (∀ p ∈ pr LA, ∃ j, j < n ∧ p.1 = cutT (key j)) ∧ (∀ m, m < k → go (cutT (key m)) = true → ∀ p ∈ pr LA, p.1 ≠ cutT (key m)) ∧ TA ≤ 200 ∧ TB ≤ 200

theorem all_stay {go : ByteArray → Bool} {P : List Pr} {key : Nat → ByteArray} {n : Nat} (h1 : ∀ p ∈ P, ∃ j, j < n ∧ p.1 = cutT (key j)) (h2 : ∀ m, m < n → go (cutT (key m)) = true → ∀ p ∈ P, p.1 ≠ cutT (key m)) : stay go P = P :=
  List.filter_eq_self.2 fun p hp => by
    obtain ⟨j, hj, e⟩ := h1 p hp
    cases hg : go p.1 with
    | false => rfl
    | true => exact absurd e (h2 j hj (by rw [← e]; exact hg) p hp)
theorem find_none_pr {L : List It} {s : ByteArray} (h : L.find? (isKey s) = none) : ∀ p ∈ pr L, p.1 ≠ s := fun p hp e => by
  obtain ⟨x, hx, rfl⟩ := List.mem_map.1 hp
  exact (List.find?_eq_none.1 h x hx) (isKey_iff.2 (by rw [← e]))

set_option maxRecDepth 100000 in
set_option maxHeartbeats 4000000 in
theorem drop_walk (wb : World) (B1 B2 : Nat) (a a2 : Option Addr) (len cap len2 cap2 : Nat) (key : Nat → ByteArray) (fl : Nat → Nat) (g : Nat → Bool) (w : World) (hB1 : B1 = w.heap.size) (hB2 : B2 = B1 + 1)
    (hwb : wb = (w.alloc (.cells #[.slice a len cap] 22)).alloc (.cells #[.slice a2 len2 cap2] 51)) (hC : Caught wb B1 B2 a a2 len cap len2 cap2 key fl g) :
    Calls Try.prog 6 #[.slice a len cap, .slice a2 len2 cap2] w fun e w' => e = .returned (.bool true) ∧ Below w.heap.size w w' := by
  have hWB : Below w.heap.size w wb := by
    rw [hwb]
    exact (alloc_below _ _).trans ((alloc_below _ _).mono (by rw [alloc_size]; omega))
  have HC := Lib.hid (fun wr hB => hC.at (w := wr) hB)
  have HWB := Lib.hid hWB
  clear hC hWB
  go_enter Try.func6, Try.ntmps6
  go_wp2_with fail
  have e2 : w.heap.size + 1 = B2 := by omega
  have e1 : w.heap.size = B1 := hB1.symm
  rw [← hwb, e2, e1]
  obtain ⟨go, hgo⟩ : ∃ go, goesB (min len (min 200 len2)) key g = go := ⟨_, rfl⟩
  rw [hgo] at HC
  clear hwb hB1 hB2 hgo e1 e2
  refine (new_any wb).mono ?_
  rintro e w1 ⟨rfl, h1, hB1, _⟩
  obtain ⟨ha, hha⟩ : ∃ h, h = wb.heap.size + 1 := ⟨_, rfl⟩
  rw [← hha] at h1 ⊢
  clear hha
  go_wp2_with fail
  refine (new_any w1).mono ?_
  rintro e w2 ⟨rfl, h2, hB2, _⟩
  obtain ⟨hb, hhb⟩ : ∃ h, h = w1.heap.size + 1 := ⟨_, rfl⟩
  rw [← hhb] at h2 ⊢
  clear hhb
  have h0 := two_new h1 (fun k hk => hk.1) (below_turned hB1) h2 (fun k hk => hk.1) hB2
  clear h1 hB1 h2 hB2
  go_wp2_with fail
  refine (wakes_any _).mono ?_
  rintro e w3 ⟨rfl, hB3⟩
  have h0 : DInv1 wb go key ha hb 0 w3 := ⟨_, _, _, _, _, _, h0.below hB3, rfl, fun p hp => by simp [pr] at hp, Nat.le_refl _, Nat.le_refl _⟩
  clear hB3
  go_upto_block 0 with fail
  go_cut [] (fun wx => DInv2 wb go key ha hb (min len 200) 0 wx)
  case first =>
    go_wp2_with fail
    go_loopw [8] (fun i wr => ∃ k : Nat, i = .int .i64 k ∧ k ≤ 200 ∧ k ≤ len ∧ DInv1 wb go key ha hb k wr) (fun i _ => 200 - (intOf i).toNat)
    case atStart => exact ⟨0, rfl, by omega, Nat.zero_le _, h0⟩
    case round =>
      clear h0
      obtain ⟨k, rfl, hk, hkl, ⟨Ga, Gb, LA, LB, TA, TB, hTwo, hpr, hmem, hTA, hTB⟩⟩ := hrel
      obtain ⟨q1, q2, q3⟩ := HC.out wr (turned_below (Nat.le_refl _) hTwo.2.2.2.2.2)
      have HPR := Lib.hid hpr
      have HM := Lib.hid hmem
      have HGO := Lib.hid q3
      clear hpr hmem q3
      by_cases c1 : k < len ∧ k < 200
      · obtain ⟨c1, c2⟩ := c1
        obtain ⟨b, off, rfl, g2, g3, hks⟩ := q2 k c1
        clear q2
        have hcs := cutT_small hks
        obtain ⟨ks, hkse⟩ : ∃ ks, ks = cutT (key k) := ⟨_, rfl⟩
        have HKS := Lib.hid hkse
        have HT := Lib.hid (text_any (key k) wr)
        rw [← hkse] at hcs HT
        generalize fl k = f at *
        have hcs := hcs
        clear hkse
        go_wp2_with fail
        refine HT.out.mono ?_
        rintro e w4 ⟨rfl, rfl⟩
        clear HT g2 g3
        cases e1 : isNe f f with
        | true =>
          have HN := Lib.hid (show DInv1 wb go key ha hb (k + 1) wr from ⟨Ga, Gb, LA, LB, TA, TB, hTwo, HPR.out, fun p hp => by
            obtain ⟨j, h1, h2⟩ := HM.out p hp
            exact ⟨j, by omega, h2⟩, by omega, by omega⟩)
          clear hTwo
          go_wp2_with fail
          refine (set_nan _ _ _ _ e1).mono ?_
          rintro e w5 ⟨rfl, rfl⟩
          go_wp2_with fail
          refine (HGO.out ks).mono ?_
          rintro e w5 ⟨rfl, rfl⟩
          cases e2 : go ks with
          | true =>
            go_wp2_with fail
            exact ⟨⟨k + 1, by go_num, by omega, by omega, HN.out⟩, by simp [intOf]; omega⟩
          | false =>
            go_wp2_with fail
            refine (set_nan _ _ _ _ e1).mono ?_
            rintro e w5 ⟨rfl, rfl⟩
            go_wp2_with fail
            exact ⟨⟨k + 1, by go_num, by omega, by omega, HN.out⟩, by simp [intOf]; omega⟩
        | false =>
          go_wp2_with fail
          refine (set_any wr Ga ha TA LA ks f hTwo.1 e1 (by omega) hcs).mono ?_
          rintro e w5 ⟨rfl, b5, h5, t5⟩
          obtain ⟨Ga5, hTwo5⟩ := hTwo.grow h5 t5
          clear hTwo h5 t5 q1
          obtain ⟨q1, _, q3⟩ := HC.out w5 (turned_below (Nat.le_refl _) hTwo5.2.2.2.2.2)
          have HG5 := Lib.hid q3
          clear q3 HGO
          go_wp2_with fail
          refine (HG5.out ks).mono ?_
          rintro e w6 ⟨rfl, rfl⟩
          cases e2 : go ks with
          | true =>
            have HN := Lib.hid (show DInv1 wb go key ha hb (k + 1) w5 from ⟨_, _, _, _, _, _, hTwo5, by
              rw [pr_set, stay_gone go _ _ _ e2]
              exact HPR.out, by
              rw [pr_set]
              exact mem_set HM.out HKS.out, by omega, by omega⟩)
            clear hTwo5
            go_wp2_with fail
            exact ⟨⟨k + 1, by go_num, by omega, by omega, HN.out⟩, by simp [intOf]; omega⟩
          | false =>
            go_wp2_with fail
            refine (set_any w5 Gb hb TB LB ks f hTwo5.2.1 e1 (by omega) hcs).mono ?_
            rintro e w6 ⟨rfl, b6, h6, t6⟩
            obtain ⟨Gb6, hTwo6⟩ := hTwo5.swap.grow h6 t6
            have HN := Lib.hid (show DInv1 wb go key ha hb (k + 1) w6 from ⟨_, _, _, _, _, _, hTwo6.swap, by
              rw [pr_set, pr_set, stay_set go _ _ _ e2, HPR.out], by
              rw [pr_set]
              exact mem_set HM.out HKS.out, by omega, by omega⟩)
            obtain ⟨q1', _⟩ := HC.out w6 (turned_below (Nat.le_refl _) hTwo6.2.2.2.2.2)
            clear hTwo5 h6 t6 hTwo6 q1
            go_wp2_with fail
            exact ⟨⟨k + 1, by go_num, by omega, by omega, HN.out⟩, by simp [intOf]; omega⟩
      · have HN := Lib.hid (show DInv2 wb go key ha hb (min len 200) 0 wr from ⟨Ga, Gb, LA, LB, TA, TB, hTwo, HPR.out, fun p hp => by
          obtain ⟨j, h1, h2⟩ := HM.out p hp
          exact ⟨j, by omega, h2⟩, fun m hm => by omega, by omega, by omega⟩)
        clear hTwo q2
        go_wp2_with fail
        all_goals
          go_meet
          exact HN.out
  case rest =>
    generalize wc = ws at *
    clear h0
    go_upto_block 2 with fail
    go_cut [] (fun wx => DInv2 wb go key ha hb (min len 200) (min len 200) wx)
    case first =>
      go_wp2_with fail
      go_loopw [11] (fun i wr => ∃ k : Nat, i = .int .i64 k ∧ k ≤ 200 ∧ k ≤ len ∧ DInv2 wb go key ha hb (min len 200) k wr) (fun i _ => 200 - (intOf i).toNat)
      case atStart => exact ⟨0, rfl, by omega, Nat.zero_le _, hcut⟩
      case round =>
        clear hcut
        obtain ⟨k, rfl, hk, hkl, ⟨Ga, Gb, LA, LB, TA, TB, hTwo, hpr, hmem, hgone, hTA, hTB⟩⟩ := hrel
        obtain ⟨q1, q2, q3⟩ := HC.out wr (turned_below (Nat.le_refl _) hTwo.2.2.2.2.2)
        have HPR := Lib.hid hpr
        have HM := Lib.hid hmem
        have HGN := Lib.hid hgone
        have HGO := Lib.hid q3
        clear hpr hmem hgone q3
        by_cases c1 : k < len ∧ k < 200
        · obtain ⟨c1, c2⟩ := c1
          obtain ⟨b, off, rfl, g2, _, hks⟩ := q2 k c1
          clear q2
          have hcs := cutT_small hks
          obtain ⟨ks, hkse⟩ : ∃ ks, ks = cutT (key k) := ⟨_, rfl⟩
          have HKS := Lib.hid hkse
          have HT := Lib.hid (text_any (key k) wr)
          rw [← hkse] at hcs HT
          have hcs := hcs
          clear hkse
          go_wp2_with fail
          refine HT.out.mono ?_
          rintro e w4 ⟨rfl, rfl⟩
          clear HT g2
          go_wp2_with fail
          refine (HGO.out ks).mono ?_
          rintro e w5 ⟨rfl, rfl⟩
          cases e2 : go ks with
          | false =>
            have HN := Lib.hid (show DInv2 wb go key ha hb (min len 200) (k + 1) wr from ⟨Ga, Gb, LA, LB, TA, TB, hTwo, HPR.out, HM.out, fun m hm hg p hp => by
              rcases Nat.lt_or_ge m k with h | h
              · exact HGN.out m h hg p hp
              · have : m = k := by omega
                subst this
                rw [← HKS.out, e2] at hg
                exact absurd hg (by simp), hTA, hTB⟩)
            clear hTwo
            go_wp2_with fail
            exact ⟨⟨k + 1, by go_num, by omega, by omega, HN.out⟩, by simp [intOf]; omega⟩
          | true =>
            have hEnd := end_any wr Ga ha TA LA ks hTwo.1 hcs
            cases hfi : LA.find? (isKey ks) with
            | none =>
              rw [hfi] at hEnd
              have HE := Lib.hid hEnd
              have HD := Lib.hid (drop_none wr Ga ha TA LA ks hTwo.1 hcs hfi)
              have HN := Lib.hid (show DInv2 wb go key ha hb (min len 200) (k + 1) wr from ⟨Ga, Gb, LA, LB, TA, TB, hTwo, HPR.out, HM.out, fun m hm hg p hp => by
                rcases Nat.lt_or_ge m k with h | h
                · exact HGN.out m h hg p hp
                · have : m = k := by omega
                  subst this
                  rw [← HKS.out]
                  exact find_none_pr hfi p hp, hTA, hTB⟩)
              clear hTwo hEnd hfi
              go_wp2_with fail
              refine HE.out.mono ?_
              rintro e w5 ⟨rfl, rfl⟩
              go_wp2_with fail
              refine HD.out.mono ?_
              rintro e w5 ⟨rfl, rfl⟩
              go_wp2_with fail
              refine HD.out.mono ?_
              rintro e w5 ⟨rfl, rfl⟩
              go_wp2_with fail
              exact ⟨⟨k + 1, by go_num, by omega, by omega, HN.out⟩, by simp [intOf]; omega⟩
            | some x =>
              rw [hfi] at hEnd
              have HE := Lib.hid hEnd
              have HF := Lib.hid hfi
              clear hEnd hfi
              go_wp2_with fail
              refine HE.out.mono ?_
              rintro e w5 ⟨rfl, rfl⟩
              go_wp2_with fail
              refine (drop_some wr Ga ha TA LA ks x hTwo.1 (by omega) hcs HF.out).mono ?_
              rintro e w5 ⟨rfl, h5, t5⟩
              have hTwo5 := hTwo.turn h5 t5
              have HD := Lib.hid (drop_none w5 Ga ha TA _ ks h5 hcs (by rw [find_without, if_pos rfl]))
              have HN := Lib.hid (show DInv2 wb go key ha hb (min len 200) (k + 1) w5 from ⟨Ga, Gb, _, LB, TA, TB, hTwo5, by
                rw [← outP_pr, stay_drop go _ _ e2]
                exact HPR.out, fun p hp => by
                rw [← outP_pr] at hp
                exact HM.out p (List.mem_filter.1 hp).1, fun m hm hg p hp => by
                rw [← outP_pr] at hp
                rcases Nat.lt_or_ge m k with h | h
                · exact HGN.out m h hg p (List.mem_filter.1 hp).1
                · have : m = k := by omega
                  subst this
                  rw [← HKS.out]
                  have h6 := (List.mem_filter.1 hp).2
                  intro e
                  rw [e] at h6
                  simp at h6, hTA, hTB⟩)
              obtain ⟨q1', _⟩ := HC.out w5 (turned_below (Nat.le_refl _) hTwo5.2.2.2.2.2)
              clear hTwo h5 t5 hTwo5 q1
              go_wp2_with fail
              refine HD.out.mono ?_
              rintro e w6 ⟨rfl, rfl⟩
              go_wp2_with fail
              exact ⟨⟨k + 1, by go_num, by omega, by omega, HN.out⟩, by simp [intOf]; omega⟩
        · have HN := Lib.hid (show DInv2 wb go key ha hb (min len 200) (min len 200) wr from ⟨Ga, Gb, LA, LB, TA, TB, hTwo, HPR.out, HM.out, fun m hm => HGN.out m (by omega), hTA, hTB⟩)
          clear hTwo q2
          go_wp2_with fail
          all_goals
            go_meet
            exact HN.out
    case rest =>
      generalize wc = wr at *
      obtain ⟨Ga, Gb, LA, LB, TA, TB, hTwo, hpr, hmem, hgone, hTA, hTB⟩ := hcut
      rw [all_stay hmem hgone] at hpr
      have nA := hTwo.1.parts.2.1
      have lA := hTwo.1.parts.2.2
      have lB := hTwo.2.1.parts.2.2
      have hll : LB.length = LA.length := by rw [← pr_length, hpr, pr_length]
      obtain ⟨J, L4, j1, j2, j3, j4⟩ := due_own LA fInf
      obtain ⟨K, L5, i1, i2, i3, i4⟩ := due_own LB fInf
      have hall : (due (pr LA) fInf).2 = [] := due_inf (pr LA) (numP_of nA)
      have hcount := due_count (pr LA) fInf (oneP_of nA)
      rw [j3, j4, pr_length, pr_length] at hcount
      rw [j4] at hall
      have h40 : L4 = [] := List.map_eq_nil_iff.1 hall
      subst h40
      rw [hpr] at i3
      have hKJ : K = J := i3.symm.trans j3
      subst hKJ
      have HJ1 := Lib.hid j1
      have HJ2 := Lib.hid j2
      have HI1 := Lib.hid i1
      have HYtfmcpcciokogiaa := Lib.hid hll
      have HCO := Lib.hid hcount
      clear hpr hmem hgone hll j1 j2 j3 j4 i1 i2 i3 i4 hcount hall nA
      go_wp2_with fail
      refine (count_any _ _ _ _ _ hTwo.1).mono ?_
      rintro e w4 ⟨rfl, rfl⟩
      go_wp2_with fail
      refine (count_any _ _ _ _ _ hTwo.2.1).mono ?_
      rintro e w4 ⟨rfl, rfl⟩
      rw [HYtfmcpcciokogiaa.out]
      go_wp2_with fail
      refine (inf_pos _).mono ?_
      rintro e w' ⟨rfl, rfl⟩
      go_wp2_with fail
      refine (due_any wr Ga ha TA LA fInf hTwo.1 (by omega)).mono ?_
      rintro e w4 ⟨v, rfl, hrow4, h4, t4⟩
      rw [HJ1.out] at hrow4
      rw [HJ2.out] at h4
      have hTwo4 := hTwo.turn h4 t4
      have gB : ∀ k, Gb k → k < wr.heap.size := hTwo.2.1.parts.1
      clear hTwo h4 t4
      go_wp2_with fail
      refine (inf_pos _).mono ?_
      rintro e w' ⟨rfl, rfl⟩
      go_wp2_with fail
      refine (due_any w4 Gb hb TB LB fInf hTwo4.2.1 (by omega)).mono ?_
      rintro e w6 ⟨v6, rfl, hrow6, h6, t6⟩
      rw [HI1.out] at hrow6
      have hTwo6 := (hTwo4.swap.turn h6 t6).swap
      have hown6 := hrow4.turned t6 gB
      clear hTwo4 hrow4 h6 t6
      go_wp2_with fail
      refine (same_any w6 v v6 K hown6.src hrow6.src (by have := HCO.out; omega)).mono ?_
      rintro e w7 ⟨rfl, n, rfl⟩
      have hTwo7 := hTwo6.drewN n
      have hend := HWB.out.trans ((turned_below (Nat.le_refl _) hTwo7.2.2.2.2.2).mono HWB.out.size)
      clear hTwo6 hown6 hrow6
      go_wp2_with fail
      refine (count_any _ _ _ _ _ hTwo7.1).mono ?_
      rintro e w8 ⟨rfl, rfl⟩
      go_wp2_with fail
      go_ret
      exact ⟨rfl, hend⟩

end Go.Proofs.Ytfmcpcciokogiaa
