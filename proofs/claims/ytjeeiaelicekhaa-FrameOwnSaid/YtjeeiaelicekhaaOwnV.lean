/- FrameOwn: the law's walk. -/
import Derived.Test.YtjeeiaelicekhaaOwnW
namespace Go.Proofs.Ytjeeiaelicekhaa
open Go.RowKit

theorem parse_len (m : Nat) : ∀ (n : Nat) (L : List UInt8), L.length ≤ n → ∀ p ∈ (parse m L).1, p.length ≤ m := by
  intro n
  induction n with
  | zero =>
    intro L h
    rw [parse_short (by omega)]
    simp
  | succ n ih =>
    intro L h
    by_cases c1 : L.length < 4
    · rw [parse_short c1]
      simp
    · by_cases c2 : m < num (L.take 4)
      · rw [parse_big c1 c2]
        simp
      · by_cases c3 : L.length - 4 < num (L.take 4)
        · rw [parse_part c1 c2 c3]
          simp
        · rw [parse_one c1 c2 c3]
          have := ih (L.drop (4 + num (L.take 4))) (by rw [List.length_drop]; omega)
          intro p hp
          rcases List.mem_cons.1 hp with rfl | hp
          · rw [List.length_take]
            omega
          · exact this p hp
theorem step_len (m : Nat) (L : List UInt8) (br : Bool) (b : List UInt8) : ∀ p ∈ (step m L br b).1, p.length ≤ m := by
  unfold step
  cases br
  · exact parse_len m _ (L ++ b) (Nat.le_refl _)
  · simp

/-- While the payloads are kept. -/
def XI (w : World) (kb r s m : Nat) (L : List UInt8) (br : Bool) (N : Nat) (Gr : Nat → Prop) (u : Value) (xs : List (Value × List UInt8)) (j : Nat) (wx : World) : Prop :=
  ∃ Gk Lk, St w kb r s m L br L br N Gk Gr Lk wx ∧ Row 0 wx 31 u (xs.map (·.1)) ∧ (∀ k, u.ownBlock = some k → ¬ Gk k) ∧
    ∀ (i : Nat) (x : Value × List UInt8), j ≤ i → xs[i]? = some x → Row 0 wx 5 x.1 (cel x.2) ∧ ∀ k, x.1.ownBlock = some k → ¬ Gk k
/-- The payloads, as they stay. -/
def XS (w : World) (s : Nat) (Gr : Nat → Prop) (xs : List (Value × List UInt8)) : Prop :=
  (∀ x ∈ xs, ∀ k, x.1.ownBlock = some k → ¬ Gr k ∧ k ≠ s ∧ w.heap.size ≤ k) ∧ (xs.Pairwise fun x y => ∀ k, x.1.ownBlock = some k → y.1.ownBlock ≠ some k) ∧ ∀ x ∈ xs, x.2.length ≤ 10000

theorem XI.step {w : World} {kb r s m : Nat} {L : List UInt8} {br : Bool} {N : Nat} {Gr : Nat → Prop} {u : Value} {xs : List (Value × List UInt8)} {j : Nat} {wx w' : World} {x : Value × List UInt8} {Gk : Nat → Prop} {Lk : List (List UInt8)} {e : Ending}
    (hs : XS w s Gr xs) (hS : St w kb r s m L br L br N Gk Gr Lk wx) (hu : Row 0 wx 31 u (xs.map (·.1))) (hd : ∀ k, u.ownBlock = some k → ¬ Gk k)
    (hx : ∀ (i : Nat) (x : Value × List UInt8), j ≤ i → xs[i]? = some x → Row 0 wx 5 x.1 (cel x.2) ∧ ∀ k, x.1.ownBlock = some k → ¬ Gk k) (hj : xs[j]? = some x) (hK : Kept wx Gk kb x.1 e w') : XI w kb r s m L br N Gr u xs (j + 1) w' := by
  obtain ⟨_, Lk', Gk', h1, h2, h3, h4⟩ := hK
  have hxm := List.mem_of_getElem? hj
  refine ⟨Gk', Lk', hS.keeps h1 h2 h3 h4 (hs.1 x hxm), hu.tn h2 hd, fun k hk q => ?_, fun i y hi hy => ?_⟩
  · rcases h4 k q with c | c | c
    · exact hd k hk c
    · obtain ⟨_, cs, h5⟩ := hu.block hk
      obtain ⟨_, cs', h6⟩ := (hx j x (Nat.le_refl _) hj).1.block c
      rw [h5] at h6
      cases h6
    · have := hu.lt hk
      omega
  · obtain ⟨a, b⟩ := hx i y (by omega) hy
    refine ⟨a.cells fun g cur _ hc => h3 g cur hc, fun k hk q => ?_⟩
    rcases h4 k q with c | c | c
    · exact b k hk c
    · have hp := hs.2.1
      rw [List.pairwise_iff_getElem] at hp
      obtain ⟨hj1, hj2⟩ := List.getElem?_eq_some_iff.1 hj
      obtain ⟨hi1, hi2⟩ := List.getElem?_eq_some_iff.1 hy
      have := hp j i hj1 hi1 (by omega) k (by rw [hj2]; exact c)
      rw [hi2] at this
      exact this hk
    · have := a.lt hk
      omega

theorem OI.below {w wr w' : World} {kb r s m k nb : Nat} (h : OI w kb r s m k nb wr) (hb : Below wr.heap.size wr w') : OI w kb r s m k nb w' := by
  obtain ⟨L, br, N, Gk, Gr, Gn, Lk, Ln, h1, h2, h3⟩ := h
  exact ⟨L, br, N, Gk, Gr, Gn, Lk, Ln, h1.below hb, h2.tn (F := fun _ => False) (Tn.of_below hb) fun _ _ q => q, h3⟩
theorem LoanP.below {w w' : World} {G : Nat → Prop} {nb : Nat} {Ls : List (List UInt8)} (h : LoanP w G nb Ls) (hb : Below w.heap.size w w') : LoanP w' G nb Ls := h.tn (F := fun _ => False) (Tn.of_below hb) fun _ _ q => q

/-- Behind a round's last call. -/
theorem own_close {w we wd w' : World} {kb r s k nb N : Nat} {L : List UInt8} {br : Bool} {Gk Gr Gd : Nat → Prop} {Lk Ln : List (List UInt8)} {up u : Value} {l q : List UInt8} {e : Ending} {ad : Addr} (hK : Kept we Gk kb up e w') (hS : St w kb r s 100 L br L br N Gk Gr Lk we)
    (hN : LoanP we Gd nb Ln) (hA : Apart w s N Gd Gk Gr) (hr : Row wd.heap.size we 5 up (cel l)) (hB : Below wd.heap.size wd we) (hz : ∀ j, Gd j → j < wd.heap.size) (hl : L.length ≤ 600 * (k + 1)) (hlt : ad.block < w.heap.size) (hc : w.cell? (ad.add k) = some u)
    (hn : Ln = [] ++ [q ++ marks] ++ [q ++ marks]) (hq : q.length ≤ 600) (hwd : w.heap.size ≤ wd.heap.size) (hsd : s < wd.heap.size) (hgr : ∀ j, Gr j → j < wd.heap.size) : Hid (OI w kb r s 100 (k + 1) nb w') ∧ w'.cell? (ad.add k) = some u ∧ e = .returned (.tuple #[]) := by
  obtain ⟨he, Lk', Gk', h1, h2, h3, h4⟩ := hK
  have hzs := hB.size
  have S6 := hS.keeps h1 h2 h3 h4 fun j hj => by
    have := (hr.block hj).1
    exact ⟨fun z => by have := hgr j z; omega, by omega, by omega⟩
  refine ⟨⟨L, br, N, Gk', Gr, Gd, Lk', Ln, S6, hN.tn h2 fun j a b => (hA j a).2.2.1 b, fun j a => ?_, hl, by rw [hn]; simp, fun x hx => ?_⟩, (S6.bel.cell (p := ad.add k) (by rw [add_block]; exact hlt)).trans hc, he⟩
  · obtain ⟨a1, a2, a3, a4, a5⟩ := hA j a
    refine ⟨a1, a2, fun z => ?_, a4, a5⟩
    have := hz j a
    rcases h4 j z with c | c | c
    · exact a3 c
    · have := (hr.block c).1
      omega
    · omega
  · rw [hn] at hx
    have : x = q ++ marks := by simpa using hx
    rw [this, List.length_append]
    simp [marks]
    omega

set_option maxRecDepth 100000 in
set_option maxHeartbeats 4000000 in
theorem own_walk (a : Option Addr) (len cap : Nat) (w : World) (hp : Pcs w a len) :
    Calls Try.prog 6 #[.slice a len cap] w fun e w' => e = .returned (.bool true) ∧ Below w.heap.size w w' := by
  have HP := Lib.hid hp.2
  have hlm := hp.1
  clear hp
  have h0 := oi_start w
  go_enter Try.func6, Try.ntmps6
  go_wp2_with fail
  refine (new_any _ 100 (by omega) (by omega)).mono ?_
  rintro e w1 ⟨rfl, rfl⟩
  go_wp2_with fail
  refine (rnew_any _ 100 (by omega) (by omega)).mono ?_
  rintro e w1 ⟨rfl, rfl⟩
  simp only [alloc_size] at *
  go_wp2_with fail
  refine (wakes_any _).mono ?_
  rintro e w1 ⟨rfl, hb1⟩
  have h1 := h0.below hb1
  clear h0 hb1
  have h0 := h1
  clear h1
  obtain ⟨kb, hkb⟩ : ∃ kb, w.heap.size + 1 = kb := ⟨_, rfl⟩
  obtain ⟨r, hr⟩ : ∃ r, kb + 1 = r := ⟨_, rfl⟩
  obtain ⟨s, hs⟩ : ∃ s, r + 1 = s := ⟨_, rfl⟩
  rw [hkb, hr, hs] at h0 ⊢
  clear hkb hr hs
  go_wp2_with fail
  go_loopw [3, 7] (fun nv i wr => ∃ k nb : Nat, nv = .pointer (some ⟨nb, 0, none⟩) ∧ i = .int .i64 k ∧ k ≤ 30 ∧ OI w kb r s 100 k nb wr) (fun _ i _ => 30 - (intOf i).toNat)
  case atStart => exact ⟨0, _, rfl, rfl, by omega, h0⟩
  case round =>
    clear h0
    obtain ⟨k, nb, rfl, rfl, hk, L, br, N, Gk, Gr, Gn, Lk, Ln, hS, hN, hA, hL, hnl, hln⟩ := hrel
    by_cases c1 : k < len ∧ k < 30
    · obtain ⟨c1, c2⟩ := c1
      obtain ⟨ad, u, l, rfl, hlt, hcell, hsrc⟩ := HP.out k c1
      have g0 := (hS.bel.cell (p := ad.add k) (by rw [add_block]; exact hlt)).trans hcell
      go_wp2_with fail
      refine (few_any _ u l (hsrc.below hS.bel)).mono ?_
      rintro e w1 ⟨v1, rfl, hv1, hB1⟩
      have hS1 := hS.below hB1
      have hN1 := hN.below hB1
      have q600 : (l.take 600).length ≤ 600 := by rw [List.length_take]; omega
      have FEW := fun (w' : World) (h : Src w' u (cel l)) => few_any w' u l h
      generalize l.take 600 = q at *
      clear hS hN g0
      go_wp2_with fail
      refine (lend_any w1 Gn nb Ln v1 q hN1 hv1.src (by omega) (by omega)).mono ?_
      rintro e w2 ⟨u2', Gn2, rfl, hu2, hN2, t2, _, hG2⟩
      have hS2 := hS1.tn t2 hA
      have hA2 : Apart w s N Gn2 Gk Gr := fun j z => (hG2 j z).elim (hA j) fun c => hS1.off c
      clear hS1 hN1 t2 hG2 hA hv1 hB1
      go_wp2_with fail
      refine (feed_own w2 Gr r 100 L q br u2' hS2.rdr hu2.src (by omega) (by omega)).mono ?_
      rintro e w3 ⟨u3, xs, Gr3, rfl, hl3, ho3, hx3, hr3, hg3, hd3, gg3⟩
      have hS3 := hS2.feed gg3 hr3 hg3
      have hN3 : LoanP w3 Gn2 nb (Ln ++ [q ++ marks]) := hN2.tn (F := fun k => k = r) (Tn.grown gg3 fun g e => by cases e; rfl) fun j z e => (hA2 j z).2.2.2.1 (by rw [e]; exact hS2.rdr.at)
      have hA3 : Apart w s N Gn2 Gk Gr3 := fun j z => by
        obtain ⟨b1, b2, b3, b4, b5⟩ := hA2 j z
        exact ⟨b1, b2, b3, fun e => (hg3 j e).elim b4 fun c => by have := hN2.lt j z; omega, b5⟩
      have hN2l := hN2.lt
      have sl2 := hS2.slt
      have gk2 := hS2.book.lt
      have wl2 := hS2.bel.size
      have hl3l := step_many 100 L br q
      rw [← hx3, List.length_map] at hl3l
      have hlen3 := step_left 100 L br q
      have hpl := step_len 100 L br q
      clear hS2 hA2 hN2 hu2 hr3
      go_wp2_with fail
      refine (back_any w3 Gn2 nb _ hN3 (by rw [List.length_append, List.length_singleton]; omega) (fun x hx => by
        rcases List.mem_append.1 hx with hx | hx
        · have := hln x hx
          omega
        · rw [List.mem_singleton.1 hx, List.length_append]
          simp [marks]
          omega)).mono ?_
      rintro e w4 ⟨rfl, t4⟩
      have hS4 := hS3.tn t4 hA3
      have hu4 : Row w2.heap.size w4 31 u3 (xs.map (·.1)) := hl3.1.tn t4 fun j hj z => by have := (hl3.1.block hj).1; have := hN2l j z; omega
      have ho4 : Own w2.heap.size w4 xs := ⟨fun x hx => (ho3.1 x hx).tn t4 fun j hj z => by have := ((ho3.1 x hx).block hj).1; have := hN2l j z; omega, ho3.2⟩
      have z24 : w2.heap.size ≤ w4.heap.size := Nat.le_trans gg3.size t4.size
      clear hS3 hN3 hA3 hN2l hl3 ho3 t4 gg3
      have g4 := (hS4.bel.cell (p := ad.add k) (by rw [add_block]; exact hlt)).trans hcell
      go_wp2_with fail
      refine (FEW w4 (hsrc.below hS4.bel)).mono ?_
      rintro e w5 ⟨v5, rfl, hv5, hB5⟩
      have hS5 := hS4.below hB5
      clear g4
      go_wp2_with fail
      refine (rfeed_any w5 s 100 L q br v5 hS5.ref.ref (by omega) hv5.src (by omega) (by omega)).mono ?_
      rintro e w6 ⟨u6, ys, rfl, hl6, hx6, hs6, gg6⟩
      have hS6 := hS5.rfeed gg6 hs6
      have t6 : Tn (fun j => j = s) w4 w6 := (Tn.of_below hB5).trans (Tn.grown gg6 fun g e => by cases e; rfl)
      have hu6 : Row w2.heap.size w6 31 u3 (xs.map (·.1)) := hu4.tn t6 fun j hj z => by have := (hu4.block hj).1; omega
      have ho6 : Own w2.heap.size w6 xs := ⟨fun x hx => (ho4.1 x hx).tn t6 fun j hj z => by have := ((ho4.1 x hx).block hj).1; omega, ho4.2⟩
      have hXS : XS w s Gr3 xs := ⟨fun x hx j hj => ⟨hd3 x hx j hj, by have := ((ho4.1 x hx).block hj).1; omega, by have := ((ho4.1 x hx).block hj).1; omega⟩, ho4.2, fun x hx => by
        have := hpl x.2 (by rw [← hx3]; exact List.mem_map_of_mem hx)
        omega⟩
      have hlen : xs.length ≤ 1000000 := by omega
      have HA := Lib.hid (show Rd w6 u3 xs from ⟨hu6.src, fun x hx => (ho6.1 x hx).byt, by omega⟩)
      have HB := Lib.hid (hl6.rd (by have := congrArg List.length (hx3.trans hx6.symm); simp only [List.length_map] at this; omega))
      have HE := Lib.hid (hx3.trans hx6.symm)
      have hX : XI w kb r s 100 (step 100 L br q).2.1 (step 100 L br q).2.2 w6.heap.size Gr3 u3 xs 0 w6 := ⟨Gk, Lk, hS6, hu6.zero, fun j hj z => by have := (hu4.block hj).1; have := gk2 j z; omega, fun i x _ hx =>
        ⟨(ho6.1 x (List.mem_of_getElem? hx)).zero, fun j hj z => by have := ((ho6.1 x (List.mem_of_getElem? hx)).block hj).1; have := gk2 j z; omega⟩⟩
      have HXS := Lib.hid hXS
      obtain ⟨A3, c3, e3⟩ := hu6.slice
      rw [List.length_map] at e3
      subst e3
      clear hS4 hS5 hS6 hu4 ho4 hu6 ho6 hXS t6 hd3 hg3 hx3 hx6 hl6 hs6 gg6 hB5 hv5 hpl z24 gk2 wl2 sl2
      generalize (step 100 L br q).2.1 = L' at *
      generalize (step 100 L br q).2.2 = b' at *
      generalize (step 100 L br q).1 = P at *
      go_wp2_with fail
      refine (same_true w6 _ _ xs ys HA.out HB.out HE.out).mono ?_
      rintro e w7 ⟨rfl, m, rfl⟩
      have hX7 : XI w kb r s 100 L' b' w6.heap.size Gr3 (.slice A3 xs.length c3) xs 0 (w6.drewN m) := by
        obtain ⟨Gk', Lk', x1, x2, x3, x4⟩ := hX
        exact ⟨Gk', Lk', x1.drewN m, x2, x3, x4⟩
      clear HA HB HE hX
      generalize w6.heap.size = N2 at *
      generalize w6.drewN m = w7 at *
      go_wp2_with fail
      obtain ⟨wo, hwo⟩ : ∃ wo, wr = wo := ⟨_, rfl⟩
      subst hwo
      go_loopw [12] (fun j wx => ∃ i : Nat, j = .int .i64 i ∧ i ≤ xs.length ∧ XI w kb r s 100 L' b' N2 Gr3 (.slice A3 xs.length c3) xs i wx) (fun j _ => xs.length - (intOf j).toNat)
      case atStart => exact ⟨0, rfl, Nat.zero_le _, hX7⟩
      case round =>
        clear hX7
        obtain ⟨i, rfl, hi, Gk', Lk', hS, hu, hd, hx⟩ := hrel
        by_cases c4 : i < xs.length
        · have hxi : xs[i]? = some xs[i] := List.getElem?_eq_getElem c4
          have hxm : (xs.map (·.1))[i]? = some xs[i].1 := by rw [List.getElem?_map, hxi]; rfl
          obtain ⟨g, cap, e, d0, _⟩ := hu.at31 hxm
          obtain ⟨x1, x2⟩ := hx i _ (Nat.le_refl _) hxi
          have hl1 := HXS.out.2.2 xs[i] (List.getElem_mem c4)
          rw [List.length_map] at e
          cases e
          have HC := Lib.hid (fun (w' : World) (e : Ending) (h : Kept wr Gk' kb xs[i].1 e w') => XI.step HXS.out hS hu hd hx hxi h)
          have hb := hS.book
          generalize xs[i].1 = y at *
          generalize xs[i].2 = yl at *
          clear hu hx hd hxm hxi
          go_wp2_with fail
          refine (keep_any _ Gk' kb Lk' y yl hb x1 hl1 x2).mono ?_
          rintro e w' hK
          have HN := Lib.hid (HC.out w' e hK)
          obtain ⟨rfl, _⟩ := hK
          clear HC hS hb x1 x2
          go_wp2_with fail
          exact ⟨⟨i + 1, by go_num, by omega, HN.out⟩, by simp [intOf]; omega⟩
        · clear hu hd hx
          have hS' := hS.below (alloc_below _ (.cells #[.slice none 0 0, .slice none 0 0] 47))
          have hN' := loan_new wr
          have hA' : Apart w s N2 (fun k => k = wr.heap.size) Gk' Gr3 := fun j z => hS.off (by omega)
          have g8 := (hS'.bel.cell (p := ad.add k) (by rw [add_block]; exact hlt)).trans hcell
          go_wp2_with fail
          have S0 := Lib.hid (hS'.drewN 1)
          have L0 := Lib.hid (hN'.tn (F := fun _ => False) ((Tn.refl _ _).drewN 1) fun _ _ z => z)
          have R0 := Lib.hid (hsrc.below (hS'.drewN 1).bel)
          have HA0 := Lib.hid hA'
          have HS := Lib.hid hsrc
          have HFEW := Lib.hid FEW
          have HLT := Lib.hid hlt
          have HCL := Lib.hid hcell
          have zl : L'.length ≤ 600 * (k + 1) := by omega
          clear hS' hN' hA' hS hsrc FEW hlt hcell hln hL hnl hlen hl3l hlen3
          generalize wr.heap.size = nb2 at *
          generalize wr.alloc (.cells #[.slice none 0 0, .slice none 0 0] 47) = w9 at *
          have K0 : w9.drew.cell? (ad.add k) = some u := g8
          go_region_held (fun w' : World => w'.cell? (ad.add k) = some u)
            (first | exact K0 | exact K1 | exact K2 | exact K3 | exact K4 | exact K5 | exact K6)
            (first
            | (go_at_call 21; refine Calls.mono (keep_any _ Gk' kb Lk' up _ S5.out.book R5.out.zero (by rw [List.length_append, List.length_append, be4_length]; omega) (fun j hj z => by have := (R5.out.block hj).1; have := S4.out.book.lt j z; omega)) ?_; rintro e w' hK; obtain ⟨S6, K6, rfl⟩ := own_close hK S5.out L5.out A4.out R5.out B5.out Z4.out zl HLT.out HCL.out rfl q600 S4.out.bel.size S4.out.slt S4.out.rdr.lt)
            | (go_at_call 17; refine Calls.mono (put_any _ ub ud q q U4.out.src D4.out.src (by omega) (by omega)) ?_; rintro e we ⟨up, rfl, hr5, hB5⟩; have S5 := Lib.hid (S4.out.below hB5); have L5 := Lib.hid (L4.out.below hB5); have R5 := Lib.hid hr5; have B5 := Lib.hid hB5; have K5 := (S5.out.bel.cell (p := ad.add k) (by rw [add_block]; exact HLT.out)).trans HCL.out; clear hr5 hB5)
            | (go_at_call 19; refine Calls.mono (lend_any _ Gb nb2 _ vc q L3.out V3.out.src (by omega) (by simp)) ?_; rintro e wd ⟨ud, Gd, rfl, hd4, hN4, t4, k4, hG4⟩; have S4 := Lib.hid (S3.out.tn t4 A2.out); have A4 := Lib.hid (show Apart w s N2 Gd Gk' Gr3 from fun j z => (hG4 j z).elim (A2.out j) fun c => S3.out.off c); have L4 := Lib.hid hN4; have D4 := Lib.hid hd4; have U4 := Lib.hid (U3.out.keep k4); have Z4 := Lib.hid hN4.lt; have K4 := (S4.out.bel.cell (p := ad.add k) (by rw [add_block]; exact HLT.out)).trans HCL.out; clear hd4 hN4 t4 k4 hG4)
            | (go_at_call 12; refine Calls.mono (HFEW.out _ (HS.out.below S2.out.bel)) ?_; rintro e wc ⟨vc, rfl, hv3, hB3⟩; have S3 := Lib.hid (S2.out.below hB3); have L3 := Lib.hid (L2.out.below hB3); have V3 := Lib.hid hv3; have U3 := Lib.hid (U2.out.keep (keep5_below hB3)); have K3 := (S3.out.bel.cell (p := ad.add k) (by rw [add_block]; exact HLT.out)).trans HCL.out; clear hv3 hB3)
            | (go_at_call 19; refine Calls.mono (lend_any _ _ nb2 [] va q L1.out V1.out.src (by omega) (by simp)) ?_; rintro e wb ⟨ub, Gb, rfl, hd2, hN2, t2, k2, hG2⟩; have S2 := Lib.hid (S1.out.tn t2 HA0.out); have A2 := Lib.hid (show Apart w s N2 Gb Gk' Gr3 from fun j z => (hG2 j z).elim (HA0.out j) fun c => S1.out.off c); have L2 := Lib.hid hN2; have U2 := Lib.hid hd2; have K2 := (S2.out.bel.cell (p := ad.add k) (by rw [add_block]; exact HLT.out)).trans HCL.out; clear hd2 hN2 t2 k2 hG2)
            | (go_at_call 12; refine Calls.mono (HFEW.out _ R0.out) ?_; rintro e wa ⟨va, rfl, hv1, hB1⟩; have S1 := Lib.hid (S0.out.below hB1); have L1 := Lib.hid (L0.out.below hB1); have V1 := Lib.hid hv1; have K1 := (S1.out.bel.cell (p := ad.add k) (by rw [add_block]; exact HLT.out)).trans HCL.out; clear hv1 hB1))
          go_wp2_with fail
          exact ⟨⟨k + 1, nb2, rfl, by go_num, by omega, S6.out⟩, by simp [intOf]; omega⟩
    · obtain ⟨HB, HL⟩ : Hid (BookP wr Gk kb Lk) ∧ Hid (LoanP wr Gn nb Ln) := ⟨Lib.hid hS.book, Lib.hid hN⟩
      have HT := Lib.hid hS.bel
      have HG := Lib.hid (show ∀ j, Gk j → w.heap.size ≤ j from hS.gk)
      have HA := Lib.hid hA
      have HLN := Lib.hid hln
      clear hS hN hA hln
      go_wp2_with fail
      all_goals
        refine (back_any wr Gn nb Ln HL.out (by omega) (fun x hx => by have := HLN.out x hx; omega)).mono ?_
        rintro e w1 ⟨rfl, t⟩
        have hb1 : BookP w1 Gk kb Lk := HB.out.tn t fun j a b => (HA.out j b).2.2.1 a
        have b1 : Below w.heap.size w w1 := HT.out.trans (t.to_below HT.out.size fun j z => (HA.out j z).2.2.2.2)
        have HB1 := Lib.hid hb1
        have HW1 := Lib.hid b1
        clear t hb1 b1
        go_wp2_with fail
        refine (close_any w1 Gk kb Lk HB1.out).mono ?_
        rintro e w2 ⟨rfl, t2⟩
        have HW2 := Lib.hid (HW1.out.trans (t2.to_below HW1.out.size HG.out))
        clear t2
        go_wp2_with fail
        go_ret
        exact ⟨rfl, HW2.out⟩

end Go.Proofs.Ytjeeiaelicekhaa
