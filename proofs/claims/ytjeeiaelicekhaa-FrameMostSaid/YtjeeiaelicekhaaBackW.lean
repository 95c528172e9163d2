/- FrameBack: the law's walk. -/
import Derived.Test.YtjeeiaelicekhaaBackP
import Derived.Deep.RegionHeld
namespace Go.Proofs.Ytjeeiaelicekhaa
open Go.RowKit

theorem Row.le {B B' : Nat} {w : World} {e : TypeId} {v : Value} {xs : List Value} (h : Row B w e v xs) (hb : B' ≤ B) : Row B' w e v xs :=
  ⟨h.1, h.2.elim .inl fun ⟨g, cap, cur, hv, hg, r⟩ => .inr ⟨g, cap, cur, hv, Nat.le_trans hb hg, r⟩⟩

def BInv (w : World) (k : Nat) (a : Value) (la : List UInt8) (l b : Value) (wr : World) : Prop :=
  ∃ xs : List (Value × List UInt8), Lst w.heap.size wr l xs ∧ Byt wr b (flat (xs.map (·.2))) ∧ (∀ x ∈ xs, x.2.length ≤ 600) ∧ xs.length = k ∧ (flat (xs.map (·.2))).length ≤ 604 * k ∧
    Below w.heap.size w wr ∧ Rdr wr w.heap.size 600 [] false ∧ Byt wr a la ∧ w.heap.size < wr.heap.size

theorem Lst.turn {B : Nat} {w w' : World} {u : Value} {xs : List (Value × List UInt8)} {s m : Nat} {L : List UInt8} {br : Bool} (h : Lst B w u xs) (hg : w.grownBy w' (some s)) (hs : Rdr w s m L br) : Lst B w' u xs :=
  ⟨h.1.cells fun g cur _ hc => (hg.block g (Array.getElem?_eq_some_iff.1 hc).1 (fun e => by
    cases e
    obtain ⟨v, hr, _⟩ := hs
    rw [hc] at hr
    cases hr)).trans hc, fun x hx => (h.2 x hx).keep (keep5_grown hg hs.not5)⟩

theorem below_drewN' {B : Nat} {a w : World} (h : Below B a w) (n : Nat) : Below B a (w.drewN n) := ⟨h.os, h.tape, h.output, h.size, h.block⟩
theorem Byt.heap {w w' : World} {v : Value} {l : List UInt8} (h : Byt w v l) (e : w'.heap = w.heap) : Byt w' v l := h.keep fun b cs hb => by rw [e]; exact hb
theorem Rd.heap {w w' : World} {u : Value} {xs : List (Value × List UInt8)} (h : Rd w u xs) (e : w'.heap = w.heap) : Rd w' u xs :=
  ⟨h.1.keep fun ad _ _ => by simp only [World.cell?, e], fun x hx => (h.2.1 x hx).heap e, h.2.2⟩
theorem Rdr.heap {w w' : World} {r m : Nat} {L : List UInt8} {br : Bool} (h : Rdr w r m L br) (e : w'.heap = w.heap) : Rdr w' r m L br := by
  obtain ⟨v, hr, hv⟩ := h
  exact ⟨v, by rw [e]; exact hr, hv.heap e⟩

/-- The list grows: what lay below w's size lies; the reader, the new row. -/
theorem bstep {w wr w1 w8 : World} {r m : Nat} {xs : List (Value × List UInt8)} {out out' v1 : Value} {p : List UInt8} {o : Obj} (hR : Rdr wr r m [] false) (hl : Lst w.heap.size wr out xs)
    (hB1 : Below wr.heap.size wr w1) (hx : Byt w1 v1 p) (hg : (w1.alloc o).grownBy w8 out.ownBlock) (hown : Row w.heap.size w8 31 out' (xs.map (·.1) ++ [v1])) (hbw : Below w.heap.size w w1) :
    Below w.heap.size w w8 ∧ Keep5 w1 w8 ∧ Lst w.heap.size w8 out' (xs ++ [(v1, p)]) ∧ Rdr w8 r m [] false ∧ w1.heap.size ≤ w8.heap.size := by
  have hown' : ∀ k, out.ownBlock = some k → w.heap.size ≤ k ∧ ∃ cs, (w1.alloc o).heap[k]? = some (.cells cs 31 (0, 0)) := fun k hk => by
    obtain ⟨h1, cs, h2⟩ := hl.1.block hk
    have h3 := (hB1.block k (Array.getElem?_eq_some_iff.1 h2).1).trans h2
    exact ⟨h1, cs, (Below.heap_alloc _ _ _ (Array.getElem?_eq_some_iff.1 h3).1).trans h3⟩
  have hkeep : ∀ (b : Nat) (cs : Array Value) (t : TypeId), t ≠ 31 → w1.heap[b]? = some (.cells cs t (0, 0)) → w8.heap[b]? = some (.cells cs t (0, 0)) := fun b cs t ht hb => by
    have hb' : (w1.alloc o).heap[b]? = _ := (Below.heap_alloc _ _ _ (Array.getElem?_eq_some_iff.1 hb).1).trans hb
    refine (hg.block b (Array.getElem?_eq_some_iff.1 hb').1 (fun e => ?_)).trans hb'
    obtain ⟨_, cs', h⟩ := hown' b e.symm
    rw [hb'] at h
    injection h with h
    injection h with _ h
    exact ht h
  have k18 : Keep5 w1 w8 := fun b cs hb => hkeep b cs 5 (by decide) hb
  refine ⟨(hbw.alloc hbw.size o).grown hg (by rw [alloc_size]; have := hbw.size; omega) (fun k e => (hown' k e).1), k18, ⟨by rw [List.map_append]; exact hown, fun x hx' => ?_⟩, ?_, Nat.le_trans (by simp) hg.size⟩
  · rcases List.mem_append.1 hx' with h | h
    · exact ((hl.2 x h).keep (keep5_below hB1)).keep k18
    · rw [List.mem_singleton.1 h]
      exact hx.keep k18
  · obtain ⟨v, hr, hv⟩ := hR.below hB1
    exact ⟨v, hkeep r _ 56 (by decide) hr, hv.keep k18⟩

set_option maxRecDepth 100000 in
set_option maxHeartbeats 2000000 in
theorem fback_walk (v : Value) (lv : List UInt8) (a : Option Addr) (len cap : Nat) (w : World) (hs : Src w v (cel lv)) (hp : Pcs w a len) :
    Calls Try.prog 5 #[v, .slice a len cap] w fun e w' => e = .returned (.bool true) ∧ Below w.heap.size w w' := by
  have HP := Lib.hid hp.2
  have hlm := hp.1
  clear hp
  go_enter Try.func5, Try.ntmps5
  go_wp2_with fail
  refine (new_any w 600 (by omega) (by omega)).mono ?_
  rintro e w1 ⟨rfl, rfl⟩
  have hR : Rdr (w.alloc (.cells #[.int .u64 600, .slice none 0 0, .bool false] 56)) w.heap.size 600 [] false := ⟨_, heap_alloc_new _ _, byt_nil _ _ _ (Nat.zero_le _)⟩
  have hB := alloc_below w (.cells #[.int .u64 600, .slice none 0 0, .bool false] 56)
  have hz : w.heap.size < (w.alloc (.cells #[.int .u64 600, .slice none 0 0, .bool false] 56)).heap.size := by rw [alloc_size]; omega
  go_wp2_with fail
  refine (wakes_any _).mono ?_
  rintro e w1 ⟨rfl, hb1⟩
  have hR := hR.below hb1
  have hB := hB.trans (hb1.mono (by omega))
  have hz := Nat.lt_of_lt_of_le hz hb1.size
  clear hb1
  go_wp2_with fail
  refine (few_any _ v lv (hs.below hB)).mono ?_
  rintro e w2 ⟨av, rfl, hav, hb2⟩
  have hR := hR.below hb2
  have hB := hB.trans (hb2.mono (by omega))
  have hz := Nat.lt_of_lt_of_le hz hb2.size
  have hq6 : (lv.take 600).length ≤ 600 := by rw [List.length_take]; omega
  have HT := Lib.hid (List.take_of_length_le hq6)
  have HQL := Lib.hid hq6
  clear hq6
  generalize lv.take 600 = q0 at *
  have h0 : BInv w 0 av q0 (.slice none 0 0) (.slice none 0 0) w2 := ⟨[], ⟨row_none _ _ _, by simp⟩, byt_nil _ _ _ (Nat.zero_le _), by simp, rfl, by simp [flat], hB, hR, hav.byt, hz⟩
  clear hR hB hz hav hb2
  go_wp2_with fail
  go_loopw [7, 8, 9] (fun l b i wr => ∃ k : Nat, i = .int .i64 k ∧ BInv w k av q0 l b wr ∧ k ≤ 40) (fun _ _ i _ => 40 - (intOf i).toNat)
  case atStart => exact ⟨0, rfl, h0, by omega⟩
  case round =>
    clear h0
    obtain ⟨k, rfl, ⟨xs, hl, hb, hx, hlen, hfl, hbw, hR, hav, hz⟩, hk⟩ := hrel
    have HK := Lib.hid hlen
    clear hlen
    by_cases c1 : k < len ∧ k < 40
    · obtain ⟨c1, c2⟩ := c1
      obtain ⟨ad, u, p, rfl, hlt, hcell, hsrc⟩ := HP.out k c1
      have g0 := (hbw.cell (p := ad.add k) (by rw [add_block]; exact hlt)).trans hcell
      go_wp2_with fail
      have hq600 : (p.take 600).length ≤ 600 := by rw [List.length_take]; omega
      refine (few_any _ u p (hsrc.below hbw)).mono ?_
      rintro e w1 ⟨v1, rfl, hv1, hB1⟩
      have FEW := fun (w' : World) (h : Src w' u (cel p)) => few_any w' u p h
      generalize p.take 600 = q at *
      have HQ := Lib.hid hq600
      clear hq600
      have hbw1 := hbw.trans (hB1.mono hbw.size)
      obtain ⟨A1, c1', rfl⟩ := hv1.slice
      obtain ⟨A2, c2', rfl⟩ := hl.1.slice
      rw [cel_length] at hv1
      rw [cel_length]
      rw [List.length_map] at hl
      rw [List.length_map]
      have HF := Lib.hid (lists_facts (A7 := A1) (c7 := c1') (p := q.length) hl hB1 hbw.size (by have := HK.out; omega))
      have hz1 := hB1.size
      have HL := Lib.hid hl
      have HV := Lib.hid hv1
      have HS := Lib.hid hsrc
      have HC := Lib.hid hcell
      clear hl hv1 hsrc hcell g0
      go_wp2_with (at_builtin; refine app_lists rfl (.tmp 32) (.tmp 38) rfl w.heap.size _ _ HF.out.1 HF.out.2.1 HF.out.2.2.1 HF.out.2.2.2.1 HF.out.2.2.2.2 ?_; intro v8 w8 hown8 hg8 hat8; obtain ⟨A8, c8, rfl⟩ := hown8.slice; have HO := Lib.hid hown8; have HG := Lib.hid hg8; clear hown8 hg8 hat8; refine Hid.out ?_)
      refine Lib.hid ?_
      obtain ⟨x1, x2, x3, x4, x5⟩ := bstep hR HL.out hB1 HV.out.byt HG.out HO.out hbw1
      have hS8 : Src w8 u (cel p) := HS.out.below x1
      have g8 : w8.cell? (ad.add k) = some u := (x1.cell (p := ad.add k) (by rw [add_block]; exact hlt)).trans HC.out
      have kk := (keep5_below hB1).trans x2
      have hb8 := hb.keep kk
      have ha8 := hav.keep kk
      clear hb hav hR kk x2 hbw hbw1 hB1
      go_wp2_with fail
      refine (FEW w8 hS8).mono ?_
      rintro e w9 ⟨v9, rfl, hv9, hB9⟩
      have hz9 := hB9.size
      have hbw9 := x1.trans (hB9.mono x1.size)
      go_wp2_with fail
      refine (put_any w9 _ _ _ q (hb8.keep (keep5_below hB9)).src hv9.src (by omega) (by have := HQ.out; omega)).mono ?_
      rintro e w10 ⟨v10, rfl, hv10, hB10⟩
      have HN : BInv w (k + 1) av q0 (.slice A8 (xs.length + 1) c8) v10 w10 := by
        have hq := HQ.out
        refine ⟨xs ++ [(.slice A1 q.length c1', q)], by rw [List.length_append, List.length_map, List.length_singleton] at x3; exact (x3.below hB9).below hB10, ?_, ?_, ?_, ?_, hbw9.trans (hB10.mono hbw9.size), (x4.below hB9).below hB10, (ha8.keep (keep5_below hB9)).keep (keep5_below hB10), ?_⟩
        · rw [List.map_append, List.map_cons, List.map_nil, flat_snoc]
          exact hv10.byt
        · intro x hx'
          rcases List.mem_append.1 hx' with h | h
          · exact hx x h
          · rw [List.mem_singleton.1 h]
            exact hq
        · rw [List.length_append, List.length_singleton, HK.out]
        · rw [List.map_append, List.map_cons, List.map_nil, flat_snoc, List.length_append, List.length_append, be4_length]
          show (flat (xs.map (·.2))).length + 4 + q.length ≤ _
          omega
        · have := hB10.size
          omega
      have HN := Lib.hid HN
      clear hv10 hB10 hv9 hB9 hbw9 x1 x3 x4
      go_wp2_with fail
      go_roundw
      case rel => exact ⟨k + 1, by go_num, HN.out, by omega⟩
      case measure => simp [intOf]; omega
    · have hps : parse 600 ([] ++ flat (xs.map (·.2))) = (xs.map (·.2), [], false) := by
        rw [List.nil_append]
        refine parse_flat 600 _ fun p hp => ?_
        obtain ⟨x, hx', rfl⟩ := List.mem_map.1 hp
        have := hx x hx'
        omega
      have F := feed_any wr w.heap.size 600 [] (flat (xs.map (·.2))) false u8 hR hb.src (by simp) (by omega)
      simp only [step, Bool.false_eq_true, if_false, hps] at F
      have HFD := Lib.hid F
      have hRR := hR
      clear F hps hR hb hfl hx
      have hn : xs.length ≤ 1000000000000 := by have := HK.out; omega
      clear HK
      go_wp2_with fail
      all_goals
        refine HFD.out.mono ?_
        clear HFD
        rintro e w2 ⟨u2, ys, rfl, hl2, hx2, hp2, hg2⟩
        have hl := hl.turn hg2 hRR
        have hav := hav.keep (keep5_grown hg2 hRR.not5)
        have hbw := hbw.grown hg2 hbw.size (fun k e => by cases e; exact Nat.le_refl _)
        clear hg2 hRR hz
        go_wp2_with fail
        refine (few_any _ _ _ hav.src).mono ?_
        rintro e w3 ⟨v3, rfl, hv3, hB3⟩
        rw [HT.out] at hv3
        have hav := hav.keep (keep5_below hB3)
        have hbw3 := hbw.trans (hB3.mono hbw.size)
        go_wp2_with fail
        refine (few_any _ _ _ hav.src).mono ?_
        rintro e w4 ⟨v4, rfl, hv4, hB4⟩
        rw [HT.out] at hv4
        have hav := hav.keep (keep5_below hB4)
        have hbw4 := hbw3.trans (hB4.mono hbw3.size)
        go_wp2_with fail
        refine (put_any w4 _ _ _ _ (hv3.byt.keep (keep5_below hB4)).src hv4.src (by have := HQL.out; omega) (by have := HQL.out; omega)).mono ?_
        rintro e w5 ⟨v5, rfl, hv5, hB5⟩
        have hbw5 := hbw4.trans (hB5.mono hbw4.size)
        have hl5 := ((hl.below hB3).below hB4).below hB5
        have hl25 := ((hl2.below hB3).below hB4).below hB5
        have hp5 := ((hp2.below hB3).below hB4).below hB5
        have hav5 := hav.keep (keep5_below hB5)
        have HA := Lib.hid (hl5.rd hn)
        have HB := Lib.hid (hl25.rd (by have := congrArg List.length hx2; rw [List.length_map, List.length_map] at this; omega))
        have HE := Lib.hid hx2.symm
        have HAV := Lib.hid hav5
        have HV5 := Lib.hid hv5.byt
        have hqB : q0.length ≤ 1000000000 := by have := HQL.out; omega
        have HRP := fun n => rput_any (w5.drewN n) av av q0 q0 (HAV.out.drewN n).src (HAV.out.drewN n).src hqB hqB
        obtain ⟨st, K0, K1⟩ : ∃ st, (∀ w' v', Byt w' v' (q0 ++ be4 q0.length ++ q0) → (convert 31 9 v').run Try.prog w' = .ok (.string st) w') ∧ (∀ n, (convert 31 9 v5).run Try.prog (w5.drewN n) = .ok (.string st) (w5.drewN n)) :=
          ⟨_, fun _ _ h => conv_byt h, fun n => conv_byt (hv5.byt.drewN n)⟩
        have K0 := Lib.hid K0
        have HRP := Lib.hid HRP
        clear hl5 hl25 hx2 hav5 hv5 hl hl2 hav hv3 hv4 hB3 hB4 hB5 hbw hbw3 hbw4 hp2
        go_wp2_with fail
        go_region_held (fun w' : World => (convert 31 9 v5).run Try.prog w' = .ok (.string st) w')
          (first | exact K1 0 | exact K1 _ | exact K1 1 | exact K0.out _ _ ((HV5.out.drewN _).keep (keep5_below (by assumption))))
          (first
          | (go_at_call 14; refine Calls.mono (same_true _ _ _ _ _ ?_ ?_ HE.out) ?_; exact HA.out.heap (by first | rfl | simp); exact HB.out.heap (by first | rfl | simp); rintro e w' ⟨rfl, n, rfl⟩)
          | (go_at_call 15; refine Calls.mono (held_any (w5.drewN _) w.heap.size 600 [] false (hp5.drewN _)) ?_; rintro e w' ⟨rfl, rfl⟩)
          | (go_at_call 18; refine Calls.mono (HRP.out _) ?_; rintro e w6 ⟨u6, rfl, hu6, hB6⟩; have K3 := K0.out _ _ hu6.byt))
        have hend := (below_drewN' hbw5 (1 + n)).trans (hB6.mono hbw5.size)
        go_wp2_with fail
        go_ret
        exact ⟨rfl, hend⟩

end Go.Proofs.Ytjeeiaelicekhaa
