/- FrameMost: the law's walk. -/
import Derived.Test.YtjeeiaelicekhaaCutsW
import Derived.Deep.RegionHeldLaw
import Derived.Deep.OwnRows
import Derived.Deep.DeepCutAuto
import Derived.Deep.CutBlock
namespace Go.Proofs.Ytjeeiaelicekhaa
open Go.RowKit

theorem tm500 (c : Int) : (0 ≤ c ∧ c.tmod 500 = c % 500) ∨ (c < 0 ∧ c.tmod 500 = -((-c) % 500)) := by
  by_cases h : 0 ≤ c
  · exact .inl ⟨h, Int.tmod_eq_emod_of_nonneg h⟩
  · refine .inr ⟨by omega, ?_⟩
    have : c = -(-c) := by omega
    rw [this, Int.neg_tmod, Int.tmod_eq_emod_of_nonneg (by omega)]
    simp
theorem tmod500 (c : Int) : ∃ j : Nat, j < 500 ∧ RowKit.wrap64 ((c.tmod 500 + 500)) = c.tmod 500 + 500 ∧ (c.tmod 500 + 500).tmod 500 = (j : Int) := by
  have h1 : -500 < c.tmod 500 ∧ c.tmod 500 < 500 := by rcases tm500 c with ⟨_, e⟩ | ⟨_, e⟩ <;> omega
  have h2 : 0 ≤ (c.tmod 500 + 500).tmod 500 ∧ (c.tmod 500 + 500).tmod 500 < 500 := by rcases tm500 (c.tmod 500 + 500) with ⟨_, e⟩ | ⟨_, e⟩ <;> omega
  exact ⟨((c.tmod 500 + 500).tmod 500).toNat, by omega, by simp only [RowKit.wrap64]; omega, by omega⟩

/-- append onto a fresh empty row, as one step of a region that draws. -/
theorem step_fresh {w : World} {ops : Array Oper} {o : Oper} {a : Act} {K : Act → World → Prop} {Q : Exit → Act → World → Prop} {E : Prop} (hgd : o.guard = none) (s x : Operand)
    (ho : o.op = .call { callee := .builtin .append, args := #[s, x], argTypes := #[31, 31] }) (g : Nat) (hs : a.eval s = .slice (some ⟨g, 0, none⟩) 0 0) (m : List UInt8) (hx : Src w (a.eval x) (cel m)) (hb : m.length ≤ 1000000000)
    (h : ∀ v' w', Byt w' v' m → Below w.heap.size w w' → K (a.put o.dst v') w') :
    if Region.wanted o (yielded ops a.tmps) = true then Oper.wp Try.prog o a w K Q else E := by
  have hw : Region.wanted o (yielded ops a.tmps) = true := by simp [Region.wanted, hgd]
  rw [if_pos hw]
  obtain ⟨i, hi, hz, hsz, hby⟩ := info_parts info5
  obtain ⟨v', w', hr, h1, h2⟩ : ∃ v' w', (Builtin.append_ #[31, 31] o.type #[.slice (some ⟨g, 0, none⟩) 0 0, a.eval x]).run Try.prog w = .ok v' w' ∧ Byt w' v' m ∧ Below w.heap.size w w' := by
    obtain ⟨A, c, e, _, hA⟩ := hx
    rw [e]
    rw [cel_length]
    by_cases hm : m = []
    · subst hm
      refine ⟨.slice (some ⟨g, 0, none⟩) 0 0, w, ?_, byt_nil _ _ _ (Nat.zero_le _), Below.refl _ _⟩
      cases A <;> simp [Builtin.append_, run_underlying Try.underlying31, sizeOf, typeInfo, hi, Builtin.lenOf, Builtin.firstCells, loadCells, loadCellsFrom, storeCells]
    · have hp : 0 < m.length := List.length_pos_iff.2 hm
      obtain ⟨ad, rfl, hc⟩ := hA (fun e => hm (by have := congrArg List.length e; rw [cel_length] at this; exact List.eq_nil_of_length_eq_zero this))
      have hr := run_append_grow (P := Try.prog) w 31 o.type 5 i _ Try.underlying31 hi hz ⟨g, 0, none⟩ 0 0 [] (by simp) (by simp) ad m.length c (cel m) (by rw [cel_length, hsz, Nat.mul_one]) hc (by omega) (by omega) (growslice_fits (by omega) (by rw [hby]; omega))
      refine ⟨_, _, hr, ?_, ?_⟩
      · have hcap := grownCap_ge w (0 + m.length) 0 5
        rw [Nat.zero_add] at hcap ⊢
        refine ⟨_, _, rfl, hcap, grownCap_le_maxLen w _ 0 5 (by simp only [maxLen]; omega), fun _ => ⟨_, _, _, rfl, heap_alloc_new w.drew _, fun j u hj => ?_⟩⟩
        have hjl := (List.getElem?_eq_some_iff.1 hj).1
        simp only [Nat.zero_add]
        rw [← hj]
        simp [Array.getElem?_append, hjl]
      · exact (show Below w.heap.size w w.drew from ⟨rfl, rfl, rfl, Nat.le_refl _, fun _ _ => rfl⟩).trans (alloc_below w.drew _)
  unfold Oper.wp
  simp [execOp, ho, resolve, invoke, builtin, hs, hr, Result.andThen]
  exact h v' w' h1 h2

theorem zero_src (W W' : World) (m g : Nat) (hm : m ≤ maxLen) (hg : g = W.heap.size) (hb : Below (W.alloc (.cells (madeCells #[.int .u8 0] m) 5)).heap.size (W.alloc (.cells (madeCells #[.int .u8 0] m) 5)) W') :
    Byt W' (.slice (some ⟨g, 0, none⟩) m m) (List.replicate m 0) := by
  subst hg
  have e : madeCells #[Value.int .u8 0] m = (cel (List.replicate m 0)).toArray := by
    apply Array.ext'
    simp only [madeCells, cel, List.map_replicate]
    rw [List.eq_replicate_iff]
    refine ⟨by simp, fun b hb => ?_⟩
    simp only [Array.toList_map, List.mem_map] at hb
    obtain ⟨k, _, rfl⟩ := hb
    simp [Nat.mod_one]
  rw [e] at hb
  have h1 := hb.block W.heap.size (by rw [alloc_size]; omega)
  rw [heap_alloc_new] at h1
  refine ⟨_, m, by rw [List.length_replicate], by rw [List.length_replicate]; omega, hm, fun _ => ⟨_, _, _, rfl, h1, fun j u hj => ?_⟩⟩
  rw [Nat.zero_add]
  simpa using hj

theorem kD (wr : World) : Below wr.heap.size wr wr.drew := ⟨rfl, rfl, rfl, Nat.le_refl _, fun _ _ => rfl⟩
theorem kA {wr W : World} {o : Obj} (h : Below wr.heap.size wr W) : Below wr.heap.size wr (W.alloc o) := h.alloc h.size o
theorem kB {wr W W' : World} (h : Below wr.heap.size wr W) (h2 : Below W.heap.size W W') : Below wr.heap.size wr W' := h.trans (h2.mono h.size)

/-- What a feed behind made memory leaves. -/
def RG (wa : World) (r m : Nat) (ps : List (List UInt8)) (br : Bool) (u : Value) (wx : World) : Prop :=
  ∃ xs : List (Value × List UInt8), Lst wa.heap.size wx u xs ∧ xs.map (·.2) = ps ∧ Rdr wx r m [] br ∧ wa.grownBy wx (some r)

theorem RG.mk' {wa W wx : World} {r m : Nat} {ps : List (List UInt8)} {br : Bool} {u : Value} {xs : List (Value × List UInt8)} (hb : Below wa.heap.size wa W) (hl : Lst W.heap.size wx u xs) (hx : xs.map (·.2) = ps) (hR : Rdr wx r m [] br) (hg : W.grownBy wx (some r)) :
    RG wa r m ps br u wx :=
  ⟨xs, ⟨hl.1.le hb.size, hl.2⟩, hx, hR, grown_trans (grown_below hb) hg⟩

theorem feed_to {W : World} {r m : Nat} {v : Value} {D : List UInt8} {ps : List (List UInt8)} {br : Bool} (hF : parse m D = (ps, [], br)) (hD : D.length ≤ 1000000000) (hR : Rdr W r m [] false) (hv : Src W v (cel D)) :
    Calls Try.prog 11 #[.pointer (some ⟨r, 0, none⟩), v] W fun e w' => ∃ u xs, e = .returned (.tuple #[u, .int .i64 (Err br)]) ∧ Lst W.heap.size w' u xs ∧ xs.map (·.2) = ps ∧ Rdr w' r m [] br ∧ W.grownBy w' (some r) := by
  have h := feed_any W r m [] D false v hR hv (by simp) hD
  have e : step m [] false D = (ps, [], br) := by
    simp only [step, Bool.false_eq_true, if_false, List.nil_append]
    exact hF
  rw [e] at h
  exact h

/-- A feed of a reader that is broken. -/
theorem feed_shut {W : World} {r m : Nat} {v : Value} {L D : List UInt8} (hL : L.length ≤ 1000000000) (hD : D.length ≤ 1000000000) (hR : Rdr W r m L true) (hv : Src W v (cel D)) :
    Calls Try.prog 11 #[.pointer (some ⟨r, 0, none⟩), v] W fun e w' => ∃ A c, e = .returned (.tuple #[.slice A 0 c, .int .i64 5]) ∧ W.grownBy w' (some r) := by
  refine (feed_any W r m L D true v hR hv hL hD).mono ?_
  rintro e w' ⟨u, xs, rfl, hl, hx, _, hg⟩
  have hx0 : xs = [] := List.map_eq_nil_iff.1 hx
  subst hx0
  obtain ⟨A, c, rfl⟩ := hl.1.slice
  exact ⟨A, c, rfl, hg⟩

theorem pick_at {B : Nat} {w : World} {u : Value} {xs : List (Value × List UInt8)} {ps : List (List UInt8)} {Z : List UInt8} {k : Nat} (hl : Lst B w u xs) (hx : xs.map (·.2) = ps ++ [Z]) (hk : ps.length = k) (hs : k ≤ 1000) :
    ∃ ad c A c', u = .slice (some ad) (k + 1) c ∧ w.cell? (ad.add k) = some (.slice A Z.length c') := by
  have hxl : xs.length = k + 1 := by
    have := congrArg List.length hx
    simpa [hk] using this
  obtain ⟨ad, c, rfl, h1, h2⟩ := (hl.rd (by omega)).at k (by omega)
  have e : xs[k].2 = Z := by
    have h3 : (xs.map (·.2))[k]? = some Z := by rw [hx, ← hk]; simp
    rw [List.getElem?_map, List.getElem?_eq_getElem (by omega)] at h3
    simpa using h3
  rw [e] at h2
  obtain ⟨A, c', e2, _⟩ := h2
  rw [e2] at h1
  rw [hxl]
  exact ⟨ad, c, A, c', rfl, h1⟩

/-- Between two turns: the frames written, the readers untouched. -/
def MInv (w : World) (p m k : Nat) (b : Value) (ps : List (List UInt8)) (wr : World) : Prop :=
  Byt wr b (flat ps) ∧ ps.length = k ∧ (∀ q ∈ ps, q.length ≤ m) ∧ (flat ps).length ≤ 504 * k ∧ Rdr wr p m [] false ∧ Rdr wr (p + 1) m [] false ∧ Below w.heap.size w wr ∧ p + 1 < wr.heap.size

/-- Behind the loop. -/
def MEnd (w : World) (m : Nat) (b n : Value) (wr : World) : Prop :=
  ∃ (k : Nat) (ps : List (List UInt8)), n = .int .i64 k ∧ MInv w w.heap.size m k b ps wr ∧ k ≤ 20

set_option maxRecDepth 100000 in
set_option maxHeartbeats 4000000 in
theorem fmost_walk (n0 : Int) (a : Option Addr) (len cap : Nat) (w : World) (hp : Pcs w a len) :
    Calls Try.prog 7 #[.int .i64 n0, .slice a len cap] w fun e w' => e = .returned (.bool true) ∧ Below w.heap.size w w' := by
  have HP := Lib.hid hp.2
  have hlm := hp.1
  clear hp
  obtain ⟨m, hm, t1, t2⟩ := tmod500 n0
  have N1 : ∀ w : World, Calls Try.prog 8 #[.int .i64 (m : Int)] w fun e w' => e = .returned (.pointer (some ⟨w.heap.size, 0, none⟩)) ∧ w' = w.alloc (.cells #[.int .u64 (m : Int), .slice none 0 0, .bool false] 56) := fun w => by
    have := new_any w (m : Int) (by omega) (by omega)
    rwa [Int.toNat_natCast] at this
  go_enter Try.func7, Try.ntmps7
  go_wp2_with fail
  refine (N1 w).mono ?_
  rintro e w1 ⟨rfl, rfl⟩
  go_wp2_with fail
  refine (N1 _).mono ?_
  rintro e w1 ⟨rfl, rfl⟩
  have g1 : Rdr ((w.alloc (.cells #[.int .u64 (m : Int), .slice none 0 0, .bool false] 56)).alloc (.cells #[.int .u64 (m : Int), .slice none 0 0, .bool false] 56)) w.heap.size m [] false :=
    ⟨_, (Below.heap_alloc _ _ _ (by rw [alloc_size]; omega)).trans (heap_alloc_new _ _), byt_nil _ _ _ (Nat.zero_le _)⟩
  have g2 : Rdr ((w.alloc (.cells #[.int .u64 (m : Int), .slice none 0 0, .bool false] 56)).alloc (.cells #[.int .u64 (m : Int), .slice none 0 0, .bool false] 56)) (w.heap.size + 1) m [] false := by
    have := heap_alloc_new (w.alloc (.cells #[.int .u64 (m : Int), .slice none 0 0, .bool false] 56)) (.cells #[.int .u64 (m : Int), .slice none 0 0, .bool false] 56)
    rw [alloc_size] at this
    exact ⟨_, this, byt_nil _ _ _ (Nat.zero_le _)⟩
  have hB : Below w.heap.size w ((w.alloc (.cells #[.int .u64 (m : Int), .slice none 0 0, .bool false] 56)).alloc (.cells #[.int .u64 (m : Int), .slice none 0 0, .bool false] 56)) := (alloc_below _ _).trans ((alloc_below _ _).mono (by rw [alloc_size]; omega))
  have hz : w.heap.size + 1 < ((w.alloc (.cells #[.int .u64 (m : Int), .slice none 0 0, .bool false] 56)).alloc (.cells #[.int .u64 (m : Int), .slice none 0 0, .bool false] 56)).heap.size := by rw [alloc_size, alloc_size]; omega
  go_wp2_with fail
  refine (wakes_any _).mono ?_
  rintro e w2 ⟨rfl, hb2⟩
  have g1 := g1.below hb2
  have g2 := g2.below hb2
  have hz := Nat.lt_of_lt_of_le hz hb2.size
  have hB := hB.trans (hb2.mono hB.size)
  have h0 : MInv w w.heap.size m 0 (.slice none 0 0) [] w2 := ⟨byt_nil _ _ _ (Nat.zero_le _), rfl, by simp, by simp [flat], g1, g2, hB, hz⟩
  clear hb2 N1 g1 g2 hz hB t1 t2
  go_upto_block 0 with fail
  go_cut [8, 9] (fun b n wx => MEnd w m b n wx)
  case first =>
    go_wp2_with fail
    go_loopw [8, 9, 10] (fun b n i wr => ∃ (k : Nat) (ps : List (List UInt8)), i = .int .i64 k ∧ n = .int .i64 k ∧ MInv w w.heap.size m k b ps wr ∧ k ≤ 20) (fun _ _ i _ => 20 - (intOf i).toNat)
    case atStart => exact ⟨0, [], rfl, rfl, h0, by omega⟩
    case round =>
      clear h0
      obtain ⟨k, ps, rfl, rfl, ⟨hb, hlen, hps, hfl, hR1, hR2, hbw, hz⟩, hk⟩ := hrel
      have HK := Lib.hid hlen
      clear hlen
      by_cases c1 : k < len ∧ k < 20
      · obtain ⟨c1, c2⟩ := c1
        obtain ⟨ad, u, p, rfl, hlt, hcell, hsrc⟩ := HP.out k c1
        have g0 := (hbw.cell (p := ad.add k) (by rw [add_block]; exact hlt)).trans hcell
        go_wp2_with fail
        have hq : (p.take m).length ≤ m := by rw [List.length_take]; omega
        refine (twin_any _ u p m (hsrc.below hbw) (by omega)).mono ?_
        rintro e w1 ⟨v1, rfl, hv1, hB1⟩
        generalize p.take m = q at *
        have HQ := Lib.hid hq
        clear hq
        have hbw1 := hbw.trans (hB1.mono hbw.size)
        have hz1 := hB1.size
        go_wp2_with fail
        refine (put_any w1 _ _ _ q (hb.keep (keep5_below hB1)).src hv1.src (by omega) (by have := HQ.out; omega)).mono ?_
        rintro e w10 ⟨v10, rfl, hv10, hB10⟩
        have HN : MInv w w.heap.size m (k + 1) v10 (ps ++ [q]) w10 := by
          have hq := HQ.out
          refine ⟨?_, ?_, ?_, ?_, (hR1.below hB1).below hB10, (hR2.below hB1).below hB10, hbw1.trans (hB10.mono hbw1.size), ?_⟩
          · rw [flat_snoc]
            exact hv10.byt
          · rw [List.length_append, List.length_singleton, HK.out]
          · intro x hx'
            rcases List.mem_append.1 hx' with h | h
            · exact hps x h
            · rw [List.mem_singleton.1 h]
              exact hq
          · rw [flat_snoc, List.length_append, List.length_append, be4_length]
            omega
          · have := hB10.size
            omega
        have HN := Lib.hid HN
        clear hv10 hB10 hv1 hB1 hbw1 hbw hb hR1 hR2 g0
        go_wp2_with fail
        go_roundw
        case rel => exact ⟨k + 1, ps ++ [q], by go_num, by go_num, HN.out, by omega⟩
        case measure => simp [intOf]; omega
      · have HM := Lib.hid (show MEnd w m u8 (.int .i64 k) wr from ⟨k, ps, rfl, ⟨hb, HK.out, hps, hfl, hR1, hR2, hbw, hz⟩, hk⟩)
        go_wp2_with fail
        all_goals
          go_meet
          exact HM.out
  case rest =>
    generalize wc = wr at *
    obtain ⟨k, ps, rfl, ⟨hb, hlen, hps, hfl, hR1, hR2, hbw, hz⟩, hk⟩ := hcut
    have HK := Lib.hid hlen
    clear hlen h0
    obtain ⟨m1, hm1⟩ : ∃ m1 : Nat, m1 = m + 1 := ⟨_, rfl⟩
    have hm2 : (m : Int) + 1 = (m1 : Int) := by omega
    obtain ⟨Z, hZ⟩ : ∃ Z : List UInt8, List.replicate m 0 = Z := ⟨_, rfl⟩
    obtain ⟨Y, hY⟩ : ∃ Y : List UInt8, List.replicate m1 0 = Y := ⟨_, rfl⟩
    have hZl : Z.length = m := by rw [← hZ, List.length_replicate]
    have hYl : Y.length = m1 := by rw [← hY, List.length_replicate]
    have MK1 := run_make_row' (P := Try.prog) 31 5 (.int .u8 0) 1 Try.underlying31 info5 rfl .i64 .i64 m (by omega) (by omega)
    have MK2 := run_make_row' (P := Try.prog) 31 5 (.int .u8 0) 1 Try.underlying31 info5 rfl .i64 .i64 m1 (by omega) (by omega)
    have MK1Z : ∀ (W W' : World) (g : Nat), g = W.heap.size → Below (W.alloc (.cells (madeCells #[.int .u8 0] m) 5)).heap.size (W.alloc (.cells (madeCells #[.int .u8 0] m) 5)) W' → Byt W' (.slice (some ⟨g, 0, none⟩) m m) Z := fun W W' g hg hb => by
      rw [← hZ]
      exact zero_src W W' m g (by simp only [maxLen]; omega) hg hb
    have MK2Z : ∀ (W W' : World) (g : Nat), g = W.heap.size → Below (W.alloc (.cells (madeCells #[.int .u8 0] m1) 5)).heap.size (W.alloc (.cells (madeCells #[.int .u8 0] m1) 5)) W' → Byt W' (.slice (some ⟨g, 0, none⟩) m1 m1) Y := fun W W' g hg hb => by
      rw [← hY]
      exact zero_src W W' m1 g (by simp only [maxLen]; omega) hg hb
    have P1 : parse m (flat ps ++ be4 Z.length ++ Z) = (ps ++ [Z], [], false) := by
      rw [← flat_snoc]
      refine parse_flat m _ fun q hq => ?_
      rcases List.mem_append.1 hq with h | h
      · have := hps q h
        omega
      · rw [List.mem_singleton.1 h]
        omega
    have P2 : parse m (flat ps ++ be4 Y.length ++ Y) = (ps, [], true) := by
      rw [List.append_assoc, parse_then m _ ps fun q hq => by have := hps q hq; omega]
      have e1 : (be4 Y.length ++ Y).take 4 = be4 Y.length := by
        rw [List.take_append_of_le_length (by rw [be4_length]; exact Nat.le_refl _)]
        exact List.take_of_length_le (by rw [be4_length]; exact Nat.le_refl _)
      rw [parse_big (by rw [List.length_append, be4_length]; omega) (by rw [e1, num_be4 _ (by omega)]; omega)]
      simp
    have hfl9 : (flat ps).length ≤ 1000000000 := by omega
    have hZ9 : Z.length ≤ 1000000000 := by omega
    have hY9 : Y.length ≤ 1000000000 := by omega
    have hD9 : (flat ps ++ be4 Z.length ++ Z).length ≤ 1000000000 := by rw [List.length_append, List.length_append, be4_length]; omega
    have hE9 : (flat ps ++ be4 Y.length ++ Y).length ≤ 1000000000 := by rw [List.length_append, List.length_append, be4_length]; omega
    have HP1 := Lib.hid P1
    have HP2 := Lib.hid P2
    have HZL := Lib.hid hZl
    clear hZ hY hZl hYl P1 P2
    have hm3 : IntKind.i64.wrap (m1 : Int) = (m1 : Int) := IntWalk.i64_in _ ⟨by omega, by omega⟩
    have HM2 := Lib.hid hm2
    have HM3 := Lib.hid hm3
    clear hm2 hm1 hm3
    go_upto_region 12 with fail
    go_cut [11, 12] (fun u e wx => RG wr w.heap.size m (ps ++ [Z]) false u wx ∧ e = .int .i64 0)
    case first =>
      go_region_held_law (fun _ : World => True) (exact True.intro)
        (first
        | (refine step_fresh rfl (.tmp 55) (.tmp 56) rfl _ rfl (flat ps) ?_ hfl9 ?_; (first | exact (hb.keep (keep5_below (kA (kD _)))).src | exact (hb.keep (keep5_below (kA (kA (kD _))))).src); intro v' w' hv' hb'; (first | (have hb0 := kB (kA (kD wr)) hb') | (have hb0 := kB (kA (kA (kD wr))) hb')))
        | (go_simp; go_at_call 17; refine Calls.mono (put_any _ _ _ (flat ps) Z ?_ ?_ hfl9 hZ9) ?_; (first | exact hv'.src | exact (hv'.keep (keep5_below (alloc_below _ _))).src); (first | exact (MK1Z _ _ _ rfl (Below.refl _ _)).src | exact (MK1Z (wr.drew.alloc (.cells #[] 5)) _ _ (alloc_size wr.drew _).symm hb').src | exact (MK1Z wr.drew _ _ rfl (kB (alloc_below _ _) hb')).src); rintro e w5 ⟨u5, rfl, hu5, hb5⟩; (first | (have hb6 := kB hb0 hb5) | (have hb6 := kB (kA hb0) hb5)))
        | (go_simp; go_at_call 11; refine Calls.mono (feed_to HP1.out hD9 (hR1.below hb6) hu5.src) ?_; rintro e w7 ⟨u7, xs7, rfl, hl7, hx7, hR7, hg7⟩))
      all_goals
        have HR := Lib.hid (RG.mk' hb6 hl7 hx7 hR7 hg7)
        go_wp2_with fail
        go_meet
        exact ⟨HR.out, rfl⟩
    case rest =>
      generalize wc = wa at *
      obtain ⟨⟨xs, hl, hx, hR, hg⟩, rfl⟩ := hcut
      have HX := Lib.hid hx
      clear hx
      have hN := hR1.not5
      have hb := hb.keep (keep5_grown hg hN)
      have hR2 := hR2.other hg hN (by omega)
      have hbw2 := hbw.grown hg hbw.size (fun k e => by cases e; exact Nat.le_refl _)
      have hz2 := Nat.lt_of_lt_of_le hz hg.size
      clear hg hN hR1 hbw
      have hm2 := HM2.out
      have hm3 := HM3.out
      go_upto_region 13 with fail
      go_cut [13, 14] (fun u e wx => RG wa (w.heap.size + 1) m ps true u wx ∧ e = .int .i64 5)
      case first =>
        go_region_held_law (fun _ : World => True) (exact True.intro)
          (first
          | (refine step_fresh rfl (.tmp 66) (.tmp 67) rfl _ rfl (flat ps) ?_ hfl9 ?_; (first | exact (hb.keep (keep5_below (kA (kD _)))).src | exact (hb.keep (keep5_below (kA (kA (kD _))))).src); intro v' w' hv' hb'; (first | (have hb0 := kB (kA (kD wa)) hb') | (have hb0 := kB (kA (kA (kD wa))) hb')))
          | (go_simp; go_at_call 17; refine Calls.mono (put_any _ _ _ (flat ps) Y ?_ ?_ hfl9 hY9) ?_; (first | exact hv'.src | exact (hv'.keep (keep5_below (alloc_below _ _))).src); (first | exact (MK2Z _ _ _ rfl (Below.refl _ _)).src | exact (MK2Z (wa.drew.alloc (.cells #[] 5)) _ _ (alloc_size wa.drew _).symm hb').src | exact (MK2Z wa.drew _ _ rfl (kB (alloc_below _ _) hb')).src); rintro e w5 ⟨u5, rfl, hu5, hb5⟩; (first | (have hb6 := kB hb0 hb5) | (have hb6 := kB (kA hb0) hb5)))
          | (go_simp; go_at_call 11; refine Calls.mono (feed_to HP2.out hE9 (hR2.below hb6) hu5.src) ?_; rintro e w7 ⟨u7, xs7, rfl, hl7, hx7, hR7, hg7⟩))
        all_goals
          have HR := Lib.hid (RG.mk' hb6 hl7 hx7 hR7 hg7)
          go_wp2_with fail
          go_meet
          exact ⟨HR.out, rfl⟩
      case rest =>
        generalize wc = wb at *
        obtain ⟨⟨ys, hl2, hx2, hR2', hg2⟩, rfl⟩ := hcut
        have hN2 := hR2.not5
        have hl := hl.other hg2 hN2 (by omega)
        have hR := hR.other hg2 hN2 (by omega)
        have hbw3 := hbw2.grown hg2 hbw2.size (fun k e => by cases e; omega)
        have hyl : ys.length = k := by
          have := congrArg List.length hx2
          rw [List.length_map, HK.out] at this
          exact this
        obtain ⟨A2, c2, e2⟩ := hl2.1.slice
        rw [List.length_map, hyl] at e2
        subst e2
        obtain ⟨ad, c, A, c', rfl, hel⟩ := pick_at hl HX.out HK.out (by omega)
        rw [HZL.out] at hel
        clear hg2 hN2 hl hl2 hx2 hyl hR2 hbw2 hb
        have hki : (0 : Int) ≤ (k : Int) ∧ (k : Int) < (k : Int) + 1 := by omega
        go_wp2_with fail
        refine (held_any _ _ _ _ _ hR).mono ?_
        rintro e w' ⟨rfl, rfl⟩
        go_wp2_with fail
        refine (held_any _ _ _ _ _ hR2').mono ?_
        rintro e w' ⟨rfl, rfl⟩
        go_wp2_with fail
        refine (put_any _ _ _ [] [] (byt_nil _ _ _ (Nat.zero_le _)).src (byt_nil _ _ _ (Nat.zero_le _)).src (by simp) (by simp)).mono ?_
        rintro e w8 ⟨u8, rfl, hu8, hB8⟩
        have hbw4 := hbw3.trans (hB8.mono hbw3.size)
        go_wp2_with fail
        refine (feed_shut (by simp) (by simp [be4_length]) (hR2'.below hB8) hu8.src).mono ?_
        rintro e w9 ⟨A9, c9, rfl, hg9⟩
        have hend := hbw4.grown hg9 hbw4.size (fun k e => by cases e; omega)
        go_wp2_with fail
        go_ret
        exact ⟨rfl, hend⟩

end Go.Proofs.Ytjeeiaelicekhaa
