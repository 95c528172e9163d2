/- One call of both: Set, Drop, End. -/
import Derived.Test.YtfmcpcciokogiaaPair
namespace Go.Proofs.Ytfmcpcciokogiaa
open Go.RowKit Fl

theorem pr_put (L : List It) (s : ByteArray) (b f t : Nat) : pr (without L s ++ [⟨b, s, f, t⟩]) = outP (pr L) s ++ [(s, f)] := by
  rw [pr_append, ← outP_pr]
  rfl

/-- What is left when the two have been called in turn. -/
theorem grew_two {w w0 w1 w2 : World} {G Gh Gr Gh' Gr' : Nat → Prop} {h r T T' : Nat} {L : List It} (hb : Below w.heap.size w w0) (hG : ∀ k, G k → k < w.heap.size) (g1 : ∀ k, Gh k → G k) (g2 : ∀ k, Gr k → G k) (hd : ∀ k, Gh k → ¬ Gr k)
    (h1 : HS w1 Gh' h L T') (t1 : Turned Gh w0 w1) (k1 : ∀ k, Gh' k → Gh k ∨ w0.heap.size ≤ k) (h2 : RP w2 Gr' r (pr L)) (t2 : Turned Gr w1 w2) (k2 : ∀ k, Gr' k → Gr k ∨ w1.heap.size ≤ k) (hT : T' ≤ T + 1) :
    Grew w G h r T w2 := by
  have s0 := hb.size
  have s1 := t1.2.2.2.1
  have b1 := h1.parts.1
  have d1 : ∀ k, Gh' k → ¬ Gr k := fun k q1 q2 => by
    rcases k1 k q1 with q | q
    · exact hd k q q2
    · have := hG k (g2 k q2)
      omega
  refine grew_of hT (h1.keep t2 d1) h2 (fun k q1 q2 => ?_) (fun k q => ?_) (fun k q => ?_) hG ?_
  · rcases k2 k q2 with q | q
    · exact d1 k q1 q
    · have := b1 k q1
      omega
  · rcases k1 k q with q | q
    · exact .inl (g1 k q)
    · exact .inr (by omega)
  · rcases k2 k q with q | q
    · exact .inl (g2 k q)
    · exact .inr (by omega)
  · have t0 : Turned G w w0 := ⟨hb.os, hb.tape, hb.output, hb.size, fun k hk _ => hb.block k hk⟩
    exact (t0.trans (t1.mono g1)).trans (t2.mono g2)

set_option maxRecDepth 100000 in
set_option maxHeartbeats 2000000 in
theorem plays_set (w : World) (G : Nat → Prop) (h r T : Nat) (on : Int) (key : ByteArray) (fl : Nat) (p : Pair w G h r T) (hT : T ≤ 100000) (hks : key.size ≤ maxLen) :
    Calls Try.prog 24 #[.pointer (some ⟨h, 0, none⟩), .pointer (some ⟨r, 0, none⟩), .agg #[.int .i64 on, .int .i64 1, .string key, .int .u64 fl]] w fun e w' => e = .returned (.bool true) ∧ Grew w G h r T w' := by
  have hcs := cutT_small hks
  have HT := Lib.hid (text_any key)
  generalize cutT key = ks at *
  go_enter Try.func24, Try.ntmps24
  go_wp2_with fail
  refine (HT.out _).mono ?_
  rintro e w4 ⟨rfl, rfl⟩
  clear HT
  go_wp2_with fail
  have hb := alloc_below w (.cells #[.int .i64 on, .int .i64 1, .string key, .int .u64 fl] 31)
  generalize hw0 : w.alloc (.cells #[.int .i64 on, .int .i64 1, .string key, .int .u64 fl] 31) = w0 at hb ⊢
  clear hw0
  have PP := Lib.hid (p.same hb)
  obtain ⟨Gh, Gr, L, p1, p2, p3, p4, p5, p6⟩ := p
  have p1 := p1.below hb
  have p2 := p2.below hb
  have hlt := p1.parts.2.2
  have nA := p1.parts.2.1
  have HP2 := Lib.hid p2
  have HP := Lib.hid (show (∀ k, Gh k → ¬ Gr k) ∧ (∀ k, Gh k → G k) ∧ (∀ k, Gr k → G k) ∧ ∀ k, G k → k < w.heap.size from ⟨p3, p4, p5, p6⟩)
  have HO := Lib.hid (oneP_of nA)
  have HB := Lib.hid hb
  clear p2 p3 p4 p5 p6 nA hb
  cases e1 : isNe fl fl with
  | true =>
    refine (set_nan _ _ _ _ e1).mono ?_
    rintro e w5 ⟨rfl, rfl⟩
    go_wp2_with fail
    refine (rset_nan _ _ _ _ e1).mono ?_
    rintro e w5 ⟨rfl, rfl⟩
    clear p1
    go_wp2_with fail
    go_ret
    exact ⟨rfl, PP.out⟩
  | false =>
    refine (set_any w0 Gh h T L ks fl p1 e1 (by omega) hcs).mono ?_
    rintro e w5 ⟨rfl, b5, h5, t5⟩
    have H5 := Lib.hid h5
    have T5 := Lib.hid t5
    have r5 : RP w5 Gr r (pr L) := HP2.out.keep t5 fun k q1 q2 => HP.out.1 k q2 q1
    have HS5 := Lib.hid (rset_any w5 Gr r (pr L) ks fl r5 (by rw [pr_length]; omega) HO.out e1)
    clear p1 h5 t5 r5
    go_wp2_with fail
    refine HS5.out.mono ?_
    rintro e w6 ⟨rfl, r6, t6⟩
    rw [← pr_put L ks b5 fl (T + 1)] at r6
    have HN := Lib.hid (show Grew w G h r T w6 from grew_two HB.out HP.out.2.2.2 HP.out.2.1 HP.out.2.2.1 HP.out.1 H5.out T5.out (fun k q => by
      rcases q with q | q
      · exact .inl q
      · exact .inr q.1) r6 t6 (fun k q => by
      rcases q with q | q
      · exact .inl q
      · exact .inr q.1) (Nat.le_refl _))
    clear r6 t6
    go_wp2_with fail
    go_ret
    exact ⟨rfl, HN.out⟩

set_option maxRecDepth 100000 in
set_option maxHeartbeats 2000000 in
theorem plays_drop (w : World) (G : Nat → Prop) (h r T : Nat) (on : Int) (key : ByteArray) (fl : Nat) (p : Pair w G h r T) (hT : T ≤ 100000) (hks : key.size ≤ maxLen) :
    Calls Try.prog 24 #[.pointer (some ⟨h, 0, none⟩), .pointer (some ⟨r, 0, none⟩), .agg #[.int .i64 on, .int .i64 2, .string key, .int .u64 fl]] w fun e w' => e = .returned (.bool true) ∧ Grew w G h r T w' := by
  have hcs := cutT_small hks
  have HT := Lib.hid (text_any key)
  generalize cutT key = ks at *
  go_enter Try.func24, Try.ntmps24
  go_wp2_with fail
  refine (HT.out _).mono ?_
  rintro e w4 ⟨rfl, rfl⟩
  clear HT
  go_wp2_with fail
  have hb := alloc_below w (.cells #[.int .i64 on, .int .i64 2, .string key, .int .u64 fl] 31)
  generalize hw0 : w.alloc (.cells #[.int .i64 on, .int .i64 2, .string key, .int .u64 fl] 31) = w0 at hb ⊢
  clear hw0
  have PP := Lib.hid (p.same hb)
  obtain ⟨Gh, Gr, L, p1, p2, p3, p4, p5, p6⟩ := p
  have p1 := p1.below hb
  have p2 := p2.below hb
  have hlt := p1.parts.2.2
  have nA := p1.parts.2.1
  have HP2 := Lib.hid p2
  have HP := Lib.hid (show (∀ k, Gh k → ¬ Gr k) ∧ (∀ k, Gh k → G k) ∧ (∀ k, Gr k → G k) ∧ ∀ k, G k → k < w.heap.size from ⟨p3, p4, p5, p6⟩)
  have HO := Lib.hid (oneP_of nA)
  have HB := Lib.hid hb
  clear p2 p3 p4 p5 p6 nA hb
  rcases pos_find L ks with ⟨f1, f2⟩ | ⟨i, x, f1, f2, f3⟩
  · have HD := Lib.hid (drop_none w0 Gh h T L ks p1 hcs f2)
    have HR := Lib.hid (rdrop_none w0 Gr r (pr L) ks HP2.out (by rw [pr_length]; omega) f1)
    clear p1 f1 f2
    refine HD.out.mono ?_
    rintro e w5 ⟨rfl, rfl⟩
    go_wp2_with fail
    refine HR.out.mono ?_
    rintro e w5 ⟨rfl, rfl⟩
    go_wp2_with fail
    go_ret
    exact ⟨rfl, PP.out⟩
  · have HD := Lib.hid (drop_some w0 Gh h T L ks x p1 (by omega) hcs f2)
    have HF := Lib.hid f1
    clear p1 f1 f2 f3
    refine HD.out.mono ?_
    rintro e w5 ⟨rfl, h5, t5⟩
    have H5 := Lib.hid h5
    have T5 := Lib.hid t5
    have r5 : RP w5 Gr r (pr L) := HP2.out.keep t5 fun k q1 q2 => HP.out.1 k q2 q1
    have hr5 := rdrop_any w5 Gr r (pr L) ks r5 (by rw [pr_length]; omega) HO.out
    rw [HF.out] at hr5
    have HS5 := Lib.hid hr5
    clear h5 t5 r5 hr5
    go_wp2_with fail
    refine HS5.out.mono ?_
    rintro e w6 ⟨rfl, r6, t6⟩
    rw [outP_pr] at r6
    have HN := Lib.hid (show Grew w G h r T w6 from grew_two HB.out HP.out.2.2.2 HP.out.2.1 HP.out.2.2.1 HP.out.1 H5.out T5.out (fun k q => .inl q) r6 t6 (fun k q => by
      rcases q with q | q
      · exact .inl q
      · exact .inr q.1) (Nat.le_succ _))
    clear r6 t6
    go_wp2_with fail
    go_ret
    exact ⟨rfl, HN.out⟩

set_option maxRecDepth 100000 in
set_option maxHeartbeats 2000000 in
theorem plays_end (w : World) (G : Nat → Prop) (h r T : Nat) (on : Int) (key : ByteArray) (fl : Nat) (p : Pair w G h r T) (hT : T ≤ 100000) (hks : key.size ≤ maxLen) :
    Calls Try.prog 24 #[.pointer (some ⟨h, 0, none⟩), .pointer (some ⟨r, 0, none⟩), .agg #[.int .i64 on, .int .i64 3, .string key, .int .u64 fl]] w fun e w' => e = .returned (.bool true) ∧ Grew w G h r T w' := by
  have hcs := cutT_small hks
  have HT := Lib.hid (text_any key)
  generalize cutT key = ks at *
  go_enter Try.func24, Try.ntmps24
  go_wp2_with fail
  refine (HT.out _).mono ?_
  rintro e w4 ⟨rfl, rfl⟩
  clear HT
  go_wp2_with fail
  have hb := alloc_below w (.cells #[.int .i64 on, .int .i64 3, .string key, .int .u64 fl] 31)
  generalize hw0 : w.alloc (.cells #[.int .i64 on, .int .i64 3, .string key, .int .u64 fl] 31) = w0 at hb ⊢
  clear hw0
  have PP := Lib.hid (p.same hb)
  obtain ⟨Gh, Gr, L, p1, p2, p3, p4, p5, p6⟩ := p
  have p1 := p1.below hb
  have p2 := p2.below hb
  have hlt := p1.parts.2.2
  have nA := p1.parts.2.1
  have HP2 := Lib.hid p2
  have HP := Lib.hid (show (∀ k, Gh k → ¬ Gr k) ∧ (∀ k, Gh k → G k) ∧ (∀ k, Gr k → G k) ∧ ∀ k, G k → k < w.heap.size from ⟨p3, p4, p5, p6⟩)
  have HO := Lib.hid (oneP_of nA)
  have HB := Lib.hid hb
  clear p2 p3 p4 p5 p6 nA hb
  have hr5 := rend_any w0 Gr r (pr L) ks HP2.out (by rw [pr_length]; omega)
  have he5 := end_any w0 Gh h T L ks p1 hcs
  rcases pos_find L ks with ⟨f1, f2⟩ | ⟨i, x, f1, f2, f3⟩
  · have hv : endV (pr L) ks = .tuple #[.float .f64 0, .bool false] := by unfold endV; rw [f1]
    rw [f2] at he5
    rw [hv] at hr5
    have HD := Lib.hid he5
    have HR := Lib.hid hr5
    clear p1 f1 f2 hv hr5 he5
    refine HD.out.mono ?_
    rintro e w5 ⟨rfl, rfl⟩
    go_wp2_with fail
    refine HR.out.mono ?_
    rintro e w5 ⟨rfl, rfl⟩
    go_wp2_with fail
    refine (osame_any _ _).mono ?_
    rintro e w5 ⟨rfl, rfl⟩
    go_wp2_with fail
    go_ret
    exact ⟨rfl, PP.out⟩
  · have hv : endV (pr L) ks = .tuple #[.float .f64 x.fin, .bool true] := by
      unfold endV
      rw [f1]
      dsimp only
      rw [f3]
    rw [f2] at he5
    rw [hv] at hr5
    have HD := Lib.hid he5
    have HR := Lib.hid hr5
    clear p1 f1 f2 f3 hv hr5 he5
    refine HD.out.mono ?_
    rintro e w5 ⟨rfl, rfl⟩
    go_wp2_with fail
    refine HR.out.mono ?_
    rintro e w5 ⟨rfl, rfl⟩
    go_wp2_with fail
    refine (osame_any _ _).mono ?_
    rintro e w5 ⟨rfl, rfl⟩
    go_wp2_with fail
    go_ret
    exact ⟨rfl, PP.out⟩

end Go.Proofs.Ytfmcpcciokogiaa
