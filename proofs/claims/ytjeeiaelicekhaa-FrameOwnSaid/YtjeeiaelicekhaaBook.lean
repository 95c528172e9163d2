/- Book: what is kept, and its copies. -/
import Derived.Test.YtjeeiaelicekhaaLoanB
namespace Go.Proofs.Ytjeeiaelicekhaa
open Go.RowKit

def B5 (n : Nat) (x y : Value) : Array Value := #[x, y, .slice none 0 0, .slice none 0 0, .int .i64 (n : Int)]
theorem B5_set0 (n : Nat) (x y v : Value) : (B5 n x y).setIfInBounds 0 v = B5 n v y := rfl
theorem B5_set1 (n : Nat) (x y v : Value) : (B5 n x y).setIfInBounds 1 v = B5 n x v := rfl
theorem B5_set4 (n m : Nat) (x y : Value) : (B5 n x y).setIfInBounds 4 (.int .i64 (m : Int)) = B5 m x y := rfl
theorem B5_cells {w : World} {r t n : Nat} {x y : Value} (h : w.heap[r]? = some (.cells (B5 n x y) t (0, 0))) :
    w.cell? ⟨r, 0, none⟩ = some x ∧ w.cell? ⟨r, 1, none⟩ = some y ∧ w.cell? ⟨r, 2, none⟩ = some (.slice none 0 0) ∧ w.cell? ⟨r, 3, none⟩ = some (.slice none 0 0) ∧ w.cell? ⟨r, 4, none⟩ = some (.int .i64 (n : Int)) ∧
      w.frozen? ⟨r, 0, none⟩ = false ∧ w.frozen? ⟨r, 1, none⟩ = false ∧ w.frozen? ⟨r, 4, none⟩ = false := by
  simp [World.cell?, World.frozen?, h, B5]

def BookP (w : World) (G : Nat → Prop) (kb : Nat) (Ls : List (List UInt8)) : Prop :=
  ∃ V W n, w.heap[kb]? = some (.cells (B5 n V W) 50 (0, 0)) ∧ PL w G V W Ls ∧ G kb ∧ (∀ k, G k → k < w.heap.size) ∧ n ≤ 300000 ∧ Ls.length ≤ n ∧ ∀ l ∈ Ls, l.length ≤ 10000
theorem BookP.tn {w w' : World} {F G : Nat → Prop} {kb : Nat} {Ls : List (List UInt8)} (h : BookP w G kb Ls) (t : Tn F w w') (hd : ∀ k, G k → ¬ F k) : BookP w' G kb Ls := by
  obtain ⟨V, W, n, h1, h2, h3, h4, h5⟩ := h
  exact ⟨V, W, n, t.block h1 (hd kb h3), h2.tn t hd, h3, fun k hk => Nat.lt_of_lt_of_le (h4 k hk) t.size, h5⟩

theorem full_yes (w : World) (kb n : Nat) (V W : Value) (h : w.heap[kb]? = some (.cells (B5 n V W) 50 (0, 0))) (hn : 200000 < n) :
    Calls Try.prog 24 #[.pointer (some ⟨kb, 0, none⟩)] w fun e w' => e = .returned (.bool true) ∧ w' = w := by
  obtain ⟨_, _, _, _, h4, _⟩ := B5_cells h
  have hb : decide ((200000 : Int) < (n : Int)) = true := by simp; omega
  go_enter Try.func24, Try.ntmps24
  go_wp2_with fail
  go_ret
  exact ⟨rfl, rfl⟩
theorem full_no (w : World) (kb n : Nat) (V W : Value) (h : w.heap[kb]? = some (.cells (B5 n V W) 50 (0, 0))) (hn : n ≤ 200000) :
    Calls Try.prog 24 #[.pointer (some ⟨kb, 0, none⟩)] w fun e w' => e = .returned (.bool false) ∧ w' = w := by
  obtain ⟨_, _, _, _, h4, _⟩ := B5_cells h
  have hb : decide ((200000 : Int) < (n : Int)) = false := by simp; omega
  go_enter Try.func24, Try.ntmps24
  go_wp2_with fail
  go_ret
  exact ⟨rfl, rfl⟩

def Kept (w : World) (G : Nat → Prop) (kb : Nat) (v : Value) (e : Ending) (w' : World) : Prop :=
  e = .returned (.tuple #[]) ∧ ∃ Ls' G', BookP w' G' kb Ls' ∧ Tn G w w' ∧ Keep5 w w' ∧ ∀ k, G' k → G k ∨ v.ownBlock = some k ∨ w.heap.size ≤ k

theorem keep_full (w : World) (G : Nat → Prop) (kb : Nat) (Ls : List (List UInt8)) (v : Value) {V W : Value} {n : Nat} (h : BookP w G kb Ls) (h1 : w.heap[kb]? = some (.cells (B5 n V W) 50 (0, 0))) (hn : 200000 < n) :
    Calls Try.prog 21 #[.pointer (some ⟨kb, 0, none⟩), v] w (Kept w G kb v) := by
  have H := Lib.hid h
  clear h
  have H1 := Lib.hid h1
  clear h1
  go_enter Try.func21, Try.ntmps21
  go_wp2_with fail
  refine (full_yes w kb n V W H1.out hn).mono ?_
  rintro e w' ⟨rfl, rfl⟩
  go_wp2_with fail
  refine bodyPost_ret (results_none rfl _ _ _) rfl ?_
  exact ⟨rfl, Ls, G, H.out, Tn.refl _ _, Keep5.refl _, fun k hk => .inl hk⟩

set_option maxRecDepth 100000 in
set_option maxHeartbeats 2000000 in
theorem keep_room (w : World) (G : Nat → Prop) (kb : Nat) (Ls : List (List UInt8)) (v : Value) (l : List UInt8) {V W : Value} {n : Nat} (h1 : w.heap[kb]? = some (.cells (B5 n V W) 50 (0, 0))) (hpl : PL w G V W Ls) (gn : G kb) (gl : ∀ k, G k → k < w.heap.size)
    (hn : n ≤ 200000) (hln : Ls.length ≤ n) (hll : ∀ l ∈ Ls, l.length ≤ 10000) (hv : Row 0 w 5 v (cel l)) (hl : l.length ≤ 10000) (hd : ∀ k, v.ownBlock = some k → ¬ G k) :
    Calls Try.prog 21 #[.pointer (some ⟨kb, 0, none⟩), v] w (Kept w G kb v) := by
  obtain ⟨vs, ws, ow, hV, hW, e1, e2, hdd, gV, gW, g1, g2⟩ := hpl
  obtain ⟨A, c, e, hc⟩ := hv.src_form
  rw [cel_length] at e hc
  subst e
  obtain ⟨m, hm⟩ : ∃ m, n + l.length + 1 = m := ⟨_, rfl⟩
  have hx : (n : Int) + (l.length : Int) + 1 = (m : Int) := by omega
  obtain ⟨wA, hwA⟩ : ∃ wA, w.setCell ⟨kb, 4, none⟩ (.int .i64 ((n : Int) + (l.length : Int) + 1)) = wA := ⟨_, rfl⟩
  have hs1 : wA.heap[kb]? = some (.cells (B5 m V W) 50 (0, 0)) := by
    have := set_at (o := 4) h1 (.int .i64 ((n : Int) + (l.length : Int) + 1))
    rw [hwA, hx, B5_set4] at this
    exact this
  have hV1 : Row 0 wA 31 V vs := by rw [← hwA]; exact hV.store_off h1 (by decide) _
  have hW1 : Row 0 wA 31 W ws := by rw [← hwA]; exact hW.store_off h1 (by decide) _
  have hv1 : Row 0 wA 5 (.slice A l.length c) (cel l) := by rw [← hwA]; exact hv.store_off h1 (by decide) _
  have k51 : Keep5 w wA := fun k cs hk => by rw [← hwA]; exact (set_off _ (fun e => by rw [e, h1] at hk; cases hk)).trans hk
  have f1 : Ents wA ow (fun i => i + 1) vs Ls := e1.keep fun i v g cs _ _ hc => k51 g cs hc
  have f2 : Ents wA ow (fun _ => 0) ws Ls := e2.keep fun i v g cs _ _ hc => k51 g cs hc
  have t1 : Tn G w wA := by rw [← hwA]; exact Tn.set _ gn
  have z1 : wA.heap.size = w.heap.size := by rw [← hwA]; exact set_size _
  have glA : ∀ k, G k → k < wA.heap.size := by rw [z1]; exact gl
  obtain ⟨_, _, _, _, p4, _, _, q4⟩ := B5_cells h1
  obtain ⟨r0, r1, _, _, _, y0, y1, _⟩ := B5_cells hs1
  have hvs6 : vs.length ≤ 1000000 := by rw [e1.1]; omega
  have hws6 : ws.length ≤ 1000000 := by rw [e2.1]; omega
  have HH1 := Lib.hid h1
  have HS1 := Lib.hid hs1
  have HV1 := Lib.hid hV1
  have HW1 := Lib.hid hW1
  have Hv1 := Lib.hid hv1
  have HF1 := Lib.hid f1
  have HF2 := Lib.hid f2
  have HT1 := Lib.hid t1
  have HK1 := Lib.hid k51
  have HZ := Lib.hid z1
  have HGL := Lib.hid glA
  have HG1 := Lib.hid g1
  have HG2 := Lib.hid g2
  have HGV := Lib.hid gV
  have HGW := Lib.hid gW
  have HDD := Lib.hid hdd
  have HD := Lib.hid hd
  have HLL := Lib.hid hll
  have HX := Lib.hid hx
  have HM := Lib.hid hm
  have HWA := Lib.hid hwA
  clear h1 hs1 hV1 hW1 hv1 f1 f2 t1 z1 glA g1 g2 gV gW hdd hd hll hx hm hwA hV hW e1 e2 hv k51
  go_enter Try.func21, Try.ntmps21
  go_wp2_with fail
  refine (full_no w kb n V W HH1.out hn).mono ?_
  rintro e w' ⟨rfl, rfl⟩
  go_upto_region 2 with fail
  rw [HWA.out]
  go_wp2_with (at_builtin; first
    | (refine app_lists rfl (.tmp 21) (.tmp 23) rfl 0 vs [_] (HV1.out.below (alloc_below _ _)) (src_cells _ 31 _ 1 (Nat.le_refl _) (heap_alloc_new _ _)) (by intro u hu; rw [List.mem_singleton.1 hu]; rfl) (by simp; omega) (Nat.zero_le _) ?_
       intro v8 w8 hown8 hg8 hat8
       obtain ⟨x1, x2, x3, x4⟩ := half_facts (B5 m) 50 (B5_set0 m) (by decide) (by decide) HS1.out HV1.out HW1.out HDD.out HGV.out gn (Below.refl _ _) hown8 hg8 hat8
       obtain ⟨n0, n1, _, _, _, m0, m1, _⟩ := B5_cells x1
       obtain ⟨A8, c8, e8⟩ := hown8.slice
       rw [List.length_append, List.length_singleton] at e8
       subst e8
       have X2 := Lib.hid x2
       have X3 := Lib.hid x3
       have X4 := Lib.hid x4
       clear hown8 hg8 hat8 x1 x2 x3 x4))
  obtain ⟨W4, hW4⟩ : ∃ W4, w8.setCell ⟨kb, 0, none⟩ (.slice A8 (vs.length + 1) c8) = W4 := ⟨_, rfl⟩
  rw [hW4] at X2 X3 X4 ⊢
  obtain ⟨n0, n1, _, _, _, m0, m1, _⟩ := B5_cells X3.out
  clear hW4 n0 m0 p4 q4 r0 r1 y0 y1
  have HE := Lib.hid (row_empty 5 (Nat.le_refl W4.heap.size))
  have HR4 := Lib.hid (show Row 0 W4 5 (.slice A l.length c) (cel l) from Hv1.out.cells fun g cur _ hc => X4.out g cur hc)
  have HS := Lib.hid (show Src (W4.alloc (.cells #[] 5)) (.slice A l.length c) (cel l) from HR4.out.src.below (alloc_below _ _))
  obtain ⟨n2, m2⟩ := s_alloc (.cells #[] 5) ⟨n1, m1⟩
  go_region_law
    (first
    | (refine step_bytes (by rfl) (.tmp 32) (.tmp 33) (by rfl) W4.heap.size [] l _ _ (by rfl) (by rfl) HE.out HS.out (by simp; omega) (by show W4.heap.size ≤ (W4.alloc _).heap.size; rw [alloc_size]; omega) ?_
       intro v9 w9 hown9 hg9 hat9 hk9
       have hB9 : Below W4.heap.size W4 w9 := (alloc_below W4 (.cells #[] 5)).grown (grown_drew hg9) (by rw [alloc_size]; omega) (fun k e => by cases e; exact Nat.le_refl _)
       obtain ⟨s9, t9⟩ := s_below hB9 ⟨n1, m1⟩
       rw [List.nil_append] at hown9
       obtain ⟨A9, c9, e9⟩ := hown9.slice
       rw [cel_length] at e9
       subst e9
       obtain ⟨u9, x9⟩ := s_alloc (.cells #[.slice A9 l.length c9] 31) ⟨s9, t9⟩
       have HO9 := Lib.hid hown9
       have HB9 := Lib.hid hB9
       clear hown9 hg9 hat9 hk9 hB9)
    | (refine step_lists (by rfl) (.tmp 31) (.tmp 35) (by rfl) 0 ws [_] _ _ (by rfl) (by rfl) ((X2.out.row2.below HB9.out).below (alloc_below _ _)) (src_cells _ 31 _ 1 (Nat.le_refl _) (heap_alloc_new _ _)) (by intro u hu; rw [List.mem_singleton.1 hu]; rfl) (by simp; omega) (Nat.zero_le _) ?_
       intro v10 w10 hown10 hg10 hat10
       have LC := lend_close (B5 m) 50 (B5_set1 m) (by decide) (by decide) HF1.out HF2.out HG1.out HG2.out HGW.out HGL.out gn X2.out X3.out HR4.out HD.out HB9.out HO9.out rfl hown10 hg10 hat10 rfl
       obtain ⟨_, s10, _, _, _, _, t10, _⟩ := B5_cells LC.1
       obtain ⟨A10, c10, e10⟩ := hown10.slice
       rw [List.length_append, List.length_singleton] at e10
       subst e10
       have LC := Lib.hid LC.2
       clear hown10 hg10 hat10))
  all_goals
    obtain ⟨y1, y2, y3, y4, y5, y6⟩ := LC.out
    have hk5 := (HK1.out.trans X2.out.keep).trans y6
    go_wp2_with fail
    refine bodyPost_ret (results_none rfl _ _ _) rfl ?_
    refine ⟨rfl, _, _, ⟨_, _, m, y3, y2, .inl gn, y4, ?_, ?_, ?_⟩, HT1.out.trans y5, hk5, fun k hk => ?_⟩
    · have := HM.out
      omega
    · have := HM.out
      rw [List.length_append, List.length_singleton]
      omega
    · intro x hx
      rcases List.mem_append.1 hx with hx | hx
      · exact HLL.out x hx
      · rw [List.mem_singleton.1 hx]
        exact hl
    · have := HZ.out
      rcases hk with hk | hk | hk
      · exact .inl hk
      · exact .inr (.inl hk)
      · exact .inr (.inr (by omega))

/-- Book.Bytes. -/
theorem keep_any (w : World) (G : Nat → Prop) (kb : Nat) (Ls : List (List UInt8)) (v : Value) (l : List UInt8) (h : BookP w G kb Ls) (hv : Row 0 w 5 v (cel l)) (hl : l.length ≤ 10000) (hd : ∀ k, v.ownBlock = some k → ¬ G k) :
    Calls Try.prog 21 #[.pointer (some ⟨kb, 0, none⟩), v] w (Kept w G kb v) := by
  obtain ⟨V, W, n, h1, h2, h3, h4, h5, h6, h7⟩ := id h
  rcases Nat.lt_or_ge 200000 n with hn | hn
  · exact keep_full w G kb Ls v h h1 hn
  · exact keep_room w G kb Ls v l h1 h2 h3 h4 hn h6 h7 hv hl hd

end Go.Proofs.Ytjeeiaelicekhaa
