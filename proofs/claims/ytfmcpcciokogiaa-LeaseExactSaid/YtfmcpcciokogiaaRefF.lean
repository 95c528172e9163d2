/- The reference's Set. -/
import Derived.Test.YtfmcpcciokogiaaRefE
namespace Go.Proofs.Ytfmcpcciokogiaa
open Go.RowKit Fl

theorem ends_facts {B m : Nat} {w5 : World} {out : Value} {es : List Value} {f : Nat} (hm : w5.heap.size = m) (h : Row B w5 27 out es) (hB : B ≤ w5.heap.size) (hk : es.length ≤ 1000000000) :
    Row B (w5.alloc (.cells #[.float .f64 f] 27)) 27 out es ∧ Src (w5.alloc (.cells #[.float .f64 f] 27)) (.slice (some ⟨m, 0, none⟩) 1 1) [.float .f64 f] ∧ (∀ u ∈ [Value.float .f64 f], u.oneCell' = true) ∧
      (es.length + [Value.float .f64 f].length) * 8 ≤ 140737488355328 ∧ B ≤ (w5.alloc (.cells #[.float .f64 f] 27)).heap.size := by
  subst hm
  refine ⟨h.cells fun g cur _ hg => (Below.heap_alloc _ _ _ (Array.getElem?_eq_some_iff.1 hg).1).trans hg, src_cells _ 27 [.float .f64 f] 1 (Nat.le_refl _) (heap_alloc_new _ _), fun u hu => by rw [List.mem_singleton.1 hu]; rfl, by rw [List.length_singleton]; omega, by rw [alloc_size]; omega⟩
theorem keys_facts {B : Nat} {w5 : World} {out : Value} {es : List Value} {s : ByteArray} (h : Row B w5 9 out es) (hB : B ≤ w5.heap.size) (hk : es.length ≤ 1000000000) :
    Row B (w5.alloc (.cells #[.string s] 9)) 9 out es ∧ Src (w5.alloc (.cells #[.string s] 9)) (.slice (some ⟨w5.heap.size, 0, none⟩) 1 1) [.string s] ∧ (∀ u ∈ [Value.string s], u.oneCell' = true) ∧
      (es.length + [Value.string s].length) * 16 ≤ 140737488355328 ∧ B ≤ (w5.alloc (.cells #[.string s] 9)).heap.size := by
  refine ⟨h.cells fun g cur _ hg => (Below.heap_alloc _ _ _ (Array.getElem?_eq_some_iff.1 hg).1).trans hg, src_cells _ 9 [.string s] 1 (Nat.le_refl _) (heap_alloc_new _ _), fun u hu => by rw [List.mem_singleton.1 hu]; rfl, by rw [List.length_singleton]; omega, by rw [alloc_size]; omega⟩

theorem grow_keys {w w2 : World} {r : Nat} {G : Nat → Prop} {xs ys zs : List Value} {kv other v2 : Value} {o : Obj} (hr : w.heap[r]? = some (.cells #[kv, other] 59 (0, 0)))
    (hkv : Row 0 w 9 kv zs) (hoth : Row 0 w 27 other ys) (hGk : ∀ g, kv.ownBlock = some g → G g) (hGr : G r) (hg : (w.alloc o).grownBy w2 kv.ownBlock) (hown : Row 0 w2 9 v2 xs)
    (hat : v2.ownBlock = kv.ownBlock ∨ v2.ownBlock = some (w.heap.size + 1)) :
    w2.heap[r]? = some (.cells #[kv, other] 59 (0, 0)) ∧ ∃ A n c, v2 = .slice A n c ∧
      (w2.setCell ⟨r, 0, none⟩ (.slice A n c)).heap[r]? = some (.cells #[.slice A n c, other] 59 (0, 0)) ∧ Row 0 (w2.setCell ⟨r, 0, none⟩ (.slice A n c)) 9 (.slice A n c) xs ∧ Row 0 (w2.setCell ⟨r, 0, none⟩ (.slice A n c)) 27 other ys ∧
      (∀ g, (Value.slice A n c).ownBlock = some g → G g ∨ (w.heap.size ≤ g ∧ g < w2.heap.size)) ∧ Turned G w (w2.setCell ⟨r, 0, none⟩ (.slice A n c)) ∧ (w2.setCell ⟨r, 0, none⟩ (.slice A n c)).heap.size = w2.heap.size := by
  have h := grow_part true hr hkv hoth (by decide) (by decide) (by decide) hGk hg hown (by rw [alloc_size]; exact hat) hGr
  obtain ⟨A, c, e⟩ := hown.slice
  generalize xs.length = n at e
  subst e
  exact ⟨h.1, A, n, c, rfl, h.2⟩
theorem grow_ends {w w2 : World} {r m : Nat} {G : Nat → Prop} {xs ys zs : List Value} {kv other v2 : Value} {o : Obj} (hm : w.heap.size = m) (hr : w.heap[r]? = some (.cells #[other, kv] 59 (0, 0)))
    (hkv : Row 0 w 27 kv zs) (hoth : Row 0 w 9 other ys) (hGk : ∀ g, kv.ownBlock = some g → G g) (hGr : G r) (hg : (w.alloc o).grownBy w2 kv.ownBlock) (hown : Row 0 w2 27 v2 xs)
    (hat : v2.ownBlock = kv.ownBlock ∨ v2.ownBlock = some (m + 1)) :
    w2.heap[r]? = some (.cells #[other, kv] 59 (0, 0)) ∧ ∃ A n c, v2 = .slice A n c ∧
      (w2.setCell ⟨r, 1, none⟩ (.slice A n c)).heap[r]? = some (.cells #[other, .slice A n c] 59 (0, 0)) ∧ Row 0 (w2.setCell ⟨r, 1, none⟩ (.slice A n c)) 27 (.slice A n c) xs ∧ Row 0 (w2.setCell ⟨r, 1, none⟩ (.slice A n c)) 9 other ys ∧
      (∀ g, (Value.slice A n c).ownBlock = some g → G g ∨ (w.heap.size ≤ g ∧ g < w2.heap.size)) ∧ Turned G w (w2.setCell ⟨r, 1, none⟩ (.slice A n c)) ∧ (w2.setCell ⟨r, 1, none⟩ (.slice A n c)).heap.size = w2.heap.size := by
  have h := grow_part false hr hkv hoth (by decide) (by decide) (by decide) hGk hg hown (by rw [alloc_size, hm]; exact hat) hGr
  obtain ⟨A, c, e⟩ := hown.slice
  generalize xs.length = n at e
  subst e
  exact ⟨h.1, A, n, c, rfl, h.2⟩

theorem rset_nan (w : World) (p : Value) (s : ByteArray) (f : Nat) (hf : isNe f f = true) :
    Calls Try.prog 33 #[p, .string s, .float .f64 f] w fun e w' => e = .returned (.int .i64 1) ∧ w = w' := by
  go_enter Try.func33, Try.ntmps33
  go_wp2_with fail
  go_ret
  exact ⟨rfl, rfl⟩

set_option maxRecDepth 100000 in
set_option maxHeartbeats 4000000 in
theorem rset_any (w : World) (G : Nat → Prop) (r : Nat) (P : List Pr) (s : ByteArray) (f : Nat) (h : RP w G r P) (hl : P.length ≤ 100000) (hO : OneP P) (hf : isNe f f = false) :
    Calls Try.prog 33 #[.pointer (some ⟨r, 0, none⟩), .string s, .float .f64 f] w fun e w' => e = .returned (.int .i64 0) ∧ RP w' (fun k => G k ∨ (w.heap.size ≤ k ∧ k < w'.heap.size)) r (outP P s ++ [(s, f)]) ∧ Turned G w w' := by
  have HD := Lib.hid (rdrop_any w G r P s h hl hO)
  have hGr : G r := by
    obtain ⟨_, _, _, _, _, _, _, q, _⟩ := h
    exact q
  have A6g := Lib.hid (show ∀ k, G k → k < w.heap.size by
    obtain ⟨_, _, _, _, _, _, _, _, q⟩ := h
    exact q)
  clear h
  go_enter Try.func33, Try.ntmps33
  go_wp2_with fail
  refine HD.out.mono ?_
  rintro e w1 ⟨rfl, h1, t1⟩
  clear HD
  obtain ⟨kv, ev, a1, a2, a3, a4, a5, a6, a7⟩ := h1
  have hl1 : (outP P s).length ≤ 100000 := Nat.le_trans (List.length_filter_le _ _) hl
  generalize hP1 : outP P s = P1 at *
  have HF := Lib.hid (keys_facts (s := s) a2 (Nat.zero_le _) (by rw [kt_length]; omega))
  have HG := Lib.hid (fun w2 v2 => grow_keys (w := w1) (w2 := w2) (r := r) (v2 := v2) (xs := kt P1 ++ [.string s]) (o := .cells #[.string s] 9) a1 a2 a3 a4 a6)
  have A5 := Lib.hid a5
  have T1 := Lib.hid t1
  have q0 : (w1.alloc (.cells #[.string s] 9)).cell? ⟨r, 0, none⟩ = some kv := (World.cell?_of_block (Below.heap_alloc _ _ _ (Array.getElem?_eq_some_iff.1 a1).1)).trans (two_cells a1).1
  obtain ⟨q1, _⟩ := two_cells a1
  clear a1 a2 a3 a4 a5 a6 a7 t1
  go_wp2_with (at_builtin; refine app_texts rfl (.tmp 17) (.tmp 19) rfl 0 _ _ HF.out.1 HF.out.2.1 HF.out.2.2.1 HF.out.2.2.2.1 HF.out.2.2.2.2 ?_; refine Hid.out ?_)
  refine Lib.hid ?_
  intro v2 w2 hown2 hg2 hat2
  obtain ⟨b1, A2, n2, c2, rfl, b2, b3, b4, b5, b6, b7⟩ := HG.out w2 v2 hg2 hown2 hat2
  obtain ⟨p0, p1, p2, p3⟩ := two_cells b1
  have B2 := Lib.hid b2
  have B3 := Lib.hid b3
  have B4 := Lib.hid b4
  have B5 := Lib.hid b5
  have B6 := Lib.hid b6
  have B7 := Lib.hid b7
  clear hown2 hg2 hat2 b1 b2 b3 b4 b5 b6 b7 HF HG
  have B2' : (w2.setCell ⟨r, 0, none⟩ (.slice A2 n2 c2)).heap[r]? = some (.cells #[.slice A2 n2 c2, ev] 59 (0, 0)) := B2.out
  obtain ⟨r0, r1, f0, f1⟩ := two_cells B2'
  have B7' : (w2.setCell ⟨r, 0, none⟩ (.slice A2 n2 c2)).heap.size = w2.heap.size := B7.out
  have HF := Lib.hid (ends_facts (f := f) B7' B4.out (Nat.zero_le _) (by rw [et_length]; omega))
  have A5' : ∀ g, ev.ownBlock = some g → (fun k => G k ∨ w.heap.size ≤ k ∧ k < (w2.setCell ⟨r, 0, none⟩ (.slice A2 n2 c2)).heap.size) g := fun g q => by
    have h1 := (A5.out g q)
    rcases h1 with h1 | h1
    · exact .inl h1
    · have := T1.out.2.2.2.1
      have h2 := B6.out.2.2.2.1
      exact .inr ⟨h1.1, Nat.lt_of_lt_of_le h1.2 h2⟩
  have HG := Lib.hid (fun w4 v4 => grow_ends (w := (w2.setCell ⟨r, 0, none⟩ (.slice A2 n2 c2))) (w2 := w4) (r := r) (v2 := v4) (xs := et P1 ++ [.float .f64 f]) (o := .cells #[.float .f64 f] 27) B7' B2' B4.out B3.out A5' (.inl hGr))
  have q1' : ((w2.setCell ⟨r, 0, none⟩ (.slice A2 n2 c2)).alloc (.cells #[.float .f64 f] 27)).cell? ⟨r, 1, none⟩ = some ev := (World.cell?_of_block (Below.heap_alloc _ _ _ (Array.getElem?_eq_some_iff.1 B2').1)).trans r1
  clear B2' A5' q0 q1
  go_wp2_with (at_builtin; refine app_ends rfl (.tmp 27) (.tmp 29) rfl 0 _ _ HF.out.1 HF.out.2.1 HF.out.2.2.1 HF.out.2.2.2.1 HF.out.2.2.2.2 ?_; refine Hid.out ?_)
  refine Lib.hid ?_
  intro v4 w4 hown4 hg4 hat4
  obtain ⟨b1, A4, n4, c4, rfl, b2, b3, b4, b5, b6, b7⟩ := HG.out w4 v4 hg4 hown4 hat4
  obtain ⟨s0, s1, s2, s3⟩ := two_cells b1
  have D2 := Lib.hid b2
  have D3 := Lib.hid b3
  have D4 := Lib.hid b4
  have D5 := Lib.hid b5
  have D6 := Lib.hid b6
  have D7 := Lib.hid b7
  clear hown4 hg4 hat4 b1 b2 b3 b4 b5 b6 b7 HF HG
  generalize hw3 : w2.setCell ⟨r, 0, none⟩ (.slice A2 n2 c2) = w3 at *
  have z1 : w1.heap.size ≤ w3.heap.size := B6.out.2.2.2.1
  have z2 : w3.heap.size ≤ w4.heap.size := by
    have := D6.out.2.2.2.1
    have h2 := D7.out
    omega
  have hGs : w.heap.size ≤ w1.heap.size := T1.out.2.2.2.1
  have HRP := Lib.hid (show RP (w4.setCell ⟨r, 1, none⟩ (.slice A4 n4 c4)) (fun k => G k ∨ (w.heap.size ≤ k ∧ k < (w4.setCell ⟨r, 1, none⟩ (.slice A4 n4 c4)).heap.size)) r (P1 ++ [(s, f)]) from ⟨.slice A2 n2 c2, .slice A4 n4 c4, D2.out, by
      have : kt (P1 ++ [(s, f)]) = kt P1 ++ [.string s] := by simp [kt]
      rw [this]
      exact D4.out, by
      have : et (P1 ++ [(s, f)]) = et P1 ++ [.float .f64 f] := by simp [et]
      rw [this]
      exact D3.out, fun g q => by
      have d7 : (w4.setCell ⟨r, 1, none⟩ (.slice A4 n4 c4)).heap.size = w4.heap.size := D7.out
      rcases B5.out g q with (h1 | h1) | h1
      · exact .inl h1
      · exact .inr ⟨h1.1, by omega⟩
      · exact .inr ⟨by omega, by omega⟩, fun g q => by
      have d7 : (w4.setCell ⟨r, 1, none⟩ (.slice A4 n4 c4)).heap.size = w4.heap.size := D7.out
      rcases D5.out g q with (h1 | h1) | h1
      · exact .inl h1
      · exact .inr ⟨h1.1, by omega⟩
      · exact .inr ⟨by omega, by omega⟩, .inl hGr, fun k q => by
      have d7 : (w4.setCell ⟨r, 1, none⟩ (.slice A4 n4 c4)).heap.size = w4.heap.size := D7.out
      rcases q with q | q
      · have := A6g.out k q
        omega
      · exact q.2⟩)
  rw [← hP1] at HRP
  have HT := Lib.hid (show Turned G w (w4.setCell ⟨r, 1, none⟩ (.slice A4 n4 c4)) from (T1.out.step B6.out fun k hk q => by
      rcases q with q | q
      · exact q
      · omega).step D6.out fun k hk q => by
      rcases q with q | q
      · exact q
      · omega)
  go_wp2_with fail
  go_ret
  exact ⟨rfl, HRP.out, HT.out⟩

end Go.Proofs.Ytfmcpcciokogiaa
