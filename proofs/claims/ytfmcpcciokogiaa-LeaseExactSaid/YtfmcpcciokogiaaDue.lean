/- Due. -/
import Derived.Test.YtfmcpcciokogiaaMin
namespace Go.Proofs.Ytfmcpcciokogiaa
open Go.RowKit Fl

def tv (l : List ByteArray) : List Value := l.map .string
theorem tv_length (l : List ByteArray) : (tv l).length = l.length := by simp [tv]

theorem Row.turned {B : Nat} {w w' : World} {e : TypeId} {v : Value} {xs : List Value} {H : Nat → Prop} (h : Row B w e v xs) (t : Turned H w w') (hd : ∀ k, H k → k < B) : Row B w' e v xs :=
  h.cells fun g cur hv hg => (t.2.2.2.2 g (Array.getElem?_eq_some_iff.1 hg).1 (fun q => by have := hd g q; have := (h.block hv).1; omega)).trans hg

/-- Behind a pop and the delete. -/
theorem HS.popped {w w3 w5 : World} {G F : Nat → Prop} {h T mb nm : Nat} {M : ByteArray → Option Nat} {xs ys L : List It} {x : It} (a2 : xs.Perm L) (a5 : nm ≤ T) (a6 : Holds M L) (a7 : Neat L T) (a8 : L.length ≤ T) (a9 : ∀ k, F k → G k) (a10 : G h) (a11 : G mb) (a12 : ¬ F mb) (a13 : ∀ k, G k → k < w.heap.size) (hmh : mb ≠ h)
    (p1 : (x :: ys).Perm xs) (p2 : Ord (rkf ys) ys.length) (p3 : RowP w3 F h ys (.map (some mb)) (.int .u64 (T : Int))) (p4 : Turned (fun k => F k ∨ k = h) w w3) (hM : OwnM w5 mb nm (fun k => if tx k = tx x.key then none else M k)) (hg : w3.grownBy w5 (some mb)) :
    HS w5 G h (without L x.key) T ∧ Turned G w w5 := by
  have t : Turned G w w5 := (p4.mono fun k hk => by
    rcases hk with hk | rfl
    · exact a9 k hk
    · exact a10).trans (Turned.grown hg fun g e => by cases e; exact a11)
  have hl := List.length_filter_le (fun y => !isKey x.key y) L
  refine ⟨⟨F, mb, nm, _, ys, p3.keep fun k hk hkl => hg.block k hkl ?_, tail_perm a2 a7 p1 rfl, p2, hM, a5, holds_drop a6, neat_without a7 _, Nat.le_trans hl a8, a9, a10, a11, a12, fun k hk => Nat.lt_of_lt_of_le (a13 k hk) t.2.2.2.1⟩, t⟩
  intro e
  have e := Option.some.inj e
  rcases hk with hk | hk
  · exact a12 (e ▸ hk)
  · exact hmh (e.symm.trans hk)

def rlen (w : World) (h : Nat) : Nat := match w.cell? ⟨h, 0, none⟩ with | some (.slice _ n _) => n | _ => 0

def DInv (w : World) (G : Nat → Prop) (h T N f : Nat) (L : List It) (out : Value) (wr : World) : Prop :=
  ∃ ks L' n, Row w.heap.size wr 9 out (tv ks) ∧ HS wr G h L' T ∧ L'.length ≤ n ∧ ks ++ (dueL n L' f).1 = (dueL N L f).1 ∧ (dueL n L' f).2 = (dueL N L f).2 ∧ Turned G w wr ∧ ks.length + L'.length ≤ N

theorem HS.rlen {w : World} {G : Nat → Prop} {h T : Nat} {L : List It} (k : HS w G h L T) : rlen w h = L.length := by
  obtain ⟨F, mb, nm, M, xs, a1, a2, _⟩ := k
  obtain ⟨A, c, hrv, _⟩ := a1.open
  simp [Ytfmcpcciokogiaa.rlen, (three hrv).1, a2.length_eq]

theorem texts_facts {B : Nat} {w5 : World} {out : Value} {ks : List ByteArray} {s : ByteArray} (h : Row B w5 9 out (tv ks)) (hB : B ≤ w5.heap.size) (hk : ks.length ≤ 1000000000) :
    Row B (w5.alloc (.cells #[.string s] 9)) 9 out (tv ks) ∧ Src (w5.alloc (.cells #[.string s] 9)) (.slice (some ⟨w5.heap.size, 0, none⟩) 1 1) [.string s] ∧ (∀ u ∈ [Value.string s], u.oneCell' = true) ∧
      ((tv ks).length + [Value.string s].length) * 16 ≤ 140737488355328 ∧ B ≤ (w5.alloc (.cells #[.string s] 9)).heap.size := by
  refine ⟨h.cells fun g cur _ hg => (Below.heap_alloc _ _ _ (Array.getElem?_eq_some_iff.1 hg).1).trans hg, src_cells _ 9 [.string s] 1 (Nat.le_refl _) (heap_alloc_new _ _), fun u hu => by rw [List.mem_singleton.1 hu]; rfl, by rw [tv_length, List.length_singleton]; omega, by rw [alloc_size]; omega⟩

set_option maxHeartbeats 4000000 in
theorem due_any (w : World) (G : Nat → Prop) (h T : Nat) (L : List It) (f : Nat) (k : HS w G h L T) (hT : T ≤ 100000000) :
    Calls Try.prog 15 #[.pointer (some ⟨h, 0, none⟩), .float .f64 f] w fun e w' => ∃ v, e = .returned v ∧ Row w.heap.size w' 9 v (tv (dueL L.length L f).1) ∧ HS w' G h (dueL L.length L f).2 T ∧ Turned G w w' := by
  obtain ⟨hG, _, hLT⟩ := k.parts
  have h0 : DInv w G h T L.length f L (.slice none 0 0) w := ⟨[], L, L.length, ⟨rfl, .inl ⟨rfl, rfl⟩⟩, k, Nat.le_refl _, rfl, rfl, Turned.refl G w, by simp⟩
  clear k
  go_enter Try.func15, Try.ntmps15
  go_wp2_with fail
  go_loopw [5] (fun out wr => DInv w G h T L.length f L out wr) (fun _ wr => rlen wr h)
  case atStart => exact h0
  case round =>
    clear h0
    obtain ⟨ks, L', n, hrow, hHS, hn, hd1, hd2, hT1, hkl⟩ := hrel
    have HR := Lib.hid hHS.rlen
    have HH := Lib.hid hHS
    obtain ⟨F, mb, nm, M, xs, a1, a2, a3, a4, a5, a6, a7, a8, a9, a10, a11, a12, a13⟩ := hHS
    have hxl := a2.length_eq
    cases hL : minOf L' with
    | none =>
      have he := minOf_none.1 hL
      have D0 : dueL n L' f = ([], L') := dueL_none hL
      rw [D0] at hd1 hd2
      obtain ⟨A, c, hrv, _⟩ := a1.open
      have hx0 : xs.length = 0 := by rw [hxl, he]; rfl
      rw [hx0] at hrv
      obtain ⟨q0, _⟩ := three hrv
      have HE1 := Lib.hid hd1
      have HE2 := Lib.hid hd2
      clear hrv hx0 hxl hd1 hd2 D0 he hL a1 a2 a3 a4 a6 a7
      go_wp2_with fail
      go_ret
      have hd1 := HE1.out
      rw [List.append_nil] at hd1
      have hd2 := HE2.out
      exact ⟨_, rfl, by rw [← hd1]; exact hrow, by rw [← hd2]; exact HH.out, hT1⟩
    | some x =>
      have hne : 0 < xs.length := by
        rw [hxl]
        exact List.length_pos_of_mem (minOf_mem hL)
      have hx0 : xs[0]? = some x := by
        rw [List.getElem?_eq_getElem hne]
        have := first_of a2 a7 a3 (List.getElem?_eq_getElem hne)
        rw [hL] at this
        exact this.symm
      obtain ⟨rv, hrv, hI, hFh⟩ := id a1
      obtain ⟨g, cap, cur, rfl, hg, hn2, _⟩ := hI.row hne
      obtain ⟨_, _, e, i1, _⟩ := hI.at hne
      cases e
      have hx0' : xs[0] = x := by
        rw [List.getElem?_eq_getElem hne] at hx0
        exact Option.some.inj hx0
      rw [hx0'] at i1
      simp only [itv] at i1
      obtain ⟨hxb, hFx, _⟩ := hI.2.2 0 x hx0
      obtain ⟨x0, x1, _⟩ := itc_cells hxb
      obtain ⟨q0, q1, q2, f0, f1, f2⟩ := three hrv
      have hneI : (0 : Int) < (xs.length : Int) := by omega
      cases hf : isLe x.fin f with
      | false =>
        have D0 : dueL n L' f = ([], L') := dueL_stop hL hf
        rw [D0] at hd1 hd2
        have HE1 := Lib.hid hd1
        have HE2 := Lib.hid hd2
        clear hrv hxl hd1 hd2 D0 hL a1 a2 a3 a4 a6 a7 hI hg hxb hx0 hx0'
        go_wp2_with fail
        go_ret
        have hd1 := HE1.out
        rw [List.append_nil] at hd1
        have hd2 := HE2.out
        exact ⟨_, rfl, by rw [← hd1]; exact hrow, by rw [← hd2]; exact HH.out, hT1⟩
      | true =>
        have hmh : mb ≠ h := fun e => by
          obtain ⟨D, ⟨es, c, hb, _⟩, _⟩ := a4
          rw [e, hrv] at hb
          simp at hb
        have HP := Lib.hid (hpop_any wr F h xs _ _ x a1 hx0 (by omega) a3)
        have ta := fun w => ta_item x.blk w
        have HXL := Lib.hid hxl
        have HLM := Lib.hid hL
        unfold itv ifc at HP
        clear a1 hrv hI hg hxb hx0 hx0' hxl hL
        go_wp2_with fail
        refine HP.out.mono ?_
        rintro e w3 ⟨rfl, ys, p1, p2, p3, p4, p5, p6⟩
        obtain ⟨A3, c3, hrv3, _⟩ := p3.open
        obtain ⟨r0, r1, _⟩ := three hrv3
        obtain ⟨y0, _⟩ := itc_cells p6
        have hmb : wr.heap.size = w3.heap.size := p5.symm
        have hM3 : OwnM w3 mb nm M := a4.keep (p4.2.2.2.2 mb (a13 mb a11) (by
          rintro (q | q)
          · exact a12 q
          · exact hmh q))
        have hxm : x.blk ≠ mb := fun e => a12 (e ▸ hFx)
        have hxks : x.key.size ≤ maxLen := (a7.2 x (minOf_mem HLM.out)).1
        have hM3d : OwnM w3.drew mb nm M := hM3.keep rfl
        obtain ⟨w5, kd, hM5, hg5⟩ := hM3d.del x.key hxks 0
        have KD := Lib.hid kd
        obtain ⟨hH5, hT5⟩ := HS.popped (w5 := w5) (w3 := w3) a2 a5 a6 a7 a8 a9 a10 a11 a12 a13 hmh p1 p2 p3 p4 hM5 ⟨hg5.os, hg5.tape, hg5.output, hg5.size, hg5.block⟩
        have hx5 : w5.cell? ⟨x.blk, 0, none⟩ = some (.string x.key) := by
          have : w5.heap[x.blk]? = _ := (hg5.block x.blk (Array.getElem?_eq_some_iff.1 p6).1 (fun e => hxm (Option.some.inj e))).trans p6
          exact (itc_cells this).1
        have hwr : w.heap.size ≤ wr.heap.size := hT1.2.2.2.1
        have hrow5 := hrow.turned hT5 hG
        have hs5 : wr.heap.size ≤ w5.heap.size := hT5.2.2.2.1
        have HF := Lib.hid (texts_facts (s := x.key) hrow5 (by omega) (by omega))
        have H5 := Lib.hid hH5
        have T5 := Lib.hid hT5
        have PR := Lib.hid p3
        have hD := dueL_go (n := n - 1) HLM.out hf
        have hlt := without_lt (minOf_mem HLM.out)
        have hn1 : n - 1 + 1 = n := by omega
        rw [hn1] at hD
        rw [hD] at hd1 hd2
        have HD1 := Lib.hid hd1
        have HD2 := Lib.hid hd2
        clear p1 p2 p3 p4 p5 p6 hrv3 hM3 hM3d kd hM5 hg5 hH5 hT5 a2 a3 a4 a6 a7 hmb hD hn1 hd1 hd2 HP hrow5 hxks q0 q1 q2 f0 f1 f2 x0 x1 i1
        go_wp2_with fail
        go_region_law (first | (refine step_del rfl (.tmp 35) (.tmp 39) rfl mb x.key rfl rfl KD.out ?_))
        all_goals
          go_wp2_with (at_builtin; refine app_texts rfl (.tmp 40) (.tmp 45) rfl w.heap.size _ _ HF.out.1 HF.out.2.1 HF.out.2.2.1 HF.out.2.2.2.1 HF.out.2.2.2.2 ?_; intro v8 w8 hown8 hg8 hat8; have HO := Lib.hid hown8; have HG := Lib.hid hg8; clear hown8 hg8 hat8; refine Hid.out ?_)
          refine Lib.hid ?_
          have t8 : Turned (fun k => w.heap.size ≤ k) w5 w8 := (Turned.alloc (F := fun k => w.heap.size ≤ k) _ _).trans (Turned.grown HG.out fun g e => by
            exact (HF.out.1.block e).1)
          have h8 := H5.out.keep t8 fun k h1 h2 => by have := hG k h1; omega
          have tt : Turned G w w8 := (hT1.trans T5.out).step t8 fun k h1 h2 => by
            have : w.heap.size ≤ k := h2
            omega
          have hlen := h8.rlen
          have HIN := Lib.hid (show DInv w G h T L.length f L v8 w8 from ⟨ks ++ [x.key], without L' x.key, n - 1, by
            have := HO.out
            simpa [tv] using this, h8, by omega, by rw [List.append_assoc]; exact HD1.out, HD2.out, tt, by rw [List.length_append, List.length_singleton]; omega⟩)
          have HLE := Lib.hid hlen
          clear t8 h8 tt hlen
          go_wp2_with fail
          refine ⟨HIN.out, ?_⟩
          rw [HLE.out, HR.out]
          exact hlt

end Go.Proofs.Ytfmcpcciokogiaa
