/- Push and Pop of the row. -/
import Derived.Test.YtfmcpcciokogiaaDown
namespace Go.Proofs.Ytfmcpcciokogiaa
open Go.RowKit Fl

theorem Row.slice {B : Nat} {w : World} {e : TypeId} {v : Value} {xs : List Value} (h : Row B w e v xs) : ∃ A c, v = .slice A xs.length c := by
  rcases h.form with ⟨rfl, rfl⟩ | ⟨g, cap, cur, rfl, _⟩
  · exact ⟨none, 0, rfl⟩
  · exact ⟨_, _, rfl⟩
theorem Row.cells {B : Nat} {w w' : World} {e : TypeId} {v : Value} {xs : List Value} (h : Row B w e v xs) (hk : ∀ g cur, v.ownBlock = some g → w.heap[g]? = some (.cells cur e (0, 0)) → w'.heap[g]? = some (.cells cur e (0, 0))) : Row B w' e v xs := by
  rcases h.2 with h2 | ⟨g, cap, cur, h1, h2, h3, h4⟩
  · exact ⟨h.1, .inl h2⟩
  · exact ⟨h.1, .inr ⟨g, cap, cur, h1, h2, hk g cur (by rw [h1]; rfl) h3, h4⟩⟩
theorem Row.block {B : Nat} {w : World} {e : TypeId} {v : Value} {xs : List Value} (h : Row B w e v xs) {k : Nat} (hk : v.ownBlock = some k) : B ≤ k ∧ ∃ cs, w.heap[k]? = some (.cells cs e (0, 0)) := by
  rcases h.form with ⟨rfl, _⟩ | ⟨g, cap, cur, rfl, hB, hg, _⟩
  · cases hk
  · cases hk
    exact ⟨hB, _, hg⟩
theorem src_cells {w : World} (g : Nat) (e : TypeId) (xs : List Value) (c : Nat) (hc : xs.length ≤ c) (h : w.heap[g]? = some (.cells xs.toArray e (0, 0))) : Src w (.slice (some ⟨g, 0, none⟩) xs.length c) xs :=
  ⟨_, _, rfl, hc, fun _ => ⟨_, rfl, fun j u hj => by
    rw [addr_add]
    simp only [World.cell?, h, Nat.zero_add]
    simpa using hj⟩⟩

/-- An item that stands in no row yet. -/
def Lone (w : World) (z : It) (p : Int) : Prop := w.heap[z.blk]? = some (.cells #[.string z.key, .float .f64 z.fin, .int .u64 (z.turn : Int), .int .i64 p] 71 (0, 0))

theorem Turned.alloc {F : Nat → Prop} (w : World) (o : Obj) : Turned F w (w.alloc o) := ⟨rfl, rfl, rfl, by simp, fun k hk _ => Below.heap_alloc _ _ _ hk⟩
theorem Turned.grown {F : Nat → Prop} {w w' : World} {o : Option Nat} (h : w.grownBy w' o) (hF : ∀ g, o = some g → F g) : Turned F w w' :=
  ⟨h.os, h.tape, h.output, h.size, fun k hk hn => h.block k hk fun e => hn (hF k e.symm)⟩

theorem alloc_size (w : World) (o : Obj) : (w.alloc o).heap.size = w.heap.size + 1 := by simp

/-- What the append in Push asks for. -/
theorem push_facts {w : World} {F : Nat → Prop} {xs : List It} {rv : Value} {z : It} (hI : Items w F rv xs) (hzF : ¬ F z.blk) (hl : xs.length ≤ 1000000000) :
    Row 0 ((w.setCell ⟨z.blk, 3, none⟩ (.int .i64 (xs.length : Int))).alloc (.cells #[.pointer (some ⟨z.blk, 0, none⟩)] 68)) 68 rv (xs.map itv) ∧
      Src ((w.setCell ⟨z.blk, 3, none⟩ (.int .i64 (xs.length : Int))).alloc (.cells #[.pointer (some ⟨z.blk, 0, none⟩)] 68)) (.slice (some ⟨w.heap.size, 0, none⟩) 1 1) [itv z] ∧
      (∀ u ∈ [itv z], u.oneCell' = true) ∧ ((xs.map itv).length + [itv z].length) * 8 ≤ 140737488355328 := by
  refine ⟨hI.1.cells fun g cur hv hg => ?_, ?_, fun u hu => by rw [List.mem_singleton.1 hu]; rfl, by rw [List.length_map, List.length_singleton]; omega⟩
  · have hne : g ≠ z.blk := fun e => hzF (by rw [← e]; exact hI.2.1 g hv)
    have h1 := (set_off (o := 3) (.int .i64 (xs.length : Int)) hne).trans hg
    exact (Below.heap_alloc _ _ _ (Array.getElem?_eq_some_iff.1 h1).1).trans h1
  · have := heap_alloc_new (w.setCell ⟨z.blk, 3, none⟩ (.int .i64 (xs.length : Int))) (.cells #[.pointer (some ⟨z.blk, 0, none⟩)] 68)
    rw [set_size] at this
    exact src_cells w.heap.size 68 [itv z] 1 (Nat.le_refl _) this

/-- What Push leaves. -/
theorem push_after {w w8 : World} {F : Nat → Prop} {h : Nat} {xs : List It} {c1 c2 rv v8 : Value} {z : It} {p : Int} (hrv : w.heap[h]? = some (.cells #[rv, c1, c2] 66 (0, 0))) (hI : Items w F rv xs) (hFh : ¬ F h) (hz : Lone w z p) (hzF : ¬ F z.blk) (hnz : num z.fin)
    (hown : Row 0 w8 68 v8 (xs.map itv ++ [itv z])) (hg : ((w.setCell ⟨z.blk, 3, none⟩ (.int .i64 (xs.length : Int))).alloc (.cells #[.pointer (some ⟨z.blk, 0, none⟩)] 68)).grownBy w8 rv.ownBlock)
    (hat : v8.ownBlock = rv.ownBlock ∨ v8.ownBlock = some ((w.setCell ⟨z.blk, 3, none⟩ (.int .i64 (xs.length : Int))).alloc (.cells #[.pointer (some ⟨z.blk, 0, none⟩)] 68)).heap.size) :
    w8.heap[h]? = some (.cells #[rv, c1, c2] 66 (0, 0)) ∧ RowP (w8.setCell ⟨h, 0, none⟩ v8) (fun k => F k ∨ k = z.blk ∨ (w.heap.size ≤ k ∧ k < w8.heap.size)) h (xs ++ [z]) c1 c2 ∧ Turned (fun k => F k ∨ k = h ∨ k = z.blk) w (w8.setCell ⟨h, 0, none⟩ v8) := by
  rw [alloc_size, set_size] at hat
  have hhl := (Array.getElem?_eq_some_iff.1 hrv).1
  have hzl := (Array.getElem?_eq_some_iff.1 hz).1
  have hzh : h ≠ z.blk := fun e => by
    unfold Lone at hz
    rw [← e, hrv] at hz
    simp at hz
  have T1 : Turned (fun k => F k ∨ k = h ∨ k = z.blk) w ((w.setCell ⟨z.blk, 3, none⟩ (.int .i64 (xs.length : Int))).alloc (.cells #[.pointer (some ⟨z.blk, 0, none⟩)] 68)) := (Turned.set (F := fun k => F k ∨ k = h ∨ k = z.blk) _ (.inr (.inr rfl))).trans (Turned.alloc _ _)
  have T2 := T1.trans (Turned.grown hg (fun g e => .inl (hI.2.1 g e)))
  have keepNo : ∀ k (o : Obj), k < w.heap.size → k ≠ z.blk → rv.ownBlock ≠ some k → w.heap[k]? = some o → w8.heap[k]? = some o := fun k o hk h1 h2 hk2 => by
    have a1 := (set_off (o := 3) (.int .i64 (xs.length : Int)) h1).trans hk2
    have hk3 := (Array.getElem?_eq_some_iff.1 a1).1
    have a2 := (Below.heap_alloc (w.setCell ⟨z.blk, 3, none⟩ (.int .i64 (xs.length : Int))) (.cells #[.pointer (some ⟨z.blk, 0, none⟩)] 68) k hk3).trans a1
    exact (hg.block k (Array.getElem?_eq_some_iff.1 a2).1 (fun e => h2 e.symm)).trans a2
  have keepH : w8.heap[h]? = some (.cells #[rv, c1, c2] 66 (0, 0)) := keepNo h _ hhl hzh (fun e => hFh (hI.2.1 h e)) hrv
  have keepZ : w8.heap[z.blk]? = some (.cells (itc z xs.length) 71 (0, 0)) := by
    have a1 := set_at (o := 3) hz (.int .i64 (xs.length : Int))
    have hk3 := (Array.getElem?_eq_some_iff.1 a1).1
    have a2 := (Below.heap_alloc (w.setCell ⟨z.blk, 3, none⟩ (.int .i64 (xs.length : Int))) (.cells #[.pointer (some ⟨z.blk, 0, none⟩)] 68) z.blk hk3).trans a1
    exact (hg.block z.blk (Array.getElem?_eq_some_iff.1 a2).1 (fun e => hzF (hI.2.1 _ e.symm))).trans a2
  have hs8 : w.heap.size + 1 ≤ w8.heap.size := by
    have := hg.size
    rw [alloc_size, set_size] at this
    exact this
  have hblk8 : ∀ g, v8.ownBlock = some g → g ≠ h ∧ (F g ∨ g = z.blk ∨ (w.heap.size ≤ g ∧ g < w8.heap.size)) := fun g hv => by
    have h1 := (hown.block hv).2
    obtain ⟨cs, h1⟩ := h1
    refine ⟨fun e => by rw [e, keepH] at h1; simp at h1, ?_⟩
    rcases hat with h2 | h2
    · exact .inl (hI.2.1 g (by rw [← h2]; exact hv))
    · rw [hv] at h2
      injection h2 with h2
      exact .inr (.inr ⟨by omega, (Array.getElem?_eq_some_iff.1 h1).1⟩)
  refine ⟨keepH, ⟨v8, ?_, ⟨?_, fun g hv => (hblk8 g hv).2, fun i x hx => ?_⟩, ?_⟩, T2.trans (Turned.set (F := fun k => F k ∨ k = h ∨ k = z.blk) _ (.inr (.inl rfl)))⟩
  · exact set_at (o := 0) keepH v8
  · rw [List.map_append]
    exact hown.cells fun g cur hv hg' => (set_off _ (hblk8 g hv).1).trans hg'
  · rcases Nat.lt_or_ge i xs.length with hi | hi
    · rw [List.getElem?_append_left hi] at hx
      obtain ⟨b1, b2, b3⟩ := hI.2.2 i x hx
      have hxl := (Array.getElem?_eq_some_iff.1 b1).1
      have hxz : x.blk ≠ z.blk := fun e => hzF (by rw [← e]; exact b2)
      have hxh : x.blk ≠ h := fun e => hFh (by rw [← e]; exact b2)
      refine ⟨(set_off _ hxh).trans (keepNo _ _ hxl hxz (fun e => ?_) b1), .inl b2, b3⟩
      obtain ⟨cs, h1⟩ := (hI.1.block e).2
      rw [b1] at h1
      simp at h1
    · rw [List.getElem?_append_right hi] at hx
      have hi0 : i - xs.length = 0 := by
        have := (List.getElem?_eq_some_iff.1 hx).1
        simpa using this
      rw [hi0] at hx
      have : x = z := by simpa using hx.symm
      subst this
      have : i = xs.length := by omega
      subst this
      exact ⟨(set_off _ (Ne.symm hzh)).trans keepZ, .inr (.inl rfl), hnz⟩
  · rintro (h1 | h1 | h1)
    · exact hFh h1
    · exact hzh h1
    · omega

theorem ta_item (b : Nat) (w : World) : (Instr.typeAssert (.iface 68 (.pointer (some ⟨b, 0, none⟩))) 20 68 false).run Try.prog w = .ok (.pointer (some ⟨b, 0, none⟩)) w := by kernel_rfl

set_option maxHeartbeats 2000000 in
theorem push_row (w : World) (F : Nat → Prop) (h : Nat) (xs : List It) (c1 c2 : Value) (z : It) (p : Int) (hR : RowP w F h xs c1 c2) (hz : Lone w z p) (hzF : ¬ F z.blk) (hnz : num z.fin) (hl : xs.length ≤ 1000000000) :
    Calls Try.prog 63 #[.pointer (some ⟨h, 0, none⟩), .iface 68 (itv z)] w fun e w' => e = .returned (.tuple #[]) ∧
      RowP w' (fun k => F k ∨ k = z.blk ∨ (w.heap.size ≤ k ∧ k < w'.heap.size)) h (xs ++ [z]) c1 c2 ∧ Turned (fun k => F k ∨ k = h ∨ k = z.blk) w w' := by
  obtain ⟨rv, hrv, hI, hFh⟩ := hR
  have HF := Lib.hid (push_facts hI hzF hl)
  have HA := Lib.hid (fun w8 v8 a b c => push_after (w8 := w8) (v8 := v8) hrv hI hFh hz hzF hnz a b c)
  obtain ⟨A, c, rfl⟩ := hI.1.slice
  rw [List.length_map] at *
  have HB : Hid (((xs.map itv).length + [itv z].length) * 8 ≤ 140737488355328) := by
    have : ((xs.map itv).length + [itv z].length) * 8 ≤ 140737488355328 := by rw [List.length_map, List.length_singleton]; omega
    exact this
  obtain ⟨q0, q1, q2, f0, f1, f2⟩ := three hrv
  have hb3 : w.cell? ⟨z.blk, 3, none⟩ = some (.int .i64 p) ∧ w.frozen? ⟨z.blk, 3, none⟩ = false := by
    unfold Lone at hz
    simp [World.cell?, World.frozen?, hz]
  obtain ⟨z1, z2⟩ := hb3
  have hne : z.blk ≠ h := fun e => by
    unfold Lone at hz
    rw [e, hrv] at hz
    simp at hz
  have hne2 := Ne.symm hne
  unfold itv
  have ta := fun w => ta_item z.blk w
  clear hI hz hrv
  go_enter Try.func63, Try.ntmps63
  go_wp2_with (at_builtin; refine app_items rfl (.tmp 17) (.tmp 19) rfl 0 _ _ HF.out.1 HF.out.2.1 HF.out.2.2.1 HB.out (Nat.zero_le _) ?_; intro v8 w8 hown8 hg8 hat8; obtain ⟨k1, k2, k3⟩ := HA.out w8 v8 hown8 hg8 hat8; obtain ⟨A8, c8, rfl⟩ := hown8.slice; have K2 := Lib.hid k2; have K3 := Lib.hid k3; obtain ⟨p0, p1, p2, e0, e1, e2⟩ := three k1; clear k1 k2 k3 hown8 hg8 hat8 HF HA q0 q1 q2 f0 f1 f2; refine Hid.out ?_)
  refine Lib.hid ?_
  go_wp2_with fail
  refine bodyPost_end (results_none rfl _ _ _) rfl ?_
  have hL : (xs.map itv ++ [itv z]).length = xs.length + 1 := by simp
  have j2 := K2.out
  have j3 := K3.out
  rw [hL] at j2 j3
  refine ⟨rfl, ?_, j3⟩
  rw [set_size]
  exact j2

set_option maxHeartbeats 2000000 in
/-- The row without its last. -/
theorem pop_row (w : World) (F : Nat → Prop) (h : Nat) (xs : List It) (c1 c2 : Value) (z : It) (hR : RowP w F h (xs ++ [z]) c1 c2) (hl : xs.length ≤ 1000000000) :
    Calls Try.prog 62 #[.pointer (some ⟨h, 0, none⟩)] w fun e w' => e = .returned (.iface 68 (itv z)) ∧ RowP w' F h xs c1 c2 ∧ Turned (fun k => k = h) w w' ∧ w'.heap.size = w.heap.size := by
  obtain ⟨rv, hrv, hI, hFh⟩ := hR
  have hlen : (xs ++ [z]).length = xs.length + 1 := by simp
  obtain ⟨g, cap, cur, rfl, hg, hn, hm, hs, ht, hF⟩ := hI.row (by omega)
  rw [hlen] at hn ht hrv
  have hat := (hI.at (i := xs.length) (by omega))
  obtain ⟨_, _, e, a1, _⟩ := hat
  cases e
  have hzl : (xs ++ [z])[xs.length]'(by omega) = z := by simp
  rw [hzl] at a1
  simp only [itv] at a1
  obtain ⟨q0, q1, q2, f0, f1, f2⟩ := three hrv
  have hgh : g ≠ h := fun e => by
    rw [e, hrv] at hg
    simp at hg
  have hR2 : RowP (w.setCell ⟨h, 0, none⟩ (.slice (some ⟨g, 0, none⟩) xs.length cap)) F h xs c1 c2 := by
    refine ⟨_, set_at (o := 0) hrv _, ⟨?_, fun g' e => by cases e; exact hF, fun i x hx => ?_⟩, hFh⟩
    · refine row_mk (cur := cur) ((set_off _ hgh).trans hg) (by omega) hm hs ?_
      have h5 := congrArg (List.take xs.length) ht
      rw [List.take_take, Nat.min_eq_left (by omega), List.map_append, List.take_append_of_le_length (by simp)] at h5
      rw [h5]
      exact List.take_of_length_le (by simp)
    · have hil := (List.getElem?_eq_some_iff.1 hx).1
      obtain ⟨b1, b2, b3⟩ := hI.2.2 i x (by rw [List.getElem?_append_left hil]; exact hx)
      exact ⟨(set_off _ (fun e => hFh (by rw [← e]; exact b2))).trans b1, b2, b3⟩
  have HR2 := Lib.hid hR2
  clear hI hR2 ht hg hn
  unfold itv
  go_enter Try.func62, Try.ntmps62
  go_wp2_with fail
  go_ret
  refine ⟨rfl, HR2.out, Turned.set (F := fun k => k = h) _ rfl, set_size _⟩

end Go.Proofs.Ytfmcpcciokogiaa
