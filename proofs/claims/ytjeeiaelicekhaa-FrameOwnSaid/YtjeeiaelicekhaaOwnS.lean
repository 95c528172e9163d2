/- The iterator and Feed, with what lies in which block. -/
import Derived.Test.YtjeeiaelicekhaaTn
namespace Go.Proofs.Ytjeeiaelicekhaa
open Go.RowKit

attribute [local go_sem] Oper.semAt_some

/-- Payloads, each in a row of its own. -/
def Own (B : Nat) (w : World) (xs : List (Value × List UInt8)) : Prop :=
  (∀ x ∈ xs, Row B w 5 x.1 (cel x.2)) ∧ xs.Pairwise fun x y => ∀ k, x.1.ownBlock = some k → y.1.ownBlock ≠ some k
theorem Own.keep {B : Nat} {w w' : World} {xs : List (Value × List UInt8)} (h : Own B w xs) (k : Keep5 w w') : Own B w' xs :=
  ⟨fun x hx => (h.1 x hx).cells fun g cur _ hg => k g cur hg, h.2⟩

/-- A reader whose held bytes lie apart from the payloads xs. -/
def RdrO (w : World) (B r m : Nat) (L : List UInt8) (br : Bool) (xs : List (Value × List UInt8)) : Prop :=
  ∃ v, w.heap[r]? = some (.cells #[.int .u64 (m : Int), v, .bool br] 56 (0, 0)) ∧ Byt w v L ∧ (∀ k, v.ownBlock = some k → B ≤ k ∧ k < w.heap.size ∧ ∀ x ∈ xs, x.1.ownBlock ≠ some k) ∧ Own B w xs
theorem RdrO.rdr {w : World} {B r m : Nat} {L : List UInt8} {br : Bool} {xs : List (Value × List UInt8)} (h : RdrO w B r m L br xs) : Rdr w r m L br := by
  obtain ⟨v, h1, h2, _⟩ := h
  exact ⟨v, h1, h2⟩
theorem RdrO.kp {A A' : World} {B r m : Nat} {L : List UInt8} {br : Bool} {xs : List (Value × List UInt8)} (h : RdrO A B r m L br xs) (k : Kp r A A') : RdrO A' B r m L br xs := by
  obtain ⟨v, h1, h2, h3, h4⟩ := h
  exact ⟨v, k.1.trans h1, h2.keep k.2.1, fun j hj => ⟨(h3 j hj).1, Nat.lt_of_lt_of_le (h3 j hj).2.1 k.2.2, (h3 j hj).2.2⟩, h4.keep k.2.1⟩
theorem RdrO.book {A A' : World} {B B' r m : Nat} {L : List UInt8} {br : Bool} {xs : List (Value × List UInt8)} (h : RdrO A B r m L br xs) (hb : Book B' A A') : RdrO A' B r m L br xs := by
  obtain ⟨v, h1, h2, h3, h4⟩ := h
  exact ⟨v, book_cells hb h1, h2.keep (book_keep5 hb), fun j hj => ⟨(h3 j hj).1, Nat.lt_of_lt_of_le (h3 j hj).2.1 (book_size hb), (h3 j hj).2.2⟩, h4.keep (book_keep5 hb)⟩

def S2 (B r m : Nat) (L : List UInt8) (xs : List (Value × List UInt8)) (W : World) : Prop := xs.map (·.2) = (parse m L).1 ∧ RdrO W B r m (parse m L).2.1 (parse m L).2.2 xs
theorem S2.s {B r m : Nat} {L : List UInt8} {xs : List (Value × List UInt8)} {W : World} (h : S2 B r m L xs W) : S r m L xs W := ⟨h.1, h.2.rdr⟩
def Inv2 (B r m : Nat) (L : List UInt8) (J : List (Value × List UInt8) → World → Prop) (wr : World) : Prop :=
  ∃ pre L', J pre wr ∧ RdrO wr B r m L' false pre ∧ pre.map (·.2) ++ (parse m L').1 = (parse m L).1 ∧ (parse m L').2 = (parse m L).2 ∧ 4 * pre.length + L'.length ≤ L.length

theorem aside2 {A B1 : World} {B r m b : Nat} {L L2 p : List UInt8} {V2 v1 : Value} {o1 : Nat} {c1 n1 : Nat} {pre : List (Value × List UInt8)} {q : World → Prop} (hR : RdrO A B r m L false pre)
    (hv : A.cell? ⟨r, 1, none⟩ = some (.slice (some ⟨b, o1, none⟩) n1 c1)) (h2 : V2.ownBlock = some b) (hAB : B ≤ A.heap.size)
    (hB : Below A.heap.size A B1) (h : Byt B1 V2 L2) (hrow : Row A.heap.size B1 5 v1 (cel p))
    (hq : Turn r A (B1.setCell ⟨r, 1, none⟩ V2) → q (B1.setCell ⟨r, 1, none⟩ V2)) :
    RdrO (B1.setCell ⟨r, 1, none⟩ V2) B r m L2 false (pre ++ [(v1, p)]) ∧ Keep5 B1 (B1.setCell ⟨r, 1, none⟩ V2) ∧ q (B1.setCell ⟨r, 1, none⟩ V2) := by
  obtain ⟨V, hr, hV, hb, hO⟩ := id hR
  have hrw := (Array.getElem?_eq_some_iff.1 hr).1
  have hr1 := (hB.block r hrw).trans hr
  rw [(three hr).2.1] at hv
  injection hv with hv
  subst hv
  obtain ⟨hb1, hb2, hb3⟩ := hb b rfl
  obtain ⟨h4, h5, h6⟩ := aside hR.rdr hB hr1 h hq
  obtain ⟨hlt, hcs⟩ := Array.getElem?_eq_some_iff.1 hr1
  have s2 := (set_heap hr1 V2).1
  refine ⟨⟨V2, s2, h.keep h5, fun k hk => ?_, ⟨fun x hx => ?_, ?_⟩⟩, h5, h6⟩
  · rw [h2] at hk
    cases hk
    refine ⟨hb1, by rw [set_size]; exact Nat.lt_of_lt_of_le hb2 hB.size, fun x hx => ?_⟩
    rcases List.mem_append.1 hx with hx | hx
    · exact hb3 x hx
    · rw [List.mem_singleton.1 hx]
      intro e
      have := (hrow.block e).1
      omega
  · rcases List.mem_append.1 hx with hx | hx
    · exact ((hO.1 x hx).below hB).cells fun g cur _ hg => h5 g cur hg
    · rw [List.mem_singleton.1 hx]
      exact (hrow.base fun k hk => Nat.le_trans hAB (hrow.block hk).1).cells fun g cur _ hg => h5 g cur hg
  · rw [List.pairwise_append]
    refine ⟨hO.2, List.pairwise_singleton _ _, fun x hx y hy k hk e => ?_⟩
    rw [List.mem_singleton.1 hy] at e
    have h1 := (hrow.block e).1
    have h2 := (hO.1 x hx).lt hk
    omega

set_option maxRecDepth 100000 in
set_option maxHeartbeats 2000000 in
theorem whole_seq2 (n B r m : Nat) (L : List UInt8) :
    SeqT Fence.wide n Try.prog 23 (.pointer (some ⟨r, 0, none⟩)) (fun x : Value × List UInt8 => #[x.1]) (Kp r) (Turn r) G (S2 B r m L) (L.length + 1) (fun W => RdrO W B r m L false [] ∧ B ≤ W.heap.size) := by
  intro l J W hW0 hJ hY h0
  refine callsIn_of_wp Try.func23 rfl trivial ?_ rfl
  simp only [Try.ntmps23, List.size_toArray, List.length_cons, List.length_nil, Nat.reduceAdd, Nat.reduceSub, Array.replicate_succ, Array.replicate_zero, List.push_toArray, List.append_toArray, List.nil_append, List.cons_append]
  gi_wp2
  gi_loopw [] (fun wr => Inv2 B r m L J wr ∧ B ≤ wr.heap.size) (fun wr => hlen wr r)
  case atStart => exact ⟨⟨[], L, h0, hW0.1, rfl, rfl, by simp⟩, hW0.2⟩
  case round =>
    obtain ⟨⟨pre, L', hJ1, hO, hp1, hp2, hlen⟩, hBs⟩ := hrel
    have hR := hO.rdr
    clear hW0 h0
    by_cases c1 : L'.length < 4
    · gi_wp2_with (refine ⟨trivial, fun h => (by cases h), ?_⟩; refine (callsIn_wide.2 (length_short _ r m L' false hR c1)).mono ?_; rintro e w' ⟨rfl, rfl⟩)
      refine bodyPost_ret (results_none rfl _ _ _) rfl ?_
      rw [parse_short c1] at hp1 hp2
      exact ⟨⟨_, rfl⟩, pre, ⟨by simpa using hp1, by rw [← hp2]; exact hO⟩, hJ1⟩
    · have hk4 : num (L'.take 4) < 4294967296 := by
        have := num_lt (L'.take 4)
        rwa [List.length_take, Nat.min_eq_left (by omega)] at this
      have hL := length_long _ r m L' false hR (by omega)
      obtain ⟨v, hr, hv⟩ := id hR
      obtain ⟨b, off, c, rfl, _⟩ := hv.at 0 (by omega)
      obtain ⟨q0, q1, q2, f0, f1, f2⟩ := three hr
      obtain ⟨_, _, e, hc, hcm, _⟩ := id hv
      cases e
      obtain ⟨d, hd⟩ : ∃ d, L'.length = d + 4 := ⟨L'.length - 4, by omega⟩
      have w1 : RowKit.wrap64 ((L'.length : Int) - 4) = (d : Int) := by
        rw [hd]
        simp only [RowKit.wrap64, maxLen] at *
        omega
      have w2 : IntKind.u64.wrap (d : Int) = (d : Int) := wrap64 _ (by simp only [maxLen] at *; omega)
      have c0 : (4 : Int) ≤ (L'.length : Int) := by omega
      by_cases c2 : m < num (L'.take 4)
      · generalize hk : num (L'.take 4) = k at *
        have hK := Lib.hid hk
        clear hk
        gi_wp2_with (refine ⟨trivial, fun h => (by cases h), ?_⟩; refine (callsIn_wide.2 hL).mono ?_; rintro e w' ⟨rfl, rfl⟩)
        refine bodyPost_ret (results_none rfl _ _ _) rfl ?_
        have s1 := (set_heap hr (.bool true)).2
        have s2 := (set_heap s1 (.slice none 0 0)).1
        rw [parse_big c1 (by rw [hK.out]; exact c2)] at hp1 hp2
        refine ⟨⟨_, rfl⟩, pre, ⟨by simpa using hp1, ?_⟩, hJ _ _ _ hJ1 ⟨grown_trans (set_grown _ _ _ _) (set_grown _ _ _ _), ⟨_, hr⟩, ⟨_, s2⟩⟩⟩
        rw [← hp2]
        obtain ⟨_, _, _, _, hOw⟩ := hO
        exact ⟨_, s2, (row_none 0 _ 5).byt, (fun k e => by cases e), hOw.keep ((keep5_grown (set_grown _ _ _ _) (Is56.not5 ⟨_, hr⟩)).trans (keep5_grown (set_grown _ _ _ _) (Is56.not5 ⟨_, s1⟩)))⟩
      · by_cases c3 : L'.length - 4 < num (L'.take 4)
        · rw [parse_part c1 c2 c3] at hp1 hp2
          generalize hk : num (L'.take 4) = k at *
          clear hk
          have c4 : d < k := by omega
          have hD := Lib.hid hd
          clear hd
          gi_wp2_with (refine ⟨trivial, fun h => (by cases h), ?_⟩; refine (callsIn_wide.2 hL).mono ?_; rintro e w' ⟨rfl, rfl⟩)
          refine bodyPost_ret (results_none rfl _ _ _) rfl ?_
          exact ⟨⟨_, rfl⟩, pre, ⟨by simpa using hp1, by rw [← hp2]; exact hO⟩, hJ1⟩
        · rw [parse_one c1 c2 c3] at hp1 hp2
          have hkl : 4 + num (L'.take 4) ≤ L'.length := by omega
          have b1 := hv.part 4 (num (L'.take 4)) hkl
          have b2 := hv.tail (4 + num (L'.take 4)) hkl
          generalize hk : num (L'.take 4) = k at *
          clear hk
          have c4 : ¬ d < k := by omega
          have hpl : ((L'.drop 4).take k).length = k := by rw [List.length_take, List.length_drop]; omega
          generalize hp : (L'.drop 4).take k = p at *
          have HP := Lib.hid hpl
          clear hp hpl
          have hD := Lib.hid hd
          clear hd
          have key : (c = 4 ∧ k = 0) ∨ (c ≠ 4 ∧ c = 4 + k) ∨ (c ≠ 4 ∧ c ≠ 4 + k) := by omega
          rcases key with ⟨rfl, rfl⟩ | ⟨k1, rfl⟩ | ⟨k1, k2⟩
          all_goals
            gi_wp2_with (first
              | (refine ⟨trivial, fun h => (by cases h), ?_⟩; refine (callsIn_wide.2 hL).mono ?_; rintro e w' ⟨rfl, rfl⟩)
              | (gi_at_builtin; refine app_bytes_in rfl (.const (.slice none 0 0)) (.tmp 49) rfl w'.heap.size [] p (row_none _ _ _) (by refine Byt.src ?_; simp [Act.eval]; refine b1 _ _ ?_ ?_ ?_ <;> first | omega | exact .inl trivial) (by have := HP.out; rw [List.length_nil]; omega) (Nat.le_refl _) ?_; intro v1 w1 hown1 hg1 hat1; rw [List.nil_append] at hown1; refine Hid.out ?_))
          all_goals
            refine Lib.hid ?_
            have hB1 : Below w'.heap.size w' w1 := (Below.refl _ _).grown hg1 (Nat.le_refl _) (fun k e => by simp [Act.eval, Value.ownBlock] at e)
            have hr1 := (hB1.block r (Array.getElem?_eq_some_iff.1 hr).1).trans hr
            obtain ⟨p0, p1, p2, g0, g1, g2⟩ := three hr1
            have HQ0 := Lib.hid q1
            clear hr q0 q1 q2 f0 f1 f2 hg1 hat1 hL
            gi_wp2
          · have hV : Byt w1 (.slice (some ⟨b, off, none⟩) 0 0) (L'.drop (4 + 0)) := by
              rw [List.drop_eq_nil_of_le (by omega)]
              exact byt_nil _ _ _ (Nat.zero_le _)
            obtain ⟨h1, h2, h3⟩ := aside2 hO HQ0.out rfl hBs hB1 hV hown1 (hJ pre w' _ hJ1)
            have hBs2 : B ≤ (w1.setCell ⟨r, 1, none⟩ (.slice none 0 0)).heap.size := by rw [set_size]; exact Nat.le_trans hBs hB1.size
            rw [set_size] at hBs2
            obtain ⟨fn, tmps, assign, body, hy, hRd⟩ := hY pre (v1, p) _ h3 (hown1.byt.keep h2) (by omega)
            dsimp only at hy
            rw [hy]
            gi_wp2
            refine ⟨fun h => (by cases h), hRd.mono ?_⟩
            rintro e W' ⟨rfl, hJ', hk⟩
            gi_wp2
            go_roundw
            case rel => exact ⟨⟨pre ++ [(v1, p)], L'.drop (4 + 0), hJ', h1.kp hk, by rw [List.map_append, List.append_assoc]; exact hp1, by rw [← hp2], by rw [List.length_append, List.length_drop, List.length_singleton]; omega⟩, by have := hk.2.2; rw [set_size] at this; omega⟩
            case measure => rw [(h1.kp hk).rdr.hlen, hR.hlen, List.length_drop]; omega
          · have hV : Byt w1 (.slice (some ⟨b, off, none⟩) 0 0) (L'.drop (4 + k)) := by
              rw [List.drop_eq_nil_of_le (by omega)]
              exact byt_nil _ _ _ (Nat.zero_le _)
            obtain ⟨h1, h2, h3⟩ := aside2 hO HQ0.out rfl hBs hB1 hV hown1 (hJ pre w' _ hJ1)
            have hBs2 : B ≤ (w1.setCell ⟨r, 1, none⟩ (.slice none 0 0)).heap.size := by rw [set_size]; exact Nat.le_trans hBs hB1.size
            rw [set_size] at hBs2
            obtain ⟨fn, tmps, assign, body, hy, hRd⟩ := hY pre (v1, p) _ h3 (hown1.byt.keep h2) (by omega)
            dsimp only at hy
            rw [hy]
            gi_wp2
            refine ⟨fun h => (by cases h), hRd.mono ?_⟩
            rintro e W' ⟨rfl, hJ', hk⟩
            gi_wp2
            go_roundw
            case rel => exact ⟨⟨pre ++ [(v1, p)], L'.drop (4 + k), hJ', h1.kp hk, by rw [List.map_append, List.append_assoc]; exact hp1, by rw [← hp2], by rw [List.length_append, List.length_drop, List.length_singleton]; omega⟩, by have := hk.2.2; rw [set_size] at this; omega⟩
            case measure => rw [(h1.kp hk).rdr.hlen, hR.hlen, List.length_drop]; omega
          · have hV : Byt w1 (.slice (some ⟨b, off + (4 + k), none⟩) (L'.length - (4 + k)) (c - (4 + k))) (L'.drop (4 + k)) := (b2 _ _ (.inr rfl) (by omega) (by omega)).keep (keep5_below hB1)
            obtain ⟨h1, h2, h3⟩ := aside2 hO HQ0.out rfl hBs hB1 hV hown1 (hJ pre w' _ hJ1)
            have hBs2 : B ≤ (w1.setCell ⟨r, 1, none⟩ (.slice none 0 0)).heap.size := by rw [set_size]; exact Nat.le_trans hBs hB1.size
            rw [set_size] at hBs2
            obtain ⟨fn, tmps, assign, body, hy, hRd⟩ := hY pre (v1, p) _ h3 (hown1.byt.keep h2) (by omega)
            dsimp only at hy
            rw [hy]
            gi_wp2
            refine ⟨fun h => (by cases h), hRd.mono ?_⟩
            rintro e W' ⟨rfl, hJ', hk⟩
            gi_wp2
            go_roundw
            case rel => exact ⟨⟨pre ++ [(v1, p)], L'.drop (4 + k), hJ', h1.kp hk, by rw [List.map_append, List.append_assoc]; exact hp1, by rw [← hp2], by rw [List.length_append, List.length_drop, List.length_singleton]; omega⟩, by have := hk.2.2; rw [set_size] at this; omega⟩
            case measure => rw [(h1.kp hk).rdr.hlen, hR.hlen, List.length_drop]; omega


set_option maxRecDepth 100000 in
set_option maxHeartbeats 2000000 in
theorem feed_ok2 (w : World) (r m : Nat) (L b : List UInt8) (v : Value) (h : Rdr w r m L false) (hv : Src w v (cel b)) (hL : L.length ≤ 1000000000) (hb : b.length ≤ 1000000000) (hrw : r < w.heap.size) :
    Calls Try.prog 11 #[.pointer (some ⟨r, 0, none⟩), v] w fun e w' => ∃ u xs, e = .returned (.tuple #[u, .int .i64 (Err (parse m (L ++ b)).2.2)]) ∧ Lst w.heap.size w' u xs ∧ S2 w.heap.size r m (L ++ b) xs w' ∧ w.grownBy w' (some r) := by
  obtain ⟨V, hr, hV⟩ := id h
  obtain ⟨A, c, rfl, hc, hcm, hA⟩ := id hV
  obtain ⟨A', c', rfl, hc', hA'⟩ := id hv
  clear hA hA'
  simp only [cel_length] at hv hc'
  obtain ⟨q0, q1, q2, f0, f1, f2⟩ := three hr
  rw [cel_length]
  refine (callsIn_wide (n := 5)).1 ?_
  refine callsIn_of_wp_marks Try.func11 rfl trivial ?_ rfl
  simp only [Try.ntmps11, List.size_toArray, List.length_cons, List.length_nil, Nat.reduceAdd, Nat.reduceSub, Array.replicate_succ, Array.replicate_zero, List.push_toArray, List.append_toArray, List.nil_append, List.cons_append]
  gi_wp2_with (gi_at_builtin; first
    | (refine app_bytes_in rfl (.const (.slice none 0 0)) (.tmp 16) rfl w.heap.size [] L (row_none _ _ _) hV.src (by simp; omega) (Nat.le_refl _) ?_
       intro v1 w1 hown1 hg1 hat1
       have hB1 : Below w.heap.size w w1 := (Below.refl w.heap.size w).grown hg1 (Nat.le_refl _) (fun k e => by simp [Act.eval, Value.ownBlock] at e))
    | (refine app_bytes_in rfl (.tmp 17) (.tmp 18) rfl w.heap.size L b hown1 (hv.below hB1) (by omega) hB1.size ?_
       intro v2 w2 hown2 hg2 hat2
       have hB2 : Below w.heap.size w w2 := hB1.grown hg2 hB1.size hown1.own_ge
       have hr2 := (hB2.block r hrw).trans hr
       clear hg1 hat1 hg2 hat2
       obtain ⟨p0, p1, p2, g0, g1, g2⟩ := three hr2
       obtain ⟨A2, c2, rfl⟩ := hown2.slice))
  rw [cel_length] at hown2 ⊢
  have hMl : (L ++ b).length ≤ 2000000000 := by rw [List.length_append]; omega
  generalize hLb : L ++ b = M at *
  have hbt : Byt w2 (.slice A2 M.length c2) M := hown2.byt
  have hw12 : w.heap.size ≤ w2.heap.size := hB2.size
  obtain ⟨W1, hW1⟩ : ∃ W1, w2.setCell ⟨r, 1, none⟩ (.slice A2 M.length c2) = W1 := ⟨_, rfl⟩
  have s2 := (set_heap hr2 (.slice A2 M.length c2)).1
  rw [hW1] at s2 ⊢
  have hs1 : W1.heap.size = w2.heap.size := by rw [← hW1]; simp [World.setCell]
  have hk1 : Keep5 w2 W1 := by rw [← hW1]; exact keep5_grown (set_grown _ _ _ _) (Is56.not5 ⟨_, hr2⟩)
  have hg1 : w.grownBy W1 (some r) := by rw [← hW1]; exact grown_trans (grown_below hB2) (set_grown _ _ _ _)
  have hR1 : RdrO W1 w.heap.size r m M false [] := ⟨_, s2, hbt.keep hk1, fun k hk => ⟨(hown2.block hk).1, by rw [hs1]; exact hown2.lt hk, by simp⟩, by simp, List.Pairwise.nil⟩
  rw [← hs1] at hw12 ⊢
  obtain ⟨W2, hW2⟩ : ∃ W2, W1.alloc (.cells #[.slice none 0 0] 22) = W2 := ⟨_, rfl⟩
  have hs2 : W2.heap.size = W1.heap.size + 1 := by rw [← hW2]; simp
  have bk : Book 0 W1 W2 := .inl ⟨_, hW2.symm⟩
  have hR2 := hR1.book bk
  have hM : Mid w r W1.heap.size W2.heap.size [] W2 :=
    ⟨⟨_, by rw [← hW2]; exact Boxed.new _ _ _, row_none _ _ _⟩, by simp, by rw [← hW2]; exact grown_trans hg1 (grown_below (alloc_below _ _)), hR2.rdr.is56, Nat.le_refl _⟩
  rw [hW2]
  have HLb := Lib.hid hLb
  clear hLb hs1 hW1 s2 hk1 hg1 hR1 bk hbt hown2 hB2 hr2 p0 p1 p2 g0 g1 g2 hown1 hB1 hr h q0 q1 q2 f0 f1 f2 hv hV hW2
  refine wpIn_rangeFunc_T (T := Turn r) (G := G) (S := S2 w.heap.size r m M) (Kp := Kp r) (W0 := fun W => RdrO W w.heap.size r m M false [] ∧ w.heap.size ≤ W.heap.size) (N := M.length + 1) (gf := 23) (rc := .pointer (some ⟨r, 0, none⟩)) rfl (by omega) rfl trivial
    (enters_of Try.func23 (by kernel_rfl) rfl) (whole_seq2 4 w.heap.size r m M) (fun h k => ⟨k.1.trans h.1, h.2.1.trans k.2.1, Nat.le_trans h.2.2 k.2.2⟩)
    (fun {A l o o'} hl h ho => ⟨World.putObj_heap_other (by omega), book_keep5 (B := 0) (.inr ⟨l, o, o', Nat.zero_le _, h, ho, rfl⟩), by simp⟩)
    (fun {A B} h k o hk ho => ?_) (fun h k => h.keep (book_keep5 k)) (fun h k => ⟨h.1, h.2.book k⟩) (fun h k => ⟨h.1.book k, Nat.le_trans h.2 (book_size k)⟩) ⟨hR2, by omega⟩ (fun _ => rfl)
    (Mid w r W1.heap.size W2.heap.size) (fun h k => h.book k (by omega)) (fun h k => h.turn k hrw hw12) hM
    (fun x => { tmps := #[.pointer (some ⟨r, 0, none⟩), .slice A' b.length c', undef, undef, .slice none 0 0, .int .i64 0, .pointer (some ⟨W1.heap.size, 0, none⟩), x.1, .pointer (some ⟨r, 0, none⟩), .pointer (some ⟨r, 0, none⟩), .pointer (some ⟨r, 2, none⟩), .bool false, .pointer (some ⟨r, 0, none⟩), .pointer (some ⟨r, 0, none⟩), .pointer (some ⟨r, 0, none⟩), .pointer (some ⟨r, 1, none⟩), .slice A L.length c, v1, .slice A' b.length c', .slice A2 M.length c2, .pointer (some ⟨r, 0, none⟩), .pointer (some ⟨r, 1, none⟩), .pointer (some ⟨r, 0, none⟩), .func (.func 23) #[.pointer (some ⟨r, 0, none⟩)] #[], x.1, undef, undef, undef, undef, undef, undef, undef, undef, undef, undef], defers := [] }) ?assign ?body ?done
  case assign =>
    intro l x W K hK
    gi_wp2
    exact hK
  case body =>
    rintro l pre x W ⟨⟨v, hbx, hrow⟩, hby, hgr, h56, hsz⟩ hgx hlen
    have q1 := hbx.frozen
    have q0 := hbx.cell
    obtain ⟨A3, c3, rfl⟩ := hrow.slice
    simp only [List.length_map] at hrow hbx q0
    clear q1
    have q1 := hbx.frozen
    obtain ⟨xv, xb⟩ := x
    obtain ⟨A4, c4, rfl, _⟩ := id (show Byt W xv xb from hgx)
    dsimp only
    have hrA : Row w.heap.size (W.alloc (.cells #[.slice A4 xb.length c4] 31)) 31 (.slice A3 pre.length c3) (pre.map (·.1)) := hrow.below (alloc_below _ _)
    have hsA : Src (W.alloc (.cells #[.slice A4 xb.length c4] 31)) (.slice (some ⟨W.heap.size, 0, none⟩) 1 1) [.slice A4 xb.length c4] := src_cells _ 31 _ 1 (Nat.le_refl _) (heap_alloc_new _ _)
    have h1A : ∀ u ∈ [Value.slice A4 xb.length c4], u.oneCell' = true := by
      intro u hu
      rw [List.mem_singleton.1 hu]
      rfl
    have hbA : Boxed (W.alloc (.cells #[.slice A4 xb.length c4] 31)) W1.heap.size 22 (.slice A3 pre.length c3) := Boxed.alloc hbx _
    have hlA : ((pre.map (·.1)).length + [Value.slice A4 xb.length c4].length) * 24 ≤ 140737488355328 := by
      rw [List.length_map, List.length_singleton]
      omega
    have hBA : w.heap.size ≤ (W.alloc (.cells #[.slice A4 xb.length c4] 31)).heap.size := by
      rw [alloc_size]
      omega
    have HA := Lib.hid hrA
    have HB := Lib.hid hsA
    have HC := Lib.hid hbA
    clear hrA hsA hbA
    gi_wp2_with (gi_at_builtin; refine app_lists_in rfl (.tmp 25) (.tmp 27) rfl w.heap.size _ _ HA.out HB.out h1A hlA hBA ?_; intro v5 w5 hown5 hg5 hat5; have hb5 : Boxed w5 W1.heap.size 22 (.slice A3 pre.length c3) := HC.out.kept hg5 (Boxed.not_row HC.out (by decide) HA.out); have q2 := hb5.cell; have q3 := hb5.frozen; obtain ⟨A6, c6, rfl⟩ := hown5.slice)
    rw [List.length_append, List.length_map, List.length_singleton] at hown5
    exact mid_step (x := (.slice A4 xb.length c4, xb)) hrw hw12 hbx hrow hby hgr h56 hsz hgx hg5 hb5 hown5
  case done =>
    intro D xs W hD hS hM hK
    obtain ⟨hS1, V, hr3, hV3⟩ := id hS.s
    obtain ⟨q0, q1, q2, f0, f1, f2⟩ := three hr3
    obtain ⟨⟨v, hbx, hrow⟩, hby, hgr, h56, hsz⟩ := id hM
    have q3 := hbx.cell
    have bk : Book W2.heap.size W (W.putObj D (.deferred none)) := .inr ⟨D, _, _, hD, hK, rfl, rfl⟩
    have hS' : S2 w.heap.size r m M xs (W.putObj D (.deferred none)) := ⟨hS1, hS.2.book bk⟩
    have hM' := hM.book bk (by omega)
    have hrow' : Row w.heap.size (W.putObj D (.deferred none)) 31 v (xs.map (·.1)) := hrow.cells fun g cur _ hg => book_cells bk hg
    clear hS1 hS hM hrow hby hgr h56 hsz
    generalize hbr : (parse m M).2.2 = br at *
    cases br
    · gi_wp2
      refine ⟨by simp, .inl ⟨_, _, rfl, run_takeDeferred hK, ?_⟩⟩
      refine ⟨_, results_tmp2 rfl _ _ _, v, xs, ?_⟩
      rw [HLb.out, hbr]
      exact ⟨rfl, ⟨hrow', hM'.2.1⟩, hS', hM'.2.2.1⟩
    · gi_wp2
      refine ⟨by simp, .inl ⟨_, _, rfl, run_takeDeferred hK, ?_⟩⟩
      refine ⟨_, results_tmp2 rfl _ _ _, v, xs, ?_⟩
      rw [HLb.out, hbr]
      exact ⟨rfl, ⟨hrow', hM'.2.1⟩, hS', hM'.2.2.1⟩
  obtain ⟨cs, hc⟩ := h.2.1
  refine (h.1.block k (Array.getElem?_eq_some_iff.1 hk).1 ?_).trans hk
  rintro e
  cases e
  rw [hk] at hc
  cases hc
  cases ho


end Go.Proofs.Ytjeeiaelicekhaa
