/- The iterator over a reader's whole frames. -/
import Derived.Test.YtjeeiaelicekhaaLaw
namespace Go.Proofs.Ytjeeiaelicekhaa
open Go.RowKit

attribute [local go_sem] Oper.semAt_some

/-- The payloads, what is left, whether a length was too great. -/
def parse (m : Nat) (L : List UInt8) : List (List UInt8) × List UInt8 × Bool :=
  if L.length < 4 then ([], L, false)
  else if m < num (L.take 4) then ([], [], true)
  else if L.length - 4 < num (L.take 4) then ([], L, false)
  else
    let t := parse m (L.drop (4 + num (L.take 4)))
    ((L.drop 4).take (num (L.take 4)) :: t.1, t.2.1, t.2.2)
termination_by L.length
decreasing_by simp only [List.length_drop]; omega

theorem parse_short {m : Nat} {L : List UInt8} (h : L.length < 4) : parse m L = ([], L, false) := by rw [parse, if_pos h]
theorem parse_big {m : Nat} {L : List UInt8} (h : ¬ L.length < 4) (h2 : m < num (L.take 4)) : parse m L = ([], [], true) := by rw [parse, if_neg h, if_pos h2]
theorem parse_part {m : Nat} {L : List UInt8} (h : ¬ L.length < 4) (h2 : ¬ m < num (L.take 4)) (h3 : L.length - 4 < num (L.take 4)) : parse m L = ([], L, false) := by rw [parse, if_neg h, if_neg h2, if_pos h3]
theorem parse_one {m : Nat} {L : List UInt8} (h : ¬ L.length < 4) (h2 : ¬ m < num (L.take 4)) (h3 : ¬ L.length - 4 < num (L.take 4)) :
    parse m L = ((L.drop 4).take (num (L.take 4)) :: (parse m (L.drop (4 + num (L.take 4)))).1, (parse m (L.drop (4 + num (L.take 4)))).2.1, (parse m (L.drop (4 + num (L.take 4)))).2.2) := by
  rw [parse, if_neg h, if_neg h2, if_neg h3]

theorem byt_nil (w : World) (A : Option Addr) (c : Nat) (hc : c ≤ maxLen) : Byt w (.slice A 0 c) [] := ⟨A, c, rfl, Nat.zero_le _, hc, fun h => absurd rfl h⟩

theorem Byt.part {w : World} {b off c : Nat} {L : List UInt8} (h : Byt w (.slice (some ⟨b, off, none⟩) L.length c) L) (lo k : Nat) (hk : lo + k ≤ L.length) (off' c' : Nat) (ho : k = 0 ∨ off' = off + lo) (hc : k ≤ c') (hm : c' ≤ maxLen) :
    Byt w (.slice (some ⟨b, off', none⟩) k c') ((L.drop lo).take k) := by
  rcases ho with rfl | rfl
  · rw [List.take_zero]
    exact byt_nil _ _ _ hm
  obtain ⟨A, c2, e, h1, h2, hA⟩ := h
  cases e
  have hl : ((L.drop lo).take k).length = k := by simp; omega
  refine ⟨some ⟨b, off + lo, none⟩, c', by rw [hl], by rw [hl]; exact hc, hm, fun hn => ?_⟩
  obtain ⟨b', off', cs, e, hb, hcs⟩ := hA (by rintro rfl; simp at hn)
  cases e
  refine ⟨b, off + lo, cs, rfl, hb, fun j u hj => ?_⟩
  have hjk : j < k := by
    have := (List.getElem?_eq_some_iff.1 hj).1
    rwa [cel_length, hl] at this
  rw [Nat.add_assoc]
  refine hcs (lo + j) u ?_
  rw [← hj]
  simp [cel, List.getElem?_drop, hjk]

theorem Byt.tail {w : World} {b off c : Nat} {L : List UInt8} (h : Byt w (.slice (some ⟨b, off, none⟩) L.length c) L) (lo : Nat) (hl : lo ≤ L.length) (off' c' : Nat) (ho : L.length - lo = 0 ∨ off' = off + lo) (hc : L.length - lo ≤ c') (hm : c' ≤ maxLen) :
    Byt w (.slice (some ⟨b, off', none⟩) (L.length - lo) c') (L.drop lo) := by
  have := h.part lo (L.length - lo) (by omega) off' c' ho hc hm
  have e : (L.drop lo).take (L.length - lo) = L.drop lo := List.take_of_length_le (by rw [List.length_drop]; exact Nat.le_refl _)
  rwa [e] at this

def Is56 (W : World) (r : Nat) : Prop := ∃ cs, W.heap[r]? = some (.cells cs 56 (0, 0))
def Kp (r : Nat) (A B : World) : Prop := B.heap[r]? = A.heap[r]? ∧ Keep5 A B ∧ A.heap.size ≤ B.heap.size
def Turn (r : Nat) (A B : World) : Prop := A.grownBy B (some r) ∧ Is56 A r ∧ Is56 B r
def G (x : Value × List UInt8) (W : World) : Prop := Byt W x.1 x.2
def S (r m : Nat) (L : List UInt8) (xs : List (Value × List UInt8)) (W : World) : Prop := xs.map (·.2) = (parse m L).1 ∧ Rdr W r m (parse m L).2.1 (parse m L).2.2

def hlen (W : World) (r : Nat) : Nat :=
  match W.cell? ⟨r, 1, none⟩ with
  | some (.slice _ n _) => n
  | _ => 0

theorem Rdr.hlen {W : World} {r m : Nat} {L : List UInt8} {br : Bool} (h : Rdr W r m L br) : hlen W r = L.length := by
  obtain ⟨v, hr, A, c, rfl, _⟩ := h
  simp [Ytjeeiaelicekhaa.hlen, (three hr).2.1]
theorem Rdr.is56 {W : World} {r m : Nat} {L : List UInt8} {br : Bool} (h : Rdr W r m L br) : Is56 W r := by
  obtain ⟨v, hr, _⟩ := h
  exact ⟨_, hr⟩
theorem Rdr.kp {A B : World} {r m : Nat} {L : List UInt8} {br : Bool} (h : Rdr A r m L br) (k : Kp r A B) : Rdr B r m L br := by
  obtain ⟨v, hr, hv⟩ := h
  exact ⟨v, k.1.trans hr, hv.keep k.2.1⟩

theorem set_heap {w : World} {r t : Nat} {x y z : Value} (h : w.heap[r]? = some (.cells #[x, y, z] t (0, 0))) (u : Value) :
    (w.setCell ⟨r, 1, none⟩ u).heap[r]? = some (.cells #[x, u, z] t (0, 0)) ∧ (w.setCell ⟨r, 2, none⟩ u).heap[r]? = some (.cells #[x, y, u] t (0, 0)) := by
  obtain ⟨hlt, hk⟩ := Array.getElem?_eq_some_iff.1 h
  constructor
  · show (w.heap.modify r _)[r]? = _
    rw [Array.getElem?_eq_getElem (by rw [Array.size_modify]; exact hlt), Array.getElem_modify_self, hk]
    rfl
  · show (w.heap.modify r _)[r]? = _
    rw [Array.getElem?_eq_getElem (by rw [Array.size_modify]; exact hlt), Array.getElem_modify_self, hk]
    rfl
theorem set_grown (W : World) (b o : Nat) (v : Value) : W.grownBy (W.setCell ⟨b, o, none⟩ v) (some b) :=
  ⟨rfl, rfl, rfl, (KeepsWalks.setCell W _ v).size, fun k _ hk => Below.heap_setCell _ _ _ k (fun e => hk (by rw [e]))⟩
theorem grown_trans {A B C : World} {r : Nat} (h : A.grownBy B (some r)) (k : B.grownBy C (some r)) : A.grownBy C (some r) :=
  ⟨k.os.trans h.os, k.tape.trans h.tape, k.output.trans h.output, Nat.le_trans h.size k.size, fun i hi hn => (k.block i (Nat.lt_of_lt_of_le hi h.size) hn).trans (h.block i hi hn)⟩
theorem grown_none {A B : World} {r : Nat} (h : A.grownBy B none) : A.grownBy B (some r) :=
  ⟨h.os, h.tape, h.output, h.size, fun i hi _ => h.block i hi (by simp)⟩
theorem grown_below {A B : World} {r : Nat} (h : Below A.heap.size A B) : A.grownBy B (some r) :=
  ⟨h.os, h.tape, h.output, h.size, fun i hi _ => h.block i hi⟩
theorem Is56.not5 {W : World} {r : Nat} (h : Is56 W r) : Not5 W r := by
  obtain ⟨cs, h⟩ := h
  exact ⟨cs, 56, h, by decide⟩

def Inv (r m : Nat) (L : List UInt8) (J : List (Value × List UInt8) → World → Prop) (wr : World) : Prop :=
  ∃ pre L', J pre wr ∧ Rdr wr r m L' false ∧ pre.map (·.2) ++ (parse m L').1 = (parse m L).1 ∧ (parse m L').2 = (parse m L).2 ∧ 4 * pre.length + L'.length ≤ L.length

theorem aside {A B : World} {r m : Nat} {L L2 : List UInt8} {V V2 : Value} {q : World → Prop} (hR : Rdr A r m L false) (hB : Below A.heap.size A B) (hr : B.heap[r]? = some (.cells #[.int .u64 (m : Int), V, .bool false] 56 (0, 0))) (h : Byt B V2 L2)
    (hq : Turn r A (B.setCell ⟨r, 1, none⟩ V2) → q (B.setCell ⟨r, 1, none⟩ V2)) :
    Rdr (B.setCell ⟨r, 1, none⟩ V2) r m L2 false ∧ Keep5 B (B.setCell ⟨r, 1, none⟩ V2) ∧ q (B.setCell ⟨r, 1, none⟩ V2) := by
  have s2 := (set_heap hr V2).1
  have hk : Keep5 B (B.setCell ⟨r, 1, none⟩ V2) := keep5_grown (set_grown _ _ _ _) (Is56.not5 ⟨_, hr⟩)
  exact ⟨⟨_, s2, h.keep hk⟩, hk, hq ⟨grown_trans (grown_below hB) (set_grown _ _ _ _), hR.is56, ⟨_, s2⟩⟩⟩

set_option maxRecDepth 100000 in
set_option maxHeartbeats 2000000 in
theorem whole_seq (n r m : Nat) (L : List UInt8) :
    SeqT Fence.wide n Try.prog 23 (.pointer (some ⟨r, 0, none⟩)) (fun x : Value × List UInt8 => #[x.1]) (Kp r) (Turn r) G (S r m L) (L.length + 1) (fun W => Rdr W r m L false) := by
  intro l J W hW0 hJ hY h0
  refine callsIn_of_wp Try.func23 rfl trivial ?_ rfl
  simp only [Try.ntmps23, List.size_toArray, List.length_cons, List.length_nil, Nat.reduceAdd, Nat.reduceSub, Array.replicate_succ, Array.replicate_zero, List.push_toArray, List.append_toArray, List.nil_append, List.cons_append]
  gi_wp2
  gi_loopw [] (fun wr => Inv r m L J wr) (fun wr => hlen wr r)
  case atStart => exact ⟨[], L, h0, hW0, rfl, rfl, by simp⟩
  case round =>
    obtain ⟨pre, L', hJ1, hR, hp1, hp2, hlen⟩ := hrel
    clear hW0 h0
    by_cases c1 : L'.length < 4
    · gi_wp2_with (refine ⟨trivial, fun h => (by cases h), ?_⟩; refine (callsIn_wide.2 (length_short _ r m L' false hR c1)).mono ?_; rintro e w' ⟨rfl, rfl⟩)
      refine bodyPost_ret (results_none rfl _ _ _) rfl ?_
      rw [parse_short c1] at hp1 hp2
      exact ⟨⟨_, rfl⟩, pre, ⟨by simpa using hp1, by rw [← hp2]; exact hR⟩, hJ1⟩
    · have hk4 : num (L'.take 4) < 4294967296 := by
        have := num_lt (L'.take 4)
        rwa [List.length_take, Nat.min_eq_left (by omega)] at this
      have hL := length_long _ r m L' false hR (by omega)
      obtain ⟨v, hr, hv⟩ := id hR
      obtain ⟨b, off, c, rfl, _⟩ := hv.at 0 (by omega)
      obtain ⟨q0, q1, q2, f0, f1, f2⟩ := three hr
      obtain ⟨_, _, e, hc, hcm, _⟩ := id hv
      cases e
      obtain ⟨d, hd⟩ : ∃ d, L'.length = d + 4 := ⟨L'.length - 4, by omega⟩
      have w1 : RowKit.wrap64 ((L'.length : Int) - 4) = (d : Int) := by
        rw [hd]
        simp only [RowKit.wrap64, maxLen] at *
        omega
      have w2 : IntKind.u64.wrap (d : Int) = (d : Int) := wrap64 _ (by simp only [maxLen] at *; omega)
      have c0 : (4 : Int) ≤ (L'.length : Int) := by omega
      by_cases c2 : m < num (L'.take 4)
      · generalize hk : num (L'.take 4) = k at *
        have hK := Lib.hid hk
        clear hk
        gi_wp2_with (refine ⟨trivial, fun h => (by cases h), ?_⟩; refine (callsIn_wide.2 hL).mono ?_; rintro e w' ⟨rfl, rfl⟩)
        refine bodyPost_ret (results_none rfl _ _ _) rfl ?_
        have s1 := (set_heap hr (.bool true)).2
        have s2 := (set_heap s1 (.slice none 0 0)).1
        rw [parse_big c1 (by rw [hK.out]; exact c2)] at hp1 hp2
        refine ⟨⟨_, rfl⟩, pre, ⟨by simpa using hp1, ?_⟩, hJ _ _ _ hJ1 ⟨grown_trans (set_grown _ _ _ _) (set_grown _ _ _ _), ⟨_, hr⟩, ⟨_, s2⟩⟩⟩
        rw [← hp2]
        exact ⟨_, s2, (row_none 0 _ 5).byt⟩
      · by_cases c3 : L'.length - 4 < num (L'.take 4)
        · rw [parse_part c1 c2 c3] at hp1 hp2
          generalize hk : num (L'.take 4) = k at *
          clear hk
          have c4 : d < k := by omega
          have hD := Lib.hid hd
          clear hd
          gi_wp2_with (refine ⟨trivial, fun h => (by cases h), ?_⟩; refine (callsIn_wide.2 hL).mono ?_; rintro e w' ⟨rfl, rfl⟩)
          refine bodyPost_ret (results_none rfl _ _ _) rfl ?_
          exact ⟨⟨_, rfl⟩, pre, ⟨by simpa using hp1, by rw [← hp2]; exact hR⟩, hJ1⟩
        · rw [parse_one c1 c2 c3] at hp1 hp2
          have hkl : 4 + num (L'.take 4) ≤ L'.length := by omega
          have b1 := hv.part 4 (num (L'.take 4)) hkl
          have b2 := hv.tail (4 + num (L'.take 4)) hkl
          generalize hk : num (L'.take 4) = k at *
          clear hk
          have c4 : ¬ d < k := by omega
          have hpl : ((L'.drop 4).take k).length = k := by rw [List.length_take, List.length_drop]; omega
          generalize hp : (L'.drop 4).take k = p at *
          have HP := Lib.hid hpl
          clear hp hpl
          have hD := Lib.hid hd
          clear hd
          have key : (c = 4 ∧ k = 0) ∨ (c ≠ 4 ∧ c = 4 + k) ∨ (c ≠ 4 ∧ c ≠ 4 + k) := by omega
          rcases key with ⟨rfl, rfl⟩ | ⟨k1, rfl⟩ | ⟨k1, k2⟩
          all_goals
            gi_wp2_with (first
              | (refine ⟨trivial, fun h => (by cases h), ?_⟩; refine (callsIn_wide.2 hL).mono ?_; rintro e w' ⟨rfl, rfl⟩)
              | (gi_at_builtin; refine app_bytes_in rfl (.const (.slice none 0 0)) (.tmp 49) rfl w'.heap.size [] p (row_none _ _ _) (by refine Byt.src ?_; simp [Act.eval]; refine b1 _ _ ?_ ?_ ?_ <;> first | omega | exact .inl trivial) (by have := HP.out; rw [List.length_nil]; omega) (Nat.le_refl _) ?_; intro v1 w1 hown1 hg1 hat1; refine Hid.out ?_))
          all_goals
            refine Lib.hid ?_
            have hB1 : Below w'.heap.size w' w1 := (Below.refl _ _).grown hg1 (Nat.le_refl _) (fun k e => by simp [Act.eval, Value.ownBlock] at e)
            have hr1 := (hB1.block r (Array.getElem?_eq_some_iff.1 hr).1).trans hr
            obtain ⟨p0, p1, p2, g0, g1, g2⟩ := three hr1
            clear hr q0 q1 q2 f0 f1 f2 hg1 hat1 hL
            gi_wp2
          · have hV : Byt w1 (.slice (some ⟨b, off, none⟩) 0 0) (L'.drop (4 + 0)) := by
              rw [List.drop_eq_nil_of_le (by omega)]
              exact byt_nil _ _ _ (Nat.zero_le _)
            obtain ⟨h1, h2, h3⟩ := aside hR hB1 hr1 hV (hJ pre w' _ hJ1)
            obtain ⟨fn, tmps, assign, body, hy, hRd⟩ := hY pre (v1, p) _ h3 (hown1.byt.keep h2) (by omega)
            dsimp only at hy
            rw [hy]
            gi_wp2
            refine ⟨fun h => (by cases h), hRd.mono ?_⟩
            rintro e W' ⟨rfl, hJ', hk⟩
            gi_wp2
            go_roundw
            case rel => exact ⟨pre ++ [(v1, p)], L'.drop (4 + 0), hJ', h1.kp hk, by rw [List.map_append, List.append_assoc]; exact hp1, by rw [← hp2], by rw [List.length_append, List.length_drop, List.length_singleton]; omega⟩
            case measure => rw [(h1.kp hk).hlen, hR.hlen, List.length_drop]; omega
          · have hV : Byt w1 (.slice (some ⟨b, off, none⟩) 0 0) (L'.drop (4 + k)) := by
              rw [List.drop_eq_nil_of_le (by omega)]
              exact byt_nil _ _ _ (Nat.zero_le _)
            obtain ⟨h1, h2, h3⟩ := aside hR hB1 hr1 hV (hJ pre w' _ hJ1)
            obtain ⟨fn, tmps, assign, body, hy, hRd⟩ := hY pre (v1, p) _ h3 (hown1.byt.keep h2) (by omega)
            dsimp only at hy
            rw [hy]
            gi_wp2
            refine ⟨fun h => (by cases h), hRd.mono ?_⟩
            rintro e W' ⟨rfl, hJ', hk⟩
            gi_wp2
            go_roundw
            case rel => exact ⟨pre ++ [(v1, p)], L'.drop (4 + k), hJ', h1.kp hk, by rw [List.map_append, List.append_assoc]; exact hp1, by rw [← hp2], by rw [List.length_append, List.length_drop, List.length_singleton]; omega⟩
            case measure => rw [(h1.kp hk).hlen, hR.hlen, List.length_drop]; omega
          · have hV : Byt w1 (.slice (some ⟨b, off + (4 + k), none⟩) (L'.length - (4 + k)) (c - (4 + k))) (L'.drop (4 + k)) := (b2 _ _ (.inr rfl) (by omega) (by omega)).keep (keep5_below hB1)
            obtain ⟨h1, h2, h3⟩ := aside hR hB1 hr1 hV (hJ pre w' _ hJ1)
            obtain ⟨fn, tmps, assign, body, hy, hRd⟩ := hY pre (v1, p) _ h3 (hown1.byt.keep h2) (by omega)
            dsimp only at hy
            rw [hy]
            gi_wp2
            refine ⟨fun h => (by cases h), hRd.mono ?_⟩
            rintro e W' ⟨rfl, hJ', hk⟩
            gi_wp2
            go_roundw
            case rel => exact ⟨pre ++ [(v1, p)], L'.drop (4 + k), hJ', h1.kp hk, by rw [List.map_append, List.append_assoc]; exact hp1, by rw [← hp2], by rw [List.length_append, List.length_drop, List.length_singleton]; omega⟩
            case measure => rw [(h1.kp hk).hlen, hR.hlen, List.length_drop]; omega

end Go.Proofs.Ytjeeiaelicekhaa
