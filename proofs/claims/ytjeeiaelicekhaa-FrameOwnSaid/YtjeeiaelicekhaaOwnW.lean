/- FrameOwn: the law's walk. -/
import Derived.Test.YtjeeiaelicekhaaCloseW
import Derived.Test.YtjeeiaelicekhaaOwnS
import Derived.Test.YtjeeiaelicekhaaFeedW
import Derived.Deep.RegionHeld
namespace Go.Proofs.Ytjeeiaelicekhaa
open Go.RowKit

theorem close_any (w : World) (G : Nat → Prop) (kb : Nat) (Ls : List (List UInt8)) (h : BookP w G kb Ls) : Calls Try.prog 22 #[.pointer (some ⟨kb, 0, none⟩)] w fun e w' => e = .returned (.bool true) ∧ Tn G w w' := by
  obtain ⟨V, W, n, h1, h2, h3, h4, h5, h6, h7⟩ := h
  have hl : Ls.length ≤ 1000000 := by omega
  have S := stands_any w G kb n V W Ls h1 h2 hl
  obtain ⟨vs, ws, ow, hV, hW, e1, e2, hd, gV, gW, g1, g2⟩ := h2
  have C := fun m => close_bytes (w.drewN m) G kb n V W vs ow Ls h1 hV e1 g1 h3 hl h7
  clear h1 hV hW e1 e2 hd gV gW g1 g2 h4 h5 h6 h7
  go_enter Try.func22, Try.ntmps22
  go_wp2_with fail
  refine S.mono ?_
  rintro e w' ⟨rfl, m, rfl⟩
  go_wp2_with fail
  refine (C m).mono ?_
  rintro e w' ⟨rfl, t⟩
  have t : Tn G w w' := ⟨t.1, t.2.1, t.2.2.1, t.2.2.2.1, t.2.2.2.2⟩
  clear S C
  go_wp2_with fail
  go_ret
  exact ⟨rfl, t⟩

/-! ### What the law holds between its calls -/
theorem Byt.tn {w w' : World} {F : Nat → Prop} {v : Value} {l : List UInt8} (h : Byt w v l) (t : Tn F w w') (hd : l ≠ [] → ∀ k, v.ownBlock = some k → ¬ F k) : Byt w' v l := by
  obtain ⟨A, c, rfl, h1, h2, hA⟩ := h
  refine ⟨A, c, rfl, h1, h2, fun hn => ?_⟩
  obtain ⟨b, off, cs, rfl, hb, hc⟩ := hA hn
  exact ⟨b, off, cs, rfl, t.block hb (hd hn b rfl), hc⟩
theorem Byt.lt {w : World} {v : Value} {l : List UInt8} (h : Byt w v l) (hn : l ≠ []) {k : Nat} (hk : v.ownBlock = some k) : k < w.heap.size := by
  obtain ⟨A, c, rfl, h1, h2, hA⟩ := h
  obtain ⟨b, off, cs, rfl, hb, hc⟩ := hA hn
  cases hk
  exact (Array.getElem?_eq_some_iff.1 hb).1

def RdrG (w : World) (G : Nat → Prop) (r m : Nat) (L : List UInt8) (br : Bool) : Prop :=
  ∃ v, w.heap[r]? = some (.cells #[.int .u64 (m : Int), v, .bool br] 56 (0, 0)) ∧ Byt w v L ∧ G r ∧ (L ≠ [] → ∀ k, v.ownBlock = some k → G k) ∧ ∀ k, G k → k < w.heap.size
theorem RdrG.rdr {w : World} {G : Nat → Prop} {r m : Nat} {L : List UInt8} {br : Bool} (h : RdrG w G r m L br) : Rdr w r m L br := by
  obtain ⟨v, h1, h2, _⟩ := h
  exact ⟨v, h1, h2⟩
theorem RdrG.tn {w w' : World} {F G : Nat → Prop} {r m : Nat} {L : List UInt8} {br : Bool} (h : RdrG w G r m L br) (t : Tn F w w') (hd : ∀ k, G k → ¬ F k) : RdrG w' G r m L br := by
  obtain ⟨v, h1, h2, h3, h4, h5⟩ := h
  exact ⟨v, t.block h1 (hd r h3), h2.tn t fun hn k hk => hd k (h4 hn k hk), h3, h4, fun k hk => Nat.lt_of_lt_of_le (h5 k hk) t.size⟩
def RefN (w : World) (s m : Nat) (L : List UInt8) (br : Bool) (N : Nat) : Prop :=
  ∃ v, w.heap[s]? = some (.cells #[.int .i64 (m : Int), v, .bool br] 38 (0, 0)) ∧ Byt w v L ∧ (L ≠ [] → ∀ k, v.ownBlock = some k → k < N)
theorem RefN.ref {w : World} {s m N : Nat} {L : List UInt8} {br : Bool} (h : RefN w s m L br N) : Ref w s m L br := by
  obtain ⟨v, h1, h2, _⟩ := h
  exact ⟨v, h1, h2⟩
theorem RefN.of {w : World} {s m : Nat} {L : List UInt8} {br : Bool} (h : Ref w s m L br) : RefN w s m L br w.heap.size := by
  obtain ⟨v, h1, h2⟩ := h
  exact ⟨v, h1, h2, fun hn k hk => h2.lt hn hk⟩
theorem RefN.tn {w w' : World} {F : Nat → Prop} {s m N : Nat} {L : List UInt8} {br : Bool} (h : RefN w s m L br N) (t : Tn F w w') (hd : ∀ k, F k → N ≤ k ∧ k ≠ s) : RefN w' s m L br N := by
  obtain ⟨v, h1, h2, h3⟩ := h
  exact ⟨v, t.block h1 (fun q => (hd s q).2 rfl), h2.tn t fun hn k hk q => by have := h3 hn k hk; have := (hd k q).1; omega, h3⟩
theorem RefN.keep {w w' : World} {F : Nat → Prop} {s m N : Nat} {L : List UInt8} {br : Bool} (h : RefN w s m L br N) (t : Tn F w w') (hs : ¬ F s) (hk : Keep5 w w') : RefN w' s m L br N := by
  obtain ⟨v, h1, h2, h3⟩ := h
  exact ⟨v, t.block h1 hs, h2.keep hk, h3⟩

theorem feed_own (w : World) (Gr : Nat → Prop) (r m : Nat) (L b : List UInt8) (br : Bool) (v : Value) (h : RdrG w Gr r m L br) (hv : Src w v (cel b)) (hL : L.length ≤ 1000000000) (hb : b.length ≤ 1000000000) :
    Calls Try.prog 11 #[.pointer (some ⟨r, 0, none⟩), v] w fun e w' => ∃ u xs G', e = .returned (.tuple #[u, .int .i64 (Err (step m L br b).2.2)]) ∧ Lst w.heap.size w' u xs ∧ Own w.heap.size w' xs ∧ xs.map (·.2) = (step m L br b).1 ∧
      RdrG w' G' r m (step m L br b).2.1 (step m L br b).2.2 ∧ (∀ k, G' k → Gr k ∨ w.heap.size ≤ k) ∧ (∀ x ∈ xs, ∀ k, x.1.ownBlock = some k → ¬ G' k) ∧ w.grownBy w' (some r) := by
  have hrw : r < w.heap.size := by
    obtain ⟨v, hr, _⟩ := h
    exact (Array.getElem?_eq_some_iff.1 hr).1
  cases br
  · refine (feed_ok2 w r m L b v h.rdr hv hL hb hrw).mono ?_
    rintro e w' ⟨u, xs, he, hl, hs, hg⟩
    obtain ⟨hs1, V, hV1, hV2, hV3, hV4⟩ := hs
    obtain ⟨_, _, _, gr, _⟩ := h
    refine ⟨u, xs, fun k => k = r ∨ V.ownBlock = some k, he, hl, hV4, hs1, ⟨V, hV1, hV2, .inl rfl, fun _ k hk => .inr hk, fun k hk => ?_⟩, fun k hk => ?_, fun x hx k hk q => ?_, hg⟩
    · rcases hk with rfl | hk
      · exact Nat.lt_of_lt_of_le hrw hg.size
      · exact (hV3 k hk).2.1
    · rcases hk with rfl | hk
      · exact .inl gr
      · exact .inr (hV3 k hk).1
    · rcases q with rfl | q
      · have := ((hV4.1 x hx).block hk).1
        omega
      · exact (hV3 k q).2.2 x hx hk
  · refine (feed_broken w r m L v h.rdr).mono ?_
    rintro e w' ⟨he, rfl⟩
    exact ⟨_, [], Gr, he, ⟨row_none _ _ _, by simp⟩, ⟨by simp, List.Pairwise.nil⟩, rfl, h, fun k hk => .inl hk, by simp, World.grownBy.refl _ _⟩

/-- The book, the two readers. -/
structure St (w : World) (kb r s m : Nat) (L : List UInt8) (br : Bool) (L2 : List UInt8) (b2 : Bool) (N : Nat) (Gk Gr : Nat → Prop) (Lk : List (List UInt8)) (wr : World) : Prop where
  book : BookP wr Gk kb Lk
  rdr : RdrG wr Gr r m L br
  ref : RefN wr s m L2 b2 N
  dkr : ∀ j, Gk j → ¬ Gr j
  sk : ¬ Gk s
  sr : ¬ Gr s
  gk : ∀ j, Gk j → w.heap.size ≤ j
  gr : ∀ j, Gr j → w.heap.size ≤ j
  sH : w.heap.size ≤ s
  bel : Below w.heap.size w wr
  nN : N ≤ wr.heap.size

theorem BookP.lt {w : World} {G : Nat → Prop} {kb : Nat} {Ls : List (List UInt8)} (h : BookP w G kb Ls) : ∀ k, G k → k < w.heap.size := by
  obtain ⟨_, _, _, _, _, _, h4, _⟩ := h
  exact h4
theorem RdrG.lt {w : World} {G : Nat → Prop} {r m : Nat} {L : List UInt8} {br : Bool} (h : RdrG w G r m L br) : ∀ k, G k → k < w.heap.size := by
  obtain ⟨_, _, _, _, _, h4⟩ := h
  exact h4
theorem LoanP.lt {w : World} {G : Nat → Prop} {nb : Nat} {Ls : List (List UInt8)} (h : LoanP w G nb Ls) : ∀ k, G k → k < w.heap.size := by
  obtain ⟨_, _, _, _, _, h4⟩ := h
  exact h4
theorem RdrG.at {w : World} {G : Nat → Prop} {r m : Nat} {L : List UInt8} {br : Bool} (h : RdrG w G r m L br) : G r := by
  obtain ⟨_, _, _, h3, _⟩ := h
  exact h3

section
variable {w wr w' : World} {kb r s m N : Nat} {L L' L2 L2' : List UInt8} {br br' b2 b2' : Bool} {F Gk Gk' Gr Gr' : Nat → Prop} {Lk Lk' : List (List UInt8)}
/-- Blocks of F turn, which are nobody's. -/
theorem St.tn (h : St w kb r s m L br L2 b2 N Gk Gr Lk wr) (t : Tn F wr w') (hF : ∀ k, F k → N ≤ k ∧ k ≠ s ∧ ¬ Gk k ∧ ¬ Gr k ∧ w.heap.size ≤ k) : St w kb r s m L br L2 b2 N Gk Gr Lk w' :=
  ⟨h.book.tn t fun k a b => (hF k b).2.2.1 a, h.rdr.tn t fun k a b => (hF k b).2.2.2.1 a, h.ref.tn t fun k a => ⟨(hF k a).1, (hF k a).2.1⟩, h.dkr, h.sk, h.sr, h.gk, h.gr, h.sH, h.bel.trans (t.to_below h.bel.size fun k a => (hF k a).2.2.2.2), Nat.le_trans h.nN t.size⟩
theorem St.below (h : St w kb r s m L br L2 b2 N Gk Gr Lk wr) (hb : Below wr.heap.size wr w') : St w kb r s m L br L2 b2 N Gk Gr Lk w' :=
  h.tn (F := fun _ => False) (Tn.of_below hb) fun _ q => q.elim
theorem St.drewN (h : St w kb r s m L br L2 b2 N Gk Gr Lk wr) (n : Nat) : St w kb r s m L br L2 b2 N Gk Gr Lk (wr.drewN n) :=
  h.tn (F := fun _ => False) ((Tn.refl _ _).drewN n) fun _ q => q.elim
theorem St.slt (h : St w kb r s m L br L2 b2 N Gk Gr Lk wr) : s < wr.heap.size := by
  obtain ⟨_, q, _⟩ := h.ref
  exact (Array.getElem?_eq_some_iff.1 q).1
/-- A new block is nobody's. -/
theorem St.off (h : St w kb r s m L br L2 b2 N Gk Gr Lk wr) {k : Nat} (hk : wr.heap.size ≤ k) : N ≤ k ∧ k ≠ s ∧ ¬ Gk k ∧ ¬ Gr k ∧ w.heap.size ≤ k :=
  ⟨Nat.le_trans h.nN hk, fun q => by have := h.slt; omega, fun q => by have := h.book.lt k q; omega, fun q => by have := h.rdr.lt k q; omega, Nat.le_trans h.bel.size hk⟩
theorem St.feed (h : St w kb r s m L br L2 b2 N Gk Gr Lk wr) (hg : wr.grownBy w' (some r)) (hr : RdrG w' Gr' r m L' br') (hG : ∀ k, Gr' k → Gr k ∨ wr.heap.size ≤ k) : St w kb r s m L' br' L2 b2 N Gk Gr' Lk w' := by
  have t : Tn (fun k => k = r) wr w' := Tn.grown hg fun g e => by cases e; rfl
  have hs := h.slt
  refine ⟨h.book.tn t fun k a b => h.dkr k a (by rw [b]; exact h.rdr.at), hr, h.ref.keep t (fun e => h.sr (by rw [e]; exact h.rdr.at)) (keep5_grown hg h.rdr.rdr.not5), fun j a b => ?_, h.sk, fun q => ?_, h.gk, fun j q => ?_, h.sH, h.bel.trans (t.to_below h.bel.size fun k e => by rw [e]; exact h.gr r h.rdr.at), Nat.le_trans h.nN hg.size⟩
  · rcases hG j b with c | c
    · exact h.dkr j a c
    · have := h.book.lt j a
      omega
  · rcases hG s q with c | c
    · exact h.sr c
    · omega
  · rcases hG j q with c | c
    · exact h.gr j c
    · exact Nat.le_trans h.bel.size c
theorem St.rfeed (h : St w kb r s m L br L2 b2 N Gk Gr Lk wr) (hg : wr.grownBy w' (some s)) (hr : Ref w' s m L2' b2') : St w kb r s m L br L2' b2' w'.heap.size Gk Gr Lk w' := by
  have t : Tn (fun k => k = s) wr w' := Tn.grown hg fun g e => by cases e; rfl
  exact ⟨h.book.tn t fun k a b => h.sk (by rw [← b]; exact a), h.rdr.tn t fun k a b => h.sr (by rw [← b]; exact a), RefN.of hr, h.dkr, h.sk, h.sr, h.gk, h.gr, h.sH, h.bel.trans (t.to_below h.bel.size fun k e => by rw [e]; exact h.sH), Nat.le_refl _⟩
/-- Something is kept. -/
theorem St.keeps (h : St w kb r s m L br L2 b2 N Gk Gr Lk wr) {v : Value} (hb : BookP w' Gk' kb Lk') (t : Tn Gk wr w') (hk : Keep5 wr w') (hG : ∀ k, Gk' k → Gk k ∨ v.ownBlock = some k ∨ wr.heap.size ≤ k)
    (hv : ∀ k, v.ownBlock = some k → ¬ Gr k ∧ k ≠ s ∧ w.heap.size ≤ k) : St w kb r s m L br L2 b2 N Gk' Gr Lk' w' := by
  have hs := h.slt
  refine ⟨hb, h.rdr.tn t fun k a b => h.dkr k b a, h.ref.keep t h.sk hk, fun j a b => ?_, fun q => ?_, h.sr, fun j a => ?_, h.gr, h.sH, h.bel.trans (t.to_below h.bel.size h.gk), Nat.le_trans h.nN t.size⟩
  · rcases hG j a with c | c | c
    · exact h.dkr j c b
    · exact (hv j c).1 b
    · have := h.rdr.lt j b
      omega
  · rcases hG s q with c | c | c
    · exact h.sk c
    · exact (hv s c).2.1 rfl
    · omega
  · rcases hG j a with c | c | c
    · exact h.gk j c
    · exact (hv j c).2.2
    · exact Nat.le_trans h.bel.size c
end

/-- What is lent, beside the others. -/
def Apart (w : World) (s N : Nat) (Gn Gk Gr : Nat → Prop) : Prop := ∀ k, Gn k → N ≤ k ∧ k ≠ s ∧ ¬ Gk k ∧ ¬ Gr k ∧ w.heap.size ≤ k

/-- Between two rounds. -/
def OI (w : World) (kb r s m k nb : Nat) (wr : World) : Prop :=
  ∃ L br N Gk Gr Gn Lk Ln, St w kb r s m L br L br N Gk Gr Lk wr ∧ LoanP wr Gn nb Ln ∧ Apart w s N Gn Gk Gr ∧ L.length ≤ 600 * k ∧ Ln.length ≤ 2 ∧ ∀ l ∈ Ln, l.length ≤ 1000

theorem loan_new (w : World) : LoanP (w.alloc (.cells #[.slice none 0 0, .slice none 0 0] 47)) (fun k => k = w.heap.size) w.heap.size [] :=
  ⟨_, _, heap_alloc_new _ _, PL.nil _ _, rfl, fun k hk => by rw [alloc_size]; omega⟩
theorem book_new (w : World) : BookP (w.alloc (.cells #[.slice none 0 0, .slice none 0 0, .slice none 0 0, .slice none 0 0, .int .i64 0] 50)) (fun k => k = w.heap.size) w.heap.size [] :=
  ⟨_, _, 0, heap_alloc_new _ _, PL.nil _ _, rfl, (fun k hk => by rw [alloc_size]; omega), by omega, Nat.le_refl _, by simp⟩

theorem oi_start (w : World) : OI w (w.heap.size + 1) (w.heap.size + 1 + 1) (w.heap.size + 1 + 1 + 1) 100 0 w.heap.size
    ((((w.alloc (.cells #[.slice none 0 0, .slice none 0 0] 47)).alloc (.cells #[.slice none 0 0, .slice none 0 0, .slice none 0 0, .slice none 0 0, .int .i64 0] 50)).alloc (.cells #[.int .u64 100, .slice none 0 0, .bool false] 56)).alloc (.cells #[.int .i64 100, .slice none 0 0, .bool false] 38)) := by
  obtain ⟨w1, h1⟩ : ∃ w1, w.alloc (.cells #[.slice none 0 0, .slice none 0 0] 47) = w1 := ⟨_, rfl⟩
  have z1 : w1.heap.size = w.heap.size + 1 := by rw [← h1, alloc_size]
  have l1 := loan_new w
  have b1 := alloc_below w (.cells #[.slice none 0 0, .slice none 0 0] 47)
  rw [h1] at l1 b1 ⊢
  obtain ⟨w2, h2⟩ : ∃ w2, w1.alloc (.cells #[.slice none 0 0, .slice none 0 0, .slice none 0 0, .slice none 0 0, .int .i64 0] 50) = w2 := ⟨_, rfl⟩
  have z2 : w2.heap.size = w1.heap.size + 1 := by rw [← h2, alloc_size]
  have k2 := book_new w1
  have b2 := alloc_below w1 (.cells #[.slice none 0 0, .slice none 0 0, .slice none 0 0, .slice none 0 0, .int .i64 0] 50)
  rw [h2] at k2 b2 ⊢
  obtain ⟨w3, h3⟩ : ∃ w3, w2.alloc (.cells #[.int .u64 100, .slice none 0 0, .bool false] 56) = w3 := ⟨_, rfl⟩
  have z3 : w3.heap.size = w2.heap.size + 1 := by rw [← h3, alloc_size]
  have r3 : w3.heap[w2.heap.size]? = some (.cells #[.int .u64 100, .slice none 0 0, .bool false] 56 (0, 0)) := by rw [← h3]; exact heap_alloc_new _ _
  have b3 := alloc_below w2 (.cells #[.int .u64 100, .slice none 0 0, .bool false] 56)
  rw [h3] at b3 ⊢
  obtain ⟨w4, h4⟩ : ∃ w4, w3.alloc (.cells #[.int .i64 100, .slice none 0 0, .bool false] 38) = w4 := ⟨_, rfl⟩
  have z4 : w4.heap.size = w3.heap.size + 1 := by rw [← h4, alloc_size]
  have s4 : w4.heap[w3.heap.size]? = some (.cells #[.int .i64 100, .slice none 0 0, .bool false] 38 (0, 0)) := by rw [← h4]; exact heap_alloc_new _ _
  have b4 := alloc_below w3 (.cells #[.int .i64 100, .slice none 0 0, .bool false] 38)
  rw [h4] at b4 ⊢
  have r4 := (b4.block _ (by omega)).trans r3
  have hr : RdrG w4 (fun k => k = w2.heap.size) w2.heap.size 100 [] false := ⟨_, r4, byt_nil _ _ _ (Nat.zero_le _), rfl, fun h => absurd rfl h, fun k hk => by omega⟩
  have hs : RefN w4 w3.heap.size 100 [] false 0 := ⟨_, s4, byt_nil _ _ _ (Nat.zero_le _), fun h => absurd rfl h⟩
  have e1 : w.heap.size + 1 = w1.heap.size := by omega
  have e2 : w.heap.size + 1 + 1 = w2.heap.size := by omega
  have e3 : w.heap.size + 1 + 1 + 1 = w3.heap.size := by omega
  rw [e3, e2, e1]
  refine ⟨[], false, 0, fun k => k = w1.heap.size, fun k => k = w2.heap.size, fun k => k = w.heap.size, [], [], ⟨(k2.tn (F := fun _ => False) (Tn.of_below b3) fun _ _ q => q).tn (F := fun _ => False) (Tn.of_below b4) fun _ _ q => q, hr, hs, fun j a b => by omega, by omega, by omega, fun j a => by omega, fun j a => by omega, by omega,
      ((b1.trans (b2.mono (by omega))).trans (b3.mono (by omega))).trans (b4.mono (by omega)), Nat.zero_le _⟩, ?_, fun k hk => ⟨Nat.zero_le _, by omega, by omega, by omega, by omega⟩, Nat.zero_le _, Nat.zero_le _, by simp⟩
  exact ((l1.tn (F := fun _ => False) (Tn.of_below b2) fun _ _ q => q).tn (F := fun _ => False) (Tn.of_below b3) fun _ _ q => q).tn (F := fun _ => False) (Tn.of_below b4) fun _ _ q => q

end Go.Proofs.Ytjeeiaelicekhaa
