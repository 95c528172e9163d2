/- Book.closeBytes. -/
import Derived.Test.YtjeeiaelicekhaaPush
import Derived.Deep.CutBlock
namespace Go.Proofs.Ytjeeiaelicekhaa
open Go.RowKit

/-- What the help makes to grow by. -/
def MRow (w : World) (ow : Nat → Nat) (F : Nat → Prop) (i k : Nat) (m : Value) : Prop := Row 0 w 5 m (cel (List.replicate k (mB i))) ∧ ∀ g, m.ownBlock = some g → ow g = 0 ∧ F g
def own0 (ow : Nat → Nat) (s : Nat) : Nat → Nat := fun k => if k = s then 0 else ow k
theorem own0_lt {ow : Nat → Nat} {s k : Nat} (h : k < s) : own0 ow s k = ow k := if_neg (by omega)
theorem own0_at {ow : Nat → Nat} {s : Nat} : own0 ow s s = 0 := if_pos rfl
theorem Fam.app0 {w w' : World} {ow : Nat → Nat} {F : Nat → Prop} {q i k : Nat} {os : List Value} {Ls : List (List UInt8)} {m : Value} {zs : List Value} (h : Fam w ow F q os Ls) (hm : MRow w ow F i k m)
    (hk : ∀ u ys, Row 0 w 5 u ys → (u.ownBlock = m.ownBlock → Agree ys zs) → Row 0 w' 5 u ys) : Fam w' (own0 ow w.heap.size) F q os Ls := fun j o ho => by
  obtain ⟨l, h1, h2, h3⟩ := h j o ho
  refine ⟨l, h1, hk _ _ h2 fun e => ?_, fun k hk => ⟨(own0_lt (h2.lt hk)).trans (h3 k hk).1, (h3 k hk).2⟩⟩
  rcases h2.form with ⟨_, e2⟩ | ⟨g, cap, cur, eo, _⟩
  · rw [e2]
    exact agree_nil _
  · have hg : o.ownBlock = some g := by rw [eo]; rfl
    have a1 := (h3 g hg).1
    have a2 := (hm.2 g (e.symm.trans hg)).1
    omega
theorem MRow.app {w w' : World} {ow : Nat → Nat} {F : Nat → Prop} {i k : Nat} {m m' : Value} (hm : MRow w ow F i k m) (hF : F w.heap.size) (hr : Row 0 w' 5 m' (cel (List.replicate k (mB i) ++ [mB i]))) (hat : m'.ownBlock = m.ownBlock ∨ m'.ownBlock = some w.heap.size) :
    MRow w' (own0 ow w.heap.size) F i (k + 1) m' := by
  rw [← List.replicate_succ'] at hr
  refine ⟨hr, fun g hg => ?_⟩
  rcases hat with h | h
  · rw [h] at hg
    have h1 := hm.2 g hg
    exact ⟨(own0_lt (hm.1.lt hg)).trans h1.1, h1.2⟩
  · rw [h] at hg
    cases hg
    exact ⟨own0_at, hF⟩
theorem CS.app0 {w : World} {G : Nat → Prop} {kb n : Nat} {V W O M : Value} {vs os ms : List Value} {ow : Nat → Nat} {Ls : List (List UInt8)} {wr w' : World} {i k : Nat} {m : Value} {zs : List Value} (h : CS w G kb n V W O M vs os ms ow Ls wr) (hm : MRow wr ow (FG w G) i k m)
    (hg : wr.grownBy w' m.ownBlock) (hk : ∀ u ys, Row 0 wr 5 u ys → (u.ownBlock = m.ownBlock → Agree ys zs) → Row 0 w' 5 u ys) : CS w G kb n V W O M vs os ms (own0 ow wr.heap.size) Ls w' := by
  have hr : ∀ k, m.ownBlock = some k → ∃ cs, wr.heap[k]? = some (.cells cs 5 (0, 0)) := fun k e => (hm.1.block e).2
  exact ⟨keep_not5 hg hr h.head (by decide), h.rowV.cells fun g cur _ hc => keep_not5 hg hr hc (by decide), h.rowO.cells fun g cur _ hc => keep_not5 hg hr hc (by decide), h.rowM.cells fun g cur _ hc => keep_not5 hg hr hc (by decide),
    h.dVO, h.dVM, h.dOM, h.fO, h.fM, h.famV.app0 hm hk, h.famO.app0 hm hk, h.famM.app0 hm hk, FG_tn h.tn (Tn.grown hg fun g e => (hm.2 g e).2)⟩

def C3 (w : World) (G : Nat → Prop) (kb n : Nat) (V W : Value) (vs : List Value) (Ls : List (List UInt8)) (i : Nat) (wr : World) : Prop :=
  ∃ O os ow, CS w G kb n V W O (.slice none 0 0) vs os [] ow Ls wr ∧ os.length = i
theorem C1.c3 {w : World} {G : Nat → Prop} {kb n : Nat} {V W : Value} {vs : List Value} {ow : Nat → Nat} {Ls : List (List UInt8)} {i : Nat} {wr : World} (h : C1 w G kb n V W vs ow Ls i 0 wr) (hi : Ls.length ≤ i) (hG : ∀ v ∈ vs, ∀ k, v.ownBlock = some k → G k) : C3 w G kb n V W vs Ls 0 wr :=
  ⟨.slice none 0 0, [], ow, ⟨h.1, h.2.1, row_none _ _ _, row_none _ _ _, (fun _ _ e => by cases e), (fun _ _ e => by cases e), (fun _ e => by cases e), (fun _ e => by cases e), (fun _ e => by cases e), h.fam hi hG, (fun _ _ e => by simp at e), (fun _ _ e => by simp at e), h.2.2.1⟩, rfl⟩

theorem cel_mB (i : Nat) : cel [mB i] = [.int .u8 (125 + (i : Int) % 125)] := by
  rw [← mB_nat]
  rfl

/-- One mark more. -/
theorem CS.more {w : World} {G : Nat → Prop} {kb n : Nat} {V W O M : Value} {vs os ms : List Value} {ow : Nat → Nat} {Ls : List (List UInt8)} {wr w' : World} {i p N : Nat} {v v' : Value} {l : List UInt8} {o : Obj} (h : CS w G kb n V W O M vs os ms ow Ls wr) (hl : Ls[i]? = some l) (hn : l.length = N) (hv : One wr ow (FG w G) i N p v)
    (hr : Row 0 w' 5 v' (cel (spare i N p ++ [mB i]))) (hg : (wr.alloc o).grownBy w' v.ownBlock) (hat : v'.ownBlock = v.ownBlock ∨ v'.ownBlock = some (wr.alloc o).heap.size)
    (hk : ∀ u ys, Row 0 (wr.alloc o) 5 u ys → (u.ownBlock = v.ownBlock → Agree ys (cel (spare i N p ++ [mB i]))) → Row 0 w' 5 u ys) :
    ∃ ow', CS w G kb n V W O M vs os ms ow' Ls w' ∧ One w' ow' (FG w G) i N (p + 1) v' := by
  have h1 := h.below (alloc_below wr o)
  have v1 := hv.keep (keep5_below (alloc_below wr o))
  have e : spare i N p ++ [mB i] = spare i N (p + 1) := spare_snoc i N p 1
  rw [e] at hk
  refine ⟨own1 ow (wr.alloc o).heap.size i, h1.app hl hn v1 hg hk, v1.app (k := 1) (.inr ?_) hr hat⟩
  have := h1.tn.size
  exact this

def C4 (w : World) (G : Nat → Prop) (kb n : Nat) (V W O : Value) (vs os : List Value) (Ls : List (List UInt8)) (i : Nat) (wr : World) : Prop :=
  ∃ M ms ow, CS w G kb n V W O M vs os ms ow Ls wr ∧ ms.length = i

theorem CS.more0 {w : World} {G : Nat → Prop} {kb n : Nat} {V W O M : Value} {vs os ms : List Value} {ow : Nat → Nat} {Ls : List (List UInt8)} {wr w' : World} {i p : Nat} {m m' : Value} {o : Obj} (h : CS w G kb n V W O M vs os ms ow Ls wr) (hm : MRow wr ow (FG w G) i p m)
    (hr : Row 0 w' 5 m' (cel (List.replicate p (mB i) ++ [mB i]))) (hg : (wr.alloc o).grownBy w' m.ownBlock) (hat : m'.ownBlock = m.ownBlock ∨ m'.ownBlock = some (wr.alloc o).heap.size)
    (hk : ∀ u ys, Row 0 (wr.alloc o) 5 u ys → (u.ownBlock = m.ownBlock → Agree ys (cel (List.replicate p (mB i) ++ [mB i]))) → Row 0 w' 5 u ys) :
    ∃ ow', CS w G kb n V W O M vs os ms ow' Ls w' ∧ MRow w' ow' (FG w G) i (p + 1) m' := by
  have h1 := h.below (alloc_below wr o)
  have v1 : MRow (wr.alloc o) ow (FG w G) i p m := ⟨hm.1.below (alloc_below _ _), hm.2⟩
  refine ⟨own0 ow (wr.alloc o).heap.size, h1.app0 v1 hg hk, v1.app (.inr ?_) hr hat⟩
  have := h1.tn.size
  exact this

/-- A list of i grows by many. -/
theorem CS.many {w : World} {G : Nat → Prop} {kb n : Nat} {V W O M : Value} {vs os ms : List Value} {ow : Nat → Nat} {Ls : List (List UInt8)} {wr w' : World} {i N : Nat} {v v' : Value} {l : List UInt8} (h : CS w G kb n V W O M vs os ms ow Ls wr) (hl : Ls[i]? = some l) (hn : l.length = N) (hv : One wr ow (FG w G) i N 0 v)
    (hr : Row 0 w' 5 v' (cel (spare i N 0 ++ List.replicate 700 (mB i)))) (hg : wr.grownBy w' v.ownBlock) (hat : v'.ownBlock = v.ownBlock ∨ v'.ownBlock = some wr.heap.size)
    (hk : ∀ u ys, Row 0 wr 5 u ys → (u.ownBlock = v.ownBlock → Agree ys (cel (spare i N 0 ++ List.replicate 700 (mB i)))) → Row 0 w' 5 u ys) :
    CS w G kb n V W O M vs os ms (own1 ow wr.heap.size i) Ls w' ∧ One w' (own1 ow wr.heap.size i) (FG w G) i N 700 v' := by
  have e : spare i N 0 ++ List.replicate 700 (mB i) = spare i N 700 := by rw [spare_snoc, Nat.zero_add]
  rw [e] at hk
  refine ⟨h.app hl hn hv hg hk, ?_⟩
  have := hv.app (k := 700) (.inr h.tn.size) hr hat
  rwa [Nat.zero_add] at this

set_option maxRecDepth 100000 in
set_option maxHeartbeats 4000000 in
theorem close_bytes (w : World) (G : Nat → Prop) (kb n : Nat) (V W : Value) (vs : List Value) (ow : Nat → Nat) (Ls : List (List UInt8)) (h1 : w.heap[kb]? = some (.cells (B5 n V W) 50 (0, 0))) (hV : Row 0 w 31 V vs) (e1 : Ents w ow (fun i => i + 1) vs Ls)
    (g1 : ∀ v ∈ vs, ∀ k, v.ownBlock = some k → G k) (gn : G kb) (hn : Ls.length ≤ 1000000) (hll : ∀ l ∈ Ls, l.length ≤ 10000) :
    Calls Try.prog 26 #[.pointer (some ⟨kb, 0, none⟩)] w fun e w' => e = .returned (.bool true) ∧ Tn G w w' := by
  have hvl : vs.length = Ls.length := e1.1
  have h0 : C1 w G kb n V W vs ow Ls 0 0 w := ⟨h1, hV, Tn.refl _ _, Ls, e1, rfl, fun j l m hl hm => by rw [hl] at hm; cases hm; exact ⟨rfl, fun h => by omega, fun _ => by simp⟩⟩
  have HG := Lib.hid g1
  have HVL := Lib.hid hvl
  have HLL := Lib.hid hll
  have hv6 : vs.length ≤ 1000000 := by omega
  clear h1 hV e1 g1 hvl hll
  go_enter Try.func26, Try.ntmps26
  go_upto_block 0 with fail
  go_cut [] (fun wx => C1 w G kb n V W vs ow Ls Ls.length 0 wx)
  case first =>
    go_wp2_with fail
    go_loopw [3] (fun i wr => ∃ k : Nat, i = .int .i64 k ∧ k ≤ Ls.length ∧ C1 w G kb n V W vs ow Ls k 0 wr) (fun i _ => Ls.length - (intOf i).toNat)
    case atStart => exact ⟨0, rfl, Nat.zero_le _, h0⟩
    case round =>
      clear h0
      obtain ⟨k, rfl, hk, hI⟩ := hrel
      obtain ⟨p0, _⟩ := B5_cells hI.1
      by_cases c1 : k < Ls.length
      · obtain ⟨l, hl⟩ : ∃ l, Ls[k]? = some l := ⟨_, List.getElem?_eq_getElem c1⟩
        obtain ⟨gV, cV, A, c, m, eV, d0, rv, hml⟩ := hI.at hl
        subst eV
        have v1 : k < vs.length := by rw [HVL.out]; exact c1
        have hl6 := HLL.out l (List.mem_of_getElem? hl)
        have HI := Lib.hid hI
        have HL := Lib.hid hl
        clear hI rv hml hl
        go_wp2_with fail
        obtain ⟨wo, hwo⟩ : ∃ wo, wr = wo := ⟨_, rfl⟩
        subst hwo
        go_loopw [4] (fun j wx => ∃ q : Nat, j = .int .i64 q ∧ q ≤ l.length ∧ C1 w G kb n (.slice (some ⟨gV, 0, none⟩) vs.length cV) W vs ow Ls k q wx) (fun j _ => l.length - (intOf j).toNat)
        case atStart => exact ⟨0, rfl, Nat.zero_le _, HI.out⟩
        case round =>
          clear HI p0 d0
          obtain ⟨q, rfl, hq, hJ⟩ := hrel
          obtain ⟨p0, _⟩ := B5_cells hJ.1
          obtain ⟨gV', cV', A2, c2, m2, eV, d0, rv, hml⟩ := hJ.at HL.out
          cases eV
          by_cases c3 : q < l.length
          · obtain ⟨g, cap, e, f0, f1, f2⟩ := rv.at5 (k := q) (by omega)
            rw [hml] at e
            cases e
            have HJ := Lib.hid (hJ.store HL.out ⟨_, _, rfl⟩ d0 c3 HG.out)
            rw [mA_nat] at HJ
            generalize (m2[q].toNat : Int) = x at f0
            have hk0 : (0 : Int) ≤ (k : Int) := by omega
            clear hJ rv f2 hml
            go_wp2_with fail
            exact ⟨⟨q + 1, by go_num, by omega, HJ.out⟩, by simp [intOf]; omega⟩
          · have HJ := Lib.hid (hJ.next HL.out (by omega))
            clear hJ rv hml
            go_wp2_with fail
            exact ⟨⟨k + 1, by go_num, by omega, HJ.out⟩, by simp [intOf]; omega⟩
      · obtain rfl : k = Ls.length := by omega
        obtain ⟨A, c, e⟩ := hI.2.1.slice
        subst e
        have v1 : vs.length ≤ Ls.length := by rw [HVL.out]; omega
        have HI := Lib.hid hI
        clear hI
        go_wp2_with fail
        go_meet
        exact HI.out
  case rest =>
    clear h0
    generalize wc = wb at *
    have h0 := hcut.c3 (Nat.le_refl _) HG.out
    clear hcut HG
    go_upto_block 4 with fail
    go_cut [] (fun wx => C3 w G kb n V W vs Ls Ls.length wx)
    case first =>
      go_wp2_with fail
      go_loopw [5] (fun i wr => ∃ k : Nat, i = .int .i64 k ∧ k ≤ Ls.length ∧ C3 w G kb n V W vs Ls k wr) (fun i _ => Ls.length - (intOf i).toNat)
      case atStart => exact ⟨0, rfl, Nat.zero_le _, h0⟩
      case round =>
        clear h0
        obtain ⟨k, rfl, hk, O, os, ow, hC, hol⟩ := hrel
        obtain ⟨p0, _⟩ := B6_cells hC.head
        by_cases c1 : k < Ls.length
        · obtain ⟨l, hl⟩ : ∃ l, Ls[k]? = some l := ⟨_, List.getElem?_eq_getElem c1⟩
          have v1 : k < vs.length := by rw [HVL.out]; exact c1
          have hvk : vs[k]? = some vs[k] := List.getElem?_eq_getElem v1
          obtain ⟨gV, cV, eV, d0, _⟩ := hC.rowV.at31 hvk
          obtain ⟨l', e2, o1⟩ := hC.famV.one hvk
          rw [hl] at e2
          obtain rfl := Option.some.inj e2
          obtain ⟨A, c, ex⟩ := o1.1.slice
          rw [cel_length, spare_length, Nat.add_zero] at ex
          have hn6 := HLL.out l (List.mem_of_getElem? hl)
          generalize hN : l.length = N at *
          rw [ex] at d0 o1
          subst eV
          have HC := Lib.hid hC
          have HL := Lib.hid hl
          have HN := Lib.hid hN
          have HO := Lib.hid o1
          have HOL := Lib.hid hol
          clear hC hl hN o1 hol hvk ex
          go_wp2_with fail
          obtain ⟨wo, hwo⟩ : ∃ wo, wr = wo := ⟨_, rfl⟩
          subst hwo
          go_loopw [6, 7] (fun x j wx => ∃ (p : Nat) (ow' : Nat → Nat), j = .int .i64 p ∧ p ≤ 16 ∧ CS w G kb n (.slice (some ⟨gV, 0, none⟩) vs.length cV) W O (.slice none 0 0) vs os [] ow' Ls wx ∧ One wx ow' (FG w G) k N p x) (fun _ j _ => 16 - (intOf j).toNat)
          case atStart => exact ⟨0, ow, rfl, Nat.zero_le _, HC.out, HO.out⟩
          case round =>
            clear HC HO p0 d0
            obtain ⟨p, ow', rfl, hp, hC, hO⟩ := hrel
            obtain ⟨A2, c2, ex⟩ := hO.1.slice
            rw [cel_length, spare_length] at ex
            subst ex
            have HC := Lib.hid hC
            have HO := Lib.hid hO
            have hk0 : (0 : Int) ≤ (k : Int) := by omega
            by_cases c3 : p < 16
            · clear hC hO
              go_wp2_with (at_builtin; first
                | (refine app_bytes2 rfl (.tmp 64) (.tmp 69) rfl 0 (spare k N p) [mB k] (HO.out.1.below (alloc_below _ _)) (by rw [cel_mB]; exact src_cells _ 5 _ 1 (Nat.le_refl _) (heap_alloc_new _ _)) (by rw [spare_length]; simp; omega) (Nat.zero_le _) ?_
                   intro v8 w8 hown8 hg8 hat8 hk8
                   have HM := Lib.hid (HC.out.more HL.out HN.out HO.out hown8 hg8 hat8 hk8)
                   clear hown8 hg8 hat8 hk8 HC HO))
              obtain ⟨ow2, m1, m2⟩ := HM.out
              exact ⟨⟨p + 1, ow2, by go_num, by omega, m1, m2⟩, by simp [intOf]; omega⟩
            · obtain rfl : p = 16 := by omega
              obtain ⟨_, p2, _, q2, _⟩ := B6_cells hC.head
              obtain ⟨AO, cO, eO⟩ := hC.rowO.slice
              subst eO
              have hos6 : os.length ≤ 1000000 := by rw [HOL.out]; omega
              clear hC hO
              go_wp2_with (at_builtin; first
                | (refine app_lists rfl (.tmp 75) (.tmp 77) rfl 0 os [_] (HC.out.rowO.below (alloc_below _ _)) (src_cells _ 31 _ 1 (Nat.le_refl _) (heap_alloc_new _ _)) (by intro u hu; rw [List.mem_singleton.1 hu]; rfl) (by simp; omega) (Nat.zero_le _) ?_
                   intro v8 w8 hown8 hg8 hat8
                   obtain ⟨x1, x2⟩ := HC.out.pushO (.inl gn) (by rw [HOL.out]; exact HL.out) HN.out (by rw [HOL.out]; exact HO.out) hown8 hg8 hat8
                   obtain ⟨_, n2, _, m2, _⟩ := B6_cells x1
                   obtain ⟨A8, c8, e8⟩ := hown8.slice
                   rw [List.length_append, List.length_singleton] at e8
                   subst e8
                   have HM := Lib.hid x2
                   clear hown8 hg8 hat8 HC HO x1 x2))
              exact ⟨⟨k + 1, by go_num, by omega, _, _, _, HM.out, by rw [List.length_append, List.length_singleton, HOL.out]⟩, by simp [intOf]; omega⟩
        · obtain rfl : k = Ls.length := by omega
          obtain ⟨A, c, e⟩ := hC.rowV.slice
          subst e
          have v1 : vs.length ≤ Ls.length := by rw [HVL.out]; omega
          have HC := Lib.hid hC
          have HOL := Lib.hid hol
          clear hC hol
          go_wp2_with fail
          go_meet
          exact ⟨_, _, _, HC.out, HOL.out⟩
    case rest =>
      clear h0
      generalize wc = wd at *
      obtain ⟨O, os, ow2, hC, hol⟩ := hcut
      obtain ⟨p0, p2, _⟩ := B6_cells hC.head
      have HC := Lib.hid hC
      have HOL := Lib.hid hol
      clear hC hol
      go_wp2_with fail
      refine (look_any _ kb V O vs os Ls ow2 (FG w G) 16 p0 HC.out.rowV HC.out.rowO HC.out.famV HC.out.famO (by rw [HVL.out, HOL.out]) (by omega) (by rw [HOL.out]; exact hn) HLL.out).mono ?_
      rintro e w' ⟨rfl, m, rfl⟩
      have HC := Lib.hid (HC.out.drewN m)
      clear p0 p2
      generalize wd.drewN m = we at *
      have h0 : C4 w G kb n V W O vs os Ls 0 we := ⟨_, _, _, HC.out, rfl⟩
      clear HC
      go_upto_block 8 with fail
      go_cut [] (fun wx => C4 w G kb n V W O vs os Ls Ls.length wx)
      case first =>
        go_wp2_with fail
        go_loopw [8] (fun i wr => ∃ k : Nat, i = .int .i64 k ∧ k ≤ Ls.length ∧ C4 w G kb n V W O vs os Ls k wr) (fun i _ => Ls.length - (intOf i).toNat)
        case atStart => exact ⟨0, rfl, Nat.zero_le _, h0⟩
        case round =>
          clear h0
          obtain ⟨k, rfl, hk, M, ms, ow, hC, hml⟩ := hrel
          obtain ⟨p0, _⟩ := B6_cells hC.head
          by_cases c1 : k < Ls.length
          · obtain ⟨l, hl⟩ : ∃ l, Ls[k]? = some l := ⟨_, List.getElem?_eq_getElem c1⟩
            have v1 : k < vs.length := by rw [HVL.out]; exact c1
            have hvk : vs[k]? = some vs[k] := List.getElem?_eq_getElem v1
            have HC := Lib.hid hC
            have HL := Lib.hid hl
            have HML := Lib.hid hml
            have HVK := Lib.hid hvk
            have hrow := hC.rowV
            obtain ⟨AV, cV, eV⟩ := hrow.slice
            rw [eV] at p0
            have HEV := Lib.hid eV
            have hl6 := HLL.out l (List.mem_of_getElem? hl)
            clear hC hl hml hvk hrow eV
            go_wp2_with fail
            obtain ⟨wo, hwo⟩ : ∃ wo, wr = wo := ⟨_, rfl⟩
            subst hwo
            go_loopw [9, 10] (fun x j wx => ∃ (p : Nat) (ow' : Nat → Nat), j = .int .i64 p ∧ p ≤ 700 ∧ CS w G kb n V W O M vs os ms ow' Ls wx ∧ MRow wx ow' (FG w G) k p x) (fun _ j _ => 700 - (intOf j).toNat)
            case atStart => exact ⟨0, ow, rfl, Nat.zero_le _, HC.out, row_none _ _ _, fun g e => by cases e⟩
            case round =>
              clear HC p0
              obtain ⟨p, ow', rfl, hp, hC, hM⟩ := hrel
              obtain ⟨A2, c2, ex⟩ := hM.1.slice
              rw [cel_length, List.length_replicate] at ex
              subst ex
              have hk0 : (0 : Int) ≤ (k : Int) := by omega
              by_cases c3 : p < 700
              · have HC := Lib.hid hC
                have HM := Lib.hid hM
                clear hC hM
                go_wp2_with (at_builtin; first
                  | (refine app_bytes2 rfl (.tmp 101) (.tmp 106) rfl 0 (List.replicate p (mB k)) [mB k] (HM.out.1.below (alloc_below _ _)) (by rw [cel_mB]; exact src_cells _ 5 _ 1 (Nat.le_refl _) (heap_alloc_new _ _)) (by simp; omega) (Nat.zero_le _) ?_
                     intro v8 w8 hown8 hg8 hat8 hk8
                     have HN := Lib.hid (HC.out.more0 HM.out hown8 hg8 hat8 hk8)
                     clear hown8 hg8 hat8 hk8 HC HM))
                obtain ⟨ow2, m1, m2⟩ := HN.out
                exact ⟨⟨p + 1, ow2, by go_num, by omega, m1, m2⟩, by simp [intOf]; omega⟩
              · obtain rfl : p = 700 := by omega
                obtain ⟨p0, p2, p3, q2, q3⟩ := B6_cells hC.head
                obtain ⟨gV, cV', eV, d0, _⟩ := hC.rowV.at31 HVK.out
                obtain ⟨l', e2, o1⟩ := hC.famV.one HVK.out
                have e3 : Ls[k]? = some l' := e2
                rw [HL.out] at e3
                obtain rfl := Option.some.inj e3
                clear e2 e3
                obtain ⟨A, c, ex⟩ := o1.1.slice
                rw [cel_length, spare_length, Nat.add_zero] at ex
                obtain ⟨AM, cM, eM⟩ := hC.rowM.slice
                rw [ex] at d0 o1
                rw [eM] at p3
                rw [eV] at p0
                have hms6 : ms.length ≤ 1000000 := by rw [HML.out]; omega
                have HC := Lib.hid hC
                have HM := Lib.hid hM
                have HO := Lib.hid o1
                have HEM := Lib.hid eM
                clear hC hM o1 ex eM eV p2 q2
                have HS := Lib.hid HM.out.1.src
                go_wp2_with fail
                go_region_law
                  (first
                  | (refine step_bytes (by rfl) (.tmp 119) (.tmp 120) (by rfl) 0 (spare k l.length 0) (List.replicate 700 (mB k)) _ _ (by rfl) (by rfl) HO.out.1 HS.out (by rw [spare_length, List.length_replicate]; omega) (Nat.zero_le _) ?_
                     intro v9 w9 hown9 hg9 hat9 hk9
                     have X9 := HC.out.many HL.out rfl HO.out hown9 (grown_drew hg9) hat9 hk9
                     obtain ⟨_, _, p39, _, q39⟩ := B6_cells X9.1.head
                     rw [HEM.out] at p39
                     obtain ⟨A9, c9, e9⟩ := hown9.slice
                     rw [cel_length, List.length_append, spare_length, List.length_replicate] at e9
                     subst e9
                     obtain ⟨u9, x9⟩ := s_alloc (.cells #[.slice A9 (l.length + 0 + 700) c9] 31) ⟨p39, q39⟩
                     have X9 := Lib.hid X9
                     clear hown9 hg9 hat9 hk9)
                  | (refine step_lists (by rfl) (.tmp 112) (.tmp 122) (by rfl) 0 ms [_] _ _ (by rfl) (by rfl) (by rw [← HEM.out]; exact X9.out.1.rowM.below (alloc_below _ _)) (src_cells _ 31 _ 1 (Nat.le_refl _) (heap_alloc_new _ _)) (by intro u hu; rw [List.mem_singleton.1 hu]; rfl) (by simp; omega) (Nat.zero_le _) ?_
                     intro v10 w10 hown10 hg10 hat10
                     rw [← HEM.out] at hg10 hat10
                     obtain ⟨x1, x2⟩ := X9.out.1.pushM (.inl gn) (by rw [HML.out]; exact HL.out) rfl (by rw [HML.out]; exact X9.out.2) hown10 hg10 hat10
                     obtain ⟨_, _, s10, _, t10⟩ := B6_cells x1
                     obtain ⟨A10, c10, e10⟩ := hown10.slice
                     rw [List.length_append, List.length_singleton] at e10
                     subst e10
                     have HN := Lib.hid x2
                     clear hown10 hg10 hat10 x1 x2))
                all_goals
                  go_wp2_with fail
                  exact ⟨⟨k + 1, by go_num, by omega, _, _, _, HN.out, by rw [List.length_append, List.length_singleton, HML.out]⟩, by simp [intOf]; omega⟩
          · obtain rfl : k = Ls.length := by omega
            obtain ⟨A, c, e⟩ := hC.rowV.slice
            subst e
            have v1 : vs.length ≤ Ls.length := by rw [HVL.out]; omega
            have HC := Lib.hid hC
            have HML := Lib.hid hml
            clear hC hml
            go_wp2_with fail
            go_meet
            exact ⟨_, _, _, HC.out, HML.out⟩
      case rest =>
        clear h0
        generalize wc = wf at *
        obtain ⟨M, ms, ow3, hC, hml⟩ := hcut
        obtain ⟨p0, p2, p3, _⟩ := B6_cells hC.head
        have HC := Lib.hid hC
        have HML := Lib.hid hml
        clear hC hml
        go_wp2_with fail
        refine (look_any _ kb V M vs ms Ls ow3 (FG w G) 700 p0 HC.out.rowV HC.out.rowM HC.out.famV HC.out.famM (by rw [HVL.out, HML.out]) (by omega) (by rw [HML.out]; exact hn) HLL.out).mono ?_
        rintro e w' ⟨rfl, m, rfl⟩
        have HC := Lib.hid (HC.out.drewN m)
        have p0 : (wf.drewN m).cell? ⟨kb, 0, none⟩ = some V := (B6_cells HC.out.head).1
        have p2 : (wf.drewN m).cell? ⟨kb, 2, none⟩ = some O := (B6_cells HC.out.head).2.1
        generalize wf.drewN m = wg at *
        go_wp2_with fail
        refine (look_any _ kb V O vs os Ls ow3 (FG w G) 16 p0 HC.out.rowV HC.out.rowO HC.out.famV HC.out.famO (by rw [HVL.out, HOL.out]) (by omega) (by rw [HOL.out]; exact hn) HLL.out).mono ?_
        rintro e w' ⟨rfl, m, rfl⟩
        have HT := Lib.hid (HC.out.drewN m).tn
        clear p0 p2 HC
        go_wp2_with fail
        go_ret
        exact ⟨rfl, HT.out⟩

end Go.Proofs.Ytjeeiaelicekhaa
