/- LeaseSteps: the law's walk. -/
import Derived.Test.YtfmcpcciokogiaaTwo
import Derived.Test.YtfmcpcciokogiaaNeverW
import Derived.Deep.DeepCutAuto
import Derived.Deep.CutBlock
namespace Go.Proofs.Ytfmcpcciokogiaa
open Go.RowKit Fl

/-- Both heaps after some calls: alike. -/
def Alike (w : World) (ha hb n : Nat) (wr : World) : Prop :=
  ∃ Ga Gb LA LB T, Two w wr Ga Gb ha hb LA LB T T ∧ pr LA = pr LB ∧ T ≤ n

theorem Acts.at {w wr : World} {a : Option Addr} {len : Nat} {on dO : Nat → Int} {key : Nat → ByteArray} {fl : Nat → Nat} (h : ∀ i, i < len → ∃ b off, a = some ⟨b, off, none⟩ ∧ b < w.heap.size ∧ w.cell? ⟨b, off + i * 4, none⟩ = some (.int .i64 (on i)) ∧ w.cell? ⟨b, off + i * 4 + 1, none⟩ = some (.int .i64 (dO i)) ∧
    w.cell? ⟨b, off + i * 4 + 2, none⟩ = some (.string (key i)) ∧ w.cell? ⟨b, off + i * 4 + 3, none⟩ = some (.int .u64 (fl i)) ∧ (key i).size ≤ maxLen ∧ -9223372036854775808 ≤ on i ∧ on i < 9223372036854775808) (hB : Below w.heap.size w wr) {i : Nat} (hi : i < len) :
    ∃ b off, a = some ⟨b, off, none⟩ ∧ b < w.heap.size ∧ wr.cell? ⟨b, off + i * 4, none⟩ = some (.int .i64 (on i)) ∧ wr.cell? ⟨b, off + i * 4 + 1, none⟩ = some (.int .i64 (dO i)) ∧
      wr.cell? ⟨b, off + i * 4 + 2, none⟩ = some (.string (key i)) ∧ wr.cell? ⟨b, off + i * 4 + 3, none⟩ = some (.int .u64 (fl i)) ∧ (key i).size ≤ maxLen := by
  obtain ⟨b, off, rfl, hlt, h0, h1, h2, h3, h4, _⟩ := h i hi
  exact ⟨b, off, rfl, hlt, (hB.cell (p := ⟨b, off + i * 4, none⟩) hlt).trans h0, (hB.cell (p := ⟨b, off + i * 4 + 1, none⟩) hlt).trans h1, (hB.cell (p := ⟨b, off + i * 4 + 2, none⟩) hlt).trans h2, (hB.cell (p := ⟨b, off + i * 4 + 3, none⟩) hlt).trans h3, h4⟩

def fInf : Nat := 9218868437227405312
/-- Between two steps. -/
def SInv (w ws : World) (Ga Gb : Nat → Prop) (ha hb N T : Nat) (LB : List It) (one : Value) (wx : World) : Prop :=
  ∃ ks LA, Two w wx Ga Gb ha hb LA LB T T ∧ Row ws.heap.size wx 9 one (tv ks) ∧ ks ++ (due (pr LA) fInf).1 = (due (pr LB) fInf).1 ∧ ks.length + LA.length = N ∧ ws.heap.size ≤ wx.heap.size

/-- What the heap's own answer is in pairs. -/
theorem due_own (L : List It) (f : Nat) : ∃ J L', (dueL L.length L f).1 = J ∧ (dueL L.length L f).2 = L' ∧ (due (pr L) f).1 = J ∧ (due (pr L) f).2 = pr L' := by
  rw [due_pr]
  exact ⟨_, _, rfl, rfl, rfl, rfl⟩
theorem due_mem (P : List Pr) (f : Nat) : ∀ s ∈ (due P f).1, ∃ p ∈ P, p.1 = s := by
  refine due_ind (p := fun P => ∀ s ∈ (due P f).1, ∃ p ∈ P, p.1 = s) (fun s hs => by simp [due_nil] at hs) (fun P x h ih s hs => ?_) P
  cases hf : isLe x.2 f with
  | true =>
    rw [due_go h hf] at hs
    dsimp only at hs
    rcases List.mem_cons.1 hs with rfl | hs
    · exact ⟨x, minP_mem h, rfl⟩
    · obtain ⟨p, hp, e⟩ := ih s hs
      exact ⟨p, (List.mem_filter.1 hp).1, e⟩
  | false =>
    rw [due_stop h hf] at hs
    simp at hs
theorem due_size {L : List It} {T f : Nat} (h : Neat L T) : ∀ s ∈ (due (pr L) f).1, s.size ≤ maxLen := fun s hs => by
  obtain ⟨p, hp, rfl⟩ := due_mem _ _ s hs
  obtain ⟨x, hx, rfl⟩ := List.mem_map.1 hp
  exact (h.2 x hx).1

/-- What the append of what is due asks for. -/
theorem cat_texts {B B' : Nat} {w5 : World} {one v : Value} {ks js : List ByteArray} (h : Row B w5 9 one (tv ks)) (k : Row B' w5 9 v (tv js)) (hB : B ≤ w5.heap.size) (h1 : ks.length ≤ 1000000) (h2 : js.length ≤ 1000000) :
    Row B w5 9 one (tv ks) ∧ Src w5 v (tv js) ∧ (∀ u ∈ tv js, u.oneCell' = true) ∧ ((tv ks).length + (tv js).length) * 16 ≤ 140737488355328 ∧ B ≤ w5.heap.size :=
  ⟨h, k.src, fun u hu => by obtain ⟨x, _, rfl⟩ := List.mem_map.1 hu; rfl, by rw [tv_length, tv_length]; omega, hB⟩

set_option maxRecDepth 100000 in
set_option maxHeartbeats 4000000 in
theorem steps_walk (a : Option Addr) (len cap : Nat) (on dO : Nat → Int) (key : Nat → ByteArray) (fl : Nat → Nat) (a2 : Option Addr) (len2 cap2 : Nat) (w : World) (hp : Acts w a len on dO key fl) (hq : Us w a2 len2) :
    Calls Try.prog 3 #[.slice a len cap, .slice a2 len2 cap2] w fun e w' => e = .returned (.bool true) ∧ Below w.heap.size w w' := by
  have HP := Lib.hid hp.2
  have hlm := hp.1
  have HQ := Lib.hid hq.2
  have hlm2 := hq.1
  clear hp hq
  go_enter Try.func3, Try.ntmps3
  go_wp2_with fail
  refine (new_any w).mono ?_
  rintro e w1 ⟨rfl, h1, hB1, _⟩
  obtain ⟨ha, hha⟩ : ∃ h, h = w.heap.size + 1 := ⟨_, rfl⟩
  rw [← hha] at h1 ⊢
  clear hha
  go_wp2_with fail
  refine (new_any w1).mono ?_
  rintro e w2 ⟨rfl, h2, hB2, _⟩
  obtain ⟨hb, hhb⟩ : ∃ h, h = w1.heap.size + 1 := ⟨_, rfl⟩
  rw [← hhb] at h2 ⊢
  clear hhb
  have h0 := two_new h1 (fun k hk => hk.1) (below_turned hB1) h2 (fun k hk => hk.1) hB2
  clear h1 hB1 h2 hB2
  go_wp2_with fail
  refine (wakes_any _).mono ?_
  rintro e w3 ⟨rfl, hB3⟩
  have h0 : Alike w ha hb 0 w3 := ⟨_, _, _, _, _, h0.below hB3, rfl, Nat.le_refl _⟩
  clear hB3
  go_upto_block 0 with fail
  go_cut [] (fun wx => Alike w ha hb 200 wx)
  case first =>
    go_wp2_with fail
    go_loopw [7] (fun i wr => ∃ k : Nat, i = .int .i64 k ∧ k ≤ 200 ∧ Alike w ha hb k wr) (fun i _ => 200 - (intOf i).toNat)
    case atStart => exact ⟨0, rfl, by omega, h0⟩
    case round =>
      clear h0
      obtain ⟨k, rfl, hk, ⟨Ga, Gb, LA, LB, T, hTwo, hpr, hT⟩⟩ := hrel
      have HPR := Lib.hid hpr
      clear hpr
      by_cases c1 : k < len ∧ k < 200
      · obtain ⟨c1, c2⟩ := c1
        obtain ⟨b, off, rfl, hlt, g0, g1, g2, g3, hks⟩ := Acts.at HP.out (turned_below (Nat.le_refl _) hTwo.2.2.2.2.2) c1
        generalize key k = s at *
        generalize fl k = f at *
        clear g0 g1
        have HT := Lib.hid (text_any s wr)
        go_wp2_with fail
        refine HT.out.mono ?_
        rintro e w4 ⟨rfl, rfl⟩
        have hcs := cutT_small hks
        generalize cutT s = ks at *
        clear HT
        cases e1 : isNe f f with
        | true =>
          go_wp2_with fail
          refine (set_nan _ _ _ _ e1).mono ?_
          rintro e w5 ⟨rfl, rfl⟩
          go_wp2_with fail
          refine (set_nan _ _ _ _ e1).mono ?_
          rintro e w5 ⟨rfl, rfl⟩
          have HN := Lib.hid (show Alike w ha hb (k + 1) wr from ⟨Ga, Gb, LA, LB, T, hTwo, HPR.out, by omega⟩)
          clear hTwo
          go_wp2_with fail
          exact ⟨⟨k + 1, by go_num, by omega, HN.out⟩, by simp [intOf]; omega⟩
        | false =>
          go_wp2_with fail
          refine (set_any wr Ga ha T LA ks f hTwo.1 e1 (by omega) hcs).mono ?_
          rintro e w5 ⟨rfl, b5, h5, t5⟩
          obtain ⟨Ga5, hTwo5⟩ := hTwo.grow h5 t5
          clear hTwo h5 t5
          go_wp2_with fail
          refine (set_any w5 Gb hb T LB ks f hTwo5.2.1 e1 (by omega) hcs).mono ?_
          rintro e w6 ⟨rfl, b6, h6, t6⟩
          obtain ⟨Gb6, hTwo6⟩ := hTwo5.swap.grow h6 t6
          have HN := Lib.hid (show Alike w ha hb (k + 1) w6 from ⟨_, _, _, _, _, hTwo6.swap, set_pr HPR.out, by omega⟩)
          clear hTwo5 h6 t6 hTwo6
          go_wp2_with fail
          exact ⟨⟨k + 1, by go_num, by omega, HN.out⟩, by simp [intOf]; omega⟩
      · have HN := Lib.hid (show Alike w ha hb 200 wr from ⟨Ga, Gb, LA, LB, T, hTwo, HPR.out, by omega⟩)
        clear hTwo
        go_wp2_with fail
        all_goals
          go_meet
          exact HN.out
  case rest =>
    generalize wc = ws at *
    clear h0
    obtain ⟨Ga, Gb, LA, LB, T, hTwo, hpr, hT⟩ := hcut
    have HPR := Lib.hid hpr
    clear hpr
    go_wp2_with fail
    refine (count_any _ _ _ _ _ hTwo.1).mono ?_
    rintro e w4 ⟨rfl, rfl⟩
    go_wp2_with fail
    refine (inf_neg _).mono ?_
    rintro e w4 ⟨rfl, rfl⟩
    have gA := hTwo.1.parts.1
    have gB := hTwo.2.1.parts.1
    have nB := hTwo.2.1.parts.2.1
    have h0 : SInv w ws Ga Gb ha hb LA.length T LB (.slice none 0 0) ws := ⟨[], LA, hTwo, ⟨rfl, .inl ⟨rfl, rfl⟩⟩, by rw [HPR.out]; rfl, by simp, Nat.le_refl _⟩
    have hws : w.heap.size ≤ ws.heap.size := hTwo.2.2.2.2.2.2.2.2.1
    have hLN : LA.length ≤ T := hTwo.1.parts.2.2
    generalize hN : LA.length = N at *
    clear hTwo HPR hN
    go_upto_block 2 with fail
    go_cut [11] (fun one wx => SInv w ws Ga Gb ha hb N T LB one wx)
    case first =>
      go_wp2_with fail
      go_loopw [11, 12, 13] (fun one last i wx => ∃ (k x : Nat), i = .int .i64 k ∧ k ≤ 50 ∧ last = .float .f64 x ∧ SInv w ws Ga Gb ha hb N T LB one wx) (fun _ _ i _ => 50 - (intOf i).toNat)
      case atStart => exact ⟨0, _, rfl, by omega, rfl, h0⟩
      case round =>
        clear h0
        obtain ⟨k, x, rfl, hk, rfl, ⟨ks, LA, hTwo, hone, heq, hcnt, hsz⟩⟩ := hrel
        have HEQ := Lib.hid heq
        have HCN := Lib.hid hcnt
        have HNB := Lib.hid nB
        clear heq hcnt nB
        by_cases c1 : k < len2 ∧ k < 50
        · obtain ⟨c1, c2⟩ := c1
          obtain ⟨ad, f, rfl, hlt, hcell, _⟩ := HQ.out k c1
          have g0 := ((turned_below (Nat.le_refl _) hTwo.2.2.2.2.2).cell (p := ad.add k) (by rw [add_block]; exact hlt)).trans hcell
          clear hcell
          cases e1 : isGe f x with
          | false =>
            have HN := Lib.hid (show SInv w ws Ga Gb ha hb N T LB u11 wr from ⟨ks, LA, hTwo, hone, HEQ.out, HCN.out, hsz⟩)
            clear hTwo hone
            go_wp2_with fail
            exact ⟨⟨k + 1, _, by go_num, by omega, rfl, HN.out⟩, by simp [intOf]; omega⟩
          | true =>
            have nA := hTwo.1.parts.2.1
            have lA := hTwo.1.parts.2.2
            go_wp2_with fail
            refine (due_any wr Ga ha T LA f hTwo.1 (by omega)).mono ?_
            rintro e w4 ⟨v, rfl, hrow4, h4, t4⟩
            obtain ⟨J, L4, j1, j2, j3, j4⟩ := due_own LA f
            rw [j1] at hrow4
            rw [j2] at h4
            have hcount := due_count (pr LA) f (oneP_of nA)
            rw [j3, j4, pr_length, pr_length] at hcount
            have hstep : (due (pr LA) f).1 ++ (due (due (pr LA) f).2 fInf).1 = (due (pr LA) fInf).1 := due_steps (pr LA) f (numP_of nA)
            rw [j3, j4] at hstep
            have hgone := due_gone (pr LA) f
            rw [j3, j4] at hgone
            have hagain := due_again (pr LA) f
            rw [j4] at hagain
            have hsize := due_size (f := f) nA
            rw [j3] at hsize
            have hTwo4 := hTwo.turn h4 t4
            have hone4 := hone.turned t4 gA
            obtain ⟨Av, cv, ev⟩ := hrow4.slice
            rw [tv_length] at ev
            subst ev
            have hs4 : wr.heap.size ≤ w4.heap.size := t4.2.2.2.1
            have HF := Lib.hid (cat_texts hone4 hrow4 (by omega) (by have := HCN.out; omega) (by omega))
            have H1 := Lib.hid hcount
            have H2 := Lib.hid hstep
            have H3 := Lib.hid hgone
            have H4 := Lib.hid hagain
            have H5 := Lib.hid hsize
            clear hTwo h4 t4 j1 j2 j3 j4 hcount hstep hgone hagain hsize nA
            go_wp2_with (at_builtin; refine app_texts rfl (.tmp 89) (.tmp 90) rfl ws.heap.size _ _ HF.out.1 HF.out.2.1 HF.out.2.2.1 HF.out.2.2.2.1 HF.out.2.2.2.2 ?_; intro v5 w5 hown5 hg5 hat5; have HO := Lib.hid hown5; have HG := Lib.hid hg5; clear hown5 hg5 hat5; refine Hid.out ?_)
            refine Lib.hid ?_
            have hown5 : Row ws.heap.size w5 9 v5 (tv (ks ++ J)) := by
              have := HO.out
              simpa [tv] using this
            have hg5 : w4.grownBy w5 (Value.ownBlock u11) := HG.out
            have hs5 := hg5.size
            have t5 : Turned (fun k => ws.heap.size ≤ k) w4 w5 := Turned.grown hg5 fun g e => (hone4.block e).1
            have hTwo5 := hTwo4.aside t5 (fun k q1 q2 => by have := gA k q1; omega) (fun k q1 q2 => by have := gB k q1; omega) (fun k _ q => by omega)
            have hrow5 : Row wr.heap.size w5 9 (.slice Av J.length cv) (tv J) := hrow4.cells fun g cur hv hg => (hg5.block g (Array.getElem?_eq_some_iff.1 hg).1 (fun e => by
              obtain ⟨cs, hcs⟩ := (hone.block e.symm).2
              have := (Array.getElem?_eq_some_iff.1 hcs).1
              have := (hrow4.block hv).1
              omega)).trans hg
            clear hTwo4 hone4 hrow4 t5 hg5 HF HO HG
            go_wp2_with fail
            refine (due_any w5 Ga ha T L4 f hTwo5.1 (by omega)).mono ?_
            rintro e w6 ⟨v6, rfl, hrow6, h6, t6⟩
            obtain ⟨J6, L6, j1, j2, j3, j4⟩ := due_own L4 f
            rw [j1] at hrow6
            rw [j2] at h6
            have hag := H4.out
            rw [hag] at j3 j4
            dsimp only at j3 j4
            subst j3
            obtain ⟨A6, c6, e6⟩ := hrow6.slice
            have e6 : v6 = .slice A6 0 c6 := e6
            subst e6
            have hTwo6 := hTwo5.turn h6 t6
            have hone6 := hown5.turned t6 gA
            have hv6 := hrow5.turned t6 (fun k q => by have := gA k q; omega)
            have hs6 : w5.heap.size ≤ w6.heap.size := t6.2.2.2.1
            have L6e := Lib.hid j4
            clear hTwo5 hown5 hrow5 hrow6 h6 t6 j1 j2 j4 hag
            go_wp2_with fail
            have hJ200 : J.length ≤ 200 := by have := H1.out; omega
            have nL6 := hTwo6.1.parts.2.1
            have hEnd : ∀ j (hj : j < J.length), Calls Try.prog 16 #[.pointer (some ⟨ha, 0, none⟩), .string J[j]] w6 fun e w' => e = .returned (.tuple #[.float .f64 0, .bool false]) ∧ w6 = w' := fun j hj => by
              have h7 := end_any w6 Ga ha T L6 J[j] hTwo6.1 (H5.out _ (List.getElem_mem hj))
              have h8 : L6.find? (isKey J[j]) = none := find_pr fun p hp => by
                rw [← L6e.out] at hp
                exact H3.out _ (List.getElem_mem hj) p hp
              rw [h8] at h7
              exact h7
            have HEnd := Lib.hid hEnd
            have HV := Lib.hid hv6.src
            have HN := Lib.hid (show SInv w ws Ga Gb ha hb N T LB v5 w6 from ⟨ks ++ J, L6, hTwo6, hone6, by
              rw [← L6e.out, List.append_assoc, H2.out]
              exact HEQ.out, by
              have q1 := H1.out
              have q2 := congrArg List.length L6e.out
              rw [pr_length, pr_length] at q2
              rw [List.length_append]
              have := HCN.out
              omega, by omega⟩)
            clear hTwo6 hone6 hv6 hEnd nL6 g0
            go_loopw [16] (fun i wz => ∃ j : Nat, i = .int .i64 j ∧ j ≤ J.length ∧ wz = w6) (fun i _ => J.length - (intOf i).toNat)
            case atStart => exact ⟨0, rfl, Nat.zero_le _, rfl⟩
            case round =>
              obtain ⟨j, rfl, hj, rfl⟩ := hrel
              by_cases c3 : j < J.length
              · obtain ⟨ad5, c5, e5, g5⟩ := HV.out.at (k := j) (by rw [tv_length]; exact c3)
                rw [tv_length] at e5
                cases e5
                have g6 : (tv J)[j]'(by rw [tv_length]; exact c3) = .string J[j] := by simp [tv]
                rw [g6] at g5
                have HE := Lib.hid (HEnd.out j c3)
                generalize J[j] = s at *
                have c3I : (j : Int) < (J.length : Int) := by omega
                clear g6
                go_wp2_with fail
                refine HE.out.mono ?_
                rintro e w9 ⟨rfl, rfl⟩
                go_wp2_with fail
                exact ⟨⟨j + 1, by go_num, by omega, trivial⟩, by simp [intOf]; omega⟩
              · have c3I : ¬ (j : Int) < (J.length : Int) := by omega
                go_wp2_with fail
                exact ⟨⟨k + 1, _, by go_num, by omega, rfl, HN.out⟩, by simp [intOf]; omega⟩
        · have HN := Lib.hid (show SInv w ws Ga Gb ha hb N T LB u11 wr from ⟨ks, LA, hTwo, hone, HEQ.out, HCN.out, hsz⟩)
          clear hTwo hone
          go_wp2_with fail
          all_goals
            go_meet
            exact HN.out
    case rest =>
      generalize wc = wr at *
      clear h0
      obtain ⟨ks, LA, hTwo, hone, heq, hcnt, hsz⟩ := hcut
      have nA := hTwo.1.parts.2.1
      have lA := hTwo.1.parts.2.2
      have nB := hTwo.2.1.parts.2.1
      have lB := hTwo.2.1.parts.2.2
      obtain ⟨J, L4, j1, j2, j3, j4⟩ := due_own LA fInf
      obtain ⟨K, L5, i1, i2, i3, i4⟩ := due_own LB fInf
      have hcount := due_count (pr LA) fInf (oneP_of nA)
      have hall := due_inf (pr LA) (numP_of nA)
      have hallB := due_inf (pr LB) (numP_of nB)
      have hall : (due (pr LA) fInf).2 = [] := hall
      rw [j3, j4, pr_length, pr_length] at hcount
      rw [j4] at hall
      have h40 : L4 = [] := List.map_eq_nil_iff.1 hall
      subst h40
      rw [j3, i3] at heq
      have hKl : K.length ≤ LB.length := by
        have := due_count (pr LB) fInf (oneP_of nB)
        rw [i3, i4, pr_length, pr_length] at this
        omega
      have hJl : J.length = LA.length := by simpa using hcount
      have HEQ := Lib.hid heq
      have HCN := Lib.hid hcnt
      have HJL := Lib.hid hJl
      have HKL := Lib.hid hKl
      have HJ1 := Lib.hid j1
      have HJ2 := Lib.hid j2
      have HI1 := Lib.hid i1
      clear heq hcnt hJl hKl j1 j2 j3 j4 i1 i2 i3 i4 hcount hall hallB nA nB
      go_wp2_with fail
      refine (inf_pos _).mono ?_
      rintro e w' ⟨rfl, rfl⟩
      go_wp2_with fail
      refine (due_any wr Ga ha T LA fInf hTwo.1 (by omega)).mono ?_
      rintro e w4 ⟨v, rfl, hrow4, h4, t4⟩
      rw [HJ1.out] at hrow4
      rw [HJ2.out] at h4
      have hTwo4 := hTwo.turn h4 t4
      have hone4 := hone.turned t4 gA
      have hs4 : wr.heap.size ≤ w4.heap.size := t4.2.2.2.1
      have HF := Lib.hid (cat_texts hone4 hrow4 (by omega) (by have := HCN.out; omega) (by have := HJL.out; omega))
      clear hTwo h4 t4
      go_wp2_with (at_builtin; refine app_texts rfl (.tmp 113) (.tmp 116) rfl ws.heap.size _ _ HF.out.1 HF.out.2.1 HF.out.2.2.1 HF.out.2.2.2.1 HF.out.2.2.2.2 ?_; intro v5 w5 hown5 hg5 hat5; have HO := Lib.hid hown5; have HG := Lib.hid hg5; clear hown5 hg5 hat5; refine Hid.out ?_)
      refine Lib.hid ?_
      have hown5 : Row ws.heap.size w5 9 v5 (tv K) := by
        have := HO.out
        rw [← HEQ.out]
        simpa [tv] using this
      have hg5 : w4.grownBy w5 (Value.ownBlock u11) := HG.out
      have t5 : Turned (fun k => ws.heap.size ≤ k) w4 w5 := Turned.grown hg5 fun g e => (hone4.block e).1
      have hTwo5 := hTwo4.aside t5 (fun k q1 q2 => by have := gA k q1; omega) (fun k q1 q2 => by have := gB k q1; omega) (fun k _ q => by omega)
      have hKN : Hid (K.length = N) := by
        rw [← HEQ.out, List.length_append, HJL.out]
        exact HCN.out
      obtain ⟨A5, c5, e5⟩ := hown5.slice
      rw [tv_length, hKN.out] at e5
      subst e5
      clear hTwo4 hone hone4 hrow4 t5 hg5 HF HO HG
      go_wp2_with fail
      refine (inf_pos _).mono ?_
      rintro e w' ⟨rfl, rfl⟩
      go_wp2_with fail
      refine (due_any w5 Gb hb T LB fInf hTwo5.2.1 (by omega)).mono ?_
      rintro e w6 ⟨v6, rfl, hrow6, h6, t6⟩
      rw [HI1.out] at hrow6
      have hTwo6 := (hTwo5.swap.turn h6 t6).swap
      have hown6 := hown5.turned t6 gB
      clear hTwo5 hown5 h6 t6
      go_wp2_with fail
      refine (same_any w6 _ v6 K hown6.src hrow6.src (by have := HKL.out; omega)).mono ?_
      rintro e w7 ⟨rfl, n, rfl⟩
      have hTwo7 := hTwo6.drewN n
      have hend := turned_below (Nat.le_refl _) hTwo7.2.2.2.2.2
      clear hTwo6 hown6 hrow6
      go_wp2_with fail
      refine (count_any _ _ _ _ _ hTwo7.1).mono ?_
      rintro e w8 ⟨rfl, rfl⟩
      go_wp2_with fail
      go_ret
      exact ⟨rfl, hend⟩

end Go.Proofs.Ytfmcpcciokogiaa
