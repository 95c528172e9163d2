/- End, Next, Drop, Set in one. -/
import Derived.Test.YtfmcpcciokogiaaDue
namespace Go.Proofs.Ytfmcpcciokogiaa
open Go.RowKit Fl

theorem HS.mono {w : World} {G H : Nat → Prop} {h T : Nat} {L : List It} (k : HS w G h L T) (hG : ∀ k, G k → H k) (hH : ∀ k, H k → k < w.heap.size) : HS w H h L T := by
  obtain ⟨F, mb, nm, M, xs, a1, a2, a3, a4, a5, a6, a7, a8, a9, a10, a11, a12, a13⟩ := k
  exact ⟨F, mb, nm, M, xs, a1, a2, a3, a4, a5, a6, a7, a8, fun k hk => hG k (a9 k hk), hG _ a10, hG _ a11, a12, hH⟩

/-- Set: any end that is a number. -/
theorem set_any (w : World) (G : Nat → Prop) (h T : Nat) (L : List It) (s : ByteArray) (f : Nat) (k : HS w G h L T) (hf : isNe f f = false) (hT : T ≤ 100000000) (hs : s.size ≤ maxLen) :
    Calls Try.prog 12 #[.pointer (some ⟨h, 0, none⟩), .string s, .float .f64 f] w fun e w' => e = .returned (.int .i64 0) ∧
      ∃ b, HS w' (fun k => G k ∨ (w.heap.size ≤ k ∧ k < w'.heap.size)) h (without L s ++ [⟨b, s, f, T + 1⟩]) (T + 1) ∧ Turned G w w' := by
  cases hL : L.find? (isKey s) with
  | none =>
    refine (set_new w G h T L s f k hf hT hs hL).mono ?_
    rintro e w' ⟨rfl, h1, h2⟩
    exact ⟨rfl, _, h1, h2⟩
  | some x =>
    refine (set_old w G h T L s f x k hf hT hs hL).mono ?_
    rintro e w' ⟨rfl, h1, h2, h3⟩
    exact ⟨rfl, _, h1.mono (fun k hk => .inl hk) fun k hk => by
      rcases hk with hk | hk
      · exact h1.parts.1 k hk
      · exact hk.2, h2⟩

/-- End. -/
theorem end_any (w : World) (G : Nat → Prop) (h T : Nat) (L : List It) (s : ByteArray) (k : HS w G h L T) (hs : s.size ≤ maxLen) :
    Calls Try.prog 16 #[.pointer (some ⟨h, 0, none⟩), .string s] w fun e w' => e = .returned (match L.find? (isKey s) with | none => .tuple #[.float .f64 0, .bool false] | some x => .tuple #[.float .f64 x.fin, .bool true]) ∧ w = w' := by
  obtain ⟨F, mb, nm, M, xs, a1, a2, a3, a4, a5, a6, a7, a8, a9, a10, a11, a12, a13⟩ := k
  obtain ⟨rv, hrv, hI, _⟩ := a1
  obtain ⟨q0, q1, q2, _⟩ := three hrv
  have kl := a4.look s hs
  rw [a6 s] at kl
  cases hL : L.find? (isKey s) with
  | none =>
    rw [hL] at kl
    simp only [itemOf, Option.isSome, Option.map] at kl
    clear hrv hI a4 a6 a7 a2 hL
    go_enter Try.func16, Try.ntmps16
    go_wp2_with fail
    go_ret2
    exact ⟨rfl, rfl⟩
  | some x =>
    obtain ⟨i, hxi, _⟩ := find_at a2 hL
    rw [hL] at kl
    simp only [itemOf, Option.isSome, Option.map] at kl
    obtain ⟨_, x1, _⟩ := itc_cells (hI.2.2 i x hxi).1
    clear hrv hI a4 a6 a7 a2 hL hxi
    go_enter Try.func16, Try.ntmps16
    go_wp2_with fail
    go_ret2
    exact ⟨rfl, rfl⟩

/-- Next. -/
theorem next_any (w : World) (G : Nat → Prop) (h T : Nat) (L : List It) (k : HS w G h L T) :
    Calls Try.prog 36 #[.pointer (some ⟨h, 0, none⟩)] w fun e w' => e = .returned (match minOf L with | none => .tuple #[.float .f64 0, .bool false] | some x => .tuple #[.float .f64 x.fin, .bool true]) ∧ w = w' := by
  obtain ⟨F, mb, nm, M, xs, a1, a2, a3, a4, a5, a6, a7, a8, a9, a10, a11, a12, a13⟩ := k
  obtain ⟨A, c, hrv, hI⟩ := a1.open
  have hxl := a2.length_eq
  cases hL : minOf L with
  | none =>
    have he := minOf_none.1 hL
    have hx0 : xs.length = 0 := by rw [hxl, he]; rfl
    rw [hx0] at hrv
    obtain ⟨q0, _⟩ := three hrv
    clear hrv hI a1 a4 a6 a7 a2 hL hx0 hxl he
    go_enter Try.func36, Try.ntmps36
    go_wp2_with fail
    go_ret2
    exact ⟨rfl, rfl⟩
  | some x =>
    have hne : 0 < xs.length := by
      rw [hxl]
      exact List.length_pos_of_mem (minOf_mem hL)
    have hx0 : xs[0]? = some x := by
      rw [List.getElem?_eq_getElem hne]
      have := first_of a2 a7 a3 (List.getElem?_eq_getElem hne)
      rw [hL] at this
      exact this.symm
    obtain ⟨g, cap, e, i1, _⟩ := hI.at hne
    cases e
    have hx0' : xs[0] = x := by
      rw [List.getElem?_eq_getElem hne] at hx0
      exact Option.some.inj hx0
    rw [hx0'] at i1
    simp only [itv] at i1
    obtain ⟨_, x1, _⟩ := itc_cells (hI.2.2 0 x hx0).1
    obtain ⟨q0, _⟩ := three hrv
    have hneI : (0 : Int) < (xs.length : Int) := by omega
    have hnz : ((xs.length : Int) == 0) = false := beq_eq_false_iff_ne.2 (fun e => by omega)
    clear hrv hI a1 a4 a6 a7 a2 hL hx0 hx0' hxl
    go_enter Try.func36, Try.ntmps36
    go_wp2_with fail
    go_ret2
    exact ⟨rfl, rfl⟩

/-- Drop. -/
theorem drop_none (w : World) (G : Nat → Prop) (h T : Nat) (L : List It) (s : ByteArray) (k : HS w G h L T) (hs : s.size ≤ maxLen) (hL : L.find? (isKey s) = none) :
    Calls Try.prog 23 #[.pointer (some ⟨h, 0, none⟩), .string s] w fun e w' => e = .returned (.bool false) ∧ w = w' := by
  obtain ⟨F, mb, nm, M, xs, a1, a2, a3, a4, a5, a6, a7, a8, a9, a10, a11, a12, a13⟩ := k
  obtain ⟨rv, hrv, hI, _⟩ := a1
  obtain ⟨q0, q1, q2, _⟩ := three hrv
  have kl := a4.look s hs
  rw [a6 s, hL] at kl
  simp only [itemOf, Option.isSome, Option.map] at kl
  clear hrv hI a4 a6 a7 a2 hL
  go_enter Try.func23, Try.ntmps23
  go_wp2_with fail
  go_ret
  exact ⟨rfl, rfl⟩

set_option maxHeartbeats 2000000 in
theorem drop_some (w : World) (G : Nat → Prop) (h T : Nat) (L : List It) (s : ByteArray) (x : It) (k : HS w G h L T) (hT : T ≤ 100000000) (hs : s.size ≤ maxLen) (hL : L.find? (isKey s) = some x) :
    Calls Try.prog 23 #[.pointer (some ⟨h, 0, none⟩), .string s] w fun e w' => e = .returned (.bool true) ∧ HS w' G h (without L s) T ∧ Turned G w w' := by
  obtain ⟨F, mb, nm, M, xs, a1, a2, a3, a4, a5, a6, a7, a8, a9, a10, a11, a12, a13⟩ := k
  obtain ⟨i, hxi, hxk⟩ := find_at a2 hL
  have hkey : x.key = s := tx_inj hxk
  subst hkey
  obtain ⟨rv, hrv, hI, hFh⟩ := id a1
  obtain ⟨q0, q1, q2, _⟩ := three hrv
  obtain ⟨hxb, hFx, _⟩ := hI.2.2 i x hxi
  obtain ⟨_, x1, x2, x3, _⟩ := itc_cells hxb
  have hmh : mb ≠ h := fun e => by
    obtain ⟨D, ⟨es, c, hb, _⟩, _⟩ := a4
    rw [e, hrv] at hb
    simp at hb
  have kl := a4.look x.key hs
  rw [a6 x.key, hL] at kl
  simp only [itemOf, Option.isSome, Option.map] at kl
  have hxl := a2.length_eq
  have HR := Lib.hid (fun n => remove_any (w.drewN n) F h xs _ _ x i (a1.drewN n) hxi (by omega) a3)
  unfold ifc itv at HR
  clear hrv hI hxb hL hxi a1
  go_enter Try.func23, Try.ntmps23
  go_wp2_with fail
  go_region_with (first | (go_at_call 32; refine Calls.mono (HR.out 1) ?_; rintro e w3 ⟨rfl, ys, p1, p2, p3, p4, p5⟩))
  all_goals
    obtain ⟨A3, c3, hrv3, _⟩ := p3.open
    obtain ⟨r0, r1, _⟩ := three hrv3
    have p4' : Turned (fun k => F k ∨ k = h) w w3 := p4
    have hM3 : OwnM w3 mb nm M := a4.keep (p4'.2.2.2.2 mb (a13 mb a11) (by
      rintro (q | q)
      · exact a12 q
      · exact hmh q))
    obtain ⟨w5, kd, hM5, hg5⟩ := hM3.del x.key hs 0
    obtain ⟨hH5, hT5⟩ := HS.popped (w5 := w5) (w3 := w3) a2 a5 a6 a7 a8 a9 a10 a11 a12 a13 hmh p1 p2 p3 p4' hM5 hg5
    have H5 := Lib.hid hH5
    have T5 := Lib.hid hT5
    clear p1 p2 p3 p4 p4' p5 hrv3 hM3 hM5 hg5 hH5 hT5 a2 a3 a4 a6 a7
    go_wp2_with fail
    go_ret
    exact ⟨rfl, H5.out, T5.out⟩

end Go.Proofs.Ytfmcpcciokogiaa
