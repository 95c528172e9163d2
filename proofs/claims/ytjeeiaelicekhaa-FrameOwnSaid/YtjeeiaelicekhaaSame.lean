/- same: two lists of payloads compared. -/
import Derived.Test.YtjeeiaelicekhaaFeed
import Derived.Laws.BytesArg
import Derived.Lib.BufferRead
namespace Go.Proofs.Ytjeeiaelicekhaa
open Go.RowKit

theorem Byt.drewN {w : World} {v : Value} {l : List UInt8} (h : Byt w v l) (n : Nat) : Byt (w.drewN n) v l := h.keep fun b cs hb => by simpa using hb

theorem conv_byt {w : World} {v : Value} {l : List UInt8} (h : Byt w v l) : (convert 31 9 v).run Try.prog w = .ok (.string ⟨l.toArray⟩) w := by
  obtain ⟨A, c, rfl, hc, hm, hA⟩ := id h
  by_cases hl : l = []
  · subst hl
    cases A with
    | none => exact Lib.run_convert_nil_bytes w 31 9 5 c Try.underlying31 Try.underlying5 Try.underlying9
    | some ad =>
      have hl : (loadCells ad 0).run Try.prog w = .ok (([] : List Int).map (Value.int .u8)).toArray w := by
        have := run_loadCells_list (P := Try.prog) w ad [] (fun j v hj => by simp at hj)
        simpa using this
      rw [List.length_nil, run_convert_bytes_string w 31 9 5 (some ad) 0 c Try.underlying31 Try.underlying5 Try.underlying9, run_bytesToString w ad 0 c [] hl]
      rfl
  · obtain ⟨b, off, cs, rfl, _⟩ := hA hl
    have e := run_convert_bytes_arg (P := Try.prog) w 31 5 Try.underlying31 Try.underlying5 b off l.length c (l.map fun x => (x.toNat : Int)) (by simp) (fun i hi => by
      obtain ⟨b', off', c', e, g⟩ := h.at i hi
      cases e
      rw [g]
      simp [List.getD, hi]) 9 Try.underlying9
    rw [e]
    congr 2
    apply ByteArray.ext
    apply Array.toList_inj.1
    rw [strOfNums_data, List.map_map]
    conv => rhs; rw [← List.map_id l.toArray.toList]
    apply List.map_congr_left
    intro x _
    simp

/-- Lists of payloads as same reads them. -/
def Rd (w : World) (u : Value) (xs : List (Value × List UInt8)) : Prop := Src w u (xs.map (·.1)) ∧ (∀ x ∈ xs, Byt w x.1 x.2) ∧ xs.length ≤ 1000000000000
theorem Rd.drewN {w : World} {u : Value} {xs : List (Value × List UInt8)} (h : Rd w u xs) (n : Nat) : Rd (w.drewN n) u xs := ⟨h.1.keep fun _ _ _ => by simp, fun x hx => (h.2.1 x hx).drewN n, h.2.2⟩
theorem Rd.at {w : World} {u : Value} {xs : List (Value × List UInt8)} (h : Rd w u xs) (k : Nat) (hk : k < xs.length) :
    ∃ ad c, u = .slice (some ad) xs.length c ∧ w.cell? (ad.add k) = some xs[k].1 ∧ Byt w xs[k].1 xs[k].2 := by
  obtain ⟨⟨A, c, rfl, _, hA⟩, hb, _⟩ := h
  obtain ⟨ad, rfl, hc⟩ := hA (by intro e; have := congrArg List.length e; simp at this; simp [this] at hk)
  exact ⟨ad, c, by rw [List.length_map], hc k _ (by simp [hk]), hb _ (List.getElem_mem hk)⟩

theorem Rd.form {w : World} {u : Value} {xs : List (Value × List UInt8)} (h : Rd w u xs) : ∃ A c, u = .slice A xs.length c ∧ xs.length ≤ c := by
  obtain ⟨⟨A, c, rfl, h2, hA⟩, hb, _⟩ := h
  rw [List.length_map] at h2 ⊢
  exact ⟨A, c, rfl, h2⟩

theorem same_true (w : World) (u v : Value) (xs ys : List (Value × List UInt8)) (hu : Rd w u xs) (hv : Rd w v ys) (heq : xs.map (·.2) = ys.map (·.2)) :
    Calls Try.prog 14 #[u, v] w fun e w' => e = .returned (.bool true) ∧ ∃ n, w.drewN n = w' := by
  have hlen : xs.length = ys.length := by have := congrArg List.length heq; simpa using this
  obtain ⟨A, c, rfl, hc⟩ := hu.form
  obtain ⟨A', c', e, hc'⟩ := hv.form
  rw [← hlen] at e hc'
  subst e
  have HU := Lib.hid hu
  have HV := Lib.hid hv
  have hx := hu.2.2
  have HE := Lib.hid heq
  have HL := Lib.hid hlen
  clear heq hu hv hlen
  go_enter Try.func14, Try.ntmps14
  go_wp2_with fail
  go_loopw [5] (fun i wr => ∃ k n : Nat, k ≤ xs.length ∧ i = .int .i64 k ∧ w.drewN n = wr) (fun i _ => xs.length - (intOf i).toNat)
  case atStart => exact ⟨0, 0, Nat.zero_le _, rfl, rfl⟩
  case round =>
    obtain ⟨k, q, hk, rfl, rfl⟩ := hrel
    by_cases c1 : k < xs.length
    · obtain ⟨ad, d, e, g, b1⟩ := HU.out.at k c1
      cases e
      obtain ⟨ad', d', e, g', b2⟩ := HV.out.at k (by rw [← HL.out]; exact c1)
      rw [← HL.out] at e
      cases e
      have e3 : xs[k].2 = ys[k].2 := by
        have := congrArg (fun l => l[k]?) HE.out
        simpa [c1, HL.out ▸ c1] using this
      rw [← e3] at b2
      generalize xs[k].1 = X at *
      generalize ys[k].1 = Y at *
      generalize xs[k].2 = l at *
      have k1 : ∀ n, (convert 31 9 X).run Try.prog (w.drewN n) = .ok (.string ⟨l.toArray⟩) (w.drewN n) := fun n => conv_byt (b1.drewN n)
      have k2 : ∀ n, (convert 31 9 Y).run Try.prog (w.drewN n) = .ok (.string ⟨l.toArray⟩) (w.drewN n) := fun n => conv_byt (b2.drewN n)
      clear b1 b2
      go_wp2_with fail
      go_quiet (fail)
      go_wp2_with fail
      go_roundw
      case rel => exact ⟨k + 1, _, by omega, by go_num, rfl⟩
      case measure => simp [intOf]; omega
    · go_wp2_with fail
      go_ret
      exact ⟨rfl, _, rfl⟩

end Go.Proofs.Ytjeeiaelicekhaa
