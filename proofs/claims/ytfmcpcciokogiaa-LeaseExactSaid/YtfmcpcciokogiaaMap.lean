/- The leases' map: from keys to items' blocks. -/
import Derived.Test.YtfmcpcciokogiaaBase
import Derived.Maps.OwnSet
import Derived.StringKeys
namespace Go.Proofs.Ytfmcpcciokogiaa
open Go.RowKit Go.Maps Go.WideShapes

def Rp (v : Value) : Option (DataW Unit × List MemPlace) :=
  match v with
  | .pointer (some ⟨b, 0, none⟩) => some (.lit (.int .i64 (b : Int)), [])
  | _ => none

theorem Rp_inv {v : Value} {y : DataW Unit × List MemPlace} (h : Rp v = some y) : ∃ b : Nat, v = .pointer (some ⟨b, 0, none⟩) ∧ y.1 = .lit (.int .i64 (b : Int)) := by
  unfold Rp at h
  split at h
  · cases h
    exact ⟨_, rfl, rfl⟩
  · cases h

theorem law9 : Keyed Try.prog 9 := string_keyed Try.underlying9

/-- The text's bytes. -/
def tx (s : ByteArray) : List UInt8 := s.data.toList
theorem tx_inj {s t : ByteArray} (h : tx s = tx t) : s = t := by
  cases s
  cases t
  simp only [tx] at h
  congr 1
  exact Array.ext' h

def itemOf (o : Option Nat) : Value := match o with | none => .pointer none | some g => .pointer (some ⟨g, 0, none⟩)

/-- Block b is a map of at most n entries, M what lies at each key. -/
def OwnM (w : World) (b n : Nat) (M : ByteArray → Option Nat) : Prop :=
  ∃ D : DataW Unit, w.ownsMap Try.prog 9 Rp b n D ∧ ∀ s : ByteArray, s.size ≤ maxLen → D.atKey (.string (tx s)) .nil = (match M s with | none => .nil | some g => .lit (.int .i64 (g : Int)))

theorem OwnM.made (w : World) : OwnM (w.alloc (.map #[] 0)) w.heap.size 0 (fun _ => none) :=
  ⟨.map [], World.ownsMap_made w Try.prog 9 Rp, fun _ _ => rfl⟩

theorem OwnM.lt {w : World} {b n : Nat} {M : ByteArray → Option Nat} (h : OwnM w b n M) : b < w.heap.size := by
  obtain ⟨D, h, _⟩ := h
  exact h.lt

theorem OwnM.keep {w w' : World} {b n : Nat} {M : ByteArray → Option Nat} (h : OwnM w b n M) (hk : w'.heap[b]? = w.heap[b]?) : OwnM w' b n M := by
  obtain ⟨D, ⟨es, c, hb, r⟩, hM⟩ := h
  exact ⟨D, ⟨es, c, hk.trans hb, r⟩, hM⟩

theorem OwnM.look {w : World} {b n : Nat} {M : ByteArray → Option Nat} (h : OwnM w b n M) (s : ByteArray) (hs : s.size ≤ maxLen) :
    (Instr.lookup 62 (.map (some b)) (.string s) true).run Try.prog w = .ok (.tuple #[itemOf (M s), .bool (M s).isSome]) w := by
  obtain ⟨D, ⟨es, c, hb, F, _, rfl⟩, hM⟩ := h
  have hk := Go.WideMaps.keyOf_string_mk (P := Try.prog) Try.underlying9 hs
  have hz : (zeroValue 68).run Try.prog w = .ok (.pointer none) w := by kernel_rfl
  have hat := hM s hs
  rcases Maps.fit_look true law9 Try.underlying62 hz hb F hk with ⟨hr, _, h0⟩ | ⟨e0, y, _, _, hr, hy, h0, _⟩
  · rw [tx, h0] at hat
    cases hm : M s with
    | none => exact hr
    | some g =>
      rw [hm] at hat
      cases hat
  · rw [tx, h0] at hat
    obtain ⟨g, e1, e2⟩ := Rp_inv hy
    rw [e2] at hat
    cases hm : M s with
    | none =>
      rw [hm] at hat
      cases hat
    | some g' =>
      rw [hm] at hat
      have : g = g' := by
        injection hat with h1
        injection h1 with _ h2
        omega
      rw [hr, e1, this]
      rfl

theorem OwnM.put {w : World} {b n : Nat} {M : ByteArray → Option Nat} (h : OwnM w b n M) (hn : n < maxLen) (s : ByteArray) (hs : s.size ≤ maxLen) (g : Nat) :
    ∃ w', (Instr.mapUpdate 62 (.map (some b)) (.string s) (.pointer (some ⟨g, 0, none⟩))).run Try.prog w = .ok () w' ∧ OwnM w' b (n + 1) (fun k => if tx k = tx s then some g else M k) ∧ w.grownBy w' (some b) := by
  obtain ⟨D, h, hM⟩ := h
  have hk := Go.WideMaps.keyOf_string_mk (P := Try.prog) Try.underlying9 hs
  obtain ⟨w', hr, h', hg⟩ := h.update law9 Try.underlying62 hn hk (show Rp (.pointer (some ⟨g, 0, none⟩)) = some (.lit (.int .i64 (g : Int)), []) from rfl)
  refine ⟨w', hr, ⟨_, h', fun k hkl => ?_⟩, hg⟩
  dsimp only
  by_cases e : tx k = tx s
  · rw [if_pos e, e]
    exact atKey_put_same (k := .string (tx s)) h.isMap trivial _ _
  · rw [if_neg e]
    rw [← hM k hkl]
    exact atKey_put_other (fun e2 => e (by injection e2)) _ _

theorem OwnM.del {w : World} {b n : Nat} {M : ByteArray → Option Nat} (h : OwnM w b n M) (s : ByteArray) (hs : s.size ≤ maxLen) (ty : TypeId) :
    ∃ w', (Builtin.delete_ #[62, 9] ty #[.map (some b), .string s]).run Try.prog w = .ok (.tuple #[]) w' ∧ OwnM w' b n (fun k => if tx k = tx s then none else M k) ∧ w.grownBy w' (some b) := by
  obtain ⟨D, h, hM⟩ := h
  have hk := Go.WideMaps.keyOf_string_mk (P := Try.prog) Try.underlying9 hs
  obtain ⟨w', hr, h', hg⟩ := h.drop law9 Try.underlying62 hk ty
  refine ⟨w', hr, ⟨_, h', fun k hkl => ?_⟩, hg.grown⟩
  dsimp only
  by_cases e : tx k = tx s
  · rw [if_pos e, e]
    exact atKey_del_same _
  · rw [if_neg e]
    rw [← hM k hkl]
    exact atKey_del_other (fun e2 => e (by injection e2)) _

end Go.Proofs.Ytfmcpcciokogiaa
