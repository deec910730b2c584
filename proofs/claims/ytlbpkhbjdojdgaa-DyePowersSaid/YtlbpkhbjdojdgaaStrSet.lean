/-
  A map from strings to true.
-/
import Derived.Test.YtlbpkhbjdojdgaaOf
namespace Go.Proofs.Ytlbpkhbjdojdgaa
open Go.RowKit
open Go.Maps (Keyed)
open Go.WideMaps (keyOf_string_mk)
set_option maxRecDepth 100000

theorem und76 : Try.prog.underlying 76 = some (.map 9 4) := by kernel_rfl
theorem und4 : Try.prog.underlying 4 = some .bool := by kernel_rfl
theorem und9 : Try.prog.underlying 9 = some .string := by kernel_rfl
theorem zero4 (w : World) : (zeroValue 4).run Try.prog w = .ok (.bool false) w := by kernel_rfl
theorem law9 : Keyed Try.prog 9 := Maps.string_keyed und9

theorem plainElem_bool_inv {H : Type} {v : Value} {z : DataW H × List MemPlace} (h : plainElem Try.prog 4 v = some z) : ∃ x, v = .bool x ∧ z = (.lit (.bool x), []) := by
  unfold plainElem at h
  rw [und4] at h
  split at h
  · next x h1 => cases h; exact ⟨x, rfl, rfl⟩
  · next h1 => cases h1
  · next h1 => cases h1
  · cases h

/-- Block b maps the strings of L to true, and no other. -/
def StrSet (w : World) (b : Nat) (L : List (List UInt8)) : Prop :=
  ∃ D : DataW Unit, w.ownsMap Try.prog 9 (plainElem Try.prog 4) b L.length D ∧ (∀ l : List UInt8, Maps.has D (.string l) = decide (l ∈ L)) ∧ (∀ l ∈ L, ∀ z, D.atKey (.string l) z = .lit (.bool true))

section
variable {w w' : World} {b : Nat} {L : List (List UInt8)}
theorem StrSet.lt (h : StrSet w b L) : b < w.heap.size := by obtain ⟨D, h, _⟩ := h; exact h.lt
theorem StrSet.block (h : StrSet w b L) (hb : w'.heap[b]? = w.heap[b]?) : StrSet w' b L := by
  obtain ⟨D, ⟨es, clock, h1, h2⟩, h3⟩ := h
  exact ⟨D, ⟨es, clock, hb.trans h1, h2⟩, h3⟩
theorem StrSet.notcells (h : StrSet w b L) {g : Nat} {t : TypeId} {cs : Array Value} {fr : Nat × Nat} (hg : w.heap[g]? = some (.cells cs t fr)) : b ≠ g := by
  rintro rfl
  obtain ⟨D, ⟨es, clock, h1, _⟩, _⟩ := h
  rw [hg] at h1
  cases h1
theorem StrSet.made (w : World) : StrSet (w.alloc (.map #[] 0)) w.heap.size [] :=
  ⟨.map [], World.ownsMap_made w _ _ _, fun l => by simp [Maps.has], fun l h => by simp at h⟩

/-- 'm[s]'. -/
theorem StrSet.look (h : StrSet w b L) (s : ByteArray) (hs : s.size ≤ maxLen) : (Instr.lookup 76 (.map (some b)) (.string s) false).run Try.prog w = .ok (.bool (decide (s.data.toList ∈ L))) w := by
  obtain ⟨D, h1, h2, h3⟩ := h
  obtain ⟨v, ps, hrun, hv⟩ := h1.lookup law9 und76 (zero4 w) (plainElem_bool und4 false) (keyOf_string_mk und9 hs)
  obtain ⟨x, rfl, hx⟩ := plainElem_bool_inv hv
  have hx' := congrArg Prod.fst hx
  simp only at hx'
  rw [hrun]
  by_cases hm : s.data.toList ∈ L
  · rw [h3 _ hm] at hx'
    injection hx' with hx'
    injection hx' with hx'
    rw [← hx']
    simp [hm]
  · rw [Maps.atKey_of_not_has (by rw [h2]; simpa using hm)] at hx'
    injection hx' with hx'
    injection hx' with hx'
    rw [← hx']
    simp [hm]

/-- 'm[s] = true'. -/
theorem StrSet.store (h : StrSet w b L) (s : ByteArray) (hs : s.size ≤ maxLen) (hn : L.length < 9000) :
    ∃ w', (Instr.mapUpdate 76 (.map (some b)) (.string s) (.bool true)).run Try.prog w = .ok () w' ∧ StrSet w' b (L ++ [s.data.toList]) ∧ w.mapTurned w' b := by
  obtain ⟨D, h1, h2, h3⟩ := h
  obtain ⟨w', hrun, hown, hturn⟩ := h1.store law9 und76 (by unfold maxLen; omega) (keyOf_string_mk und9 hs) (plainElem_bool und4 true)
  have hkl := law9.key (keyOf_string_mk und9 hs)
  refine ⟨w', hrun, ⟨D.put (.string s.data.toList) (.lit (.bool true)), by simpa using hown, fun l => ?_, fun l hl z => ?_⟩, hturn⟩
  · by_cases e : l = s.data.toList
    · subst e
      rw [Maps.has_put_same h1.isMap hkl]
      simp
    · rw [Maps.has_put_other (fun e2 => e (by injection e2)), h2 l]
      simp [e]
  · by_cases e : l = s.data.toList
    · subst e
      exact Maps.atKey_put_same h1.isMap hkl _ z
    · rw [Maps.atKey_put_other (fun e2 => e (by injection e2))]
      refine h3 l ?_ z
      rcases List.mem_append.1 hl with h | h
      · exact h
      · exact absurd (List.mem_singleton.1 h) e
end
end Go.Proofs.Ytlbpkhbjdojdgaa
