/-
  Maps whose keys are actions: block b maps each action of a list to its index and one. (Turned from the text on ActMap.)
-/
import Derived.Test.YtlbpkhbjdojdgaaMap
namespace Go.Proofs.Ytlbpkhbjdojdgaa
set_option maxRecDepth 100000
open Go.RowKit
open Go.Maps (Keyed)

/-- Block b maps each action of L to its index and one, and no other. -/
def CycMap (w : World) (b m : Nat) (L : List (List Nat)) : Prop :=
  ∃ D : DataW Unit, w.ownsMap Try.prog 53 (plainElem Try.prog 3) b L.length D ∧ (∀ l, Good m l → Maps.has D (actKey l) = decide (l ∈ L)) ∧
    (∀ (i : Nat) (l : List Nat), L[i]? = some l → Good m l ∧ ∀ z, D.atKey (actKey l) z = .lit (.int .i64 ((i + 1 : Nat) : Int))) ∧ L.Nodup

section
variable {w w' : World} {b m : Nat} {L : List (List Nat)}

theorem CycMap.lt (h : CycMap w b m L) : b < w.heap.size := by obtain ⟨D, h, _⟩ := h; exact h.lt
theorem CycMap.block (h : CycMap w b m L) (hb : w'.heap[b]? = w.heap[b]?) : CycMap w' b m L := by
  obtain ⟨D, ⟨es, clock, h1, h2⟩, h3⟩ := h
  exact ⟨D, ⟨es, clock, hb.trans h1, h2⟩, h3⟩
theorem CycMap.below {B : Nat} (h : CycMap w b m L) (hb : Below B w w') (hB : b < B) : CycMap w' b m L := h.block (hb.block b hB)
theorem CycMap.notcells (h : CycMap w b m L) {g : Nat} {t : TypeId} {cs : Array Value} {fr : Nat × Nat} (hg : w.heap[g]? = some (.cells cs t fr)) : b ≠ g := by
  rintro rfl
  obtain ⟨D, ⟨es, clock, h1, _⟩, _⟩ := h
  rw [hg] at h1
  cases h1

/-- 'v, ok := m[a]' where a is known. -/
theorem CycMap.look_yes (h : CycMap w b m L) {i : Nat} {l : List Nat} (hl : L[i]? = some l) :
    (Instr.lookup 62 (.map (some b)) (.agg (actA l)) true).run Try.prog w = .ok (.tuple #[.int .i64 ((i + 1 : Nat) : Int), .bool true]) w := by
  obtain ⟨D, h1, h2, h3, _⟩ := h
  obtain ⟨hg, hat⟩ := h3 i l hl
  obtain ⟨v, ps, hrun, hv⟩ := h1.look_ok law53 und62 (zero3 w) (plainElem_int und3 (by decide : (Lit.int .i64 0).wf = true)) (actKey_spec hg)
  obtain ⟨c, rfl, hc, _⟩ := plainElem_int_inv und3 hv
  rw [hrun, h2 l hg]
  have : decide (l ∈ L) = true := decide_eq_true (List.mem_of_getElem? hl)
  rw [this]
  have hc' := congrArg Prod.fst hc
  simp only [hat] at hc'
  injection hc' with hc'
  injection hc' with _ hc'
  rw [hc']

/-- 'v, ok := m[a]' where a is unknown. -/
theorem CycMap.look_no (h : CycMap w b m L) {l : List Nat} (hg : Good m l) (hl : l ∉ L) :
    (Instr.lookup 62 (.map (some b)) (.agg (actA l)) true).run Try.prog w = .ok (.tuple #[.int .i64 0, .bool false]) w := by
  obtain ⟨D, h1, h2, h3, _⟩ := h
  have hno : Maps.has D (actKey l) = false := by rw [h2 l hg]; exact decide_eq_false hl
  obtain ⟨v, ps, hrun, hv⟩ := h1.look_ok law53 und62 (zero3 w) (plainElem_int und3 (by decide : (Lit.int .i64 0).wf = true)) (actKey_spec hg)
  obtain ⟨c, rfl, hc, _⟩ := plainElem_int_inv und3 hv
  rw [Maps.atKey_of_not_has hno] at hc
  have hc' := congrArg Prod.fst hc
  injection hc' with hc'
  injection hc' with _ hc'
  rw [hrun, hno, ← hc']

/-- 'm[a]' where a is known. -/
theorem CycMap.at_ (h : CycMap w b m L) {i : Nat} {l : List Nat} (hl : L[i]? = some l) :
    (Instr.lookup 62 (.map (some b)) (.agg (actA l)) false).run Try.prog w = .ok (.int .i64 ((i + 1 : Nat) : Int)) w := by
  obtain ⟨D, h1, h2, h3, _⟩ := h
  obtain ⟨hg, hat⟩ := h3 i l hl
  obtain ⟨c, hrun, hc, _⟩ := h1.lookup_int law53 und62 und3 (zero3 w) (actKey_spec hg)
  rw [hat] at hc
  injection hc with hc
  injection hc with _ hc
  rw [hrun, ← hc]

/-- 'm[a] = len' where a is new. -/
theorem CycMap.store (h : CycMap w b m L) {l : List Nat} (hg : Good m l) (hl : l ∉ L) (hn : L.length < 9000) :
    ∃ w', (Instr.mapUpdate 62 (.map (some b)) (.agg (actA l)) (.int .i64 ((L.length + 1 : Nat) : Int))).run Try.prog w = .ok () w' ∧ CycMap w' b m (L ++ [l]) ∧ w.mapTurned w' b := by
  obtain ⟨D, h1, h2, h3, h4⟩ := h
  have hwf : (Lit.int .i64 ((L.length + 1 : Nat) : Int)).wf = true := WalkArith.wf_i64 (by omega)
  obtain ⟨w', hrun, hown, hturn⟩ := h1.store law53 und62 (by unfold maxLen; omega) (actKey_spec hg) (plainElem_int und3 hwf)
  have hkl := law53.key (actKey_spec hg)
  refine ⟨w', hrun, ⟨D.put (actKey l) (.lit (.int .i64 ((L.length + 1 : Nat) : Int))), by simpa using hown, fun l' hg' => ?_, fun i l' hi => ?_, ?_⟩, hturn⟩
  · by_cases e : l' = l
    · subst e
      rw [Maps.has_put_same h1.isMap hkl]
      simp
    · rw [Maps.has_put_other (fun e2 => e (actKey_inj hg' hg e2)), h2 l' hg']
      simp [e]
  · by_cases hlt : i < L.length
    · rw [List.getElem?_append_left hlt] at hi
      obtain ⟨hg', hat⟩ := h3 i l' hi
      refine ⟨hg', fun z => ?_⟩
      have hne : l' ≠ l := fun e => hl (e ▸ List.mem_of_getElem? hi)
      rw [Maps.atKey_put_other (fun e2 => hne (actKey_inj hg' hg e2))]
      exact hat z
    · have hi2 : i = L.length := by
        have := (List.getElem?_eq_some_iff.1 hi).1
        simp at this
        omega
      subst hi2
      have : l' = l := by simpa using hi.symm
      subst this
      exact ⟨hg, fun z => Maps.atKey_put_same h1.isMap hkl _ z⟩
  · exact List.nodup_append.2 ⟨h4, by simp, by
      intro a ha b hb
      rw [List.mem_singleton.1 hb]
      rintro rfl
      exact hl ha⟩

/-- 'make(map[action]int)'. -/
theorem CycMap.made (w : World) (m : Nat) : CycMap (w.alloc (.map #[] 0)) w.heap.size m [] :=
  ⟨.map [], World.ownsMap_made w _ _ _, fun l _ => by simp [Maps.has], fun i l h => by simp at h, List.nodup_nil⟩
end
end Go.Proofs.Ytlbpkhbjdojdgaa
