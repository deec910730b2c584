/-
  Maps whose keys are actions: block b maps each action of a list to its index.
-/
import Derived.Test.YtlbpkhbjdojdgaaOn
import Derived.Maps.OwnSet
import Derived.Maps.OwnOps
import Derived.DeepKeys4
namespace Go.Proofs.Ytlbpkhbjdojdgaa
set_option maxRecDepth 100000
open Go.RowKit
open Go.Maps (Keyed)

theorem kt53 : Try.prog.keyType 53 = true := by kernel_rfl
theorem laidOut : laidOutB Try.prog = true := by kernel_rfl
theorem ntypes : ∃ m, Try.prog.types.size = m + 1 := by
  have h : (Try.prog.types.size == 0) = false := by kernel_rfl
  cases e : Try.prog.types.size with
  | zero => rw [e] at h; cases h
  | succ m => exact ⟨m, rfl⟩
theorem row53 : 53 < Try.prog.types.size := by
  have h : (decide (53 < Try.prog.types.size)) = true := by kernel_rfl
  exact of_decide_eq_true h
theorem law53 : Keyed Try.prog 53 := Keyed.of_law (deep_law_laid laidOut (m := 2) (by omega) row53 (by kernel_rfl) (by kernel_rfl))
theorem und62 : Try.prog.underlying 62 = some (.map 53 3) := by kernel_rfl
theorem und3 : Try.prog.underlying 3 = some (.int .i64) := by kernel_rfl
theorem zero3 (w : World) : (zeroValue 3).run Try.prog w = .ok (.int .i64 0) w := by kernel_rfl

/-- An action of m states. -/
def Good (m : Nat) (l : List Nat) : Prop := l.length = m ∧ m ≤ 16 ∧ ∀ x ∈ l, x < 16

theorem cells53 : Try.prog.cellsOf 53 = 16 := by kernel_rfl
theorem cells3 : Try.prog.cellsOf 3 = 1 := by kernel_rfl

theorem mapM_some {α β : Type} {f : α → Option β} : ∀ l : List α, (∀ x ∈ l, ∃ y, f x = some y) → ∃ ys, l.mapM f = some ys
  | [], _ => ⟨[], rfl⟩
  | x :: l, h => by
    obtain ⟨y, hy⟩ := h x (by simp)
    obtain ⟨ys, hys⟩ := mapM_some l fun z hz => h z (by simp [hz])
    exact ⟨y :: ys, by simp [List.mapM_cons, hy, hys]⟩

theorem actL_get {l : List Nat} (hl : l.length ≤ 16) (hx : ∀ x ∈ l, x < 16) {i : Nat} (hi : i < 16) : ∃ n : Nat, n < 16 ∧ (actL l)[i]? = some (.int .i64 n) := by
  by_cases h : i < l.length
  · exact ⟨l[i], hx _ (List.getElem_mem h), by have := actA_at h; simpa [actA] using this⟩
  · exact ⟨0, by omega, by have := actA_past (l := l) (by omega) hi; simpa [actA] using this⟩

/-- An action is a key. -/
theorem key_some {m : Nat} {l : List Nat} (h : Good m l) : ∃ lit, keyOf Try.prog 53 (.agg (actA l)) = some lit := by
  obtain ⟨hl, hm, hx⟩ := h
  have h16 : (actL l).length = 16 := actL_length l (by omega)
  obtain ⟨ls, hls⟩ : ∃ ls, Try.prog.keyLits (Try.prog.types.size + 1) 53 (Value.agg (actA l)).cells.toList = some ls := by
    obtain ⟨t, ht⟩ := ntypes
    rw [ht]
    unfold Program.keyLits
    simp only [und53, Value.cells]
    rw [if_pos (by rw [cells53]; exact h16)]
    obtain ⟨ys, hys⟩ := mapM_some (f := fun i => Try.prog.keyLits (t + 1) 3 (((actA l).toList.drop (i * Try.prog.cellsOf 3)).take (Try.prog.cellsOf 3))) (List.range 16) (fun i hi => by
      have hi16 : i < 16 := by simpa using hi
      obtain ⟨n, hn, hget⟩ := actL_get (by omega) hx hi16
      have hil : i < (actL l).length := by omega
      have e : ((actA l).toList.drop (i * Try.prog.cellsOf 3)).take (Try.prog.cellsOf 3) = [.int .i64 n] := by
        rw [cells3, Nat.mul_one]
        show ((actL l).drop i).take 1 = _
        rw [List.drop_eq_getElem_cons hil]
        rw [List.getElem?_eq_getElem hil] at hget
        rw [Option.some.inj hget]
        rfl
      rw [e]
      unfold Program.keyLits
      simp only [und3]
      have hwf : (Lit.int .i64 (n : Int)).wf = true := WalkArith.wf_i64 (by omega)
      exact ⟨_, by rw [if_pos ⟨trivial, hwf⟩]⟩)
    exact ⟨_, by rw [hys]; rfl⟩
  refine ⟨.string (keyBytes ls), ?_⟩
  unfold keyOf
  simp only [und53]
  rw [if_pos (by simp [kt53, Value.formed, und53, cells53, actA_size l (by omega)]), hls]
  rfl

noncomputable def actKey (l : List Nat) : Lit := (keyOf Try.prog 53 (.agg (actA l))).getD (.bool false)
theorem actKey_spec {m : Nat} {l : List Nat} (h : Good m l) : keyOf Try.prog 53 (.agg (actA l)) = some (actKey l) := by
  obtain ⟨lit, e⟩ := key_some h
  simp [actKey, e]

theorem actA_inj {l l' : List Nat} (hl : l.length = l'.length) (h : actA l = actA l') : l = l' := by
  apply List.ext_getElem hl
  intro i h1 h2
  have e1 := actA_at h1
  rw [h, actA_at h2] at e1
  simp at e1
  omega
theorem actKey_inj {m : Nat} {l l' : List Nat} (h : Good m l) (h' : Good m l') (e : actKey l = actKey l') : l = l' := by
  have h1 := actKey_spec h
  have h2 := actKey_spec h'
  rw [← e] at h2
  have := law53.inj h1 h2
  injection this with this
  exact actA_inj (h.1.trans h'.1.symm) this

/-- Block b maps each action of L to its index, and no other. -/
def ActMap (w : World) (b m : Nat) (L : List (List Nat)) : Prop :=
  ∃ D : DataW Unit, w.ownsMap Try.prog 53 (plainElem Try.prog 3) b L.length D ∧ (∀ l, Good m l → Maps.has D (actKey l) = decide (l ∈ L)) ∧
    (∀ (i : Nat) (l : List Nat), L[i]? = some l → Good m l ∧ ∀ z, D.atKey (actKey l) z = .lit (.int .i64 i)) ∧ L.Nodup

section
variable {w w' : World} {b m : Nat} {L : List (List Nat)}

theorem ActMap.lt (h : ActMap w b m L) : b < w.heap.size := by obtain ⟨D, h, _⟩ := h; exact h.lt
theorem ActMap.block (h : ActMap w b m L) (hb : w'.heap[b]? = w.heap[b]?) : ActMap w' b m L := by
  obtain ⟨D, ⟨es, clock, h1, h2⟩, h3⟩ := h
  exact ⟨D, ⟨es, clock, hb.trans h1, h2⟩, h3⟩
theorem ActMap.below {B : Nat} (h : ActMap w b m L) (hb : Below B w w') (hB : b < B) : ActMap w' b m L := h.block (hb.block b hB)
theorem ActMap.notcells (h : ActMap w b m L) {g : Nat} {t : TypeId} {cs : Array Value} {fr : Nat × Nat} (hg : w.heap[g]? = some (.cells cs t fr)) : b ≠ g := by
  rintro rfl
  obtain ⟨D, ⟨es, clock, h1, _⟩, _⟩ := h
  rw [hg] at h1
  cases h1

/-- 'v, ok := m[a]' where a is known. -/
theorem ActMap.look_yes (h : ActMap w b m L) {i : Nat} {l : List Nat} (hl : L[i]? = some l) :
    (Instr.lookup 62 (.map (some b)) (.agg (actA l)) true).run Try.prog w = .ok (.tuple #[.int .i64 i, .bool true]) w := by
  obtain ⟨D, h1, h2, h3, _⟩ := h
  obtain ⟨hg, hat⟩ := h3 i l hl
  obtain ⟨v, ps, hrun, hv⟩ := h1.look_ok law53 und62 (zero3 w) (plainElem_int und3 (by decide : (Lit.int .i64 0).wf = true)) (actKey_spec hg)
  obtain ⟨c, rfl, hc, _⟩ := plainElem_int_inv und3 hv
  rw [hrun, h2 l hg]
  have : decide (l ∈ L) = true := decide_eq_true (List.mem_of_getElem? hl)
  rw [this]
  have hc' := congrArg Prod.fst hc
  simp only [hat] at hc'
  injection hc' with hc'
  injection hc' with _ hc'
  rw [hc']

/-- 'v, ok := m[a]' where a is unknown. -/
theorem ActMap.look_no (h : ActMap w b m L) {l : List Nat} (hg : Good m l) (hl : l ∉ L) :
    (Instr.lookup 62 (.map (some b)) (.agg (actA l)) true).run Try.prog w = .ok (.tuple #[.int .i64 0, .bool false]) w := by
  obtain ⟨D, h1, h2, h3, _⟩ := h
  have hno : Maps.has D (actKey l) = false := by rw [h2 l hg]; exact decide_eq_false hl
  obtain ⟨v, ps, hrun, hv⟩ := h1.look_ok law53 und62 (zero3 w) (plainElem_int und3 (by decide : (Lit.int .i64 0).wf = true)) (actKey_spec hg)
  obtain ⟨c, rfl, hc, _⟩ := plainElem_int_inv und3 hv
  rw [Maps.atKey_of_not_has hno] at hc
  have hc' := congrArg Prod.fst hc
  injection hc' with hc'
  injection hc' with _ hc'
  rw [hrun, hno, ← hc']

/-- 'm[a]' where a is known. -/
theorem ActMap.at_ (h : ActMap w b m L) {i : Nat} {l : List Nat} (hl : L[i]? = some l) :
    (Instr.lookup 62 (.map (some b)) (.agg (actA l)) false).run Try.prog w = .ok (.int .i64 i) w := by
  obtain ⟨D, h1, h2, h3, _⟩ := h
  obtain ⟨hg, hat⟩ := h3 i l hl
  obtain ⟨c, hrun, hc, _⟩ := h1.lookup_int law53 und62 und3 (zero3 w) (actKey_spec hg)
  rw [hat] at hc
  injection hc with hc
  injection hc with _ hc
  rw [hrun, ← hc]

/-- 'm[a] = len' where a is new. -/
theorem ActMap.store (h : ActMap w b m L) {l : List Nat} (hg : Good m l) (hl : l ∉ L) (hn : L.length < 9000) :
    ∃ w', (Instr.mapUpdate 62 (.map (some b)) (.agg (actA l)) (.int .i64 (L.length : Nat))).run Try.prog w = .ok () w' ∧ ActMap w' b m (L ++ [l]) ∧ w.mapTurned w' b := by
  obtain ⟨D, h1, h2, h3, h4⟩ := h
  have hwf : (Lit.int .i64 ((L.length : Nat) : Int)).wf = true := WalkArith.wf_i64 (by omega)
  obtain ⟨w', hrun, hown, hturn⟩ := h1.store law53 und62 (by unfold maxLen; omega) (actKey_spec hg) (plainElem_int und3 hwf)
  have hkl := law53.key (actKey_spec hg)
  refine ⟨w', hrun, ⟨D.put (actKey l) (.lit (.int .i64 (L.length : Nat))), by simpa using hown, fun l' hg' => ?_, fun i l' hi => ?_, ?_⟩, hturn⟩
  · by_cases e : l' = l
    · subst e
      rw [Maps.has_put_same h1.isMap hkl]
      simp
    · rw [Maps.has_put_other (fun e2 => e (actKey_inj hg' hg e2)), h2 l' hg']
      simp [e]
  · by_cases hlt : i < L.length
    · rw [List.getElem?_append_left hlt] at hi
      obtain ⟨hg', hat⟩ := h3 i l' hi
      refine ⟨hg', fun z => ?_⟩
      have hne : l' ≠ l := fun e => hl (e ▸ List.mem_of_getElem? hi)
      rw [Maps.atKey_put_other (fun e2 => hne (actKey_inj hg' hg e2))]
      exact hat z
    · have hi2 : i = L.length := by
        have := (List.getElem?_eq_some_iff.1 hi).1
        simp at this
        omega
      subst hi2
      have : l' = l := by simpa using hi.symm
      subst this
      exact ⟨hg, fun z => Maps.atKey_put_same h1.isMap hkl _ z⟩
  · exact List.nodup_append.2 ⟨h4, by simp, by
      intro a ha b hb
      rw [List.mem_singleton.1 hb]
      rintro rfl
      exact hl ha⟩

/-- 'make(map[action]int)'. -/
theorem ActMap.made (w : World) (m : Nat) : ActMap (w.alloc (.map #[] 0)) w.heap.size m [] :=
  ⟨.map [], World.ownsMap_made w _ _ _, fun l _ => by simp [Maps.has], fun i l h => by simp at h, List.nodup_nil⟩
end
end Go.Proofs.Ytlbpkhbjdojdgaa
