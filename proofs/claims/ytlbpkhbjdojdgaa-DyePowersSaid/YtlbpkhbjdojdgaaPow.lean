/-
  The plain law of the powers of a word: they come again within a hundred.
-/
import Derived.Test.YtlbpkhbjdojdgaaPer
import Derived.Test.YtlbpkhbjdojdgaaLaw3
namespace Go.Proofs.Ytlbpkhbjdojdgaa
namespace Dy

theorem step_dye_odd {D : List (List Int)} {s : UInt8} (h1 : s ≠ 98) (h2 : s ≠ 119) {x : Nat} (hx : x % 2 = 1) : stepN D s.toNat x = x := by
  unfold stepN
  rw [if_neg (show ¬ s.toNat = 119 from fun e => h2 (UInt8.toNat_inj.1 e)), if_neg (show ¬ s.toNat = 98 from fun e => h1 (UInt8.toNat_inj.1 e)), if_pos hx]
theorem step_dye_even {D : List (List Int)} {s : UInt8} (h1 : s ≠ 98) (h2 : s ≠ 119) {x : Nat} (hx : x % 2 = 0) : stepN D s.toNat x % 2 = 0 := by
  unfold stepN
  rw [if_neg (show ¬ s.toNat = 119 from fun e => h2 (UInt8.toNat_inj.1 e)), if_neg (show ¬ s.toNat = 98 from fun e => h1 (UInt8.toNat_inj.1 e)), if_neg (by omega)]
  omega
theorem walk_dyes_odd {D : List (List Int)} : ∀ (w : List UInt8), (∀ s ∈ w, s ≠ 98 ∧ s ≠ 119) → ∀ x, x % 2 = 1 → walk D w x = x
  | [], _, _, _ => rfl
  | s :: w, h, x, hx => by
    have h1 := h s (List.mem_cons_self ..)
    show walk D w (stepN D s.toNat x) = x
    rw [step_dye_odd h1.1 h1.2 hx]
    exact walk_dyes_odd w (fun t ht => h t (List.mem_cons_of_mem _ ht)) x hx
theorem walk_dyes_even {D : List (List Int)} : ∀ (w : List UInt8), (∀ s ∈ w, s ≠ 98 ∧ s ≠ 119) → ∀ x, x % 2 = 0 → walk D w x % 2 = 0
  | [], _, _, h => h
  | s :: w, h, x, hx => by
    have h1 := h s (List.mem_cons_self ..)
    exact walk_dyes_even w (fun t ht => h t (List.mem_cons_of_mem _ ht)) _ (step_dye_even h1.1 h1.2 hx)
theorem walk_dyes_mod {D : List (List Int)} {w : List UInt8} (h : ∀ s ∈ w, s ≠ 98 ∧ s ≠ 119) (x : Nat) : walk D w x % 2 = x % 2 := by
  rcases Nat.mod_two_eq_zero_or_one x with e | e
  · rw [walk_dyes_even w h x e, e]
  · rw [walk_dyes_odd w h x e]
/-- A word of dyes alone; or one that leads to states of one parity. -/
theorem parity (D : List (List Int)) : ∀ w : List UInt8, (∀ s ∈ w, s ≠ 98 ∧ s ≠ 119) ∨ ∃ q, q < 2 ∧ ∀ x, walk D w x % 2 = q
  | [] => .inl fun s h => by simp at h
  | s :: w => by
    rcases parity D w with h | ⟨q, hq, h⟩
    · by_cases h1 : s = 98
      · subst h1
        refine .inr ⟨0, by omega, fun x => ?_⟩
        show walk D w (stepN D 98 x) % 2 = 0
        rw [walk_dyes_mod h]
        simp [stepN]
        omega
      · by_cases h2 : s = 119
        · subst h2
          refine .inr ⟨1, by omega, fun x => ?_⟩
          show walk D w (stepN D 119 x) % 2 = 1
          rw [walk_dyes_mod h]
          simp [stepN]
          omega
        · refine .inl fun t ht => ?_
          rcases List.mem_cons.1 ht with rfl | ht
          · exact ⟨h1, h2⟩
          · exact h t ht
    · exact .inr ⟨q, hq, fun x => h _⟩

/-- The powers of a word come again within a hundred. -/
theorem powers {c : Nat} {D : List (List Int)} (hD : OkD c D) {w : List UInt8} (hw : ∀ s ∈ w, s ∈ steps D.length) : ∃ i p, 0 < i ∧ 0 < p ∧ i + p ≤ 99 ∧ ∀ x, x < 2 * c → it (walk D w) (i + p) x = it (walk D w) i x := by
  have hc := hD.2.1
  have hlt : ∀ x, x < 2 * c → walk D w x < 2 * c := fun x hx => walk_lt hD w x hw hx
  rcases parity D w with h | ⟨q, hq, h⟩
  · have hS : ∀ x ∈ (List.range c).map (2 * ·), walk D w x ∈ (List.range c).map (2 * ·) := fun x hx => by
      obtain ⟨y, hy, rfl⟩ := List.mem_map.1 hx
      have hy' := List.mem_range.1 hy
      have h1 := walk_dyes_even (D := D) w h (2 * y) (by omega)
      have h2 := hlt (2 * y) (by omega)
      exact List.mem_map.2 ⟨walk D w (2 * y) / 2, List.mem_range.2 (by omega), by omega⟩
    obtain ⟨p, hp0, hp, hall⟩ := period_all hS (by simpa using hc)
    have hodd : ∀ n x, x % 2 = 1 → it (walk D w) n x = x := by
      intro n
      induction n with
      | zero => intro x _; rfl
      | succ n ih => intro x hx; show walk D w (it (walk D w) n x) = x; rw [ih x hx]; exact walk_dyes_odd w h x hx
    refine ⟨8, p, by omega, hp0, by omega, fun x hx => ?_⟩
    rcases Nat.mod_two_eq_zero_or_one x with e | e
    · exact hall x (List.mem_map.2 ⟨x / 2, List.mem_range.2 (by omega), by omega⟩)
    · rw [hodd _ x e, hodd _ x e]
  · have hS : ∀ x ∈ (List.range c).map (2 * · + q), walk D w x ∈ (List.range c).map (2 * · + q) := fun x hx => by
      obtain ⟨y, hy, rfl⟩ := List.mem_map.1 hx
      have hy' := List.mem_range.1 hy
      have h1 := h (2 * y + q)
      have h2 := hlt (2 * y + q) (by omega)
      exact List.mem_map.2 ⟨walk D w (2 * y + q) / 2, List.mem_range.2 (by omega), by omega⟩
    obtain ⟨p, hp0, hp, hall⟩ := period_all hS (by simpa using hc)
    refine ⟨9, p, by omega, hp0, by omega, fun x hx => ?_⟩
    have h1 := h x
    have h2 := hlt x hx
    have := hall (walk D w x) (List.mem_map.2 ⟨walk D w x / 2, List.mem_range.2 (by omega), by omega⟩)
    rw [show 9 + p = (8 + p) + 1 by omega, it_add]
    show it (walk D w) (8 + p) (walk D w x) = it (walk D w) 9 x
    rw [this, show (9 : Nat) = 8 + 1 from rfl, it_add]
    rfl
end Dy
end Go.Proofs.Ytlbpkhbjdojdgaa
