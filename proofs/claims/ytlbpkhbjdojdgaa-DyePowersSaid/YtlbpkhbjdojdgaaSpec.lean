/-
  The plain functions that the walks compare with: what a step, a string of steps do to states; the steps of an overlay; no program in sight.
-/
namespace Go.Proofs.Ytlbpkhbjdojdgaa
namespace Dy

/-- A state after the step s (a byte, as a number): 119 waxes, 98 boils, 48 .. are dyes. -/
def stepN (D : List (List Int)) (s st : Nat) : Nat :=
  if s = 119 then st + 1 - st % 2
  else if s = 98 then st - st % 2
  else if st % 2 = 1 then st
  else 2 * ((D.getD (s - 48) []).getD (st / 2) 0).toNat

/-- The steps of an overlay with n dyes. -/
def steps (n : Nat) : List UInt8 := [48, 49, 50, 51].take n ++ [98, 119]

/-- An overlay of c colours with the dyes D is valid. -/
def OkD (c : Nat) (D : List (List Int)) : Prop := 1 ≤ c ∧ c ≤ 8 ∧ D.length ≤ 4 ∧ ∀ d ∈ D, d.length = c ∧ ∀ x ∈ d, 0 ≤ x ∧ x < c

/-- What a string makes of an action. -/
def on (D : List (List Int)) (l : List Nat) (w : List UInt8) : List Nat := w.foldl (fun a s => a.map (stepN D s.toNat)) l

def idle (c : Nat) : List Nat := List.range (2 * c)

def act (c : Nat) (D : List (List Int)) (w : List UInt8) : List Nat := on D (idle c) w

theorem mem_steps {n : Nat} {s : UInt8} (h : s ∈ steps n) : s = 119 ∨ s = 98 ∨ (48 ≤ s.toNat ∧ s.toNat < 48 + n ∧ s.toNat < 52) := by
  unfold steps at h
  simp only [List.mem_append, List.mem_cons, List.not_mem_nil, or_false] at h
  rcases h with h | h | h
  · obtain ⟨i, hi, he⟩ := List.mem_take_iff_getElem.1 h
    right; right
    have h4 : i < 4 := by simp at hi; omega
    have hn : i < n := by simp at hi; omega
    match i, h4 with
    | 0, _ => simp at he; subst he; simp; omega
    | 1, _ => simp at he; subst he; simp; omega
    | 2, _ => simp at he; subst he; simp; omega
    | 3, _ => simp at he; subst he; simp; omega
  · exact Or.inr (Or.inl h)
  · exact Or.inl h

theorem stepN_lt {c : Nat} {D : List (List Int)} (hD : OkD c D) {s : UInt8} (hs : s ∈ steps D.length) {st : Nat} (h : st < 2 * c) : stepN D s.toNat st < 2 * c := by
  obtain ⟨h1, h2, h3, h4⟩ := hD
  unfold stepN
  split
  · omega
  · split
    · omega
    · split
      · exact h
      · rename_i n1 n2 n3
        rcases mem_steps hs with rfl | rfl | ⟨ha, hb, _⟩
        · exact absurd rfl n1
        · exact absurd rfl n2
        · have hl : s.toNat - 48 < D.length := by omega
          have e1 : D.getD (s.toNat - 48) [] = D[s.toNat - 48] := by simp [List.getD_eq_getElem?_getD, hl]
          rw [e1]
          obtain ⟨h5, h6⟩ := h4 _ (List.getElem_mem hl)
          have hl2 : st / 2 < (D[s.toNat - 48]).length := by omega
          rw [List.getD_eq_getElem?_getD, List.getElem?_eq_getElem hl2, Option.getD_some]
          have := h6 _ (List.getElem_mem hl2)
          omega

/-- One string more, if its action is new; 'none': the monoid is too great. -/
def extend (c : Nat) (D : List (List Int)) (W : List (List UInt8)) (w : List UInt8) : Option (List (List UInt8)) :=
  if act c D w ∈ W.map (act c D) then some W else if W.length = 2000 ∨ 64 < w.length then none else some (W ++ [w])
/-- The string number i is lengthened by each of the steps; then k. -/
def rowK (c : Nat) (D : List (List Int)) (i : Nat) (k : List (List UInt8) → Option (List (List UInt8))) : List UInt8 → List (List UInt8) → Option (List (List UInt8))
  | [], W => k W
  | s :: r, W => (extend c D W (W.getD i [] ++ [s])).bind (rowK c D i k r)
def run (c : Nat) (D : List (List Int)) : Nat → Nat → List (List UInt8) → Option (List (List UInt8))
  | 0, _, _ => none
  | f + 1, i, W => if i < W.length then rowK c D i (run c D f (i + 1)) (steps D.length) W else some W
/-- The normal forms in order, or none: there are too many, or one is too long. -/
def list (c : Nat) (D : List (List Int)) : Option (List (List UInt8)) := run c D 2001 0 [[]]

end Dy
end Go.Proofs.Ytlbpkhbjdojdgaa
