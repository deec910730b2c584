/-
  The plain law of the monoid's list: no program in sight. What Dy.list gives are the least strings of their actions.
-/
import Derived.Test.YtlbpkhbjdojdgaaSpec
namespace Go.Proofs.Ytlbpkhbjdojdgaa
namespace Dy

/-- Two strings of one length, by their bytes. -/
def lex : List UInt8 → List UInt8 → Prop
  | a :: x, b :: y => a < b ∨ (a = b ∧ lex x y)
  | _, _ => False
/-- Shortlex. -/
def slt (a b : List UInt8) : Prop := a.length < b.length ∨ (a.length = b.length ∧ lex a b)
def sle (a b : List UInt8) : Prop := slt a b ∨ a = b

theorem lex_irrefl : ∀ a, ¬ lex a a
  | [], h => h
  | a :: x, h => by
    rcases h with h | ⟨_, h⟩
    · exact absurd h (UInt8.lt_irrefl a)
    · exact lex_irrefl x h
theorem lex_trans : ∀ {a b c : List UInt8}, lex a b → lex b c → lex a c
  | [], _, _, h, _ => h.elim
  | _ :: _, [], _, h, _ => h.elim
  | _ :: _, _ :: _, [], _, h => h.elim
  | a :: x, b :: y, c :: z, h1, h2 => by
    rcases h1 with h1 | ⟨rfl, h1⟩
    · rcases h2 with h2 | ⟨rfl, _⟩
      · exact .inl (UInt8.lt_trans h1 h2)
      · exact .inl h1
    · rcases h2 with h2 | ⟨rfl, h2⟩
      · exact .inl h2
      · exact .inr ⟨rfl, lex_trans h1 h2⟩
theorem lex_total : ∀ {a b : List UInt8}, a.length = b.length → lex a b ∨ a = b ∨ lex b a
  | [], [], _ => .inr (.inl rfl)
  | [], _ :: _, h => by simp at h
  | _ :: _, [], h => by simp at h
  | a :: x, b :: y, h => by
    rcases Nat.lt_trichotomy a.toNat b.toNat with h1 | h1 | h1
    · exact .inl (.inl (UInt8.lt_iff_toNat_lt.2 h1))
    · obtain rfl := UInt8.toNat_inj.1 h1
      rcases lex_total (a := x) (b := y) (by simpa using h) with h2 | rfl | h2
      · exact .inl (.inr ⟨rfl, h2⟩)
      · exact .inr (.inl rfl)
      · exact .inr (.inr (.inr ⟨rfl, h2⟩))
    · exact .inr (.inr (.inl (UInt8.lt_iff_toNat_lt.2 h1)))
theorem lex_app_right : ∀ {a b : List UInt8} (q : List UInt8), a.length = b.length → lex a b → lex (a ++ q) (b ++ q)
  | [], _, _, _, h => h.elim
  | _ :: _, [], _, _, h => h.elim
  | a :: x, b :: y, q, hl, h => by
    rcases h with h | ⟨rfl, h⟩
    · exact .inl h
    · exact .inr ⟨rfl, lex_app_right q (by simpa using hl) h⟩
theorem lex_app_left {a b : List UInt8} : ∀ (p : List UInt8), lex a b → lex (p ++ a) (p ++ b)
  | [], h => h
  | _ :: p, h => .inr ⟨rfl, lex_app_left p h⟩
/-- The first parts decide. -/
theorem lex_app : ∀ {a b : List UInt8} (q r : List UInt8), a.length = b.length → lex a b → lex (a ++ q) (b ++ r)
  | [], _, _, _, _, h => h.elim
  | _ :: _, [], _, _, _, h => h.elim
  | a :: x, b :: y, q, r, hl, h => by
    rcases h with h | ⟨rfl, h⟩
    · exact .inl h
    · exact .inr ⟨rfl, lex_app q r (by simpa using hl) h⟩

theorem slt_irrefl (a : List UInt8) : ¬ slt a a := fun h => by
  rcases h with h | ⟨_, h⟩
  · omega
  · exact lex_irrefl a h
theorem slt_trans {a b c : List UInt8} (h1 : slt a b) (h2 : slt b c) : slt a c := by
  rcases h1 with h1 | ⟨e1, h1⟩ <;> rcases h2 with h2 | ⟨e2, h2⟩
  · exact .inl (by omega)
  · exact .inl (by omega)
  · exact .inl (by omega)
  · exact .inr ⟨by omega, lex_trans h1 h2⟩
theorem slt_total (a b : List UInt8) : slt a b ∨ a = b ∨ slt b a := by
  rcases Nat.lt_trichotomy a.length b.length with h | h | h
  · exact .inl (.inl h)
  · rcases lex_total h with h1 | h1 | h1
    · exact .inl (.inr ⟨h, h1⟩)
    · exact .inr (.inl h1)
    · exact .inr (.inr (.inr ⟨h.symm, h1⟩))
  · exact .inr (.inr (.inl h))
theorem sle_trans {a b c : List UInt8} (h1 : sle a b) (h2 : sle b c) : sle a c := by
  rcases h1 with h1 | rfl
  · rcases h2 with h2 | rfl
    · exact .inl (slt_trans h1 h2)
    · exact .inl h1
  · exact h2
theorem sle_antisymm {a b : List UInt8} (h1 : sle a b) (h2 : sle b a) : a = b := by
  rcases h1 with h1 | h1
  · rcases h2 with h2 | h2
    · exact absurd (slt_trans h1 h2) (slt_irrefl a)
    · exact h2.symm
  · exact h1
theorem slt_of_le_of_lt {a b c : List UInt8} (h1 : sle a b) (h2 : slt b c) : slt a c := by
  rcases h1 with h1 | rfl
  · exact slt_trans h1 h2
  · exact h2
theorem slt_of_lt_of_le {a b c : List UInt8} (h1 : slt a b) (h2 : sle b c) : slt a c := by
  rcases h2 with h2 | rfl
  · exact slt_trans h1 h2
  · exact h1
theorem slt_ctx {a b : List UInt8} (p q : List UInt8) (h : slt a b) : slt (p ++ a ++ q) (p ++ b ++ q) := by
  rcases h with h | ⟨e, h⟩
  · exact .inl (by simp; omega)
  · exact .inr ⟨by simp; omega, lex_app_right q (by simp; omega) (lex_app_left p h)⟩
theorem slt_snoc {a b : List UInt8} (s t : UInt8) (h : slt a b) : slt (a ++ [s]) (b ++ [t]) := by
  rcases h with h | ⟨e, h⟩
  · exact .inl (by simp; omega)
  · exact .inr ⟨by simp; omega, lex_app _ _ e h⟩
theorem slt_last {s t : UInt8} (a : List UInt8) (h : s < t) : slt (a ++ [s]) (a ++ [t]) := .inr ⟨by simp, lex_app_left a (.inl h)⟩
theorem sle_snoc {a b : List UInt8} (s : UInt8) (h : sle a b) : sle (a ++ [s]) (b ++ [s]) := by
  rcases h with h | rfl
  · exact .inl (slt_snoc s s h)
  · exact .inr rfl
theorem slt_ext (a : List UInt8) (s : UInt8) : slt a (a ++ [s]) := .inl (by simp)
theorem slt_len {a b : List UInt8} (h : sle a b) : a.length ≤ b.length := by
  rcases h with (h | ⟨h, _⟩) | rfl
  · omega
  · omega
  · omega

/-! ### The invariant of the list -/
section
variable {c : Nat} {D : List (List Int)}

theorem act_app (w v : List UInt8) : act c D (w ++ v) = on D (act c D w) v := by simp [act, on, List.foldl_append]
/-- A string acts by its action alone. -/
theorem act_congr {w w' : List UInt8} (h : act c D w = act c D w') (v : List UInt8) : act c D (w ++ v) = act c D (w' ++ v) := by rw [act_app, act_app, h]

/-- What holds while the number i is lengthened, the steps r still to come. -/
structure Inv (c : Nat) (D : List (List Int)) (i : Nat) (r : List UInt8) (W : List (List UInt8)) : Prop where
  first : W[0]? = some []
  sorted : W.Pairwise slt
  acts : (W.map (act c D)).Nodup
  made : ∀ x ∈ W, ∀ s ∈ x, s ∈ steps D.length
  now : ∀ x ∈ W, ∀ y, W[i]? = some y → ∀ s ∈ r, slt x (y ++ [s])
  later : ∀ x ∈ W, ∀ j y, i < j → W[j]? = some y → ∀ s ∈ steps D.length, slt x (y ++ [s])
  done : ∀ j y, j < i → W[j]? = some y → ∀ s ∈ steps D.length, ∃ x ∈ W, act c D x = act c D (y ++ [s]) ∧ sle x (y ++ [s])
  part : ∀ y, W[i]? = some y → ∀ s ∈ steps D.length, s ∈ r ∨ ∃ x ∈ W, act c D x = act c D (y ++ [s]) ∧ sle x (y ++ [s])

theorem Inv.step {i : Nat} {s : UInt8} {r : List UInt8} {W W' : List (List UInt8)} {y : List UInt8} (h : Inv c D i (s :: r) W) (hy : W[i]? = some y) (hs : s ∈ steps D.length) (hr : ∀ t ∈ r, s < t)
    (he : extend c D W (y ++ [s]) = some W') : Inv c D i r W' := by
  have hyW : y ∈ W := List.mem_of_getElem? hy
  unfold extend at he
  split at he
  · rename_i hm
    injection he with he
    subst he
    obtain ⟨x, hx, hxa⟩ := List.mem_map.1 hm
    exact ⟨h.first, h.sorted, h.acts, h.made, fun x hx z hz t ht => h.now x hx z hz t (by simp [ht]), h.later, h.done, fun z hz t ht => by
      rcases h.part z hz t ht with h1 | h1
      · rcases List.mem_cons.1 h1 with rfl | h1
        · rw [hy] at hz; cases hz
          exact .inr ⟨x, hx, hxa, .inl (h.now x hx y hy t (by simp))⟩
        · exact .inl h1
      · exact .inr h1⟩
  · rename_i hm
    split at he
    · cases he
    · injection he with he
      subst he
      have hlt := (List.getElem?_eq_some_iff.1 hy).1
      have hnew : ∀ x ∈ W, slt x (y ++ [s]) := fun x hx => h.now x hx y hy s (by simp)
      have hmem : ∀ {x}, x ∈ W ++ [y ++ [s]] → x ∈ W ∨ x = y ++ [s] := fun hx => by simpa using hx
      have hsle : ∀ {x}, x ∈ W ++ [y ++ [s]] → sle x (y ++ [s]) := fun hx => by
        rcases hmem hx with h1 | rfl
        · exact .inl (hnew _ h1)
        · exact .inr rfl
      refine ⟨?_, ?_, ?_, ?_, ?_, ?_, ?_, ?_⟩
      · rw [List.getElem?_append_left (by have := (List.getElem?_eq_some_iff.1 h.first).1; omega)]; exact h.first
      · rw [List.pairwise_append]
        exact ⟨h.sorted, by simp, fun a ha b hb => by rw [List.mem_singleton.1 hb]; exact hnew a ha⟩
      · rw [List.map_append, List.nodup_append]
        refine ⟨h.acts, by simp, fun a ha b hb => ?_⟩
        simp at hb
        subst hb
        exact fun e => hm (e ▸ ha)
      · intro x hx t ht
        rcases hmem hx with h1 | rfl
        · exact h.made x h1 t ht
        · rcases List.mem_append.1 ht with h2 | h2
          · exact h.made y hyW t h2
          · rw [List.mem_singleton.1 h2]; exact hs
      · intro x hx z hz t ht
        rw [List.getElem?_append_left hlt, hy] at hz
        cases hz
        exact slt_of_le_of_lt (hsle hx) (slt_last y (hr t ht))
      · intro x hx j z hj hz t ht
        by_cases hjl : j < W.length
        · rw [List.getElem?_append_left hjl] at hz
          rcases hmem hx with h1 | rfl
          · exact h.later x h1 j z hj hz t ht
          · have hyz : slt y z := by
              have := List.pairwise_iff_getElem.1 h.sorted i j hlt hjl hj
              rw [List.getElem?_eq_getElem hlt] at hy
              rw [List.getElem?_eq_getElem hjl] at hz
              injection hy with hy
              injection hz with hz
              rw [hy, hz] at this
              exact this
            exact slt_snoc s t hyz
        · have hzl := (List.getElem?_eq_some_iff.1 hz).1
          simp at hzl
          have : j = W.length := by omega
          subst this
          have : z = y ++ [s] := by simpa using hz.symm
          subst this
          exact slt_of_le_of_lt (hsle hx) (slt_ext _ t)
      · intro j z hj hz t ht
        rw [List.getElem?_append_left (by omega)] at hz
        obtain ⟨x, hx, h1, h2⟩ := h.done j z hj hz t ht
        exact ⟨x, by simp [hx], h1, h2⟩
      · intro z hz t ht
        rw [List.getElem?_append_left hlt, hy] at hz
        cases hz
        rcases h.part y hy t ht with h1 | ⟨x, hx, h1, h2⟩
        · rcases List.mem_cons.1 h1 with rfl | h1
          · exact .inr ⟨y ++ [t], by simp, rfl, .inr rfl⟩
          · exact .inl h1
        · exact .inr ⟨x, by simp [hx], h1, h2⟩

/-- The next number. -/
theorem Inv.next {i : Nat} {W : List (List UInt8)} (h : Inv c D i [] W) (hi : i < W.length) : Inv c D (i + 1) (steps D.length) W := by
  refine ⟨h.first, h.sorted, h.acts, h.made, fun x hx y hy s hs => h.later x hx (i + 1) y (by omega) hy s hs, fun x hx j y hj hy s hs => h.later x hx j y (by omega) hy s hs, fun j y hj hy s hs => ?_, fun y hy s hs => .inl hs⟩
  by_cases e : j = i
  · subst e
    rcases h.part y hy s hs with h1 | h1
    · cases h1
    · exact h1
  · exact h.done j y (by omega) hy s hs

theorem steps_sorted (n : Nat) (hn : n ≤ 4) : (steps n).Pairwise (· < ·) := by
  match n, hn with
  | 0, _ => decide
  | 1, _ => decide
  | 2, _ => decide
  | 3, _ => decide
  | 4, _ => decide

theorem rowK_inv {K : List (List UInt8) → Option (List (List UInt8))} {i : Nat} {V : List (List UInt8)} (hK : ∀ W, Inv c D i [] W → i < W.length → K W = some V → ∃ j, j ≥ V.length ∧ Inv c D j (steps D.length) V) :
    ∀ (r : List UInt8) (W : List (List UInt8)), r.Pairwise (· < ·) → (∀ s ∈ r, s ∈ steps D.length) → Inv c D i r W → i < W.length → rowK c D i K r W = some V → ∃ j, j ≥ V.length ∧ Inv c D j (steps D.length) V
  | [], W, _, _, h, hi, he => hK W h hi he
  | s :: r, W, hp, hr, h, hi, he => by
    have hy : W[i]? = some (W.getD i []) := by simp [List.getD_eq_getElem?_getD, hi]
    unfold rowK at he
    cases hx : extend c D W (W.getD i [] ++ [s]) with
    | none => rw [hx] at he; cases he
    | some W' =>
      rw [hx] at he
      have h' := h.step hy (hr s (by simp)) (List.pairwise_cons.1 hp).1 hx
      have hi' : i < W'.length := by
        unfold extend at hx
        split at hx
        · injection hx with hx; subst hx; exact hi
        · split at hx
          · cases hx
          · injection hx with hx; subst hx; simp; omega
      exact rowK_inv hK r W' (List.pairwise_cons.1 hp).2 (fun t ht => hr t (by simp [ht])) h' hi' he

theorem run_inv (hn : D.length ≤ 4) : ∀ (f i : Nat) (W V : List (List UInt8)), Inv c D i (steps D.length) W → run c D f i W = some V → ∃ j, j ≥ V.length ∧ Inv c D j (steps D.length) V
  | 0, _, _, _, _, he => by cases he
  | f + 1, i, W, V, h, he => by
    unfold run at he
    split at he
    · rename_i hi
      exact rowK_inv (fun W' h' hi' he' => run_inv hn f (i + 1) W' V (h'.next hi') he') (steps D.length) W (steps_sorted _ hn) (fun s hs => hs) h hi he
    · injection he with he
      subst he
      exact ⟨i, by omega, h⟩

/-- What the list is: the empty string first; the actions differ; each string of steps has its normal form in it, which does not come after it. -/
structure Listed (c : Nat) (D : List (List Int)) (W : List (List UInt8)) : Prop where
  acts : (W.map (act c D)).Nodup
  made : ∀ x ∈ W, ∀ s ∈ x, s ∈ steps D.length
  least : ∀ y : List UInt8, (∀ s ∈ y, s ∈ steps D.length) → ∃ x ∈ W, act c D x = act c D y ∧ sle x y

theorem listed (hn : D.length ≤ 4) {W : List (List UInt8)} (h : list c D = some W) : Listed c D W := by
  have h0 : Inv c D 0 (steps D.length) [[]] := by
    refine ⟨rfl, by simp, by simp, by simp, fun x hx y hy s hs => ?_, fun x hx j y hj hy s hs => ?_, fun j y hj => by omega, fun y hy s hs => .inl hs⟩
    · simp at hx hy; subst hx; subst hy; exact .inl (by simp)
    · have := (List.getElem?_eq_some_iff.1 hy).1; simp at this; omega
  obtain ⟨j, hj, hI⟩ := run_inv hn 2001 0 [[]] W h0 h
  refine ⟨hI.acts, hI.made, fun y => ?_⟩
  -- from the right
  have key : ∀ (n : Nat) (y : List UInt8), y.length = n → (∀ s ∈ y, s ∈ steps D.length) → ∃ x ∈ W, act c D x = act c D y ∧ sle x y := by
    intro n
    induction n with
    | zero =>
      intro y hy _
      have : y = [] := List.eq_nil_of_length_eq_zero hy
      subst this
      exact ⟨[], List.mem_of_getElem? hI.first, rfl, .inr rfl⟩
    | succ n ih =>
      intro y hy hs
      have hne : y ≠ [] := by intro e; subst e; simp at hy
      have hyl := List.dropLast_concat_getLast hne
      obtain ⟨z, t, rfl⟩ : ∃ z t, y = z ++ [t] := ⟨_, _, hyl.symm⟩
      obtain ⟨x, hx, hxa, hxl⟩ := ih z (by simpa using hy) (fun s h => hs s (by simp [h]))
      obtain ⟨q, hq⟩ := List.getElem?_of_mem hx
      have hqW := (List.getElem?_eq_some_iff.1 hq).1
      obtain ⟨v, hv, hva, hvl⟩ := hI.done q x (by omega) hq t (hs t (by simp))
      exact ⟨v, hv, hva.trans (act_congr hxa [t]), sle_trans hvl (sle_snoc t hxl)⟩
  exact key y.length y rfl

end
end Dy
end Go.Proofs.Ytlbpkhbjdojdgaa
