/-
  How an overlay lies in memory: a slice of slices of integers, read as a list of lists.
-/
import Derived.Test.YtlbpkhbjdojdgaaW
import Derived.Test.YtlbpkhbjdojdgaaSpec
namespace Go.Proofs.Ytlbpkhbjdojdgaa
open Go.RowKit

def ints (d : List Int) : List Value := d.map (Value.int .i64)

/-- Where a slice with an element lies. -/
theorem Reads.place {w : World} {B n : Nat} {A : Option Addr} {xs : List Value} (h : Reads w B 1 A n xs) (hn : 0 < n) :
    ∃ b off, A = some ⟨b, off, none⟩ ∧ b < B ∧ ∀ j u, xs[j]? = some u → w.cell? ⟨b, off + j, none⟩ = some u := by
  obtain ⟨ad, e, hb, hc⟩ := h.2 hn
  obtain ⟨b, off, sp⟩ := ad
  have hl : 0 < xs.length := by have := h.1; omega
  have h0 := hc 0 _ (List.getElem?_eq_getElem hl)
  have hsp : sp = none := by
    cases sp with
    | none => rfl
    | some k =>
      unfold Addr.add World.cell? at h0
      simp at h0
      split at h0 <;> simp at h0
  subst hsp
  refine ⟨b, off, e, hb, fun j u hu => ?_⟩
  have := hc j u hu
  unfold Addr.add at this
  by_cases hj : j = 0
  · subst hj; simpa using this
  · simpa [hj] using this

/-- The value v is a slice that reads as the integers d, all below block B. -/
def RowIs (w : World) (B : Nat) (v : Value) (d : List Int) : Prop := ∃ A cap, v = .slice A d.length cap ∧ d.length ≤ cap ∧ Reads w B 1 A d.length (ints d)

/-- The slice (A, n) of slices reads as the rows D, all below block B. -/
def RowsAre (w : World) (B : Nat) (A : Option Addr) (n : Nat) (D : List (List Int)) : Prop :=
  D.length = n ∧ ∃ rs : List Value, Reads w B 1 A n rs ∧ ∀ (i : Nat) (d : List Int), D[i]? = some d → ∃ u, rs[i]? = some u ∧ RowIs w B u d

section
variable {w w' : World} {B B' n : Nat} {A : Option Addr} {v : Value} {d : List Int} {D : List (List Int)}
theorem RowIs.keep (h : RowIs w B v d) (hk : ∀ p : Addr, p.block < B → w'.cell? p = w.cell? p) : RowIs w' B v d := by
  obtain ⟨A, cap, hv, hl, hr⟩ := h
  exact ⟨A, cap, hv, hl, hr.keep hk⟩
theorem RowIs.more (h : RowIs w B v d) (hB : B ≤ B') : RowIs w B' v d := by
  obtain ⟨A, cap, hv, hl, hr⟩ := h
  exact ⟨A, cap, hv, hl, hr.more hB⟩
theorem RowsAre.keep (h : RowsAre w B A n D) (hk : ∀ p : Addr, p.block < B → w'.cell? p = w.cell? p) : RowsAre w' B A n D := by
  obtain ⟨hl, rs, hr, hi⟩ := h
  exact ⟨hl, rs, hr.keep hk, fun i d hd => by obtain ⟨u, hu, h'⟩ := hi i d hd; exact ⟨u, hu, h'.keep hk⟩⟩
theorem RowsAre.more (h : RowsAre w B A n D) (hB : B ≤ B') : RowsAre w B' A n D := by
  obtain ⟨hl, rs, hr, hi⟩ := h
  exact ⟨hl, rs, hr.more hB, fun i d hd => by obtain ⟨u, hu, h'⟩ := hi i d hd; exact ⟨u, hu, h'.more hB⟩⟩
theorem RowsAre.below (h : RowsAre w B A n D) (hb : Below B w w') : RowsAre w' B A n D := h.keep fun _ hp => hb.cell hp
theorem RowIs.below (h : RowIs w B v d) (hb : Below B w w') : RowIs w' B v d := h.keep fun _ hp => hb.cell hp
/-- A row's element. -/
theorem RowsAre.cell (h : RowsAre w B A n D) {i j : Nat} (hi : i < n) (hj : j < (D.getD i []).length) :
    ∃ b off b2 off2 cap, A = some ⟨b, off, none⟩ ∧ b < B ∧ w.cell? ⟨b, off + i, none⟩ = some (.slice (some ⟨b2, off2, none⟩) (D.getD i []).length cap) ∧ b2 < B ∧
      w.cell? ⟨b2, off2 + j, none⟩ = some (.int .i64 ((D.getD i []).getD j 0)) := by
  obtain ⟨hl, rs, hr, hrow⟩ := h
  obtain ⟨b, off, hA, hb, hc⟩ := hr.place (by omega)
  have hil : i < D.length := by omega
  have e1 : D.getD i [] = D[i] := by simp [List.getD_eq_getElem?_getD, hil]
  rw [e1] at hj ⊢
  obtain ⟨u, hu, A2, cap, hv, _, hr2⟩ := hrow i D[i] (List.getElem?_eq_getElem hil)
  obtain ⟨b2, off2, rfl, hb2, hc2⟩ := hr2.place (by omega)
  refine ⟨b, off, b2, off2, cap, hA, hb, by rw [hc i u hu, hv], hb2, hc2 j _ ?_⟩
  simp [ints, hj]
theorem RowIs.of_own {base n : Nat} {e : TypeId} (h : w.ownsRow base e 1 v n (ints d)) : RowIs w w.heap.size v d := by
  have hn : d.length = n := by have := h.1; simpa [ints] using this
  subst hn
  rcases h.2 with ⟨rfl, h0⟩ | ⟨g, cap, cur, rfl, _, _, hc, _⟩
  · exact ⟨none, 0, by rw [h0], by omega, Reads.of_own (c := 0) (by rw [h0] at h ⊢; exact h)⟩
  · exact ⟨_, cap, rfl, hc, Reads.of_own h⟩
end
end Go.Proofs.Ytlbpkhbjdojdgaa
