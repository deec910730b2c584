/-
  The argument of the three laws, an overlay by value, opened.
-/
import Derived.Test.YtlbpkhbjdojdgaaW
import Derived.Test.YtlbpkhbjdojdgaaMem
import Derived.Test.YtlbpkhbjdojdgaaRows
import Derived.ProofKit
import Derived.Deep.Matrix
import Derived.Lib.SmallJoins
namespace Go.Proofs.Ytlbpkhbjdojdgaa
open Go.ChangeShapes Go.WideShapes Go.ChangeAt Go.RowKit Go.Deep Go.Joins

theorem Try.cellsOf36 : Try.prog.cellsOf 36 = 1 := by kernel_rfl
theorem Try.cellsOf3 : Try.prog.cellsOf 3 = 1 := by kernel_rfl
theorem Try.cellsOf24 : Try.prog.cellsOf 24 = 2 := by kernel_rfl

theorem block_lt_cell {w : World} {a : Addr} {v : Value} (h : w.cell? a = some v) : a.block < w.heap.size := World.block_lt_of_cell? _ _ h

/-- The dyes that came in. -/
theorem rows_of {H : Type} {enc : TypeId × Value → H} {w : World} {fuel : Nat} {v : Value} {x : DataW H × List MemPlace} (h : DataW.trod enc Try.prog w 0 (fun _ => true) true fuel 22 [v] = some x) :
    ∃ A n cap D, v = .slice A n cap ∧ RowsAre w w.heap.size A n D ∧ n ≤ cap ∧ n ≤ maxLen ∧ ∀ d ∈ D, d.length ≤ maxLen := by
  rcases open_int_rows Try.underlying22 Try.underlying36 Try.underlying3 Try.cellsOf36 Try.cellsOf3 h with ⟨hv, _⟩ | ⟨a, len, cap, A, L, C, Z, hv, _, hl, hm, _, hr⟩
  · obtain rfl : v = .slice none 0 0 := by simpa using hv
    exact ⟨none, 0, 0, [], rfl, ⟨rfl, [], Reads.none_, fun i d h => by simp at h⟩, Nat.le_refl _, Nat.zero_le _, fun d h => by simp at h⟩
  · obtain rfl : v = .slice (some a) len cap := by simpa using hv
    refine ⟨some a, len, cap, (List.range len).map fun r => (Z r).take (L r), rfl, ⟨by simp, (List.range len).map fun r => .slice (A r) (L r) (C r), ⟨by simp, fun hlen => ⟨a, rfl, ?_, fun j u hj => ?_⟩⟩, fun i d hd => ?_⟩, hl, Nat.le_trans hl hm, fun d hd => ?_⟩
    · have := block_lt_cell (hr 0 (by omega)).1
      rwa [block_of_add] at this
    · have hjl : j < len := by have := (List.getElem?_eq_some_iff.1 hj).1; simpa using this
      simp [hjl] at hj
      rw [← hj]
      exact (hr j (by omega)).1
    · have hi : i < len := by have := (List.getElem?_eq_some_iff.1 hd).1; simpa using this
      simp [hi] at hd
      obtain ⟨h1, h2, h3, h4, h5, h6, h7⟩ := hr i (by omega)
      refine ⟨.slice (A i) (L i) (C i), by simp [hi], A i, C i, ?_, ?_, ?_⟩
      · rw [← hd, List.length_take]; congr 1; omega
      · rw [← hd, List.length_take]; omega
      · have hdl : d.length = L i := by rw [← hd, List.length_take]; omega
        rw [hdl]
        refine ⟨by simp [ints, hdl], fun h0 => ?_⟩
        cases hA : A i with
        | none => have := h6 hA; omega
        | some a' =>
          obtain ⟨_, hc⟩ := h7 a' hA
          refine ⟨a', rfl, ?_, fun j u hj => ?_⟩
          · have := block_lt_cell (hc 0 (by omega))
            rwa [block_of_add] at this
          · have hjl : j < L i := by have := (List.getElem?_eq_some_iff.1 hj).1; simpa [ints, hdl] using this
            rw [hc j (by omega)]
            simp only [ints, ← hd, List.getElem?_map, List.getElem?_take_of_lt hjl] at hj
            rw [List.getElem?_eq_getElem (by omega)] at hj
            rw [← Option.some.inj hj]
            simp [List.getD_eq_getElem?_getD, show j < (Z i).length by omega]
    · obtain ⟨r, hr1, rfl⟩ := List.mem_map.1 hd
      have := (hr r (by have := List.mem_range.1 hr1; omega)).2.1
      have := (hr r (by have := List.mem_range.1 hr1; omega)).2.2.1
      rw [List.length_take]; omega
end Go.Proofs.Ytlbpkhbjdojdgaa
