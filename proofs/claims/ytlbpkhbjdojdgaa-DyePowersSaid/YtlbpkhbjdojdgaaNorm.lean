/-
  The walks of normal and Normal, of Same.
-/
import Derived.Test.YtlbpkhbjdojdgaaList
import Derived.Test.YtlbpkhbjdojdgaaLaw
namespace Go.Proofs.Ytlbpkhbjdojdgaa
open Go.RowKit
set_option maxRecDepth 100000

set_option maxHeartbeats 2000000 in
/-- (m *monoid) normal(w): the word of the list with the action of w. -/
theorem normal_any (c n cap : Nat) (A : Option Addr) (D : List (List Int)) (base gm b : Nat) (wv av : Value) (W : List (List UInt8)) (s : ByteArray) (q : Nat) (x : List UInt8) (w : World) (B : Nat)
    (hM : Mon base w gm b wv av c n cap A W (W.map (Dy.act c D)) (W.map (Dy.act c D))) (hD : Dy.OkD c D) (hr : RowsAre w B A n D) (hB : B ≤ w.heap.size) (hs : MadeOf n s) (hsz : s.size ≤ 1000)
    (hq : W[q]? = some x) (hx : Dy.act c D x = Dy.act c D s.data.toList) :
    Calls Try.prog 18 #[.pointer (some ⟨gm, 0, none⟩), .string s] w fun e w' => e = .returned (.string ⟨x.toArray⟩) ∧ Below w.heap.size w w' := by
  have hc8 := hD.2.1
  have h0 := hM.blk.cell 0
  simp at h0
  have h1 := hM.blk.cell 1
  simp at h1
  obtain ⟨g, cp, rfl, hcell⟩ := hM.word hq
  have h2 := hM.blk.cell 2
  simp at h2
  have h4 := hM.blk.cell 4
  simp at h4
  have hqW := (List.getElem?_eq_some_iff.1 hq).1
  have hL : (W.map (Dy.act c D))[q]? = some (Dy.on D (Dy.idle c) s.data.toList) := by rw [List.getElem?_map, hq]; exact congrArg some hx
  have hS : ∀ W', Old w W' → W'.cell? ⟨gm, 0, none⟩ = some (.int .i64 c) ∧ W'.cell? ⟨gm, 1, none⟩ = some (.slice A n cap) ∧ W'.cell? ⟨gm, 2, none⟩ = some (.slice (some ⟨g, 0, none⟩) W.length cp) ∧ W'.cell? ⟨gm, 4, none⟩ = some (.map (some b)) ∧ W'.cell? ⟨g, q, none⟩ = some (.string ⟨x.toArray⟩) := fun W' ho =>
    ⟨(ho.cell hM.blk.lt).trans h0, (ho.cell hM.blk.lt).trans h1, (ho.cell hM.blk.lt).trans h2, (ho.cell hM.blk.lt).trans h4, (ho.cell (block_lt_of_cell hcell)).trans hcell⟩
  have HM := Lib.hid hM
  have HR := Lib.hid hr
  have HL := Lib.hid hL
  have HQ := Lib.hid hq
  have HX := Lib.hid hx
  have HSM := Lib.hid hs
  have hq0 : (0 : Int) ≤ (q : Int) := by omega
  have hq1 : (q : Int) < (W.length : Int) := by omega
  clear hM hr hL hq hx hs h0 h1 h2 h4 hcell
  go_enter Try.func18, Try.ntmps18
  go_wp2_with fail
  go_region_held3 (fun w' => w'.cell? ⟨gm, 0, none⟩ = some (.int .i64 c) ∧ w'.cell? ⟨gm, 1, none⟩ = some (.slice A n cap) ∧ w'.cell? ⟨gm, 2, none⟩ = some (.slice (some ⟨g, 0, none⟩) W.length cp) ∧ w'.cell? ⟨gm, 4, none⟩ = some (.map (some b)) ∧ w'.cell? ⟨g, q, none⟩ = some (.string ⟨x.toArray⟩)) (first
    | exact hS _ (fun _ _ => rfl)
    | exact hS _ O2
    | exact hS _ O3) (first
    | (go_at_call 21
       refine (idle_any c A n cap _ hc8).mono ?_
       rintro e w2 ⟨rfl, hb2⟩
       have O2 : Old w w2 := hb2.block
       have B2 : Below w.heap.size w w2 := ⟨hb2.os, hb2.tape, hb2.output, hb2.size, O2⟩)
    | (go_at_call 20
       refine (on_big c n cap A D (Dy.idle c) s _ B hD ?_ ?_ HSM.out (idle_len' c) (idle_lt' c) hsz).mono ?_
       · exact HR.out.keep (fun p hp => O2.cell (by omega))
       · exact Nat.le_trans hB B2.size
       rintro e w3 ⟨rfl, hb3⟩
       have B3 : Below w.heap.size w w3 := B2.trans (hb3.mono B2.size)
       have O3 : Old w w3 := B3.block
       have hlk := (HM.out.map.block (O3 b HM.out.map.lt)).at_ HL.out))
  all_goals
    go_wp2_with fail
    go_ret
    exact ⟨rfl, B3⟩
end Go.Proofs.Ytlbpkhbjdojdgaa
