/-
  The walk of of: an overlay of the reference turned into one of the program, cut at six dyes of ten colours.
-/
import Derived.Test.YtlbpkhbjdojdgaaSame
namespace Go.Proofs.Ytlbpkhbjdojdgaa
open Go.RowKit
set_option maxRecDepth 100000

/-- What of makes of the dyes. -/
def ofD (D : List (List Int)) : List (List Int) := (D.take 6).map fun d => d.take 10

theorem _root_.Go.World.ownsRow.slice {w : World} {base : Nat} {e : TypeId} {size n : Nat} {v : Value} {xs : List Value} (h : w.ownsRow base e size v n xs) : ∃ A c, v = .slice A n c := by
  rcases h.2 with ⟨rfl, rfl⟩ | ⟨g, cp, cur, rfl, _⟩
  · exact ⟨_, _, rfl⟩
  · exact ⟨_, _, rfl⟩

theorem clone_any (w : World) (B m c : Nat) (A : Option Addr) (d : List Int) (h : RowIs w B (.slice A d.length c) d) (hm : m ≤ d.length) (hm10 : m ≤ 10) :
    Calls Try.prog 19 #[.slice A m c] w fun e w' => ∃ A' c', e = .returned (.slice A' m c') ∧ w'.ownsRow w.heap.size 3 1 (.slice A' m c') m (ints (d.take m)) ∧ Below w.heap.size w w' := by
  obtain ⟨A2, c2, hv, hc, hr⟩ := h
  obtain ⟨rfl, rfl⟩ : A2 = A ∧ c2 = c := by injection hv with h1 h2 h3; exact ⟨h1.symm, h3.symm⟩
  by_cases h0 : m = 0
  · subst h0
    cases A2 with
    | none =>
      refine (Try.slices_Clone_int_nil 0 c2 w).mono ?_
      rintro e w' ⟨rfl, rfl⟩
      exact ⟨_, _, rfl, by simpa [ints] using World.ownsRow_nil _ _ _ _, Below.refl _ _⟩
    | some a =>
      refine (Try.slices_Clone_int_zero a c2 w).mono ?_
      rintro e w' ⟨v', rfl, h1, _, h2⟩
      obtain ⟨A', c', rfl⟩ := h1.slice
      exact ⟨_, _, rfl, by simpa [ints] using h1, h2⟩
  · obtain ⟨b, off, rfl, hb, hcell⟩ := hr.place (by omega)
    refine (Try.slices_Clone_int b off m c2 d w hm (by omega) (fun j hj => hcell j _ ?_)).mono ?_
    · simp [ints, List.getD_eq_getElem?_getD, hj]
    rintro e w' ⟨v', rfl, h1, _, h2⟩
    obtain ⟨A', c', rfl⟩ := h1.slice
    exact ⟨_, _, rfl, h1, h2⟩

theorem und22 : Try.prog.underlying 22 = some (.slice 36) := by kernel_rfl
theorem info36 : (Try.prog.info? 36).map (fun i => (i.zero, i.size, i.bytes)) = some (some (.slice none 0 0), 1, 24) := by kernel_rfl

/-- The rows made so far. -/
def RowsMade (w : World) (base : Nat) (D : List (List Int)) (rs : List Value) : Prop :=
  ∀ (j : Nat) (u : Value), rs[j]? = some u → ∃ d, D[j]? = some d ∧ w.ownsRow base 3 1 u (min d.length 10) (ints (d.take 10))

/-- What the loop keeps. -/
def OfAt (w : World) (c : Int) (D : List (List Int)) (k : Nat) (wr : World) : Prop :=
  ∃ sv rs, k ≤ 6 ∧ k ≤ D.length ∧ Blk wr (w.heap.size + 1) 28 #[.int .i64 0, .slice none 0 0] ∧ Blk wr (w.heap.size + 1 + 1) 28 #[.int .i64 c, sv] ∧ wr.ownsRow (w.heap.size + 3) 36 1 sv k rs ∧ RowsMade wr (w.heap.size + 3) D rs ∧
    Below w.heap.size w wr ∧ w.heap.size + 3 ≤ wr.heap.size

theorem base_le {w : World} {base base' : Nat} {e : TypeId} {size n : Nat} {v : Value} {xs : List Value} (h : w.ownsRow base e size v n xs) (hb : base' ≤ base) : w.ownsRow base' e size v n xs := by
  refine ⟨h.1, ?_⟩
  rcases h.2 with h0 | ⟨g, cp, cur, hv, hg, r⟩
  · exact .inl h0
  · exact .inr ⟨g, cp, cur, hv, Nat.le_trans hb hg, r⟩

theorem of_done {w W : World} {D : List (List Int)} {base k : Nat} {sv : Value} {rs : List Value} (hk : k = min D.length 6) (hown : W.ownsRow base 36 1 sv k rs) (hrows : RowsMade W base D rs) (hb : Below w.heap.size w W) :
    ∃ A' cap', sv = .slice A' k cap' ∧ RowsAre W W.heap.size A' k (ofD D) ∧ k ≤ cap' ∧ k ≤ 6 ∧ Below w.heap.size w W := by
  obtain ⟨A', cap', rfl, hcap⟩ : ∃ A' cap', sv = .slice A' k cap' ∧ k ≤ cap' := by
    rcases hown.2 with ⟨rfl, rfl⟩ | ⟨g, cp, cur, rfl, _, _, hc, _⟩
    · exact ⟨_, _, rfl, by omega⟩
    · exact ⟨_, _, rfl, hc⟩
  refine ⟨A', cap', rfl, ⟨by simp [ofD]; omega, rs, Reads.of_own hown, fun i d' hd' => ?_⟩, hcap, by omega, hb⟩
  have hrl : rs.length = k := by have := hown.1; simpa using this
  simp only [ofD, List.getElem?_map] at hd'
  have hi : i < min 6 D.length := by
    rcases Nat.lt_or_ge i (min 6 D.length) with h | h
    · exact h
    · rw [List.getElem?_eq_none (by simpa using h)] at hd'; simp at hd'
  rw [List.getElem?_take_of_lt (by omega)] at hd'
  obtain ⟨d, hd, rfl⟩ := Option.map_eq_some_iff.1 hd'
  obtain ⟨u, hu⟩ : ∃ u, rs[i]? = some u := ⟨rs[i], List.getElem?_eq_getElem (by omega)⟩
  obtain ⟨d2, hd2, ho⟩ := hrows i u hu
  rw [hd] at hd2
  cases hd2
  exact ⟨u, hu, RowIs.of_own ho⟩

set_option maxHeartbeats 2000000 in
theorem of_any (c : Int) (n cap : Nat) (A : Option Addr) (D : List (List Int)) (w : World) (B : Nat) (hr : RowsAre w B A n D) (hB : B ≤ w.heap.size) (hn : n ≤ maxLen) (hl : ∀ d ∈ D, d.length ≤ maxLen) :
    Calls Try.prog 7 #[.agg #[.int .i64 c, .slice A n cap]] w fun e w' => ∃ A' n' cap', e = .returned (.agg #[.int .i64 c, .slice A' n' cap']) ∧ RowsAre w' w'.heap.size A' n' (ofD D) ∧ n' ≤ cap' ∧ n' ≤ 6 ∧ Below w.heap.size w w' := by
  unfold maxLen at hn
  have HR := Lib.hid hr
  have HL := Lib.hid hl
  have HD := Lib.hid hr.1
  obtain ⟨i36, hi36, hz36a, hz36b, hz36c⟩ := info_parts info36
  clear hr hl
  go_enter Try.func7, Try.ntmps7
  go_wp2_with fail
  go_loopw [12] (fun i wr => ∃ k : Nat, i = .int .i64 k ∧ OfAt w c D k wr) (fun i _ => n - (intOf i).toNat)
  case atStart =>
    refine ⟨0, rfl, .slice none 0 0, [], by omega, by omega, ?_, ?_, World.ownsRow_nil _ _ _ _, fun j u hj => by simp at hj, ?_, by simp⟩
    · exact ((Blk.new_at _ _ (by simp)).alloc _)
    · exact Blk.new_at _ _ (by simp)
    · exact (((Below.refl _ _).alloc (Nat.le_refl _) _).alloc (by simp) _).alloc (by simp; omega) _
  case round =>
    obtain ⟨k, rfl, sv, rs, hk6, hkD, hres, hout, hown, hrows, hbe, hsz⟩ := hrel
    have r0 := hres.cell 0
    simp at r0
    have r1 := hres.cell 1
    simp at r1
    have r2 := hres.frozen 0
    have r3 := hres.frozen 1
    have o0 := hout.cell 0
    simp at o0
    have o1 := hout.cell 1
    simp at o1
    have o3 := hout.frozen 1
    have hs1 := hres.set_ 0 (.int .i64 c)
    have s1 := hs1.cell 1
    simp at s1
    have s2 := hs1.frozen 1
    have u0 := hs1.cell 0
    simp at u0
    have hs2 := hs1.set_ 1 sv
    have t0 := hs2.cell 0
    simp at t0
    have t1 := hs2.cell 1
    simp at t1
    have hrl : rs.length = k := by have := hown.1; simpa using this
    have hdone : k = min D.length 6 → ∃ A' cap', sv = .slice A' k cap' ∧ RowsAre ((wr.setCell ⟨w.heap.size + 1, 0, none⟩ (.int .i64 c)).setCell ⟨w.heap.size + 1, 1, none⟩ sv) ((wr.setCell ⟨w.heap.size + 1, 0, none⟩ (.int .i64 c)).setCell ⟨w.heap.size + 1, 1, none⟩ sv).heap.size A' k (ofD D) ∧ k ≤ cap' ∧ k ≤ 6 ∧
        Below w.heap.size w ((wr.setCell ⟨w.heap.size + 1, 0, none⟩ (.int .i64 c)).setCell ⟨w.heap.size + 1, 1, none⟩ sv) := fun hk =>
      of_done hk (row_cell (row_cell hown hres (by decide) 0 _) hs1 (by decide) 1 _) (fun j u hj => by
        obtain ⟨d, h1, h2⟩ := hrows j u hj
        exact ⟨d, h1, row_cell (row_cell h2 hres (by decide) 0 _) hs1 (by decide) 1 _⟩) ((hbe.setCell (by show w.heap.size ≤ w.heap.size + 1; omega) _).setCell (by show w.heap.size ≤ w.heap.size + 1; omega) _)
    have HDN := Lib.hid hdone
    clear hdone
    by_cases hlt : k < n
    · have hkD2 : k < D.length := by rw [HD.out]; exact hlt
      obtain ⟨_, rs0, hrr, hrow⟩ := HR.out
      obtain ⟨b, off, hA, hb, hc⟩ := hrr.place (by omega)
      subst hA
      obtain ⟨d, hd⟩ : ∃ d, D[k]? = some d := ⟨D[k], List.getElem?_eq_getElem hkD2⟩
      obtain ⟨u, hu, hri⟩ := hrow k d hd
      have hcell : wr.cell? ⟨b, off + k, none⟩ = some u := (hbe.cell (p := ⟨b, off + k, none⟩) (by show b < _; omega)).trans (hc k u hu)
      have hri' := Lib.hid (hri.below (hbe.mono hB))
      obtain ⟨A2, cap2, rfl, hcp, _⟩ := hri
      have hdl := HL.out d (List.mem_of_getElem? hd)
      unfold maxLen at hdl
      have HDk := Lib.hid hd
      have HRow := Lib.hid hrow
      have HC := Lib.hid hc
      clear hd hrow hc hu hrr
      by_cases h6 : k = 6
      · subst h6
        obtain ⟨A', cap', rfl, hra, hk1, hk2, hbz⟩ := HDN.out (by have := HD.out; omega)
        have HRA := Lib.hid hra
        clear hra
        go_wp2_with fail
        (try simp only [Exit.inBlock, Exit.then])
        refine bodyPost_ret (v := .agg #[.int .i64 c, .slice A' 6 cap']) (by simp [results, Try.results7, go_sem, u0, t1]) rfl ?_
        exact ⟨_, _, _, rfl, HRA.out, hk1, hk2, hbz⟩
      · have hm1 : (min (d.length : Int) 10).toNat ≤ d.length := by omega
        have hm2 : (min (d.length : Int) 10).toNat ≤ 10 := by omega
        have hm3 : (0 : Int) ≤ min (d.length : Int) 10 := by omega
        have hm4 : min (d.length : Int) 10 ≤ (cap2 : Int) := by omega
        go_wp2_with fail
        go_region_law (first
          | (rw [if_pos (wanted_none rfl _)]
             go_simp
             go_at_call 19
             refine (clone_any _ B _ cap2 A2 d (by exact RowIs.keep hri'.out (fun _ _ => rfl)) hm1 hm2).mono ?_
             rintro e w2 ⟨A3, cap3, rfl, hv', hb2⟩
             have K1 : w2.cell? ⟨w.heap.size + 1 + 1, 1, none⟩ = some sv := (Old.cell (w1 := wr) hb2.block hout.lt).trans o1
             have K2 : (w2.alloc (.cells #[.slice A3 (min (d.length : Int) 10).toNat cap3] 36)).cell? ⟨w.heap.size + 1 + 1, 1, none⟩ = some sv := (Old.cell (w1 := w2) (Old.alloc _ _) (Nat.lt_of_lt_of_le hout.lt hb2.size)).trans K1
             have hO : Old wr (w2.alloc (.cells #[.slice A3 (min (d.length : Int) 10).toNat cap3] 36)) := Old.trans (w1 := wr) hb2.block (Old.alloc _ _)
             have hownW := ownsRow_old hown hO
             have houtW := hO.blk hout
             have hx1 : ∀ u ∈ [Value.slice A3 (min (d.length : Int) 10).toNat cap3], u.oneCell' = true := fun u hu => by rw [List.mem_singleton.1 hu]; rfl
             have hx2 : k + 1 ≤ maxLen := by unfold maxLen; omega
             have hx3 : (k + 1) * 24 ≤ 140737488355328 := by omega
             have hz2 : wr.heap.size ≤ w2.heap.size := hb2.size
             have hx4 : w.heap.size + 3 ≤ (w2.alloc (.cells #[.slice A3 (min (d.length : Int) 10).toNat cap3] 36)).heap.size := by simp; omega)
          | ((refine step_append_lies (w := (w2.alloc (.cells #[.slice A3 (min (d.length : Int) 10).toNat cap3] 36))) rfl (.tmp 20) (.tmp 27) 22 rfl (w.heap.size + 3) 36 i36 _ 1 24 und22 hi36 hz36a hz36b hz36c rfl (by decide) sv k rs (by rfl) hownW ⟨w2.heap.size, 0, none⟩ 1 1 [.slice A3 (min (d.length : Int) 10).toNat cap3] (by rfl) rfl (cell_one_new _ _ _) hx1 (by decide) hx2 hx3 hx4 (w2.heap.size + 1) (by simp) ?_; intro g6 cp6 w6 hown6 hg6 hat6 hlt6; have houtX := houtW.grown' hg6 (own_blk_ne hownW houtW (by decide)); have q1 := houtX.cell 1; simp at q1; have q2 := houtX.frozen 1)))
        all_goals
          have hI : OfAt w c D (k + 1) (w6.setCell ⟨w.heap.size + 1 + 1, 1, none⟩ (.slice (some ⟨g6, 0, none⟩) (k + 1) cp6)) := by
            have hresX := (hO.blk hres).grown' hg6 (own_blk_ne hownW (hO.blk hres) (by decide))
            refine ⟨.slice (some ⟨g6, 0, none⟩) (k + 1) cp6, rs ++ [.slice A3 (min (d.length : Int) 10).toNat cap3], by omega, by omega, hresX.far (by show w.heap.size + 1 ≠ w.heap.size + 1 + 1; omega) _, ?_, row_cell hown6 houtX (by decide) _ _, ?_, ?_, ?_⟩
            · have := houtX.set_ 1 (.slice (some ⟨g6, 0, none⟩) (k + 1) cp6)
              simpa using this
            · intro j u hj
              have hne : (3 : TypeId) ≠ 36 := by decide
              by_cases hjk : j < k
              · rw [List.getElem?_append_left (by omega)] at hj
                obtain ⟨d0, h1, h2⟩ := hrows j u hj
                exact ⟨d0, h1, row_cell (row_keep (ownsRow_old h2 hO) hownW hne hg6) houtX (by decide) _ _⟩
              · have hjk2 : j = k := by
                  have := (List.getElem?_eq_some_iff.1 hj).1
                  simp at this
                  omega
                subst hjk2
                rw [List.getElem?_append_right (by omega)] at hj
                simp [hrl] at hj
                subst hj
                refine ⟨d, HDk.out, ?_⟩
                have e1 : (min (d.length : Int) 10).toNat = min d.length 10 := by omega
                have e2 : d.take (min (d.length : Int) 10).toNat = d.take 10 := by
                  rw [e1]
                  by_cases h10 : d.length ≤ 10
                  · rw [show min d.length 10 = d.length by omega, List.take_of_length_le (Nat.le_refl _), List.take_of_length_le h10]
                  · rw [show min d.length 10 = 10 by omega]
                rw [e2] at hv'
                have h3 := ownsRow_old (base_le (base' := w.heap.size + 3) hv' (by show w.heap.size + 3 ≤ wr.heap.size; omega)) (Old.alloc w2 (.cells #[.slice A3 (min (d.length : Int) 10).toNat cap3] 36))
                rw [← e1]
                exact row_cell (row_keep h3 hownW hne hg6) houtX (by decide) _ _
            · have h1 : Below w.heap.size w (w2.alloc (.cells #[.slice A3 (min (d.length : Int) 10).toNat cap3] 36)) := (hbe.trans ⟨hb2.os, hb2.tape, hb2.output, hb2.size, fun i hi => hb2.block i (by show i < wr.heap.size; omega)⟩).alloc (by omega) _
              exact (below_grown h1 hownW (by omega) (by simp; omega) hg6).setCell (by show w.heap.size ≤ w.heap.size + 1 + 1; omega) _
            · have := hg6.size
              simp at this
              simp
              omega
          have HI := Lib.hid hI
          clear hI hown6 hownW hg6 houtX hO houtW
          go_wp2_with fail
          go_roundw
          case rel => exact ⟨k + 1, by go_num, HI.out⟩
          case measure => simp [intOf]; omega
    · obtain ⟨A', cap', rfl, hra, hk1, hk2, hbz⟩ := HDN.out (by have := HD.out; omega)
      have HRA := Lib.hid hra
      clear hra
      go_wp2_with fail
      (try simp only [Exit.inBlock, Exit.then])
      refine bodyPost_ret (v := .agg #[.int .i64 c, .slice A' k cap']) (by simp [results, Try.results7, go_sem, u0, t1]) rfl ?_
      exact ⟨_, _, _, rfl, HRA.out, hk1, hk2, hbz⟩
end Go.Proofs.Ytlbpkhbjdojdgaa
