/-
  The walk of DyePowers: it answers true.
-/
import Derived.Test.YtlbpkhbjdojdgaaPower
namespace Go.Proofs.Ytlbpkhbjdojdgaa
open Go.RowKit
set_option maxRecDepth 100000

/-- What Cycle answers, whatever the arguments. -/
theorem Cycle_all (c : Int) (n cap : Nat) (A : Option Addr) (D : List (List Int)) (s : ByteArray) (w : World) (B : Nat) (hr : RowsAre w B A n D) (hB : B ≤ w.heap.size) (hn : n ≤ maxLen) (hcap : n ≤ cap) (hz : s.size ≤ maxLen) :
    Calls Try.prog 10 #[.agg #[.int .i64 c, .slice A n cap], .string s] w fun e w' =>
      (¬ WordsB c D D.length [s] ∧ e = .returned (.tuple #[.int .i64 0, .int .i64 0, .int .i64 2]) ∧ Below w.heap.size w w') ∨
      (∃ c' : Nat, c = c' ∧ WordsB c D D.length [s] ∧ CyclePost w c' D s.data.toList e w') := by
  have hl : D.length = n := hr.1
  by_cases hw : WordsB c D n [s]
  · obtain ⟨c', rfl, hD⟩ := hw.1.okD
    refine (Cycle_yes c' n cap A D s w B hD hr hB hcap (hw.2 s (by simp))).mono ?_
    intro e w' h
    exact .inr ⟨c', rfl, by rw [hl]; exact hw, h⟩
  · refine (Cycle_no c n cap A D s w B hr hB hn hcap hz hw).mono ?_
    rintro e w' ⟨rfl, hb⟩
    exact .inl ⟨by rw [hl]; exact hw, rfl, hb⟩

/-- slices.Equal of two rows of one length. -/
theorem equal_row {w : World} {B1 B2 : Nat} {v1 v2 : Value} {X Y : List Int} (h1 : RowIs w B1 v1 X) (h2 : RowIs w B2 v2 Y) (hxy : X.length = Y.length) (h0 : 0 < X.length) (hl : X.length ≤ 100) :
    Calls Try.prog 12 #[v1, v2] w fun e w' => e = .returned (.bool (decide (X = Y))) ∧ Below w.heap.size w w' := by
  obtain ⟨A1, c1, rfl, _, r1⟩ := h1
  obtain ⟨A2, c2, rfl, _, r2⟩ := h2
  obtain ⟨b1, o1, rfl, _, k1⟩ := r1.place h0
  obtain ⟨b2, o2, rfl, _, k2⟩ := r2.place (by omega)
  refine (Try.slices_Equal_int b1 o1 X.length c1 b2 o2 Y.length c2 X Y w (Nat.le_refl _) (Nat.le_refl _) (by omega) (by omega)
    (fun j hj => k1 j _ (by simp [ints, List.getD_eq_getElem?_getD, hj])) (fun j hj => k2 j _ (by simp [ints, List.getD_eq_getElem?_getD, hj]))).mono ?_
  rintro e w' ⟨rfl, q, rfl⟩
  refine ⟨?_, below_drewN (Below.refl _ _) q⟩
  rw [List.take_length, List.take_length]
  congr 2
  exact Bool.eq_iff_iff.2 (by simp)

theorem powers_ne {c : Nat} {D : List (List Int)} {s : List UInt8} {m j k : Nat} (h : (firstP c D s m).Nodup) (hj : j < k) (hk : k < m) : natI (powA c D s (j + 1)) ≠ natI (powA c D s (k + 1)) := by
  intro e
  have e2 : powA c D s (j + 1) = powA c D s (k + 1) := (List.map_inj_right (fun a b h => by omega)).1 e
  have h1 := firstP_get (c := c) (D := D) (s := s) (m := m) (j := j) (by omega)
  have h2 := firstP_get (c := c) (D := D) (s := s) (m := m) (j := k) hk
  rw [← e2, ← h1] at h2
  have := (List.getElem?_inj (by rw [firstP_len]; exact hk) h).1 h2
  omega

/-- The number of powers that is asked for. -/
theorem asked (more : Int) (m : Nat) (h0 : 0 < m) (h1 : m ≤ 100) : ∃ k : Nat, wrap64 (1 + wrap64 ((IntKind.u64.wrap more).tmod m)) = k ∧ 1 ≤ k ∧ k ≤ m := by
  have hn : 0 ≤ IntKind.u64.wrap more := by
    simp only [IntKind.wrap, IntKind.signed, IntKind.bits, Bool.false_and]
    exact Int.emod_nonneg _ (by decide)
  have ha : 0 ≤ (IntKind.u64.wrap more).tmod m := Int.tmod_nonneg _ hn
  have hb : (IntKind.u64.wrap more).tmod m < m := Int.tmod_lt_of_pos _ (by omega)
  refine ⟨((IntKind.u64.wrap more).tmod m).toNat + 1, ?_, by omega, by omega⟩
  unfold wrap64
  omega

set_option maxHeartbeats 4000000 in
theorem law4 (c more : Int) (n cap : Nat) (A : Option Addr) (D : List (List Int)) (u : ByteArray) (w : World) (B : Nat) (hr : RowsAre w B A n D) (hB : B ≤ w.heap.size) (hn : n ≤ maxLen) (hl : ∀ d ∈ D, d.length ≤ maxLen) (hu : u.size ≤ maxLen) :
    Calls Try.prog 4 #[.agg #[.int .i64 c, .slice A n cap], .string u, .int .i64 more] w fun e w' => e = .returned (.bool true) ∧ Below w.heap.size w w' := by
  have hmx : ∀ n1 : Nat, n1 ≤ 6 → n1 ≤ maxLen := fun n1 h => by unfold maxLen; omega
  obtain ⟨s, hs⟩ : ∃ s, s = u.extract 0 (min (u.size : Int) 4).toNat := ⟨_, rfl⟩
  have hsz : s.size ≤ maxLen := by rw [hs]; simp; unfold maxLen; omega
  have p0 := Past.start w #[.int .i64 c, .slice A n cap]
  have hpw := fun (t : Nat) (W : World) (p : Past w #[.int .i64 c, .slice A n cap] W) (c' : Nat) (hc : c = c') (hW : WordsB c (ofD D) (ofD D).length [s]) (h1 : 1 ≤ t) (h2 : t ≤ 200) =>
    (show Calls Try.prog 11 #[.agg #[.int .i64 c, .slice A n cap], .string s, .int .i64 t] W fun e w' => ∃ v, e = .returned (.tuple #[v, .bool true]) ∧ RowIs w' w'.heap.size v (natI (powA c' (ofD D) s.data.toList t)) ∧ Below W.heap.size W w' from by
      subst hc
      exact power_yes c' n cap t A D s W B (hr.keep fun q hq => p.below.cell (by omega)) (Nat.le_trans hB p.below.size) hn hl hsz hW h1 h2)
  have HPW := Lib.hid hpw
  have C1 := Lib.hid (p0.of hr hB hn hl)
  clear hpw hr hl
  go_enter Try.func4, Try.ntmps4
  go_wp2_with fail
  rw [← hs]
  refine C1.out.mono ?_
  rintro e w1 ⟨A1, n1, cap1, rfl, hr1, hcap1, hn1, hb1⟩
  have p1 := p0.next hb1
  have C2 := Lib.hid (Cycle_all c n1 cap1 A1 (ofD D) s w1 w1.heap.size hr1 (Nat.le_refl _) (hmx _ hn1) hcap1 hsz)
  clear hr1 hb1 C1 hs
  go_wp2_with fail
  refine C2.out.mono ?_
  rintro e w2 (⟨_, rfl, hb2⟩ | ⟨c', rfl, hW, i, p, rfl, hi, hp, hip, hpow, hnd, hb2⟩)
  · have p2 := p1.next hb2
    have HAW := Lib.hid (awake_any w2)
    clear C2
    go_wp2_with fail
    refine HAW.out.mono ?_
    rintro e w3 ⟨rfl, hb3⟩
    go_wp2_with fail
    go_ret
    exact ⟨rfl, (p2.next hb3).below⟩
  · have p2 := p1.next hb2
    have HW := Lib.hid hW
    have HND := Lib.hid hnd
    have HPOW := Lib.hid hpow
    have C3 := Lib.hid (HPW.out i w2 p2 c' rfl HW.out hi (by omega))
    obtain ⟨d0, d1⟩ := p2.cells
    clear C2 hb2 hW hnd hpow
    go_wp2_with fail
    refine C3.out.mono ?_
    rintro e w3 ⟨v3, rfl, hr3, hb3⟩
    have p3 := p2.next hb3
    have C4 := Lib.hid (HPW.out (i + p) w3 p3 c' rfl HW.out (by omega) (by omega))
    rw [show ((i + p : Nat) : Int) = (i : Int) + p by omega] at C4
    obtain ⟨d0, d1⟩ := p3.cells
    have HR3 := Lib.hid hr3
    have HB3 := Lib.hid hb3
    clear C3 hr3 hb3
    go_wp2_with fail
    refine C4.out.mono ?_
    rintro e w4 ⟨v4, rfl, hr4, hb4⟩
    have p4 := p3.next hb4
    have hE1 := equal_row (HR3.out.below hb4) hr4 (by simp [natI, powA_len]) (by simp only [natI, powA_len, List.length_map]; have := HW.out.1.1; omega) (by simp only [natI, powA_len, List.length_map]; have := HW.out.1.2.1; omega)
    rw [HPOW.out] at hE1
    simp only [decide_true] at hE1
    have C5 := Lib.hid hE1
    clear hE1 hr4 hb4 C4 d0 d1
    go_wp2_with (go_at_call 12; refine C5.out.mono ?_; rintro e w5 ⟨rfl, hb5⟩)
    have p5 := p4.next hb5
    obtain ⟨k, hk, hk1, hk2⟩ := asked more (i + p) (by omega) (by omega)
    rw [show ((i + p : Nat) : Int) = (i : Int) + p by omega] at hk
    rw [hk]
    clear hk C5 hb5
    go_upto_region 13 with fail
    go_loopw [92] (fun t wr => ∃ j : Nat, t = .int .i64 j ∧ j ≤ k ∧ Past w #[.int .i64 c', .slice A n cap] wr) (fun t _ => k - (intOf t).toNat)
    case atStart => exact ⟨0, rfl, by omega, p5⟩
    case round =>
      obtain ⟨j, rfl, hj, pr⟩ := hrel
      by_cases hlt : j < k
      · have C6 := Lib.hid (HPW.out (j + 1) wr pr c' rfl HW.out (by omega) (by omega))
        rw [show ((j + 1 : Nat) : Int) = (j : Int) + 1 by omega] at C6
        obtain ⟨d0, d1⟩ := pr.cells
        go_wp2_with fail
        refine C6.out.mono ?_
        rintro e w6 ⟨v6, rfl, hr6, hb6⟩
        have p6 := pr.next hb6
        have C7 := Lib.hid (HPW.out (k + 1) w6 p6 c' rfl HW.out (by omega) (by omega))
        rw [show ((k + 1 : Nat) : Int) = (k : Int) + 1 by omega] at C7
        obtain ⟨d0, d1⟩ := p6.cells
        have HR6 := Lib.hid hr6
        clear C6 hr6 hb6
        go_wp2_with fail
        refine C7.out.mono ?_
        rintro e w7 ⟨v7, rfl, hr7, hb7⟩
        have p7 := p6.next hb7
        have hE2 := equal_row (HR6.out.below hb7) hr7 (by simp [natI, powA_len]) (by simp only [natI, powA_len, List.length_map]; have := HW.out.1.1; omega) (by simp only [natI, powA_len, List.length_map]; have := HW.out.1.2.1; omega)
        by_cases hkm : k + 1 < i + p
        · rw [decide_eq_false (powers_ne HND.out hlt (by omega))] at hE2
          have C8 := Lib.hid hE2
          have hkm2 : (k : Int) + 1 < (i : Int) + p := by omega
          clear hE2 hr7 hb7 C7 d0 d1
          go_wp2_with (go_at_call 12; refine C8.out.mono ?_; rintro e w8 ⟨rfl, hb8⟩)
          exact ⟨⟨j + 1, by go_num, by omega, p7.next hb8⟩, by simp [intOf]; omega⟩
        · have hkm2 : ¬ (k : Int) + 1 < (i : Int) + p := by omega
          generalize decide (natI (powA c' (ofD D) s.data.toList (j + 1)) = natI (powA c' (ofD D) s.data.toList (k + 1))) = bb at hE2
          have C8 := Lib.hid hE2
          clear hE2 hr7 hb7 C7 d0 d1
          cases bb
          all_goals
            go_wp2_with (go_at_call 12; refine C8.out.mono ?_; rintro e w8 ⟨rfl, hb8⟩)
            exact ⟨⟨j + 1, by go_num, by omega, p7.next hb8⟩, by simp [intOf]; omega⟩
      · have HAW := Lib.hid (awake_any wr)
        go_wp2_with fail
        refine HAW.out.mono ?_
        rintro e w9 ⟨rfl, hb9⟩
        go_wp2_with fail
        go_ret
        exact ⟨rfl, (pr.next hb9).below⟩
end Go.Proofs.Ytlbpkhbjdojdgaa
