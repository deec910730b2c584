/-
  The walk of DyeClosed: it answers true.
-/
import Derived.Test.YtlbpkhbjdojdgaaReach
namespace Go.Proofs.Ytlbpkhbjdojdgaa
open Go.RowKit
set_option maxRecDepth 100000

theorem Act_all (c : Int) (n cap : Nat) (A : Option Addr) (D : List (List Int)) (s : ByteArray) (w : World) (B : Nat) (hr : RowsAre w B A n D) (hB : B ≤ w.heap.size) (hn : n ≤ maxLen) (hcap : n ≤ cap) (hz : s.size ≤ maxLen) :
    Calls Try.prog 13 #[.agg #[.int .i64 c, .slice A n cap], .string s] w fun e w' => ∃ v k, e = .returned (.tuple #[v, .int .i64 k]) ∧ Below w.heap.size w w' ∧
      ((k = 2 ∧ v = .slice none 0 0 ∧ ¬ WordsB c D D.length [s]) ∨ (k = 0 ∧ WordsB c D D.length [s] ∧ RowIs w' w'.heap.size v (natI (Dy.act c.toNat D s.data.toList)))) := by
  have hl : D.length = n := hr.1
  by_cases hw : WordsB c D n [s]
  · obtain ⟨c', rfl, hD⟩ := hw.1.okD
    refine (act_yes c' n cap A D s w B hD hr hB hcap (hw.2 s (by simp))).mono ?_
    rintro e w' ⟨v, rfl, hv, hb⟩
    exact ⟨v, _, rfl, hb, .inr ⟨rfl, by rw [hl]; exact hw, hv⟩⟩
  · refine (Act_no c n cap A D s w B hr hB hn hcap hz hw).mono ?_
    rintro e w' ⟨rfl, hb⟩
    exact ⟨_, _, rfl, hb, .inl ⟨rfl, rfl, by rw [hl]; exact hw⟩⟩

/-- What Reach answers, whatever the state. -/
def ReachIs (c s : Int) (D : List (List Int)) (v : Value) (k : Int) (w' : World) : Prop :=
  (k = 2 ∧ ¬ (OkI c D ∧ 0 ≤ s ∧ s < 2 * c)) ∨ (k = 0 ∧ OkI c D ∧ 0 ≤ s ∧ s < 2 * c ∧ ∃ Z : List Int, RowIs w' w'.heap.size v Z ∧ Z.length ≤ 16 ∧ Z ≠ [] ∧ ∀ y : Int, y ∈ Z ↔ ∃ x : Nat, y = x ∧ Reached D s.toNat x)
theorem Reach_all (c s : Int) (n cap : Nat) (A : Option Addr) (D : List (List Int)) (w : World) (B : Nat) (hr : RowsAre w B A n D) (hB : B ≤ w.heap.size) (hn : n ≤ maxLen) (hcap : n ≤ cap) :
    Calls Try.prog 14 #[.agg #[.int .i64 c, .slice A n cap], .int .i64 s] w fun e w' => ∃ v k, e = .returned (.tuple #[v, .int .i64 k]) ∧ Below w.heap.size w w' ∧ ReachIs c s D v k w' := by
  by_cases h : OkI c D ∧ 0 ≤ s ∧ s < 2 * c
  · obtain ⟨c', rfl, hD⟩ := h.1.okD
    obtain ⟨s', rfl⟩ : ∃ s' : Nat, s = s' := ⟨s.toNat, by omega⟩
    refine (Reach_yes c' n cap s' A D w B hD hr hB hcap (by omega)).mono ?_
    rintro e w' ⟨v, Z, rfl, h1, h2, h3, h4, hb⟩
    exact ⟨v, _, rfl, hb, .inr ⟨rfl, h.1, h.2.1, h.2.2, Z, h1, h2, h3, by simpa using h4⟩⟩
  · refine (Reach_no c s n cap A D w B hr hB hn h).mono ?_
    rintro e w' ⟨rfl, hb⟩
    exact ⟨_, _, rfl, hb, .inl ⟨rfl, h⟩⟩

/-- slices.Contains of a row. -/
theorem contains_row {w : World} {B : Nat} {v : Value} {Z : List Int} (h : RowIs w B v Z) (hl : Z.length ≤ 100) (x : Int) :
    Calls Try.prog 15 #[v, .int .i64 x] w fun e w' => e = .returned (.bool (Z.contains x)) ∧ w = w' := by
  obtain ⟨A, cap, rfl, hc, hr⟩ := h
  by_cases h0 : Z = []
  · subst h0
    refine (Try.slices_Contains_int_empty A cap x w).mono ?_
    rintro e w' ⟨rfl, rfl⟩
    exact ⟨by simp, rfl⟩
  · have hpos : 0 < Z.length := by
      cases Z with
      | nil => exact absurd rfl h0
      | cons a l => simp
    obtain ⟨b, off, rfl, hb, hcell⟩ := hr.place hpos
    refine (Try.slices_Contains_int b off Z.length cap Z x w (Nat.le_refl _) (by omega) (fun j hj => hcell j _ ?_)).mono ?_
    · simp [ints, List.getD_eq_getElem?_getD, hj]
    · rintro e w' ⟨rfl, rfl⟩
      exact ⟨by rw [List.take_length], rfl⟩

theorem reached_trans {D : List (List Int)} {a b d : Nat} (h : Reached D a b) (k : Reached D b d) : Reached D a d := by
  obtain ⟨u, hu, rfl⟩ := h
  obtain ⟨v, hv, rfl⟩ := k
  refine ⟨u ++ v, fun x hx => ?_, Dy.walk_app D u v a⟩
  rcases List.mem_append.1 hx with h | h
  · exact hu x h
  · exact hv x h

set_option maxHeartbeats 4000000 in
theorem law5 (c s : Int) (n cap : Nat) (A : Option Addr) (D : List (List Int)) (u : ByteArray) (w : World) (B : Nat) (hr : RowsAre w B A n D) (hB : B ≤ w.heap.size) (hn : n ≤ maxLen) (hl : ∀ d ∈ D, d.length ≤ maxLen) (hu : u.size ≤ maxLen) :
    Calls Try.prog 5 #[.agg #[.int .i64 c, .slice A n cap], .string u, .int .i64 s] w fun e w' => e = .returned (.bool true) ∧ Below w.heap.size w w' := by
  have hof := fun (W : World) (h : Past w #[.int .i64 c, .slice A n cap] W) => h.of hr hB hn hl
  have HOF := Lib.hid hof
  have p0 := Past.start w #[.int .i64 c, .slice A n cap]
  have C1 := Lib.hid (hof _ p0)
  have hmx : ∀ n1 : Nat, n1 ≤ 6 → n1 ≤ maxLen := fun n1 h => by unfold maxLen; omega
  clear hof hr hl
  go_enter Try.func5, Try.ntmps5
  go_wp2_with fail
  refine C1.out.mono ?_
  rintro e w1 ⟨A1, n1, cap1, rfl, hr1, hcap1, hn1, hb1⟩
  have p1 := p0.next hb1
  have C2 := Lib.hid (Act_all c n1 cap1 A1 (ofD D) u w1 w1.heap.size hr1 (Nat.le_refl _) (hmx _ hn1) hcap1 hu)
  clear hr1 hb1 C1
  go_wp2_with fail
  refine C2.out.mono ?_
  rintro e w2 ⟨va, k1, rfl, hb2, hA⟩
  have p2 := p1.next hb2
  have C3 := Lib.hid (HOF.out _ p2)
  have HA := Lib.hid hA
  obtain ⟨d0, d1⟩ := p2.cells
  clear hb2 hA C2
  go_wp2_with fail
  refine C3.out.mono ?_
  rintro e w3 ⟨A3, n3, cap3, rfl, hr3, hcap3, hn3, hb3⟩
  have p3 := p2.next hb3
  have C4 := Lib.hid (Reach_all c s n3 cap3 A3 (ofD D) w3 w3.heap.size hr3 (Nat.le_refl _) (hmx _ hn3) hcap3)
  have HB3 := Lib.hid hb3
  clear hr3 hb3 C3 d0 d1
  go_wp2_with fail
  refine C4.out.mono ?_
  rintro e w4 ⟨vl, k2, rfl, hb4, hRl⟩
  have p4 := p3.next hb4
  have HB4 := Lib.hid hb4
  have HRL := Lib.hid hRl
  have HAW := Lib.hid (awake_any w4)
  clear hb4 hRl C4
  by_cases hk : k1 = 0 ∧ k2 = 0
  · obtain ⟨rfl, rfl⟩ := hk
    obtain ⟨hW1, hva⟩ : WordsB c (ofD D) (ofD D).length [u] ∧ RowIs w2 w2.heap.size va (natI (Dy.act c.toNat (ofD D) u.data.toList)) := by
      rcases HA.out with h | h
      · exact absurd h.1 (by decide)
      · exact h.2
    obtain ⟨_, hs0, hs1, Z, hZ, hZ16, hZ0, hZm⟩ : OkI c (ofD D) ∧ 0 ≤ s ∧ s < 2 * c ∧ ∃ Z : List Int, RowIs w4 w4.heap.size vl Z ∧ Z.length ≤ 16 ∧ Z ≠ [] ∧ ∀ y : Int, y ∈ Z ↔ ∃ x : Nat, y = x ∧ Reached (ofD D) s.toNat x := by
      rcases HRL.out with h | h
      · exact absurd h.1 (by decide)
      · exact h.2
    obtain ⟨c', rfl, hE⟩ := hW1.1.okD
    obtain ⟨s', rfl⟩ : ∃ s' : Nat, s = s' := ⟨s.toNat, by omega⟩
    simp only [Int.toNat_natCast] at hva hZm
    obtain ⟨hu64, hum⟩ := wordB_iff.1 (hW1.2 u (by simp))
    have hlen : (natI (Dy.act c' (ofD D) u.data.toList)).length = 2 * c' := by simp [natI, act_len]
    obtain ⟨Aa, capa, hva1, hva2, hva3⟩ := hva
    rw [hlen] at hva1 hva2 hva3
    subst hva1
    obtain ⟨ba, offa, rfl, hba, hca⟩ := hva3.place (by omega)
    obtain ⟨y, hy⟩ : ∃ y : Nat, y = Dy.walk (ofD D) u.data.toList s' := ⟨_, rfl⟩
    have hy2 : y < 2 * c' := by rw [hy]; exact Dy.walk_lt hE _ _ hum (by omega)
    have hcy : w2.cell? ⟨ba, offa + s', none⟩ = some (.int .i64 y) := by
      refine hca s' _ ?_
      simp [ints, natI, Dy.act_map, show s' < 2 * c' by omega, hy]
    have hreach : Reached (ofD D) s' y := ⟨u.data.toList, hum, hy.symm⟩
    have O24 : Old w2 w4 := Old.trans (w1 := w2) HB3.out.block HB4.out.block
    have hcy4 : w4.cell? ⟨ba, offa + s', none⟩ = some (.int .i64 y) := (O24.cell hba).trans hcy
    have hba4 : ba < w4.heap.size := block_lt_of_cell hcy4
    have hs2 : (s' : Int) < ((2 * c' : Nat) : Int) := by omega
    have hs3 : ¬ ((2 * c' : Nat) : Int) ≤ (s' : Int) := by omega
    have hs4 : ¬ (s' : Int) < 0 := by omega
    have hS : ∀ W, Past w #[.int .i64 c', .slice A n cap] W → Old w4 W → W.cell? ⟨w.heap.size, 0, none⟩ = some (.int .i64 c') ∧ W.cell? ⟨w.heap.size, 1, none⟩ = some (.slice A n cap) ∧ W.cell? ⟨ba, offa + s', none⟩ = some (.int .i64 y) := fun W h o => ⟨h.cells.1, h.cells.2, (o.cell hba4).trans hcy4⟩
    have p4d : Past w #[.int .i64 c', .slice A n cap] w4.drew := Below.drew p4
    have HZ := Lib.hid hZ
    have HZM := Lib.hid hZm
    have HREACH := Lib.hid hreach
    have HOKI := Lib.hid hW1.1
    clear HA HRL hZ hZm hreach hW1 hum hca hva3 hy
    go_upto_region 5 with fail
    go_region_held3 (fun w' => w'.cell? ⟨w.heap.size, 0, none⟩ = some (.int .i64 c') ∧ w'.cell? ⟨w.heap.size, 1, none⟩ = some (.slice A n cap) ∧ w'.cell? ⟨ba, offa + s', none⟩ = some (.int .i64 y)) (first
      | exact hS _ p4 (fun _ _ => rfl)
      | exact hS _ p4d (fun _ _ => rfl)
      | exact hS _ q1 o1
      | exact hS _ q2 o2) (first
      | (go_at_call 7
         refine (HOF.out _ p4d).mono ?_
         rintro e w5 ⟨A5, n5, cap5, rfl, hr5, hcap5, hn5, hb5⟩
         have q1 := p4d.next hb5
         have o1 : Old w4 w5 := hb5.block)
      | (go_at_call 14
         refine (Reach_all c' y n5 cap5 A5 (ofD D) w5 w5.heap.size hr5 (Nat.le_refl _) (hmx _ hn5) hcap5).mono ?_
         rintro e w6 ⟨vm, k6, rfl, hb6, hR6⟩
         have q2 := q1.next hb6
         have o2 : Old w4 w6 := Old.trans o1 hb6.block))
    obtain ⟨rfl, Y, hY, hY16, hY0, hYm⟩ : k6 = 0 ∧ ∃ Z : List Int, RowIs w6 w6.heap.size vm Z ∧ Z.length ≤ 16 ∧ Z ≠ [] ∧ ∀ q : Int, q ∈ Z ↔ ∃ x : Nat, q = x ∧ Reached (ofD D) y x := by
      rcases hR6 with h | h
      · exact absurd ⟨HOKI.out, by omega, by omega⟩ h.2
      · obtain ⟨h1, _, _, _, Z, h2, h3, h4, h5⟩ := h
        exact ⟨h1, Z, h2, h3, h4, by simpa using h5⟩
    have hZ6 : RowIs w6 w4.heap.size vl Z := HZ.out.keep fun p hp => o2.cell hp
    have hcy6 : w6.cell? ⟨ba, offa + s', none⟩ = some (.int .i64 y) := (o2.cell hba4).trans hcy4
    have inZ : ∀ x : Nat, Reached (ofD D) s' x → Z.contains (x : Int) = true := fun x h => by
      simpa using (HZM.out (x : Int)).2 ⟨x, rfl, h⟩
    have hc1 := inZ s' ⟨[], by simp, rfl⟩
    have hc2 := inZ y HREACH.out
    have hcont := fun x => contains_row hZ6 (by omega) x
    have K1 := hcont (s' : Int)
    rw [hc1] at K1
    have K2 := hcont (y : Int)
    rw [hc2] at K2
    obtain ⟨Am, capm, rfl, hYc, hYr⟩ := hY
    have hYpos : 0 < Y.length := by
      cases Y with
      | nil => exact absurd rfl hY0
      | cons a l => simp
    obtain ⟨bm, offm, rfl, hbm, hcm⟩ := hYr.place hYpos
    have HCM := Lib.hid hcm
    have HAW6 := Lib.hid (awake_any w6)
    clear hYr hcm
    have HYM := Lib.hid hYm
    have HIN := Lib.hid inZ
    have HCON := Lib.hid hcont
    have K1 := Lib.hid K1
    have K2 := Lib.hid K2
    clear hR6 hYm inZ hcont hZ6 hc1 hc2
    go_wp2_with (first
      | (go_at_call 15; refine K1.out.mono ?_; rintro e w7 ⟨rfl, rfl⟩)
      | (go_at_call 15; refine K2.out.mono ?_; rintro e w7 ⟨rfl, rfl⟩))
    go_loopw [82] (fun i wr => ∃ k : Nat, i = .int .i64 k ∧ k ≤ Y.length ∧ wr = w6) (fun i _ => Y.length - (intOf i).toNat)
    case atStart => exact ⟨0, rfl, by omega, rfl⟩
    case round =>
      obtain ⟨k, rfl, hk, rfl⟩ := hrel
      by_cases hlt : k < Y.length
      · obtain ⟨x, hx⟩ : ∃ x, Y[k]? = some x := ⟨_, List.getElem?_eq_getElem hlt⟩
        have hcx := HCM.out k (.int .i64 x) (by simp [ints, hx])
        obtain ⟨xn, rfl, hxr⟩ := (HYM.out x).1 (List.mem_of_getElem? hx)
        have K3 := HCON.out (xn : Int)
        rw [HIN.out xn (reached_trans HREACH.out hxr)] at K3
        have K3 := Lib.hid K3
        clear hx hxr
        go_wp2_with (go_at_call 15; refine K3.out.mono ?_; rintro e w8 ⟨rfl, rfl⟩)
        exact ⟨⟨k + 1, by go_num, by omega, by first | trivial | rfl⟩, by simp [intOf]; omega⟩
      · go_wp2_with fail
        refine HAW6.out.mono ?_
        rintro e w9 ⟨rfl, hb9⟩
        go_wp2_with fail
        go_ret
        exact ⟨rfl, (q2.next hb9).below⟩
  · have hk1 : (k1 = 0 ∧ ∃ a n c, va = .slice a n c) ∨ (k1 = 2 ∧ va = .slice none 0 0) := by
      rcases HA.out with h | h
      · exact .inr ⟨h.1, h.2.1⟩
      · obtain ⟨_, _, hv, _⟩ := h.2.2
        exact .inl ⟨h.1, _, _, _, hv⟩
    have hk2 : k2 = 0 ∨ k2 = 2 := by
      rcases HRL.out with h | h
      · exact .inr h.1
      · exact .inl h.1
    rcases hk1 with ⟨rfl, a9, n9, c9, rfl⟩ | ⟨rfl, rfl⟩ <;> rcases hk2 with rfl | rfl
    · exact absurd ⟨rfl, rfl⟩ hk
    all_goals
      clear HA HRL hk
      go_wp2_with fail
      refine HAW.out.mono ?_
      rintro e w7 ⟨rfl, hb7⟩
      go_wp2_with fail
      go_ret
      exact ⟨rfl, (p4.next hb7).below⟩
end Go.Proofs.Ytlbpkhbjdojdgaa
