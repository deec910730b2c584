/-
  The walks of the small functions: the steps of an overlay, what a step makes of a state.
-/
import Derived.Test.YtlbpkhbjdojdgaaRows
import Derived.Test.YtlbpkhbjdojdgaaMem
namespace Go.Proofs.Ytlbpkhbjdojdgaa
open Go.RowKit

theorem ret_string {a b : ByteArray} (h : a.data.toList = b.data.toList) : Ending.returned (.string a) = .returned (.string b) := by
  have : a = b := by cases a; cases b; congr 1; exact Array.ext' h
  rw [this]
theorem ret_int {k : IntKind} {a b : Int} (h : a = b) : Ending.returned (.int k a) = .returned (.int k b) := by rw [h]

theorem or_one (st : Fin 16) : bits BinOp.or IntKind.i64 ((st.val : Nat) : Int) 1 = ((st.val + 1 - st.val % 2 : Nat) : Int) := by
  revert st; decide +kernel
theorem andNot_one (st : Fin 16) : bits BinOp.andNot IntKind.i64 ((st.val : Nat) : Int) 1 = ((st.val - st.val % 2 : Nat) : Int) := by
  revert st; decide +kernel

/-- (o Overlay) steps(): the steps of an overlay of at most four dyes. -/
theorem steps_any (c : Int) (A : Option Addr) (n cap : Nat) (w : World) (hn : n ≤ 4) (hc : n ≤ cap) :
    Calls Try.prog 25 #[.agg #[.int .i64 c, .slice A n cap]] w fun e w' => e = .returned (.string ⟨(Dy.steps n).toArray⟩) ∧ Below w.heap.size w w' := by
  go_enter Try.func25, Try.ntmps25
  go_wp2
  go_ret
  refine ⟨ret_string ?_, (Below.refl _ _).alloc (Nat.le_refl _) _⟩
  match n, hn with
  | 0, _ => decide +kernel
  | 1, _ => decide +kernel
  | 2, _ => decide +kernel
  | 3, _ => decide +kernel
  | 4, _ => decide +kernel

set_option maxHeartbeats 400000 in
theorem step_w (c : Int) (A : Option Addr) (n cap : Nat) (st : Nat) (w : World) (hst : st < 16) :
    Calls Try.prog 26 #[.agg #[.int .i64 c, .slice A n cap], .int .u8 119, .int .i64 st] w fun e w' => e = .returned (.int .i64 (st + 1 - st % 2 : Nat)) ∧ Below w.heap.size w w' := by
  go_enter Try.func26, Try.ntmps26
  go_wp2
  go_ret
  exact ⟨ret_int (or_one ⟨st, hst⟩), (Below.refl _ _).alloc (Nat.le_refl _) _⟩

set_option maxHeartbeats 400000 in
theorem step_b (c : Int) (A : Option Addr) (n cap : Nat) (st : Nat) (w : World) (hst : st < 16) :
    Calls Try.prog 26 #[.agg #[.int .i64 c, .slice A n cap], .int .u8 98, .int .i64 st] w fun e w' => e = .returned (.int .i64 (st - st % 2 : Nat)) ∧ Below w.heap.size w w' := by
  go_enter Try.func26, Try.ntmps26
  go_wp2
  go_ret
  exact ⟨ret_int (andNot_one ⟨st, hst⟩), (Below.refl _ _).alloc (Nat.le_refl _) _⟩

set_option maxHeartbeats 400000 in
theorem step_odd (c : Int) (A : Option Addr) (n cap : Nat) (s st : Nat) (w : World) (_hst : st < 16) (h1 : ((s : Int) == 119) = false) (h2 : ((s : Int) == 98) = false) (h3 : ((st : Int) % 2 == 1) = true) :
    Calls Try.prog 26 #[.agg #[.int .i64 c, .slice A n cap], .int .u8 s, .int .i64 st] w fun e w' => e = .returned (.int .i64 st) ∧ Below w.heap.size w w' := by
  go_enter Try.func26, Try.ntmps26
  go_wp2
  go_ret
  exact ⟨rfl, (Below.refl _ _).alloc (Nat.le_refl _) _⟩

set_option maxHeartbeats 400000 in
theorem step_dye (c : Int) (n cap : Nat) (s st : Nat) (w : World) (x : Int) (b off b2 off2 n2 cap2 : Nat) (_hst : st < 16) (h1 : ((s : Int) == 119) = false) (h2 : ((s : Int) == 98) = false) (h3 : ((st : Int) % 2 == 1) = false)
    (hs : 48 ≤ s) (hs2 : s - 48 < n) (_hs3 : s < 52) (hn2 : st / 2 < n2) (hc1 : w.cell? ⟨b, off + (s - 48), none⟩ = some (.slice (some ⟨b2, off2, none⟩) n2 cap2)) (hc2 : w.cell? ⟨b2, off2 + st / 2, none⟩ = some (.int .i64 x))
    (_hb : b < w.heap.size) (_hb2 : b2 < w.heap.size) (hx0 : 0 ≤ x) (hx1 : x < 8) :
    Calls Try.prog 26 #[.agg #[.int .i64 c, .slice (some ⟨b, off, none⟩) n cap], .int .u8 s, .int .i64 st] w fun e w' => e = .returned (.int .i64 (2 * x)) ∧ Below w.heap.size w w' := by
  have g1 : ∀ o, (w.alloc o).cell? ⟨b, off + (s - 48), none⟩ = some (.slice (some ⟨b2, off2, none⟩) n2 cap2) := fun o => (World.cell?_alloc_lt w o _ (by assumption)).trans hc1
  have g2 : ∀ o, (w.alloc o).cell? ⟨b2, off2 + st / 2, none⟩ = some (.int .i64 x) := fun o => (World.cell?_alloc_lt w o _ (by assumption)).trans hc2
  go_enter Try.func26, Try.ntmps26
  go_wp2
  go_ret
  exact ⟨rfl, (Below.refl _ _).alloc (Nat.le_refl _) _⟩

theorem beq_f {a b : Int} (h : ¬ a = b) : (a == b) = false := by simpa using h
theorem beq_t {a b : Int} (h : a = b) : (a == b) = true := by simpa using h

/-- (o Overlay) step(s, state) over a valid overlay. -/
theorem step_any (c n cap : Nat) (A : Option Addr) (D : List (List Int)) (s : UInt8) (st : Nat) (w : World) (B : Nat) (hD : Dy.OkD c D) (hr : RowsAre w B A n D) (hB : B ≤ w.heap.size) (hs : s ∈ Dy.steps n) (hst : st < 2 * c) :
    Calls Try.prog 26 #[.agg #[.int .i64 c, .slice A n cap], .int .u8 (s.toNat : Nat), .int .i64 st] w fun e w' => e = .returned (.int .i64 (Dy.stepN D s.toNat st : Nat)) ∧ Below w.heap.size w w' := by
  obtain ⟨h1, h2, h3, h4⟩ := hD
  have hn : D.length = n := hr.1
  by_cases e1 : s = 119
  · subst e1
    exact (step_w c A n cap st w (by omega)).mono fun _ _ h => h
  by_cases e2 : s = 98
  · subst e2
    exact (step_b c A n cap st w (by omega)).mono fun _ _ h => h
  have k1 : ¬ s.toNat = 119 := fun h => e1 (by apply UInt8.toNat_inj.1; exact h)
  have k2 : ¬ s.toNat = 98 := fun h => e2 (by apply UInt8.toNat_inj.1; exact h)
  have f1 : ((s.toNat : Int) == 119) = false := beq_f (by omega)
  have f2 : ((s.toNat : Int) == 98) = false := beq_f (by omega)
  by_cases e3 : st % 2 = 1
  · refine (step_odd c A n cap s.toNat st w (by omega) f1 f2 (beq_t (by omega))).mono fun _ _ ⟨h, hb⟩ => ⟨?_, hb⟩
    rw [h]
    refine ret_int ?_
    simp [Dy.stepN, k1, k2, e3]
  · rcases Dy.mem_steps hs with h | h | ⟨ha, hb, hb2⟩
    · exact absurd h e1
    · exact absurd h e2
    · have hl : s.toNat - 48 < D.length := by omega
      have q1 : D.getD (s.toNat - 48) [] = D[s.toNat - 48] := by simp [List.getD_eq_getElem?_getD, hl]
      obtain ⟨h5, h6⟩ := h4 _ (List.getElem_mem hl)
      have hl2 : st / 2 < (D.getD (s.toNat - 48) []).length := by rw [q1, h5]; omega
      obtain ⟨b, off, b2, off2, cap2, rfl, hbB, hc1, hb2B, hc2⟩ := hr.cell (i := s.toNat - 48) (j := st / 2) (by omega) hl2
      have hx : 0 ≤ (D.getD (s.toNat - 48) []).getD (st / 2) 0 ∧ (D.getD (s.toNat - 48) []).getD (st / 2) 0 < c := by
        rw [q1] at hl2 ⊢
        have q2 : (D[s.toNat - 48]).getD (st / 2) 0 = (D[s.toNat - 48])[st / 2] := by simp [List.getD_eq_getElem?_getD, hl2]
        rw [q2]
        exact h6 _ (List.getElem_mem hl2)
      refine (step_dye c n cap s.toNat st w _ b off b2 off2 _ cap2 (by omega) f1 f2 (beq_f (by omega)) ha (by omega) hb2 hl2 hc1 hc2 (by omega) (by omega) hx.1 (by omega)).mono fun _ _ ⟨h, hbe⟩ => ⟨?_, hbe⟩
      rw [h]
      refine ret_int ?_
      simp only [Dy.stepN, k1, k2, e3, if_false]
      omega
end Go.Proofs.Ytlbpkhbjdojdgaa
