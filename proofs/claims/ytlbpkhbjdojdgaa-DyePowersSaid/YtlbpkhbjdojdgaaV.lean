/-
  The walk of Valid.
-/
import Derived.Test.YtlbpkhbjdojdgaaA
import Derived.Test.YtlbpkhbjdojdgaaShelf
namespace Go.Proofs.Ytlbpkhbjdojdgaa
open Go.RowKit

/-- A row is one of c colours. -/
def RowOk (c : Int) (d : List Int) : Prop := (d.length : Int) = c ∧ ∀ x ∈ d, 0 ≤ x ∧ x < c
/-- c and D are an overlay's. -/
def OkI (c : Int) (D : List (List Int)) : Prop := 1 ≤ c ∧ c ≤ 8 ∧ D.length ≤ 4 ∧ ∀ d ∈ D, RowOk c d
open Classical in
noncomputable def validB (c : Int) (D : List (List Int)) : Bool := decide (OkI c D)
theorem validB_no {c : Int} {D : List (List Int)} (h : ¬ OkI c D) : false = validB c D := by simp [validB, h]
theorem validB_yes {c : Int} {D : List (List Int)} (h : OkI c D) : true = validB c D := by simp [validB, h]
theorem ret_bool {a b : Bool} (h : a = b) : Ending.returned (.bool a) = .returned (.bool b) := by rw [h]

theorem RowIs.min {w : World} {B : Nat} {v : Value} {d : List Int} (h : RowIs w B v d) (hd : d ≠ []) (hl : d.length ≤ 100) (W : World) (hW : ∀ p, W.cell? p = w.cell? p) :
    Calls Try.prog 35 #[v] W fun e w' => e = .returned (.int .i64 (Lib.minOf d)) ∧ w' = W := by
  obtain ⟨A, cap, rfl, hc, hr⟩ := h
  have hpos : 0 < d.length := List.length_pos_iff.2 hd
  obtain ⟨b, off, rfl, hb, hcell⟩ := hr.place hpos
  refine (Try.slices_Min_int b off d.length cap d W hpos (Nat.le_refl _) (by omega) fun j hj => ?_).mono fun e w' h => ?_
  · rw [hW]; refine hcell j _ ?_; simp [ints, hj]
  · rw [List.take_length] at h; exact h
theorem RowIs.max {w : World} {B : Nat} {v : Value} {d : List Int} (h : RowIs w B v d) (hd : d ≠ []) (hl : d.length ≤ 100) (W : World) (hW : ∀ p, W.cell? p = w.cell? p) :
    Calls Try.prog 36 #[v] W fun e w' => e = .returned (.int .i64 (Lib.maxOf d)) ∧ w' = W := by
  obtain ⟨A, cap, rfl, hc, hr⟩ := h
  have hpos : 0 < d.length := List.length_pos_iff.2 hd
  obtain ⟨b, off, rfl, hb, hcell⟩ := hr.place hpos
  refine (Try.slices_Max_int b off d.length cap d W hpos (Nat.le_refl _) (by omega) fun j hj => ?_).mono fun e w' h => ?_
  · rw [hW]; refine hcell j _ ?_; simp [ints, hj]
  · rw [List.take_length] at h; exact h

theorem foldl_min_le (l : List Int) : ∀ a : Int, (0 ≤ l.foldl min a) ↔ (0 ≤ a ∧ ∀ x ∈ l, 0 ≤ x) := by
  induction l with
  | nil => intro a; simp
  | cons y l ih => intro a; rw [List.foldl_cons, ih]; simp only [List.mem_cons, forall_eq_or_imp]; constructor <;> intro h <;> refine ⟨?_, ?_⟩ <;> first | exact ⟨by omega, h.2⟩ | exact h.2.2 | (have := h.1; omega)
theorem foldl_max_lt (c : Int) (l : List Int) : ∀ a : Int, (l.foldl max a < c) ↔ (a < c ∧ ∀ x ∈ l, x < c) := by
  induction l with
  | nil => intro a; simp
  | cons y l ih => intro a; rw [List.foldl_cons, ih]; simp only [List.mem_cons, forall_eq_or_imp]; constructor <;> intro h <;> refine ⟨?_, ?_⟩ <;> first | exact ⟨by omega, h.2⟩ | exact h.2.2 | (have := h.1; omega)
theorem minOf_ok {d : List Int} (hd : d ≠ []) : 0 ≤ Lib.minOf d ↔ ∀ x ∈ d, 0 ≤ x := by
  unfold Lib.minOf
  rw [foldl_min_le]
  refine ⟨fun h => h.2, fun h => ⟨?_, h⟩⟩
  cases d with
  | nil => exact absurd rfl hd
  | cons y l => exact h y (by simp)
theorem maxOf_ok {c : Int} {d : List Int} (hd : d ≠ []) : Lib.maxOf d < c ↔ ∀ x ∈ d, x < c := by
  unfold Lib.maxOf
  rw [foldl_max_lt]
  refine ⟨fun h => h.2, fun h => ⟨?_, h⟩⟩
  cases d with
  | nil => exact absurd rfl hd
  | cons y l => exact h y (by simp)

set_option maxHeartbeats 1000000 in
theorem valid_any (c : Int) (n cap : Nat) (A : Option Addr) (D : List (List Int)) (w : World) (B : Nat) (hr : RowsAre w B A n D) (hB : B ≤ w.heap.size) (hn : n ≤ maxLen) :
    Calls Try.prog 24 #[.agg #[.int .i64 c, .slice A n cap]] w fun e w' => e = .returned (.bool (validB c D)) ∧ Below w.heap.size w w' := by
  unfold maxLen at hn
  have hDn : D.length = n := hr.1
  by_cases h1 : c < 1
  · have F := Lib.hid (validB_no (c := c) (D := D) (fun h => by have := h.1; omega))
    go_enter Try.func24, Try.ntmps24
    go_wp2
    go_ret
    exact ⟨ret_bool F.out, (Below.refl _ _).alloc (Nat.le_refl _) _⟩
  by_cases h2 : 8 < c
  · have F := Lib.hid (validB_no (c := c) (D := D) (fun h => by have := h.2.1; omega))
    go_enter Try.func24, Try.ntmps24
    go_wp2
    go_ret
    exact ⟨ret_bool F.out, (Below.refl _ _).alloc (Nat.le_refl _) _⟩
  by_cases h3 : 4 < n
  · have F := Lib.hid (validB_no (c := c) (D := D) (fun h => by have := h.2.2.1; omega))
    clear hDn
    go_enter Try.func24, Try.ntmps24
    go_wp2
    go_ret
    exact ⟨ret_bool F.out, (Below.refl _ _).alloc (Nat.le_refl _) _⟩
  have HD := Lib.hid hDn
  clear hDn
  go_enter Try.func24, Try.ntmps24
  go_wp2
  go_loopw [22] (fun i wr => ∃ k : Nat, k ≤ n ∧ i = .int .i64 k ∧ (Hid (∀ (j : Nat) (d : List Int), j < k → D[j]? = some d → RowOk c d)) ∧ Blk wr w.heap.size 28 #[.int .i64 c, .slice A n cap] ∧ Below w.heap.size w wr) (fun i _ => n - (intOf i).toNat)
  case atStart => exact ⟨0, by omega, rfl, fun j d hj => absurd hj (by omega), Blk.new _ _ _, (Below.refl _ _).alloc (Nat.le_refl _) _⟩
  case round =>
    obtain ⟨k, hk, rfl, HR, hbox, hbe⟩ := hrel
    by_cases hlt : k < n
    · have hd0 := hbox.cell 0
      simp at hd0
      have hkD : k < D.length := by rw [HD.out]; exact hlt
      obtain ⟨hl, rs, hrr, hrow⟩ := hr
      obtain ⟨b, off, rfl, hb, hc⟩ := hrr.place (by omega)
      obtain ⟨d, hd⟩ : ∃ d, D[k]? = some d := ⟨D[k], List.getElem?_eq_getElem hkD⟩
      obtain ⟨u, hu, hri⟩ := hrow k d hd
      have hcell : wr.cell? ⟨b, off + k, none⟩ = some u := (hbe.cell (p := ⟨b, off + k, none⟩) (by show b < _; omega)).trans (hc k u hu)
      have hri' := hri.below (hbe.mono hB)
      obtain ⟨A2, cap2, rfl, hcp, _⟩ := hri
      have HDk := Lib.hid hd
      have HRow := Lib.hid hrow
      have HC := Lib.hid hc
      clear hd hrow hc hu hl
      by_cases e1 : (d.length : Int) = c
      · have hd1 : d ≠ [] := by intro e; subst e; simp at e1; omega
        have hlen : ((d.length : Int) != c) = false := by simpa using e1
        have hdl : d.length ≤ 100 := by omega
        by_cases e2 : 0 ≤ Lib.minOf d
        · by_cases e3 : Lib.maxOf d < c
          · have F : Hid (RowOk c d) := ⟨e1, fun x hx => ⟨(minOf_ok hd1).1 e2 x hx, (maxOf_ok hd1).1 e3 x hx⟩⟩
            clear e1
            go_wp2
            go_quiet ((first
              | (go_at_call 35; exact Calls.quiet_of_same (hri'.min hd1 hdl _ (fun _ => rfl)))
              | (go_at_call 36; exact Calls.quiet_of_same (hri'.max hd1 hdl _ (fun _ => rfl)))))
            go_wp2
            go_roundw
            case rel =>
              refine ⟨k + 1, by omega, by go_num, fun j dj hj hdj => ?_, hbox, ⟨hbe.os, hbe.tape, hbe.output, hbe.size, hbe.block⟩⟩
              by_cases hjk : j = k
              · subst hjk
                rw [HDk.out] at hdj
                cases hdj
                exact F.out
              · exact HR.out j dj (by omega) hdj
            case measure => simp [intOf]; omega
          · have F := Lib.hid (validB_no (c := c) (D := D) (fun h => e3 ((maxOf_ok hd1).2 fun x hx => ((h.2.2.2 d (List.mem_of_getElem? HDk.out)).2 x hx).2)))
            have e4 : decide (Lib.maxOf d ≥ c) = true := by simpa using e3
            clear e1
            go_wp2
            go_quiet ((first
              | (go_at_call 35; exact Calls.quiet_of_same (hri'.min hd1 hdl _ (fun _ => rfl)))
              | (go_at_call 36; exact Calls.quiet_of_same (hri'.max hd1 hdl _ (fun _ => rfl)))))
            go_wp2
            go_ret
            exact ⟨ret_bool F.out, ⟨hbe.os, hbe.tape, hbe.output, hbe.size, hbe.block⟩⟩
        · have F := Lib.hid (validB_no (c := c) (D := D) (fun h => e2 ((minOf_ok hd1).2 fun x hx => ((h.2.2.2 d (List.mem_of_getElem? HDk.out)).2 x hx).1)))
          have e4 : decide (Lib.minOf d < 0) = true := by simpa using e2
          clear e1
          go_wp2
          go_quiet ((first
            | (go_at_call 35; exact Calls.quiet_of_same (hri'.min hd1 hdl _ (fun _ => rfl)))))
          go_wp2
          go_ret
          exact ⟨ret_bool F.out, ⟨hbe.os, hbe.tape, hbe.output, hbe.size, hbe.block⟩⟩
      · have F := Lib.hid (validB_no (c := c) (D := D) (fun h => e1 (h.2.2.2 d (List.mem_of_getElem? HDk.out)).1))
        have hlen : ((d.length : Int) != c) = true := by simpa using e1
        clear e1
        go_wp2
        go_quiet (fail)
        go_wp2
        go_ret
        exact ⟨ret_bool F.out, ⟨hbe.os, hbe.tape, hbe.output, hbe.size, hbe.block⟩⟩
    · have F := Lib.hid (validB_yes (c := c) (D := D) ⟨by omega, by omega, by rw [HD.out]; omega, fun d hd => by
        obtain ⟨j, hj, rfl⟩ := List.getElem_of_mem hd
        exact HR.out j _ (by have := HD.out; omega) (List.getElem?_eq_getElem hj)⟩)
      go_wp2
      go_ret
      exact ⟨ret_bool F.out, hbe⟩
end Go.Proofs.Ytlbpkhbjdojdgaa
