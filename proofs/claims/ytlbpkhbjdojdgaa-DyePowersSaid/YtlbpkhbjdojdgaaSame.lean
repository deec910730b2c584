/-
  Two actions compared; the walk of Same.
-/
import Derived.Test.YtlbpkhbjdojdgaaNorm2
namespace Go.Proofs.Ytlbpkhbjdojdgaa
open Go.RowKit
set_option maxRecDepth 100000

theorem all_range_eqI : ∀ (xs ys : List Int), xs.length = ys.length → ((List.range xs.length).all fun i => xs.getD i 0 == ys.getD i 0) = (xs == ys)
  | [], [], _ => rfl
  | x :: xs, y :: ys, h => by
    have ih := all_range_eqI xs ys (by simpa using h)
    rw [List.length_cons, List.range_succ_eq_map, List.all_cons, List.all_map]
    simp only [List.getD_cons_zero, Function.comp_def, List.getD_cons_succ, ih]
    simp [List.cons_beq_cons]
  | [], _ :: _, h => by simp at h
  | _ :: _, [], h => by simp at h

theorem run_equalIn_ints (w : World) (d : Nat) (t e : TypeId) (n : Nat) (ht : Try.prog.underlying t = some (.array n e)) (he : Try.prog.underlying e = some (.int .i64)) (hsz : ∀ w, (sizeOf e).run Try.prog w = .ok 1 w)
    (xs ys : List Int) (hx : xs.length = n) (hy : ys.length = n) :
    (Op.equalIn (d + 2) t (.agg (xs.map (Value.int .i64)).toArray) (.agg (ys.map (Value.int .i64)).toArray)).run Try.prog w = .ok (xs == ys) w := by
  rw [← all_range_eqI xs ys (hx.trans hy.symm), hx, List.range_eq_range', Op.equalIn]
  simp only [Sem.run_bind, run_underlying ht, Result.andThen_ok, hsz, Std.Legacy.Range.forIn_eq_forIn_range', Std.Legacy.Range.size, Nat.sub_zero, Nat.add_sub_cancel, Nat.div_one]
  have hl : ∀ i ∈ List.range' 0 n 1, i < n := fun i hi => by simpa using (List.mem_range'_1.1 hi).2
  generalize List.range' 0 n 1 = l at hl ⊢
  induction l with
  | nil => simp
  | cons i l ih =>
    have hi : i < n := hl i (by simp)
    have px : (part e (xs.map (Value.int .i64)).toArray (i * 1)).run Try.prog w = .ok (Value.int .i64 (xs.getD i 0)) w := by
      simp [part, isAgg, run_underlying he, List.getD, List.getElem?_eq_getElem (show i < xs.length by omega)]
    have py : (part e (ys.map (Value.int .i64)).toArray (i * 1)).run Try.prog w = .ok (Value.int .i64 (ys.getD i 0)) w := by
      simp [part, isAgg, run_underlying he, List.getD, List.getElem?_eq_getElem (show i < ys.length by omega)]
    have pe : (Op.equalIn (d + 1) e (Value.int .i64 (xs.getD i 0)) (Value.int .i64 (ys.getD i 0))).run Try.prog w = .ok (xs.getD i 0 == ys.getD i 0) w :=
      run_equalIn_int w d e .i64 .i64 _ _ he
    simp only [List.forIn_cons, Sem.run_bind, px, py, pe, Result.andThen_ok, List.all_cons]
    cases hb : (xs.getD i 0 == ys.getD i 0)
    · simp
    · simp only [Bool.not_true, Bool.false_eq_true, if_false, Sem.run_pure, Result.andThen_ok, Bool.true_and]
      exact ih fun j hj => hl j (by simp [hj])

def actI (l : List Nat) : List Int := l.map (fun n : Nat => (n : Int)) ++ List.replicate (16 - l.length) 0
theorem actA_I (l : List Nat) : actA l = ((actI l).map (Value.int .i64)).toArray := by simp [actA, actL, actI, List.map_append, Function.comp_def]
theorem actI_len {l : List Nat} (h : l.length ≤ 16) : (actI l).length = 16 := by simp [actI]; omega
/-- Two actions compared. -/
theorem eql_act {l l' : List Nat} (h : l.length ≤ 16) (h' : l'.length = l.length) (w : World) :
    (binOp .eql 53 (.agg (actA l)) (.agg (actA l'))).run Try.prog w = .ok (.bool (decide (l = l'))) w := by
  rw [run_eql_struct, actA_I, actA_I, run_equalIn_ints w 9998 53 3 16 und53 und3 (fun w => by kernel_rfl) _ _ (actI_len h) (actI_len (by omega))]
  simp only [Result.andThen_ok]
  congr 2
  by_cases e : l = l'
  · subst e; simp
  · have : ¬ actI l = actI l' := fun e2 => e (actA_inj h'.symm (by rw [actA_I, actA_I, e2]))
    simp [e, this]

theorem word_two (c : Int) (n cap : Nat) (A : Option Addr) (D : List (List Int)) (s t : ByteArray) (w : World) (B : Nat) (hr : RowsAre w B A n D) (hB : B ≤ w.heap.size) (hn : n ≤ maxLen) (hcap : n ≤ cap) (hz : s.size ≤ maxLen) (hzt : t.size ≤ maxLen) :
    Calls Try.prog 16 #[.agg #[.int .i64 c, .slice A n cap], .slice (some ⟨w.heap.size + 1, 0, none⟩) 2 2] ((w.alloc (.cells #[.int .i64 c, .slice A n cap] 28)).alloc (.cells #[.string s, .string t] 9))
      (BoolPost (WordsB c D n [s, t]) ((w.alloc (.cells #[.int .i64 c, .slice A n cap] 28)).alloc (.cells #[.string s, .string t] 9))) := by
  have hw0 : Below w.heap.size w ((w.alloc (.cells #[.int .i64 c, .slice A n cap] 28)).alloc (.cells #[.string s, .string t] 9)) := ((Below.refl _ _).alloc (Nat.le_refl _) _).alloc (by simp) _
  exact word_any c n cap A D (w.heap.size + 1) 0 2 2 [s, t] ((w.alloc (.cells #[.int .i64 c, .slice A n cap] 28)).alloc (.cells #[.string s, .string t] 9)) B (hr.keep fun p hp => hw0.cell (by omega)) (by simp; omega) hn hcap rfl (by omega) (by simpa using ⟨hz, hzt⟩)
    (fun j x hj => by
      have b1 : Blk ((w.alloc (.cells #[.int .i64 c, .slice A n cap] 28)).alloc (.cells #[.string s, .string t] 9)) (w.heap.size + 1) 9 #[.string s, .string t] := Blk.new_at _ _ (by simp)
      rw [b1.cell]
      match j, hj with
      | 0, hj => simp at hj; subst hj; rfl
      | 1, hj => simp at hj; subst hj; rfl
      | j + 2, hj => simp at hj) (by simp)

theorem Same_no (c : Int) (n cap : Nat) (A : Option Addr) (D : List (List Int)) (s t : ByteArray) (w : World) (B : Nat) (hr : RowsAre w B A n D) (hB : B ≤ w.heap.size) (hn : n ≤ maxLen) (hcap : n ≤ cap) (hz : s.size ≤ maxLen) (hzt : t.size ≤ maxLen) (hno : ¬ WordsB c D n [s, t]) :
    Calls Try.prog 8 #[.agg #[.int .i64 c, .slice A n cap], .string s, .string t] w fun e w' => e = .returned (.tuple #[.bool false, .int .i64 2]) ∧ Below w.heap.size w w' := by
  have C := Lib.hid (word_two c n cap A D s t w B hr hB hn hcap hz hzt)
  have hw0 : Below w.heap.size w ((w.alloc (.cells #[.int .i64 c, .slice A n cap] 28)).alloc (.cells #[.string s, .string t] 9)) := ((Below.refl _ _).alloc (Nat.le_refl _) _).alloc (by simp) _
  have HW := Lib.hid hw0
  have HN := Lib.hid hno
  clear hw0 hr hno
  go_enter Try.func8, Try.ntmps8
  go_wp2_with fail
  refine C.out.mono ?_
  rintro e w1 ⟨r, rfl, hr1, hb1⟩
  have hrf : r = false := by cases r with | false => rfl | true => exact absurd (hr1.1 rfl) HN.out
  subst hrf
  have hbe : Below w.heap.size w w1 := HW.out.trans (hb1.mono (by simp; omega))
  clear hr1 hb1 C
  go_wp2_with fail
  go_ret2
  exact ⟨rfl, hbe⟩

theorem below_chain {w1 wp w2 : World} (h : Below w1.heap.size w1 wp) (h2 : Below wp.heap.size wp w2) : Below w1.heap.size w1 w2 := h.trans (h2.mono h.size)

set_option maxHeartbeats 4000000 in
theorem Same_yes (c n cap : Nat) (A : Option Addr) (D : List (List Int)) (s t : ByteArray) (w : World) (B : Nat) (hD : Dy.OkD c D) (hr : RowsAre w B A n D) (hB : B ≤ w.heap.size) (hcap : n ≤ cap) (hs : WordB n s = true) (ht : WordB n t = true) :
    Calls Try.prog 8 #[.agg #[.int .i64 c, .slice A n cap], .string s, .string t] w fun e w' => e = .returned (.tuple #[.bool (decide (Dy.act c D s.data.toList = Dy.act c D t.data.toList)), .int .i64 0]) ∧ Below w.heap.size w w' := by
  have hDn := Lib.hid hr.1
  obtain ⟨hs64, hmade⟩ := wordB_iff.1 hs
  obtain ⟨ht64, htmade⟩ := wordB_iff.1 ht
  have hn4 : n ≤ 4 := by have := hD.2.2.1; have := hDn.out; omega
  have C := Lib.hid (word_two c n cap A D s t w B hr hB (by unfold maxLen; omega) hcap (by unfold maxLen; omega) (by unfold maxLen; omega))
  have hw0 : Below w.heap.size w ((w.alloc (.cells #[.int .i64 c, .slice A n cap] 28)).alloc (.cells #[.string s, .string t] 9)) := ((Below.refl _ _).alloc (Nat.le_refl _) _).alloc (by simp) _
  have HW := Lib.hid hw0
  have HR := Lib.hid hr
  have HS := Lib.hid hs
  have HT := Lib.hid ht
  have HM := Lib.hid hmade
  have HTM := Lib.hid htmade
  have HD := Lib.hid hD
  clear hw0 hr hs hmade ht htmade
  go_enter Try.func8, Try.ntmps8
  go_wp2_with fail
  refine C.out.mono ?_
  rintro e w1 ⟨r, rfl, hr1, hb1⟩
  obtain rfl : r = true := hr1.2 ⟨OkD.okI HD.out, fun x hx => by
    rcases List.mem_cons.1 hx with rfl | hx
    · exact HS.out
    · rw [List.mem_singleton.1 hx]; exact HT.out⟩
  have b1 : Blk w1 w.heap.size 28 #[.int .i64 c, .slice A n cap] := ((Blk.new w 28 #[.int .i64 c, .slice A n cap]).alloc _).below hb1 (by simp; omega)
  have hbe : Below w.heap.size w w1 := HW.out.trans (hb1.mono (by simp; omega))
  clear hr1 hb1 C
  have hc8 := hD.2.1
  have hrw := Lib.hid (HR.out.keep (fun p hp => hbe.cell (by omega)) : RowsAre w1 B A n D)
  have hBw : B ≤ w1.heap.size := Nat.le_trans hB hbe.size
  have heq := fun w' => eql_act (l := Dy.on D (Dy.idle c) s.data.toList) (l' := Dy.on D (Dy.idle c) t.data.toList) (by rw [on_length, idle_len']; omega) (by rw [on_length, on_length]) w'
  have hS : ∀ W', Old w1 W' → W'.cell? ⟨w.heap.size, 0, none⟩ = some (.int .i64 c) ∧ W'.cell? ⟨w.heap.size, 1, none⟩ = some (.slice A n cap) := fun W' ho => by
    have h0 := b1.cell 0
    simp at h0
    have h1 := b1.cell 1
    simp at h1
    exact ⟨(ho.cell b1.lt).trans h0, (ho.cell b1.lt).trans h1⟩
  have hd0 := (hS w1 (fun _ _ => rfl)).1
  have hd1 := (hS w1 (fun _ _ => rfl)).2
  clear hD
  go_wp2_with fail
  have O0 : Below w1.heap.size w1 w1 := Below.refl _ _
  go_region_held3 (fun w' => w'.cell? ⟨w.heap.size, 0, none⟩ = some (.int .i64 c) ∧ w'.cell? ⟨w.heap.size, 1, none⟩ = some (.slice A n cap)) (first
    | exact hS _ (fun _ _ => rfl)
    | exact hS _ (Below.block (by assumption))) (first
    | (go_at_call 21
       refine (idle_any c A n cap _ hc8).mono ?_
       rintro e w2 ⟨rfl, hb2⟩
       have O2 : Below w1.heap.size w1 w2 := by
         first
           | exact below_chain (by assumption) hb2
           | exact ⟨hb2.os, hb2.tape, hb2.output, hb2.size, hb2.block⟩
       clear hb2)
    | (go_at_call 20
       refine (on_any c n cap A D (Dy.idle c) _ _ B HD.out ?_ ?_ ?_ (idle_len' c) (idle_lt' c) ?_).mono ?_
       · exact hrw.out.keep (fun p hp => Below.cell (B := w1.heap.size) (w := w1) (by assumption) (by omega))
       · exact Nat.le_trans hBw (Below.size (w := w1) (B := w1.heap.size) (by assumption))
       · first | exact HM.out | exact HTM.out
       · first | exact hs64 | exact ht64
       rintro e w3 ⟨rfl, hb3⟩
       have O3 : Below w1.heap.size w1 w3 := below_chain (by assumption) hb3
       clear hb3))
  all_goals
    go_wp2_with fail
    go_ret2
    exact ⟨rfl, hbe.trans (Below.mono (B := w1.heap.size) (by assumption) hbe.size)⟩
end Go.Proofs.Ytlbpkhbjdojdgaa
