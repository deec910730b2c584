/-
  The walks of Normal and of Act at what is no word.
-/
import Derived.Test.YtlbpkhbjdojdgaaNorm
namespace Go.Proofs.Ytlbpkhbjdojdgaa
open Go.RowKit
set_option maxRecDepth 100000

/-- word(s) behind 'box; buildSlice'. -/
theorem word_one (c : Int) (n cap : Nat) (A : Option Addr) (D : List (List Int)) (s : ByteArray) (w : World) (B : Nat) (hr : RowsAre w B A n D) (hB : B ≤ w.heap.size) (hn : n ≤ maxLen) (hcap : n ≤ cap) (hz : s.size ≤ maxLen) :
    Calls Try.prog 16 #[.agg #[.int .i64 c, .slice A n cap], .slice (some ⟨w.heap.size + 1, 0, none⟩) 1 1] ((w.alloc (.cells #[.int .i64 c, .slice A n cap] 28)).alloc (.cells #[.string s] 9))
      (BoolPost (WordsB c D n [s]) ((w.alloc (.cells #[.int .i64 c, .slice A n cap] 28)).alloc (.cells #[.string s] 9))) := by
  have hw0 : Below w.heap.size w ((w.alloc (.cells #[.int .i64 c, .slice A n cap] 28)).alloc (.cells #[.string s] 9)) := ((Below.refl _ _).alloc (Nat.le_refl _) _).alloc (by simp) _
  exact word_any c n cap A D (w.heap.size + 1) 0 1 1 [s] ((w.alloc (.cells #[.int .i64 c, .slice A n cap] 28)).alloc (.cells #[.string s] 9)) B (hr.keep fun p hp => hw0.cell (by omega)) (by simp; omega) hn hcap rfl (by omega) (by simpa using hz)
    (fun j x hj => by
      have b1 : Blk ((w.alloc (.cells #[.int .i64 c, .slice A n cap] 28)).alloc (.cells #[.string s] 9)) (w.heap.size + 1) 9 #[.string s] := Blk.new_at _ _ (by simp)
      rw [b1.cell]
      cases j with
      | zero => simp at hj; subst hj; rfl
      | succ j => simp at hj) (by simp)

theorem Act_no (c : Int) (n cap : Nat) (A : Option Addr) (D : List (List Int)) (s : ByteArray) (w : World) (B : Nat) (hr : RowsAre w B A n D) (hB : B ≤ w.heap.size) (hn : n ≤ maxLen) (hcap : n ≤ cap) (hz : s.size ≤ maxLen) (hno : ¬ WordsB c D n [s]) :
    Calls Try.prog 13 #[.agg #[.int .i64 c, .slice A n cap], .string s] w fun e w' => e = .returned (.tuple #[.slice none 0 0, .int .i64 2]) ∧ Below w.heap.size w w' := by
  have C := Lib.hid (word_one c n cap A D s w B hr hB hn hcap hz)
  have hw0 : Below w.heap.size w ((w.alloc (.cells #[.int .i64 c, .slice A n cap] 28)).alloc (.cells #[.string s] 9)) := ((Below.refl _ _).alloc (Nat.le_refl _) _).alloc (by simp) _
  have HW := Lib.hid hw0
  have HN := Lib.hid hno
  clear hw0 hr hno
  go_enter Try.func13, Try.ntmps13
  go_wp2_with fail
  refine C.out.mono ?_
  rintro e w1 ⟨r, rfl, hr1, hb1⟩
  have hrf : r = false := by cases r with | false => rfl | true => exact absurd (hr1.1 rfl) HN.out
  subst hrf
  have hbe : Below w.heap.size w w1 := HW.out.trans (hb1.mono (by simp; omega))
  clear hr1 hb1 C
  go_wp2_with fail
  go_ret2
  exact ⟨rfl, hbe⟩

theorem Normal_no (c : Int) (n cap : Nat) (A : Option Addr) (D : List (List Int)) (s : ByteArray) (w : World) (B : Nat) (hr : RowsAre w B A n D) (hB : B ≤ w.heap.size) (hn : n ≤ maxLen) (hcap : n ≤ cap) (hz : s.size ≤ maxLen) (hno : ¬ WordsB c D n [s]) :
    Calls Try.prog 6 #[.agg #[.int .i64 c, .slice A n cap], .string s] w fun e w' => e = .returned (.tuple #[.string ⟨#[]⟩, .int .i64 2]) ∧ Below w.heap.size w w' := by
  have C := Lib.hid (word_one c n cap A D s w B hr hB hn hcap hz)
  have hw0 : Below w.heap.size w ((w.alloc (.cells #[.int .i64 c, .slice A n cap] 28)).alloc (.cells #[.string s] 9)) := ((Below.refl _ _).alloc (Nat.le_refl _) _).alloc (by simp) _
  have HW := Lib.hid hw0
  have HN := Lib.hid hno
  clear hw0 hr hno
  go_enter Try.func6, Try.ntmps6
  go_wp2_with fail
  refine C.out.mono ?_
  rintro e w1 ⟨r, rfl, hr1, hb1⟩
  have hrf : r = false := by cases r with | false => rfl | true => exact absurd (hr1.1 rfl) HN.out
  subst hrf
  have hbe : Below w.heap.size w w1 := HW.out.trans (hb1.mono (by simp; omega))
  clear hr1 hb1 C
  go_wp2_with fail
  go_ret2
  exact ⟨rfl, hbe⟩

theorem OkD.okI {c : Nat} {D : List (List Int)} (hD : Dy.OkD c D) : OkI c D := ⟨by have := hD.1; omega, by have := hD.2.1; omega, hD.2.2.1, fun d hd => ⟨by rw [(hD.2.2.2 d hd).1], (hD.2.2.2 d hd).2⟩⟩

/-- What Normal answers at a word of a valid overlay. -/
def NormalPost (w : World) (c : Nat) (D : List (List Int)) (s : List UInt8) (e : Ending) (w' : World) : Prop :=
  Below w.heap.size w w' ∧ ((Dy.list c D = none ∧ e = .returned (.tuple #[.string ⟨#[]⟩, .int .i64 3])) ∨
    (∃ W x, Dy.list c D = some W ∧ x ∈ W ∧ Dy.act c D x = Dy.act c D s ∧ e = .returned (.tuple #[.string ⟨x.toArray⟩, .int .i64 0])))

set_option maxHeartbeats 800000 in
theorem Normal_yes (c n cap : Nat) (A : Option Addr) (D : List (List Int)) (s : ByteArray) (w : World) (B : Nat) (hD : Dy.OkD c D) (hr : RowsAre w B A n D) (hB : B ≤ w.heap.size) (hcap : n ≤ cap) (hs : WordB n s = true) :
    Calls Try.prog 6 #[.agg #[.int .i64 c, .slice A n cap], .string s] w (NormalPost w c D s.data.toList) := by
  have hDn := Lib.hid hr.1
  obtain ⟨hs64, hmade⟩ := wordB_iff.1 hs
  have hn4 : n ≤ 4 := by have := hD.2.2.1; have := hDn.out; omega
  have C := Lib.hid (word_one c n cap A D s w B hr hB (by unfold maxLen; omega) hcap (by unfold maxLen; omega))
  have hw0 : Below w.heap.size w ((w.alloc (.cells #[.int .i64 c, .slice A n cap] 28)).alloc (.cells #[.string s] 9)) := ((Below.refl _ _).alloc (Nat.le_refl _) _).alloc (by simp) _
  have HW := Lib.hid hw0
  have HR := Lib.hid hr
  have HS := Lib.hid hs
  have HM := Lib.hid hmade
  have HD := Lib.hid hD
  clear hw0 hr hs hmade
  go_enter Try.func6, Try.ntmps6
  go_wp2_with fail
  refine C.out.mono ?_
  rintro e w1 ⟨r, rfl, hr1, hb1⟩
  obtain rfl : r = true := hr1.2 ⟨OkD.okI HD.out, fun x hx => by rw [List.mem_singleton.1 hx]; exact HS.out⟩
  have b1 : Blk w1 w.heap.size 28 #[.int .i64 c, .slice A n cap] := ((Blk.new w 28 #[.int .i64 c, .slice A n cap]).alloc _).below hb1 (by simp; omega)
  have hbe : Below w.heap.size w w1 := HW.out.trans (hb1.mono (by simp; omega))
  clear hr1 hb1 C
  have C2 := Lib.hid (list_any c n cap A D w1 B HD.out (HR.out.keep fun p hp => hbe.cell (by omega)) (Nat.le_trans hB hbe.size) hcap)
  have hd0 := b1.cell 0
  simp at hd0
  have hd1 := b1.cell 1
  simp at hd1
  clear hD
  go_wp2_with fail
  refine C2.out.mono ?_
  rintro e w2 (⟨W, gm, b, wv, av, hlist, rfl, hM, hwords, hb2⟩ | ⟨hlist, rfl, hb2⟩)
  · have hn' : D.length ≤ 4 := HD.out.2.2.1
    obtain ⟨x, hx, hact, hle⟩ := (Dy.listed hn' hlist).least s.data.toList (by rw [hDn.out]; exact HM.out)
    obtain ⟨q, hq⟩ := List.getElem?_of_mem hx
    have hb12 : Below w.heap.size w w2 := hbe.trans (hb2.mono hbe.size)
    have C3 := Lib.hid (normal_any c n cap A D w1.heap.size gm b wv av W s q x w2 B hM HD.out (HR.out.keep fun p hp => hb12.cell (by omega)) (Nat.le_trans hB hb12.size) HM.out (by omega) hq hact)
    have HL := Lib.hid hlist
    have HX := Lib.hid hx
    have HA := Lib.hid hact
    clear hlist hx hact hle hq hM hwords
    go_wp2_with fail
    refine C3.out.mono ?_
    rintro e w3 ⟨rfl, hb3⟩
    go_wp2_with fail
    go_ret2
    exact ⟨hb12.trans (hb3.mono hb12.size), .inr ⟨W, x, HL.out, HX.out, HA.out, rfl⟩⟩
  · have HL := Lib.hid hlist
    clear hlist
    go_wp2_with fail
    go_ret2
    exact ⟨hbe.trans (hb2.mono hbe.size), .inl ⟨HL.out, rfl⟩⟩
end Go.Proofs.Ytlbpkhbjdojdgaa
