/-
  The walks of cmp.Compare at strings, cmp.Or, shortlex.
-/
import Derived.Test.YtlbpkhbjdojdgaaStrSet
namespace Go.Proofs.Ytlbpkhbjdojdgaa
open Go.RowKit Go.Lib Go.Sort
set_option maxRecDepth 100000

theorem isNaN_str (s : ByteArray) (w : World) : Calls Try.prog 66 #[.string s] w fun e w' => e = .returned (.bool false) ∧ w' = w := by
  go_enter Try.func66, Try.ntmps66
  go_wp2_with fail
  go_ret
  exact ⟨rfl, rfl⟩

/-- cmp.Compare of two strings. -/
def cmpB (a b : List UInt8) : Int := if Op.bytesLess a b = true then -1 else if a = b then 0 else 1

theorem bytesLess_lex : ∀ (x y : List UInt8), x.length = y.length → (Op.bytesLess x y = true ↔ Dy.lex x y)
  | [], [], _ => by simp [Op.bytesLess, Dy.lex]
  | _ :: _, [], h => by simp at h
  | [], _ :: _, h => by simp at h
  | a :: x, b :: y, h => by simp [Op.bytesLess, Dy.lex, bytesLess_lex x y (by simpa using h)]

theorem cmpStr (s t : ByteArray) (w : World) : Calls Try.prog 44 #[.string s, .string t] w fun e w' => e = .returned (.int .i64 (cmpB s.data.toList t.data.toList)) ∧ w' = w := by
  have hs := ByteArray.toList_eq s
  have ht := ByteArray.toList_eq t
  by_cases h1 : Op.bytesLess s.data.toList t.data.toList = true
  · have F := Lib.hid (show cmpB s.data.toList t.data.toList = -1 by simp [cmpB, h1])
    have h1' : Op.bytesLess s.toList t.toList = true := by rw [hs, ht]; exact h1
    clear hs ht h1
    go_enter Try.func44, Try.ntmps44
    go_wp2_with (go_at_call 66; refine (isNaN_str _ _).mono ?_; rintro e w' ⟨rfl, rfl⟩)
    go_ret
    exact ⟨ret_int F.out.symm, rfl⟩
  · have h1' : Op.bytesLess s.toList t.toList = false := by rw [hs, ht]; simpa using h1
    by_cases h2 : s.data.toList = t.data.toList
    · have F := Lib.hid (show cmpB s.data.toList t.data.toList = 0 by rw [cmpB, if_neg h1, if_pos h2])
      have h2' : (s.toList == t.toList) = true := by rw [hs, ht]; simpa using h2
      clear hs ht h1 h2
      go_enter Try.func44, Try.ntmps44
      go_wp2_with (go_at_call 66; refine (isNaN_str _ _).mono ?_; rintro e w' ⟨rfl, rfl⟩)
      go_ret
      exact ⟨ret_int F.out.symm, rfl⟩
    · have F := Lib.hid (show cmpB s.data.toList t.data.toList = 1 by rw [cmpB, if_neg h1, if_neg h2])
      have h2' : (s.toList == t.toList) = false := by rw [hs, ht]; simpa using h2
      clear hs ht h1 h2
      go_enter Try.func44, Try.ntmps44
      go_wp2_with (go_at_call 66; refine (isNaN_str _ _).mono ?_; rintro e w' ⟨rfl, rfl⟩)
      go_ret
      exact ⟨ret_int F.out.symm, rfl⟩

/-- cmp.Or of two. -/
theorem or_two (x y : Int) (b : Nat) (w : World) (h0 : w.cell? ⟨b, 0, none⟩ = some (.int .i64 x)) (h1 : w.cell? ⟨b, 1, none⟩ = some (.int .i64 y)) :
    Calls Try.prog 42 #[.slice (some ⟨b, 0, none⟩) 2 2] w fun e w' => e = .returned (.int .i64 (if x = 0 then y else x)) ∧ w' = w := by
  generalize hr : (if x = 0 then y else x) = r
  have HRR := Lib.hid hr
  clear hr
  go_enter Try.func42, Try.ntmps42
  go_wp2_with fail
  go_loopw [8] (fun i wr => ∃ k : Nat, k ≤ 2 ∧ i = .int .i64 k ∧ (0 < k → x = 0) ∧ (1 < k → y = 0) ∧ wr = w) (fun i _ => 2 - (intOf i).toNat)
  case atStart => exact ⟨0, by omega, rfl, fun h => absurd h (by omega), fun h => absurd h (by omega), rfl⟩
  case round =>
    obtain ⟨k, hk, rfl, hx, hy, rfl⟩ := hrel
    have hcase : k = 0 ∨ k = 1 ∨ k = 2 := by omega
    rcases hcase with rfl | rfl | rfl
    · by_cases e : x = 0
      · have e2 : (x != 0) = false := by simpa using e
        go_wp2_with fail
        go_roundw
        case rel => exact ⟨1, by omega, by go_num, fun _ => e, fun h => absurd h (by omega), trivial⟩
        case measure => simp [intOf]
      · have e2 : (x != 0) = true := by simpa using e
        have F := Lib.hid (show r = x from HRR.out.symm.trans (if_neg e))
        go_wp2_with fail
        go_ret
        exact ⟨ret_int F.out.symm, rfl⟩
    · have e0 := hx (by omega)
      by_cases e : y = 0
      · have e2 : (y != 0) = false := by simpa using e
        go_wp2_with fail
        go_roundw
        case rel => exact ⟨2, by omega, by go_num, fun _ => e0, fun h => e, trivial⟩
        case measure => simp [intOf]
      · have e2 : (y != 0) = true := by simpa using e
        have F := Lib.hid (show r = y from HRR.out.symm.trans (if_pos e0))
        clear e0
        go_wp2_with fail
        go_ret
        exact ⟨ret_int F.out.symm, rfl⟩
    · have e0 := hx (by omega)
      have e1 := hy (by omega)
      have F := Lib.hid (show r = 0 from HRR.out.symm.trans ((if_pos e0).trans e1))
      clear e0 e1
      go_wp2_with fail
      go_ret
      exact ⟨ret_int F.out.symm, rfl⟩
theorem or_new (x y : Int) (W : World) : Calls Try.prog 42 #[.slice (some ⟨W.heap.size, 0, none⟩) 2 2] (W.alloc (.cells #[.int .i64 x, .int .i64 y] 3)) fun e w' => e = .returned (.int .i64 (if x = 0 then y else x)) ∧ w' = W.alloc (.cells #[.int .i64 x, .int .i64 y] 3) :=
  or_two x y _ _ ((Blk.new W 3 #[.int .i64 x, .int .i64 y]).cell 0) ((Blk.new W 3 #[.int .i64 x, .int .i64 y]).cell 1)

/-- shortlex. -/
def cfS (a b : List UInt8) : Int := if Lib.compareInt a.length b.length = 0 then cmpB a b else Lib.compareInt a.length b.length

theorem shortlex_any (s t : ByteArray) (w : World) : Calls Try.prog 34 #[.string s, .string t] w fun e w' => e = .returned (.int .i64 (cfS s.data.toList t.data.toList)) ∧ ∃ q os', w' = grow (w.drewN q) os' := by
  have F := Lib.hid (show (if Lib.compareInt s.size t.size = 0 then cmpB s.data.toList t.data.toList else Lib.compareInt s.size t.size) = cfS s.data.toList t.data.toList from rfl)
  have hcon := fun W' => Try.cmp_Compare_int (s.size : Int) (t.size : Int) W'
  have hcon2 := fun W' => cmpStr s t W'
  generalize Lib.compareInt (s.size : Int) (t.size : Int) = r at hcon F
  generalize cmpB s.data.toList t.data.toList = r2 at hcon2 F
  have hcon3 := fun W' => or_new r r2 W'
  generalize (if r = 0 then r2 else r) = r3 at hcon3 F
  go_enter Try.func34, Try.ntmps34
  go_wp2_with (first
    | (go_at_call 43; refine (hcon _).mono ?_; rintro e w' ⟨rfl, rfl⟩)
    | (go_at_call 44; refine (hcon2 _).mono ?_; rintro e w' ⟨rfl, rfl⟩)
    | (go_at_call 42; refine (hcon3 _).mono ?_; rintro e w' ⟨rfl, rfl⟩))
  go_ret
  exact ⟨ret_int F.out, 0, _, by rw [alloc_eq_grow]; rfl⟩

/-- A rule's two cells. -/
def encR (r : List UInt8 × List UInt8) : List Value := [strV r.1, strV r.2]

theorem alloc2_grow (W : World) (a b : Obj) (q : Nat) (os : Array Obj) : grow (((W.alloc a).alloc b).drewN q) os = grow (W.drewN q) (#[a] ++ #[b] ++ os) := by
  rw [alloc_eq_grow, alloc_eq_grow, grow_grow]
  show grow (grow (W.drewN q) _) os = _
  rw [grow_grow]

theorem closure33 (x y : List UInt8 × List UInt8) (W : World) : Calls Try.prog 33 #[.agg (encR x).toArray, .agg (encR y).toArray] W fun e w' => e = .returned (.int .i64 (cfS x.1 y.1)) ∧ ∃ q os', w' = grow (W.drewN q) os' := by
  have hcon := fun W' => shortlex_any ⟨x.1.toArray⟩ ⟨y.1.toArray⟩ W'
  simp only [List.toList_toArray] at hcon
  generalize cfS x.1 y.1 = r at hcon ⊢
  unfold encR strV
  go_enter Try.func33, Try.ntmps33
  go_wp2_with (go_at_call 34; refine (hcon _).mono ?_; rintro e w' ⟨rfl, q, os, rfl⟩)
  go_ret
  exact ⟨rfl, q, _, alloc2_grow _ _ _ _ _⟩
end Go.Proofs.Ytlbpkhbjdojdgaa
