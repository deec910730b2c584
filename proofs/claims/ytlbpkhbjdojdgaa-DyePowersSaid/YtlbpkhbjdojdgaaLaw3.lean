/-
  The walk of DyeNormal: it answers true.
-/
import Derived.Test.YtlbpkhbjdojdgaaAwake
namespace Go.Proofs.Ytlbpkhbjdojdgaa
open Go.RowKit
set_option maxRecDepth 100000

/-- What Normal answers, whatever the string. -/
def NormIs (c : Int) (D : List (List Int)) (s r : ByteArray) (k : Int) : Prop :=
  (k = 2 ∧ ¬ WordsB c D D.length [s]) ∨ (k = 3 ∧ WordsB c D D.length [s] ∧ Dy.list c.toNat D = none) ∨
    (k = 0 ∧ WordsB c D D.length [s] ∧ ∃ W, Dy.list c.toNat D = some W ∧ r.data.toList ∈ W ∧ Dy.act c.toNat D r.data.toList = Dy.act c.toNat D s.data.toList)

theorem Normal_all (c : Int) (n cap : Nat) (A : Option Addr) (D : List (List Int)) (s : ByteArray) (w : World) (B : Nat) (hr : RowsAre w B A n D) (hB : B ≤ w.heap.size) (hn : n ≤ maxLen) (hcap : n ≤ cap) (hz : s.size ≤ maxLen) :
    Calls Try.prog 6 #[.agg #[.int .i64 c, .slice A n cap], .string s] w fun e w' => ∃ r k, e = .returned (.tuple #[.string r, .int .i64 k]) ∧ Below w.heap.size w w' ∧ NormIs c D s r k := by
  have hl : D.length = n := hr.1
  by_cases hw : WordsB c D n [s]
  · obtain ⟨c', rfl, hD⟩ := hw.1.okD
    refine (Normal_yes c' n cap A D s w B hD hr hB hcap (hw.2 s (by simp))).mono ?_
    rintro e w' ⟨hb, ⟨h1, rfl⟩ | ⟨W, x, h1, h2, h3, rfl⟩⟩
    · exact ⟨_, _, rfl, hb, .inr (.inl ⟨rfl, by rw [hl]; exact hw, by simpa using h1⟩)⟩
    · exact ⟨_, _, rfl, hb, .inr (.inr ⟨rfl, by rw [hl]; exact hw, W, by simpa using h1, by simpa using h2, by simpa using h3⟩)⟩
  · refine (Normal_no c n cap A D s w B hr hB hn hcap hz hw).mono ?_
    rintro e w' ⟨rfl, hb⟩
    exact ⟨_, _, rfl, hb, .inl ⟨rfl, by rw [hl]; exact hw⟩⟩

open Classical in
/-- What Same answers. -/
theorem Same_all (c : Int) (n cap : Nat) (A : Option Addr) (D : List (List Int)) (s t : ByteArray) (w : World) (B : Nat) (hr : RowsAre w B A n D) (hB : B ≤ w.heap.size) (hn : n ≤ maxLen) (hcap : n ≤ cap) (hz : s.size ≤ maxLen) (hzt : t.size ≤ maxLen) :
    Calls Try.prog 8 #[.agg #[.int .i64 c, .slice A n cap], .string s, .string t] w fun e w' => ∃ b k, e = .returned (.tuple #[.bool b, .int .i64 k]) ∧ Below w.heap.size w w' ∧
      ((k = 2 ∧ b = false ∧ ¬ WordsB c D D.length [s, t]) ∨ (k = 0 ∧ WordsB c D D.length [s, t] ∧ b = decide (Dy.act c.toNat D s.data.toList = Dy.act c.toNat D t.data.toList))) := by
  have hl : D.length = n := hr.1
  by_cases hw : WordsB c D n [s, t]
  · obtain ⟨c', rfl, hD⟩ := hw.1.okD
    refine (Same_yes c' n cap A D s t w B hD hr hB hcap (hw.2 s (by simp)) (hw.2 t (by simp))).mono ?_
    rintro e w' ⟨rfl, hb⟩
    exact ⟨_, _, rfl, hb, .inr ⟨rfl, by rw [hl]; exact hw, by simp⟩⟩
  · refine (Same_no c n cap A D s t w B hr hB hn hcap hz hzt hw).mono ?_
    rintro e w' ⟨rfl, hb⟩
    exact ⟨_, _, rfl, hb, .inl ⟨rfl, rfl, by rw [hl]; exact hw⟩⟩

/-- Two of the list with one action are one. -/
theorem listed_inj {c : Nat} {D : List (List Int)} {W : List (List UInt8)} (hL : Dy.Listed c D W) {x y : List UInt8} (hx : x ∈ W) (hy : y ∈ W) (h : Dy.act c D x = Dy.act c D y) : x = y := by
  obtain ⟨i, hi⟩ := List.getElem?_of_mem hx
  obtain ⟨j, hj⟩ := List.getElem?_of_mem hy
  have hil := (List.getElem?_eq_some_iff.1 hi).1
  have e : (W.map (Dy.act c D))[i]? = (W.map (Dy.act c D))[j]? := by rw [List.getElem?_map, List.getElem?_map, hi, hj]; simpa using h
  have := (List.getElem?_inj (by simpa using hil) hL.acts).1 e
  subst this
  rw [hi] at hj
  exact Option.some.inj hj

/-- A normal form is the least of its action. -/
theorem listed_le {c : Nat} {D : List (List Int)} {W : List (List UInt8)} (hL : Dy.Listed c D W) {x y : List UInt8} (hx : x ∈ W) (hy : ∀ s ∈ y, s ∈ Dy.steps D.length) (h : Dy.act c D x = Dy.act c D y) : Dy.sle x y := by
  obtain ⟨z, hz, hz1, hz2⟩ := hL.least y hy
  rw [listed_inj hL hx hz (h.trans hz1.symm)]
  exact hz2

namespace Dy
/-- What a string makes of one state. -/
def walk (D : List (List Int)) (w : List UInt8) (x : Nat) : Nat := w.foldl (fun st s => stepN D s.toNat st) x
theorem on_map (D : List (List Int)) : ∀ (w : List UInt8) (l : List Nat), on D l w = l.map (walk D w)
  | [], l => (List.map_id' l).symm
  | s :: w, l => by
    have := on_map D w (l.map (stepN D s.toNat))
    unfold on at this ⊢
    rw [List.foldl_cons, this, List.map_map]
    rfl
theorem act_map (c : Nat) (D : List (List Int)) (w : List UInt8) : act c D w = (List.range (2 * c)).map (walk D w) := on_map D w (idle c)
theorem walk_app (D : List (List Int)) (u v : List UInt8) (x : Nat) : walk D (u ++ v) x = walk D v (walk D u x) := by simp [walk]
theorem act_eq_iff {c : Nat} {D : List (List Int)} {u v : List UInt8} : act c D u = act c D v ↔ ∀ x, x < 2 * c → walk D u x = walk D v x := by
  rw [act_map, act_map]
  constructor
  · intro h x hx
    have := congrArg (fun l => l[x]?) h
    simpa [hx] using this
  · intro h
    apply List.map_congr_left
    intro x hx
    exact h x (List.mem_range.1 hx)
theorem walk_lt {c : Nat} {D : List (List Int)} (hD : OkD c D) : ∀ (w : List UInt8) (x : Nat), (∀ s ∈ w, s ∈ steps D.length) → x < 2 * c → walk D w x < 2 * c
  | [], x, _, hx => hx
  | s :: w, x, hw, hx => by
    have := walk_lt hD w (stepN D s.toNat x) (fun t ht => hw t (List.mem_cons_of_mem _ ht)) (stepN_lt hD (hw s (List.mem_cons_self ..)) hx)
    simpa [walk] using this
theorem act_left {c : Nat} {D : List (List Int)} (hD : OkD c D) {u v : List UInt8} (p : List UInt8) (hp : ∀ s ∈ p, s ∈ steps D.length) (h : act c D u = act c D v) : act c D (p ++ u) = act c D (p ++ v) := by
  rw [act_eq_iff] at h ⊢
  intro x hx
  rw [walk_app, walk_app]
  exact h _ (walk_lt hD p x hp hx)
end Dy

/-- A factor of a normal form is one. -/
theorem listed_factor {c : Nat} {D : List (List Int)} {W : List (List UInt8)} (hD : Dy.OkD c D) (hL : Dy.Listed c D W) {p y q : List UInt8} (h : p ++ y ++ q ∈ W) : y ∈ W := by
  have hm := hL.made _ h
  have hy : ∀ s ∈ y, s ∈ Dy.steps D.length := fun s hs => hm s (by simp [hs])
  obtain ⟨z, hz, hz1, hz2⟩ := hL.least y hy
  rcases hz2 with hlt | rfl
  · exfalso
    have hzm := hL.made z hz
    have h1 : Dy.act c D (p ++ z ++ q) = Dy.act c D (p ++ y ++ q) := by
      exact Dy.act_congr (Dy.act_left hD p (fun s hs => hm s (by simp [hs])) hz1) q
    have h2 := listed_le hL h (y := p ++ z ++ q) (fun s hs => by
      simp only [List.mem_append] at hs
      rcases hs with (hs | hs) | hs
      · exact hm s (by simp [hs])
      · exact hzm s hs
      · exact hm s (by simp [hs])) h1.symm
    exact absurd (Dy.slt_of_lt_of_le (Dy.slt_ctx p q hlt) h2) (Dy.slt_irrefl _)
  · exact hz

theorem normIs_fix {c : Nat} {D : List (List Int)} {W : List (List UInt8)} (hD : Dy.OkD c D) (hW : Dy.list c D = some W) {s r : ByteArray} {k : Int} (hs : s.data.toList ∈ W) (hz : s.size ≤ 64) (h : NormIs c D s r k) : r = s ∧ k = 0 := by
  have hL := Dy.listed hD.2.2.1 hW
  have hw : WordsB c D D.length [s] := ⟨OkD.okI hD, fun x hx => by rw [List.mem_singleton.1 hx]; exact wordB_iff.2 ⟨hz, hL.made _ hs⟩⟩
  rcases h with h | h | ⟨rfl, _, W', h1, h2, h3⟩
  · exact absurd hw h.2
  · have := h.2.2
    rw [Int.toNat_natCast, hW] at this
    cases this
  · rw [Int.toNat_natCast] at h1 h3
    rw [hW] at h1
    cases h1
    refine ⟨?_, rfl⟩
    apply ByteArray.ext
    apply Array.toList_inj.1
    exact listed_inj hL h2 hs h3
theorem extract_mem {c : Nat} {D : List (List Int)} {W : List (List UInt8)} (hD : Dy.OkD c D) (hL : Dy.Listed c D W) {r : ByteArray} (hr : r.data.toList ∈ W) {i j : Nat} (hij : i ≤ j) (hj : j ≤ r.size) : (r.extract i j).data.toList ∈ W := by
  have e : r.data.toList = r.data.toList.take i ++ (r.extract i j).data.toList ++ r.data.toList.drop j := by
    rw [ByteArray.data_extract, Array.toList_extract, List.extract_eq_take_drop]
    have h1 : (r.data.toList.drop i).take (j - i) ++ r.data.toList.drop j = r.data.toList.drop i := by
      have := List.take_append_drop (j - i) (r.data.toList.drop i)
      rw [List.drop_drop, show i + (j - i) = j by omega] at this
      exact this
    rw [List.append_assoc, h1, List.take_append_drop]
  rw [e] at hr
  exact listed_factor hD hL hr

/-- Worlds behind the box of the argument. -/
def Past (w : World) (o : Array Value) (W : World) : Prop := Below (w.heap.size + 1) (w.alloc (.cells o 24)) W
theorem Past.start (w : World) (o : Array Value) : Past w o (w.alloc (.cells o 24)) := Below.refl _ _
theorem Past.size {w W : World} {o : Array Value} (h : Past w o W) : w.heap.size + 1 ≤ W.heap.size := by have := Below.size h; simpa using this
theorem Past.next {w W W' : World} {o : Array Value} (h : Past w o W) (k : Below W.heap.size W W') : Past w o W' := Below.trans h (k.mono h.size)
theorem Past.below {w W : World} {o : Array Value} (h : Past w o W) : Below w.heap.size w W := ((Below.refl w.heap.size w).alloc (Nat.le_refl _) _).trans (Below.mono h (Nat.le_succ _))
theorem Past.box {w W : World} {o : Array Value} (h : Past w o W) : Blk W w.heap.size 24 o := (Blk.new w 24 o).below h (Nat.lt_succ_self _)
theorem Past.cells {w W : World} {a b : Value} (h : Past w #[a, b] W) : W.cell? ⟨w.heap.size, 0, none⟩ = some a ∧ W.cell? ⟨w.heap.size, 1, none⟩ = some b := by
  have h0 := h.box.cell 0
  have h1 := h.box.cell 1
  exact ⟨by simpa using h0, by simpa using h1⟩
theorem Past.of {w W : World} {c : Int} {n cap : Nat} {A : Option Addr} (h : Past w #[.int .i64 c, .slice A n cap] W) {B : Nat} {D : List (List Int)} (hr : RowsAre w B A n D) (hB : B ≤ w.heap.size) (hn : n ≤ maxLen) (hl : ∀ d ∈ D, d.length ≤ maxLen) :
    Calls Try.prog 7 #[.agg #[.int .i64 c, .slice A n cap]] W fun e w' => ∃ A' n' cap', e = .returned (.agg #[.int .i64 c, .slice A' n' cap']) ∧ RowsAre w' w'.heap.size A' n' (ofD D) ∧ n' ≤ cap' ∧ n' ≤ 6 ∧ Below W.heap.size W w' :=
  of_any c n cap A D W B (hr.keep fun p hp => h.below.cell (by omega)) (Nat.le_trans hB h.below.size) hn hl

set_option maxHeartbeats 4000000 in
theorem law3 (c : Int) (n cap : Nat) (A : Option Addr) (D : List (List Int)) (u v : ByteArray) (w : World) (B : Nat) (hr : RowsAre w B A n D) (hB : B ≤ w.heap.size) (hn : n ≤ maxLen) (hl : ∀ d ∈ D, d.length ≤ maxLen) (hu : u.size ≤ maxLen) (hv : v.size ≤ maxLen) :
    Calls Try.prog 3 #[.agg #[.int .i64 c, .slice A n cap], .string u, .string v] w fun e w' => e = .returned (.bool true) ∧ Below w.heap.size w w' := by
  have hof := fun (W : World) (h : Past w #[.int .i64 c, .slice A n cap] W) => h.of hr hB hn hl
  have HOF := Lib.hid hof
  have haw := Lib.hid awake_any
  have p0 := Past.start w #[.int .i64 c, .slice A n cap]
  have C1 := Lib.hid (hof _ p0)
  have hmx : ∀ n1 : Nat, n1 ≤ 6 → n1 ≤ maxLen := fun n1 h => by unfold maxLen; omega
  clear hof hr hl
  go_enter Try.func3, Try.ntmps3
  go_wp2_with fail
  refine C1.out.mono ?_
  rintro e w1 ⟨A1, n1, cap1, rfl, hr1, hcap1, hn1, hb1⟩
  have p1 := p0.next hb1
  have C2 := Lib.hid (Normal_all c n1 cap1 A1 (ofD D) u w1 w1.heap.size hr1 (Nat.le_refl _) (hmx _ hn1) hcap1 hu)
  clear hr1 hb1 C1
  go_wp2_with fail
  refine C2.out.mono ?_
  rintro e w2 ⟨r, k1, rfl, hb2, hN1⟩
  have p2 := p1.next hb2
  have C3 := Lib.hid (HOF.out _ p2)
  have HN1 := Lib.hid hN1
  obtain ⟨d0, d1⟩ := p2.cells
  clear hb2 hN1 C2
  go_wp2_with fail
  refine C3.out.mono ?_
  rintro e w3 ⟨A3, n3, cap3, rfl, hr3, hcap3, hn3, hb3⟩
  have p3 := p2.next hb3
  have C4 := Lib.hid (Normal_all c n3 cap3 A3 (ofD D) v w3 w3.heap.size hr3 (Nat.le_refl _) (hmx _ hn3) hcap3 hv)
  clear hr3 hb3 C3 d0 d1
  go_wp2_with fail
  refine C4.out.mono ?_
  rintro e w4 ⟨t, k2, rfl, hb4, hN2⟩
  have p4 := p3.next hb4
  have C5 := Lib.hid (HOF.out _ p4)
  have HN2 := Lib.hid hN2
  obtain ⟨d0, d1⟩ := p4.cells
  clear hb4 hN2 C4
  go_wp2_with fail
  refine C5.out.mono ?_
  rintro e w5 ⟨A5, n5, cap5, rfl, hr5, hcap5, hn5, hb5⟩
  have p5 := p4.next hb5
  have C6 := Lib.hid (Same_all c n5 cap5 A5 (ofD D) u v w5 w5.heap.size hr5 (Nat.le_refl _) (hmx _ hn5) hcap5 hu hv)
  clear hr5 hb5 C5 d0 d1
  go_wp2_with fail
  refine C6.out.mono ?_
  rintro e w6 ⟨b6, k6, rfl, hb6, hS⟩
  have p6 := p5.next hb6
  have HS := Lib.hid hS
  clear hb6 hS C6
  have HAW := Lib.hid (awake_any w6)
  by_cases hk : k1 = 0 ∧ k2 = 0
  · obtain ⟨rfl, rfl⟩ := hk
    obtain ⟨hW1, W, hWl, hrW, hra⟩ : WordsB c (ofD D) (ofD D).length [u] ∧ ∃ W, Dy.list c.toNat (ofD D) = some W ∧ r.data.toList ∈ W ∧ Dy.act c.toNat (ofD D) r.data.toList = Dy.act c.toNat (ofD D) u.data.toList := by
      rcases HN1.out with h | h | h
      · exact absurd h.1 (by decide)
      · exact absurd h.1 (by decide)
      · exact h.2
    obtain ⟨hW2, W', hWl', htW, hta⟩ : WordsB c (ofD D) (ofD D).length [v] ∧ ∃ W, Dy.list c.toNat (ofD D) = some W ∧ t.data.toList ∈ W ∧ Dy.act c.toNat (ofD D) t.data.toList = Dy.act c.toNat (ofD D) v.data.toList := by
      rcases HN2.out with h | h | h
      · exact absurd h.1 (by decide)
      · exact absurd h.1 (by decide)
      · exact h.2
    rw [hWl] at hWl'
    cases hWl'
    obtain ⟨c', rfl, hE⟩ := hW1.1.okD
    simp only [Int.toNat_natCast] at hWl hra hta
    have hL := Dy.listed hE.2.2.1 hWl
    have hub := hW1.2 u (by simp)
    have hvb := hW2.2 v (by simp)
    obtain ⟨hu64, hum⟩ := wordB_iff.1 hub
    have hW12 : WordsB c' (ofD D) (ofD D).length [u, v] := ⟨hW1.1, fun x hx => by
      rcases List.mem_cons.1 hx with rfl | hx
      · exact hub
      · rw [List.mem_singleton.1 hx]; exact hvb⟩
    obtain ⟨rfl, hb6⟩ : k6 = 0 ∧ b6 = decide (Dy.act c' (ofD D) u.data.toList = Dy.act c' (ofD D) v.data.toList) := by
      rcases HS.out with h | ⟨h1, _, h2⟩
      · exact absurd hW12 h.2.2
      · exact ⟨h1, by simpa using h2⟩
    have hrsz : r.size ≤ u.size := Dy.slt_len (listed_le hL hrW hum hra)
    have hrm : MadeOf (ofD D).length r := hL.made _ hrW
    have hrb : WordB (ofD D).length r = true := wordB_iff.2 ⟨by omega, hrm⟩
    have hr64 : r.size ≤ 64 := by omega
    have hpos : ¬ ((u.size : Int) < (r.size : Int)) := by omega
    have hcmp : b6 = (r.toList == t.toList) := by
      rw [hb6, ByteArray.toList_eq, ByteArray.toList_eq]
      by_cases h : r.data.toList = t.data.toList
      · have e : Dy.act c' (ofD D) u.data.toList = Dy.act c' (ofD D) v.data.toList := by rw [← hra, ← hta, h]
        simp [h, e]
      · have e : ¬ Dy.act c' (ofD D) u.data.toList = Dy.act c' (ofD D) v.data.toList := fun e => h (listed_inj hL hrW htW (by rw [hra, hta, e]))
        rw [decide_eq_false e]
        exact (beq_eq_false_iff_ne.2 h).symm
    obtain ⟨d0, d1⟩ := p6.cells
    have C7 := Lib.hid (HOF.out _ p6)
    have hcmp2 := hcmp.symm
    have HL := Lib.hid hL
    have HE := Lib.hid hE
    have HWL := Lib.hid hWl
    have HRW := Lib.hid hrW
    have HRA := Lib.hid hra
    have HUB := Lib.hid hub
    have HRB := Lib.hid hrb
    clear HN1 HN2 HS hcmp hW1 hW2 hb6 hL hE hWl hrW hra htW hta hub hvb hum hW12 hrm hrb
    go_wp2_with fail
    refine C7.out.mono ?_
    rintro e w7 ⟨A7, n7, cap7, rfl, hr7, hcap7, hn7, hb7⟩
    have p7 := p6.next hb7
    have C8 := Lib.hid (Same_all c' n7 cap7 A7 (ofD D) u r w7 w7.heap.size hr7 (Nat.le_refl _) (hmx _ hn7) hcap7 hu (by unfold maxLen; omega))
    clear hr7 hb7 C7 d0 d1
    go_wp2_with fail
    refine C8.out.mono ?_
    rintro e w8 ⟨b8, k8, rfl, hb8, hS8⟩
    have p8 := p7.next hb8
    obtain ⟨rfl, rfl⟩ : k8 = 0 ∧ b8 = true := by
      rcases hS8 with h | ⟨h1, _, h2⟩
      · refine absurd ⟨OkD.okI HE.out, fun x hx => ?_⟩ h.2.2
        rcases List.mem_cons.1 hx with rfl | hx
        · exact HUB.out
        · rw [List.mem_singleton.1 hx]; exact HRB.out
      · refine ⟨h1, ?_⟩
        rw [h2, Int.toNat_natCast, HRA.out]
        simp
    clear hS8 hb8 C8 hcmp2
    go_wp2_with fail
    go_loopw [95] (fun i wr => ∃ k : Nat, i = .int .i64 k ∧ k ≤ r.size ∧ Past w #[.int .i64 c', .slice A n cap] wr) (fun i _ => r.size - (intOf i).toNat)
    case atStart => exact ⟨0, rfl, by omega, p8⟩
    case round =>
      obtain ⟨k, rfl, hk, hp⟩ := hrel
      by_cases hlt : k < r.size
      · go_wp2_with fail
        go_loopw [15] (fun i wr => ∃ j : Nat, i = .int .i64 j ∧ k ≤ j ∧ j ≤ r.size + 1 ∧ Past w #[.int .i64 c', .slice A n cap] wr) (fun i _ => r.size + 1 - (intOf i).toNat)
        case atStart => exact ⟨k, rfl, by omega, by omega, hp⟩
        case round =>
          obtain ⟨j, rfl, hkj, hj, hq⟩ := hrel
          by_cases hle : j ≤ r.size
          · have hmem := Lib.hid (extract_mem HE.out HL.out HRW.out hkj hle)
            have hz1 : (r.extract k j).size ≤ 64 := by rw [ByteArray.size_extract]; omega
            have hS : ∀ W, Past w #[.int .i64 c', .slice A n cap] W → W.cell? ⟨w.heap.size, 0, none⟩ = some (.int .i64 c') ∧ W.cell? ⟨w.heap.size, 1, none⟩ = some (.slice A n cap) := fun W h => h.cells
            have hqd : Past w #[.int .i64 c', .slice A n cap] wr.drew := Below.drew hq
            have h1 : (0 : Int) ≤ (k : Int) := by omega
            have h2 : (k : Int) ≤ (j : Int) := by omega
            have h3 : (j : Int) ≤ (r.size : Int) := by omega
            go_wp2_with fail
            go_region_held3 (fun w' => w'.cell? ⟨w.heap.size, 0, none⟩ = some (.int .i64 c') ∧ w'.cell? ⟨w.heap.size, 1, none⟩ = some (.slice A n cap)) (first
              | exact hS _ hq
              | exact hS _ hqd
              | exact hS _ q1
              | exact hS _ q2) (first
              | (go_at_call 7
                 refine (HOF.out _ hqd).mono ?_
                 rintro e w9 ⟨A9, n9, cap9, rfl, hr9, hcap9, hn9, hb9⟩
                 have q1 := hqd.next hb9)
              | (go_at_call 6
                 refine (Normal_all c' n9 cap9 A9 (ofD D) (r.extract k j) w9 w9.heap.size hr9 (Nat.le_refl _) (hmx _ hn9) hcap9 (by unfold maxLen; omega)).mono ?_
                 rintro e w10 ⟨r10, k10, rfl, hb10, hN10⟩
                 have q2 := q1.next hb10
                 obtain ⟨rfl, rfl⟩ := normIs_fix HE.out HWL.out hmem.out hz1 hN10))
            by_cases h6 : j ≤ k + 6
            · have h6i : IntKind.i64.wrap ((j : Int) - (k : Int)) ≤ 6 := by
                have : IntKind.i64.wrap ((j : Int) - (k : Int)) = (j : Int) - k := IntWalk.i64_in _ (by omega)
                omega
              go_wp2_with fail
              exact ⟨⟨j + 1, by go_num, by omega, by omega, by assumption⟩, by simp [intOf]; omega⟩
            · have h6i : ¬ IntKind.i64.wrap ((j : Int) - (k : Int)) ≤ 6 := by
                have : IntKind.i64.wrap ((j : Int) - (k : Int)) = (j : Int) - k := IntWalk.i64_in _ (by omega)
                omega
              go_wp2_with fail
              exact ⟨⟨j + 1, by go_num, by omega, by omega, by assumption⟩, by simp [intOf]; omega⟩
          · go_wp2_with fail
            exact ⟨⟨k + 1, by go_num, by omega, hq⟩, by simp [intOf]; omega⟩
      · have HAW2 := Lib.hid (awake_any wr)
        go_wp2_with fail
        refine HAW2.out.mono ?_
        rintro e w11 ⟨rfl, hb11⟩
        go_wp2_with fail
        go_ret
        exact ⟨rfl, (hp.next hb11).below⟩
  · have hk1 : k1 = 0 ∨ k1 = 2 ∨ k1 = 3 := by
      rcases HN1.out with h | h | h
      · exact .inr (.inl h.1)
      · exact .inr (.inr h.1)
      · exact .inl h.1
    have hk2 : k2 = 0 ∨ k2 = 2 ∨ k2 = 3 := by
      rcases HN2.out with h | h | h
      · exact .inr (.inl h.1)
      · exact .inr (.inr h.1)
      · exact .inl h.1
    clear HS
    rcases hk1 with rfl | rfl | rfl <;> rcases hk2 with rfl | rfl | rfl
    · exact absurd ⟨rfl, rfl⟩ hk
    all_goals
      clear HN1 HN2 hk
      go_wp2_with fail
      refine HAW.out.mono ?_
      rintro e w7 ⟨rfl, hb7⟩
      go_wp2_with fail
      go_ret
      exact ⟨rfl, (p6.next hb7).below⟩
end Go.Proofs.Ytlbpkhbjdojdgaa
