/-
  The walk of Cycle.
-/
import Derived.Test.YtlbpkhbjdojdgaaPow
import Derived.Test.YtlbpkhbjdojdgaaCycMap
import Derived.OwnWalk
namespace Go.Proofs.Ytlbpkhbjdojdgaa
open Go.RowKit
set_option maxRecDepth 100000

/-- The action of a word done n times. -/
def powA (c : Nat) (D : List (List Int)) (s : List UInt8) (n : Nat) : List Nat := (List.range (2 * c)).map (Dy.it (Dy.walk D s) n)
theorem powA_one (c : Nat) (D : List (List Int)) (s : List UInt8) : powA c D s 1 = Dy.act c D s := by rw [Dy.act_map]; rfl
theorem powA_next (c : Nat) (D : List (List Int)) (s : List UInt8) (n : Nat) : Dy.on D (powA c D s n) s = powA c D s (n + 1) := by
  rw [Dy.on_map, powA, powA, List.map_map]
  rfl
theorem powA_len (c : Nat) (D : List (List Int)) (s : List UInt8) (n : Nat) : (powA c D s n).length = 2 * c := by simp [powA]
theorem it_lt {c : Nat} {D : List (List Int)} (hD : Dy.OkD c D) {s : List UInt8} (hs : ∀ b ∈ s, b ∈ Dy.steps D.length) : ∀ n x, x < 2 * c → Dy.it (Dy.walk D s) n x < 2 * c
  | 0, _, h => h
  | n + 1, x, h => Dy.walk_lt hD s _ hs (it_lt hD hs n x h)
theorem powA_lt {c : Nat} {D : List (List Int)} (hD : Dy.OkD c D) {s : List UInt8} (hs : ∀ b ∈ s, b ∈ Dy.steps D.length) (n : Nat) : ∀ y ∈ powA c D s n, y < 2 * c := fun y hy => by
  obtain ⟨x, hx, rfl⟩ := List.mem_map.1 hy
  exact it_lt hD hs n x (List.mem_range.1 hx)
theorem powA_good {c : Nat} {D : List (List Int)} (hD : Dy.OkD c D) {s : List UInt8} (hs : ∀ b ∈ s, b ∈ Dy.steps D.length) (n : Nat) : Good (2 * c) (powA c D s n) :=
  ⟨powA_len c D s n, by have := hD.2.1; omega, fun x hx => by have := powA_lt hD hs n x hx; have := hD.2.1; omega⟩

/-- The first m powers. -/
def firstP (c : Nat) (D : List (List Int)) (s : List UInt8) (m : Nat) : List (List Nat) := (List.range m).map fun j => powA c D s (j + 1)
theorem firstP_get {c : Nat} {D : List (List Int)} {s : List UInt8} {m j : Nat} (h : j < m) : (firstP c D s m)[j]? = some (powA c D s (j + 1)) := by simp [firstP, h]
theorem firstP_next (c : Nat) (D : List (List Int)) (s : List UInt8) (m : Nat) : firstP c D s (m + 1) = firstP c D s m ++ [powA c D s (m + 1)] := by simp [firstP, List.range_succ]
theorem firstP_len (c : Nat) (D : List (List Int)) (s : List UInt8) (m : Nat) : (firstP c D s m).length = m := by simp [firstP]
/-- No more than 98 of them are different. -/
theorem firstP_short {c : Nat} {D : List (List Int)} (hD : Dy.OkD c D) {s : List UInt8} (hs : ∀ b ∈ s, b ∈ Dy.steps D.length) {m : Nat} (h : (firstP c D s m).Nodup) : m ≤ 98 := by
  obtain ⟨i, p, hi, hp, hle, hall⟩ := Dy.powers hD hs
  rcases Nat.lt_or_ge 98 m with hm | hm
  · exfalso
    have e1 := firstP_get (c := c) (D := D) (s := s) (m := m) (j := i - 1) (by omega)
    have e2 := firstP_get (c := c) (D := D) (s := s) (m := m) (j := i + p - 1) (by omega)
    rw [show i - 1 + 1 = i by omega] at e1
    rw [show i + p - 1 + 1 = i + p by omega] at e2
    have e3 : powA c D s (i + p) = powA c D s i := List.map_congr_left fun x hx => hall x (List.mem_range.1 hx)
    rw [e3, ← e1] at e2
    have := (List.getElem?_inj (by rw [firstP_len]; omega) h).1 e2.symm
    omega
  · exact hm

/-- What Cycle answers. -/
def CyclePost (w : World) (c : Nat) (D : List (List Int)) (s : List UInt8) (e : Ending) (w' : World) : Prop :=
  ∃ i p : Nat, e = .returned (.tuple #[.int .i64 i, .int .i64 p, .int .i64 0]) ∧ 0 < i ∧ 0 < p ∧ i + p ≤ 99 ∧ powA c D s (i + p) = powA c D s i ∧ (firstP c D s (i + p - 1)).Nodup ∧ Below w.heap.size w w'

theorem Cycle_no (c : Int) (n cap : Nat) (A : Option Addr) (D : List (List Int)) (s : ByteArray) (w : World) (B : Nat) (hr : RowsAre w B A n D) (hB : B ≤ w.heap.size) (hn : n ≤ maxLen) (hcap : n ≤ cap) (hz : s.size ≤ maxLen) (hno : ¬ WordsB c D n [s]) :
    Calls Try.prog 10 #[.agg #[.int .i64 c, .slice A n cap], .string s] w fun e w' => e = .returned (.tuple #[.int .i64 0, .int .i64 0, .int .i64 2]) ∧ Below w.heap.size w w' := by
  have C := Lib.hid (word_one c n cap A D s w B hr hB hn hcap hz)
  have hw0 : Below w.heap.size w ((w.alloc (.cells #[.int .i64 c, .slice A n cap] 28)).alloc (.cells #[.string s] 9)) := ((Below.refl _ _).alloc (Nat.le_refl _) _).alloc (by simp) _
  have HW := Lib.hid hw0
  have HN := Lib.hid hno
  clear hw0 hr hno
  go_enter Try.func10, Try.ntmps10
  go_wp2_with fail
  refine C.out.mono ?_
  rintro e w1 ⟨r, rfl, hr1, hb1⟩
  have hrf : r = false := by cases r with | false => rfl | true => exact absurd (hr1.1 rfl) HN.out
  subst hrf
  have hbe : Below w.heap.size w w1 := HW.out.trans (hb1.mono (by simp; omega))
  clear hr1 hb1 C
  go_wp2_with fail
  go_ret3
  exact ⟨rfl, hbe⟩

/-- What the loop of Cycle keeps, m powers being seen. -/
def CycAt (w : World) (c : Nat) (D : List (List Int)) (n cap : Nat) (A : Option Addr) (s : List UInt8) (b g m : Nat) (wr : World) : Prop :=
  CycMap wr b (2 * c) (firstP c D s m) ∧ Blk wr g 53 (actA (powA c D s (m + 1))) ∧ Blk wr w.heap.size 28 #[.int .i64 c, .slice A n cap] ∧ Below w.heap.size w wr ∧ (firstP c D s m).Nodup

set_option maxHeartbeats 4000000 in
theorem Cycle_yes (c n cap : Nat) (A : Option Addr) (D : List (List Int)) (s : ByteArray) (w : World) (B : Nat) (hD : Dy.OkD c D) (hr : RowsAre w B A n D) (hB : B ≤ w.heap.size) (hcap : n ≤ cap) (hs : WordB n s = true) :
    Calls Try.prog 10 #[.agg #[.int .i64 c, .slice A n cap], .string s] w (CyclePost w c D s.data.toList) := by
  have hDn := Lib.hid hr.1
  obtain ⟨hs64, hmade⟩ := wordB_iff.1 hs
  have hn4 : n ≤ 4 := by have := hD.2.2.1; have := hDn.out; omega
  have C := Lib.hid (word_one c n cap A D s w B hr hB (by unfold maxLen; omega) hcap (by unfold maxLen; omega))
  have hw0 : Below w.heap.size w ((w.alloc (.cells #[.int .i64 c, .slice A n cap] 28)).alloc (.cells #[.string s] 9)) := ((Below.refl _ _).alloc (Nat.le_refl _) _).alloc (by simp) _
  have HW := Lib.hid hw0
  have HR := Lib.hid hr
  have HM := Lib.hid hmade
  have HS := Lib.hid hs
  have HD := Lib.hid hD
  have hc8 := hD.2.1
  have hmk := @run_makeMap Try.prog
  clear hw0 hr hmade hs hD
  go_enter Try.func10, Try.ntmps10
  go_wp2_with fail
  refine C.out.mono ?_
  rintro e w1 ⟨r, rfl, hr1, hb1⟩
  obtain rfl : r = true := hr1.2 ⟨OkD.okI HD.out, fun x hx => by rw [List.mem_singleton.1 hx]; exact HS.out⟩
  have b1 : Blk w1 w.heap.size 28 #[.int .i64 c, .slice A n cap] := ((Blk.new w 28 #[.int .i64 c, .slice A n cap]).alloc _).below hb1 (by simp; omega)
  have hbe : Below w.heap.size w w1 := HW.out.trans (hb1.mono (by simp; omega))
  clear hr1 hb1 C
  have hd0 := b1.cell 0
  simp at hd0
  have hd1 := b1.cell 1
  simp at hd1
  go_upto_region 4 with fail
  obtain ⟨wm, hwm⟩ : ∃ wm : World, wm = w1.alloc (.map #[] 0) := ⟨_, rfl⟩
  have hmap : CycMap wm w1.heap.size (2 * c) [] := by subst hwm; exact CycMap.made _ _
  have hbm : Blk wm w.heap.size 28 #[.int .i64 c, .slice A n cap] := by subst hwm; exact b1.alloc _
  have hbe2 : Below w.heap.size w wm := by subst hwm; exact hbe.alloc hbe.size _
  rw [← hwm]
  obtain ⟨b, hb⟩ : ∃ b, b = w1.heap.size := ⟨_, rfl⟩
  rw [← hb] at hmap ⊢
  have hbB : w.heap.size ≤ b := by rw [hb]; exact hbe.size
  clear hmk hwm b1 hbe hd0 hd1 hb
  have hd0 := hbm.cell 0
  simp at hd0
  have hd1 := hbm.cell 1
  simp at hd1
  have hrw : RowsAre wm B A n D := HR.out.keep fun p hp => hbe2.cell (by omega)
  have hBw : B ≤ wm.heap.size := Nat.le_trans hB hbe2.size
  have hzw := hbe2.size
  have hD := HD.out
  have hbml := hbm.lt
  have hL : (Dy.on D (Dy.idle c) s.data.toList).length ≤ 16 := by rw [on_length, idle_len]; omega
  have hones := actL_one (Dy.on D (Dy.idle c) s.data.toList)
  have hinfo := actL_info _ hL
  have HLN := Lib.hid (show (actL (Dy.on D (Dy.idle c) s.data.toList)).length = (actA []).size from (actL_length _ hL).trans (actA_size [] (by simp)).symm)
  have e0 : ∀ o, (wm.alloc o).cell? ⟨w.heap.size, 0, none⟩ = some (.int .i64 c) := fun o => (World.cell?_alloc_lt wm o _ hbml).trans hd0
  have e1 : ∀ o, (wm.alloc o).cell? ⟨w.heap.size, 1, none⟩ = some (.slice A n cap) := fun o => (World.cell?_alloc_lt wm o _ hbml).trans hd1
  go_cut [8] (fun p wc => ∃ g, p = .pointer (some ⟨g, 0, none⟩) ∧ Blk wc g 53 (actA (powA c D s.data.toList 1)) ∧ wm.heap.size ≤ g ∧ Below wm.heap.size wm wc)
  case first =>
    go_region_held3 (fun w' => w'.cell? ⟨w.heap.size, 0, none⟩ = some (.int .i64 c) ∧ w'.cell? ⟨w.heap.size, 1, none⟩ = some (.slice A n cap)) (first
      | exact ⟨hd0, hd1⟩
      | exact ⟨e0 _, e1 _⟩
      | exact ⟨k0, k1⟩
      | exact ⟨f0 _, f1 _⟩
      | exact ⟨j0, j1⟩
      | exact ⟨i0 _, i1 _⟩
      | exact ⟨far_set j0 _ _ (by show w.heap.size ≠ _; omega), far_set j1 _ _ (by show w.heap.size ≠ _; omega)⟩
      | exact ⟨far_set (i0 _) _ _ (by show w.heap.size ≠ _; omega), far_set (i1 _) _ _ (by show w.heap.size ≠ _; omega)⟩) (first
      | (go_at_call 21
         refine (idle_any c A n cap _ hc8).mono ?_
         rintro e w2 ⟨rfl, hb2⟩
         have z2 : wm.heap.size ≤ w2.heap.size := Nat.le_trans (by (try simp) <;> omega) hb2.size
         have k0 : w2.cell? ⟨w.heap.size, 0, none⟩ = some (.int .i64 c) := (hb2.cell (p := ⟨w.heap.size, 0, none⟩) (by (try simp) <;> omega)).trans (by first | exact hd0 | exact e0 _)
         have k1 : w2.cell? ⟨w.heap.size, 1, none⟩ = some (.slice A n cap) := (hb2.cell (p := ⟨w.heap.size, 1, none⟩) (by (try simp) <;> omega)).trans (by first | exact hd1 | exact e1 _)
         have f0 : ∀ o, (w2.alloc o).cell? ⟨w.heap.size, 0, none⟩ = some (.int .i64 c) := fun o => (World.cell?_alloc_lt w2 o _ (Nat.lt_of_lt_of_le hbml z2)).trans k0
         have f1 : ∀ o, (w2.alloc o).cell? ⟨w.heap.size, 1, none⟩ = some (.slice A n cap) := fun o => (World.cell?_alloc_lt w2 o _ (Nat.lt_of_lt_of_le hbml z2)).trans k1
         have hbw2 : Below wm.heap.size wm w2 := by
           first
             | exact ⟨hb2.os, hb2.tape, hb2.output, hb2.size, hb2.block⟩
             | exact ((Below.refl wm.heap.size wm).alloc (Nat.le_refl _) _).trans (⟨hb2.os, hb2.tape, hb2.output, hb2.size, fun i hi => hb2.block i (by (try simp) <;> omega)⟩)
         first | (have bz : Blk w2 wm.heap.size 53 (actA []) := (hb2.block wm.heap.size (by simp)).trans (heap_alloc_new wm _)) | skip)
      | (go_at_call 20
         refine (on_any c n cap A D (Dy.idle c) s _ B hD ?_ ?_ (HM.out) (idle_len c) (idle_lt c) hs64).mono ?_
         · first | exact hrw.below (hbw2.mono hBw) | exact (hrw.below (hbw2.mono hBw)).keep (fun p hp => World.cell?_alloc_lt w2 _ p (by omega))
         · first | (show B ≤ w2.heap.size; omega) | (have := World.size_alloc w2; (try simp) <;> omega)
         rintro e w3 ⟨rfl, hb3⟩
         have z3 : w2.heap.size ≤ w3.heap.size := Nat.le_trans (by (try simp) <;> omega) hb3.size
         have j0 : w3.cell? ⟨w.heap.size, 0, none⟩ = some (.int .i64 c) := (hb3.cell (p := ⟨w.heap.size, 0, none⟩) (by (try simp) <;> omega)).trans (by first | exact k0 | exact f0 _)
         have j1 : w3.cell? ⟨w.heap.size, 1, none⟩ = some (.slice A n cap) := (hb3.cell (p := ⟨w.heap.size, 1, none⟩) (by (try simp) <;> omega)).trans (by first | exact k1 | exact f1 _)
         have i0 : ∀ o, (w3.alloc o).cell? ⟨w.heap.size, 0, none⟩ = some (.int .i64 c) := fun o => (World.cell?_alloc_lt w3 o _ (by show w.heap.size < w3.heap.size; omega)).trans j0
         have i1 : ∀ o, (w3.alloc o).cell? ⟨w.heap.size, 1, none⟩ = some (.slice A n cap) := fun o => (World.cell?_alloc_lt w3 o _ (by show w.heap.size < w3.heap.size; omega)).trans j1
         have hbw3 : Below w2.heap.size w2 w3 := by
           first
             | exact ⟨hb3.os, hb3.tape, hb3.output, hb3.size, hb3.block⟩
             | exact ((Below.refl w2.heap.size w2).alloc (Nat.le_refl _) _).trans (⟨hb3.os, hb3.tape, hb3.output, hb3.size, fun i hi => hb3.block i (by (try simp) <;> omega)⟩)
         first
           | (have th : w3.there wm.heap.size 0 (actL (Dy.on D (Dy.idle c) s.data.toList)).length := (Blk.below bz hb3 bz.lt).there HLN.out)
           | (have bz : Blk w3 w2.heap.size 53 (actA []) := (hb3.block w2.heap.size (by simp)).trans (heap_alloc_new w2 _)
              have th : w3.there w2.heap.size 0 (actL (Dy.on D (Dy.idle c) s.data.toList)).length := bz.there HLN.out)
           | (have th : (w3.alloc (.cells #[.int .i64 0, .int .i64 0, .int .i64 0, .int .i64 0, .int .i64 0, .int .i64 0, .int .i64 0, .int .i64 0, .int .i64 0, .int .i64 0, .int .i64 0, .int .i64 0, .int .i64 0, .int .i64 0, .int .i64 0, .int .i64 0] 53)).there w3.heap.size 0 (actL (Dy.on D (Dy.idle c) s.data.toList)).length := (Blk.new w3 53 (actA [])).there HLN.out)))
    · go_wp2_with fail
      go_meet
      have hbz : Below wm.heap.size wm w3 := (hbw2.mono (Nat.le_refl _)).trans (hbw3.mono z2)
      refine ⟨w3.heap.size, rfl, ?_, Nat.le_trans z2 z3, below_cells (Nat.le_trans z2 z3) _ 0 _ (hbz.alloc (Nat.le_trans z2 z3) _)⟩
      rw [powA_one]
      exact blk_all (Blk.new w3 53 (actA [])) HLN.out
    · go_wp2_with fail
      go_meet
      have hbz : Below wm.heap.size wm w3 := (hbw2.mono (Nat.le_refl _)).trans (hbw3.mono z2)
      refine ⟨_, rfl, ?_, z2, below_cells z2 _ 0 _ hbz⟩
      rw [powA_one]
      exact blk_all bz HLN.out
    · go_wp2_with fail
      go_meet
      have hbz : Below wm.heap.size wm w3 := (hbw2.mono (Nat.le_refl _)).trans (hbw3.mono z2)
      refine ⟨_, rfl, ?_, Nat.le_refl _, below_cells (Nat.le_refl _) _ 0 _ hbz⟩
      rw [powA_one]
      exact blk_all (Blk.below bz hb3 bz.lt) HLN.out
  case rest =>
    obtain ⟨g, rfl, hg, hgm, hbc⟩ := hcut
    have hI : CycAt w c D n cap A s.data.toList b g 0 wc := by
      refine ⟨(hmap.block (hbc.block b hmap.lt)), hg, (Old.below hbc).blk hbm, hbe2.trans (hbc.mono hzw), ?_⟩
      exact List.nodup_nil
    have HI := Lib.hid hI
    have HG := Lib.hid (Nat.le_trans hzw hgm : w.heap.size ≤ g)
    clear hI hg hgm hbc hmap hbm hbe2 hd0 hd1 e0 e1 hrw hBw hzw hones hinfo HLN hL hbml
    have hmd : ∀ x ∈ s.data.toList, x ∈ Dy.steps D.length := by rw [hDn.out]; exact HM.out
    have HMD := Lib.hid hmd
    clear hmd
    go_upto_region 6 with fail
    go_loopw [9] (fun i wr => ∃ m : Nat, i = .int .i64 ((m + 1 : Nat) : Int) ∧ CycAt w c D n cap A s.data.toList b g m wr) (fun i _ => 200 - (intOf i).toNat)
    case atStart => exact ⟨0, rfl, HI.out⟩
    case round =>
      obtain ⟨m, rfl, hM, hG, hbx, hbe, hnd⟩ := hrel
      have hm98 := firstP_short HD.out HMD.out hnd
      have hgood := powA_good HD.out HMD.out (m + 1)
      have hla : (powA c D s.data.toList (m + 1)).length ≤ 16 := by rw [powA_len]; omega
      obtain ⟨a0, a1, a2, a3, a4, a5, a6, a7, a8, a9, a10, a11, a12, a13, a14, a15, hA16⟩ := list16 (actL_length _ hla)
      have c0 : wr.cell? ⟨g, 0, none⟩ = some a0 := by rw [hG.cell]; simp [actA, hA16]
      have c1 : wr.cell? ⟨g, 1, none⟩ = some a1 := by rw [hG.cell]; simp [actA, hA16]
      have c2 : wr.cell? ⟨g, 2, none⟩ = some a2 := by rw [hG.cell]; simp [actA, hA16]
      have c3 : wr.cell? ⟨g, 3, none⟩ = some a3 := by rw [hG.cell]; simp [actA, hA16]
      have c4 : wr.cell? ⟨g, 4, none⟩ = some a4 := by rw [hG.cell]; simp [actA, hA16]
      have c5 : wr.cell? ⟨g, 5, none⟩ = some a5 := by rw [hG.cell]; simp [actA, hA16]
      have c6 : wr.cell? ⟨g, 6, none⟩ = some a6 := by rw [hG.cell]; simp [actA, hA16]
      have c7 : wr.cell? ⟨g, 7, none⟩ = some a7 := by rw [hG.cell]; simp [actA, hA16]
      have c8 : wr.cell? ⟨g, 8, none⟩ = some a8 := by rw [hG.cell]; simp [actA, hA16]
      have c9 : wr.cell? ⟨g, 9, none⟩ = some a9 := by rw [hG.cell]; simp [actA, hA16]
      have c10 : wr.cell? ⟨g, 10, none⟩ = some a10 := by rw [hG.cell]; simp [actA, hA16]
      have c11 : wr.cell? ⟨g, 11, none⟩ = some a11 := by rw [hG.cell]; simp [actA, hA16]
      have c12 : wr.cell? ⟨g, 12, none⟩ = some a12 := by rw [hG.cell]; simp [actA, hA16]
      have c13 : wr.cell? ⟨g, 13, none⟩ = some a13 := by rw [hG.cell]; simp [actA, hA16]
      have c14 : wr.cell? ⟨g, 14, none⟩ = some a14 := by rw [hG.cell]; simp [actA, hA16]
      have c15 : wr.cell? ⟨g, 15, none⟩ = some a15 := by rw [hG.cell]; simp [actA, hA16]
      have hA : actA (powA c D s.data.toList (m + 1)) = #[a0, a1, a2, a3, a4, a5, a6, a7, a8, a9, a10, a11, a12, a13, a14, a15] := by simp [actA, hA16]
      have HND := Lib.hid hnd
      have HA := Lib.hid hA
      by_cases hmem : powA c D s.data.toList (m + 1) ∈ firstP c D s.data.toList m
      · obtain ⟨q, hq⟩ := List.getElem?_of_mem hmem
        have hqm : q < m := by have := (List.getElem?_eq_some_iff.1 hq).1; rwa [firstP_len] at this
        have hlk := hM.look_yes hq
        rw [hA] at hlk
        have heq : powA c D s.data.toList (q + 1) = powA c D s.data.toList (m + 1) := by
          have h1 := firstP_get (c := c) (D := D) (s := s.data.toList) hqm
          rw [hq] at h1
          exact (Option.some.inj h1).symm
        have HEQ := Lib.hid heq
        clear heq hq hmem hM hnd hA hA16
        go_wp2_with fail
        go_ret3
        refine ⟨q + 1, m - q, ?_, by omega, by omega, by omega, ?_, ?_, ?_⟩
        · show Ending.returned (.tuple #[.int .i64 ((q : Int) + 1), .int .i64 ((m : Int) + 1 - ((q : Int) + 1)), .int .i64 0]) = _
          rw [show ((m : Int) + 1 - ((q : Int) + 1)) = ((m - q : Nat) : Int) by omega, show ((q : Int) + 1) = ((q + 1 : Nat) : Int) by omega]
        · rw [show q + 1 + (m - q) = m + 1 by omega]
          exact HEQ.out.symm
        · rw [show q + 1 + (m - q) - 1 = m by omega]
          exact HND.out
        · exact hbe
      · have hlk := hM.look_no hgood hmem
        rw [hA] at hlk
        have HMEM := Lib.hid hmem
        clear hnd hmem hA hA16
        obtain ⟨w5, hupd, hm5, hturn⟩ := hM.store hgood HMEM.out (by rw [firstP_len]; omega)
        rw [firstP_len, HA.out, show ((m + 1 : Nat) : Int) = (m : Int) + 1 by omega] at hupd
        rw [← firstP_next] at hm5
        have hG5 : Blk w5 g 53 (actA (powA c D s.data.toList (m + 1))) := (OldBut.turned hturn).blk hG (Ne.symm (hM.notcells hG))
        have hbx5 : Blk w5 w.heap.size 28 #[.int .i64 c, .slice A n cap] := (OldBut.turned hturn).blk hbx (Ne.symm (hM.notcells hbx))
        have hbe5 : Below w.heap.size w w5 := below_turned hbe hturn hbB hbe.size
        have d0 : w5.cell? ⟨g, 0, none⟩ = some a0 := by rw [hG5.cell, HA.out]; rfl
        have d1 : w5.cell? ⟨g, 1, none⟩ = some a1 := by rw [hG5.cell, HA.out]; rfl
        have d2 : w5.cell? ⟨g, 2, none⟩ = some a2 := by rw [hG5.cell, HA.out]; rfl
        have d3 : w5.cell? ⟨g, 3, none⟩ = some a3 := by rw [hG5.cell, HA.out]; rfl
        have d4 : w5.cell? ⟨g, 4, none⟩ = some a4 := by rw [hG5.cell, HA.out]; rfl
        have d5 : w5.cell? ⟨g, 5, none⟩ = some a5 := by rw [hG5.cell, HA.out]; rfl
        have d6 : w5.cell? ⟨g, 6, none⟩ = some a6 := by rw [hG5.cell, HA.out]; rfl
        have d7 : w5.cell? ⟨g, 7, none⟩ = some a7 := by rw [hG5.cell, HA.out]; rfl
        have d8 : w5.cell? ⟨g, 8, none⟩ = some a8 := by rw [hG5.cell, HA.out]; rfl
        have d9 : w5.cell? ⟨g, 9, none⟩ = some a9 := by rw [hG5.cell, HA.out]; rfl
        have d10 : w5.cell? ⟨g, 10, none⟩ = some a10 := by rw [hG5.cell, HA.out]; rfl
        have d11 : w5.cell? ⟨g, 11, none⟩ = some a11 := by rw [hG5.cell, HA.out]; rfl
        have d12 : w5.cell? ⟨g, 12, none⟩ = some a12 := by rw [hG5.cell, HA.out]; rfl
        have d13 : w5.cell? ⟨g, 13, none⟩ = some a13 := by rw [hG5.cell, HA.out]; rfl
        have d14 : w5.cell? ⟨g, 14, none⟩ = some a14 := by rw [hG5.cell, HA.out]; rfl
        have d15 : w5.cell? ⟨g, 15, none⟩ = some a15 := by rw [hG5.cell, HA.out]; rfl
        have hd0 := hbx5.cell 0
        simp at hd0
        have hd1 := hbx5.cell 1
        simp at hd1
        have hrw5 : RowsAre w5 B A n D := HR.out.keep fun p hp => hbe5.cell (by omega)
        have hgm : w.heap.size ≤ g := HG.out
        have C6 := Lib.hid (on_any c n cap A D (powA c D s.data.toList (m + 1)) s w5 B HD.out hrw5 (Nat.le_trans hB hbe5.size) HM.out (powA_len c D s.data.toList (m + 1)) (powA_lt HD.out HMD.out (m + 1)) hs64)
        rw [powA_next, HA.out] at C6
        have HM5 := Lib.hid hm5
        have HT := Lib.hid hturn
        clear hrw5 hm5 hturn
        go_upto_region 11 with fail
        clear hupd hlk c0 c1 c2 c3 c4 c5 c6 c7 c8 c9 c10 c11 c12 c13 c14 c15
        have hlb : (powA c D s.data.toList (m + 1 + 1)).length ≤ 16 := by rw [powA_len]; omega
        have hone := actL_one (powA c D s.data.toList (m + 1 + 1))
        have hinf := actL_info _ hlb
        have hlen := actL_length _ hlb
        go_wp2_with (go_at_call 20
                     refine C6.out.mono ?_
                     rintro e w6 ⟨rfl, hb6⟩
                     have hG6 := hG5.below hb6 hG5.lt
                     have hst := run_storeCells_from (P := Try.prog) g 53 (actA (powA c D s.data.toList (m + 1 + 1))).toList 0 (actA (powA c D s.data.toList (m + 1))) w6 hG6 (by simp [actA_size _ hla, actA_size _ hlb]) (fun v hv => hone v (by simpa [actA] using hv)))
        clear hst
        have hbe6 : Below w.heap.size w w6 := hbe5.trans (hb6.mono hbe5.size)
        have hne : b ≠ g := hM.notcells hG
        have hbx6 : Blk w6 w.heap.size 28 #[.int .i64 c, .slice A n cap] := hbx5.below hb6 hbx5.lt
        have hne2 : w.heap.size ≠ g := hbx6.ne_ hG6 (by decide)
        refine ⟨⟨m + 1, by go_num, ?_, ?_, ?_, below_setRow hbe6 HG.out _, ?_⟩, by simp [intOf]; omega⟩
        · exact (HM5.out.below hb6 HM5.out.lt).block (setRow_other _ _ _ _ hne)
        · exact setRow_heap _ _ _ _ _ _ hG6
        · exact (setRow_other _ _ _ _ hne2).trans hbx6
        · rw [firstP_next]
          refine List.nodup_append.2 ⟨HND.out, by simp, ?_⟩
          intro x hx y hy
          rw [List.mem_singleton.1 hy]
          rintro rfl
          exact HMEM.out hx
end Go.Proofs.Ytlbpkhbjdojdgaa
