/-
  The walks of Act and Same.
-/
import Derived.Test.YtlbpkhbjdojdgaaWord
import Derived.Test.YtlbpkhbjdojdgaaOn
namespace Go.Proofs.Ytlbpkhbjdojdgaa
open Go.RowKit

theorem OkI.okD {c : Int} {D : List (List Int)} (h : OkI c D) : ∃ k : Nat, c = k ∧ Dy.OkD k D := by
  obtain ⟨h1, h2, h3, h4⟩ := h
  refine ⟨c.toNat, by omega, by omega, by omega, h3, fun d hd => ?_⟩
  obtain ⟨a, b⟩ := h4 d hd
  exact ⟨by omega, fun x hx => by have := b x hx; omega⟩

theorem idle_len (c : Nat) : (Dy.idle c).length = 2 * c := by simp [Dy.idle]
theorem idle_lt (c : Nat) : ∀ x ∈ Dy.idle c, x < 2 * c := fun x hx => by simpa [Dy.idle] using hx

/-- A word's bytes are steps. -/
theorem wordB_iff {n : Nat} {s : ByteArray} : WordB n s = true ↔ s.size ≤ 64 ∧ MadeOf n s := by simp [WordB, madeB]

theorem store_act {w : World} {g : Nat} {l : List Nat} (hb : Blk w g 53 (actA [])) (hl : l.length ≤ 16) :
    (storeCells ⟨g, 0, none⟩ (actA l).toList 0).run Try.prog w = .ok () (w.setRow g (actA l)) := by
  have := run_storeCells_from (P := Try.prog) g 53 (actA l).toList 0 (actA []) w hb (by simp [actA_size l hl, actA_size []]) (fun v hv => (Array.all_eq_true_iff_forall_mem.1 (actA_one l)) v (by simpa using hv))
  simpa using this
theorem store_new (w : World) {l : List Nat} (hl : l.length ≤ 16) :
    (storeCells ⟨w.heap.size, 0, none⟩ (actA l).toList 0).run Try.prog (w.alloc (.cells #[.int .i64 0, .int .i64 0, .int .i64 0, .int .i64 0, .int .i64 0, .int .i64 0, .int .i64 0, .int .i64 0, .int .i64 0, .int .i64 0, .int .i64 0, .int .i64 0, .int .i64 0, .int .i64 0, .int .i64 0, .int .i64 0] 53)) =
      .ok () ((w.alloc (.cells #[.int .i64 0, .int .i64 0, .int .i64 0, .int .i64 0, .int .i64 0, .int .i64 0, .int .i64 0, .int .i64 0, .int .i64 0, .int .i64 0, .int .i64 0, .int .i64 0, .int .i64 0, .int .i64 0, .int .i64 0, .int .i64 0] 53)).setRow w.heap.size (actA l)) :=
  store_act (w := w.alloc (.cells (actA []) 53)) (Blk.new _ _ _) hl

theorem actL_one (l : List Nat) : ∀ v ∈ actL l, v.oneCell' = true := fun v hv => (Array.all_eq_true_iff_forall_mem.1 (actA_one l)) v (by simpa [actA] using hv)
theorem actL_info (l : List Nat) (hl : l.length ≤ 16) : (Try.prog.info? 53).map (·.size) = some (actL l).length := by rw [actL_length l hl]; exact siz53
theorem Blk.there {w : World} {g : Nat} {t : TypeId} {cs : Array Value} (h : Blk w g t cs) {n : Nat} (hn : n = cs.size) : w.there g 0 n := fun j hj => by
  rw [Nat.zero_add]
  exact ⟨by rw [h.cell]; simp; omega, h.frozen j⟩
theorem far_set {w : World} {x : Addr} {v : Value} (h : w.cell? x = some v) (g : Nat) (vs : List Value) (hg : x.block ≠ g) : (w.setCells g 0 vs).cell? x = some v :=
  (World.cell?_setCells_out g vs 0 w x (fun e => absurd e hg)).trans h

/-- What stands behind 'a := o.on(o.idle(), w)': slot 6 points to a block of the call's own that holds the action. -/
def ActCut (w : World) (c : Nat) (l : List Nat) (p : Value) (wc : World) : Prop :=
  ∃ g : Nat, p = .pointer (some ⟨g, 0, none⟩) ∧ wc.cell? ⟨w.heap.size, 0, none⟩ = some (.int .i64 c) ∧ (∀ j v, (actL l)[j]? = some v → wc.cell? ⟨g, 0 + j, none⟩ = some v) ∧ Below w.heap.size w wc ∧ g < wc.heap.size

theorem size_cells (b : Nat) : ∀ (vs : List Value) (o : Nat) (w : World), (w.setCells b o vs).heap.size = w.heap.size
  | [], _, _ => rfl
  | v :: vs, o, w => (size_cells b vs (o + 1) _).trans (by simp [World.setCell])
theorem below_cells {B b : Nat} {a : World} (hb : B ≤ b) : ∀ (vs : List Value) (o : Nat) (w : World), Below B a w → Below B a (w.setCells b o vs)
  | [], _, _, h => h
  | _ :: vs, o, _, h => below_cells hb vs (o + 1) _ (h.setCell hb _)

theorem actCut_set {w w3 : World} {c g : Nat} {l : List Nat} (j0 : w3.cell? ⟨w.heap.size, 0, none⟩ = some (.int .i64 c)) (th : w3.there g 0 (actL l).length) (hb : Below w.heap.size w w3) (hg : w.heap.size < g) (hg3 : g < w3.heap.size) :
    ActCut w c l (.pointer (some ⟨g, 0, none⟩)) (w3.setCells g 0 (actL l)) :=
  ⟨g, rfl, far_set j0 _ _ (by show w.heap.size ≠ g; omega), World.rangeAt_setCells_same w3 g 0 (actL l) th, below_cells (by omega) _ 0 w3 hb, by rw [size_cells]; exact hg3⟩

theorem arr53 : Try.prog.arrayLen 53 = 16 := by kernel_rfl
theorem und53' : Try.prog.underlying 53 = some (.array (Try.prog.arrayLen 53) (Try.prog.elem 53)) := by kernel_rfl
theorem size53 (w : World) : (sizeOf (Try.prog.elem 53)).run Try.prog w = .ok 1 w := by kernel_rfl
/-- a[:2*c] of an action. -/
theorem slice_act (c g : Nat) (hc : c ≤ 8) (w : World) : (Instr.sliceAt 53 (.pointer (some ⟨g, 0, none⟩)) none (some (.int .i64 (2 * (c : Int)))) none).run Try.prog w = .ok (.slice (some ⟨g, 0, none⟩) (2 * c) 16) w := by
  rw [run_sliceAt_array_h w 53 ⟨g, 0, none⟩ und53' .i64 (2 * (c : Int)) (by omega) (by rw [arr53]; omega), size53]
  have e : (2 * (c : Int)).toNat = 2 * c := by omega
  simp only [Result.andThen_ok, slicedAt, arr53, e, Nat.zero_mul, Nat.sub_zero, Addr.add]
  rfl

set_option maxHeartbeats 800000 in
set_option maxRecDepth 100000 in
theorem act_yes (c n cap : Nat) (A : Option Addr) (D : List (List Int)) (s : ByteArray) (w : World) (B : Nat) (hD : Dy.OkD c D) (hr : RowsAre w B A n D) (hB : B ≤ w.heap.size) (hcap : n ≤ cap) (hs : WordB n s = true) :
    Calls Try.prog 13 #[.agg #[.int .i64 c, .slice A n cap], .string s] w fun e w' => ∃ v, e = .returned (.tuple #[v, .int .i64 0]) ∧ RowIs w' w'.heap.size v ((Dy.act c D s.data.toList).map Int.ofNat) ∧ Below w.heap.size w w' := by
  have hDn := Lib.hid hr.1
  obtain ⟨hs64, hmade⟩ := wordB_iff.1 hs
  have hn4 : n ≤ 4 := by have := hD.2.2.1; have := hDn.out; omega
  have hOk : OkI c D := ⟨by have := hD.1; omega, by have := hD.2.1; omega, hD.2.2.1, fun d hd => ⟨by rw [(hD.2.2.2 d hd).1], (hD.2.2.2 d hd).2⟩⟩
  have hw0 : Below w.heap.size w ((w.alloc (.cells #[.int .i64 c, .slice A n cap] 28)).alloc (.cells #[.string s] 9)) := ((Below.refl _ _).alloc (Nat.le_refl _) _).alloc (by simp) _
  have C := Lib.hid (word_any c n cap A D (w.heap.size + 1) 0 1 1 [s] ((w.alloc (.cells #[.int .i64 c, .slice A n cap] 28)).alloc (.cells #[.string s] 9)) B (hr.keep fun p hp => hw0.cell (by omega)) (by simp; omega) (by unfold maxLen; omega) hcap rfl (by omega) (by simp [maxLen]; omega)
    (fun j x hj => by
      have b1 : Blk ((w.alloc (.cells #[.int .i64 c, .slice A n cap] 28)).alloc (.cells #[.string s] 9)) (w.heap.size + 1) 9 #[.string s] := Blk.new_at _ _ (by simp)
      rw [b1.cell]
      cases j with
      | zero => simp at hj; subst hj; rfl
      | succ j => simp at hj) (by simp))
  have HW := Lib.hid hw0
  have HR := Lib.hid hr
  have HM := Lib.hid hmade
  have HO := Lib.hid hOk
  clear hw0 hr hmade hOk hs
  go_enter Try.func13, Try.ntmps13
  go_wp2_with fail
  refine C.out.mono ?_
  rintro e w1 ⟨r, rfl, hr1, hb1⟩
  obtain rfl : r = true := hr1.2 ⟨HO.out, fun x hx => by rw [List.mem_singleton.1 hx]; exact wordB_iff.2 ⟨hs64, HM.out⟩⟩
  have b1 : Blk w1 w.heap.size 28 #[.int .i64 c, .slice A n cap] := ((Blk.new w 28 #[.int .i64 c, .slice A n cap]).alloc _).below hb1 (by simp; omega)
  have hbe : Below w.heap.size w w1 := HW.out.trans (hb1.mono (by simp; omega))
  clear hr1 hb1 C
  have hd0 := b1.cell 0
  simp at hd0
  have hd1 := b1.cell 1
  simp at hd1
  go_wp2_with fail
  have hrw : RowsAre w1 B A n D := HR.out.keep fun p hp => hbe.cell (by omega)
  have hBw : B ≤ w1.heap.size := Nat.le_trans hB hbe.size
  have hzw := hbe.size
  have hc8 := hD.2.1
  have hb1l := b1.lt
  have hL : (Dy.on D (Dy.idle c) s.data.toList).length ≤ 16 := by rw [on_length, idle_len]; omega
  have hones := actL_one (Dy.on D (Dy.idle c) s.data.toList)
  have hinfo := actL_info _ hL
  have hlen : (actL (Dy.on D (Dy.idle c) s.data.toList)).length = (actA []).size := (actL_length _ hL).trans (actA_size [] (by simp)).symm
  have HLN := Lib.hid hlen
  clear hlen
  have e0 : ∀ o, (w1.alloc o).cell? ⟨w.heap.size, 0, none⟩ = some (.int .i64 c) := fun o => (World.cell?_alloc_lt w1 o _ hb1l).trans hd0
  have e1 : ∀ o, (w1.alloc o).cell? ⟨w.heap.size, 1, none⟩ = some (.slice A n cap) := fun o => (World.cell?_alloc_lt w1 o _ hb1l).trans hd1
  go_cut [6] (fun p wc => ActCut w c (Dy.on D (Dy.idle c) s.data.toList) p wc)
  case first =>
    go_region_held3 (fun w' => w'.cell? ⟨w.heap.size, 0, none⟩ = some (.int .i64 c) ∧ w'.cell? ⟨w.heap.size, 1, none⟩ = some (.slice A n cap)) (first
      | exact ⟨hd0, hd1⟩
      | exact ⟨e0 _, e1 _⟩
      | exact ⟨k0, k1⟩
      | exact ⟨f0 _, f1 _⟩
      | exact ⟨j0, j1⟩
      | exact ⟨i0 _, i1 _⟩
      | exact ⟨far_set j0 _ _ (by show w.heap.size ≠ _; omega), far_set j1 _ _ (by show w.heap.size ≠ _; omega)⟩
      | exact ⟨far_set (i0 _) _ _ (by show w.heap.size ≠ _; omega), far_set (i1 _) _ _ (by show w.heap.size ≠ _; omega)⟩) (first
      | (go_at_call 21
         refine (idle_any c A n cap _ hc8).mono ?_
         rintro e w2 ⟨rfl, hb2⟩
         have z2 : w1.heap.size ≤ w2.heap.size := Nat.le_trans (by (try simp) <;> omega) hb2.size
         have k0 : w2.cell? ⟨w.heap.size, 0, none⟩ = some (.int .i64 c) := (hb2.cell (p := ⟨w.heap.size, 0, none⟩) (by (try simp) <;> omega)).trans (by first | exact hd0 | exact e0 _)
         have k1 : w2.cell? ⟨w.heap.size, 1, none⟩ = some (.slice A n cap) := (hb2.cell (p := ⟨w.heap.size, 1, none⟩) (by (try simp) <;> omega)).trans (by first | exact hd1 | exact e1 _)
         have f0 : ∀ o, (w2.alloc o).cell? ⟨w.heap.size, 0, none⟩ = some (.int .i64 c) := fun o => (World.cell?_alloc_lt w2 o _ (Nat.lt_of_lt_of_le hb1l z2)).trans k0
         have f1 : ∀ o, (w2.alloc o).cell? ⟨w.heap.size, 1, none⟩ = some (.slice A n cap) := fun o => (World.cell?_alloc_lt w2 o _ (Nat.lt_of_lt_of_le hb1l z2)).trans k1
         have hbw2 : Below w1.heap.size w1 w2 := by
           first
             | exact ⟨hb2.os, hb2.tape, hb2.output, hb2.size, hb2.block⟩
             | exact ((Below.refl w1.heap.size w1).alloc (Nat.le_refl _) _).trans (⟨hb2.os, hb2.tape, hb2.output, hb2.size, fun i hi => hb2.block i (by (try simp) <;> omega)⟩)
         first | (have bz : Blk w2 w1.heap.size 53 (actA []) := (hb2.block w1.heap.size (by simp)).trans (heap_alloc_new w1 _)) | skip)
      | (go_at_call 20
         refine (on_any c n cap A D (Dy.idle c) s _ B hD ?_ ?_ (HM.out) (idle_len c) (idle_lt c) hs64).mono ?_
         · first | exact hrw.below (hbw2.mono hBw) | exact (hrw.below (hbw2.mono hBw)).keep (fun p hp => World.cell?_alloc_lt w2 _ p (by omega))
         · first | (show B ≤ w2.heap.size; omega) | (have := World.size_alloc w2; (try simp) <;> omega)
         rintro e w3 ⟨rfl, hb3⟩
         have z3 : w2.heap.size ≤ w3.heap.size := Nat.le_trans (by (try simp) <;> omega) hb3.size
         have j0 : w3.cell? ⟨w.heap.size, 0, none⟩ = some (.int .i64 c) := (hb3.cell (p := ⟨w.heap.size, 0, none⟩) (by (try simp) <;> omega)).trans (by first | exact k0 | exact f0 _)
         have j1 : w3.cell? ⟨w.heap.size, 1, none⟩ = some (.slice A n cap) := (hb3.cell (p := ⟨w.heap.size, 1, none⟩) (by (try simp) <;> omega)).trans (by first | exact k1 | exact f1 _)
         have i0 : ∀ o, (w3.alloc o).cell? ⟨w.heap.size, 0, none⟩ = some (.int .i64 c) := fun o => (World.cell?_alloc_lt w3 o _ (by show w.heap.size < w3.heap.size; omega)).trans j0
         have i1 : ∀ o, (w3.alloc o).cell? ⟨w.heap.size, 1, none⟩ = some (.slice A n cap) := fun o => (World.cell?_alloc_lt w3 o _ (by show w.heap.size < w3.heap.size; omega)).trans j1
         have hbw3 : Below w2.heap.size w2 w3 := by
           first
             | exact ⟨hb3.os, hb3.tape, hb3.output, hb3.size, hb3.block⟩
             | exact ((Below.refl w2.heap.size w2).alloc (Nat.le_refl _) _).trans (⟨hb3.os, hb3.tape, hb3.output, hb3.size, fun i hi => hb3.block i (by (try simp) <;> omega)⟩)
         first
           | (have th : w3.there w1.heap.size 0 (actL (Dy.on D (Dy.idle c) s.data.toList)).length := (Blk.below bz hb3 bz.lt).there HLN.out)
           | (have bz : Blk w3 w2.heap.size 53 (actA []) := (hb3.block w2.heap.size (by simp)).trans (heap_alloc_new w2 _)
              have th : w3.there w2.heap.size 0 (actL (Dy.on D (Dy.idle c) s.data.toList)).length := bz.there HLN.out)
           | (have th : (w3.alloc (.cells #[.int .i64 0, .int .i64 0, .int .i64 0, .int .i64 0, .int .i64 0, .int .i64 0, .int .i64 0, .int .i64 0, .int .i64 0, .int .i64 0, .int .i64 0, .int .i64 0, .int .i64 0, .int .i64 0, .int .i64 0, .int .i64 0] 53)).there w3.heap.size 0 (actL (Dy.on D (Dy.idle c) s.data.toList)).length := (Blk.new w3 53 (actA [])).there HLN.out)))
    · go_wp2_with fail
      go_meet
      have hbz : Below w.heap.size w w3 := hbe.trans ((hbw2.mono hzw).trans (hbw3.mono (Nat.le_trans hzw z2)))
      exact actCut_set (w3 := w3.alloc _) (i0 _) th (hbz.alloc (by omega) _) (by omega) (by simp)
    · go_wp2_with fail
      go_meet
      have hbz : Below w.heap.size w w3 := hbe.trans ((hbw2.mono hzw).trans (hbw3.mono (Nat.le_trans hzw z2)))
      exact actCut_set j0 th hbz (by omega) bz.lt
    · go_wp2_with fail
      go_meet
      have hbz : Below w.heap.size w w3 := hbe.trans ((hbw2.mono hzw).trans (hbw3.mono (Nat.le_trans hzw z2)))
      exact actCut_set j0 th hbz (by omega) (Nat.lt_of_lt_of_le bz.lt z3)
  case rest =>
    obtain ⟨g, rfl, h0, hL2, hbc, hg⟩ := hcut
    have hsl := slice_act c g hc8
    have hl16 : (Dy.on D (Dy.idle c) s.data.toList).length = 2 * c := by rw [on_length, idle_len]
    have HL16 := Lib.hid hl16
    have HL2 := Lib.hid hL2
    clear hl16 hL2 hinfo hones hd0 hd1 e0 e1
    go_wp2_with fail
    have HC := Try.slices_Clone_int g 0 (2 * c) 16 ((Dy.on D (Dy.idle c) s.data.toList).map Int.ofNat) wc (by simp [HL16.out]) (by omega) (fun j hj => by
      refine HL2.out j _ ?_
      have hj2 : j < (Dy.on D (Dy.idle c) s.data.toList).length := by simpa using hj
      simp [actL, List.getElem?_append, hj2])
    refine HC.mono ?_
    rintro e w5 ⟨v, rfl, hv, hv0, hb5⟩
    have HV := Lib.hid hv
    clear hv hsl
    go_wp2_with fail
    go_ret2
    refine ⟨v, rfl, ?_, hbc.trans (hb5.mono hbc.size)⟩
    have hv := HV.out
    have htk : ((Dy.on D (Dy.idle c) s.data.toList).map Int.ofNat).take (2 * c) = (Dy.on D (Dy.idle c) s.data.toList).map Int.ofNat := List.take_of_length_le (by simp [HL16.out])
    rw [htk] at hv
    exact RowIs.of_own hv
end Go.Proofs.Ytlbpkhbjdojdgaa
