/-
  The walk of Reach.
-/
import Derived.Test.YtlbpkhbjdojdgaaLaw3
import Derived.Sort.OwnSortedInts
namespace Go.Proofs.Ytlbpkhbjdojdgaa
open Go.RowKit Go.Sort
set_option maxRecDepth 100000

/-- A state that a word leads to. -/
def Reached (D : List (List Int)) (s y : Nat) : Prop := ∃ w : List UInt8, (∀ b ∈ w, b ∈ Dy.steps D.length) ∧ Dy.walk D w s = y

/-- What the loops of Reach keep: the list L, of which the first k are done, and of the next one the steps S. -/
structure RSt (c : Nat) (D : List (List Int)) (s : Nat) (L : List Nat) (k : Nat) (S : List UInt8) : Prop where
  nodup : L.Nodup
  lt : ∀ x ∈ L, x < 2 * c
  first : L[0]? = some s
  reached : ∀ x ∈ L, Reached D s x
  done : ∀ (j : Nat) (x : Nat), j < k → L[j]? = some x → ∀ t ∈ Dy.steps D.length, Dy.stepN D t.toNat x ∈ L
  now : ∀ x, L[k]? = some x → ∀ t ∈ S, Dy.stepN D t.toNat x ∈ L

theorem RSt.len {c : Nat} {D : List (List Int)} {s : Nat} {L : List Nat} {k : Nat} {S : List UInt8} (h : RSt c D s L k S) : L.length ≤ 2 * c := by
  have := List.Nodup.length_le_of_subset h.nodup (l₂ := List.range (2 * c)) (fun x hx => List.mem_range.2 (h.lt x hx))
  simpa using this
theorem RSt.start {c : Nat} {D : List (List Int)} {s : Nat} (hs : s < 2 * c) : RSt c D s [s] 0 [] :=
  ⟨by simp, fun x hx => by rw [List.mem_singleton.1 hx]; exact hs, rfl, fun x hx => by rw [List.mem_singleton.1 hx]; exact ⟨[], by simp, rfl⟩, fun j x hj => absurd hj (by omega), fun x _ t ht => by simp at ht⟩
theorem RSt.old {c : Nat} {D : List (List Int)} {s : Nat} {L : List Nat} {k x : Nat} {S : List UInt8} {t : UInt8} (h : RSt c D s L k S) (hx : L[k]? = some x) (ht : Dy.stepN D t.toNat x ∈ L) : RSt c D s L k (S ++ [t]) :=
  ⟨h.nodup, h.lt, h.first, h.reached, h.done, fun y hy u hu => by
    rcases List.mem_append.1 hu with h1 | h1
    · exact h.now y hy u h1
    · rw [List.mem_singleton.1 h1]
      rw [hx] at hy
      cases hy
      exact ht⟩
theorem RSt.new {c : Nat} {D : List (List Int)} {s : Nat} {L : List Nat} {k x : Nat} {S : List UInt8} {t : UInt8} (hD : Dy.OkD c D) (h : RSt c D s L k S) (hx : L[k]? = some x) (htm : t ∈ Dy.steps D.length) (ht : Dy.stepN D t.toNat x ∉ L) : RSt c D s (L ++ [Dy.stepN D t.toNat x]) k (S ++ [t]) := by
  have hxm := List.mem_of_getElem? hx
  have hk := (List.getElem?_eq_some_iff.1 hx).1
  refine ⟨?_, ?_, ?_, ?_, ?_, ?_⟩
  · exact List.nodup_append.2 ⟨h.nodup, by simp, fun a ha b hb => by
      rw [List.mem_singleton.1 hb]
      rintro rfl
      exact ht ha⟩
  · intro y hy
    rcases List.mem_append.1 hy with h1 | h1
    · exact h.lt y h1
    · rw [List.mem_singleton.1 h1]; exact Dy.stepN_lt hD htm (h.lt x hxm)
  · rw [List.getElem?_append_left (by omega)]; exact h.first
  · intro y hy
    rcases List.mem_append.1 hy with h1 | h1
    · exact h.reached y h1
    · rw [List.mem_singleton.1 h1]
      obtain ⟨w, hw, he⟩ := h.reached x hxm
      refine ⟨w ++ [t], fun b hb => ?_, by rw [Dy.walk_app, he]; rfl⟩
      rcases List.mem_append.1 hb with h2 | h2
      · exact hw b h2
      · rw [List.mem_singleton.1 h2]; exact htm
  · intro j y hj hy u hu
    rw [List.getElem?_append_left (by omega)] at hy
    exact List.mem_append_left _ (h.done j y hj hy u hu)
  · intro y hy u hu
    rw [List.getElem?_append_left hk] at hy
    rcases List.mem_append.1 hu with h1 | h1
    · exact List.mem_append_left _ (h.now y hy u h1)
    · rw [List.mem_singleton.1 h1]
      rw [hx] at hy
      cases hy
      simp
theorem RSt.next {c : Nat} {D : List (List Int)} {s : Nat} {L : List Nat} {k : Nat} (h : RSt c D s L k (Dy.steps D.length)) : RSt c D s L (k + 1) [] :=
  ⟨h.nodup, h.lt, h.first, h.reached, fun j x hj hx t ht => by
    rcases Nat.lt_or_ge j k with h1 | h1
    · exact h.done j x h1 hx t ht
    · obtain rfl : j = k := by omega
      exact h.now x hx t ht, fun x _ t ht => by simp at ht⟩
theorem RSt.all {c : Nat} {D : List (List Int)} {s : Nat} {L : List Nat} (h : RSt c D s L L.length []) : ∀ y, y ∈ L ↔ Reached D s y := by
  have closed : ∀ x ∈ L, ∀ t ∈ Dy.steps D.length, Dy.stepN D t.toNat x ∈ L := fun x hx t ht => by
    obtain ⟨j, hj⟩ := List.getElem?_of_mem hx
    exact h.done j x (List.getElem?_eq_some_iff.1 hj).1 hj t ht
  have go : ∀ (w : List UInt8) (x : Nat), (∀ b ∈ w, b ∈ Dy.steps D.length) → x ∈ L → Dy.walk D w x ∈ L := by
    intro w
    induction w with
    | nil => intro x _ hx; exact hx
    | cons t w ih =>
      intro x hw hx
      exact ih _ (fun b hb => hw b (List.mem_cons_of_mem _ hb)) (closed x hx t (hw t (List.mem_cons_self ..)))
  intro y
  refine ⟨h.reached y, fun ⟨w, hw, he⟩ => ?_⟩
  rw [← he]
  exact go w s hw (List.mem_of_getElem? h.first)

/-- The numbers of a list, as cells hold them. -/
def natI (L : List Nat) : List Int := L.map fun n : Nat => (n : Int)

/-- What the loops keep of the world. -/
def RW (w : World) (c : Nat) (D : List (List Int)) (n cap : Nat) (A : Option Addr) (s : Nat) (L : List Nat) (k : Nat) (S : List UInt8) (o : Value) (wr : World) : Prop :=
  RSt c D s L k S ∧ wr.ownsRow (w.heap.size + 1) 3 1 o L.length (ints (natI L)) ∧ Blk wr w.heap.size 28 #[.int .i64 c, .slice A n cap] ∧ Below w.heap.size w wr ∧ w.heap.size + 1 ≤ wr.heap.size

theorem info3 : (Try.prog.info? 3).map (fun i => (i.zero, i.size, i.bytes)) = some (some (.int .i64 0), 1, 8) := by kernel_rfl
theorem und36 : Try.prog.underlying 36 = some (.slice 3) := by kernel_rfl

theorem Reach_no (c s : Int) (n cap : Nat) (A : Option Addr) (D : List (List Int)) (w : World) (B : Nat) (hr : RowsAre w B A n D) (hB : B ≤ w.heap.size) (hn : n ≤ maxLen) (hno : ¬ (OkI c D ∧ 0 ≤ s ∧ s < 2 * c)) :
    Calls Try.prog 14 #[.agg #[.int .i64 c, .slice A n cap], .int .i64 s] w fun e w' => e = .returned (.tuple #[.slice none 0 0, .int .i64 2]) ∧ Below w.heap.size w w' := by
  have C := Lib.hid (valid_any c n cap A D (w.alloc (.cells #[.int .i64 c, .slice A n cap] 28)) B (hr.keep fun p hp => World.cell?_alloc_lt w _ p (by omega)) (by simp; omega) hn)
  clear hr
  have hw0 : Below w.heap.size w (w.alloc (.cells #[.int .i64 c, .slice A n cap] 28)) := (Below.refl _ _).alloc (Nat.le_refl _) _
  by_cases hv : OkI c D
  · have F := (validB_yes hv).symm
    have hc8 := hv.2.1
    have hc1 := hv.1
    by_cases h0 : s < 0
    · clear hno hv
      go_enter Try.func14, Try.ntmps14
      go_wp2_with fail
      refine C.out.mono ?_
      rintro e w1 ⟨rfl, hb1⟩
      go_wp2_with fail
      go_ret2
      exact ⟨rfl, hw0.trans (hb1.mono (by simp))⟩
    · have h2 : 2 * c ≤ s := by
        rcases Int.lt_or_le s (2 * c) with h | h
        · exact absurd ⟨hv, by omega, h⟩ hno
        · exact h
      have hwr : IntKind.i64.wrap (2 * c) = 2 * c := IntWalk.i64_in _ (by omega)
      clear hno hv
      go_enter Try.func14, Try.ntmps14
      go_wp2_with fail
      refine C.out.mono ?_
      rintro e w1 ⟨rfl, hb1⟩
      have b1 : Blk w1 w.heap.size 28 #[.int .i64 c, .slice A n cap] := (Blk.new w 28 #[.int .i64 c, .slice A n cap]).below hb1 (by simp)
      have hd0 := b1.cell 0
      simp at hd0
      go_wp2_with fail
      go_ret2
      exact ⟨rfl, hw0.trans (hb1.mono (by simp))⟩
  · have F := (validB_no hv).symm
    clear hno hv
    go_enter Try.func14, Try.ntmps14
    go_wp2_with fail
    refine C.out.mono ?_
    rintro e w1 ⟨rfl, hb1⟩
    go_wp2_with fail
    go_ret2
    exact ⟨rfl, hw0.trans (hb1.mono (by simp))⟩

/-- What Reach answers. -/
def ReachPost (w : World) (D : List (List Int)) (s : Nat) (e : Ending) (w' : World) : Prop :=
  ∃ (v : Value) (Z : List Int), e = .returned (.tuple #[v, .int .i64 0]) ∧ RowIs w' w'.heap.size v Z ∧ Z.length ≤ 16 ∧ Z ≠ [] ∧ (∀ y : Int, y ∈ Z ↔ ∃ x : Nat, y = x ∧ Reached D s x) ∧ Below w.heap.size w w'

set_option maxHeartbeats 4000000 in
theorem Reach_yes (c n cap s : Nat) (A : Option Addr) (D : List (List Int)) (w : World) (B : Nat) (hD : Dy.OkD c D) (hr : RowsAre w B A n D) (hB : B ≤ w.heap.size) (hcap : n ≤ cap) (hs : s < 2 * c) :
    Calls Try.prog 14 #[.agg #[.int .i64 c, .slice A n cap], .int .i64 s] w (ReachPost w D s) := by
  have hDn := Lib.hid hr.1
  have hn4 : n ≤ 4 := by have := hD.2.2.1; have := hDn.out; omega
  have hc8 := hD.2.1
  have C := Lib.hid (valid_any c n cap A D (w.alloc (.cells #[.int .i64 c, .slice A n cap] 28)) B (hr.keep fun p hp => World.cell?_alloc_lt w _ p (by omega)) (by simp; omega) (by unfold maxLen; omega))
  have F := (validB_yes (OkD.okI hD)).symm
  have hw0 : Below w.heap.size w (w.alloc (.cells #[.int .i64 c, .slice A n cap] 28)) := (Below.refl _ _).alloc (Nat.le_refl _) _
  have hwr : IntKind.i64.wrap (2 * (c : Int)) = 2 * (c : Int) := IntWalk.i64_in _ (by omega)
  have HR := Lib.hid hr
  have HD := Lib.hid hD
  clear hr hD
  go_enter Try.func14, Try.ntmps14
  go_wp2_with fail
  refine C.out.mono ?_
  rintro e w1 ⟨rfl, hb1⟩
  have b1 : Blk w1 w.heap.size 28 #[.int .i64 c, .slice A n cap] := (Blk.new w 28 #[.int .i64 c, .slice A n cap]).below hb1 (by simp)
  have hbe : Below w.heap.size w w1 := hw0.trans (hb1.mono (by simp))
  have hz1 : w.heap.size + 1 ≤ w1.heap.size := by have := hb1.size; simpa using this
  have hd0 := b1.cell 0
  simp at hd0
  clear C hb1 hw0
  go_wp2_with fail
  clear F hd0
  obtain ⟨w0, hw0⟩ : ∃ w0 : World, w0 = w1.alloc (.cells #[.int .i64 s] 3) := ⟨_, rfl⟩
  have hI : RW w c D n cap A s [s] 0 [] (.slice (some ⟨w1.heap.size, 0, none⟩) 1 1) w0 := by
    subst hw0
    refine ⟨RSt.start hs, ?_, b1.alloc _, hbe.alloc (Nat.le_of_succ_le hz1) _, by simp; omega⟩
    exact ownsRow_new (Blk.new w1 3 #[.int .i64 s]) rfl hz1
  rw [← hw0]
  have HI := Lib.hid hI
  clear hI hw0 b1 hbe hz1
  go_loopw [7, 6] (fun i o wr => ∃ (k : Nat) (L : List Nat), i = .int .i64 k ∧ k ≤ L.length ∧ RW w c D n cap A s L k [] o wr) (fun i _ _ => 17 - (intOf i).toNat)
  case atStart => exact ⟨0, [s], rfl, by simp, HI.out⟩
  case round =>
    obtain ⟨k, L, rfl, hk, hst, hown, hbox, hbe, hsz⟩ := hrel
    have hL16 : L.length ≤ 16 := by have := hst.len; omega
    obtain ⟨ov, ocap, rfl⟩ := hown.slice
    by_cases hlt : k < L.length
    · have hd0 := hbox.cell 0
      simp at hd0
      have hd1 := hbox.cell 1
      simp at hd1
      have HST := Lib.hid hst
      have HOWN := Lib.hid hown
      have hconv := fun (W' : World) => Lib.run_convert_string_bytes (P := Try.prog) W' 9 65 5 ⟨(Dy.steps n).toArray⟩ (by kernel_rfl : Try.prog.underlying 9 = some .string) (by kernel_rfl) (by kernel_rfl)
      clear hst hown
      go_wp2_with (go_at_call 25; refine (steps_any c A n cap _ hn4 hcap).mono ?_; rintro e w3 ⟨rfl, hb3⟩)
      clear hconv
      have hold : Old wr (Lib.bytesWorld w3 5 ⟨(Dy.steps n).toArray⟩) := fun i hi => (Lib.bytesWorld_at_old w3 5 _ i (Nat.lt_of_lt_of_le hi hb3.size)).trans (hb3.block i hi)
      have hI : RW w c D n cap A s L k [] (.slice ov L.length ocap) (Lib.bytesWorld w3 5 ⟨(Dy.steps n).toArray⟩) ∧ Row5 (Lib.bytesWorld w3 5 ⟨(Dy.steps n).toArray⟩) w3.heap.size (Dy.steps n) := by
        refine ⟨⟨HST.out, ownsRow_old HOWN.out hold, hold.blk hbox, below_bytesWorld (hbe.trans (hb3.mono hbe.size)) (Nat.le_trans hbe.size hb3.size) _ _, ?_⟩, _, _, Lib.bytesWorld_at_new w3 5 ⟨(Dy.steps n).toArray⟩, fun j t hj => ?_⟩
        · have h1 := Lib.bytesWorld_size w3 5 ⟨(Dy.steps n).toArray⟩
          have := hb3.size
          omega
        · have hjl : j < (Dy.steps n).length := (List.getElem?_eq_some_iff.1 hj).1
          obtain ⟨_, rfl⟩ := List.getElem?_eq_some_iff.1 hj
          simp [Lib.bytesCells, Array.getElem?_append, hjl]
      have HI := Lib.hid hI
      clear hI hold hbe hbox hd0 hd1 hb3 hsz HST HOWN
      have hsl : (Dy.steps n).length ≤ 6 := steps_len n
      obtain ⟨x, hx⟩ : ∃ x, L[k]? = some x := ⟨_, List.getElem?_eq_getElem hlt⟩
      have HX := Lib.hid hx
      clear hx
      generalize grownCap w3 _ 0 5 = cp5
      generalize Lib.bytesWorld w3 5 ⟨(Dy.steps n).toArray⟩ = wi at *
      generalize w3.heap.size = g5 at *
      go_loopw [37, 6] (fun t o wr => ∃ (j : Nat) (L2 : List Nat), t = .int .i64 j ∧ j ≤ (Dy.steps n).length ∧ k < L2.length ∧ L2[k]? = some x ∧ RW w c D n cap A s L2 k ((Dy.steps n).take j) o wr ∧ Row5 wr g5 (Dy.steps n)) (fun t _ _ => (Dy.steps n).length - (intOf t).toNat)
      case atStart => exact ⟨0, L, rfl, by omega, hlt, HX.out, HI.out⟩
      case round =>
        obtain ⟨j, L2, rfl, hj, hk2, hx2, ⟨hst2, hown2, hbox2, hbe2, hsz2⟩, hbytes⟩ := hrel
        have hL2 : L2.length ≤ 16 := by have := hst2.len; omega
        by_cases hltj : j < (Dy.steps n).length
        · obtain ⟨t, ht⟩ : ∃ t, (Dy.steps n)[j]? = some t := ⟨_, List.getElem?_eq_getElem hltj⟩
          have htm : t ∈ Dy.steps n := List.mem_of_getElem? ht
          have hby := hbytes.cell ht
          obtain ⟨g2, cap2, rfl, hg2, hg2l⟩ := hown2.form (by omega)
          have hxc : x < 2 * c := hst2.lt x (List.mem_of_getElem? hx2)
          have hcell : wr.cell? ⟨g2, k, none⟩ = some (.int .i64 x) := by
            rw [hown2.cellAt k (by omega)]
            simp [ints, natI, hx2]
          have hd0 := hbox2.cell 0
          simp at hd0
          have hd1 := hbox2.cell 1
          simp at hd1
          have HST := Lib.hid hst2
          have HOWN := Lib.hid hown2
          have HBY := Lib.hid hbytes
          have HT := Lib.hid ht
          have HTM := Lib.hid htm
          have HX2 := Lib.hid hx2
          clear hst2 hown2 hbytes ht htm hx2
          have hS : ∀ W', Old wr W' → W'.cell? ⟨w.heap.size, 0, none⟩ = some (.int .i64 c) ∧ W'.cell? ⟨w.heap.size, 1, none⟩ = some (.slice A n cap) ∧ W'.cell? ⟨g2, k, none⟩ = some (.int .i64 x) := fun W' ho =>
            ⟨(ho.cell hbox2.lt).trans hd0, (ho.cell hbox2.lt).trans hd1, (ho.cell hg2l).trans hcell⟩
          have hrw : RowsAre wr B A n D := HR.out.keep fun p hp => hbe2.cell (by omega)
          have hBw : B ≤ wr.heap.size := Nat.le_trans hB hbe2.size
          have HRW := Lib.hid hrw
          have hk0 : (0 : Int) ≤ (k : Int) := by omega
          have hk1 : (k : Int) < (L2.length : Int) := by omega
          clear hrw
          go_upto_region 10 with fail
          go_region_held3 (fun w' => w'.cell? ⟨w.heap.size, 0, none⟩ = some (.int .i64 c) ∧ w'.cell? ⟨w.heap.size, 1, none⟩ = some (.slice A n cap) ∧ w'.cell? ⟨g2, k, none⟩ = some (.int .i64 x)) (first
            | exact hS _ (fun _ _ => rfl)
            | exact hS _ O4) (first
            | (go_at_call 26
               refine (step_any c n cap A D t x _ B HD.out ?_ ?_ HTM.out hxc).mono ?_
               · exact RowsAre.keep HRW.out (fun _ _ => rfl)
               · exact hBw
               rintro e w4 ⟨rfl, hb4⟩
               have O4 : Old wr w4 := hb4.block))
          all_goals
            have hz4 : wr.heap.size ≤ w4.heap.size := hb4.size
            have hb4' : Below wr.heap.size wr w4 := ⟨hb4.os, hb4.tape, hb4.output, hb4.size, hb4.block⟩
            have hown4 := ownsRow_old HOWN.out O4
            have C5 := Lib.hid ((Try.slices_Contains_int g2 0 L2.length cap2 (natI L2) (Dy.stepN D t.toNat x : Nat) w4 (by simp [natI]) (by omega) (fun j hj => by
              rw [Nat.zero_add, hown4.cellAt j (by simpa [natI] using hj)]
              simp [ints, List.getD_eq_getElem?_getD, hj])).mono (fun _ _ h => (⟨h.1, h.2.symm⟩ : _ ∧ w4 = _)))
            clear hS hd0 hd1 hcell
            by_cases hin : Dy.stepN D t.toNat x ∈ L2
            · have hcon : (((natI L2).take L2.length).contains ((Dy.stepN D t.toNat x : Nat) : Int)) = true := by
                rw [List.take_of_length_le (by simp [natI])]
                simp [natI]
                exact ⟨_, hin, rfl⟩
              rw [hcon] at C5
              have HI5 : Hid (RW w c D n cap A s L2 k ((Dy.steps n).take (j + 1)) (.slice (some ⟨g2, 0, none⟩) L2.length cap2) w4 ∧ Row5 w4 g5 (Dy.steps n)) :=
                ⟨⟨by rw [take_snocL HT.out]; exact HST.out.old HX2.out hin, hown4, O4.blk hbox2, hbe2.trans (hb4'.mono hbe2.size), Nat.le_trans hsz2 hz4⟩, HBY.out.old O4⟩
              clear hcon hown4 hb4 hb4' hbox2 hbe2 O4
              go_wp2_with (go_at_call 15; refine C5.out.mono ?_; rintro e w5 ⟨rfl, rfl⟩)
              exact ⟨⟨j + 1, L2, by go_num, by omega, hk2, HX2.out, HI5.out⟩, by simp [intOf]; omega⟩
            · have hcon : (((natI L2).take L2.length).contains ((Dy.stepN D t.toNat x : Nat) : Int)) = false := by
                rw [List.take_of_length_le (by simp [natI])]
                have : ¬ ((natI L2).contains ((Dy.stepN D t.toNat x : Nat) : Int) = true) := by
                  simp [natI]
                  intro y hy e
                  have : y = Dy.stepN D t.toNat x := by omega
                  rw [this] at hy
                  exact hin hy
                simpa using this
              rw [hcon] at C5
              obtain ⟨i3, hi3, hz3a, hz3b, hz3c⟩ := info_parts info3
              have hx1 : ∀ u ∈ [Value.int .i64 (Dy.stepN D t.toNat x : Nat)], u.oneCell' = true := fun u hu => by rw [List.mem_singleton.1 hu]; rfl
              have hx2' : L2.length + 1 ≤ maxLen := by unfold maxLen; omega
              have hx3' : (L2.length + 1) * 8 ≤ 140737488355328 := by omega
              have hO5 : Old wr (w4.alloc (.cells #[.int .i64 (Dy.stepN D t.toNat x : Nat)] 3)) := Old.trans O4 (Old.alloc _ _)
              have hown5 := ownsRow_old HOWN.out hO5
              have hx4' : w.heap.size + 1 ≤ (w4.alloc (.cells #[.int .i64 (Dy.stepN D t.toNat x : Nat)] 3)).heap.size := by simp; omega
              clear hcon hown4
              go_wp2_with (first
                | (go_at_call 15; refine C5.out.mono ?_; rintro e w5 ⟨rfl, rfl⟩)
                | (at_builtin
                   refine wpList_append_lies (w4.alloc (.cells #[.int .i64 (Dy.stepN D t.toNat x : Nat)] 3)) rfl (.tmp 52) (.tmp 54) 36 rfl (w.heap.size + 1) 3 i3 _ 1 8 und36 hi3 hz3a hz3b hz3c rfl (by decide) (.slice (some ⟨g2, 0, none⟩) L2.length cap2) L2.length (ints (natI L2)) rfl hown5 ⟨w4.heap.size, 0, none⟩ 1 1 [.int .i64 (Dy.stepN D t.toNat x : Nat)] rfl rfl (cell_one_new _ _ _) hx1 (by decide) hx2' hx3' hx4' (w4.heap.size + 1) (by simp) ?_
                   intro g6 cp6 w6 hown6 hg6 hat6 hlt6))
              have HI6 : Hid (RW w c D n cap A s (L2 ++ [Dy.stepN D t.toNat x]) k ((Dy.steps n).take (j + 1)) (.slice (some ⟨g6, 0, none⟩) (L2.length + 1) cp6) w6 ∧ Row5 w6 g5 (Dy.steps n)) := by
                refine ⟨⟨by rw [take_snocL HT.out]; exact HST.out.new HD.out HX2.out (by rw [hDn.out]; exact HTM.out) hin, ?_, ?_, ?_, ?_⟩, ?_⟩
                · rw [List.length_append, List.length_singleton]
                  have e1 : ints (natI (L2 ++ [Dy.stepN D t.toNat x])) = ints (natI L2) ++ [.int .i64 (Dy.stepN D t.toNat x : Nat)] := by simp [ints, natI]
                  rw [e1]
                  exact hown6
                · exact (hO5.blk hbox2).grown' hg6 (own_blk_ne hown5 (hO5.blk hbox2) (by decide))
                · exact below_grown ((hbe2.trans (hb4'.mono hbe2.size)).alloc (by omega) _) hown5 (by omega) (by omega) hg6
                · exact Nat.le_trans hx4' hg6.size
                · exact (HBY.out.old hO5).grown hown5 (by decide) hg6
              have hx2a : (L2 ++ [Dy.stepN D t.toNat x])[k]? = some x := by rw [List.getElem?_append_left hk2]; exact HX2.out
              clear hown6 hown5 hg6 hO5 hat6 hlt6 hb4 hb4' O4 hbox2 hbe2
              exact ⟨⟨j + 1, L2 ++ [Dy.stepN D t.toNat x], by go_num, by omega, by simp; omega, hx2a, HI6.out⟩, by simp [intOf]; omega⟩
        · have hjs : (Dy.steps n).take j = Dy.steps n := List.take_of_length_le (by omega)
          rw [hjs] at hst2
          have hst3 : RSt c D s L2 k (Dy.steps D.length) := by rw [hDn.out]; exact hst2
          have HI7 : Hid (RW w c D n cap A s L2 (k + 1) [] u6 wr) := ⟨hst3.next, hown2, hbox2, hbe2, hsz2⟩
          clear hst3 hst2 hown2 hbytes
          go_wp2_with fail
          exact ⟨⟨k + 1, L2, by go_num, hk2, HI7.out⟩, by simp [intOf]; omega⟩
    · have hkL : k = L.length := by omega
      subst hkL
      obtain ⟨g2, cap2, hv2, hg2, hg2l⟩ := hown.form (by
        have := (List.getElem?_eq_some_iff.1 hst.first).1
        omega)
      cases hv2
      rcases hown.2 with ⟨h0, _⟩ | ⟨g', cap', cur, hv, hbase, hb, h1, h2, h3, h4⟩
      · cases h0
      cases hv
      have hH := holds_of_blockI (ss := natI L) hb (by simpa [natI, ints] using h4)
      have hnl : (natI L).length = L.length := by simp [natI]
      have hC := Try.slices_Sort_int g2 0 ocap (natI L) wr hH hg2l (by rw [hnl]; omega)
      rw [hnl] at hC
      have C6 := Lib.hid hC
      have HST := Lib.hid hst
      have HB := Lib.hid hb
      have H4 := Lib.hid h4
      have HH := Lib.hid hown
      clear hC hH hst hb h4 hown
      go_wp2_with fail
      refine C6.out.mono ?_
      rintro e w7 ⟨rfl, m, os, hw7⟩
      have hown7 := ownsRow_sortedI (w := wr) (base := w.heap.size + 1) (g := g2) (cap := ocap) (n := m) (os := os) (ss := natI L) (ts := (natI L).mergeSort fun x y => decide (x ≤ y)) (by simp) hbase HB.out (by rw [hnl]; exact h1) h2 h3
      have hg7 := grownBy_sortedI (w := wr) (g := g2) (n := m) (os := os) ((natI L).mergeSort fun x y => decide (x ≤ y)).toArray
      rw [← hw7, hnl] at hown7
      rw [← hw7] at hg7
      have hbe7 : Below w.heap.size w w7 := hbe.trans (below_own_grown HH.out hg7 (by omega) hbe.size)
      have HO7 := Lib.hid hown7
      clear hown7 hg7 hw7
      go_wp2_with fail
      go_ret2
      refine ⟨_, (natI L).mergeSort fun x y => decide (x ≤ y), rfl, RowIs.of_own HO7.out, by rw [List.length_mergeSort, hnl]; omega, ?_, fun y => ?_, hbe7⟩
      · intro e
        have := congrArg List.length e
        rw [List.length_mergeSort, hnl] at this
        have h0 := (List.getElem?_eq_some_iff.1 HST.out.first).1
        simp at this
        rw [this] at h0
        simp at h0
      · rw [List.mem_mergeSort]
        simp only [natI, List.mem_map]
        constructor
        · rintro ⟨x, hx, rfl⟩
          exact ⟨x, rfl, (HST.out.all x).1 hx⟩
        · rintro ⟨x, rfl, hx⟩
          exact ⟨x, (HST.out.all x).2 hx, rfl⟩
end Go.Proofs.Ytlbpkhbjdojdgaa
