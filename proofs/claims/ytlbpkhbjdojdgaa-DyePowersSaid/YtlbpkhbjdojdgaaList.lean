/-
  The walk of list: the normal forms, as the plain function Dy.list gives them.
-/
import Derived.Test.YtlbpkhbjdojdgaaL2
import Derived.Test.YtlbpkhbjdojdgaaAct
namespace Go.Proofs.Ytlbpkhbjdojdgaa
open Go.RowKit
set_option maxRecDepth 100000


theorem enc_step {n : Nat} {s : UInt8} (h : s ∈ Dy.steps n) : Utf8.encode ((s.toNat : Nat) : Int) = ⟨#[s]⟩ := by
  have hlt : s.toNat < 128 := by
    rcases Dy.mem_steps h with rfl | rfl | h
    · decide
    · decide
    · omega
  have key : ∀ i : Fin 128, Utf8.encode ((i.val : Nat) : Int) = ⟨#[UInt8.ofNat i.val]⟩ := by decide +kernel
  have := key ⟨s.toNat, hlt⟩
  simpa using this

/-- What the outer loop of list keeps, at the number i. -/
def Outer (w0 : World) (gm b c n cap : Nat) (A : Option Addr) (D : List (List Int)) (i : Nat) (wr : World) : Prop :=
  ∃ W wv av, 0 < W.length ∧ i ≤ W.length ∧ W.length ≤ 2000 ∧ Dy.run c D (2001 - i) i W = Dy.list c D ∧ Mon w0.heap.size wr gm b wv av c n cap A W (W.map (Dy.act c D)) (W.map (Dy.act c D)) ∧
    (∀ x ∈ W, x.length ≤ 64 ∧ ∀ s ∈ x, s ∈ Dy.steps n) ∧ Blk wr w0.heap.size 28 #[.int .i64 c, .slice A n cap] ∧ Below w0.heap.size w0 wr
/-- What the inner loop keeps. -/
def Inner (w0 : World) (gm b c n cap : Nat) (A : Option Addr) (D : List (List Int)) (i : Nat) (W0 : List (List UInt8)) (g3 t : Nat) (wr : World) : Prop :=
  ∃ W wv av, i < W.length ∧ W[i]? = W0[i]? ∧ W.length ≤ 2000 ∧ Dy.rowK c D i (Dy.run c D (2000 - i) (i + 1)) ((Dy.steps n).drop t) W = Dy.list c D ∧
    Mon w0.heap.size wr gm b wv av c n cap A W (W.map (Dy.act c D)) (W.map (Dy.act c D)) ∧ (∀ x ∈ W, x.length ≤ 64 ∧ ∀ s ∈ x, s ∈ Dy.steps n) ∧
    Blk wr w0.heap.size 28 #[.int .i64 c, .slice A n cap] ∧ Below w0.heap.size w0 wr ∧ Row5 wr g3 (Dy.steps n)

/-- What list answers. -/
def ListPost (w0 : World) (c n cap : Nat) (A : Option Addr) (D : List (List Int)) (e : Ending) (w' : World) : Prop :=
  (∃ W gm b wv av, Dy.list c D = some W ∧ e = .returned (.tuple #[.pointer (some ⟨gm, 0, none⟩), .int .i64 0]) ∧ Mon w0.heap.size w' gm b wv av c n cap A W (W.map (Dy.act c D)) (W.map (Dy.act c D)) ∧
    (∀ x ∈ W, x.length ≤ 64 ∧ ∀ s ∈ x, s ∈ Dy.steps n) ∧ Below w0.heap.size w0 w') ∨
  (Dy.list c D = none ∧ e = .returned (.tuple #[.pointer none, .int .i64 3]) ∧ Below w0.heap.size w0 w')

set_option maxHeartbeats 8000000 in
theorem list_any (c n cap : Nat) (A : Option Addr) (D : List (List Int)) (w : World) (B : Nat) (hD : Dy.OkD c D) (hr : RowsAre w B A n D) (hB : B ≤ w.heap.size) (hcap : n ≤ cap) :
    Calls Try.prog 17 #[.agg #[.int .i64 c, .slice A n cap]] w (ListPost w c n cap A D) := by
  have hc8 := hD.2.1
  go_enter Try.func17, Try.ntmps17
  go_upto_region 1 with fail
  go_cut [4] (fun p wc => F1 w c n cap A 12 true p wc ∧ Below w.heap.size w wc ∧ Blk wc w.heap.size 28 #[.int .i64 c, .slice A n cap])
  case first =>
    refine wp_region_any (by kernel_rfl) ?_
    refine wpAny_inv (fun listed a w' => ∃ X, a = fr1 w c n cap A X ∧ S1 w c n cap A listed X w') (back_of (by kernel_rfl)) ?hstep ?hdone _ _ _ _ (by simp) (by simp) ?start
    case start =>
      have hb := (Below.refl w.heap.size w).alloc (Nat.le_refl _) (Obj.cells #[Value.int IntKind.i64 (c : Int), Value.slice A n cap] 28)
      refine ⟨fun j => undef, rfl, ⟨hb.os, hb.tape, hb.output, hb.size, hb.block⟩, Blk.new w 28 _, fun j hj hl => ?_, fun j h9 hj hl => ?_, fun hl => ?_⟩
      · exact absurd hl (rep_false _ _)
      · exact absurd hl (rep_false _ _)
      · exact absurd hl (rep_false _ _)
    case hdone =>
      intro listed a w' hs ⟨X, ha, hS⟩ hall
      subst ha
      have h12 := hS.f 12 (by decide) (by have := hall 12 (by decide); simpa [Array.getD, hs] using this)
      unfold fr1
      go_wp2_with fail
      go_meet
      exact ⟨h12, hS.below, hS.box⟩
    case hstep =>
      intro listed a w' i hs ⟨X, ha, hS⟩ hi
      subst ha
      obtain ⟨hi13, hnl, hdep⟩ := ready_spec hi
      have hb0 := hS.box.cell 0
      simp at hb0
      have hb1 := hS.box.cell 1
      simp at hb1
      have hcase : i = 0 ∨ i = 1 ∨ i = 2 ∨ i = 3 ∨ i = 4 ∨ i = 5 ∨ i = 6 ∨ i = 7 ∨ i = 8 ∨ i = 9 ∨ i = 10 ∨ i = 11 ∨ i = 12 := by simp at hi13; omega
      rcases hcase with rfl | rfl | rfl | rfl | rfl | rfl | rfl | rfl | rfl | rfl | rfl | rfl | rfl
      · refine wpOp_step rfl (fun K hK => ?_)
        unfold fr1
        go_simp
        refine hK _ _ ⟨upd X 0 (.agg #[.int .i64 c, .slice A n cap]), rfl, hS.step hs 0 (by decide) (Old.refl _) hS.below (by omega) rfl⟩
      · refine wpOp_step rfl (fun K hK => ?_)
        unfold fr1
        go_simp
        exact hK _ _ ⟨upd X 1 (.slice (some ⟨w'.heap.size, 0, none⟩) 1 1), rfl, hS.step hs 1 (by decide) (Old.alloc _ _) (hS.below.alloc (Nat.le_of_lt hS.box.lt) _) (by omega) ⟨_, rfl, hS.box.lt, Blk.new _ _ _⟩⟩
      · refine wpOp_step rfl (fun K hK => ?_)
        unfold fr1
        go_simp
        exact hK _ _ ⟨upd X 2 (.agg #[.int .i64 c, .slice A n cap]), rfl, hS.step hs 2 (by decide) (Old.refl _) hS.below (by omega) rfl⟩
      · have e2 : X 2 = .agg #[.int .i64 c, .slice A n cap] := hS.f 2 (by decide) (hdep _ rfl ⟨2, .data⟩ (by simp) rfl)
        refine wpOp_step rfl (fun K hK => ?_)
        unfold fr1
        go_simp
        go_wp2_with (go_at_call 21; refine (idle_any c A n cap _ hc8).mono ?_; rintro e w2 ⟨rfl, hb2⟩)
        exact ⟨upd (upd X 2 (.agg #[.int .i64 c, .slice A n cap])) 3 (.agg (actA (Dy.idle c))), rfl, by
          rw [upd_eq e2]
          exact hS.step hs 3 (by decide) (Old.below hb2) (hS.below.trans (hb2.mono hS.below.size)) (by omega) rfl⟩
      · have e3 : X 3 = .agg (actA (Dy.idle c)) := hS.f 3 (by decide) (hdep _ rfl ⟨3, .data⟩ (by simp) rfl)
        refine wpOp_step rfl (fun K hK => ?_)
        rw [if_pos (wanted_none rfl _)]
        refine wp_build_act (l := Dy.idle c) (.tmp 15) rfl e3 (by rw [idle_len']; omega) ?_
        exact hK _ _ ⟨upd X 4 (.slice (some ⟨w'.heap.size, 0, none⟩) 1 1), rfl, hS.step hs 4 (by decide) (Old.alloc _ _) (hS.below.alloc (Nat.le_of_lt hS.box.lt) _) (by omega) ⟨_, rfl, hS.box.lt, Blk.new _ _ _⟩⟩
      · have hmm := @run_makeMap Try.prog
        have h8 : listed.getD 8 false = false := by
          cases e : listed.getD 8 false with
          | false => rfl
          | true => have := hS.early e; simp [Array.getD, hs] at hnl this; rw [hnl] at this; cases this
        refine wpOp_step rfl (fun K hK => ?_)
        unfold fr1
        go_simp
        exact hK _ _ ⟨upd X 5 (.map (some w'.heap.size)), rfl, hS.step hs 5 (by decide) (Old.alloc _ _) (hS.below.alloc (Nat.le_of_lt hS.box.lt) _) (by omega) ⟨_, rfl, hS.box.lt, by rw [h8]; exact ActMap.made _ _⟩⟩
      · refine wpOp_step rfl (fun K hK => ?_)
        unfold fr1
        go_simp
        exact hK _ _ ⟨upd X 6 (.agg #[.int .i64 c, .slice A n cap]), rfl, hS.step hs 6 (by decide) (Old.refl _) hS.below (by omega) rfl⟩
      · have e2 : X 6 = .agg #[.int .i64 c, .slice A n cap] := hS.f 6 (by decide) (hdep _ rfl ⟨6, .data⟩ (by simp) rfl)
        refine wpOp_step rfl (fun K hK => ?_)
        unfold fr1
        go_simp
        go_wp2_with (go_at_call 21; refine (idle_any c A n cap _ hc8).mono ?_; rintro e w2 ⟨rfl, hb2⟩)
        exact ⟨upd (upd X 6 (.agg #[.int .i64 c, .slice A n cap])) 7 (.agg (actA (Dy.idle c))), rfl, by
          rw [upd_eq e2]
          exact hS.step hs 7 (by decide) (Old.below hb2) (hS.below.trans (hb2.mono hS.below.size)) (by omega) rfl⟩
      · have e7 : X 7 = .agg (actA (Dy.idle c)) := hS.f 7 (by decide) (hdep _ rfl ⟨7, .data⟩ (by simp) rfl)
        have h8 : listed.getD 8 false = false := by simpa [Array.getD, hs] using hnl
        have e5 := hS.f 5 (by decide) (hdep _ rfl ⟨5, .data⟩ (by simp) rfl)
        rw [h8] at e5
        obtain ⟨b, hx5, hbw, hm⟩ := e5
        replace hm : ActMap w' b (2 * c) [] := by simpa using hm
        obtain ⟨w2, hrun, hm2, hturn⟩ := hm.store (good_idle c hc8) (by simp) (by decide)
        refine wpOp_step rfl (fun K hK => ?_)
        rw [if_pos (wanted_none rfl _)]
        refine wp_insert (.tmp 17) (.tmp 19) (.const (.int .i64 0)) rfl hx5 e7 rfl hrun ?_
        exact hK _ _ ⟨X, rfl, hS.step8 hs hnl (hdep _ rfl ⟨5, .data⟩ (by simp) rfl) hx5 hbw hm hturn hm2⟩
      · have h8 : listed.getD 8 false = true := hdep _ rfl ⟨8, .data⟩ (by simp) rfl
        have e5 := hS.f 5 (by decide) (hdep _ rfl ⟨5, .data⟩ (by simp) rfl)
        rw [h8] at e5
        refine wpOp_step rfl (fun K hK => ?_)
        unfold fr1
        go_simp
        exact hK _ _ ⟨upd X 9 (X 5), rfl, hS.step hs 9 (by decide) (Old.refl _) hS.below (fun _ => h8) e5⟩
      · have e0 : X 0 = .agg #[.int .i64 c, .slice A n cap] := hS.f 0 (by decide) (hdep _ rfl ⟨0, .data⟩ (by simp) rfl)
        have h9 := hdep _ rfl ⟨9, .data⟩ (by simp) rfl
        have h8 := hS.late 9 (by decide) (by decide) h9
        obtain ⟨g1, e1, hg1, hG1⟩ := hS.f 1 (by decide) (hdep _ rfl ⟨1, .data⟩ (by simp) rfl)
        obtain ⟨g4, e4, hg4, hG4⟩ := hS.f 4 (by decide) (hdep _ rfl ⟨4, .data⟩ (by simp) rfl)
        obtain ⟨b, e9, hb, hM⟩ := hS.f 9 (by decide) h9
        have H8 := Lib.hid h8
        have H9 := Lib.hid h9
        clear h8 h9 hnl
        refine wpOp_step rfl (fun K hK => ?_)
        unfold fr1
        go_simp
        exact hK _ _ ⟨upd (upd (upd (upd (upd X 0 (.agg #[.int .i64 c, .slice A n cap])) 1 (.slice (some ⟨g1, 0, none⟩) 1 1)) 4 (.slice (some ⟨g4, 0, none⟩) 1 1)) 9 (.map (some b))) 10 (.agg #[.int .i64 c, .slice A n cap, .slice (some ⟨g1, 0, none⟩) 1 1, .slice (some ⟨g4, 0, none⟩) 1 1, .map (some b)]), rfl, by
          rw [upd_eq e0, upd_eq e1, upd_eq e4, upd_eq e9]
          exact hS.step hs 10 (by decide) (Old.refl _) hS.below (fun _ => H8.out) ⟨_, _, _, rfl, ⟨g1, rfl, hg1, hG1⟩, ⟨g4, rfl, hg4, hG4⟩, ⟨b, rfl, hb, hM⟩⟩⟩
      · have h10 := hdep _ rfl ⟨10, .data⟩ (by simp) rfl
        have h8 := hS.late 10 (by decide) (by decide) h10
        obtain ⟨wv, av, mv, e10, hW, hAc, hM⟩ := hS.f 10 (by decide) h10
        have H8 := Lib.hid h8
        have H10 := Lib.hid h10
        clear h8 h10 hnl
        refine wpOp_step rfl (fun K hK => ?_)
        unfold fr1
        go_simp
        exact hK _ _ ⟨upd (upd X 10 (.agg #[.int .i64 c, .slice A n cap, wv, av, mv])) 11 (.pointer (some ⟨w'.heap.size, 0, none⟩)), rfl, by
          rw [upd_eq e10]
          exact hS.step hs 11 (by decide) (Old.alloc _ _) (hS.below.alloc (Nat.le_of_lt hS.box.lt) _) (fun _ => H8.out) ⟨_, wv, av, mv, rfl, hS.box.lt, Blk.new _ _ _, hW.old (Old.alloc _ _), hAc.old (Old.alloc _ _), hM.old (Old.alloc _ _)⟩⟩
      · have h11 := hdep _ rfl ⟨11, .data⟩ (by simp) rfl
        have h8 := hS.late 11 (by decide) (by decide) h11
        have e11 := hS.f 11 (by decide) h11
        have H8 := Lib.hid h8
        have H11 := Lib.hid e11
        clear h8 h11 hnl e11
        refine wpOp_step rfl (fun K hK => ?_)
        unfold fr1
        go_simp
        exact hK _ _ ⟨upd X 12 (X 11), rfl, hS.step hs 12 (by decide) (Old.refl _) hS.below (fun _ => H8.out) H11.out⟩
  case rest =>
    obtain ⟨hF, hbe, hbox⟩ := hcut
    obtain ⟨gm, b, wv, av, rfl, hgm, hM⟩ := Mon.start hc8 hF
    have hDn := hr.1
    have hO : Outer w gm b c n cap A D 0 wc := ⟨[[]], wv, av, by simp, by simp, by simp, rfl, hM, by simp, hbox, hbe⟩
    have HDN := Lib.hid hDn
    have hn4 : n ≤ 4 := by have := hD.2.2.1; omega
    clear hF hbox hbe hM hDn
    go_wp2_with fail
    go_loopw [5] (fun i wr => ∃ k : Nat, i = .int .i64 k ∧ Outer w gm b c n cap A D k wr) (fun i _ => 2001 - (intOf i).toNat)
    case atStart => exact ⟨0, rfl, hO⟩
    case round =>
      obtain ⟨k, rfl, W, wv, av, hW0, hkW, hW2, hrun, hM, hwords, hbox, hbe⟩ := hrel
      obtain ⟨gw, cpw, hwv, hgwB, hgw⟩ := hM.words.form hW0
      have hs4 : wr.cell? ⟨gm, 2, none⟩ = some (.slice (some ⟨gw, 0, none⟩) W.length cpw) := by rw [hM.blk.cell, ← hwv]; rfl
      have HWV := Lib.hid hwv
      have HRUN := Lib.hid hrun
      have HWORDS := Lib.hid hwords
      clear hwv hrun hwords
      by_cases hlt : k < W.length
      · have hd0 := hbox.cell 0
        simp at hd0
        have hd1 := hbox.cell 1
        simp at hd1
        have hconv := fun (W' : World) => Lib.run_convert_string_bytes (P := Try.prog) W' 9 65 5 ⟨(Dy.steps n).toArray⟩ (by kernel_rfl : Try.prog.underlying 9 = some .string) (by kernel_rfl) (by kernel_rfl)
        go_wp2_with (go_at_call 25; refine (steps_any c A n cap _ hn4 hcap).mono ?_; rintro e w1 ⟨rfl, hb1⟩)
        clear hconv
        have hrw1 : Dy.rowK c D k (Dy.run c D (2000 - k) (k + 1)) ((Dy.steps n).drop 0) W = Dy.list c D := by
          rw [← HRUN.out]
          obtain ⟨f, hf⟩ : ∃ f, 2001 - k = f + 1 := ⟨2000 - k, by omega⟩
          have hf2 : 2000 - k = f := by omega
          rw [hf, hf2, List.drop_zero]
          simp [Dy.run, hlt, HDN.out]
        have hold : Old wr (Lib.bytesWorld w1 5 ⟨(Dy.steps n).toArray⟩) := fun i hi => (Lib.bytesWorld_at_old w1 5 _ i (Nat.lt_of_lt_of_le hi hb1.size)).trans (hb1.block i hi)
        have hzw := hbe.size
        have hI : Inner w gm b c n cap A D k W w1.heap.size 0 (Lib.bytesWorld w1 5 ⟨(Dy.steps n).toArray⟩) := by
          refine ⟨W, wv, av, hlt, rfl, hW2, hrw1, hM.old hold, HWORDS.out, hold.blk hbox, ?_, _, _, Lib.bytesWorld_at_new w1 5 ⟨(Dy.steps n).toArray⟩, fun j s hj => ?_⟩
          · exact below_bytesWorld (hbe.trans (hb1.mono hzw)) (Nat.le_trans hzw hb1.size) _ _
          · have hjl : j < (Dy.steps n).length := (List.getElem?_eq_some_iff.1 hj).1
            obtain ⟨_, rfl⟩ := List.getElem?_eq_some_iff.1 hj
            simp [Lib.bytesCells, Array.getElem?_append, hjl]
        have HI := Lib.hid hI
        clear hI hrw1 hold hM hbe hs4 hbox hd0 hd1 hb1 hzw
        have hsl : (Dy.steps n).length ≤ 6 := by simp [Dy.steps]; omega
        obtain ⟨wo, hwo⟩ : ∃ wo : World, wo = wr := ⟨_, rfl⟩
        clear hwo
        generalize grownCap w1 _ 0 5 = cp
        generalize Lib.bytesWorld w1 5 ⟨(Dy.steps n).toArray⟩ = wi at *
        generalize w1.heap.size = g3 at *
        go_loopw [36] (fun t wr => ∃ j : Nat, t = .int .i64 j ∧ j ≤ (Dy.steps n).length ∧ Inner w gm b c n cap A D k W g3 j wr) (fun t _ => (Dy.steps n).length - (intOf t).toNat)
        case atStart => exact ⟨0, rfl, by omega, HI.out⟩
        case round =>
          obtain ⟨j, rfl, hj, W1, wv1, av1, hkW1, hWk, hW12, hrow, hM, hwords, hbox, hbe, hbytes⟩ := hrel
          by_cases hltj : j < (Dy.steps n).length
          · obtain ⟨s, hs⟩ : ∃ s, (Dy.steps n)[j]? = some s := ⟨_, List.getElem?_eq_getElem hltj⟩
            have hsm : s ∈ Dy.steps n := List.mem_of_getElem? hs
            have hby := hbytes.cell hs
            obtain ⟨l, hl⟩ : ∃ l, W1[k]? = some l := ⟨_, List.getElem?_eq_getElem hkW1⟩
            obtain ⟨gw1, cpw1, rfl, hcw⟩ := hM.word hl
            obtain ⟨ga1, cpa1, rfl, hca⟩ := hM.action (i := k) (l := Dy.act c D l) (by simp [hl])
            have hs4 := hM.blk.cell 2
            simp at hs4
            have hs5 := hM.blk.cell 3
            simp at hs5
            have hs6 := hM.blk.cell 4
            simp at hs6
            have henc : (⟨l.toArray⟩ : ByteArray) ++ Utf8.encode (wrap32 ((s.toNat : Nat) : Int)) = ⟨(l ++ [s]).toArray⟩ := by
              rw [show wrap32 ((s.toNat : Nat) : Int) = ((s.toNat : Nat) : Int) from by have := UInt8.toNat_lt s; unfold wrap32; omega, enc_step hsm]
              apply ByteArray.ext
              simp
            have hez : (Utf8.encode (wrap32 ((s.toNat : Nat) : Int))).size ≤ 1 := by
              rw [show wrap32 ((s.toNat : Nat) : Int) = ((s.toNat : Nat) : Int) from by have := UInt8.toNat_lt s; unfold wrap32; omega, enc_step hsm]
              exact Nat.le_refl _
            have hl64 : l.length ≤ 64 := (hwords l (List.mem_of_getElem? hl)).1
            have HLW := Lib.hid (hwords l (List.mem_of_getElem? hl)).2
            have HENC := Lib.hid henc
            have HSM := Lib.hid hsm
            have HS := Lib.hid hs
            have HROW := Lib.hid hrow
            have HBY := Lib.hid hbytes
            have HWD := Lib.hid hwords
            have HWK := Lib.hid hWk
            have HLL := Lib.hid hl
            clear hs hrow hbytes hwords hWk hl
            clear henc hsm
            go_upto_region 9 with fail
            rw [HENC.out]
            obtain ⟨sw, hsw⟩ : ∃ sw : ByteArray, sw = ⟨(l ++ [s]).toArray⟩ := ⟨_, rfl⟩
            rw [← hsw]
            have hswn : sw.size = l.length + 1 := by rw [hsw]; simp [ByteArray.size]
            have hswx : sw.extract (sw.size - 1) sw.size = ⟨#[s]⟩ := by
              rw [hswn, hsw]
              apply ByteArray.ext
              simp [ByteArray.data_extract]
            have hsw1 : 1 ≤ sw.size := by omega
            have hsw65 : sw.size ≤ 65 := by omega
            have HSW := Lib.hid hsw
            have HSWN := Lib.hid hswn
            have HSWX := Lib.hid hswx
            clear hsw hswn hswx
            go_cut [8, 9] (fun x8 x9 wc2 => x8 = .string sw ∧ ∃ g9, x9 = .pointer (some ⟨g9, 0, none⟩) ∧ Blk wc2 g9 53 (actA (Dy.act c D (l ++ [s]))) ∧ wr.heap.size ≤ g9 ∧ Below wr.heap.size wr wc2)
            case first =>
              have hd0 := hbox.cell 0
              simp at hd0
              have hd1 := hbox.cell 1
              simp at hd1
              have hS : ∀ W', Old wr W' → W'.cell? ⟨w.heap.size, 0, none⟩ = some (.int .i64 c) ∧ W'.cell? ⟨w.heap.size, 1, none⟩ = some (.slice A n cap) ∧ W'.cell? ⟨gm, 3, none⟩ = some (.slice (some ⟨ga1, 0, none⟩) W1.length cpa1) ∧ W'.rangeAt ga1 (k * 16) (actL (Dy.act c D l)) := fun W' ho =>
                ⟨(ho.cell hbox.lt).trans hd0, (ho.cell hbox.lt).trans hd1, (ho.cell hM.blk.lt).trans hs5, fun j v hv => by
                  have := hca j v hv
                  exact (ho.cell (block_lt_of_cell this)).trans this⟩
              have hu53 := und53
              have hl2c : (Dy.act c D l).length ≤ 16 := by rw [Dy.act, on_length, idle_len']; omega
              have hl2f : (Dy.act c D (l ++ [s])).length ≤ 16 := by rw [act_len]; omega
              have hones := actL_one (Dy.act c D (l ++ [s]))
              have hi53c := actL_info _ hl2f
              have hrw : RowsAre wr B A n D := hr.keep fun p hp => hbe.cell (by omega)
              have hBw : B ≤ wr.heap.size := Nat.le_trans hB hbe.size
              have HLN := Lib.hid ((actL_length _ hl2f).trans (actA_size [] (by simp)).symm)
              have hi53 := actL_info _ hl2c
              have hi53b := actL_length _ hl2c
              have hk0 : (0 : Int) ≤ (k : Int) := by omega
              have hkl : (k : Int) < (W1.length : Int) := by omega
              have hws : IntKind.i64.wrap ((sw.size : Int) - 1) = (sw.size : Int) - 1 := IntWalk.i64_in _ (by omega)
              have hws0 : (0 : Int) ≤ (sw.size : Int) - 1 := by omega
              have hws1 : (sw.size : Int) - 1 ≤ (sw.size : Int) := by omega
              have hws3 : (1 : Int) ≤ (sw.size : Int) := by omega
              have hws4 : (sw.size : Int) ≤ (sw.size : Int) := by omega
              have hws2 : ((sw.size : Int) - 1).toNat = sw.size - 1 := by omega
              go_region_held3 (fun w' => w'.cell? ⟨w.heap.size, 0, none⟩ = some (.int .i64 c) ∧ w'.cell? ⟨w.heap.size, 1, none⟩ = some (.slice A n cap) ∧ w'.cell? ⟨gm, 3, none⟩ = some (.slice (some ⟨ga1, 0, none⟩) W1.length cpa1) ∧ w'.rangeAt ga1 (k * 16) (actL (Dy.act c D l))) (first
                | exact hS _ (fun _ _ => rfl)
                | exact hS _ (fun i hi => Old.alloc wr _ i hi)
                | exact hS _ O3
                | exact hS _ (fun i hi => (Old.alloc w3 _ i (by have := B3.size; omega)).trans (O3 i hi))
                | exact hS _ (O3.cells _ _ _ (by omega))
                | exact hS _ (Old.cells (w2 := w3.alloc _) (fun i hi => (Old.alloc w3 _ i (by have := B3.size; omega)).trans (O3 i hi)) _ _ _ (by have := B3.size; omega))) (first
                | (go_at_call 20
                   refine (on_step c n cap A D l s _ _ B hD ?_ ?_ HSM.out HLW.out HSWX.out).mono ?_
                   · first | exact hrw | exact hrw.keep (fun p hp => (Old.alloc wr _).cell (by omega))
                   · first | exact hBw | (have := hBw; (try simp) <;> omega)
                   rintro e w3 ⟨rfl, hb3⟩
                   have O3 : Old wr w3 := by first | exact hb3.block | exact fun i hi => (hb3.block i (by (try simp) <;> omega)).trans (Old.alloc wr _ i hi)
                   have B3 : Below wr.heap.size wr w3 := by first | exact ⟨hb3.os, hb3.tape, hb3.output, hb3.size, O3⟩ | exact ⟨hb3.os, hb3.tape, hb3.output, Nat.le_trans (by (try simp) <;> omega) hb3.size, O3⟩
                   first
                     | (have bz : Blk w3 wr.heap.size 53 (actA []) := (hb3.block wr.heap.size (by simp)).trans (heap_alloc_new wr _)
                        have th : w3.there wr.heap.size 0 (actL (Dy.act c D (l ++ [s]))).length := bz.there HLN.out)
                     | (have th : (w3.alloc (.cells #[.int .i64 0, .int .i64 0, .int .i64 0, .int .i64 0, .int .i64 0, .int .i64 0, .int .i64 0, .int .i64 0, .int .i64 0, .int .i64 0, .int .i64 0, .int .i64 0, .int .i64 0, .int .i64 0, .int .i64 0, .int .i64 0] 53)).there w3.heap.size 0 (actL (Dy.act c D (l ++ [s]))).length := (Blk.new w3 53 (actA [])).there HLN.out)))
              · go_wp2_with fail
                go_meet
                exact ⟨rfl, w3.heap.size, rfl, blk_all (Blk.new w3 53 (actA [])) HLN.out, B3.size, below_cells B3.size _ 0 _ (B3.alloc B3.size _)⟩
              · go_wp2_with fail
                go_meet
                exact ⟨rfl, wr.heap.size, rfl, blk_all bz HLN.out, Nat.le_refl _, below_cells (Nat.le_refl _) _ 0 _ B3⟩
            case rest =>
              obtain ⟨rfl, g9, rfl, hB9, hg9, hbc⟩ := hcut
              have hM2 := hM.old (Old.below hbc)
              have hs6 := hM2.blk.cell 4
              simp at hs6
              have hu53 := und53
              have hl2f : (Dy.act c D (l ++ [s])).length ≤ 16 := by rw [act_len]; omega
              have hi53 := actL_info _ hl2f
              have hi53b := actL_length _ hl2f
              have hr9 : wc.rangeAt g9 0 (actL (Dy.act c D (l ++ [s]))) := fun j v hv => by rw [Nat.zero_add, hB9.cell]; simpa [actA] using hv
              have hzw := hbe.size
              by_cases hmem : Dy.act c D (l ++ [s]) ∈ W1.map (Dy.act c D)
              · obtain ⟨q, hq⟩ := List.getElem?_of_mem hmem
                have hlk : (Instr.lookup 62 (.map (some b)) (.agg (actL (Dy.act c D (l ++ [s]))).toArray) true).run Try.prog wc.drew = .ok (.tuple #[.int .i64 q, .bool true]) wc.drew := ActMap.look_yes (ActMap.block (w' := wc.drew) hM2.map rfl) hq
                have HQ := Lib.hid hq
                clear hq
                go_upto_region 10 with fail
                go_region_held3 (fun w' => w'.cell? ⟨gm, 4, none⟩ = some (.map (some b)) ∧ w'.rangeAt g9 0 (actL (Dy.act c D (l ++ [s])))) (first
                  | exact ⟨hs6, hr9⟩) (fail)
                have hrow2 : Dy.rowK c D k (Dy.run c D (2000 - k) (k + 1)) ((Dy.steps n).drop (j + 1)) W1 = Dy.list c D := by
                  rw [← HROW.out, rowK_step HS.out HLL.out, extend_old hmem]
                  rfl
                have HR2 := Lib.hid hrow2
                clear hrow2 hlk hmem
                go_wp2_with fail
                go_roundw
                case rel =>
                  refine ⟨j + 1, by go_num, by omega, W1, _, _, hkW1, HWK.out, hW12, HR2.out, hM2.old (fun _ _ => rfl), HWD.out, (Old.below hbc).blk hbox, ?_, (HBY.out.old (Old.below hbc)).block rfl⟩
                  exact hbe.trans ⟨hbc.os, hbc.tape, hbc.output, hbc.size, fun i hi => hbc.block i (by omega)⟩
                case measure => simp [intOf]; omega
              · have hgood : Good (2 * c) (Dy.act c D (l ++ [s])) := ⟨act_len _ _ _, by omega, fun x hx => by
                  have := act_lt hD (l := l ++ [s]) (fun y hy => by
                    rw [HDN.out]
                    rcases List.mem_append.1 hy with h | h
                    · exact HLW.out y h
                    · rw [List.mem_singleton.1 h]; exact HSM.out) x hx
                  omega⟩
                have hlk : (Instr.lookup 62 (.map (some b)) (.agg (actL (Dy.act c D (l ++ [s]))).toArray) true).run Try.prog wc.drew = .ok (.tuple #[.int .i64 0, .bool false]) wc.drew := ActMap.look_no (ActMap.block (w' := wc.drew) hM2.map rfl) hgood hmem
                have hs7 := hM2.blk.cell 2
                simp at hs7
                go_upto_region 10 with fail
                go_region_held3 (fun w' => w'.cell? ⟨gm, 4, none⟩ = some (.map (some b)) ∧ w'.rangeAt g9 0 (actL (Dy.act c D (l ++ [s])))) (first
                  | exact ⟨hs6, hr9⟩) (fail)
                have hlen1 : (l ++ [s]).length = sw.size := by rw [HSWN.out]; simp
                by_cases hfull : W1.length = 2000 ∨ 64 < sw.size
                · have hnone : Dy.list c D = none := by
                    rw [← HROW.out, rowK_step HS.out HLL.out, extend_full hmem (by rw [hlen1]; exact hfull)]
                    rfl
                  have HN := Lib.hid hnone
                  clear hnone hlk hmem hlen1
                  by_cases hf1 : W1.length = 2000
                  · have ht1 : ((W1.length : Int) == 2000) = true := beq_t (by omega)
                    clear hfull hf1
                    go_wp2_with fail
                    go_ret2
                    exact .inr ⟨HN.out, rfl, hbe.trans ⟨hbc.os, hbc.tape, hbc.output, hbc.size, fun i hi => hbc.block i (by omega)⟩⟩
                  · have ht1 : ((W1.length : Int) == 2000) = false := beq_f (by omega)
                    have ht2 : (64 : Int) < (sw.size : Int) := by omega
                    clear hfull hf1
                    go_wp2_with fail
                    go_ret2
                    exact .inr ⟨HN.out, rfl, hbe.trans ⟨hbc.os, hbc.tape, hbc.output, hbc.size, fun i hi => hbc.block i (by omega)⟩⟩
                · have hsome : Dy.extend c D W1 (l ++ [s]) = some (W1 ++ [l ++ [s]]) := extend_new hmem (by rw [hlen1]; exact hfull)
                  have ht1 : ((W1.length : Int) == 2000) = false := beq_f (by omega)
                  have ht2 : ¬ (64 : Int) < (sw.size : Int) := by omega
                  have hW13 : W1.length < 2000 := by omega
                  have HSO := Lib.hid hsome
                  have HMEM := Lib.hid hmem
                  clear hsome hlk hmem hlen1 hfull
                  go_upto_region 14 with fail
                  obtain ⟨w5, hupd, hm5, hturn⟩ := ActMap.store (w := wc.drew.drew) (ActMap.block (w' := wc.drew.drew) hM2.map rfl) hgood HMEM.out (by simp; omega)
                  rw [List.length_map] at hupd
                  replace hupd : (Instr.mapUpdate 62 (.map (some b)) (.agg (actL (Dy.act c D (l ++ [s]))).toArray) (.int .i64 (W1.length : Nat))).run Try.prog wc.drew.drew = .ok () w5 := hupd
                  have hM5 : Mon w.heap.size w5 gm b (.slice (some ⟨gw1, 0, none⟩) W1.length cpw1) (.slice (some ⟨ga1, 0, none⟩) (W1.map (Dy.act c D)).length cpa1) c n cap A W1 (W1.map (Dy.act c D)) (W1.map (Dy.act c D) ++ [Dy.act c D (l ++ [s])]) := Mon.turned (w := wc.drew.drew) (hM2.old (fun _ _ => rfl)) hm5 hturn
                  have hB95 : Blk w5 g9 53 (actA (Dy.act c D (l ++ [s]))) := Blk.turned (w := wc.drew.drew) (hB9.drew.drew) (hM2.map.block rfl) hturn
                  have hr95 : w5.rangeAt g9 0 (actL (Dy.act c D (l ++ [s]))) := fun j v hv => by rw [Nat.zero_add, hB95.cell]; simpa [actA] using hv
                  have hk2 := hM5.blk.cell 2
                  simp at hk2
                  have hk4 := hM5.blk.cell 4
                  simp at hk4
                  go_region_held3 (fun w' => w'.cell? ⟨gm, 4, none⟩ = some (.map (some b)) ∧ w'.cell? ⟨gm, 2, none⟩ = some (.slice (some ⟨gw1, 0, none⟩) W1.length cpw1) ∧ w'.rangeAt g9 0 (actL (Dy.act c D (l ++ [s])))) (first
                    | exact ⟨hs6, hs7, hr9⟩
                    | exact ⟨hk4, hk2, hr95⟩) (fail)
                  clear hupd
                  have hz5 : wc.heap.size ≤ w5.heap.size := hturn.grown.size
                  have hz5b : w.heap.size ≤ w5.heap.size := Nat.le_trans hzw (Nat.le_trans hbc.size hz5)
                  obtain ⟨i9, hi9, hz9a, hz9b, hz9c⟩ := info_parts info9
                  have hM5a := hM5.old (Old.alloc w5 (.cells #[.string sw] 9))
                  have hB95a := (Old.alloc w5 (.cells #[.string sw] 9)).blk hB95
                  have hM5c := hM5a.blk
                  have hM2m := Lib.hid hM2.map
                  clear hk4 hr95 hs6 hs7 hr9 hM2
                  have hx1 : ∀ u ∈ [Value.string sw], u.oneCell' = true := fun u hu => by rw [List.mem_singleton.1 hu]; rfl
                  have hx2 : W1.length + 1 ≤ maxLen := by unfold maxLen; omega
                  have hx3 : (W1.length + 1) * 16 ≤ 140737488355328 := by omega
                  have hx4 : w.heap.size ≤ (w5.alloc (.cells #[.string sw] 9)).heap.size := by simp; omega
                  go_upto_region 16 with (at_builtin; refine wpList_append_lies _ rfl (.tmp 100) (.tmp 102) 70 rfl w.heap.size 9 i9 _ 1 16 und70 hi9 hz9a hz9b hz9c rfl (by decide) (.slice (some ⟨gw1, 0, none⟩) W1.length cpw1) W1.length (W1.map strV) rfl hM5a.words ⟨w5.heap.size, 0, none⟩ 1 1 [.string sw] rfl rfl (cell_one_new _ _ _) hx1 (by decide) hx2 hx3 hx4 (w5.heap.size + 1) (by simp) ?_; intro g6 cp6 w6 hown6 hg6 hat6 hlt6; have q1 := (hM5c.grown' hg6 (own_blk_ne hM5a.words hM5c (by decide))).cell 2; simp at q1; have q2 := (hM5c.grown' hg6 (own_blk_ne hM5a.words hM5c (by decide))).frozen 2)
                  have hstr : [Value.string sw] = [strV (l ++ [s])] := by rw [HSW.out]; rfl
                  rw [hstr] at hown6
                  have hM7 := hM5a.pushWord (x := l ++ [s]) hown6 hg6
                  have hb67 := hM5c.grown' hg6 (own_blk_ne hM5a.words hM5c (by decide))
                  have hB97 : Blk (w6.setCell ⟨gm, 2, none⟩ (.slice (some ⟨g6, 0, none⟩) (W1.length + 1) cp6)) g9 53 (actA (Dy.act c D (l ++ [s]))) := by
                    have h1 := hB95a.grown' hg6 (own_blk_ne hM5a.words hB95a (by decide))
                    exact h1.far (h1.ne_ hb67 (by decide)) _
                  have hbox7 : Blk (w6.setCell ⟨gm, 2, none⟩ (.slice (some ⟨g6, 0, none⟩) (W1.length + 1) cp6)) w.heap.size 28 #[.int .i64 c, .slice A n cap] := by
                    have h0 := (Old.alloc w5 (.cells #[.string sw] 9)).blk (Blk.turned (w := wc.drew.drew) ((Old.below hbc).blk hbox) (hM2m.out.block rfl) hturn)
                    have h1 := h0.grown' hg6 (own_blk_ne hM5a.words h0 (by decide))
                    exact h1.far (h1.ne_ hb67 (by decide)) _
                  have hby7 : Row5 (w6.setCell ⟨gm, 2, none⟩ (.slice (some ⟨g6, 0, none⟩) (W1.length + 1) cp6)) g3 (Dy.steps n) := by
                    have h0 : Row5 wc.drew.drew g3 (Dy.steps n) := (HBY.out.old (Old.below hbc)).block rfl
                    exact (((h0.turned (hM2m.out.block (w' := wc.drew.drew) rfl) hturn).old (Old.alloc w5 (.cells #[.string sw] 9))).grown hM5a.words (by decide) hg6).far hb67 (by decide) _ _
                  have hbe7 : Below w.heap.size w (w6.setCell ⟨gm, 2, none⟩ (.slice (some ⟨g6, 0, none⟩) (W1.length + 1) cp6)) := by
                    have h0 : Below w.heap.size w wc.drew.drew := hbe.trans ⟨hbc.os, hbc.tape, hbc.output, hbc.size, fun i hi => hbc.block i (by omega)⟩
                    have h1 := (below_turned h0 hturn hM5.bB (Nat.le_trans hzw hbc.size)).alloc hz5b (.cells #[.string sw] 9)
                    exact (below_grown h1 hM5a.words (Nat.le_refl _) hx4 hg6).setCell hM5.gmB _
                  have hz7 : w.heap.size ≤ (w6.setCell ⟨gm, 2, none⟩ (.slice (some ⟨g6, 0, none⟩) (W1.length + 1) cp6)).heap.size := hbe7.size
                  have hga : ga1 ≠ g9 := by
                    obtain ⟨_, cur, hbg⟩ := row_block hM.acts (g := ga1) rfl
                    have := hbg.lt
                    omega
                  clear hturn hM5 hM5a hM5c hB95 hB95a hk2 hstr hown6 hg6 hat6 q1 q2 hz5 hz5b hx4 hb67 hm5
                  generalize w6.setCell _ _ = w7 at *
                  obtain ⟨a0, a1, a2, a3, a4, a5, a6, a7, a8, a9, a10, a11, a12, a13, a14, a15, hA16⟩ := list16 (actL_length _ hl2f)
                  have c0 : w7.cell? ⟨g9, 0, none⟩ = some a0 := by rw [hB97.cell]; simp [actA, hA16]
                  have c1 : w7.cell? ⟨g9, 1, none⟩ = some a1 := by rw [hB97.cell]; simp [actA, hA16]
                  have c2 : w7.cell? ⟨g9, 2, none⟩ = some a2 := by rw [hB97.cell]; simp [actA, hA16]
                  have c3 : w7.cell? ⟨g9, 3, none⟩ = some a3 := by rw [hB97.cell]; simp [actA, hA16]
                  have c4 : w7.cell? ⟨g9, 4, none⟩ = some a4 := by rw [hB97.cell]; simp [actA, hA16]
                  have c5 : w7.cell? ⟨g9, 5, none⟩ = some a5 := by rw [hB97.cell]; simp [actA, hA16]
                  have c6 : w7.cell? ⟨g9, 6, none⟩ = some a6 := by rw [hB97.cell]; simp [actA, hA16]
                  have c7 : w7.cell? ⟨g9, 7, none⟩ = some a7 := by rw [hB97.cell]; simp [actA, hA16]
                  have c8 : w7.cell? ⟨g9, 8, none⟩ = some a8 := by rw [hB97.cell]; simp [actA, hA16]
                  have c9 : w7.cell? ⟨g9, 9, none⟩ = some a9 := by rw [hB97.cell]; simp [actA, hA16]
                  have c10 : w7.cell? ⟨g9, 10, none⟩ = some a10 := by rw [hB97.cell]; simp [actA, hA16]
                  have c11 : w7.cell? ⟨g9, 11, none⟩ = some a11 := by rw [hB97.cell]; simp [actA, hA16]
                  have c12 : w7.cell? ⟨g9, 12, none⟩ = some a12 := by rw [hB97.cell]; simp [actA, hA16]
                  have c13 : w7.cell? ⟨g9, 13, none⟩ = some a13 := by rw [hB97.cell]; simp [actA, hA16]
                  have c14 : w7.cell? ⟨g9, 14, none⟩ = some a14 := by rw [hB97.cell]; simp [actA, hA16]
                  have c15 : w7.cell? ⟨g9, 15, none⟩ = some a15 := by rw [hB97.cell]; simp [actA, hA16]
                  have hA16' : actA (Dy.act c D (l ++ [s])) = #[a0, a1, a2, a3, a4, a5, a6, a7, a8, a9, a10, a11, a12, a13, a14, a15] := by simp [actA, hA16]
                  have hc3 := hM7.blk.cell 3
                  simp at hc3
                  obtain ⟨i53, hi53i, hz53a, hz53b, hz53c⟩ := info_parts info53
                  have hgml := hM7.blk.lt
                  have hg9l := hB97.lt
                  have hx1' : ∀ u ∈ [a0, a1, a2, a3, a4, a5, a6, a7, a8, a9, a10, a11, a12, a13, a14, a15], u.oneCell' = true := by rw [← hA16]; exact actL_one _
                  have hx3' : (W1.length + 1) * 128 ≤ 140737488355328 := by omega
                  have hx4' : w.heap.size ≤ (w7.alloc (.cells #[a0, a1, a2, a3, a4, a5, a6, a7, a8, a9, a10, a11, a12, a13, a14, a15] 53)).heap.size := by simp; omega
                  have hM7d := (hM7.old (Old.alloc w7 (.cells #[a0, a1, a2, a3, a4, a5, a6, a7, a8, a9, a10, a11, a12, a13, a14, a15] 53))).old (fun _ _ => rfl : Old _ (w7.alloc (.cells #[a0, a1, a2, a3, a4, a5, a6, a7, a8, a9, a10, a11, a12, a13, a14, a15] 53)).drew)
                  have hacts := hM7d.acts
                  rw [List.length_map] at hacts
                  have HA16 := Lib.hid hA16
                  clear hA16
                  have hnews : ∀ (j : Nat) (u : Value), [a0, a1, a2, a3, a4, a5, a6, a7, a8, a9, a10, a11, a12, a13, a14, a15][j]? = some u → (w7.alloc (.cells #[a0, a1, a2, a3, a4, a5, a6, a7, a8, a9, a10, a11, a12, a13, a14, a15] 53)).drew.cell? ((⟨w7.heap.size, 0, none⟩ : Addr).add j) = some u := fun j u hj => by
                    rw [Addr.add_mid, Nat.zero_add]
                    show (w7.alloc (.cells #[a0, a1, a2, a3, a4, a5, a6, a7, a8, a9, a10, a11, a12, a13, a14, a15] 53)).cell? _ = _
                    rw [(Blk.new w7 53 #[a0, a1, a2, a3, a4, a5, a6, a7, a8, a9, a10, a11, a12, a13, a14, a15]).cell]
                    simpa using hj
                  have hM7b := hM7d.blk
                  go_region_law (refine step_append_lies (w := (w7.alloc (.cells #[a0, a1, a2, a3, a4, a5, a6, a7, a8, a9, a10, a11, a12, a13, a14, a15] 53)).drew) rfl (.tmp 110) (.tmp 112) 73 rfl w.heap.size 53 i53 _ 16 128 und73 hi53i hz53a hz53b hz53c rfl (by decide) (.slice (some ⟨ga1, 0, none⟩) W1.length cpa1) W1.length ((W1.map (Dy.act c D)).flatMap actL) rfl hacts ⟨w7.heap.size, 0, none⟩ 1 1 [a0, a1, a2, a3, a4, a5, a6, a7, a8, a9, a10, a11, a12, a13, a14, a15] rfl rfl hnews hx1' (by decide) hx2 hx3' hx4' (w7.heap.size + 1) (by simp) ?_; intro g8 cp8 w8 hown8 hg8 hat8 hlt8; have q1 := (hM7b.grown' hg8 (own_blk_ne hacts hM7b (by decide))).cell 3; simp at q1; have q2 := (hM7b.grown' hg8 (own_blk_ne hacts hM7b (by decide))).frozen 3)
                  all_goals
                    have hown8' : w8.ownsRow w.heap.size 53 16 (.slice (some ⟨g8, 0, none⟩) (W1.length + 1) cp8) ((W1.map (Dy.act c D)).length + 1) ((W1.map (Dy.act c D)).flatMap actL ++ actL (Dy.act c D (l ++ [s]))) := by
                      rw [HA16.out, List.length_map]; exact hown8
                    have hb8 := hM7b.grown' hg8 (own_blk_ne hacts hM7b (by decide))
                    have hI8 : Inner w gm b c n cap A D k W g3 (j + 1) (w8.setCell ⟨gm, 3, none⟩ (.slice (some ⟨g8, 0, none⟩) (W1.length + 1) cp8)) := by
                      have hbox8 : Blk (w7.alloc (.cells #[a0, a1, a2, a3, a4, a5, a6, a7, a8, a9, a10, a11, a12, a13, a14, a15] 53)).drew w.heap.size 28 #[.int .i64 c, .slice A n cap] := (Old.alloc w7 _).blk hbox7
                      have hbox9 := hbox8.grown' hg8 (own_blk_ne hacts hbox8 (by decide))
                      have hby8 : Row5 (w7.alloc (.cells #[a0, a1, a2, a3, a4, a5, a6, a7, a8, a9, a10, a11, a12, a13, a14, a15] 53)).drew g3 (Dy.steps n) := (hby7.old (Old.alloc w7 _)).block rfl
                      have hbe8 : Below w.heap.size w (w7.alloc (.cells #[a0, a1, a2, a3, a4, a5, a6, a7, a8, a9, a10, a11, a12, a13, a14, a15] 53)).drew := (hbe7.alloc hz7 _).drew
                      refine ⟨W1 ++ [l ++ [s]], .slice (some ⟨g6, 0, none⟩) (W1.length + 1) cp6, .slice (some ⟨g8, 0, none⟩) (W1.length + 1) cp8, by simp; omega, ?_, by simp; omega, ?_, ?_, ?_, hbox9.far (hbox9.ne_ hb8 (by decide)) _, ?_, ?_⟩
                      · rw [List.getElem?_append_left hkW1]; exact HWK.out
                      · rw [← HROW.out, rowK_step HS.out HLL.out, HSO.out]; rfl
                      · rw [List.map_append]
                        exact hM7d.pushAct hgood hown8' hg8
                      · intro x hx
                        rcases List.mem_append.1 hx with h | h
                        · exact HWD.out x h
                        · rw [List.mem_singleton.1 h]
                          refine ⟨by have := HSWN.out; simp; omega, fun y hy => ?_⟩
                          rcases List.mem_append.1 hy with h | h
                          · exact HLW.out y h
                          · rw [List.mem_singleton.1 h]; exact HSM.out
                      · exact (below_grown hbe8 hacts (Nat.le_refl _) hx4' hg8).setCell hM7d.gmB _
                      · exact (hby8.grown hacts (by decide) hg8).far hb8 (by decide) _ _
                    have HI8 := Lib.hid hI8
                    clear hI8 hown8 hown8' hg8 hat8 hb8 q1 q2
                    go_wp2_with fail
                    go_roundw
                    case rel => exact ⟨j + 1, by go_num, by omega, HI8.out⟩
                    case measure => simp [intOf]; omega
          · have hrun2 : Dy.run c D (2001 - (k + 1)) (k + 1) W1 = Dy.list c D := by
              have e : (Dy.steps n).drop j = [] := List.drop_eq_nil_of_le (by omega)
              rw [e] at hrow
              rw [← hrow, show 2001 - (k + 1) = 2000 - k from by omega]
              rfl
            have HR := Lib.hid hrun2
            clear hrun2 hrow
            go_wp2_with fail
            go_roundw
            case rel => exact ⟨k + 1, by go_num, W1, wv1, av1, by omega, by omega, hW12, HR.out, hM, hwords, hbox, hbe⟩
            case measure => simp [intOf]; omega
      · have hkW2 : k = W.length := by omega
        have hl : Dy.list c D = some W := by
          rw [← HRUN.out, hkW2]
          obtain ⟨f, hf⟩ : ∃ f, 2001 - W.length = f + 1 := ⟨2000 - W.length, by omega⟩
          rw [hf]
          simp [Dy.run]
        have HL := Lib.hid hl
        clear hl hkW2
        go_wp2_with fail
        go_ret2
        exact .inl ⟨W, gm, b, wv, av, HL.out, rfl, hM, HWORDS.out, hbe⟩
end Go.Proofs.Ytlbpkhbjdojdgaa
