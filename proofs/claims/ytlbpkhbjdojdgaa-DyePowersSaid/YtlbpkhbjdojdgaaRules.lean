/-
  The walk of Rules.
-/
import Derived.Test.YtlbpkhbjdojdgaaSort
namespace Go.Proofs.Ytlbpkhbjdojdgaa
open Go.RowKit Go.Sort
set_option maxRecDepth 100000

/-- The normal form of a string, by the list. -/
def nfW (c : Nat) (D : List (List Int)) (W : List (List UInt8)) (u : List UInt8) : List UInt8 := (W.find? fun x => decide (Dy.act c D x = Dy.act c D u)).getD []
/-- The rule of a string, if it is one's left side. -/
def ruleOf (c : Nat) (D : List (List Int)) (W : List (List UInt8)) (u : List UInt8) : List RuleS := if u ∉ W ∧ u.drop 1 ∈ W then [(u, nfW c D W u)] else []
def rowR (c : Nat) (D : List (List Int)) (W : List (List UInt8)) (w S : List UInt8) : List RuleS := S.flatMap fun s => ruleOf c D W (w ++ [s])
/-- The rules, not sorted. -/
def rulesU (c : Nat) (D : List (List Int)) (W V : List (List UInt8)) : List RuleS := V.flatMap fun w => rowR c D W w (Dy.steps D.length)

theorem nfW_spec {c : Nat} {D : List (List Int)} {W : List (List UInt8)} (hL : Dy.Listed c D W) {u : List UInt8} (hu : ∀ s ∈ u, s ∈ Dy.steps D.length) : nfW c D W u ∈ W ∧ Dy.act c D (nfW c D W u) = Dy.act c D u := by
  obtain ⟨x, hx, hact, _⟩ := hL.least u hu
  unfold nfW
  cases h : W.find? fun x => decide (Dy.act c D x = Dy.act c D u) with
  | none =>
    have := List.find?_eq_none.1 h x hx
    simp [hact] at this
  | some y =>
    have h1 := List.find?_some h
    exact ⟨List.mem_of_find?_eq_some h, by simpa using h1⟩

theorem steps_len (n : Nat) : (Dy.steps n).length ≤ 6 := by simp [Dy.steps]; omega
theorem rowR_len (c : Nat) (D : List (List Int)) (W : List (List UInt8)) (w : List UInt8) : ∀ S : List UInt8, (rowR c D W w S).length ≤ S.length
  | [] => by simp [rowR]
  | s :: S => by
    have := rowR_len c D W w S
    unfold rowR at this ⊢
    rw [List.flatMap_cons, List.length_append, List.length_cons]
    have : (ruleOf c D W (w ++ [s])).length ≤ 1 := by unfold ruleOf; split <;> simp
    omega
theorem rulesU_len (c : Nat) (D : List (List Int)) (W : List (List UInt8)) : ∀ V : List (List UInt8), (rulesU c D W V).length ≤ 6 * V.length
  | [] => by simp [rulesU]
  | w :: V => by
    have := rulesU_len c D W V
    unfold rulesU at this ⊢
    rw [List.flatMap_cons, List.length_append, List.length_cons]
    have h1 := rowR_len c D W w (Dy.steps D.length)
    have h2 := steps_len D.length
    omega
theorem rulesU_snoc (c : Nat) (D : List (List Int)) (W V : List (List UInt8)) (w : List UInt8) : rulesU c D W (V ++ [w]) = rulesU c D W V ++ rowR c D W w (Dy.steps D.length) := by simp [rulesU]
theorem rowR_snoc (c : Nat) (D : List (List Int)) (W : List (List UInt8)) (w S : List UInt8) (s : UInt8) : rowR c D W w (S ++ [s]) = rowR c D W w S ++ ruleOf c D W (w ++ [s]) := by simp [rowR]
theorem take_snocL {α : Type} {l : List α} {k : Nat} {x : α} (h : l[k]? = some x) : l.take (k + 1) = l.take k ++ [x] := by
  obtain ⟨hk, rfl⟩ := List.getElem?_eq_some_iff.1 h
  rw [List.take_append_getElem hk]

theorem extend_le {c : Nat} {D : List (List Int)} {W V : List (List UInt8)} {w : List UInt8} (h : W.length ≤ 2000) (e : Dy.extend c D W w = some V) : V.length ≤ 2000 := by
  unfold Dy.extend at e
  split at e
  · cases e; exact h
  · split at e
    · cases e
    · cases e
      rename_i h2
      simp
      omega
theorem rowK_le {c i : Nat} {D : List (List Int)} {K : List (List UInt8) → Option (List (List UInt8))} (hK : ∀ W V, W.length ≤ 2000 → K W = some V → V.length ≤ 2000) : ∀ (S : List UInt8) (W V : List (List UInt8)), W.length ≤ 2000 → Dy.rowK c D i K S W = some V → V.length ≤ 2000
  | [], W, V, h, e => hK W V h e
  | s :: S, W, V, h, e => by
    simp only [Dy.rowK] at e
    obtain ⟨W1, h1, h2⟩ := Option.bind_eq_some_iff.1 e
    exact rowK_le hK S W1 V (extend_le h h1) h2
theorem run_le {c : Nat} {D : List (List Int)} : ∀ (f i : Nat) (W V : List (List UInt8)), W.length ≤ 2000 → Dy.run c D f i W = some V → V.length ≤ 2000
  | 0, _, _, _, _, e => by simp [Dy.run] at e
  | f + 1, i, W, V, h, e => by
    simp only [Dy.run] at e
    split at e
    · exact rowK_le (fun W V => run_le f (i + 1) W V) _ W V h e
    · cases e; exact h
theorem list_len {c : Nat} {D : List (List Int)} {W : List (List UInt8)} (h : Dy.list c D = some W) : W.length ≤ 2000 := run_le _ _ _ _ (by simp) h

/-- What Rules answers. -/
def RulesPost (w : World) (c : Nat) (D : List (List Int)) (e : Ending) (w' : World) : Prop :=
  Below w.heap.size w w' ∧ ((Dy.list c D = none ∧ e = .returned (.tuple #[.slice none 0 0, .int .i64 3])) ∨
    (∃ W d' v, Dy.list c D = some W ∧ SortedR (rulesU c D W W) d' ∧ e = .returned (.tuple #[v, .int .i64 0]) ∧ w'.ownsRow w.heap.size 61 2 v (rulesU c D W W).length (d'.flatMap encR)))

theorem Rules_no (c : Int) (n cap : Nat) (A : Option Addr) (D : List (List Int)) (w : World) (B : Nat) (hr : RowsAre w B A n D) (hB : B ≤ w.heap.size) (hn : n ≤ maxLen) (hno : ¬ OkI c D) :
    Calls Try.prog 22 #[.agg #[.int .i64 c, .slice A n cap]] w fun e w' => e = .returned (.tuple #[.slice none 0 0, .int .i64 2]) ∧ Below w.heap.size w w' := by
  have C := Lib.hid (valid_any c n cap A D (w.alloc (.cells #[.int .i64 c, .slice A n cap] 28)) B (hr.keep fun p hp => World.cell?_alloc_lt w _ p (by omega)) (by simp; omega) hn)
  have F := (validB_no hno).symm
  clear hr hno
  go_enter Try.func22, Try.ntmps22
  go_wp2_with fail
  refine C.out.mono ?_
  rintro e w1 ⟨rfl, hb1⟩
  go_wp2_with fail
  go_ret2
  exact ⟨rfl, ((Below.refl _ _).alloc (Nat.le_refl _) _).trans (hb1.mono (by simp))⟩

theorem und56 : Try.prog.underlying 56 = some (.slice 61) := by kernel_rfl
theorem info61 : (Try.prog.info? 61).map (fun i => (i.zero, i.size, i.bytes)) = some (some (.agg #[.string ⟨#[]⟩, .string ⟨#[]⟩]), 2, 32) := by kernel_rfl

/-- What the inner loop of Rules keeps. -/
def InR (w2 : World) (c : Nat) (D : List (List Int)) (W : List (List UInt8)) (R : List RuleS) (x : List UInt8) (n g5 j : Nat) (o : Value) (wr : World) : Prop :=
  StrSet wr w2.heap.size W ∧ Below w2.heap.size w2 wr ∧ wr.ownsRow w2.heap.size 61 2 o (R ++ rowR c D W x ((Dy.steps n).take j)).length ((R ++ rowR c D W x ((Dy.steps n).take j)).flatMap encR) ∧ Row5 wr g5 (Dy.steps n)

theorem below_own_grown {B : Nat} {w w' : World} {base : Nat} {e : TypeId} {size m : Nat} {v : Value} {xs : List Value} (hr : w.ownsRow base e size v m xs) (k : w.grownBy w' v.ownBlock) (hB : B ≤ base) (hBw : B ≤ w.heap.size) : RowKit.Below B w w' :=
  below_grown (Below.refl _ _) hr hB hBw k

set_option maxHeartbeats 8000000 in
theorem Rules_yes (c n cap : Nat) (A : Option Addr) (D : List (List Int)) (w : World) (B : Nat) (hD : Dy.OkD c D) (hr : RowsAre w B A n D) (hB : B ≤ w.heap.size) (hcap : n ≤ cap) :
    Calls Try.prog 22 #[.agg #[.int .i64 c, .slice A n cap]] w (RulesPost w c D) := by
  have hDn := Lib.hid hr.1
  have hn4 : n ≤ 4 := by have := hD.2.2.1; have := hDn.out; omega
  have hwb : Below w.heap.size w (w.alloc (.cells #[.int .i64 c, .slice A n cap] 28)) := (Below.refl _ _).alloc (Nat.le_refl _) _
  have C := Lib.hid (valid_any c n cap A D (w.alloc (.cells #[.int .i64 c, .slice A n cap] 28)) B (hr.keep fun p hp => World.cell?_alloc_lt w _ p (by omega)) (by simp; omega) (by unfold maxLen; omega))
  have F := (validB_yes (OkD.okI hD)).symm
  have HR := Lib.hid hr
  have HD := Lib.hid hD
  clear hr hD
  go_enter Try.func22, Try.ntmps22
  go_wp2_with fail
  refine C.out.mono ?_
  rintro e w1 ⟨rfl, hb1⟩
  have b1 : Blk w1 w.heap.size 28 #[.int .i64 c, .slice A n cap] := (Blk.new w 28 #[.int .i64 c, .slice A n cap]).below hb1 (by simp)
  have hbe : Below w.heap.size w w1 := hwb.trans (hb1.mono (by simp))
  clear hb1 C hwb
  have C2 := Lib.hid (list_any c n cap A D w1 B HD.out (HR.out.keep fun p hp => hbe.cell (by omega)) (Nat.le_trans hB hbe.size) hcap)
  have hd0 := b1.cell 0
  simp at hd0
  have hd1 := b1.cell 1
  simp at hd1
  go_wp2_with fail
  refine C2.out.mono ?_
  rintro e w2 (⟨W, gm, b, wv, av, hlist, rfl, hM, hwords, hb2⟩ | ⟨hlist, rfl, hb2⟩)
  · have hLd := Lib.hid (Dy.listed HD.out.2.2.1 hlist)
    have HL := Lib.hid hlist
    have hb12 : Below w.heap.size w w2 := hbe.trans (hb2.mono hbe.size)
    have h2 := hM.blk.cell 2
    simp at h2
    have hgl := hM.blk.lt
    have HM := Lib.hid hM
    have HWD := Lib.hid hwords
    have hbx : Blk w2 w.heap.size 28 #[.int .i64 c, .slice A n cap] := Blk.below b1 hb2 b1.lt
    clear hlist hM hwords
    obtain ⟨gw, cpw, rfl⟩ := HM.out.words.slice
    have hW2 : W.length ≤ 2000 := list_len HL.out
    have hmk := @run_makeMap Try.prog
    go_wp2_with fail
    clear hmk
    go_loopw [32] (fun i wr => ∃ k : Nat, i = .int .i64 k ∧ k ≤ W.length ∧ StrSet wr w2.heap.size (W.take k) ∧ Below w2.heap.size w2 wr) (fun i _ => W.length - (intOf i).toNat)
    case atStart => exact ⟨0, rfl, by omega, StrSet.made w2, (Below.refl _ _).alloc (Nat.le_refl _) _⟩
    case round =>
      obtain ⟨k, rfl, hk, hset, hbr⟩ := hrel
      by_cases hlt : k < W.length
      · obtain ⟨x, hx⟩ : ∃ x, W[k]? = some x := ⟨_, List.getElem?_eq_getElem hlt⟩
        obtain ⟨g, cp, hv, hcell⟩ := HM.out.word hx
        cases hv
        have hx64 := (HWD.out x (List.mem_of_getElem? hx)).1
        have hcr : wr.cell? ⟨g, k, none⟩ = some (.string ⟨x.toArray⟩) := (Old.cell (w1 := w2) hbr.block (block_lt_of_cell hcell)).trans hcell
        obtain ⟨w5, hupd, hset5, hturn⟩ := hset.store ⟨x.toArray⟩ (by simp only [ByteArray.size, maxLen]; simp; omega) (by simp; omega)
        have HX := Lib.hid hx
        clear hx hcell
        go_wp2_with fail
        go_roundw
        case rel => exact ⟨k + 1, by go_num, by omega, by rw [take_snocL HX.out]; simpa using hset5, below_turned hbr hturn (Nat.le_refl _) hbr.size⟩
        case measure => simp [intOf]; omega
      · have hkW : k = W.length := by omega
        subst hkW
        rw [List.take_length] at hset
        have h2r : wr.cell? ⟨gm, 2, none⟩ = some (.slice gw W.length cpw) := (Old.cell (w1 := w2) hbr.block hgl).trans h2
        go_wp2_with fail
        clear h2r
        go_loopw [44, 9] (fun i o wr => ∃ k : Nat, i = .int .i64 k ∧ k ≤ W.length ∧ StrSet wr w2.heap.size W ∧ Below w2.heap.size w2 wr ∧ wr.ownsRow w2.heap.size 61 2 o (rulesU c D W (W.take k)).length ((rulesU c D W (W.take k)).flatMap encR)) (fun i _ _ => W.length - (intOf i).toNat)
        case atStart => exact ⟨0, rfl, by omega, hset, hbr, by simpa [rulesU] using World.ownsRow_nil _ _ _ _⟩
        case round =>
          obtain ⟨k, rfl, hk, hset2, hbr2, hout⟩ := hrel
          by_cases hlt : k < W.length
          · obtain ⟨x, hx⟩ : ∃ x, W[k]? = some x := ⟨_, List.getElem?_eq_getElem hlt⟩
            obtain ⟨g, cp, hv, hcell⟩ := HM.out.word hx
            cases hv
            have hx64 := (HWD.out x (List.mem_of_getElem? hx)).1
            have HXS := Lib.hid (HWD.out x (List.mem_of_getElem? hx)).2
            have hcr : wr.cell? ⟨g, k, none⟩ = some (.string ⟨x.toArray⟩) := (Old.cell (w1 := w2) hbr2.block (block_lt_of_cell hcell)).trans hcell
            have hd0r : wr.cell? ⟨w.heap.size, 0, none⟩ = some (.int .i64 c) := by
              have := hbx.cell 0
              simp at this
              exact (Old.cell (w1 := w2) hbr2.block hbx.lt).trans this
            have hd1r : wr.cell? ⟨w.heap.size, 1, none⟩ = some (.slice A n cap) := by
              have := hbx.cell 1
              simp at this
              exact (Old.cell (w1 := w2) hbr2.block hbx.lt).trans this
            have hconv := fun (W' : World) => Lib.run_convert_string_bytes (P := Try.prog) W' 9 65 5 ⟨(Dy.steps n).toArray⟩ (by kernel_rfl : Try.prog.underlying 9 = some .string) (by kernel_rfl) (by kernel_rfl)
            have HX := Lib.hid hx
            obtain ⟨ov, ocap, rfl⟩ := hout.slice
            have HOUT := Lib.hid hout
            have HSET := Lib.hid hset2
            clear hx hcell hout hset2
            go_wp2_with (go_at_call 25; refine (steps_any c A n cap _ hn4 hcap).mono ?_; rintro e w3 ⟨rfl, hb3⟩)
            clear hconv
            have hold : Old wr (Lib.bytesWorld w3 5 ⟨(Dy.steps n).toArray⟩) := fun i hi => (Lib.bytesWorld_at_old w3 5 _ i (Nat.lt_of_lt_of_le hi hb3.size)).trans (hb3.block i hi)
            have hI : InR w2 c D W (rulesU c D W (W.take k)) x n w3.heap.size 0 (.slice ov (rulesU c D W (W.take k)).length ocap) (Lib.bytesWorld w3 5 ⟨(Dy.steps n).toArray⟩) := by
              refine ⟨HSET.out.block (hold _ HSET.out.lt), ?_, by simpa [rowR] using ownsRow_old HOUT.out hold, _, _, Lib.bytesWorld_at_new w3 5 ⟨(Dy.steps n).toArray⟩, fun j s hj => ?_⟩
              · exact below_bytesWorld (hbr2.trans (hb3.mono hbr2.size)) (Nat.le_trans hbr2.size hb3.size) _ _
              · have hjl : j < (Dy.steps n).length := (List.getElem?_eq_some_iff.1 hj).1
                obtain ⟨_, rfl⟩ := List.getElem?_eq_some_iff.1 hj
                simp [Lib.bytesCells, Array.getElem?_append, hjl]
            have HI := Lib.hid hI
            have HBR := Lib.hid hbr
            clear hI hold hbr2 hcr hd0r hd1r hb3 hbr hset
            have hsl : (Dy.steps n).length ≤ 6 := steps_len n
            generalize grownCap w3 _ 0 5 = cp5
            generalize Lib.bytesWorld w3 5 ⟨(Dy.steps n).toArray⟩ = wi at *
            generalize w3.heap.size = g5 at *
            go_loopw [52, 9] (fun t o wr => ∃ j : Nat, t = .int .i64 j ∧ j ≤ (Dy.steps n).length ∧ InR w2 c D W (rulesU c D W (W.take k)) x n g5 j o wr) (fun t _ _ => (Dy.steps n).length - (intOf t).toNat)
            case atStart => exact ⟨0, rfl, by omega, HI.out⟩
            case round =>
              obtain ⟨j, rfl, hj, hset3, hbr3, hout3, hbytes⟩ := hrel
              by_cases hltj : j < (Dy.steps n).length
              · obtain ⟨s, hs⟩ : ∃ s, (Dy.steps n)[j]? = some s := ⟨_, List.getElem?_eq_getElem hltj⟩
                have hsm : s ∈ Dy.steps n := List.mem_of_getElem? hs
                have hby := hbytes.cell hs
                have henc : (⟨x.toArray⟩ : ByteArray) ++ Utf8.encode (wrap32 ((s.toNat : Nat) : Int)) = ⟨(x ++ [s]).toArray⟩ := by
                  rw [show wrap32 ((s.toNat : Nat) : Int) = ((s.toNat : Nat) : Int) from by have := UInt8.toNat_lt s; unfold wrap32; omega, enc_step hsm]
                  apply ByteArray.ext
                  simp
                have hez : (Utf8.encode (wrap32 ((s.toNat : Nat) : Int))).size ≤ 1 := by
                  rw [show wrap32 ((s.toNat : Nat) : Int) = ((s.toNat : Nat) : Int) from by have := UInt8.toNat_lt s; unfold wrap32; omega, enc_step hsm]
                  exact Nat.le_refl _
                have HENC := Lib.hid henc
                have HSM := Lib.hid hsm
                have HS := Lib.hid hs
                have HBY := Lib.hid hbytes
                clear hs hbytes henc hsm
                go_upto_region 20 with fail
                rw [HENC.out]
                obtain ⟨sw, hsw⟩ : ∃ sw : ByteArray, sw = ⟨(x ++ [s]).toArray⟩ := ⟨_, rfl⟩
                rw [← hsw]
                have hswn : sw.size = x.length + 1 := by rw [hsw]; simp [ByteArray.size]
                have hswl : sw.data.toList = x ++ [s] := by rw [hsw]
                have hswx : (sw.extract 1 sw.size).data.toList = (x ++ [s]).drop 1 := by
                  rw [hswn, hsw]
                  simp [ByteArray.data_extract]
                  rw [List.take_of_length_le (by simp)]
                have hsw1 : 1 ≤ sw.size := by omega
                have hsw1i : (1 : Int) ≤ (sw.size : Int) := by omega
                have hsw65 : sw.size ≤ 65 := by omega
                have htl : (sw.extract 1 sw.size).size ≤ maxLen := by
                  have : (sw.extract 1 sw.size).size ≤ 65 := by rw [ByteArray.size_extract]; omega
                  unfold maxLen; omega
                have hstep : rowR c D W x ((Dy.steps n).take (j + 1)) = rowR c D W x ((Dy.steps n).take j) ++ ruleOf c D W (x ++ [s]) := by rw [take_snocL HS.out, rowR_snoc]
                have HST := Lib.hid hstep
                have hlk1 := hset3.look sw (by unfold maxLen; omega)
                have hlk2 := hset3.look (sw.extract 1 sw.size) htl
                rw [hswl] at hlk1
                rw [hswx] at hlk2
                have HSWL := Lib.hid hswl
                have HSWN := Lib.hid hswn
                clear hsw hstep hswl hswx hswn
                by_cases hu : x ++ [s] ∈ W
                · have hr0 : ruleOf c D W (x ++ [s]) = [] := if_neg (fun h => h.1 hu)
                  have HI : Hid (InR w2 c D W (rulesU c D W (W.take k)) x n g5 (j + 1) u9 wr) := by
                    refine ⟨hset3, hbr3, ?_, HBY.out⟩
                    rw [HST.out, hr0, List.append_nil]
                    exact hout3
                  have hdec : decide (x ++ [s] ∈ W) = true := decide_eq_true hu
                  rw [hdec] at hlk1
                  clear hr0 hout3 hlk2
                  go_wp2_with fail
                  exact ⟨⟨j + 1, by go_num, by omega, HI.out⟩, by simp [intOf]; omega⟩
                · have hdec : decide (x ++ [s] ∈ W) = false := decide_eq_false hu
                  rw [hdec] at hlk1
                  by_cases ht : (x ++ [s]).drop 1 ∈ W
                  · have hr1 : ruleOf c D W (x ++ [s]) = [(x ++ [s], nfW c D W (x ++ [s]))] := if_pos ⟨hu, ht⟩
                    have hdec2 : decide ((x ++ [s]).drop 1 ∈ W) = true := decide_eq_true ht
                    rw [hdec2] at hlk2
                    have hmade : ∀ y ∈ x ++ [s], y ∈ Dy.steps n := fun y hy => by
                      rcases List.mem_append.1 hy with h | h
                      · exact HXS.out y h
                      · rw [List.mem_singleton.1 h]; exact HSM.out
                    obtain ⟨hnf1, hnf2⟩ := nfW_spec hLd.out (u := x ++ [s]) (by rw [hDn.out]; exact hmade)
                    obtain ⟨q, hq⟩ := List.getElem?_of_mem hnf1
                    have hz12 := hb12.size
                    have hRW := (HR.out.keep (fun p hp => (Old.cell (w1 := w2) hbr3.block (by omega)).trans (hb12.cell (by omega))) : RowsAre wr B A n D)
                    have C3 := Lib.hid (normal_any c n cap A D w1.heap.size gm b _ av W sw q (nfW c D W (x ++ [s])) wr B (HM.out.old hbr3.block) HD.out hRW (Nat.le_trans hB (Nat.le_trans hb12.size hbr3.size)) (by unfold MadeOf; rw [HSWL.out]; exact hmade) (by omega) hq (by rw [HSWL.out]; exact hnf2))
                    clear hmade hnf1 hnf2 hq hRW
                    have hRl : (rulesU c D W (W.take k) ++ rowR c D W x ((Dy.steps n).take j)).length ≤ 12006 := by
                      have h1 := rulesU_len c D W (W.take k)
                      have h2 := rowR_len c D W x ((Dy.steps n).take j)
                      rw [List.length_append]
                      simp only [List.length_take] at h1 h2
                      omega
                    have HR1 := Lib.hid hr1
                    clear hr1
                    generalize nfW c D W (x ++ [s]) = y at *
                    obtain ⟨o9, ocap9, rfl⟩ := hout3.slice
                    go_upto_region 21 with fail
                    obtain ⟨i61, hi61, hz61a, hz61b, hz61c⟩ := info_parts info61
                    have hx1 : ∀ u ∈ [Value.string sw, Value.string ⟨y.toArray⟩], u.oneCell' = true := fun u hu => by
                      rcases List.mem_cons.1 hu with rfl | hu
                      · rfl
                      · rw [List.mem_singleton.1 hu]; rfl
                    obtain ⟨R, hR⟩ : ∃ R, R = rulesU c D W (W.take k) ++ rowR c D W x ((Dy.steps n).take j) := ⟨_, rfl⟩
                    rw [← hR] at hRl hout3
                    rw [← hR]
                    have hx2 : R.length + 1 ≤ maxLen := by unfold maxLen; omega
                    have hx3 : (R.length + 1) * 32 ≤ 140737488355328 := by omega
                    have HRR := Lib.hid hR
                    clear hR
                    go_upto_region 22 with (first
                      | (go_at_call 18
                         refine C3.out.mono ?_
                         rintro e w4 ⟨rfl, hb4⟩
                         have hO4 : Old wr (w4.alloc (.cells #[.string sw, .string ⟨y.toArray⟩] 61)) := Old.trans (w1 := wr) hb4.block (Old.alloc _ _)
                         have hown4 := ownsRow_old hout3 hO4
                         have hx4 : w2.heap.size ≤ (w4.alloc (.cells #[.string sw, .string ⟨y.toArray⟩] 61)).heap.size := by have := hbr3.size; have := hb4.size; simp; omega)
                      | (at_builtin
                         refine wpList_append_lies (w4.alloc (.cells #[.string sw, .string ⟨y.toArray⟩] 61)) rfl (.tmp 71) (.tmp 77) 56 rfl w2.heap.size 61 i61 _ 2 32 und56 hi61 hz61a hz61b hz61c rfl (by decide) (.slice o9 R.length ocap9) R.length (R.flatMap encR) rfl hown4 ⟨w4.heap.size, 0, none⟩ 1 1 [.string sw, .string ⟨y.toArray⟩] rfl rfl (World.news_of_block (heap_alloc_new w4 _)) hx1 (by decide) hx2 hx3 hx4 (w4.heap.size + 1) (by simp) ?_
                         intro g6 cp6 w6 hown6 hg6 hat6 hlt6))
                    have HI : Hid (InR w2 c D W (rulesU c D W (W.take k)) x n g5 (j + 1) (.slice (some ⟨g6, 0, none⟩) (R.length + 1) cp6) w6) := by
                      have hsetV := hset3.block (hO4 _ hset3.lt)
                      refine ⟨hsetV.block (hg6.block _ hsetV.lt fun e => ?_), ?_, ?_, (HBY.out.old hO4).grown hown4 (by decide) hg6⟩
                      · obtain ⟨_, cur, hcur⟩ := row_block hown4 e.symm
                        exact hsetV.notcells hcur rfl
                      · have h1 : Below w2.heap.size w2 (w4.alloc (.cells #[.string sw, .string ⟨y.toArray⟩] 61)) := (hbr3.trans (hb4.mono hbr3.size)).alloc (Nat.le_trans hbr3.size hb4.size) _
                        exact below_grown h1 hown4 (Nat.le_refl _) hx4 hg6
                      · rw [HST.out, HR1.out, ← List.append_assoc, ← HRR.out, List.length_append, List.length_singleton, List.flatMap_append]
                        have e1 : [(x ++ [s], y)].flatMap encR = [Value.string sw, Value.string ⟨y.toArray⟩] := by
                          simp only [List.flatMap_cons, List.flatMap_nil, List.append_nil, encR, strV]
                          have : sw = ⟨(x ++ [s]).toArray⟩ := by apply ByteArray.ext; rw [← HSWL.out]
                          rw [this]
                        rw [e1]
                        exact hown6
                    clear hown6 hown4 hg6 hO4 hat6 hlt6 hout3 hset3 hbr3
                    go_wp2_with fail
                    exact ⟨⟨j + 1, by go_num, by omega, HI.out⟩, by simp [intOf]; omega⟩
                  · have hr0 : ruleOf c D W (x ++ [s]) = [] := if_neg (fun h => ht h.2)
                    have HI : Hid (InR w2 c D W (rulesU c D W (W.take k)) x n g5 (j + 1) u9 wr) := by
                      refine ⟨hset3, hbr3, ?_, HBY.out⟩
                      rw [HST.out, hr0, List.append_nil]
                      exact hout3
                    have hdec2 : decide ((x ++ [s]).drop 1 ∈ W) = false := decide_eq_false ht
                    rw [hdec2] at hlk2
                    clear hr0 hout3
                    go_wp2_with fail
                    exact ⟨⟨j + 1, by go_num, by omega, HI.out⟩, by simp [intOf]; omega⟩
              · have hjs : (Dy.steps n).take j = Dy.steps n := List.take_of_length_le (by omega)
                rw [hjs] at hout3
                have hR2 : rulesU c D W (W.take (k + 1)) = rulesU c D W (W.take k) ++ rowR c D W x (Dy.steps n) := by
                  rw [take_snocL HX.out, rulesU_snoc, hDn.out]
                rw [← hR2] at hout3
                have HO := Lib.hid hout3
                clear hout3 hR2 hjs
                go_wp2_with fail
                exact ⟨⟨k + 1, by go_num, by omega, hset3, hbr3, HO.out⟩, by simp [intOf]; omega⟩
          · have hkW : k = W.length := by omega
            subst hkW
            rw [List.take_length] at hout
            have hRl : (rulesU c D W W).length ≤ 12000 := by
              have := rulesU_len c D W W
              omega
            have HO := Lib.hid hout
            clear hout
            have C4 := Lib.hid (sortR_all u9 w2.heap.size (rulesU c D W W) wr HO.out (by omega))
            go_wp2_with fail
            refine C4.out.mono ?_
            rintro e w7 ⟨rfl, d', hsd, hown7, hg7⟩
            have HSD := Lib.hid hsd
            have HO7 := Lib.hid hown7
            clear hsd hown7
            go_wp2_with fail
            go_ret2
            exact ⟨(hb12.trans (hbr2.mono hb12.size)).trans (below_own_grown HO.out hg7 hb12.size (Nat.le_trans hb12.size hbr2.size)), .inr ⟨W, d', _, HL.out, HSD.out, rfl, base_le HO7.out hb12.size⟩⟩
  · have HL := Lib.hid hlist
    clear hlist
    go_wp2_with fail
    go_ret2
    exact ⟨hbe.trans (hb2.mono hbe.size), .inl ⟨HL.out, rfl⟩⟩
end Go.Proofs.Ytlbpkhbjdojdgaa
