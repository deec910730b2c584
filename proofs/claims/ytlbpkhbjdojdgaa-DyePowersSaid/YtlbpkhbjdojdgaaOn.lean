/-
  The walk of on: what a string makes of an action.
-/
import Derived.Test.YtlbpkhbjdojdgaaB
namespace Go.Proofs.Ytlbpkhbjdojdgaa
open Go.RowKit

theorem below_bytesWorld {B : Nat} {w0 w : World} (h : Below B w0 w) (hB : B ≤ w.heap.size) (e : TypeId) (s : ByteArray) : Below B w0 (Lib.bytesWorld w e s) := by
  refine ⟨h.os, h.tape, h.output, ?_, fun i hi => ?_⟩
  · rw [Lib.bytesWorld_size]; have := h.size; omega
  · rw [Lib.bytesWorld_at_old _ _ _ _ (Nat.lt_of_lt_of_le hi hB)]; exact h.block i hi
theorem Blk.bytes {w : World} {g : Nat} {t : TypeId} {cs : Array Value} (h : Blk w g t cs) (e : TypeId) (s : ByteArray) : Blk (Lib.bytesWorld w e s) g t cs :=
  (Lib.bytesWorld_at_old w e s g h.lt).trans h

/-- What the loops of 'on' keep: the overlay's box, the action, the result's place, the bytes. -/
structure OnAt (w wr : World) (o : Array Value) (s : ByteArray) (l : List Nat) : Prop where
  box : Blk wr w.heap.size 28 o
  act : Blk wr (w.heap.size + 1) 53 (actA l)
  res : Blk wr (w.heap.size + 1 + 1) 53 (actA [])
  byte : ∀ j, j < s.size → wr.cell? ⟨w.heap.size + 1 + 1 + 1, j, none⟩ = some (.int .u8 (s.data.toList.getD j 0).toNat)
  size : w.heap.size + 1 + 1 + 1 < wr.heap.size
  below : Below w.heap.size w wr

theorem OnAt.step {w wr w1 : World} {o : Array Value} {s : ByteArray} {l : List Nat} (h : OnAt w wr o s l) (hb : Below wr.heap.size wr w1) {k v : Nat} (hk : k < l.length) :
    OnAt w (w1.setCell ⟨w.heap.size + 1, k, none⟩ (.int .i64 (v : Nat))) o s (l.set k v) := by
  have hz := h.size
  refine ⟨(h.box.below hb (by omega)).far (by simp) _, ?_, (h.res.below hb (by omega)).far (by simp) _, fun j hj => ?_, ?_, ?_⟩
  · rw [← actA_set hk]; exact (h.act.below hb (by omega)).set_ k _
  · rw [World.cell?_setCell_other _ _ _ _ (by simp)]; exact (hb.cell (p := ⟨w.heap.size + 1 + 1 + 1, j, none⟩) (by simpa using hz)).trans (h.byte j hj)
  · have := hb.size; simp [World.setCell]; omega
  · exact (h.below.trans (hb.mono (by have := h.below.size; omega))).setCell (by simp) _

theorem OnAt.congr {w wr : World} {o : Array Value} {s : ByteArray} {l l' : List Nat} (h : OnAt w wr o s l) (e : l = l') : OnAt w wr o s l' := e ▸ h

/-- One state more has been stepped. -/
theorem mix_set (f : Nat → Nat) (la : List Nat) (k st : Nat) (h : la[k]? = some st) : ((la.take k).map f ++ la.drop k).set k (f st) = (la.take (k + 1)).map f ++ la.drop (k + 1) := by
  obtain ⟨hk, rfl⟩ := List.getElem?_eq_some_iff.1 h
  have hl : ((la.take k).map f).length = k := by simp; omega
  rw [List.set_append_right _ _ (by omega), hl, Nat.sub_self, List.drop_eq_getElem_cons hk, List.set_cons_zero, List.take_succ_eq_append_getElem hk]
  simp only [List.map_append, List.map_cons, List.map_nil, List.append_assoc, List.cons_append, List.nil_append]
theorem mix_at (f : Nat → Nat) (la : List Nat) (k st : Nat) (h : la[k]? = some st) : ((la.take k).map f ++ la.drop k)[k]? = some st := by
  obtain ⟨hk, rfl⟩ := List.getElem?_eq_some_iff.1 h
  have hl : ((la.take k).map f).length = k := by simp; omega
  rw [List.getElem?_append_right (by omega), hl, Nat.sub_self, List.drop_eq_getElem_cons hk]
  rfl
theorem mix_len (f : Nat → Nat) (la : List Nat) (k : Nat) : ((la.take k).map f ++ la.drop k).length = la.length := by
  simp; omega

theorem on_length (D : List (List Int)) : ∀ (w : List UInt8) (l : List Nat), (Dy.on D l w).length = l.length
  | [], _ => rfl
  | s :: w, l => by rw [Dy.on, List.foldl_cons]; exact (on_length D w _).trans (by simp)
theorem on_lt {c : Nat} {D : List (List Int)} (hD : Dy.OkD c D) : ∀ (w : List UInt8) (l : List Nat), (∀ x ∈ w, x ∈ Dy.steps D.length) → (∀ x ∈ l, x < 2 * c) → ∀ x ∈ Dy.on D l w, x < 2 * c
  | [], _, _, h => h
  | s :: w, l, hw, h => by
    rw [Dy.on, List.foldl_cons]
    refine on_lt hD w _ (fun x hx => hw x (by simp [hx])) fun x hx => ?_
    obtain ⟨y, hy, rfl⟩ := List.mem_map.1 hx
    exact Dy.stepN_lt hD (hw s (by simp)) (h y hy)
theorem on_snoc (D : List (List Int)) (l : List Nat) (w : List UInt8) (x : UInt8) : Dy.on D l (w ++ [x]) = (Dy.on D l w).map (Dy.stepN D x.toNat) := by
  simp [Dy.on, List.foldl_append]

set_option maxHeartbeats 800000 in
theorem on_big (c n cap : Nat) (A : Option Addr) (D : List (List Int)) (l : List Nat) (s : ByteArray) (w : World) (B : Nat) (hD : Dy.OkD c D) (hr : RowsAre w B A n D) (hB : B ≤ w.heap.size)
    (hs : ∀ x ∈ s.data.toList, x ∈ Dy.steps n) (hl : l.length = 2 * c) (hlt : ∀ x ∈ l, x < 2 * c) (hsz : s.size ≤ 1000) :
    Calls Try.prog 20 #[.agg #[.int .i64 c, .slice A n cap], .agg (actA l), .string s] w fun e w' => e = .returned (.agg (actA (Dy.on D l s.data.toList))) ∧ Below w.heap.size w w' := by
  have hc8 : c ≤ 8 := hD.2.1
  have hconv := fun (W : World) => Lib.run_convert_string_bytes (P := Try.prog) W 9 65 5 s (by kernel_rfl : Try.prog.underlying 9 = some .string) (by kernel_rfl) (by kernel_rfl)
  have HL := Lib.hid hl
  clear hl
  go_enter Try.func20, Try.ntmps20
  go_wp2
  clear hconv
  generalize grownCap _ s.size 0 5 = cp
  go_loopw [13] (fun i wr => ∃ j : Nat, j ≤ s.size ∧ i = .int .i64 j ∧ OnAt w wr #[.int .i64 c, .slice A n cap] s (Dy.on D l (s.data.toList.take j))) (fun i _ => s.size - (intOf i).toNat)
  case atStart =>
    have b1 := Blk.new w 28 #[.int .i64 c, .slice A n cap]
    refine ⟨0, by omega, rfl, ((b1.alloc _).alloc _).bytes 5 s, ((Blk.new_at 53 (actA l) (by simp)).alloc _).bytes 5 s, (Blk.new_at 53 (actA []) (by simp)).bytes 5 s, fun j hj => ?_, ?_, ?_⟩
    · have := Lib.bytesWorld_cell (((w.alloc (Obj.cells #[.int .i64 c, .slice A n cap] 28)).alloc (Obj.cells (actA l) 53)).alloc (Obj.cells (actA []) 53)) 5 s j hj
      have hz : (((w.alloc (Obj.cells #[.int .i64 c, .slice A n cap] 28)).alloc (Obj.cells (actA l) 53)).alloc (Obj.cells (actA []) 53)).heap.size = w.heap.size + 1 + 1 + 1 := by simp
      rw [hz] at this
      exact this
    · rw [Lib.bytesWorld_size]; simp
    · exact below_bytesWorld ((((Below.refl _ _).alloc (Nat.le_refl _) _).alloc (by (try simp) <;> omega) _).alloc (by (try simp) <;> omega) _) (by simp; omega) _ _
  case round =>
    obtain ⟨j, hj, rfl, hon⟩ := hrel
    by_cases hlt2 : j < s.size
    · have hby := hon.byte j hlt2
      have hc0 := hon.box.cell 0
      simp at hc0
      have hc1 := hon.box.cell 1
      simp at hc1
      have hjl : j < s.data.toList.length := by simpa using hlt2
      obtain ⟨x, hx, hxm⟩ : ∃ x, s.data.toList.getD j 0 = x ∧ x ∈ Dy.steps n := ⟨_, rfl, hs _ (by rw [List.getD_eq_getElem?_getD, List.getElem?_eq_getElem hjl]; exact List.getElem_mem hjl)⟩
      have htk : s.data.toList.take (j + 1) = s.data.toList.take j ++ [x] := by
        rw [List.take_succ_eq_append_getElem hjl, ← hx, List.getD_eq_getElem?_getD, List.getElem?_eq_getElem hjl]; rfl
      have HT := Lib.hid htk
      clear htk
      rw [hx] at hby
      clear hx
      go_wp2
      obtain ⟨la, hla⟩ : ∃ la, la = Dy.on D l (s.data.toList.take j) := ⟨_, rfl⟩
      rw [← hla] at hon
      have hn : D.length = n := hr.1
      have hlal : la.length = 2 * c := by rw [hla, on_length]; exact HL.out
      have hlat : ∀ x ∈ la, x < 2 * c := by rw [hla]; exact on_lt hD _ _ (fun x hx => by rw [hn]; exact hs x (List.mem_of_mem_take hx)) hlt
      have HLA := Lib.hid hla
      have HLL := Lib.hid hlal
      have HLT := Lib.hid hlat
      clear hla hlal hlat hn
      obtain ⟨wo, rfl⟩ : ∃ wo : World, wo = wr := ⟨_, rfl⟩
      go_loopw [20] (fun i wr => ∃ k : Nat, k ≤ 2 * c ∧ i = .int .i64 k ∧ OnAt w wr #[.int .i64 c, .slice A n cap] s ((la.take k).map (Dy.stepN D x.toNat) ++ la.drop k)) (fun i _ => 2 * c - (intOf i).toNat)
      case atStart => exact ⟨0, by omega, rfl, hon.congr (by simp)⟩
      case round =>
        obtain ⟨k, hk, rfl, hin⟩ := hrel
        by_cases hlt3 : k < 2 * c
        · have hd0 := hin.box.cell 0
          simp at hd0
          have hd1 := hin.box.cell 1
          simp at hd1
          obtain ⟨st, hst, hst2⟩ : ∃ st, la[k]? = some st ∧ st < 2 * c := by
            have := HLL.out
            exact ⟨la[k], List.getElem?_eq_getElem (by omega), HLT.out _ (List.getElem_mem _)⟩
          have hmk : k < ((la.take k).map (Dy.stepN D x.toNat) ++ la.drop k).length := by rw [mix_len, HLL.out]; exact hlt3
          have hak : wr.cell? ⟨w.heap.size + 1, k, none⟩ = some (.int .i64 st) := by
            rw [hin.act.cell k, actA_at hmk]
            have h1 := mix_at (Dy.stepN D x.toNat) la k st hst
            rw [List.getElem?_eq_getElem hmk] at h1
            rw [Option.some.inj h1]
          have hfk : wr.frozen? ⟨w.heap.size + 1, k, none⟩ = false := hin.act.frozen k
          have HM := Lib.hid (mix_set (Dy.stepN D x.toNat) la k st hst)
          clear hst
          have hrw : RowsAre wr B A n D := hr.below ((hin.below).mono hB)
          have hBw : B ≤ wr.heap.size := Nat.le_trans hB hin.below.size
          have hzw := hin.size
          go_wp2
          go_region_with (go_at_call 26; refine (step_any c n cap A D x st _ B hD (by exact hrw) (by exact hBw) hxm hst2).mono ?_; rintro e w1 ⟨rfl, hbe⟩; have q1 : w1.cell? ⟨w.heap.size + 1, k, none⟩ = some (.int .i64 st) := (hbe.cell (p := ⟨w.heap.size + 1, k, none⟩) (by simp; omega)).trans hak; have q2 : w1.frozen? ⟨w.heap.size + 1, k, none⟩ = false := (hbe.frozen (p := ⟨w.heap.size + 1, k, none⟩) (by simp; omega)).trans hfk)
          all_goals
            go_wp2
            go_roundw
            case rel =>
              have hbe' : Below wr.heap.size wr w1 := ⟨hbe.os, hbe.tape, hbe.output, hbe.size, hbe.block⟩
              exact ⟨k + 1, by omega, by go_num, (hin.step hbe' hmk).congr HM.out⟩
            case measure => simp [intOf]; omega
        · have hk2 : k = la.length := by have := HLL.out; omega
          go_wp2
          go_roundw
          case rel =>
            refine ⟨j + 1, by omega, by go_num, hin.congr ?_⟩
            rw [HT.out, on_snoc, ← HLA.out, hk2]
            simp
          case measure => simp [intOf]; omega
    · have hj2 : j = s.size := by omega
      have htk : s.data.toList.take j = s.data.toList := List.take_of_length_le (by simp; omega)
      rw [htk] at hon
      obtain ⟨la, hla⟩ : ∃ la, la = Dy.on D l s.data.toList := ⟨_, rfl⟩
      rw [← hla] at hon
      have hlal : la.length ≤ 16 := by rw [hla, on_length, HL.out]; omega
      have HLA := Lib.hid hla
      clear hla htk hj2
      have hs1 := siz53.trans (congrArg some (actA_size la hlal).symm)
      have hb1 := hon.act
      have hb2 := hon.res
      go_wp2_with (first
        | refine wpList_load_row rfl 53 (.tmp 4) rfl (w.heap.size + 1) rfl 53 (actA la) (0, 0) _ hb1 und53 rfl hs1 ?_
        | refine wpList_store_row rfl 53 (.tmp 6) (.tmp 33) rfl (w.heap.size + 1 + 1) (actA la) rfl rfl 53 (actA []) hb2 hs1 ((actA_size [] (by simp)).trans (actA_size la hlal).symm) (actA_one _) ?_)
      rw [← HLA.out]
      refine bodyPost_ret (v := .agg (actA la)) (results_cell_row (p := 6) (ty := 53) rfl _ _ (w.heap.size + 1 + 1) 53 _ (0, 0) _ rfl (setRow_heap _ _ _ _ _ _ hb2) und53 rfl hs1) rfl ⟨rfl, below_setRow hon.below (by omega) _⟩
theorem on_any (c n cap : Nat) (A : Option Addr) (D : List (List Int)) (l : List Nat) (s : ByteArray) (w : World) (B : Nat) (hD : Dy.OkD c D) (hr : RowsAre w B A n D) (hB : B ≤ w.heap.size)
    (hs : ∀ x ∈ s.data.toList, x ∈ Dy.steps n) (hl : l.length = 2 * c) (hlt : ∀ x ∈ l, x < 2 * c) (hsz : s.size ≤ 64) :
    Calls Try.prog 20 #[.agg #[.int .i64 c, .slice A n cap], .agg (actA l), .string s] w fun e w' => e = .returned (.agg (actA (Dy.on D l s.data.toList))) ∧ Below w.heap.size w w' :=
  on_big c n cap A D l s w B hD hr hB hs hl hlt (by omega)
end Go.Proofs.Ytlbpkhbjdojdgaa
