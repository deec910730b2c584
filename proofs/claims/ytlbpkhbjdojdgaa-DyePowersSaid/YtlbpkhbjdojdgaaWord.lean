/-
  The walks of made, of the closure in word, of word.
-/
import Derived.Test.YtlbpkhbjdojdgaaV
import Derived.Lib.IndexAny
namespace Go.Proofs.Ytlbpkhbjdojdgaa
open Go.RowKit

/-- All bytes of a string are steps of an overlay with n dyes. -/
def MadeOf (n : Nat) (s : ByteArray) : Prop := ∀ x ∈ s.data.toList, x ∈ Dy.steps n
instance (n : Nat) (s : ByteArray) : Decidable (MadeOf n s) := by unfold MadeOf; infer_instance
theorem take_snocB (s : ByteArray) (k : Nat) (h : k < s.size) : s.data.toList.take (k + 1) = s.data.toList.take k ++ [s[k]] := by
  rw [List.take_succ_eq_append_getElem (by simpa using h)]; rfl
def madeB (n : Nat) (s : ByteArray) : Bool := decide (MadeOf n s)
theorem madeB_yes {n : Nat} {s : ByteArray} (h : MadeOf n s) : true = madeB n s := by simp [madeB, h]
theorem madeB_no {n : Nat} {s : ByteArray} (h : ¬ MadeOf n s) : false = madeB n s := by simp [madeB, h]

theorem index_step {l : List UInt8} {x : UInt8} : (0 ≤ Lib.indexByte l x) ↔ x ∈ l := by
  have := Lib.contains_iff_indexByte l x
  rw [← List.contains_iff_mem, this]
  simp

set_option maxHeartbeats 400000 in
theorem made_any (c : Int) (n cap : Nat) (A : Option Addr) (s : ByteArray) (w : World) (hn : n ≤ 4) (hc : n ≤ cap) (hs : s.size ≤ 1000) :
    Calls Try.prog 31 #[.agg #[.int .i64 c, .slice A n cap], .string s] w fun e w' => e = .returned (.bool (madeB n s)) ∧ Below w.heap.size w w' := by
  go_enter Try.func31, Try.ntmps31
  go_wp2_with (go_at_call 25; refine (steps_any c A n cap _ hn hc).mono ?_; rintro e w1 ⟨rfl, hb1⟩)
  have hb0 : Below w.heap.size w w1 := ((Below.refl _ _).alloc (Nat.le_refl _) _).trans (hb1.mono (by simp))
  clear hb1
  go_loop [11] (fun i => ∃ k : Nat, k ≤ s.size ∧ i = .int .i64 k ∧ Hid (∀ x ∈ s.data.toList.take k, x ∈ Dy.steps n)) (fun i => s.size - (intOf i).toNat)
  case atStart => exact ⟨0, by omega, rfl, fun x hx => by simp at hx⟩
  case round =>
    obtain ⟨k, hk, rfl, HK⟩ := hrel
    by_cases hlt : k < s.size
    · have htk := Lib.hid (take_snocB s k hlt)
      by_cases hm : s[k] ∈ Dy.steps n
      · have hi := index_step.2 hm
        clear hm
        go_wp2_with (go_at_call 40; refine (Try.strings_IndexByte _ _ _).mono ?_; rintro e w' ⟨rfl, rfl⟩)
        refine ⟨⟨k + 1, by omega, by go_num, fun x hx => ?_⟩, by simp [intOf]; omega⟩
        rw [htk.out] at hx
        rcases List.mem_append.1 hx with h | h
        · exact HK.out x h
        · rw [List.mem_singleton.1 h]; exact index_step.1 hi
      · have hi : Lib.indexByte (Dy.steps n) s[k] < 0 := by
          have := mt index_step.1 hm; omega
        have F := Lib.hid (madeB_no (n := n) (s := s) (fun h => hm (h _ (Array.getElem_mem_toList (by simpa using hlt)))))
        clear hm
        go_wp2_with (go_at_call 40; refine (Try.strings_IndexByte _ _ _).mono ?_; rintro e w' ⟨rfl, rfl⟩)
        go_ret
        exact ⟨ret_bool F.out, hb0⟩
    · have F := Lib.hid (madeB_yes (n := n) (s := s) (fun x hx => HK.out x (by rw [List.take_of_length_le (by simp; omega)]; exact hx)))
      go_wp2
      go_ret
      exact ⟨ret_bool F.out, hb0⟩

/-- A string is short and made of steps. -/
def WordB (n : Nat) (s : ByteArray) : Bool := decide (s.size ≤ 64) && madeB n s

/-- The closure of word: the string is too long or is not made. The overlay lies in the captured box. -/
theorem word1_long (b : Nat) (s : ByteArray) (w : World) (hs : 64 < s.size) (hs2 : s.size ≤ maxLen) :
    Calls Try.prog 30 #[.string s, .pointer (some ⟨b, 0, none⟩)] w fun e w' => e = .returned (.bool true) ∧ Below w.heap.size w w' := by
  unfold maxLen at hs2
  go_enter Try.func30, Try.ntmps30
  go_wp2
  go_ret
  exact ⟨rfl, Below.refl _ _⟩

theorem word1_short (c : Int) (n cap : Nat) (A : Option Addr) (b : Nat) (s : ByteArray) (w : World) (hn : n ≤ 4) (hc : n ≤ cap) (hs : s.size ≤ 64) (hb : Blk w b 28 #[.int .i64 c, .slice A n cap]) :
    Calls Try.prog 30 #[.string s, .pointer (some ⟨b, 0, none⟩)] w fun e w' => e = .returned (.bool (!madeB n s)) ∧ Below w.heap.size w w' := by
  have hd0 := hb.cell 0
  simp at hd0
  have hd1 := hb.cell 1
  simp at hd1
  go_enter Try.func30, Try.ntmps30
  go_wp2_with (go_at_call 31; refine (made_any c n cap A s _ hn hc (by omega)).mono ?_; rintro e w1 ⟨rfl, hb1⟩)
  go_ret
  have hn64 : ¬ (64 : Int) < (s.size : Int) := by omega
  exact ⟨ret_bool (by simp [hn64]), hb1⟩

theorem word1_any (c : Int) (n cap : Nat) (A : Option Addr) (b : Nat) (s : ByteArray) (w : World) (hn : n ≤ 4) (hc : n ≤ cap) (hs2 : s.size ≤ maxLen) (hb : Blk w b 28 #[.int .i64 c, .slice A n cap]) :
    Calls Try.prog 30 #[.string s, .pointer (some ⟨b, 0, none⟩)] w fun e w' => e = .returned (.bool (!WordB n s)) ∧ Below w.heap.size w w' := by
  by_cases hs : s.size ≤ 64
  · refine (word1_short c n cap A b s w hn hc hs hb).mono fun e w' ⟨h, hb⟩ => ⟨?_, hb⟩
    rw [h]
    exact ret_bool (by simp [WordB, hs])
  · refine (word1_long b s w (by omega) hs2).mono fun e w' ⟨h, hb⟩ => ⟨?_, hb⟩
    rw [h]
    exact ret_bool (by simp [WordB, hs])

def IdxPost (P : Prop) (w : World) (e : Ending) (w' : World) : Prop := ∃ r : Int, e = .returned (.int .i64 r) ∧ (0 ≤ r ↔ P) ∧ Below w.heap.size w w'

set_option maxHeartbeats 400000 in
/-- slices.IndexFunc of strings at the closure of word: the first that is no word, or -1. -/
theorem indexFunc_any (c : Int) (n cap : Nat) (A : Option Addr) (b : Nat) (sb off m mc : Nat) (ss : List ByteArray) (w : World) (hn : n ≤ 4) (hc : n ≤ cap) (hl : ss.length = m) (hm : m ≤ 2) (hz : ∀ s ∈ ss, s.size ≤ maxLen)
    (hb : Blk w b 28 #[.int .i64 c, .slice A n cap]) (hss : ∀ (j : Nat) (s : ByteArray), ss[j]? = some s → w.cell? ⟨sb, off + j, none⟩ = some (.string s)) (hsb : sb < w.heap.size) :
    Calls Try.prog 39 #[.slice (some ⟨sb, off, none⟩) m mc, .func (.func 30) #[] #[.pointer (some ⟨b, 0, none⟩)]] w (IdxPost (∃ s ∈ ss, WordB n s = false) w) := by
  have HL := Lib.hid hl
  have HS := Lib.hid hss
  have HZ := Lib.hid hz
  clear hl hss hz
  go_enter Try.func39, Try.ntmps39
  go_wp2
  go_loopw [8] (fun i wr => ∃ k : Nat, k ≤ m ∧ i = .int .i64 k ∧ Hid (∀ (j : Nat) (s : ByteArray), j < k → ss[j]? = some s → WordB n s = true) ∧ Below w.heap.size w wr) (fun i _ => m - (intOf i).toNat)
  case atStart => exact ⟨0, by omega, rfl, fun j s hj => absurd hj (by omega), Below.refl _ _⟩
  case round =>
    obtain ⟨k, hk, rfl, HK, hbe⟩ := hrel
    by_cases hlt : k < m
    · obtain ⟨s, hs⟩ : ∃ s, ss[k]? = some s := ⟨ss[k]'(by have := HL.out; omega), List.getElem?_eq_getElem _⟩
      have hcell : wr.cell? ⟨sb, off + k, none⟩ = some (.string s) := (hbe.cell (p := ⟨sb, off + k, none⟩) hsb).trans (HS.out k s hs)
      have hsz : s.size ≤ maxLen := HZ.out s (List.mem_of_getElem? hs)
      have HSk := Lib.hid hs
      have hbr := hb.below hbe hb.lt
      clear hs
      by_cases hw : WordB n s = true
      · have hw' : (!WordB n s) = false := by rw [hw]; rfl
        have HW := Lib.hid hw
        clear hw
        go_wp2_with (go_at_call 30; refine (word1_any c n cap A b s _ hn hc hsz hbr).mono ?_; rintro e w1 ⟨rfl, hb1⟩)
        go_roundw
        case rel =>
          refine ⟨k + 1, by omega, by go_num, fun j s' hj hs' => ?_, hbe.trans (hb1.mono hbe.size)⟩
          by_cases hjk : j = k
          · subst hjk; rw [HSk.out] at hs'; cases hs'; exact HW.out
          · exact HK.out j s' (by omega) hs'
        case measure => simp [intOf]; omega
      · have hw' : (!WordB n s) = true := by simpa using hw
        have HW : Hid (WordB n s = false) := Lib.hid (by simpa using hw)
        clear hw
        go_wp2_with (go_at_call 30; refine (word1_any c n cap A b s _ hn hc hsz hbr).mono ?_; rintro e w1 ⟨rfl, hb1⟩)
        go_ret
        exact ⟨k, rfl, ⟨fun _ => ⟨s, List.mem_of_getElem? HSk.out, HW.out⟩, fun _ => by omega⟩, hbe.trans (hb1.mono hbe.size)⟩
    · go_wp2
      go_ret
      refine ⟨-1, rfl, ⟨fun h => absurd h (by omega), fun ⟨s, hs, hw⟩ => ?_⟩, hbe⟩
      obtain ⟨j, hj, rfl⟩ := List.getElem_of_mem hs
      have := HK.out j _ (by have := HL.out; omega) (List.getElem?_eq_getElem hj)
      rw [this] at hw
      cases hw

def BoolPost (P : Prop) (w : World) (e : Ending) (w' : World) : Prop := ∃ r : Bool, e = .returned (.bool r) ∧ (r = true ↔ P) ∧ Below w.heap.size w w'

/-- slices.ContainsFunc of strings at the closure of word. -/
theorem containsFunc_any (c : Int) (n cap : Nat) (A : Option Addr) (b : Nat) (sb off m mc : Nat) (ss : List ByteArray) (w : World) (hn : n ≤ 4) (hc : n ≤ cap) (hl : ss.length = m) (hm : m ≤ 2) (hz : ∀ s ∈ ss, s.size ≤ maxLen)
    (hb : Blk w b 28 #[.int .i64 c, .slice A n cap]) (hss : ∀ (j : Nat) (s : ByteArray), ss[j]? = some s → w.cell? ⟨sb, off + j, none⟩ = some (.string s)) (hsb : sb < w.heap.size) :
    Calls Try.prog 29 #[.slice (some ⟨sb, off, none⟩) m mc, .func (.func 30) #[] #[.pointer (some ⟨b, 0, none⟩)]] w (BoolPost (∃ s ∈ ss, WordB n s = false) w) := by
  have C := Lib.hid (indexFunc_any c n cap A b sb off m mc ss w hn hc hl hm hz hb hss hsb)
  clear hl hm hz hb hss hsb
  go_enter Try.func29, Try.ntmps29
  go_wp2_with fail
  refine C.out.mono ?_
  rintro e w1 ⟨r, rfl, hr, hb1⟩
  have HR := Lib.hid hr
  clear hr
  go_wp2_with fail
  go_ret
  exact ⟨decide (r ≥ 0), rfl, by simpa using HR.out, hb1⟩

/-- (o Overlay) word(l...): the overlay is valid and all are words. -/
def WordsB (c : Int) (D : List (List Int)) (n : Nat) (ss : List ByteArray) : Prop := OkI c D ∧ ∀ s ∈ ss, WordB n s = true

set_option maxHeartbeats 400000 in
theorem word_any (c : Int) (n cap : Nat) (A : Option Addr) (D : List (List Int)) (sb off m mc : Nat) (ss : List ByteArray) (w : World) (B : Nat) (hr : RowsAre w B A n D) (hB : B ≤ w.heap.size) (hn : n ≤ maxLen) (hc : n ≤ cap) (hl : ss.length = m) (hm : m ≤ 2) (hz : ∀ s ∈ ss, s.size ≤ maxLen)
    (hss : ∀ (j : Nat) (s : ByteArray), ss[j]? = some s → w.cell? ⟨sb, off + j, none⟩ = some (.string s)) (hsb : sb < w.heap.size) :
    Calls Try.prog 16 #[.agg #[.int .i64 c, .slice A n cap], .slice (some ⟨sb, off, none⟩) m mc] w (BoolPost (WordsB c D n ss) w) := by
  have HL := Lib.hid hl
  have HS := Lib.hid hss
  have HZ := Lib.hid hz
  have hDn := Lib.hid hr.1
  clear hl hss hz
  have C := Lib.hid (valid_any c n cap A D (w.alloc (.cells #[.int .i64 c, .slice A n cap] 28)) B (hr.keep fun p hp => World.cell?_alloc_lt w _ p (by omega)) (by simp; omega) hn)
  clear hr
  go_enter Try.func16, Try.ntmps16
  go_wp2_with fail
  refine C.out.mono ?_
  rintro e w1 ⟨rfl, hb1⟩
  by_cases hv : OkI c D
  · have e1 := (validB_yes hv).symm
    have hn4 : n ≤ 4 := by have := hv.2.2.1; have := hDn.out; omega
    have b1 : Blk w1 w.heap.size 28 #[.int .i64 c, .slice A n cap] := (Blk.new w 28 #[.int .i64 c, .slice A n cap]).below hb1 (by simp)
    have C2 := Lib.hid (containsFunc_any c n cap A w.heap.size sb off m mc ss w1 hn4 hc HL.out hm HZ.out b1 (fun j s hj => (hb1.cell (p := ⟨sb, off + j, none⟩) (by simp; omega)).trans ((World.cell?_alloc_lt w _ ⟨sb, off + j, none⟩ hsb).trans (HS.out j s hj))) (by have := hb1.size; simp at this; omega))
    have HV := Lib.hid hv
    have HB := Lib.hid hb1
    clear hv hb1 b1
    go_wp2_with fail
    refine C2.out.mono ?_
    rintro e w2 ⟨r, rfl, hr, hb2⟩
    have HR := Lib.hid hr
    clear hr
    go_wp2_with fail
    go_ret
    refine ⟨!r, rfl, ?_, ((Below.refl _ _).alloc (Nat.le_refl _) _).trans ((HB.out.trans (hb2.mono (by have := HB.out.size; exact this))).mono (by simp))⟩
    constructor
    · intro hnr
      refine ⟨HV.out, fun s hs => ?_⟩
      cases hw : WordB n s
      · have := HR.out.2 ⟨s, hs, hw⟩
        rw [this] at hnr
        cases hnr
      · rfl
    · rintro ⟨_, h⟩
      cases r
      · rfl
      · obtain ⟨s, hs, hw⟩ := HR.out.1 rfl
        rw [h s hs] at hw
        cases hw
  · have e1 := (validB_no hv).symm
    have HV := Lib.hid hv
    clear hv
    go_wp2_with fail
    go_ret
    exact ⟨false, rfl, ⟨fun h => by (cases h), fun h => absurd h.1 HV.out⟩, ((Below.refl _ _).alloc (Nat.le_refl _) _).trans (hb1.mono (by simp))⟩
end Go.Proofs.Ytlbpkhbjdojdgaa
