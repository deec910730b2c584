/-
  The first statement of list: the empty monoid, whatever the order in which its parts are made.
-/
import Derived.Test.YtlbpkhbjdojdgaaMap
import Derived.Test.YtlbpkhbjdojdgaaInv
import Derived.Great.BuildSlice
namespace Go.Proofs.Ytlbpkhbjdojdgaa
open Go.RowKit
set_option maxRecDepth 100000

theorem idle_len' (c : Nat) : (Dy.idle c).length = 2 * c := by simp [Dy.idle]
theorem idle_lt' (c : Nat) : ∀ x ∈ Dy.idle c, x < 2 * c := fun x hx => by simpa [Dy.idle] using hx

def upd (X : Nat → Value) (i : Nat) (v : Value) : Nat → Value := fun j => if j = i then v else X j

/-- The frame while the parts are made: X j is what operation j has left. -/
def fr1 (w : World) (c n cap : Nat) (A : Option Addr) (X : Nat → Value) : Act := { tmps := #[Value.agg #[Value.int IntKind.i64 (c : Int), Value.slice A n cap], Value.pointer (some { block := w.heap.size, off := 0 }), Value.pointer none, Value.int IntKind.i64 0, X 12, undef, undef, undef, undef, undef, undef, undef, X 0, X 1, X 2, X 3, X 4, X 5, X 6, X 7, X 9, X 10, X 11, undef, undef, undef, undef, undef, undef, undef, undef, undef, undef, undef, undef, undef, undef, undef, undef, undef, undef, undef, undef, undef, undef, undef, undef, undef, undef, undef, undef, undef, undef, undef, undef, undef, undef, undef, undef, undef, undef, undef, undef, undef, undef, undef, undef, undef, undef, undef, undef, undef, undef, undef, undef, undef, undef, undef, undef, undef, undef, undef, undef, undef, undef, undef, undef, undef, undef, undef, undef, undef, undef, undef, undef, undef, undef, undef, undef, undef, undef, undef, undef, undef, undef, undef, undef, undef, undef, undef, undef, undef, undef, undef, undef, undef, undef, undef], defers := [] }

section
variable (w : World) (c n cap : Nat) (A : Option Addr)
def WordsNew (x : Value) (w' : World) : Prop := ∃ g : Nat, x = .slice (some ⟨g, 0, none⟩) 1 1 ∧ w.heap.size < g ∧ Blk w' g 9 #[.string ⟨#[]⟩]
def ActsNew (x : Value) (w' : World) : Prop := ∃ g : Nat, x = .slice (some ⟨g, 0, none⟩) 1 1 ∧ w.heap.size < g ∧ Blk w' g 53 (actA (Dy.idle c))
def MapNew (L : List (List Nat)) (x : Value) (w' : World) : Prop := ∃ b : Nat, x = .map (some b) ∧ w.heap.size < b ∧ ActMap w' b (2 * c) L
/-- What operation j leaves. -/
def F1 (j : Nat) (l8 : Bool) (x : Value) (w' : World) : Prop :=
  match j with
  | 0 => x = .agg #[.int .i64 c, .slice A n cap]
  | 1 => WordsNew w x w'
  | 2 => x = .agg #[.int .i64 c, .slice A n cap]
  | 3 => x = .agg (actA (Dy.idle c))
  | 4 => ActsNew w c x w'
  | 5 => MapNew w c (if l8 then [Dy.idle c] else []) x w'
  | 6 => x = .agg #[.int .i64 c, .slice A n cap]
  | 7 => x = .agg (actA (Dy.idle c))
  | 9 => MapNew w c [Dy.idle c] x w'
  | 10 => ∃ wv av mv, x = .agg #[.int .i64 c, .slice A n cap, wv, av, mv] ∧ WordsNew w wv w' ∧ ActsNew w c av w' ∧ MapNew w c [Dy.idle c] mv w'
  | 11 | 12 => ∃ gm wv av mv, x = .pointer (some ⟨gm, 0, none⟩) ∧ w.heap.size < gm ∧ Blk w' gm 75 #[.int .i64 c, .slice A n cap, wv, av, mv] ∧ WordsNew w wv w' ∧ ActsNew w c av w' ∧ MapNew w c [Dy.idle c] mv w'
  | _ => True

structure S1 (listed : Array Bool) (X : Nat → Value) (w' : World) : Prop where
  below : Below w.heap.size w w'
  box : Blk w' w.heap.size 28 #[.int .i64 c, .slice A n cap]
  f : ∀ j, j < 13 → listed.getD j false = true → F1 w c n cap A j (listed.getD 8 false) (X j) w'
  late : ∀ j, 9 ≤ j → j < 13 → listed.getD j false = true → listed.getD 8 false = true
  early : listed.getD 8 false = true → listed.getD 5 false = true
end

section
variable {w w1 w2 : World} {c n cap : Nat} {A : Option Addr} {X : Nat → Value} {listed : Array Bool} {x v : Value} {L : List (List Nat)}

/-- All that was there is there. -/
def Old (w1 w2 : World) : Prop := ∀ i, i < w1.heap.size → w2.heap[i]? = w1.heap[i]?
theorem Old.blk (h : Old w1 w2) {g : Nat} {t : TypeId} {cs : Array Value} (hb : Blk w1 g t cs) : Blk w2 g t cs := (h g hb.lt).trans hb
theorem Old.refl (w : World) : Old w w := fun _ _ => rfl
theorem Old.alloc (w : World) (o : Obj) : Old w (w.alloc o) := fun i hi => Below.heap_alloc w o i hi
theorem Old.below (h : Below w1.heap.size w1 w2) : Old w1 w2 := h.block
theorem WordsNew.old (h : WordsNew w x w1) (k : Old w1 w2) : WordsNew w x w2 := by obtain ⟨g, h1, h2, h3⟩ := h; exact ⟨g, h1, h2, k.blk h3⟩
theorem ActsNew.old (h : ActsNew w c x w1) (k : Old w1 w2) : ActsNew w c x w2 := by obtain ⟨g, h1, h2, h3⟩ := h; exact ⟨g, h1, h2, k.blk h3⟩
theorem MapNew.old (h : MapNew w c L x w1) (k : Old w1 w2) : MapNew w c L x w2 := by obtain ⟨b, h1, h2, h3⟩ := h; exact ⟨b, h1, h2, h3.block (k b h3.lt)⟩
theorem F1.old {j : Nat} {l8 : Bool} (h : F1 w c n cap A j l8 x w1) (k : Old w1 w2) : F1 w c n cap A j l8 x w2 := by
  unfold F1 at h ⊢
  split
  all_goals first | trivial | exact h | exact WordsNew.old h k | exact ActsNew.old h k | exact MapNew.old h k | skip
  · obtain ⟨wv, av, mv, h1, h2, h3, h4⟩ := h; exact ⟨wv, av, mv, h1, h2.old k, h3.old k, h4.old k⟩
  · obtain ⟨gm, wv, av, mv, h1, h2, h3, h4, h5, h6⟩ := h; exact ⟨gm, wv, av, mv, h1, h2, k.blk h3, h4.old k, h5.old k, h6.old k⟩
  · obtain ⟨gm, wv, av, mv, h1, h2, h3, h4, h5, h6⟩ := h; exact ⟨gm, wv, av, mv, h1, h2, k.blk h3, h4.old k, h5.old k, h6.old k⟩

theorem getD_set_ne {i j : Nat} (h : j ≠ i) : (listed.setIfInBounds i true).getD j false = listed.getD j false := by
  simp [Array.getD_eq_getD_getElem?, Array.getElem?_setIfInBounds, Ne.symm h]
theorem getD_set_same {i : Nat} (h : i < listed.size) : (listed.setIfInBounds i true).getD i false = true := by
  simp [Array.getD_eq_getD_getElem?, h]
/-- An operation other than the eighth has come up. -/
theorem S1.step (h : S1 w c n cap A listed X w1) (hs : listed.size = 13) (i : Nat) (hi8 : i ≠ 8) (k : Old w1 w2) (hb : Below w.heap.size w w2) (hlate : 9 ≤ i → listed.getD 8 false = true)
    (hf : F1 w c n cap A i (listed.getD 8 false) v w2) : S1 w c n cap A (listed.setIfInBounds i true) (upd X i v) w2 where
  below := hb
  box := k.blk h.box
  f j hj hl := by
    rw [getD_set_ne (Ne.symm hi8)]
    by_cases e : j = i
    · subst e; simpa [upd] using hf
    · rw [getD_set_ne e] at hl
      simp only [upd, if_neg e]
      exact (h.f j hj hl).old k
  late j h9 hj hl := by
    rw [getD_set_ne (Ne.symm hi8)]
    by_cases e : j = i
    · subst e; exact hlate h9
    · rw [getD_set_ne e] at hl
      exact h.late j h9 hj hl
  early hl := by
    rw [getD_set_ne (Ne.symm hi8)] at hl
    by_cases e : 5 = i
    · subst e; exact getD_set_same (by have := hs; omega)
    · rw [getD_set_ne e]; exact h.early hl
end

theorem info53 : (Try.prog.info? 53).map (fun i => (i.zero, i.size, i.bytes)) = some (some (.agg #[.int .i64 0, .int .i64 0, .int .i64 0, .int .i64 0, .int .i64 0, .int .i64 0, .int .i64 0, .int .i64 0, .int .i64 0, .int .i64 0, .int .i64 0, .int .i64 0, .int .i64 0, .int .i64 0, .int .i64 0, .int .i64 0]), 16, 128) := by kernel_rfl
theorem und73 : Try.prog.underlying 73 = some (.slice 53) := by kernel_rfl
/-- []action{a}. -/
theorem build_act {l : List Nat} (hl : l.length ≤ 16) (w : World) : (Instr.buildSlice 73 1 #[(0, .agg (actA l))]).run Try.prog w = .ok (.slice (some ⟨w.heap.size, 0, none⟩) 1 1) (w.alloc (.cells (actA l) 53)) := by
  obtain ⟨ie, hie, hz, hs, _⟩ := info_parts info53
  have hsz : (actA l).size = 16 := actA_size l hl
  generalize actA l = a at *
  obtain ⟨xs⟩ := a
  match xs, hsz with
  | [a0, a1, a2, a3, a4, a5, a6, a7, a8, a9, a10, a11, a12, a13, a14, a15], _ =>
    refine run_buildSlice w 73 53 1 _ _ ie _ und73 hie hz (by rw [hs]; decide) (by rw [hs]; decide) ?_
    rw [hs]
    kernel_rfl

theorem rep_false (n j : Nat) : ¬ (Array.replicate n false).getD j false = true := by
  simp only [Array.getD_eq_getD_getElem?, Array.getElem?_replicate]
  split <;> simp
theorem wanted_none {o : Oper} (h : o.guard = none) (y : Nat → Option Bool) : Region.wanted o y = true := by simp [Region.wanted, h]
theorem upd_eq {X : Nat → Value} {i : Nat} {v : Value} (h : X i = v) : upd X i v = X := by
  funext j
  unfold upd
  split
  · rename_i e; subst e; exact h.symm
  · rfl

theorem wp_build_act {o : Oper} {a : Act} {w : World} {K : Act → World → Prop} {Q : Exit → Act → World → Prop} {l : List Nat} (x : Operand) (ho : o.op = .buildSlice 73 1 #[(0, x)]) (hx : a.eval x = .agg (actA l)) (hl : l.length ≤ 16)
    (h : K (a.put o.dst (.slice (some ⟨w.heap.size, 0, none⟩) 1 1)) (w.alloc (.cells (actA l) 53))) : o.wp Try.prog a w K Q := by
  unfold Oper.wp execOp
  simp only [ho, List.map_toArray, List.map_cons, List.map_nil, hx, Sem.run_bind, build_act hl w, Result.andThen_ok]
  exact h

/-- Block b alone has turned. -/
def OldBut (b : Nat) (w1 w2 : World) : Prop := ∀ i, i < w1.heap.size → i ≠ b → w2.heap[i]? = w1.heap[i]?
theorem OldBut.turned {w1 w2 : World} {b : Nat} (h : w1.mapTurned w2 b) : OldBut b w1 w2 := fun i hi hne => h.grown.block i hi (fun e => hne (by injection e))
theorem OldBut.blk {b : Nat} {w1 w2 : World} (h : OldBut b w1 w2) {g : Nat} {t : TypeId} {cs : Array Value} (hb : Blk w1 g t cs) (hne : g ≠ b) : Blk w2 g t cs := (h g hb.lt hne).trans hb
theorem F1.oldBut {w w1 w2 : World} {c n cap : Nat} {A : Option Addr} {x : Value} {j m b : Nat} {l8 l8' : Bool} {L : List (List Nat)} (h : F1 w c n cap A j l8 x w1) (k : OldBut b w1 w2) (hm : ActMap w1 b m L) (h5 : j ≠ 5) (h9 : j < 9) : F1 w c n cap A j l8' x w2 := by
  have hcase : j = 0 ∨ j = 1 ∨ j = 2 ∨ j = 3 ∨ j = 4 ∨ j = 6 ∨ j = 7 ∨ j = 8 := by omega
  rcases hcase with rfl | rfl | rfl | rfl | rfl | rfl | rfl | rfl
  · exact h
  · obtain ⟨g, h1, h2, h3⟩ := h; exact ⟨g, h1, h2, k.blk h3 (Ne.symm (hm.notcells h3))⟩
  · exact h
  · exact h
  · obtain ⟨g, h1, h2, h3⟩ := h; exact ⟨g, h1, h2, k.blk h3 (Ne.symm (hm.notcells h3))⟩
  · exact h
  · exact h
  · trivial

/-- The eighth: the entry is laid into the map. -/
theorem S1.step8 {w w1 w2 : World} {c n cap : Nat} {A : Option Addr} {X : Nat → Value} {listed : Array Bool} {b : Nat} (h : S1 w c n cap A listed X w1) (hs : listed.size = 13) (h8 : listed.getD 8 true = false) (h5 : listed.getD 5 false = true) (hx : X 5 = .map (some b)) (hbw : w.heap.size < b)
    (hm1 : ActMap w1 b (2 * c) []) (k : w1.mapTurned w2 b) (hm : ActMap w2 b (2 * c) [Dy.idle c]) : S1 w c n cap A (listed.setIfInBounds 8 true) X w2 := by
  have h8' : listed.getD 8 false = false := by simpa [Array.getD, hs] using h8
  have h8n : (listed.setIfInBounds 8 true).getD 8 false = true := by simp [Array.getD_eq_getD_getElem?, hs]
  have ko := OldBut.turned k
  refine ⟨?_, ko.blk h.box (Ne.symm (hm1.notcells h.box)), fun j hj hl => ?_, fun j _ _ _ => h8n, fun _ => by rw [getD_set_ne (by decide)]; exact h5⟩
  · refine ⟨k.grown.os.trans h.below.os, k.grown.tape.trans h.below.tape, k.grown.output.trans h.below.output, Nat.le_trans h.below.size k.grown.size, fun i hi => ?_⟩
    exact (ko i (Nat.lt_of_lt_of_le hi h.below.size) (by omega)).trans (h.below.block i hi)
  · rw [h8n]
    by_cases e8 : j = 8
    · subst e8; trivial
    · rw [getD_set_ne e8] at hl
      by_cases e5 : j = 5
      · subst e5; exact ⟨b, hx, hbw, hm⟩
      · by_cases e9 : 9 ≤ j
        · have := h.late j e9 hj hl
          rw [h8'] at this
          cases this
        · exact (h.f j hj hl).oldBut ko hm1 e5 (by omega)

theorem wp_insert {o : Oper} {a : Act} {w : World} {K : Act → World → Prop} {Q : Exit → Act → World → Prop} (m x v : Operand) (ho : o.op = .insert 62 m x v) {b : Nat} {l : List Nat} {val : Value} (hm : a.eval m = .map (some b)) (hx : a.eval x = .agg (actA l)) (hv : a.eval v = val) {w2 : World}
    (hrun : (Instr.mapUpdate 62 (.map (some b)) (.agg (actA l)) val).run Try.prog w = .ok () w2) (h : K (a.put o.dst undef) w2) : o.wp Try.prog a w K Q := by
  unfold Oper.wp execOp
  simp only [ho, hm, hx, hv, Sem.run_bind, hrun, Result.andThen_ok]
  exact h

theorem good_idle (c : Nat) (hc : c ≤ 8) : Good (2 * c) (Dy.idle c) := ⟨idle_len' c, by omega, fun x hx => by have := idle_lt' c x hx; omega⟩
end Go.Proofs.Ytlbpkhbjdojdgaa
