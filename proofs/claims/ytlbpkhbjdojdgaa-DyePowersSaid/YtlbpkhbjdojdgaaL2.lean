/-
  How the monoid under construction lies in memory.
-/
import Derived.Test.YtlbpkhbjdojdgaaL1
namespace Go.Proofs.Ytlbpkhbjdojdgaa
open Go.RowKit
set_option maxRecDepth 100000

theorem act_snoc (c : Nat) (D : List (List Int)) (l : List UInt8) (s : UInt8) : Dy.act c D (l ++ [s]) = Dy.on D (Dy.act c D l) [s] := by
  simp [Dy.act, Dy.on, List.foldl_append]
theorem act_len (c : Nat) (D : List (List Int)) (l : List UInt8) : (Dy.act c D l).length = 2 * c := by rw [Dy.act, on_length, idle_len']
theorem act_lt {c : Nat} {D : List (List Int)} (hD : Dy.OkD c D) {l : List UInt8} (h : ∀ x ∈ l, x ∈ Dy.steps D.length) : ∀ x ∈ Dy.act c D l, x < 2 * c := on_lt hD l _ h (idle_lt' c)
/-- One step more behind a string. -/
theorem on_step (c n cap : Nat) (A : Option Addr) (D : List (List Int)) (l : List UInt8) (s : UInt8) (x : ByteArray) (w : World) (B : Nat) (hD : Dy.OkD c D) (hr : RowsAre w B A n D) (hB : B ≤ w.heap.size)
    (hs : s ∈ Dy.steps n) (hl : ∀ x ∈ l, x ∈ Dy.steps n) (hx : x = ⟨#[s]⟩) :
    Calls Try.prog 20 #[.agg #[.int .i64 c, .slice A n cap], .agg (actL (Dy.act c D l)).toArray, .string x] w fun e w' => e = .returned (.agg (actA (Dy.act c D (l ++ [s])))) ∧ Below w.heap.size w w' := by
  subst hx
  have hn : D.length = n := hr.1
  refine (on_any c n cap A D (Dy.act c D l) ⟨#[s]⟩ w B hD hr hB (fun y hy => ?_) (act_len c D l) (act_lt hD (by rw [hn]; exact hl)) (by show 1 ≤ 64; omega)).mono fun e w' h => ?_
  · rw [List.mem_singleton.1 hy]; exact hs
  · rw [act_snoc]; exact h

theorem blk_cells {g : Nat} {t : TypeId} : ∀ (vs : List Value) (o : Nat) (w : World) (cs : Array Value), Blk w g t cs → o + vs.length ≤ cs.size →
    Blk (w.setCells g o vs) g t (cs.toList.take o ++ vs ++ cs.toList.drop (o + vs.length)).toArray
  | [], o, w, cs, h, _ => by
    have : (cs.toList.take o ++ [] ++ cs.toList.drop (o + ([] : List Value).length)).toArray = cs := by simp
    rw [this]; exact h
  | v :: vs, o, w, cs, h, hl => by
    have hl' : o + 1 + vs.length ≤ (cs.setIfInBounds o v).size := by simp at hl ⊢; omega
    have := blk_cells vs (o + 1) _ _ (h.set_ o v) hl'
    have ho : o < cs.toList.length := by simp at hl ⊢; omega
    have e1 : (cs.setIfInBounds o v).toList.take (o + 1) = cs.toList.take o ++ [v] := by
      rw [Array.toList_setIfInBounds, List.take_set, List.take_succ_eq_append_getElem ho, List.set_append_right _ _ (by simp; omega)]
      have : o - (cs.toList.take o).length = 0 := by simp; omega
      rw [this]; rfl
    have e2 : (cs.setIfInBounds o v).toList.drop (o + 1 + vs.length) = cs.toList.drop (o + (v :: vs).length) := by
      rw [Array.toList_setIfInBounds, List.drop_set_of_lt (by omega)]
      congr 1
      simp; omega
    rw [e1, e2] at this
    simp only [List.append_assoc, List.cons_append, List.nil_append] at this ⊢
    exact this
theorem blk_all {g : Nat} {t : TypeId} {vs : List Value} {w : World} {cs : Array Value} (h : Blk w g t cs) (hl : vs.length = cs.size) : Blk (w.setCells g 0 vs) g t vs.toArray := by
  have := blk_cells vs 0 w cs h (by omega)
  have e : cs.toList.drop (0 + vs.length) = [] := List.drop_eq_nil_of_le (by simp; omega)
  rw [e] at this
  simpa using this

theorem rowK_step {c i j : Nat} {D : List (List Int)} {K : List (List UInt8) → Option (List (List UInt8))} {S l : List UInt8} {s : UInt8} {W : List (List UInt8)} (hs : S[j]? = some s) (hl : W[i]? = some l) :
    Dy.rowK c D i K (S.drop j) W = (Dy.extend c D W (l ++ [s])).bind (Dy.rowK c D i K (S.drop (j + 1))) := by
  obtain ⟨hj, rfl⟩ := List.getElem?_eq_some_iff.1 hs
  rw [List.drop_eq_getElem_cons hj]
  have e : W.getD i [] = l := by simp [List.getD_eq_getElem?_getD, hl]
  simp only [Dy.rowK, e]
theorem extend_old {c : Nat} {D : List (List Int)} {W : List (List UInt8)} {w : List UInt8} (h : Dy.act c D w ∈ W.map (Dy.act c D)) : Dy.extend c D W w = some W := by simp only [Dy.extend, if_pos h]
theorem extend_full {c : Nat} {D : List (List Int)} {W : List (List UInt8)} {w : List UInt8} (h : Dy.act c D w ∉ W.map (Dy.act c D)) (h2 : W.length = 2000 ∨ 64 < w.length) : Dy.extend c D W w = none := by simp only [Dy.extend, if_neg h, if_pos h2]
theorem extend_new {c : Nat} {D : List (List Int)} {W : List (List UInt8)} {w : List UInt8} (h : Dy.act c D w ∉ W.map (Dy.act c D)) (h2 : ¬ (W.length = 2000 ∨ 64 < w.length)) : Dy.extend c D W w = some (W ++ [w]) := by simp only [Dy.extend, if_neg h, if_neg h2]

def strV (l : List UInt8) : Value := .string ⟨l.toArray⟩

/-- Block gm is the monoid: words W, actions La, the map of the actions Lm. -/
structure Mon (base : Nat) (w : World) (gm b : Nat) (wv av : Value) (c n cap : Nat) (A : Option Addr) (W : List (List UInt8)) (La Lm : List (List Nat)) : Prop where
  blk : Blk w gm 75 #[.int .i64 c, .slice A n cap, wv, av, .map (some b)]
  words : w.ownsRow base 9 1 wv W.length (W.map strV)
  acts : w.ownsRow base 53 16 av La.length (La.flatMap actL)
  map : ActMap w b (2 * c) Lm
  gmB : base ≤ gm
  bB : base ≤ b
  good : ∀ l ∈ La, Good (2 * c) l

section
variable {base gm b c n cap : Nat} {w w' : World} {wv av : Value} {A : Option Addr} {W : List (List UInt8)} {La Lm : List (List Nat)}

theorem ownsRow_old {e : TypeId} {size m : Nat} {v : Value} {xs : List Value} (h : w.ownsRow base e size v m xs) (k : Old w w') : w'.ownsRow base e size v m xs := by
  refine ⟨h.1, ?_⟩
  rcases h.2 with h0 | ⟨g, cp, cur, hv, hb, hg, r⟩
  · exact .inl h0
  · exact .inr ⟨g, cp, cur, hv, hb, (k g (Array.getElem?_eq_some_iff.1 hg).1).trans hg, r⟩
theorem Mon.old (h : Mon base w gm b wv av c n cap A W La Lm) (k : Old w w') : Mon base w' gm b wv av c n cap A W La Lm :=
  ⟨k.blk h.blk, ownsRow_old h.words k, ownsRow_old h.acts k, h.map.block (k b h.map.lt), h.gmB, h.bB, h.good⟩

theorem ownsRow_new {e : TypeId} {size g : Nat} {xs : Array Value} (hb : Blk w g e xs) (hs : xs.size = size) (hB : base ≤ g) : w.ownsRow base e size (.slice (some ⟨g, 0, none⟩) 1 1) 1 xs.toList :=
  ⟨by simp [hs], .inr ⟨g, 1, xs, rfl, hB, hb, Nat.le_refl _, by simp [maxLen], by omega, by rw [List.take_of_length_le]; simp; omega⟩⟩

theorem Old.trans {w1 w2 w3 : World} (h : Old w1 w2) (k : Old w2 w3) : Old w1 w3 := fun i hi => by
  have h1 := h i hi
  have hlt : i < w2.heap.size := by
    have hs : w1.heap[i]? = some w1.heap[i] := Array.getElem?_eq_getElem hi
    rw [hs] at h1
    exact (Array.getElem?_eq_some_iff.1 h1).1
  exact (k i hlt).trans h1
theorem Old.cell {w1 w2 : World} (h : Old w1 w2) {x : Addr} (hx : x.block < w1.heap.size) : w2.cell? x = w1.cell? x := by
  unfold World.cell?; rw [h _ hx]
theorem heap_cells (b : Nat) : ∀ (vs : List Value) (o : Nat) (w : World) (i : Nat), i ≠ b → (w.setCells b o vs).heap[i]? = w.heap[i]?
  | [], _, _, _, _ => rfl
  | _ :: vs, o, _, i, hi => (heap_cells b vs (o + 1) _ i hi).trans (Below.heap_setCell _ _ _ i hi)
theorem Old.cells {w1 w2 : World} (h : Old w1 w2) (g o : Nat) (vs : List Value) (hg : w1.heap.size ≤ g) : Old w1 (w2.setCells g o vs) := fun i hi =>
  (heap_cells g vs o w2 i (by omega)).trans (h i hi)

/-- The monoid of the empty string alone. -/
theorem Mon.start {w0 : World} {p : Value} (hc : c ≤ 8) (h : F1 w0 c n cap A 12 true p w) :
    ∃ gm b wv av, p = .pointer (some ⟨gm, 0, none⟩) ∧ w0.heap.size < gm ∧ Mon w0.heap.size w gm b wv av c n cap A [[]] [Dy.idle c] [Dy.idle c] := by
  obtain ⟨gm, wv, av, mv, rfl, hgm, hblk, ⟨g1, rfl, hg1, hB1⟩, ⟨g2, rfl, hg2, hB2⟩, ⟨b, rfl, hb, hM⟩⟩ := h
  refine ⟨gm, b, _, _, rfl, hgm, hblk, ?_, ?_, hM, by omega, by omega, fun l hl => ?_⟩
  · exact ownsRow_new hB1 rfl (by omega)
  · have h16 : (Dy.idle c).length ≤ 16 := by rw [idle_len']; omega
    have := ownsRow_new (base := w0.heap.size) hB2 (actA_size _ h16) (by omega)
    simpa [actA] using this
  · rw [List.mem_singleton.1 hl]; exact good_idle c hc

theorem Mon.word (h : Mon base w gm b wv av c n cap A W La Lm) {i : Nat} {l : List UInt8} (hi : W[i]? = some l) :
    ∃ g cp, wv = .slice (some ⟨g, 0, none⟩) W.length cp ∧ w.cell? ⟨g, i, none⟩ = some (.string ⟨l.toArray⟩) := by
  have hlt := (List.getElem?_eq_some_iff.1 hi).1
  obtain ⟨g, cp, rfl, _, _⟩ := h.words.form (by omega)
  refine ⟨g, cp, rfl, ?_⟩
  have := h.words.cells (g := g) rfl i (strV l) (by simp [hi])
  rw [Addr.add_mid, Nat.zero_add] at this
  exact this

theorem flat_get (hg : ∀ l ∈ La, l.length ≤ 16) {i : Nat} {l : List Nat} (hi : La[i]? = some l) {j : Nat} {v : Value} (hj : (actL l)[j]? = some v) : (La.flatMap actL)[i * 16 + j]? = some v := by
  induction La generalizing i with
  | nil => simp at hi
  | cons a La ih =>
    have ha := actL_length a (hg a (by simp))
    rw [List.flatMap_cons]
    cases i with
    | zero =>
      simp at hi
      subst hi
      have hjl := (List.getElem?_eq_some_iff.1 hj).1
      rw [List.getElem?_append_left (by omega)]
      simpa using hj
    | succ i =>
      rw [List.getElem?_append_right (by omega), ha]
      have e : (i + 1) * 16 + j - 16 = i * 16 + j := by omega
      rw [e]
      exact ih (fun l hl => hg l (by simp [hl])) (by simpa using hi)

theorem Mon.action (h : Mon base w gm b wv av c n cap A W La Lm) {i : Nat} {l : List Nat} (hi : La[i]? = some l) :
    ∃ g cp, av = .slice (some ⟨g, 0, none⟩) La.length cp ∧ w.rangeAt g (i * 16) (actL l) := by
  have hlt := (List.getElem?_eq_some_iff.1 hi).1
  obtain ⟨g, cp, rfl, _, _⟩ := h.acts.form (by omega)
  refine ⟨g, cp, rfl, fun j v hj => ?_⟩
  have := h.acts.cells (g := g) rfl (i * 16 + j) v (flat_get (fun l hl => by have := h.good l hl; have := this.1; have := (h.good l hl).2.1; omega) hi hj)
  rw [Addr.add_mid, Nat.zero_add] at this
  exact this

/-- An entry more in the map. -/
theorem Mon.turned (h : Mon base w gm b wv av c n cap A W La Lm) {l : List Nat} (hm : ActMap w' b (2 * c) (Lm ++ [l])) (k : w.mapTurned w' b) : Mon base w' gm b wv av c n cap A W La (Lm ++ [l]) := by
  have ko := OldBut.turned k
  have rowk : ∀ {e : TypeId} {size m : Nat} {v : Value} {xs : List Value}, w.ownsRow base e size v m xs → w'.ownsRow base e size v m xs := by
    intro e size m v xs h1
    refine ⟨h1.1, ?_⟩
    rcases h1.2 with h0 | ⟨g, cp, cur, hv, hb, hg, r⟩
    · exact .inl h0
    · exact .inr ⟨g, cp, cur, hv, hb, (ko g (Array.getElem?_eq_some_iff.1 hg).1 (Ne.symm (h.map.notcells hg))).trans hg, r⟩
  exact ⟨ko.blk h.blk (Ne.symm (h.map.notcells h.blk)), rowk h.words, rowk h.acts, hm, h.gmB, h.bB, h.good⟩
theorem below_turned {w0 : World} {B : Nat} (h : Below B w0 w) (k : w.mapTurned w' b) (hB : B ≤ b) (hBw : B ≤ w.heap.size) : Below B w0 w' := by
  have ko := OldBut.turned k
  exact ⟨k.grown.os.trans h.os, k.grown.tape.trans h.tape, k.grown.output.trans h.output, Nat.le_trans h.size k.grown.size, fun i hi => (ko i (by omega) (by omega)).trans (h.block i hi)⟩

theorem Blk.grown' {w w' : World} {g : Nat} {t : TypeId} {cs : Array Value} {row : Option Nat} (h : Blk w g t cs) (hb : w.grownBy w' row) (hg : row ≠ some g) : Blk w' g t cs := h.grown hb (Ne.symm hg)
theorem row_block {e : TypeId} {size m : Nat} {v : Value} {xs : List Value} (h : w.ownsRow base e size v m xs) {g : Nat} (hg : v.ownBlock = some g) : base ≤ g ∧ ∃ cur, Blk w g e cur := by
  rcases h.2 with ⟨rfl, _⟩ | ⟨g', cp, cur, rfl, hb, hh, _⟩
  · simp [Value.ownBlock] at hg
  · have : g' = g := by simpa [Value.ownBlock] using hg
    subst this
    exact ⟨hb, cur, hh⟩
theorem row_keep {e e' : TypeId} {size m size' m' : Nat} {v v' : Value} {xs xs' : List Value} (h : w.ownsRow base e size v m xs) (h' : w.ownsRow base e' size' v' m' xs') (hne : e ≠ e') (hg : w.grownBy w' v'.ownBlock) : w'.ownsRow base e size v m xs := by
  refine ⟨h.1, ?_⟩
  rcases h.2 with h0 | ⟨g, cp, cur, hv, hb, hh, r⟩
  · exact .inl h0
  · refine .inr ⟨g, cp, cur, hv, hb, (hg.block g (Array.getElem?_eq_some_iff.1 hh).1 (fun e1 => ?_)).trans hh, r⟩
    obtain ⟨_, cur', hb'⟩ := row_block h' e1.symm
    exact Blk.ne_ (g := g) hh hb' hne rfl
theorem row_cell {e : TypeId} {size m : Nat} {v : Value} {xs : List Value} (h : w.ownsRow base e size v m xs) {g : Nat} {t : TypeId} {cs : Array Value} (hb : Blk w g t cs) (hne : e ≠ t) (i : Nat) (u : Value) : (w.setCell ⟨g, i, none⟩ u).ownsRow base e size v m xs := by
  refine ⟨h.1, ?_⟩
  rcases h.2 with h0 | ⟨g', cp, cur, hv, hB, hh, r⟩
  · exact .inl h0
  · exact .inr ⟨g', cp, cur, hv, hB, (Below.heap_setCell _ _ _ g' (Blk.ne_ hh hb hne)).trans hh, r⟩

/-- 'm.words = append(m.words, x)': behind the store. -/
theorem Mon.pushWord (h : Mon base w gm b wv av c n cap A W La Lm) {x : List UInt8} {v : Value} (hown : w'.ownsRow base 9 1 v (W.length + 1) (W.map strV ++ [strV x])) (hg : w.grownBy w' wv.ownBlock) :
    Mon base (w'.setCell ⟨gm, 2, none⟩ v) gm b v av c n cap A (W ++ [x]) La Lm := by
  have hgm : wv.ownBlock ≠ some gm := own_blk_ne h.words h.blk (by decide)
  have hb : wv.ownBlock ≠ some b := fun e => by
    obtain ⟨_, cur, hb'⟩ := row_block h.words e
    exact h.map.notcells hb' rfl
  have hblk := h.blk.grown' hg hgm
  have hmap : ActMap w' b (2 * c) Lm := h.map.block (hg.block b h.map.lt (Ne.symm hb))
  refine ⟨?_, ?_, row_cell (row_keep h.acts h.words (by decide) hg) hblk (by decide) _ _, hmap.block (Below.heap_setCell _ _ _ b (hmap.notcells hblk)), h.gmB, h.bB, h.good⟩
  · have := hblk.set_ 2 v
    simpa using this
  · have := row_cell hown hblk (by decide) 2 v
    simpa using this
/-- 'm.acts = append(m.acts, a)': behind the store. -/
theorem Mon.pushAct (h : Mon base w gm b wv av c n cap A W La Lm) {l : List Nat} {v : Value} (hl : Good (2 * c) l) (hown : w'.ownsRow base 53 16 v (La.length + 1) (La.flatMap actL ++ actL l)) (hg : w.grownBy w' av.ownBlock) :
    Mon base (w'.setCell ⟨gm, 3, none⟩ v) gm b wv v c n cap A W (La ++ [l]) Lm := by
  have hgm : av.ownBlock ≠ some gm := own_blk_ne h.acts h.blk (by decide)
  have hb : av.ownBlock ≠ some b := fun e => by
    obtain ⟨_, cur, hb'⟩ := row_block h.acts e
    exact h.map.notcells hb' rfl
  have hblk := h.blk.grown' hg hgm
  have hmap : ActMap w' b (2 * c) Lm := h.map.block (hg.block b h.map.lt (Ne.symm hb))
  refine ⟨?_, row_cell (row_keep h.words h.acts (by decide) hg) hblk (by decide) _ _, ?_, hmap.block (Below.heap_setCell _ _ _ b (hmap.notcells hblk)), h.gmB, h.bB, fun l' hl' => ?_⟩
  · have := hblk.set_ 3 v
    simpa using this
  · have := row_cell hown hblk (by decide) 3 v
    simpa using this
  · rcases List.mem_append.1 hl' with h1 | h1
    · exact h.good l' h1
    · rw [List.mem_singleton.1 h1]; exact hl
theorem Blk.turned {g : Nat} {t : TypeId} {cs : Array Value} (h : Blk w g t cs) (hm : ActMap w b (2 * c) Lm) (k : w.mapTurned w' b) : Blk w' g t cs := (OldBut.turned k).blk h (Ne.symm (hm.notcells h))
end
/-- The cells of []action{a}, as the walk reckons them. -/
theorem fold_act {xs : List Value} (h : xs.length = 16) : List.foldl (fun (cs : Array Value) (x : Value × Nat) => cs.setIfInBounds x.snd x.fst)
    #[Value.int IntKind.i64 0, Value.int IntKind.i64 0, Value.int IntKind.i64 0, Value.int IntKind.i64 0, Value.int IntKind.i64 0, Value.int IntKind.i64 0, Value.int IntKind.i64 0, Value.int IntKind.i64 0,
      Value.int IntKind.i64 0, Value.int IntKind.i64 0, Value.int IntKind.i64 0, Value.int IntKind.i64 0, Value.int IntKind.i64 0, Value.int IntKind.i64 0, Value.int IntKind.i64 0, Value.int IntKind.i64 0] xs.zipIdx = xs.toArray := by
  match xs, h with
  | [a0, a1, a2, a3, a4, a5, a6, a7, a8, a9, a10, a11, a12, a13, a14, a15], _ => change _ = _; kernel_rfl
theorem list16 {xs : List Value} (h : xs.length = 16) : ∃ a0 a1 a2 a3 a4 a5 a6 a7 a8 a9 a10 a11 a12 a13 a14 a15, xs = [a0, a1, a2, a3, a4, a5, a6, a7, a8, a9, a10, a11, a12, a13, a14, a15] := by
  match xs, h with
  | [a0, a1, a2, a3, a4, a5, a6, a7, a8, a9, a10, a11, a12, a13, a14, a15], _ => exact ⟨_, _, _, _, _, _, _, _, _, _, _, _, _, _, _, _, rfl⟩
/-- Block g holds the bytes S. -/
def Row5 (w : World) (g : Nat) (S : List UInt8) : Prop := ∃ cs fr, w.heap[g]? = some (.cells cs 5 fr) ∧ ∀ (j : Nat) (s : UInt8), S[j]? = some s → cs[j]? = some (.int .u8 (s.toNat : Nat))
section
variable {w w' : World} {g : Nat} {S : List UInt8}
theorem Row5.lt (h : Row5 w g S) : g < w.heap.size := by obtain ⟨cs, fr, h, _⟩ := h; exact (Array.getElem?_eq_some_iff.1 h).1
theorem Row5.block (h : Row5 w g S) (hb : w'.heap[g]? = w.heap[g]?) : Row5 w' g S := by obtain ⟨cs, fr, h1, h2⟩ := h; exact ⟨cs, fr, hb.trans h1, h2⟩
theorem Row5.old (h : Row5 w g S) (k : Old w w') : Row5 w' g S := h.block (k g h.lt)
theorem Row5.cell (h : Row5 w g S) {j : Nat} {s : UInt8} (hj : S[j]? = some s) : w.cell? ⟨g, j, none⟩ = some (.int .u8 (s.toNat : Nat)) := by
  obtain ⟨cs, fr, h1, h2⟩ := h
  simp [World.cell?, h1, h2 j s hj]
theorem Row5.ne (h : Row5 w g S) {g' : Nat} {t : TypeId} {cs : Array Value} (hb : Blk w g' t cs) (ht : t ≠ 5) : g ≠ g' := by
  rintro rfl
  obtain ⟨cs', fr, h1, _⟩ := h
  rw [show w.heap[g]? = some (.cells cs t (0, 0)) from hb] at h1
  injection h1 with h1
  injection h1 with _ h1
  exact ht h1
theorem Row5.turned {b m : Nat} {L : List (List Nat)} (h : Row5 w g S) (hm : ActMap w b m L) (k : w.mapTurned w' b) : Row5 w' g S := by
  have hne : g ≠ b := by
    rintro rfl
    obtain ⟨cs', fr, h1, _⟩ := h
    exact hm.notcells h1 rfl
  exact h.block (OldBut.turned k g h.lt hne)
theorem Row5.grown {base : Nat} {e : TypeId} {size m : Nat} {v : Value} {xs : List Value} (h : Row5 w g S) (hr : w.ownsRow base e size v m xs) (he : e ≠ 5) (k : w.grownBy w' v.ownBlock) : Row5 w' g S := by
  refine h.block (k.block g h.lt fun e1 => ?_)
  obtain ⟨_, cur, hb⟩ := row_block hr e1.symm
  exact h.ne hb he rfl
theorem Row5.far (h : Row5 w g S) {g' : Nat} {t : TypeId} {cs : Array Value} (hb : Blk w g' t cs) (ht : t ≠ 5) (i : Nat) (u : Value) : Row5 (w.setCell ⟨g', i, none⟩ u) g S :=
  h.block (Below.heap_setCell _ _ _ g (h.ne hb ht))
theorem below_grown {B : Nat} {w0 : World} {base : Nat} {e : TypeId} {size m : Nat} {v : Value} {xs : List Value} (h : Below B w0 w) (hr : w.ownsRow base e size v m xs) (hB : B ≤ base) (hBw : B ≤ w.heap.size) (k : w.grownBy w' v.ownBlock) : Below B w0 w' := by
  refine ⟨k.os.trans h.os, k.tape.trans h.tape, k.output.trans h.output, Nat.le_trans h.size k.size, fun i hi => (k.block i (by omega) fun e1 => ?_).trans (h.block i hi)⟩
  obtain ⟨hb, _⟩ := row_block hr e1.symm
  omega
end
theorem info9 : (Try.prog.info? 9).map (fun i => (i.zero, i.size, i.bytes)) = some (some (.string ⟨#[]⟩), 1, 16) := by kernel_rfl
theorem und70 : Try.prog.underlying 70 = some (.slice 9) := by kernel_rfl
end Go.Proofs.Ytlbpkhbjdojdgaa
