/-
  slices.SortFunc at rules that the call owns.
-/
import Derived.Test.YtlbpkhbjdojdgaaShort
import Derived.Test.YtlbpkhbjdojdgaaSortR
import Derived.Sort.OwnSortedInts
namespace Go.Proofs.Ytlbpkhbjdojdgaa
open Go.RowKit Go.Lib Go.Sort
set_option maxRecDepth 100000

abbrev RuleS := List UInt8 × List UInt8

theorem encR_len (r : RuleS) : (encR r).length = 2 := rfl
theorem flatR_get : ∀ (d : List RuleS) (t : Nat), t < d.length * 2 → (d.flatMap encR)[t]? = (encR d[t / 2]!)[t % 2]?
  | [], t, h => by simp at h
  | r :: d, 0, h => by simp [encR]
  | r :: d, 1, h => by simp [encR]
  | r :: d, t + 2, h => by
    have ih := flatR_get d t (by simp at h; omega)
    have e1 : (t + 2) / 2 = t / 2 + 1 := by omega
    have e2 : (t + 2) % 2 = t % 2 := by omega
    rw [e1, e2, List.flatMap_cons, List.getElem?_append_right (by simp [encR]), encR_len, Nat.add_sub_cancel, ih]
    simp
theorem flatR_len (d : List RuleS) : (d.flatMap encR).length = d.length * 2 := by
  induction d with
  | nil => rfl
  | cons r d ih => rw [List.flatMap_cons, List.length_append, ih, encR_len, List.length_cons]; omega
theorem flatK_list (d : List RuleS) : flatK encR 2 d.toArray = (d.flatMap encR).toArray := by
  refine ext_get! (by rw [size_flatK, List.size_toArray, List.size_toArray, flatR_len]) fun t ht => ?_
  have ht2 : t < d.length * 2 := by simpa using ht
  rw [get_flatK _ _ _ _ (by simpa using ht2)]
  have h1 := flatR_get d t ht2
  have hlt : t / 2 < d.length := by omega
  rw [List.getElem!_toArray, List.getElem!_toArray, List.getElem!_eq_getElem?_getD, List.getElem!_eq_getElem?_getD (l := d.flatMap encR), h1]

theorem holds_of_blockV {w : World} {g : Nat} {cur : Array Value} {e : TypeId} {vs : List Value} (hb : w.heap[g]? = some (.cells cur e (0, 0))) (ht : cur.toList.take vs.length = vs) : Holds id w g 0 vs.toArray := by
  intro j hj
  have hj' : j < vs.length := by simpa using hj
  refine ⟨?_, by simp [World.frozen?, hb]⟩
  have h1 : (cur.toList.take vs.length)[j]? = vs[j]? := by rw [ht]
  rw [List.getElem?_take_of_lt hj'] at h1
  simp only [World.cell?, hb, Nat.zero_add]
  simp only [Option.isSome_none, Bool.false_eq_true, if_false]
  rw [← Array.getElem?_toList, h1]
  simp [hj']
theorem heap_sortedV {w : World} {g n : Nat} {os : Array Obj} {cur : Array Value} {e : TypeId} {fr : Nat × Nat} (d : Array Value) (hb : w.heap[g]? = some (.cells cur e fr)) :
    (grow (putRow id (Sort.ahead w n) g 0 d) os).heap[g]? = some (.cells (putCells id 0 d cur) e fr) := by
  have hg : g < w.heap.size := (Array.getElem?_eq_some_iff.1 hb).1
  rw [heap_grow_old _ _ (by simpa using hg)]
  simp [putRow, mapBlock, Sort.ahead, Array.getElem?_modify, hb, onCells]
theorem grownBy_sortedV {w : World} {g n : Nat} {os : Array Obj} (d : Array Value) : w.grownBy (grow (putRow id (Sort.ahead w n) g 0 d) os) (some g) := by
  refine ⟨rfl, rfl, rfl, by simp, fun k hk hne => ?_⟩
  rw [heap_grow_old _ _ (by simpa using hk)]
  have : g ≠ k := fun e => hne (by rw [e])
  simp [putRow, mapBlock, Sort.ahead, Array.getElem?_modify, this]
theorem take_putCellsV (cur : Array Value) (ts : List Value) (h : ts.length ≤ cur.size) : (putCells id 0 ts.toArray cur).toList.take ts.length = ts := by
  apply List.ext_getElem?
  intro j
  by_cases hj : j < ts.length
  · rw [List.getElem?_take_of_lt hj, Array.getElem?_toList]
    simp [putCells, hj, show j < cur.size by omega]
  · rw [List.getElem?_take_eq_none (by omega), List.getElem?_eq_none (by omega)]

/-- slt decides the order by cfS. -/
theorem cfS_slt (a b : List UInt8) : ltOf cfS a b = true ↔ Dy.slt a b := by
  unfold ltOf cfS Lib.compareInt Dy.slt
  by_cases h1 : a.length < b.length
  · simp [h1]
  · by_cases h2 : b.length < a.length
    · simp [h1, h2, show ¬ a.length = b.length by omega]
    · have h3 : a.length = b.length := by omega
      have h4 := bytesLess_lex a b h3
      simp only [h3, Int.lt_irrefl, Nat.lt_irrefl, if_false, false_or, true_and, cmpB]
      rw [← h4]
      by_cases h5 : Op.bytesLess a b = true
      · simp [h5]
      · rw [if_neg h5]
        simp only [h5, iff_false]
        split <;> (try split) <;> simp_all

theorem ltR_slt (x y : RuleS) : ltOf (fun a b : RuleS => cfS a.1 b.1) x y = true ↔ Dy.slt x.1 y.1 := cfS_slt x.1 y.1
theorem swoR : SWO (ltOf fun a b : RuleS => cfS a.1 b.1) where
  irrefl x := by
    cases h : ltOf (fun a b : RuleS => cfS a.1 b.1) x x with
    | false => rfl
    | true => exact absurd ((ltR_slt x x).1 h) (Dy.slt_irrefl _)
  trans x y z h1 h2 := (ltR_slt x z).2 (Dy.slt_trans ((ltR_slt x y).1 h1) ((ltR_slt y z).1 h2))
  ntrans x y z h1 h2 := by
    cases h : ltOf (fun a b : RuleS => cfS a.1 b.1) x z with
    | false => rfl
    | true =>
      exfalso
      have h3 := (ltR_slt x z).1 h
      have h1' : ¬ Dy.slt x.1 y.1 := fun h => by rw [(ltR_slt x y).2 h] at h1; cases h1
      have h2' : ¬ Dy.slt y.1 z.1 := fun h => by rw [(ltR_slt y z).2 h] at h2; cases h2
      rcases Dy.slt_total x.1 y.1 with h | h | h
      · exact h1' h
      · rw [h] at h3; exact h2' h3
      · exact h2' (Dy.slt_trans h h3)

/-- A list of rules, sorted by its left sides. -/
def SortedR (d d' : List RuleS) : Prop := d'.Perm d ∧ d'.Pairwise fun x y => ¬ Dy.slt y.1 x.1

theorem sortR_any (g cap base : Nat) (d : List RuleS) (w : World) (hown : w.ownsRow base 61 2 (.slice (some ⟨g, 0, none⟩) d.length cap) d.length (d.flatMap encR)) (hn : d.length ≤ 100000) :
    Calls Try.prog 32 #[.slice (some ⟨g, 0, none⟩) d.length cap, .func (.func 33) #[] #[]] w fun e w' => e = .returned (.tuple #[]) ∧ ∃ d', SortedR d d' ∧ w'.ownsRow base 61 2 (.slice (some ⟨g, 0, none⟩) d.length cap) d.length (d'.flatMap encR) ∧ w.grownBy w' (some g) := by
  have hlen := flatR_len d
  rcases hown.2 with ⟨h0, _⟩ | ⟨g', cap', cur, hv, hbase, hb, h1, h2, h3, h4⟩
  · cases h0
  cases hv
  have hH : HoldsK encR 2 w g 0 d.toArray := by
    unfold HoldsK
    rw [flatK_list]
    exact holds_of_blockV hb (by rw [hlen]; exact h4)
  have hgs : g < w.heap.size := (Array.getElem?_eq_some_iff.1 hb).1
  have eg : ∀ args w, (callFunc 33 args).run Try.prog w = .ok (.enter 33 args) w := enters_of Try.func33 (by kernel_rfl) rfl
  have hcon := AnyQ.slices_SortFunc Try.sortR 2 Try.isAgg61 Try.sizeOf61 encR (fun _ => rfl) (fun x v hv => by simp [encR, strV] at hv; rcases hv with rfl | rfl <;> rfl) (fun x y : RuleS => cfS x.1 y.1) swoR 33 #[] g 0 cap d.toArray w eg
    (fun _ _ _ _ x y => closure33 x y _) hH hgs (by simp; omega)
  change Calls Try.prog 32 _ _ _ at hcon
  refine hcon.mono ?_
  rintro e w' ⟨rfl, d', n, os, hp, hs, rfl⟩
  have hsz : d'.size = d.length := by simpa using hp.1
  have hd' : d' = d'.toList.toArray := by simp
  refine ⟨rfl, d'.toList, ⟨?_, ?_⟩, ?_, ?_⟩
  · have := hp.2.2
    have e3 : List.take d'.size d = d := List.take_of_length_le (by omega)
    simpa [← hsz, e3] using this
  · rw [List.pairwise_iff_getElem]
    intro i j hi hj hij
    have := hs i j (by omega) hij (by simpa [← hsz] using hj)
    have e1 : d'[i]! = d'.toList[i] := by simp at hi; simp [hi]
    have e2 : d'[j]! = d'.toList[j] := by simp at hj; simp [hj]
    rw [e1, e2] at this
    intro hlt
    rw [(ltR_slt _ _).2 hlt] at this
    cases this
  · unfold sortWorldK putRowK
    rw [hd', flatK_list]
    have hl2 : ((d'.toList).flatMap encR).length = d.length * 2 := by rw [flatR_len]; simp [hsz]
    refine ⟨hl2, .inr ⟨g, cap, _, rfl, hbase, heap_sortedV _ hb, h1, h2, by simp [putCells, h3], ?_⟩⟩
    rw [← hl2]
    exact take_putCellsV cur _ (by rw [hl2, h3]; exact Nat.mul_le_mul_right 2 h1)
  · unfold sortWorldK putRowK
    exact grownBy_sortedV _
theorem sortR_all (v : Value) (base : Nat) (d : List RuleS) (w : World) (hown : w.ownsRow base 61 2 v d.length (d.flatMap encR)) (hn : d.length ≤ 100000) :
    Calls Try.prog 32 #[v, .func (.func 33) #[] #[]] w fun e w' => e = .returned (.tuple #[]) ∧ ∃ d', SortedR d d' ∧ w'.ownsRow base 61 2 v d.length (d'.flatMap encR) ∧ w.grownBy w' v.ownBlock := by
  rcases hown.2 with ⟨rfl, h0⟩ | ⟨g, cap, cur, rfl, _⟩
  · have hd : d = [] := List.eq_nil_of_length_eq_zero h0
    subst hd
    have hcon := AnyF.slices_SortFunc_none Try.sortR none 0 (.func (.func 33) #[] #[]) w
    change Calls Try.prog 32 _ _ _ at hcon
    refine hcon.mono ?_
    rintro e w' ⟨rfl, rfl⟩
    exact ⟨rfl, [], ⟨List.Perm.refl _, List.Pairwise.nil⟩, hown, World.grownBy.refl _ _⟩
  · exact sortR_any g cap base d w hown hn
end Go.Proofs.Ytlbpkhbjdojdgaa
