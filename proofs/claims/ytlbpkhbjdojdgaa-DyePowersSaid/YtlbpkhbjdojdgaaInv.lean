/-
  A region that draws its order, by an invariant: one proof for each operation, not one for each order.
-/
import Derived.Test.YtlbpkhbjdojdgaaW
namespace Go.Proofs.Ytlbpkhbjdojdgaa
open Go.RowKit

section
variable {P : Program} {md : Region.Mode} {ops : Array Oper} {Q : Exit → Act → World → Prop}

/-- What is ready: it is not listed, and all that it waits for is. -/
theorem ready_spec {listed : Array Bool} {i : Nat} (h : i ∈ Region.ready md ops listed) :
    i < ops.size ∧ listed.getD i true = false ∧ ∀ o, ops[i]? = some o → ∀ e ∈ o.after, Region.binds md e = true → listed.getD e.on false = true := by
  simp only [Region.ready, List.mem_filter, List.mem_range, Bool.and_eq_true, Bool.not_eq_true'] at h
  obtain ⟨h1, h2, h3⟩ := h
  refine ⟨h1, h2, fun o ho e he hb => ?_⟩
  rw [ho] at h3
  simp only [Option.map_some, Option.getD_some, Array.all_eq_true_iff_forall_mem] at h3
  have := h3 e he
  simpa [hb] using this

/-- Where every operation waits for earlier ones alone, something is ready till all are listed. -/
theorem all_listed {listed : Array Bool} (hback : ∀ i, i < ops.size → ∀ o, ops[i]? = some o → ∀ e ∈ o.after, e.on < i) (hs : listed.size = ops.size) (h : Region.ready md ops listed = []) :
    ∀ i, i < ops.size → listed.getD i true = true := by
  intro i
  induction i using Nat.strongRecOn with
  | ind i ih =>
    intro hi
    cases hl : listed.getD i true with
    | true => rfl
    | false =>
      exfalso
      have : i ∈ Region.ready md ops listed := by
        simp only [Region.ready, List.mem_filter, List.mem_range, Bool.and_eq_true, Bool.not_eq_true']
        refine ⟨hi, hl, ?_⟩
        rw [Array.getElem?_eq_getElem hi]
        simp only [Option.map_some, Option.getD_some, Array.all_eq_true_iff_forall_mem]
        intro e he
        have hlt := hback i hi _ (Array.getElem?_eq_getElem hi) e he
        have h1 := ih e.on hlt (by omega)
        have h2 : e.on < listed.size := by omega
        have h3 : listed.getD e.on false = true := by simpa [Array.getD, h2] using h1
        simp [h3]
      rw [h] at this
      cases this

theorem count_set {l : List Bool} {i : Nat} (hi : i < l.length) (h : l[i] = false) : (l.set i true).count false + 1 = l.count false := by
  induction l generalizing i with
  | nil => simp at hi
  | cons b l ih =>
    cases i with
    | zero => simp at h; subst h; simp
    | succ i =>
      simp only [List.set_cons_succ, List.count_cons]
      have := ih (i := i) (by simpa using hi) (by simpa using h)
      omega

theorem wpAny_inv (Inv : Array Bool → Act → World → Prop) (hback : ∀ i, i < ops.size → ∀ o, ops[i]? = some o → ∀ e ∈ o.after, e.on < i)
    (hstep : ∀ (listed : Array Bool) (a : Act) (w : World) (i : Nat), listed.size = ops.size → Inv listed a w → i ∈ Region.ready md ops listed → wpOp P ops Q i (fun a' w' => Inv (listed.setIfInBounds i true) a' w') a w)
    (hdone : ∀ (listed : Array Bool) (a : Act) (w : World), listed.size = ops.size → Inv listed a w → (∀ j, j < ops.size → listed.getD j true = true) → Q .normal a w) :
    ∀ (fuel : Nat) (listed : Array Bool) (a : Act) (w : World), listed.size = ops.size → listed.toList.count false ≤ fuel → Inv listed a w → wpAny P md ops Q fuel listed a w := by
  intro fuel
  induction fuel with
  | zero =>
    intro listed a w hs hc hI
    have hall : ∀ j, j < ops.size → listed.getD j true = true := fun j hj => by
      have hj' : j < listed.size := by omega
      cases hb : listed.getD j true with
      | true => rfl
      | false =>
        have hm : false ∈ listed.toList := by
          have hb2 : listed[j] = false := by simpa [Array.getD, hj'] using hb
          rw [← hb2]; exact Array.getElem_mem_toList hj'
        have := List.count_pos_iff.2 hm
        omega
    refine ⟨?_, hdone listed a w hs hI hall⟩
    cases hr : Region.ready md ops listed with
    | nil => rfl
    | cons i r =>
      obtain ⟨h1, h2, _⟩ := ready_spec (md := md) (ops := ops) (listed := listed) (i := i) (by rw [hr]; simp)
      rw [hall i h1] at h2
      cases h2
  | succ fuel ih =>
    intro listed a w hs hc hI
    refine ⟨fun hr => hdone listed a w hs hI (all_listed hback hs hr), fun i hi => ?_⟩
    obtain ⟨h1, h2, _⟩ := ready_spec hi
    refine wpOp_mono (fun a' w' h => ih _ a' w' (by simpa using hs) ?_ h) (hstep listed a w i hs hI hi)
    have hj' : i < listed.size := by omega
    have hb2 : listed[i] = false := by simpa [Array.getD, hj'] using h2
    have := count_set (l := listed.toList) (i := i) (by simpa using hj') (by simpa using hb2)
    simp only [Array.toList_setIfInBounds]
    omega

theorem back_of (h : (List.range ops.size).all (fun i => ((ops[i]?).map fun o => o.after.all fun e => decide (e.on < i)).getD true) = true) :
    ∀ i, i < ops.size → ∀ o, ops[i]? = some o → ∀ e ∈ o.after, e.on < i := fun i hi o ho e he => by
  have h1 := List.all_eq_true.1 h i (List.mem_range.2 hi)
  rw [ho] at h1
  simp only [Option.map_some, Option.getD_some, Array.all_eq_true_iff_forall_mem] at h1
  exact of_decide_eq_true (h1 e he)
end
end Go.Proofs.Ytlbpkhbjdojdgaa
