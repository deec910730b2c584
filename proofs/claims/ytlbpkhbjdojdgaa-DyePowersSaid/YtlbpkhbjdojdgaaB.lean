/-
  The walks of idle and on: the action of the empty string, what a string makes of an action.
-/
import Derived.Test.YtlbpkhbjdojdgaaA
import Derived.Lib.ConvBytes
namespace Go.Proofs.Ytlbpkhbjdojdgaa
open Go.RowKit

/-- The cells of an action. -/
def actL (l : List Nat) : List Value := l.map (fun n : Nat => Value.int .i64 n) ++ List.replicate (16 - l.length) (.int .i64 0)
def actA (l : List Nat) : Array Value := (actL l).toArray

theorem actL_length (l : List Nat) (h : l.length ≤ 16) : (actL l).length = 16 := by simp [actL]; omega
theorem actA_size (l : List Nat) (h : l.length ≤ 16) : (actA l).size = 16 := by simp [actA, actL_length l h]
theorem actA_at {l : List Nat} {k : Nat} (h : k < l.length) : (actA l)[k]? = some (.int .i64 (l[k] : Nat)) := by
  simp [actA, actL, List.getElem?_append, h]
theorem actA_past {l : List Nat} {k : Nat} (h : l.length ≤ k) (hk : k < 16) : (actA l)[k]? = some (.int .i64 0) := by
  have hn : ¬ k < l.length := by omega
  simp [actA, actL, List.getElem?_append, hn, List.getElem?_replicate]; omega
theorem actA_set {l : List Nat} {k v : Nat} (h : k < l.length) : (actA l).setIfInBounds k (.int .i64 (v : Nat)) = actA (l.set k v) := by
  apply Array.ext'
  simp only [actA, List.setIfInBounds_toArray, actL, List.length_set]
  rw [List.set_append_left _ _ (by simpa using h), List.map_set]
theorem actA_push {l : List Nat} {v : Nat} (h : l.length < 16) : (actA l).setIfInBounds l.length (.int .i64 (v : Nat)) = actA (l ++ [v]) := by
  apply Array.ext'
  simp only [actA, List.setIfInBounds_toArray, actL]
  rw [List.set_append_right _ _ (by simp)]
  obtain ⟨m, hm⟩ : ∃ m, 16 - l.length = m + 1 := ⟨16 - l.length - 1, by omega⟩
  have hm2 : 16 - (l ++ [v]).length = m := by simp; omega
  rw [hm, hm2]
  simp [List.replicate_succ]
theorem actA_one (l : List Nat) : (actA l).all (·.oneCell') = true := by
  simp only [actA, actL, List.all_toArray, List.all_append, Bool.and_eq_true, List.all_eq_true]
  refine ⟨fun x hx => ?_, fun x hx => ?_⟩
  · obtain ⟨n, _, rfl⟩ := List.mem_map.1 hx; rfl
  · rw [(List.mem_replicate.1 hx).2]; rfl

theorem Blk.new_at {w : World} {g : Nat} (t : TypeId) (cs : Array Value) (h : g = w.heap.size) : Blk (w.alloc (.cells cs t)) g t cs := by subst h; exact Blk.new _ _ _

theorem und53 : Try.prog.underlying 53 = some (.array 16 3) := by kernel_rfl
theorem siz53 : (Try.prog.info? 53).map (·.size) = some 16 := by kernel_rfl

set_option maxHeartbeats 400000 in
theorem idle_any (c : Nat) (A : Option Addr) (n cap : Nat) (w : World) (hc : c ≤ 8) :
    Calls Try.prog 21 #[.agg #[.int .i64 c, .slice A n cap]] w fun e w' => e = .returned (.agg (actA (Dy.idle c))) ∧ Below w.heap.size w w' := by
  go_enter Try.func21, Try.ntmps21
  go_wp2
  go_loopw [8] (fun i wr => ∃ k : Nat, k ≤ 2 * c ∧ i = .int .i64 k ∧ Blk wr (w.heap.size + 1 + 1) 53 (actA (List.range k)) ∧ Blk wr (w.heap.size + 1) 53 (actA []) ∧ Below w.heap.size w wr) (fun i _ => 2 * c - (intOf i).toNat)
  case atStart => exact ⟨0, by omega, rfl, Blk.new_at _ _ (by simp), (Blk.new_at 53 (actA []) (by simp)).alloc _, (((Below.refl _ _).alloc (Nat.le_refl _) _).alloc (by (try simp) <;> omega) _).alloc (by (try simp) <;> omega) _⟩
  case round =>
    obtain ⟨k, hk, rfl, hb1, hb2, hbe⟩ := hrel
    by_cases hlt : k < 2 * c
    · have hcell : wr.cell? ⟨w.heap.size + 1 + 1, k, none⟩ = some (.int .i64 0) := (hb1.cell k).trans (actA_past (by simp) (by omega))
      have hfr : wr.frozen? ⟨w.heap.size + 1 + 1, k, none⟩ = false := hb1.frozen k
      go_wp2
      go_roundw
      case rel =>
        refine ⟨k + 1, by omega, by go_num, ?_, hb2.far (by simp) _, hbe.setCell (by simp; omega) _⟩
        have := hb1.set_ k (.int .i64 k)
        have e : (actA (List.range k)).setIfInBounds k (.int .i64 (k : Nat)) = actA (List.range (k + 1)) := by
          have := actA_push (l := List.range k) (v := k) (by simp; omega)
          rw [List.length_range] at this
          rw [this, List.range_succ]
        rw [← e]
        exact this
      case measure => simp [intOf]; omega
    · have hk2 : k = 2 * c := by omega
      subst hk2
      have hs1 := siz53.trans (congrArg some (actA_size (List.range (2 * c)) (by simp; omega)).symm)
      go_wp2_with (first
        | refine wpList_load_row rfl 53 (.tmp 3) rfl (w.heap.size + 1 + 1) rfl 53 (actA (List.range (2 * c))) (0, 0) _ hb1 und53 rfl hs1 ?_
        | refine wpList_store_row rfl 53 (.tmp 2) (.tmp 15) rfl (w.heap.size + 1) (actA (List.range (2 * c))) rfl rfl 53 (actA []) hb2 hs1 ((actA_size [] (by simp)).trans (actA_size (List.range (2 * c)) (by simp; omega)).symm) (actA_one _) ?_)
      refine bodyPost_ret (v := .agg (actA (List.range (2 * c)))) (results_cell_row (p := 2) (ty := 53) rfl _ _ (w.heap.size + 1) 53 _ (0, 0) _ rfl (setRow_heap _ _ _ _ _ _ hb2) und53 rfl hs1) rfl ⟨rfl, below_setRow hbe (by omega) _⟩
end Go.Proofs.Ytlbpkhbjdojdgaa
