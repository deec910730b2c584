/-
  The walks of slices.Equal at rules and of awake.
-/
import Derived.Test.YtlbpkhbjdojdgaaRules
namespace Go.Proofs.Ytlbpkhbjdojdgaa
open Go.RowKit Go.Sort
set_option maxRecDepth 100000

theorem list_one : Dy.list 1 [] = some [[], [98], [119]] := by decide +kernel
def four : List RuleS := [([98, 98], [98]), ([98, 119], [119]), ([119, 98], [98]), ([119, 119], [119])]
theorem rules_one : rulesU 1 [] [[], [98], [119]] [[], [98], [119]] = four := by decide +kernel
theorem four_slt : ∀ x ∈ four, ∀ y ∈ four, x.1 ≠ y.1 ∨ x = y := by decide +kernel
theorem four_sorted : four.Pairwise fun x y => ¬ Dy.slt y.1 x.1 := by
  simp [four, Dy.slt, Dy.lex]
theorem sorted_one {d' : List RuleS} (h : SortedR four d') : d' = four := by
  refine List.Perm.eq_of_pairwise (le := fun x y => ¬ Dy.slt y.1 x.1) (fun a b ha hb h1 h2 => ?_) h.2 four_sorted h.1
  rcases four_slt a (h.1.mem_iff.1 ha) b hb with hne | he
  · rcases Dy.slt_total a.1 b.1 with h3 | h3 | h3
    · exact absurd h3 h2
    · exact absurd h3 hne
    · exact absurd h3 h1
  · exact he

theorem neqR (a b : ByteArray) (W : World) : (binOp .neq 61 (.agg #[.string a, .string b]) (.agg #[.string a, .string b])).run Try.prog W = .ok (.bool false) W := by
  rw [run_neq_struct]
  have ht : Try.prog.underlying 61 = some (.struct (Try.prog.fieldsOf 61)) := by kernel_rfl
  rw [run_equalIn_agg W 9999 61 _ _ ht (by kernel_rfl)]
  have hf : (Try.prog.fieldsOf 61).toList.map (fun f => (f.name == "_", f.type, f.offset)) = [(false, 9, 0), (false, 9, 1)] := by kernel_rfl
  revert hf
  generalize (Try.prog.fieldsOf 61).toList = fs
  intro hf
  have hl : fs.length = 2 := by have := congrArg List.length hf; simpa using this
  obtain ⟨f1, f2, rfl⟩ : ∃ f1 f2, fs = [f1, f2] := by
    match fs, hl with
    | [f1, f2], _ => exact ⟨f1, f2, rfl⟩
  · simp only [List.map_cons, List.map_nil, List.cons.injEq, Prod.mk.injEq, and_true] at hf
    obtain ⟨⟨n1, t1, o1⟩, ⟨n2, t2, o2⟩⟩ := hf
    have u9 := und9
    have n1' : f1.name ≠ "_" := by simpa using n1
    have n2' : f2.name ≠ "_" := by simpa using n2
    simp [Op.eqFields, t1, o1, t2, o2, n1', n2', part, isAgg, run_underlying u9, run_equalIn_string W 9998 9 _ _ u9, run_equalIn_string W 9999 9 _ _ u9]
/-- Where the cells of rules lie. -/
def RulesAt (w : World) (b : Nat) (d : List RuleS) : Prop := ∀ (i : Nat) (r : RuleS), d[i]? = some r → w.cell? ⟨b, i * 2, none⟩ = some (strV r.1) ∧ w.cell? ⟨b, i * 2 + 1, none⟩ = some (strV r.2)

theorem equalR (b1 b2 c1 c2 : Nat) (d : List RuleS) (w : World) (h1 : RulesAt w b1 d) (h2 : RulesAt w b2 d) (hd : d.length ≤ 100000) :
    Calls Try.prog 23 #[.slice (some ⟨b1, 0, none⟩) d.length c1, .slice (some ⟨b2, 0, none⟩) d.length c2] w fun e w' => e = .returned (.bool true) ∧ Below w.heap.size w w' := by
  have H1 := Lib.hid h1
  have H2 := Lib.hid h2
  clear h1 h2
  go_enter Try.func23, Try.ntmps23
  go_wp2_with fail
  go_loopw [13] (fun i wr => ∃ k : Nat, i = .int .i64 k ∧ k ≤ d.length ∧ Below w.heap.size w wr ∧ ∀ p, wr.cell? p = w.cell? p) (fun i _ => d.length - (intOf i).toNat)
  case atStart => exact ⟨0, rfl, by omega, Below.refl _ _, fun _ => rfl⟩
  case round =>
    obtain ⟨k, rfl, hk, hbe, hcells⟩ := hrel
    by_cases hlt : k < d.length
    · obtain ⟨r, hr⟩ : ∃ r, d[k]? = some r := ⟨_, List.getElem?_eq_getElem hlt⟩
      obtain ⟨a1, a2⟩ := H1.out k r hr
      obtain ⟨e1, e2⟩ := H2.out k r hr
      rw [← hcells] at a1 a2 e1 e2
      unfold strV at a1 a2 e1 e2
      go_wp2_with fail
      have hne := fun W => neqR ⟨r.1.toArray⟩ ⟨r.2.toArray⟩ W
      have hk0 : (0 : Int) ≤ (k : Int) := by omega
      have hk1 : (k : Int) < (d.length : Int) := by omega
      have hu61 : Try.prog.underlying 61 = some (.struct (Try.prog.fieldsOf 61)) := by kernel_rfl
      go_region_held3 (fun w' => w'.cell? ⟨b1, k * 2, none⟩ = some (.string ⟨r.1.toArray⟩) ∧ w'.cell? ⟨b1, k * 2 + 1, none⟩ = some (.string ⟨r.2.toArray⟩) ∧ w'.cell? ⟨b2, k * 2, none⟩ = some (.string ⟨r.1.toArray⟩) ∧ w'.cell? ⟨b2, k * 2 + 1, none⟩ = some (.string ⟨r.2.toArray⟩)) (exact ⟨a1, a2, e1, e2⟩) (fail)
      go_wp2_with fail
      exact ⟨⟨k + 1, by go_num, by omega, hbe.drew, fun p => hcells p⟩, by simp [intOf]; omega⟩
    · go_wp2_with fail
      go_ret
      exact ⟨rfl, hbe⟩
theorem RulesAt.of_own {w : World} {base g cap n : Nat} {d : List RuleS} (h : w.ownsRow base 61 2 (.slice (some ⟨g, 0, none⟩) n cap) n (d.flatMap encR)) (hn : n = d.length) : RulesAt w g d := by
  subst hn
  rcases h.2 with ⟨h0, _⟩ | ⟨g', cap', cur, hv, hbase, hb, h1, h2, h3, h4⟩
  · cases h0
  cases hv
  have hH := holds_of_blockV (vs := d.flatMap encR) hb (by rw [flatR_len]; exact h4)
  intro i r hr
  have hi := (List.getElem?_eq_some_iff.1 hr).1
  have hl := flatR_len d
  have key : ∀ t, t < d.length * 2 → w.cell? ⟨g, t, none⟩ = some (encR d[t / 2]!)[t % 2]! := fun t ht => by
    have := (hH t (by simpa [hl] using ht)).1
    rw [Nat.zero_add] at this
    rw [this, ← flatK_list, get_flatK _ _ _ _ (by simpa using ht)]
    simp
  have hd : d[i]! = r := by rw [List.getElem!_eq_getElem?_getD, hr]; rfl
  have k1 := key (i * 2) (by omega)
  have k2 := key (i * 2 + 1) (by omega)
  rw [show i * 2 / 2 = i by omega, show i * 2 % 2 = 0 by omega, hd] at k1
  rw [show (i * 2 + 1) / 2 = i by omega, show (i * 2 + 1) % 2 = 1 by omega, hd] at k2
  exact ⟨k1, k2⟩

theorem rowsNone (w : World) (B : Nat) : RowsAre w B none 0 [] := ⟨rfl, [], Reads.none_, fun i d h => by simp at h⟩
theorem okOne : Dy.OkD 1 [] := ⟨by omega, by omega, by simp, fun d h => by simp at h⟩

theorem awake_any (w : World) : Calls Try.prog 9 #[] w fun e w' => e = .returned (.bool true) ∧ Below w.heap.size w w' := by
  have C := Lib.hid (Rules_yes 1 0 0 none [] w 0 okOne (rowsNone w 0) (by omega) (by omega))
  go_enter Try.func9, Try.ntmps9
  go_wp2_with fail
  refine C.out.mono ?_
  rintro e w1 ⟨hb1, ⟨hl, _⟩ | ⟨W, d', v, hl, hs, rfl, hown⟩⟩
  · rw [list_one] at hl; cases hl
  rw [list_one] at hl
  cases hl
  rw [rules_one] at hs hown
  have hd := sorted_one hs
  subst hd
  obtain ⟨g, cap, rfl, hg1, hg2⟩ := hown.form (by decide)
  have hat := RulesAt.of_own hown rfl
  have HAT := Lib.hid hat
  have HB := Lib.hid hb1
  have C5 := Lib.hid (equalR g w1.heap.size cap 4 four (w1.alloc (.cells #[.string ⟨#[98, 98]⟩, .string ⟨#[98]⟩, .string ⟨#[98, 119]⟩, .string ⟨#[119]⟩, .string ⟨#[119, 98]⟩, .string ⟨#[98]⟩, .string ⟨#[119, 119]⟩, .string ⟨#[119]⟩] 61))
    (fun i r hr => by
      obtain ⟨q1, q2⟩ := HAT.out i r hr
      exact ⟨(World.cell?_alloc_lt w1 _ _ hg2).trans q1, (World.cell?_alloc_lt w1 _ _ hg2).trans q2⟩)
    (fun i r hr => by
      have b1 := Blk.new w1 61 #[.string ⟨#[98, 98]⟩, .string ⟨#[98]⟩, .string ⟨#[98, 119]⟩, .string ⟨#[119]⟩, .string ⟨#[119, 98]⟩, .string ⟨#[98]⟩, .string ⟨#[119, 119]⟩, .string ⟨#[119]⟩]
      rw [b1.cell, b1.cell]
      match i, hr with
      | 0, hr => cases hr; exact ⟨rfl, rfl⟩
      | 1, hr => cases hr; exact ⟨rfl, rfl⟩
      | 2, hr => cases hr; exact ⟨rfl, rfl⟩
      | 3, hr => cases hr; exact ⟨rfl, rfl⟩
      | i + 4, hr => simp [four] at hr) (by decide))
  clear hown hat hs C
  go_wp2_with fail
  refine C5.out.mono ?_
  rintro e w5 ⟨rfl, hb5⟩
  go_wp2_with fail
  go_ret
  exact ⟨rfl, (HB.out.alloc HB.out.size _).trans (hb5.mono (by have := HB.out.size; simp; omega))⟩
end Go.Proofs.Ytlbpkhbjdojdgaa
