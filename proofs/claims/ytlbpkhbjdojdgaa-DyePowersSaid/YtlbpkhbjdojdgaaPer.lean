/-
  The plain law of powers: of a map of at most eight points the power 8 comes again within 90 steps.
-/
namespace Go.Proofs.Ytlbpkhbjdojdgaa
namespace Dy

/-- f, n times. -/
def it (f : Nat → Nat) : Nat → Nat → Nat
  | 0, x => x
  | n + 1, x => f (it f n x)
theorem it_add (f : Nat → Nat) (m : Nat) : ∀ n x, it f (m + n) x = it f m (it f n x) := by
  induction m with
  | zero => intro n x; simp [it]
  | succ m ih => intro n x; rw [Nat.succ_add]; show f (it f (m + n) x) = f (it f m (it f n x)); rw [ih]
theorem it_mul {f : Nat → Nat} {x l : Nat} (h : it f l x = x) : ∀ k, it f (k * l) x = x
  | 0 => by simp [it]
  | k + 1 => by rw [Nat.succ_mul, it_add, h, it_mul h k]
theorem it_mem {f : Nat → Nat} {S : List Nat} (hf : ∀ x ∈ S, f x ∈ S) {x : Nat} (hx : x ∈ S) : ∀ n, it f n x ∈ S
  | 0 => hx
  | n + 1 => hf _ (it_mem hf hx n)
theorem it_comm (f : Nat → Nat) (m n x : Nat) : it f m (it f n x) = it f n (it f m x) := by rw [← it_add, ← it_add, Nat.add_comm]

/-- Two of the first nine are one. -/
theorem pigeon {f : Nat → Nat} {S : List Nat} (hf : ∀ x ∈ S, f x ∈ S) (hS : S.length ≤ 8) {x : Nat} (hx : x ∈ S) : ∃ i j, i < j ∧ j ≤ 8 ∧ it f i x = it f j x := by
  rcases Classical.em (∃ i j, i < j ∧ j ≤ 8 ∧ it f i x = it f j x) with h | h
  · exact h
  · exfalso
    have hn : ((List.range 9).map fun i => it f i x).Nodup := by
      rw [List.nodup_iff_pairwise_ne, List.pairwise_map]
      refine List.Pairwise.imp_of_mem ?_ List.pairwise_lt_range
      intro a b ha hb hab e
      exact h ⟨a, b, hab, by have := List.mem_range.1 hb; omega, e⟩
    have := List.Nodup.length_le_of_subset hn (l₂ := S) (fun y hy => by
      obtain ⟨i, _, rfl⟩ := List.mem_map.1 hy
      exact it_mem hf hx i)
    simp at this
    omega

/-- x comes again after l steps and no sooner. -/
def Per (f : Nat → Nat) (l x : Nat) : Prop := 0 < l ∧ it f l x = x ∧ ∀ m, 0 < m → m < l → it f m x ≠ x

theorem per_of {f : Nat → Nat} {x : Nat} : ∀ l, 0 < l → it f l x = x → ∃ m, m ≤ l ∧ Per f m x := by
  intro l
  induction l using Nat.strongRecOn with
  | ind l ih =>
    intro h0 h
    rcases Classical.em (∃ m, 0 < m ∧ m < l ∧ it f m x = x) with ⟨m, h1, h2, h3⟩ | hn
    · obtain ⟨k, h4, h5⟩ := ih m h2 h1 h3
      exact ⟨k, by omega, h5⟩
    · exact ⟨l, Nat.le_refl _, h0, h, fun m h1 h2 e => hn ⟨m, h1, h2, e⟩⟩

/-- What comes behind a point of a cycle is of that cycle. -/
theorem per_it {f : Nat → Nat} {l x : Nat} (h : Per f l x) (n : Nat) : Per f l (it f n x) := by
  obtain ⟨h0, h1, h2⟩ := h
  refine ⟨h0, by rw [it_comm, h1], fun m hm hml e => ?_⟩
  -- bring it back to x
  have key : ∀ k, it f (k * l) x = x := it_mul h1
  obtain ⟨r, hr⟩ : ∃ r, r + n = n * l := ⟨n * l - n, by
    have : n * 1 ≤ n * l := Nat.mul_le_mul_left n h0
    omega⟩
  have e1 : it f r (it f n x) = x := by rw [← it_add, hr]; exact key n
  have e2 : it f m x = x := by
    have := congrArg (it f r) e
    rw [it_comm f r m, e1] at this
    exact this
  exact h2 m hm hml e2

/-- The points of a cycle are as many as it is long. -/
theorem orbit_nodup {f : Nat → Nat} {l x : Nat} (h : Per f l x) : ((List.range l).map fun i => it f i x).Nodup := by
  rw [List.nodup_iff_pairwise_ne, List.pairwise_map]
  refine List.Pairwise.imp_of_mem ?_ List.pairwise_lt_range
  intro a b ha hb hab e
  have hb' := List.mem_range.1 hb
  obtain ⟨d, rfl⟩ : ∃ d, b = d + a := ⟨b - a, by omega⟩
  rw [it_add] at e
  exact (per_it h a).2.2 d (by omega) (by omega) e.symm

/-- A point of cycle length l, for each length; the sum of the lengths is no more than the points. -/
theorem sum_le {f : Nat → Nat} {S : List Nat} (hf : ∀ x ∈ S, f x ∈ S) : ∀ (L : List (Nat × Nat)), (L.map Prod.fst).Nodup → (∀ p ∈ L, p.2 ∈ S ∧ Per f p.1 p.2) → (L.map Prod.fst).sum ≤ S.length := by
  intro L hn hL
  have key : ∀ L : List (Nat × Nat), (L.map Prod.fst).Nodup → (∀ p ∈ L, p.2 ∈ S ∧ Per f p.1 p.2) → (L.flatMap fun p => (List.range p.1).map fun i => it f i p.2).Nodup := by
    intro L
    induction L with
    | nil => intro _ _; exact List.nodup_nil
    | cons p L ih =>
      intro hn hL
      rw [List.map_cons, List.nodup_cons] at hn
      rw [List.flatMap_cons, List.nodup_append]
      refine ⟨orbit_nodup (hL p (List.mem_cons_self ..)).2, ih hn.2 fun q hq => hL q (List.mem_cons_of_mem _ hq), ?_⟩
      intro a ha b hb e
      subst e
      obtain ⟨i, _, rfl⟩ := List.mem_map.1 ha
      obtain ⟨q, hq, hqa⟩ := List.mem_flatMap.1 hb
      obtain ⟨j, _, hj⟩ := List.mem_map.1 hqa
      have h1 := per_it (hL p (List.mem_cons_self ..)).2 i
      have h2 := per_it (hL q (List.mem_cons_of_mem _ hq)).2 j
      rw [hj] at h2
      have hpq : p.1 = q.1 := by
        rcases Nat.lt_trichotomy p.1 q.1 with h | h | h
        · exact absurd h1.2.1 (h2.2.2 _ h1.1 h)
        · exact h
        · exact absurd h2.2.1 (h1.2.2 _ h2.1 h)
      exact hn.1 (List.mem_map.2 ⟨q, hq, hpq.symm⟩)
  have h1 := List.Nodup.length_le_of_subset (key L hn hL) (l₂ := S) (fun y hy => by
    obtain ⟨p, hp, hy⟩ := List.mem_flatMap.1 hy
    obtain ⟨i, _, rfl⟩ := List.mem_map.1 hy
    exact it_mem hf (hL p hp).1 i)
  have h2 : (L.flatMap fun p => (List.range p.1).map fun i => it f i p.2).length = (L.map Prod.fst).sum := by
    rw [List.length_flatMap]
    congr 1
    apply List.map_congr_left
    intro p _
    simp
  omega

def bools : List Bool := [true, false]
theorem mem_bools (b : Bool) : b ∈ bools := by cases b <;> simp [bools]
def okP (b2 b3 b4 b5 b6 b7 b8 : Bool) (p : Nat) : Bool :=
  Nat.blt 0 p && ((!b2 || p % 2 == 0) && ((!b3 || p % 3 == 0) && ((!b4 || p % 4 == 0) && ((!b5 || p % 5 == 0) && ((!b6 || p % 6 == 0) && ((!b7 || p % 7 == 0) && (!b8 || p % 8 == 0)))))))
def sumB (b2 b3 b4 b5 b6 b7 b8 : Bool) : Nat :=
  (if b2 then 2 else 0) + ((if b3 then 3 else 0) + ((if b4 then 4 else 0) + ((if b5 then 5 else 0) + ((if b6 then 6 else 0) + ((if b7 then 7 else 0) + (if b8 then 8 else 0))))))
theorem lcm_check : (bools.all fun b2 => bools.all fun b3 => bools.all fun b4 => bools.all fun b5 => bools.all fun b6 => bools.all fun b7 => bools.all fun b8 =>
    Nat.blt 8 (sumB b2 b3 b4 b5 b6 b7 b8) || (List.range 91).any (okP b2 b3 b4 b5 b6 b7 b8)) = true := by decide +kernel
theorem lcm_all (b2 b3 b4 b5 b6 b7 b8 : Bool) (h : sumB b2 b3 b4 b5 b6 b7 b8 ≤ 8) :
    ∃ p, p < 91 ∧ 0 < p ∧ (b2 = true → p % 2 = 0) ∧ (b3 = true → p % 3 = 0) ∧ (b4 = true → p % 4 = 0) ∧ (b5 = true → p % 5 = 0) ∧ (b6 = true → p % 6 = 0) ∧ (b7 = true → p % 7 = 0) ∧ (b8 = true → p % 8 = 0) := by
  have k := lcm_check
  simp only [List.all_eq_true] at k
  have k1 := k b2 (mem_bools _) b3 (mem_bools _) b4 (mem_bools _) b5 (mem_bools _) b6 (mem_bools _) b7 (mem_bools _) b8 (mem_bools _)
  have h2 : Nat.blt 8 (sumB b2 b3 b4 b5 b6 b7 b8) = false := by
    cases e : Nat.blt 8 (sumB b2 b3 b4 b5 b6 b7 b8) with
    | false => rfl
    | true =>
      have h8 : 8 < sumB b2 b3 b4 b5 b6 b7 b8 := by rw [← Nat.blt_eq]; exact e
      exact absurd h (Nat.not_le.2 h8)
  rw [h2, Bool.false_or, List.any_eq_true] at k1
  obtain ⟨p, hp, hk⟩ := k1
  simp only [okP, Bool.and_eq_true, Bool.or_eq_true, Bool.not_eq_true', beq_iff_eq] at hk
  obtain ⟨h0, q2, q3, q4, q5, q6, q7, q8⟩ := hk
  have im : ∀ (b : Bool) (x : Prop), (b = false ∨ x) → b = true → x := fun b x h e => by
    rcases h with h | h
    · rw [h] at e; cases e
    · exact h
  exact ⟨p, List.mem_range.1 hp, (by rw [← Nat.blt_eq]; exact h0), im _ _ q2, im _ _ q3, im _ _ q4, im _ _ q5, im _ _ q6, im _ _ q7, im _ _ q8⟩

open Classical in
/-- ONE NUMBER FOR ALL CYCLES. -/
theorem period_all {f : Nat → Nat} {S : List Nat} (hf : ∀ x ∈ S, f x ∈ S) (hS : S.length ≤ 8) : ∃ p, 0 < p ∧ p ≤ 90 ∧ ∀ x ∈ S, it f (8 + p) x = it f 8 x := by
  -- the lengths that come
  have hb : ∀ l, ∃ b : Bool, (b = true ↔ ∃ x, x ∈ S ∧ Per f l x) := fun l => ⟨decide (∃ x, x ∈ S ∧ Per f l x), by simp⟩
  obtain ⟨b2, h2⟩ := hb 2
  obtain ⟨b3, h3⟩ := hb 3
  obtain ⟨b4, h4⟩ := hb 4
  obtain ⟨b5, h5⟩ := hb 5
  obtain ⟨b6, h6⟩ := hb 6
  obtain ⟨b7, h7⟩ := hb 7
  obtain ⟨b8, h8⟩ := hb 8
  -- a list of one point for each length that comes
  have pick : ∀ (l : Nat) (b : Bool), (b = true ↔ ∃ x, x ∈ S ∧ Per f l x) → ∃ L : List (Nat × Nat), (∀ p ∈ L, p.1 = l ∧ p.2 ∈ S ∧ Per f p.1 p.2) ∧ L.map Prod.fst = if b then [l] else [] := by
    intro l b h
    cases b with
    | false => exact ⟨[], by simp, rfl⟩
    | true =>
      obtain ⟨x, hx1, hx2⟩ := h.1 rfl
      exact ⟨[(l, x)], by simp; exact ⟨hx1, hx2⟩, rfl⟩
  obtain ⟨L2, a2, e2⟩ := pick 2 b2 h2
  obtain ⟨L3, a3, e3⟩ := pick 3 b3 h3
  obtain ⟨L4, a4, e4⟩ := pick 4 b4 h4
  obtain ⟨L5, a5, e5⟩ := pick 5 b5 h5
  obtain ⟨L6, a6, e6⟩ := pick 6 b6 h6
  obtain ⟨L7, a7, e7⟩ := pick 7 b7 h7
  obtain ⟨L8, a8, e8⟩ := pick 8 b8 h8
  have hsum := sum_le hf (L2 ++ (L3 ++ (L4 ++ (L5 ++ (L6 ++ (L7 ++ L8)))))) (by
    simp only [List.map_append, e2, e3, e4, e5, e6, e7, e8]
    clear h2 h3 h4 h5 h6 h7 h8 e2 e3 e4 e5 e6 e7 e8 pick
    revert b2 b3 b4 b5 b6 b7 b8
    intro b2 b3 b4 b5 b6 b7 b8
    cases b2 <;> cases b3 <;> cases b4 <;> cases b5 <;> cases b6 <;> cases b7 <;> cases b8 <;> decide) (by
    intro p hp
    simp only [List.mem_append] at hp
    rcases hp with hp | hp | hp | hp | hp | hp | hp
    · exact (a2 p hp).2
    · exact (a3 p hp).2
    · exact (a4 p hp).2
    · exact (a5 p hp).2
    · exact (a6 p hp).2
    · exact (a7 p hp).2
    · exact (a8 p hp).2)
  simp only [List.map_append, e2, e3, e4, e5, e6, e7, e8, List.sum_append] at hsum
  have one : ∀ (b : Bool) (l : Nat), (if b = true then [l] else []).sum = if b = true then l else 0 := fun b l => by cases b <;> simp
  simp only [one] at hsum
  obtain ⟨p, hp, hp0, q2, q3, q4, q5, q6, q7, q8⟩ := lcm_all b2 b3 b4 b5 b6 b7 b8 (Nat.le_trans hsum hS)
  refine ⟨p, hp0, by omega, fun x hx => ?_⟩
  obtain ⟨i, j, hij, hj, he⟩ := pigeon hf hS hx
  obtain ⟨d, rfl⟩ : ∃ d, j = d + i := ⟨j - i, by omega⟩
  rw [it_add] at he
  -- behind i steps x lies on a cycle of length d
  obtain ⟨m, hm, hper⟩ := per_of d (by omega) he.symm
  have hper8 : Per f m (it f 8 x) := by
    have := per_it hper (8 - i)
    rw [← it_add, show 8 - i + i = 8 by omega] at this
    exact this
  have hmem := it_mem hf hx 8
  have hdiv : p % m = 0 := by
    have hm8 : m ≤ 8 := by omega
    have hcase : m = 1 ∨ m = 2 ∨ m = 3 ∨ m = 4 ∨ m = 5 ∨ m = 6 ∨ m = 7 ∨ m = 8 := by have := hper.1; omega
    rcases hcase with rfl | rfl | rfl | rfl | rfl | rfl | rfl | rfl
    · omega
    · exact q2 (h2.2 ⟨_, hmem, hper8⟩)
    · exact q3 (h3.2 ⟨_, hmem, hper8⟩)
    · exact q4 (h4.2 ⟨_, hmem, hper8⟩)
    · exact q5 (h5.2 ⟨_, hmem, hper8⟩)
    · exact q6 (h6.2 ⟨_, hmem, hper8⟩)
    · exact q7 (h7.2 ⟨_, hmem, hper8⟩)
    · exact q8 (h8.2 ⟨_, hmem, hper8⟩)
  have e : it f (8 + p) x = it f p (it f 8 x) := by rw [Nat.add_comm, it_add]
  rw [e, show p = p / m * m by have := Nat.div_add_mod p m; rw [hdiv, Nat.mul_comm] at this; omega]
  exact it_mul hper8.2.1 _
end Dy
end Go.Proofs.Ytlbpkhbjdojdgaa
