/-
  The walk of power: the action of a word done some times.
-/
import Derived.Test.YtlbpkhbjdojdgaaCycle
import Derived.Test.YtlbpkhbjdojdgaaLaw5
namespace Go.Proofs.Ytlbpkhbjdojdgaa
open Go.RowKit
set_option maxRecDepth 100000

/-- slices.Clone of a whole row. -/
theorem clone_row (w : World) (B c : Nat) (A : Option Addr) (d : List Int) (h : RowIs w B (.slice A d.length c) d) (hm10 : d.length ≤ 16) (h0 : 0 < d.length) :
    Calls Try.prog 19 #[.slice A d.length c] w fun e w' => ∃ g c' cur, e = .returned (.slice (some ⟨g, 0, none⟩) d.length c') ∧ w.heap.size ≤ g ∧ Blk w' g 3 cur ∧ d.length ≤ cur.size ∧ d.length ≤ c' ∧ cur.toList.take d.length = ints d ∧ Below w.heap.size w w' := by
  obtain ⟨A2, c2, hv, hc, hr⟩ := h
  obtain ⟨rfl, rfl⟩ : A2 = A ∧ c2 = c := by injection hv with h1 h2 h3; exact ⟨h1.symm, h3.symm⟩
  obtain ⟨b, off, rfl, hb, hcell⟩ := hr.place h0
  refine (Try.slices_Clone_int b off d.length c2 d w (Nat.le_refl _) (by omega) (fun j hj => hcell j _ ?_)).mono ?_
  · simp [ints, List.getD_eq_getElem?_getD, hj]
  rintro e w' ⟨v', rfl, h1, h3, h2⟩
  rw [List.take_length] at h1
  rcases h1.2 with ⟨rfl, h4⟩ | ⟨g, cp, cur, rfl, h4, h5, h6, h7, h8, h9⟩
  · omega
  · exact ⟨g, cp, cur, rfl, h4, h5, by omega, h6, by simpa [ints] using h9, h2⟩

/-- The row while a round of power goes on: the first j are one power further. -/
def pmix (c : Nat) (D : List (List Int)) (s : List UInt8) (k j : Nat) : List Nat := (List.range (2 * c)).map fun x => if x < j then Dy.it (Dy.walk D s) (k + 1) x else Dy.it (Dy.walk D s) k x
theorem pmix_zero (c : Nat) (D : List (List Int)) (s : List UInt8) (k : Nat) : pmix c D s k 0 = powA c D s k := List.map_congr_left fun x _ => by simp
theorem pmix_all (c : Nat) (D : List (List Int)) (s : List UInt8) (k : Nat) : pmix c D s k (2 * c) = powA c D s (k + 1) := List.map_congr_left fun x hx => by rw [if_pos (List.mem_range.1 hx)]
theorem pmix_len (c : Nat) (D : List (List Int)) (s : List UInt8) (k j : Nat) : (pmix c D s k j).length = 2 * c := by simp [pmix]
theorem pmix_set (c : Nat) (D : List (List Int)) (s : List UInt8) (k j : Nat) : (pmix c D s k j).set j (Dy.it (Dy.walk D s) (k + 1) j) = pmix c D s k (j + 1) := by
  apply List.ext_getElem
  · simp [pmix]
  · intro i h1 h2
    rw [List.getElem_set]
    simp only [pmix, List.getElem_map, List.getElem_range]
    by_cases h : j = i
    · subst h; simp
    · rw [if_neg h]
      by_cases h3 : i < j
      · rw [if_pos h3, if_pos (by omega)]
      · rw [if_neg h3, if_neg (by omega)]

/-- The row that power fills. -/
def PowAt (w : World) (o : Array Value) (g c' : Nat) (L : List Nat) (wr : World) : Prop :=
  Past w o wr ∧ ∃ cur : Array Value, Blk wr g 3 cur ∧ L.length ≤ cur.size ∧ cur.toList.take L.length = ints (natI L)

theorem PowAt.cell {w wr : World} {o : Array Value} {g c' : Nat} {L : List Nat} (h : PowAt w o g c' L wr) {j : Nat} (hj : j < L.length) : wr.cell? ⟨g, j, none⟩ = some (.int .i64 (L[j] : Nat)) := by
  obtain ⟨_, cur, hb, hz, ht⟩ := h
  rw [hb.cell]
  have h1 : (cur.toList.take L.length)[j]? = cur[j]? := by rw [List.getElem?_take_of_lt hj]; simp
  rw [← h1, ht]
  simp [ints, natI, hj]

theorem PowAt.store {w wr : World} {o : Array Value} {g c' : Nat} {L : List Nat} (h : PowAt w o g c' L wr) (hg : w.heap.size + 1 ≤ g) {j : Nat} (x : Nat) : PowAt w o g c' (L.set j x) (wr.setCell ⟨g, j, none⟩ (.int .i64 x)) := by
  obtain ⟨h0, cur, hb, hz, ht⟩ := h
  refine ⟨Below.setCell h0 hg _, _, hb.set_ j _, by simpa using hz, ?_⟩
  rw [List.length_set]
  have : (cur.setIfInBounds j (.int .i64 x)).toList = cur.toList.set j (.int .i64 x) := by simp
  rw [this, List.take_set, ht]
  simp [ints, natI, List.map_set]

set_option maxHeartbeats 2000000 in
theorem power_yes (c n cap t : Nat) (A : Option Addr) (D : List (List Int)) (s : ByteArray) (w : World) (B : Nat) (hr : RowsAre w B A n D) (hB : B ≤ w.heap.size) (hn : n ≤ maxLen) (hl : ∀ d ∈ D, d.length ≤ maxLen) (hz : s.size ≤ maxLen)
    (hW : WordsB c (ofD D) (ofD D).length [s]) (ht : 1 ≤ t) (ht2 : t ≤ 200) :
    Calls Try.prog 11 #[.agg #[.int .i64 c, .slice A n cap], .string s, .int .i64 t] w fun e w' => ∃ v, e = .returned (.tuple #[v, .bool true]) ∧ RowIs w' w'.heap.size v (natI (powA c (ofD D) s.data.toList t)) ∧ Below w.heap.size w w' := by
  obtain ⟨c', hcc, hE⟩ := hW.1.okD
  obtain rfl : c' = c := by omega
  have hc8 := hE.2.1
  have hc1 := hE.1
  obtain ⟨hu64, hum⟩ := wordB_iff.1 (hW.2 s (by simp))
  have hwr : IntKind.i64.wrap (2 * (c' : Int)) = 2 * (c' : Int) := IntWalk.i64_in _ (by omega)
  have hmx : ∀ n1 : Nat, n1 ≤ 6 → n1 ≤ maxLen := fun n1 h => by unfold maxLen; omega
  have p0 := Past.start w #[.int .i64 c', .slice A n cap]
  have C1 := Lib.hid (p0.of hr hB hn hl)
  have HE := Lib.hid hE
  have HW := Lib.hid hW
  have HUM := Lib.hid hum
  clear hr hl hE hW hum
  go_enter Try.func11, Try.ntmps11
  go_wp2_with fail
  refine C1.out.mono ?_
  rintro e w1 ⟨A1, n1, cap1, rfl, hr1, hcap1, hn1, hb1⟩
  have p1 := p0.next hb1
  have C2 := Lib.hid (Act_all c' n1 cap1 A1 (ofD D) s w1 w1.heap.size hr1 (Nat.le_refl _) (hmx _ hn1) hcap1 hz)
  clear hr1 hb1 C1
  go_wp2_with fail
  refine C2.out.mono ?_
  rintro e w2 ⟨va, k1, rfl, hb2, hA⟩
  have p2 := p1.next hb2
  obtain ⟨rfl, hva⟩ : k1 = 0 ∧ RowIs w2 w2.heap.size va (natI (Dy.act c' (ofD D) s.data.toList)) := by
    rcases hA with h | h
    · exact absurd HW.out h.2.2
    · exact ⟨h.1, by simpa using h.2.2⟩
  have hlen : (natI (Dy.act c' (ofD D) s.data.toList)).length = 2 * c' := by simp [natI, act_len]
  obtain ⟨Aa, capa, rfl, hva2, hva3⟩ := hva
  have C3 := Lib.hid (clone_row w2 w2.heap.size capa Aa _ ⟨Aa, capa, rfl, hva2, hva3⟩ (by omega) (by omega))
  rw [hlen] at hva2 hva3 C3 ⊢
  obtain ⟨ba, offa, rfl, hba, hca⟩ := hva3.place (by omega)
  obtain ⟨d0, d1⟩ := p2.cells
  have HA := Lib.hid hca
  clear hb2 hA C2 hca hva3
  go_wp2_with fail
  refine C3.out.mono ?_
  rintro e w3 ⟨g, cg, cur, rfl, hg, hcur, hcz, hcg, hct, hb3⟩
  have p3 := p2.next hb3
  have hI : PowAt w #[.int .i64 c', .slice A n cap] g cg (powA c' (ofD D) s.data.toList 1) w3 := ⟨p3, cur, hcur, by rw [powA_len]; exact hcz, by rw [powA_len, powA_one]; exact hct⟩
  have hAll : ∀ W, Below w2.heap.size w2 W → ∀ y, y < 2 * c' → W.cell? ⟨ba, offa + y, none⟩ = some (.int .i64 (Dy.walk (ofD D) s.data.toList y : Nat)) := fun W hW y hy => by
    rw [hW.cell (p := ⟨ba, offa + y, none⟩) hba]
    refine HA.out y _ ?_
    simp [ints, natI, Dy.act_map, hy]
  have hbe3 : Below w2.heap.size w2 w3 := hb3
  have hgw : w.heap.size + 1 ≤ g := Nat.le_trans p2.size hg
  have HI := Lib.hid hI
  have HALL := Lib.hid hAll
  clear hI hAll hcur hcz hct hb3 C3 p3
  go_wp2_with fail
  go_loopw [34] (fun i wr => ∃ k : Nat, i = .int .i64 k ∧ k + 1 ≤ t ∧ PowAt w #[.int .i64 c', .slice A n cap] g cg (powA c' (ofD D) s.data.toList (k + 1)) wr ∧ Below w2.heap.size w2 wr) (fun i _ => t - (intOf i).toNat)
  case atStart => exact ⟨0, rfl, ht, HI.out, hbe3⟩
  case round =>
    obtain ⟨k, rfl, hk, hP, hbe⟩ := hrel
    by_cases hlt : k + 1 < t
    · have HP := Lib.hid hP
      clear hP
      go_wp2_with fail
      go_loopw [38] (fun i wr => ∃ j : Nat, i = .int .i64 j ∧ j ≤ 2 * c' ∧ PowAt w #[.int .i64 c', .slice A n cap] g cg (pmix c' (ofD D) s.data.toList (k + 1) j) wr ∧ Below w2.heap.size w2 wr) (fun i _ => 2 * c' - (intOf i).toNat)
      case atStart => exact ⟨0, rfl, by omega, by rw [pmix_zero]; exact HP.out, hbe⟩
      case round =>
        obtain ⟨j, rfl, hj, hP2, hbe2⟩ := hrel
        by_cases hltj : j < 2 * c'
        · have hcj := hP2.cell (j := j) (by rw [pmix_len]; exact hltj)
          have hv : (pmix c' (ofD D) s.data.toList (k + 1) j)[j]'(by rw [pmix_len]; exact hltj) = Dy.it (Dy.walk (ofD D) s.data.toList) (k + 1) j := by simp [pmix]
          rw [hv] at hcj
          have hyl : Dy.it (Dy.walk (ofD D) s.data.toList) (k + 1) j < 2 * c' := it_lt HE.out HUM.out (k + 1) j hltj
          have hca := HALL.out _ hbe2 _ hyl
          have hset := hP2.store hgw (j := j) (Dy.it (Dy.walk (ofD D) s.data.toList) (k + 2) j)
          rw [pmix_set] at hset
          have hfz : wr.frozen? ⟨g, j, none⟩ = false := by obtain ⟨_, cur, hb, _⟩ := hP2; exact hb.frozen j
          have hbe4 : Below w2.heap.size w2 (wr.setCell ⟨g, j, none⟩ (.int .i64 (Dy.it (Dy.walk (ofD D) s.data.toList) (k + 2) j : Nat))) := hbe2.setCell hg _
          have HSET := Lib.hid hset
          have HBE4 := Lib.hid hbe4
          have hy2 : Dy.it (Dy.walk (ofD D) s.data.toList) (k + 2) j = Dy.walk (ofD D) s.data.toList (Dy.it (Dy.walk (ofD D) s.data.toList) (k + 1) j) := rfl
          rw [← hy2] at hca
          generalize Dy.it (Dy.walk (ofD D) s.data.toList) (k + 2) j = y2 at *
          generalize Dy.it (Dy.walk (ofD D) s.data.toList) (k + 1) j = y at *
          have hy0 : ¬ (y : Int) < 0 := by omega
          have hy1 : ¬ ((2 * c' : Nat) : Int) ≤ (y : Int) := by omega
          clear hset hbe4 hP2 hbe2 hv hy2 HALL
          go_wp2_with fail
          exact ⟨⟨j + 1, by go_num, by omega, HSET.out, HBE4.out⟩, by simp [intOf]; omega⟩
        · have hj2 : j = 2 * c' := by omega
          subst hj2
          rw [pmix_all] at hP2
          have HP2 := Lib.hid hP2
          clear hP2 HALL
          go_wp2_with fail
          exact ⟨⟨k + 1, by go_num, by omega, HP2.out, hbe2⟩, by simp [intOf]; omega⟩
    · have hk2 : k + 1 = t := by omega
      rw [hk2] at hP
      have HP := Lib.hid hP
      clear hP HALL
      go_wp2_with fail
      go_ret2
      have hp := HP.out
      obtain ⟨hpast, cur, hb, hz2, ht3⟩ := hp
      rw [powA_len] at hz2 ht3
      refine ⟨_, rfl, ⟨some ⟨g, 0, none⟩, cg, by simp [natI, powA_len], by simpa [natI, powA_len] using hcg, by simp [ints], fun _ => ⟨_, rfl, hb.lt, fun j u hj => ?_⟩⟩, hpast.below⟩
      rw [Addr.add_mid, Nat.zero_add, hb.cell]
      have hj2 : j < 2 * c' := by
        have := (List.getElem?_eq_some_iff.1 hj).1
        simpa [ints, natI, powA_len] using this
      rw [← ht3, List.getElem?_take_of_lt hj2] at hj
      simpa using hj
end Go.Proofs.Ytlbpkhbjdojdgaa
