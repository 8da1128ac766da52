/- Contracts and plain mathematics for a law, merged. -/
import Derived.Test.YtkmjiikgkhhciaaGreatX23Q2
/- Contracts: sides with a cycle, the program's way; connectivities. -/
set_option linter.unusedVariables false
set_option linter.unusedSimpArgs false
set_option maxRecDepth 100000
namespace Go.Proofs
open Go.Abs

variable {H G : AHeap} {v u f : Value} {l m c D : List Int} {es fs : List (Int × Int)} {K : Value → AHeap → Prop} {n : Int}

theorem side_bit {N v j : Nat} (hj : j < N) : (setN (sideL fs N v)).testBit j = rchB (vAdj fs) v j := by
  rw [setN_bit fun x hx => by obtain ⟨y, rfl, _⟩ := mem_sideL.1 hx; omega]
  rw [Bool.eq_iff_iff, decide_eq_true_iff, mem_sideL, rchB_iff]
  exact ⟨fun ⟨y, e, _, h⟩ => by obtain rfl : j = y := by omega
                                exact h, fun h => ⟨j, rfl, hj, h⟩⟩
theorem lengthS_ok {A : Nat → Prop} {B : Nat} {ls : List (List Int)} (h : RowsF A B H v ls) (k : K (.int .i64 (ls.length : Nat)) H) : AC Tryz.prog T0 156 [v] H K := by
  apply F156.ac
  unfold F156.B2 F156.B1
  exact h.len k
theorem sidesWithCycle_ok (h : Edges H v es) (hg : IsG n es) (hS : IsS l es.length) (k : ∀ G, H.le G → K (.tuple ⟨[.int .i64 ((sidesL (restL es (bitB l)) n.toNat).length : Nat), .int .i64 (cycM (restL es (bitB l)) n.toNat : Nat)]⟩) G) :
    AC Tryz.prog T0 106 [.agg ⟨[.int .i64 n, v]⟩, .int .u64 (setN l : Nat)] H K := by
  have n0 := hg.ed.lo; have n1 := hg.ed.hi
  have h30 : es.length ≤ 30 := by have := hg.ed.len; omega
  have hsl := setN64 hg hS
  have hfr := rest_ends (p := bitB l) hg
  have hboth := insN_both (p := bitB l) hg.endsIn
  obtain ⟨fs, hfs⟩ : ∃ fs, fs = restL es (bitB l) := ⟨_, rfl⟩
  rw [← hfs] at k hfr hboth
  have hsn := sidesN_le fs n.toNat
  apply F106.ac
  unfold F106.B19
  refine newK_f (all_iv (edges_one' h)) fun H1 l1 n1' o1 => ?_
  unfold F106.B18
  refine ldI_own o1 rfl (ld1_own o1 rfl (sides_ok (h.le l1) hg hsl fun q H2 l2 hR => ?_))
  have hR : RowsF (fun b => H1.length ≤ b) H2.length H2 q (sidesL fs n.toNat) := by rw [hfs]; exact hR
  have l12 := AHeap.le_trans l1 l2
  have o2 := o1.le l2
  have hll := leadL_length fs n.toNat
  unfold F106.B17 F106.B16
  refine hR.len ?_
  unfold F106.L2
  refine ⟨fun x1 x2 x6 x7 x17 x18 x19 G => ((setN l : Nat) : Int) = x1 ∧ H.length = x2 ∧ q = x6 ∧ q = x17 ∧ (((sidesL fs n.toNat).length : Nat) : Int) = x18 ∧ H2.le G ∧ ∃ i : Nat, x19 = i ∧ i ≤ (sidesL fs n.toNat).length ∧ x7 = (manyTo fs n.toNat i : Nat), fun _ _ _ _ _ _ x19 _ => (sidesL fs n.toNat).length - x19.toNat, ⟨rfl, rfl, rfl, rfl, rfl, AHeap.le_refl _, 0, rfl, by omega, rfl⟩, ?_⟩
  rintro x1 x2 x6 x7 x17 x18 x19 G ⟨rfl, rfl, rfl, rfl, rfl, lG, i, rfl, hi, rfl⟩
  have hRG := hR.le lG
  have hmt := manyTo_le fs n.toNat i
  unfold F106.B15
  refine pif_cases (fun hb => ?_) fun hb => ?_
  · have hlt : i < (sidesL fs n.toNat).length := by have := of_decide_eq_true hb; omega
    have hlt' : i < (leadL fs n.toNat).length := by omega
    obtain ⟨s1, s2, s3⟩ := leadL_get hlt'
    obtain ⟨w, hw⟩ : ∃ w, w = (leadL fs n.toNat)[i] := ⟨_, rfl⟩
    rw [← hw] at s1 s2 s3
    have hms := manyTo_succ (n := n.toNat) hlt'
    rw [← hw] at hms
    unfold F106.B14
    refine hRG.row hlt fun y fy => ?_
    rw [s1] at fy
    have hside : ∀ x ∈ sideL fs n.toNat w, 0 ≤ x ∧ x < 64 := fun x hx => by obtain ⟨j, rfl, hj, _⟩ := mem_sideL.1 hx; omega
    have hs64 : setN (sideL fs n.toNat w) < 2 ^ 64 := setN_lt fun x hx => (hside x hx).2
    have hslen : (sideL fs n.toNat w).length ≤ n.toNat := filtB_length _ _
    unfold F106.B13
    refine setOf_ok fy.ints (by omega) hside (asI_mk ?_)
    have oG := o2.le lG
    have l0G := AHeap.le_trans l12 lG
    unfold F106.B12
    refine ld1_own oG rfl ((h.le l0G).len ?_)
    unfold F106.L6
    refine ⟨fun x1 x2 x6 x7 x9 x10 x11 x17 x18 x19 x26 x27 x28 G => ((setN l : Nat) : Int) = x1 ∧ H.length = x2 ∧ q = x6 ∧ ((manyTo fs n.toNat i : Nat) : Int) = x7 ∧ y = x9 ∧ ((setN (sideL fs n.toNat w) : Nat) : Int) = x10 ∧ q = x17 ∧ (((sidesL fs n.toNat).length : Nat) : Int) = x18 ∧ (i : Int) = x19 ∧ v = x26 ∧ (es.length : Int) = x27 ∧ H2.le G ∧ Fresh 0 G y 2 1 (LI (sideL fs n.toNat w)) ∧ ∃ t : Nat, x28 = t ∧ t ≤ es.length ∧ x11 = (cn (fun j => rchB (vAdj fs) w (es.getD j (0, 0)).1.toNat && rchB (vAdj fs) w (es.getD j (0, 0)).2.toNat && !bitB l j) t : Nat),
      fun _ _ _ _ _ _ _ _ _ _ _ _ x28 _ => es.length - x28.toNat, ⟨rfl, rfl, rfl, rfl, rfl, rfl, rfl, rfl, rfl, rfl, rfl, lG, fy, 0, rfl, by omega, rfl⟩, ?_⟩
    clear oG l0G fy hRG lG
    rintro x1 x2 x6 x7 x9 x10 x11 x17 x18 x19 x26 x27 x28 G ⟨rfl, rfl, rfl, rfl, rfl, rfl, rfl, rfl, rfl, rfl, rfl, lG, fy, t, rfl, ht, rfl⟩
    have l0G := AHeap.le_trans l12 lG
    have hcb := cn_bound (fun j => rchB (vAdj fs) w (es.getD j (0, 0)).1.toNat && rchB (vAdj fs) w (es.getD j (0, 0)).2.toNat && !bitB l j) t
    unfold F106.B11
    refine pif_cases (fun hb => ?_) fun hb => ?_
    · have hlt2 : t < es.length := by have := of_decide_eq_true hb; omega
      have hm : es.getD t (0, 0) ∈ es := by rw [getD_of hlt2]; exact List.getElem_mem _
      have hr := isG_ends hg _ hm
      have hsucc : cn (fun j => rchB (vAdj fs) w (es.getD j (0, 0)).1.toNat && rchB (vAdj fs) w (es.getD j (0, 0)).2.toNat && !bitB l j) (t + 1) = cn (fun j => rchB (vAdj fs) w (es.getD j (0, 0)).1.toNat && rchB (vAdj fs) w (es.getD j (0, 0)).2.toNat && !bitB l j) t + if (rchB (vAdj fs) w (es.getD t (0, 0)).1.toNat && rchB (vAdj fs) w (es.getD t (0, 0)).2.toNat && !bitB l t) then 1 else 0 := rfl
      obtain ⟨C, hC⟩ : ∃ C : Nat → Nat, C = cn (fun j => rchB (vAdj fs) w (es.getD j (0, 0)).1.toNat && rchB (vAdj fs) w (es.getD j (0, 0)).2.toNat && !bitB l j) := ⟨_, rfl⟩
      rw [← hC] at hsucc hcb ⊢
      obtain ⟨bb, oo, hk, q1, q2⟩ := (h.le l0G).idx (show (0 : Int) ≤ t by omega) (by omega)
      simp only [Int.toNat_natCast] at q1 q2
      unfold F106.B10
      refine hk _ (ldI_mk q1 (ldI_mk q2 (newK_f rfl fun G2 l2' n2 o2' => stK_f (new := [.int .i64 (es.getD t (0, 0)).1, .int .i64 (es.getD t (0, 0)).2]) o2' (by simp) (by simp [Value.oneCell']) rfl fun G3 b3 o3 => ?_)))
      have l3 : G.le G3 := b3.le l2' (Nat.le_refl _)
      have b1 : (setN (sideL fs n.toNat w)).testBit (es.getD t (0, 0)).1.toNat = rchB (vAdj fs) w (es.getD t (0, 0)).1.toNat := side_bit (by omega)
      have b2 : (setN (sideL fs n.toNat w)).testBit (es.getD t (0, 0)).2.toNat = rchB (vAdj fs) w (es.getD t (0, 0)).2.toNat := side_bit (by omega)
      have fin : ∀ (c : Nat), C (t + 1) = c → F106.B7 K (fun z1 z2 z6 z7 z17 z18 z19 G' => (((setN l : Nat) : Int) = z1 ∧ H.length = z2 ∧ q = z6 ∧ q = z17 ∧ (((sidesL fs n.toNat).length : Nat) : Int) = z18 ∧ H2.le G' ∧ ∃ i : Nat, z19 = i ∧ i ≤ (sidesL fs n.toNat).length ∧ z7 = (manyTo fs n.toNat i : Nat)) ∧ (sidesL fs n.toNat).length - z19.toNat < (sidesL fs n.toNat).length - ((i : Nat) : Int).toNat)
          (fun z1 z2 z6 z7 z9 z10 z11 z17 z18 z19 z26 z27 z28 G' => (((setN l : Nat) : Int) = z1 ∧ H.length = z2 ∧ q = z6 ∧ ((manyTo fs n.toNat i : Nat) : Int) = z7 ∧ y = z9 ∧ ((setN (sideL fs n.toNat w) : Nat) : Int) = z10 ∧ q = z17 ∧ (((sidesL fs n.toNat).length : Nat) : Int) = z18 ∧ (i : Int) = z19 ∧ v = z26 ∧ (es.length : Int) = z27 ∧ H2.le G' ∧ Fresh 0 G' y 2 1 (LI (sideL fs n.toNat w)) ∧ ∃ t : Nat, z28 = t ∧ t ≤ es.length ∧ z11 = (C t : Nat)) ∧ es.length - z28.toNat < es.length - ((t : Nat) : Int).toNat)
          (setN l : Nat) H.length q (manyTo fs n.toNat i : Nat) y (setN (sideL fs n.toNat w) : Nat) (c : Nat) q ((sidesL fs n.toNat).length : Nat) (i : Nat) v (es.length : Nat) (t : Nat) G3 := by
        intro c hc
        unfold F106.B7
        rw [wrap_id (by omega) (by omega)]
        exact ⟨⟨rfl, rfl, rfl, rfl, rfl, rfl, rfl, rfl, rfl, rfl, rfl, AHeap.le_trans lG l3, fy.le l3, t + 1, by omega, by omega, by rw [hc]⟩, by simp; omega⟩
      unfold F106.B9
      refine ldI_own o3 rfl (has_ok hs64 hr.1 (asB_mk ?_))
      rw [b1]
      refine pif_cases (fun h1 => ?_) fun h1 => ?_
      · refine ldI_own o3 rfl (has_ok hs64 hr.2.2.1 (asB_mk ?_))
        rw [b2]
        refine pif_cases (fun h2 => ?_) fun h2 => ?_
        · refine has_ok hsl (by omega) (asB_mk ?_)
          rw [Int.toNat_natCast, show (setN l).testBit t = bitB l t from rfl]
          rw [h1, h2, Bool.true_and, Bool.true_and] at hsucc
          refine pif_cases (fun h3 => ?_) fun h3 => ?_
          · rw [h3] at hsucc
            unfold F106.B8
            rw [wrap_id (by omega) (by omega)]
            exact fin (C t + 1) hsucc
          · rw [h3] at hsucc
            exact fin (C t) hsucc
        · rw [h1, h2] at hsucc
          exact fin (C t) hsucc
      · rw [h1] at hsucc
        exact fin (C t) hsucc
    · have hte : t = es.length := by have := of_decide_eq_false hb; omega
      subst hte
      unfold F106.B5
      rw [← hboth]
      refine fy.ints.len (pif_cases (fun hs => ?_) fun hs => ?_)
      · have hh : hasCyc fs n.toNat w = true := by unfold hasCyc; rw [decide_eq_true_iff]; have := of_decide_eq_true hs; omega
        rw [hh] at hms
        unfold F106.B4 F106.B3
        rw [wrap_id (by omega) (by omega), wrap_id (by omega) (by omega)]
        exact ⟨⟨rfl, rfl, rfl, rfl, rfl, lG, i + 1, by omega, by omega, by rw [hms]; simp⟩, by simp; omega⟩
      · have hh : hasCyc fs n.toNat w = false := by unfold hasCyc; rw [decide_eq_false_iff_not]; have := of_decide_eq_false hs; omega
        rw [hh] at hms
        unfold F106.B3
        rw [wrap_id (by omega) (by omega)]
        exact ⟨⟨rfl, rfl, rfl, rfl, rfl, lG, i + 1, by omega, by omega, by rw [hms]; simp⟩, by simp; omega⟩
  · have hie : i = (sidesL fs n.toNat).length := by have := of_decide_eq_false hb; omega
    subst hie
    unfold F106.B1
    refine lengthS_ok hRG (asI_mk ?_)
    rw [show manyTo fs n.toNat (sidesL fs n.toNat).length = cycM fs n.toNat by rw [← hll, manyTo_all]]
    exact k G (AHeap.le_trans l12 lG)
theorem isCyclic_ok (h : Edges H v es) (hg : IsG n es) (hS : IsS l es.length) (k : ∀ G, H.le G → K (.bool (cyclicB n.toNat es l)) G) :
    AC Tryz.prog T0 94 [.agg ⟨[.int .i64 n, v]⟩, .int .u64 (setN l : Nat)] H K := by
  apply F94.ac
  unfold F94.B3
  refine newK_f (all_iv (edges_one' h)) fun H1 l1 n1' o1 => ?_
  unfold F94.B2
  refine ldI_own o1 rfl (ld1_own o1 rfl (sidesWithCycle_ok (h.le l1) hg hS fun H2 l2 => tup2_mk (asI_mk (asI_mk ?_))))
  have l12 := AHeap.le_trans l1 l2
  have o2 := o1.le l2
  unfold F94.B1
  unfold cyclicB at k
  refine pif_cases (fun hb => ?_) fun hb => ?_
  · have h2 : 2 ≤ cycM (restL es (bitB l)) n.toNat := by have := of_decide_eq_true hb; omega
    refine ldI_own o2 rfl (ld1_own o2 rfl (isCut_ok (h.le l12) hg hS fun H3 l3 => asB_mk ?_))
    have k := k H3 (AHeap.le_trans l12 l3)
    rw [decide_eq_true h2, Bool.true_and] at k
    exact k
  · have h2 : ¬ 2 ≤ cycM (restL es (bitB l)) n.toNat := by have := of_decide_eq_false hb; omega
    have k := k H2 l12
    rw [decide_eq_false h2, Bool.false_and] at k
    exact k
theorem cc_at {i : Nat} (h1 : 1 ≤ i) (h4 : i ≤ 4) (hb : ∀ j, 1 ≤ j → j < i → (cmb es.length j 0).any (cyclicB n.toNat es) = false) (h : (cmb es.length i 0).any (cyclicB n.toNat es) = true) : ccN n es = i := by
  unfold ccN
  have i4 : i = 1 ∨ i = 2 ∨ i = 3 ∨ i = 4 := by omega
  have ng : ∀ j, 1 ≤ j → j < i → ¬ (cmb es.length j 0).any (cyclicB n.toNat es) = true := fun j a b => by rw [hb j a b]; decide
  rcases i4 with rfl | rfl | rfl | rfl
  · rw [if_pos h]; rfl
  · rw [if_neg (ng 1 (by omega) (by omega)), if_pos h]; rfl
  · rw [if_neg (ng 1 (by omega) (by omega)), if_neg (ng 2 (by omega) (by omega)), if_pos h]; rfl
  · rw [if_neg (ng 1 (by omega) (by omega)), if_neg (ng 2 (by omega) (by omega)), if_neg (ng 3 (by omega) (by omega)), if_pos h]; rfl
theorem cc_none (hb : ∀ j, 1 ≤ j → j < 5 → (cmb es.length j 0).any (cyclicB n.toNat es) = false) : ccN n es = 0 := by
  have ng : ∀ j, 1 ≤ j → j < 5 → ¬ (cmb es.length j 0).any (cyclicB n.toNat es) = true := fun j a b => by rw [hb j a b]; decide
  unfold ccN
  rw [if_neg (ng 1 (by omega) (by omega)), if_neg (ng 2 (by omega) (by omega)), if_neg (ng 3 (by omega) (by omega)), if_neg (ng 4 (by omega) (by omega))]
theorem ec_at {i : Nat} (h1 : 1 ≤ i) (h2 : i ≤ 2) (hb : ∀ j, 1 ≤ j → j < i → (cmb es.length j 0).any (cutB n.toNat es) = false) (h : (cmb es.length i 0).any (cutB n.toNat es) = true) : ecN n es = i := by
  unfold ecN
  have i2 : i = 1 ∨ i = 2 := by omega
  rcases i2 with rfl | rfl
  · rw [if_pos h]; rfl
  · rw [if_neg (by rw [hb 1 (by omega) (by omega)]; decide), if_pos h]; rfl
theorem ec_three (hb : ∀ j, 1 ≤ j → j < 3 → (cmb es.length j 0).any (cutB n.toNat es) = false) : ecN n es = 3 := by
  unfold ecN
  rw [if_neg (by rw [hb 1 (by omega) (by omega)]; decide), if_neg (by rw [hb 2 (by omega) (by omega)]; decide)]
noncomputable def ccCode (n : Int) (es : List (Int × Int)) : Int := if conCode n es = 0 then (if ccN n es = 0 then 4 else 0) else conCode n es
noncomputable def ccVal (n : Int) (es : List (Int × Int)) : Int := if conCode n es = 0 then ccN n es else 0
theorem implCyclicCon_ok (h : Edges H v es) (hl : es.length ≤ 1048576) (k : ∀ G, H.le G → K (.tuple ⟨[.int .i64 (ccVal n es), .int .i64 (ccCode n es)]⟩) G) : AC Tryz.prog T0 21 [.agg ⟨[.int .i64 n, v]⟩] H K := by
  apply F21.ac
  unfold F21.B11
  refine newK_f (all_iv (edges_one' h)) fun H1 l1 n1' o1 => ?_
  unfold F21.B10
  refine ldI_own o1 rfl (ld1_own o1 rfl (connectedCode_ok (h.le l1) hl fun H2 l2 => asI_mk ?_))
  have l12 := AHeap.le_trans l1 l2
  unfold ccVal ccCode at k
  unfold F21.B9
  refine pif_cases (fun hb => ?_) fun hb => ?_
  · have hne := bne_iff_ne.1 hb
    unfold F21.B8
    rw [if_neg hne, if_neg hne] at k
    exact k H2 l12
  have h0 : conCode n es = 0 := bne_eq_false_iff_eq.1 hb
  rw [if_pos h0, if_pos h0] at k
  obtain ⟨hg, hc1⟩ := conCode_zero h0
  have n0 := hg.ed.lo; have n1 := hg.ed.hi
  have h30 : es.length ≤ 30 := by have := hg.ed.len; omega
  unfold F21.B7 F21.L2
  refine ⟨fun x1 x5 G => H.length = x1 ∧ H1.le G ∧ ∃ i : Nat, x5 = i ∧ 1 ≤ i ∧ i ≤ 5 ∧ ∀ j, 1 ≤ j → j < i → (cmb es.length j 0).any (cyclicB n.toNat es) = false, fun _ x5 _ => 5 - x5.toNat, ⟨rfl, l2, 1, rfl, by omega, by omega, fun j a b => absurd b (by omega)⟩, ?_⟩
  rintro x1 x5 G ⟨rfl, lG, i, rfl, hi1, hi5, hall⟩
  have l0G := AHeap.le_trans l1 lG
  have oG := o1.le lG
  unfold F21.B6
  refine pif_cases (fun hb => ?_) fun hb => ?_
  · have hi4 : i ≤ 4 := by have := of_decide_eq_true hb; omega
    unfold F21.B5
    refine ld1_own oG rfl (ldI_own oG rfl (ld1_own oG rfl (lengthE_ok (h.le l0G) (asI_mk ⟨AHeap.le_refl _, ?_⟩))))
    refine choose_pure (q := cyclicB n.toNat es) (by omega) (by omega) rfl (fun l G' hG' hm K hK => callV_mk (isCyclic_ok (h.le (AHeap.le_trans l0G hG')) hg (mem_cmb hm).2.1 hK)) fun G' hG' => asB_mk ?_
    have l0G' := AHeap.le_trans l0G hG'
    refine pif_cases (fun hb => ?_) fun hb => ?_
    · unfold F21.B4
      have e := cc_at hi1 hi4 hall hb
      rw [e, if_neg (by omega)] at k
      exact k G' l0G'
    · unfold F21.B3
      rw [wrap_id (by omega) (by omega)]
      refine ⟨⟨rfl, AHeap.le_trans lG hG', i + 1, by omega, by omega, by omega, fun j a b => ?_⟩, by simp; omega⟩
      by_cases e : j = i
      · subst e; exact hb
      · exact hall j a (by omega)
  · have hi : i = 5 := by have := of_decide_eq_false hb; omega
    subst hi
    unfold F21.B1
    have e := cc_none hall
    rw [e, if_pos rfl] at k
    exact k G l0G
theorem any_take {q : List Int → Bool} {S : List (List Int)} (h : ∀ j, j < S.length → q (S.getD j []) = false) : S.any q = false := by
  rw [List.any_eq_false]
  intro x hx
  obtain ⟨j, hj, rfl⟩ := List.getElem_of_mem hx
  have := h j hj
  rw [getD_of hj] at this
  rw [this]; decide
theorem any_of {q : List Int → Bool} {S : List (List Int)} {j : Nat} (hj : j < S.length) (h : q (S.getD j []) = true) : S.any q = true := by
  rw [List.any_eq_true]
  exact ⟨_, List.getElem_mem hj, by rw [getD_of hj] at h; exact h⟩
theorem specEdgeCon_ok (h : Edges H v es) (hl : es.length ≤ 1048576) (k : ∀ G, H.le G → K (.tuple ⟨[.int .i64 (ecVal n es), .int .i64 (conCode n es)]⟩) G) : AC Tryz.prog T0 19 [.agg ⟨[.int .i64 n, v]⟩] H K := by
  apply F19.ac
  unfold F19.B17
  refine newK_f (all_iv (edges_one' h)) fun H1 l1 n1' o1 => ?_
  unfold F19.B16
  refine ldI_own o1 rfl (ld1_own o1 rfl (l01Is_ok (h.le l1) hl fun H2 l2 => asB_mk ?_))
  have l12 := AHeap.le_trans l1 l2
  have o2 := o1.le l2
  unfold ecVal conCode at k
  refine pif_cases (fun hs => ?_) fun hs => ?_
  · have hg : ¬ IsG n es := by simpa using hs
    rw [if_neg hg, if_neg (by decide)] at k
    unfold F19.B13
    exact k H2 l12
  have hg : IsG n es := by simpa using hs
  rw [if_pos hg] at k
  have n0 := hg.ed.lo; have n1 := hg.ed.hi
  have h30 : es.length ≤ 30 := by have := hg.ed.len; omega
  unfold F19.B15
  refine ldI_own o2 rfl (ld1_own o2 rfl (l01Connected_ok (h.le l12) hg fun H3 l3 => asB_mk ?_))
  have l13 := AHeap.le_trans l12 l3
  have o3 := o2.le l3
  refine pif_cases (fun hs => ?_) fun hs => ?_
  · have hc1 : ¬ (sidesL es n.toNat).length = 1 := by rw [Bool.not_eq_true'] at hs; exact of_decide_eq_false hs
    rw [if_neg hc1, if_neg (by decide)] at k
    unfold F19.B14
    exact k H3 l13
  have hc1 : (sidesL es n.toNat).length = 1 := by rw [Bool.not_eq_false'] at hs; exact of_decide_eq_true hs
  rw [if_pos hc1, if_pos rfl] at k
  unfold F19.B12 F19.L2
  refine ⟨fun x1 x4 G => H.length = x1 ∧ H1.le G ∧ ∃ i : Nat, x4 = i ∧ 1 ≤ i ∧ i ≤ 3 ∧ ∀ j, 1 ≤ j → j < i → (cmb es.length j 0).any (cutB n.toNat es) = false, fun _ x4 _ => 3 - x4.toNat, ⟨rfl, AHeap.le_trans l2 l3, 1, rfl, by omega, by omega, fun j a b => absurd b (by omega)⟩, ?_⟩
  rintro x1 x4 G ⟨rfl, lG, i, rfl, hi1, hi3, hall⟩
  have l0G := AHeap.le_trans l1 lG
  have oG := o1.le lG
  unfold F19.B11
  refine pif_cases (fun hb => ?_) fun hb => ?_
  · have hi2 : i ≤ 2 := by have := of_decide_eq_true hb; omega
    unfold F19.B10
    refine ld1_own oG rfl ((h.le l0G).len (l03Sets_ok (by omega) i 0 _ _ (by omega) (by omega) fun q H4 l4 hq => ?_))
    obtain ⟨S, hS⟩ : ∃ S, S = cmb es.length i 0 := ⟨_, rfl⟩
    rw [← hS] at hq
    have hSl : S.length ≤ 810000 := by rw [hS]; exact cmb_small h30 (by omega)
    have hSm : ∀ j, j < S.length → IsS (S.getD j []) es.length := fun j hj => by
      rw [getD_of hj]
      have hm := List.getElem_mem hj
      have : S[j] ∈ cmb es.length i 0 := by rw [← hS]; exact hm
      exact (mem_cmb this).2.1
    unfold F19.B9 F19.L4
    refine ⟨fun x1 x4 x5 x6 G => H.length = x1 ∧ (i : Int) = x4 ∧ q = x5 ∧ H4.le G ∧ ∃ j : Nat, x6 = j ∧ j ≤ S.length ∧ ∀ j', j' < j → cutB n.toNat es (S.getD j' []) = false, fun _ _ _ x6 _ => S.length - x6.toNat, ⟨rfl, rfl, rfl, AHeap.le_refl _, 0, rfl, by omega, fun j' hj' => absurd hj' (by omega)⟩, ?_⟩
    rintro x1 x4 x5 x6 G2 ⟨rfl, rfl, rfl, lG2, j, rfl, hj, hno⟩
    have l2 := AHeap.le_trans (AHeap.le_trans lG l4) lG2
    have l02 := AHeap.le_trans l1 l2
    have oG2 := o1.le l2
    have hR := hq.le lG2
    unfold F19.B8
    refine hR.len (pif_cases (fun hb => ?_) fun hb => ?_)
    · have hlt : j < S.length := by have := of_decide_eq_true hb; omega
      unfold F19.B7
      refine ldI_own oG2 rfl (ldI_own oG2 rfl (ld1_own oG2 rfl (hR.row hlt fun w fw => ?_)))
      refine restParts_ok (h.le l02) hg fw.ints (hSm j hlt) fun G3 l3' => asI_mk ?_
      have hcut : cutB n.toNat es (S.getD j []) = decide ((((sidesL (restL es (bitB (S.getD j []))) n.toNat).length : Nat) : Int) > 1) := by
        unfold cutB; rw [hc1, decide_eq_decide]; omega
      rw [← hcut]
      refine pif_cases (fun hc => ?_) fun hc => ?_
      · unfold F19.B6
        have e := ec_at hi1 hi2 hall (by rw [← hS]; exact any_of hlt hc)
        rw [e] at k
        exact k G3 (AHeap.le_trans l02 l3')
      · unfold F19.B5
        rw [wrap_id (by omega) (by omega)]
        refine ⟨⟨rfl, rfl, rfl, AHeap.le_trans lG2 l3', j + 1, by omega, by omega, fun j' hj' => ?_⟩, by simp; omega⟩
        by_cases e : j' = j
        · subst e; exact hc
        · exact hno j' (by omega)
    · have hje : j = S.length := by have := of_decide_eq_false hb; omega
      subst hje
      unfold F19.B3
      rw [wrap_id (by omega) (by omega)]
      refine ⟨⟨rfl, l2, i + 1, by omega, by omega, by omega, fun j' a b => ?_⟩, by simp; omega⟩
      by_cases e : j' = i
      · subst e; rw [← hS]; exact any_take hno
      · exact hall j' a (by omega)
  · have hi : i = 3 := by have := of_decide_eq_false hb; omega
    subst hi
    unfold F19.B1
    rw [ec_three hall] at k
    exact k G l0G
theorem specCyclicCon_ok (h : Edges H v es) (hl : es.length ≤ 1048576) (k : ∀ G, H.le G → K (.tuple ⟨[.int .i64 (ccVal n es), .int .i64 (ccCode n es)]⟩) G) : AC Tryz.prog T0 22 [.agg ⟨[.int .i64 n, v]⟩] H K := by
  apply F22.ac
  unfold F22.B17
  refine newK_f (all_iv (edges_one' h)) fun H1 l1 n1' o1 => ?_
  unfold F22.B16
  refine ldI_own o1 rfl (ld1_own o1 rfl (l01Is_ok (h.le l1) hl fun H2 l2 => asB_mk ?_))
  have l12 := AHeap.le_trans l1 l2
  have o2 := o1.le l2
  unfold ccVal ccCode conCode at k
  refine pif_cases (fun hs => ?_) fun hs => ?_
  · have hg : ¬ IsG n es := by simpa using hs
    rw [if_neg hg, if_neg (by decide), if_neg (by decide)] at k
    unfold F22.B13
    exact k H2 l12
  have hg : IsG n es := by simpa using hs
  rw [if_pos hg] at k
  have n0 := hg.ed.lo; have n1 := hg.ed.hi
  have h30 : es.length ≤ 30 := by have := hg.ed.len; omega
  unfold F22.B15
  refine ldI_own o2 rfl (ld1_own o2 rfl (l01Connected_ok (h.le l12) hg fun H3 l3 => asB_mk ?_))
  have l13 := AHeap.le_trans l12 l3
  have o3 := o2.le l3
  refine pif_cases (fun hs => ?_) fun hs => ?_
  · have hc1 : ¬ (sidesL es n.toNat).length = 1 := by rw [Bool.not_eq_true'] at hs; exact of_decide_eq_false hs
    rw [if_neg hc1, if_neg (by decide), if_neg (by decide)] at k
    unfold F22.B14
    exact k H3 l13
  have hc1 : (sidesL es n.toNat).length = 1 := by rw [Bool.not_eq_false'] at hs; exact of_decide_eq_true hs
  rw [if_pos hc1, if_pos rfl, if_pos rfl] at k
  unfold F22.B12 F22.L2
  refine ⟨fun x1 x4 G => H.length = x1 ∧ H1.le G ∧ ∃ i : Nat, x4 = i ∧ 1 ≤ i ∧ i ≤ 5 ∧ ∀ j, 1 ≤ j → j < i → (cmb es.length j 0).any (cyclicB n.toNat es) = false, fun _ x4 _ => 5 - x4.toNat, ⟨rfl, AHeap.le_trans l2 l3, 1, rfl, by omega, by omega, fun j a b => absurd b (by omega)⟩, ?_⟩
  rintro x1 x4 G ⟨rfl, lG, i, rfl, hi1, hi5, hall⟩
  have l0G := AHeap.le_trans l1 lG
  have oG := o1.le lG
  unfold F22.B11
  refine pif_cases (fun hb => ?_) fun hb => ?_
  · have hi4 : i ≤ 4 := by have := of_decide_eq_true hb; omega
    unfold F22.B10
    refine ld1_own oG rfl ((h.le l0G).len (l03Sets_ok (by omega) i 0 _ _ (by omega) (by omega) fun q H4 l4 hq => ?_))
    obtain ⟨S, hS⟩ : ∃ S, S = cmb es.length i 0 := ⟨_, rfl⟩
    rw [← hS] at hq
    have hSl : S.length ≤ 810000 := by rw [hS]; exact cmb_small h30 (by omega)
    have hSm : ∀ j, j < S.length → IsS (S.getD j []) es.length := fun j hj => by
      rw [getD_of hj]
      have hm := List.getElem_mem hj
      have : S[j] ∈ cmb es.length i 0 := by rw [← hS]; exact hm
      exact (mem_cmb this).2.1
    unfold F22.B9 F22.L4
    refine ⟨fun x1 x4 x5 x6 G => H.length = x1 ∧ (i : Int) = x4 ∧ q = x5 ∧ H4.le G ∧ ∃ j : Nat, x6 = j ∧ j ≤ S.length ∧ ∀ j', j' < j → cyclicB n.toNat es (S.getD j' []) = false, fun _ _ _ x6 _ => S.length - x6.toNat, ⟨rfl, rfl, rfl, AHeap.le_refl _, 0, rfl, by omega, fun j' hj' => absurd hj' (by omega)⟩, ?_⟩
    rintro x1 x4 x5 x6 G2 ⟨rfl, rfl, rfl, lG2, j, rfl, hj, hno⟩
    have l2 := AHeap.le_trans (AHeap.le_trans lG l4) lG2
    have l02 := AHeap.le_trans l1 l2
    have oG2 := o1.le l2
    have hR := hq.le lG2
    unfold F22.B8
    refine hR.len (pif_cases (fun hb => ?_) fun hb => ?_)
    · have hlt : j < S.length := by have := of_decide_eq_true hb; omega
      unfold F22.B7
      refine ldI_own oG2 rfl (ld1_own oG2 rfl (hR.row hlt fun w fw => ?_))
      refine l03Cyclic_ok (h.le l02) hg fw.ints (hSm j hlt) fun G3 l3' => asB_mk ?_
      refine pif_cases (fun hc => ?_) fun hc => ?_
      · unfold F22.B6
        have e := cc_at hi1 hi4 hall (by rw [← hS]; exact any_of hlt hc)
        rw [e, if_neg (by omega)] at k
        exact k G3 (AHeap.le_trans l02 l3')
      · unfold F22.B5
        rw [wrap_id (by omega) (by omega)]
        refine ⟨⟨rfl, rfl, rfl, AHeap.le_trans lG2 l3', j + 1, by omega, by omega, fun j' hj' => ?_⟩, by simp; omega⟩
        by_cases e : j' = j
        · subst e; exact hc
        · exact hno j' (by omega)
    · have hje : j = S.length := by have := of_decide_eq_false hb; omega
      subst hje
      unfold F22.B3
      rw [wrap_id (by omega) (by omega)]
      refine ⟨⟨rfl, l2, i + 1, by omega, by omega, by omega, fun j' a b => ?_⟩, by simp; omega⟩
      by_cases e : j' = i
      · subst e; rw [← hS]; exact any_take hno
      · exact hall j' a (by omega)
  · have hi : i = 5 := by have := of_decide_eq_false hb; omega
    subst hi
    unfold F22.B1
    rw [cc_none hall, if_pos rfl] at k
    exact k G l0G
end Go.Proofs
/- Contracts: the laws' helpers that compare lists. -/
set_option linter.unusedVariables false
set_option linter.unusedSimpArgs false
set_option maxRecDepth 100000
namespace Go.Proofs
open Go.Abs

variable {H G : AHeap} {v u f : Value} {l m c D : List Int} {es fs : List (Int × Int)} {K : Value → AHeap → Prop} {n : Int}

theorem likeInts_ok (h : Ints H v l) (g : Ints H u l) (hl : l.length ≤ 1000000000) (k : K (.bool true) H) : AC Tryz.prog T0 11 [v, u] H K := by
  apply F11.ac
  unfold F11.B10 F11.B9
  refine h.len (g.len (pif_f (by simp) ?_))
  unfold F11.B7 F11.L2
  refine ⟨fun x0 x1 x5 G => v = x0 ∧ u = x1 ∧ H = G ∧ ∃ i : Nat, x5 = i ∧ i ≤ l.length, fun _ _ x5 _ => l.length - x5.toNat, ⟨rfl, rfl, rfl, 0, rfl, by omega⟩, ?_⟩
  rintro x0 x1 x5 G ⟨rfl, rfl, rfl, i, rfl, hi⟩
  unfold F11.B6
  refine h.len (pif_cases (fun hb => ?_) fun hb => ?_)
  · have hlt : i < l.length := by have := of_decide_eq_true hb; omega
    unfold F11.B5
    refine h.rd (by omega) (by omega) (g.rd (by omega) (by omega) (pif_f (by simp) ?_))
    unfold F11.B3
    rw [wrap_id (by omega) (by omega)]
    exact ⟨⟨rfl, rfl, rfl, i + 1, by omega, by omega⟩, by simp; omega⟩
  · unfold F11.B1
    exact k
theorem rows5_ok {A A' : Nat → Prop} {B B' : Nat} {ls : List (List Int)} (h : RowsF A B H v ls) (g : RowsF A' B' H u ls) (hl : ls.length ≤ 1000000000) (hr : ∀ l ∈ ls, l.length ≤ 1000000000) (k : K (.bool true) H) : AC Tryz.prog T0 15 [v, u] H K := by
  apply F15.ac
  unfold F15.B10 F15.B9
  refine h.len (g.len (pif_f (by simp) ?_))
  unfold F15.B7 F15.L2
  refine ⟨fun x0 x1 x5 G => v = x0 ∧ u = x1 ∧ H = G ∧ ∃ i : Nat, x5 = i ∧ i ≤ ls.length, fun _ _ x5 _ => ls.length - x5.toNat, ⟨rfl, rfl, rfl, 0, rfl, by omega⟩, ?_⟩
  rintro x0 x1 x5 G ⟨rfl, rfl, rfl, i, rfl, hi⟩
  unfold F15.B6
  refine h.len (pif_cases (fun hb => ?_) fun hb => ?_)
  · have hlt : i < ls.length := by have := of_decide_eq_true hb; omega
    have hm : (ls.getD i []).length ≤ 1000000000 := by rw [getD_of hlt]; exact hr _ (List.getElem_mem hlt)
    unfold F15.B5
    refine h.row hlt fun w fw => g.row hlt fun y fy => likeInts_ok fw.ints fy.ints hm (asB_mk (pif_f (by simp) ?_))
    unfold F15.B3
    rw [wrap_id (by omega) (by omega)]
    exact ⟨⟨rfl, rfl, rfl, i + 1, by omega, by omega⟩, by simp; omega⟩
  · unfold F15.B1
    exact k
theorem big_ok (h : Byts H v l) (k : K (.bool (decide ((l.length : Int) > 4096))) H) : AC Tryz.prog T0 7 [v] H K := by
  apply F7.ac
  unfold F7.B2 F7.B1
  exact h.len k
end Go.Proofs
/- Contracts: the cycles of a set of edges, the reference's way. -/
set_option linter.unusedVariables false
set_option linter.unusedSimpArgs false
set_option maxRecDepth 100000
namespace Go.Proofs
open Go.Abs

variable {H G : AHeap} {v u f : Value} {l m c : List Int} {es fs : List (Int × Int)} {K : Value → AHeap → Prop} {A : Nat → Prop} {B : Nat} {ls : List (List Int)}

end Go.Proofs
/- Contracts: cycles of a set, whether a set is a cycle, both sides. -/
set_option linter.unusedVariables false
set_option linter.unusedSimpArgs false
set_option maxRecDepth 100000
namespace Go.Proofs
open Go.Abs

variable {H G : AHeap} {v u f : Value} {l m c : List Int} {es fs : List (Int × Int)} {K : Value → AHeap → Prop} {A : Nat → Prop} {B : Nat} {ls : List (List Int)}

noncomputable def edCode (n : Int) (es : List (Int × Int)) (l : List Int) : Int := if IsG n es then (if IsS l es.length then 0 else 2) else 1
theorem edCode_zero {n : Int} (h : edCode n es l = 0) : IsG n es ∧ IsS l es.length := by
  unfold edCode at h
  by_cases hg : IsG n es
  · rw [if_pos hg] at h
    by_cases hs : IsS l es.length
    · exact ⟨hg, hs⟩
    · rw [if_neg hs] at h; cases h
  · rw [if_neg hg] at h; cases h
end Go.Proofs
/- Contracts: bonds: the asked functions. -/
set_option linter.unusedVariables false
set_option linter.unusedSimpArgs false
set_option maxRecDepth 100000
namespace Go.Proofs
open Go.Abs

variable {H G : AHeap} {v u f : Value} {l m c : List Int} {es fs : List (Int × Int)} {K : Value → AHeap → Prop}

noncomputable def bondB (n : Int) (es : List (Int × Int)) (l : List Int) : Bool := if edCode n es l = 0 then decide (Bond n.toNat es l) else false
theorem implIsBond_ok {n : Int} (h : Edges H v es) (hl : es.length ≤ 1048576) (hc : Ints H u l) (hcl : l.length ≤ 1048576)
    (k : ∀ G, H.le G → K (.tuple ⟨[.bool (bondB n es l), .int .i64 (edCode n es l)]⟩) G) : AC Tryz.prog T0 16 [.agg ⟨[.int .i64 n, v]⟩, u] H K := by
  apply F16.ac
  unfold F16.B5
  refine newK_f (all_iv (edges_one' h)) fun H1 l1 n1 o1 => ?_
  unfold F16.B4
  refine ldI_own o1 rfl (ld1_own o1 rfl (edgesCode_ok (h.le l1) hl (hc.le l1) hcl fun H2 l2 => asI_mk ?_))
  have l12 := AHeap.le_trans l1 l2
  rw [show (if IsG n es then (if IsS l es.length then 0 else 2) else 1 : Int) = edCode n es l from rfl]
  unfold F16.B3
  unfold bondB at k
  refine pif_cases (fun hs => ?_) fun hs => ?_
  · unfold F16.B2
    have k := k _ l12
    rw [if_neg (bne_iff_ne.1 hs)] at k; exact k
  · have h0 : edCode n es l = 0 := bne_eq_false_iff_eq.1 hs
    obtain ⟨hg, hS⟩ := edCode_zero h0
    have h30 : es.length ≤ 30 := by have := hg.ed.len; have := hg.ed.hi; omega
    unfold F16.B1
    refine ldI_own (o1.le l2) rfl (ld1_own (o1.le l2) rfl (setOf_ok (hc.le l12) (by omega) (fun x hx => by have := hS.range x hx; omega) (asI_mk ⟨AHeap.le_refl _, isBond_ok (h.le l12) hg hS fun H3 l3 => asB_mk ?_⟩)))
    have k := k _ (AHeap.le_trans l12 l3)
    rw [if_pos h0, h0] at k; exact k
end Go.Proofs
/- The law over bonds. -/
set_option linter.unusedVariables false
set_option linter.unusedSimpArgs false
set_option maxRecDepth 100000
namespace Go.Proofs
open Go.Abs

variable {H G : AHeap} {v u f : Value} {l m c D : List Int} {es fs : List (Int × Int)} {n : Int}

theorem bsList_one (hg : IsG n es) : bsCode n es 1 = 0 ∧ bsList n es 1 = (brL n es).map fun x => [x] := by
  have h0 : bsCode n es 1 = 0 := by unfold bsCode; rw [if_pos hg, if_pos (by decide)]
  refine ⟨h0, ?_⟩
  unfold bsList
  rw [if_pos h0]
  exact bonds_one hg fun l => by unfold bondQ; rw [decide_eq_true_iff]
theorem brL_len : (brL n es).length ≤ es.length := filtB_length _ _
abbrev QT1 : Value → AHeap → Prop := fun v _ => v = .bool true
theorem bonds_end {u : Value} (hB : Byts H u l) (hl : l.length ≤ 4096) : F3.B10 QT1 u H := by
  unfold F3.B10
  refine drawCyclicCon_ok hB hl fun v n es G lG hS c => agg2_mk (asI_mk (newK_f rfl fun H2 l2 n2 o2 => stK_f (new := [.int .i64 n, v]) o2 (by simp) (mem_iv (sl_one hS)) rfl fun H3 b3 o3 => ?_))
  have l3 : G.le H3 := b3.le l2 (Nat.le_refl _)
  have hE := (sl_edges hS).le l3
  unfold F3.B9
  refine ldI_own o3 rfl (ld1_own o3 rfl (implCyclicCon_ok hE (by omega) fun H4 l4 => tup2_mk (asI_mk (asI_mk ?_))))
  have o4 := o3.le l4
  have hE4 := hE.le l4
  unfold F3.B8
  refine ldI_own o4 rfl (ld1_own o4 rfl (specCyclicCon_ok hE4 (by omega) fun H5 l5 => tup2_mk (asI_mk (asI_mk ?_))))
  have o5 := o4.le l5
  have hE5 := hE4.le l5
  unfold F3.B7
  refine pif_f (by simp) (pif_f (by simp) ?_)
  unfold F3.B5
  refine pif_cases (fun hb => ?_) fun hb => by unfold F3.B1; rfl
  have hcc : ccCode n es = 0 := beq_iff_eq.1 hb
  have hcon : conCode n es = 0 ∧ ccN n es ≠ 0 := by
    unfold ccCode at hcc
    by_cases h0 : conCode n es = 0
    · rw [if_pos h0] at hcc
      refine ⟨h0, fun e => ?_⟩
      rw [if_pos e] at hcc; cases hcc
    · rw [if_neg h0] at hcc; exact absurd hcc h0
  unfold F3.B4
  refine ldI_own o5 rfl (ld1_own o5 rfl (implEdgeCon_ok hE5 (by omega) fun H6 l6 => tup2_mk (asI_mk (asI_mk ?_))))
  unfold F3.B3
  have hle := ec_le_cc hcon.2
  refine pif_f (by rw [hcon.1]; rfl) (pif_f ?_ (by unfold F3.B1; rfl))
  unfold ecVal ccVal
  rw [if_pos hcon.1, if_pos hcon.1]
  exact decide_eq_false (by omega)
theorem bonds_con {u : Value} (hB : Byts H u l) (hl : l.length ≤ 4096) : F3.B19 QT1 u H := by
  unfold F3.B19
  refine drawEdgeCon_ok hB hl fun v n es G lG hS c => agg2_mk (asI_mk (newK_f rfl fun H2 l2 n2 o2 => stK_f (new := [.int .i64 n, v]) o2 (by simp) (mem_iv (sl_one hS)) rfl fun H3 b3 o3 => ?_))
  have l3 : G.le H3 := b3.le l2 (Nat.le_refl _)
  have hE := (sl_edges hS).le l3
  have l03 := AHeap.le_trans lG l3
  unfold F3.B18
  refine ldI_own o3 rfl (ld1_own o3 rfl (implEdgeCon_ok hE (by omega) fun H4 l4 => tup2_mk (asI_mk (asI_mk ?_))))
  have o4 := o3.le l4
  have hE4 := hE.le l4
  unfold F3.B17
  refine ldI_own o4 rfl (ld1_own o4 rfl (specEdgeCon_ok hE4 (by omega) fun H5 l5 => tup2_mk (asI_mk (asI_mk ?_))))
  have o5 := o4.le l5
  have hE5 := hE4.le l5
  have l05 := AHeap.le_trans l03 (AHeap.le_trans l4 l5)
  unfold F3.B16
  refine pif_f (by simp) (pif_f (by simp) ?_)
  unfold F3.B14
  refine pif_cases (fun hb => ?_) fun hb => bonds_end (hB.le l05) hl
  have hcon : conCode n es = 0 := beq_iff_eq.1 hb
  have hg := (conCode_zero hcon).1
  unfold F3.B13
  refine ldI_own o5 rfl (ld1_own o5 rfl (implBridges_ok hE5 (by omega) fun v' H6 l6 f6 => tup2_mk (asI_mk ?_)))
  have hbr : brCode n es = 0 := by unfold brCode; rw [if_pos hg]
  have hbl : brList n es = brL n es := by unfold brList; rw [if_pos hg]
  rw [hbl] at f6
  have r := ecN_range (n := n) (es := es)
  have one := ecN_one (n := n) (es := es)
  have hev : ecVal n es = ecN n es := by unfold ecVal; rw [if_pos hcon]
  rw [hev, hbr]
  unfold F3.B12
  refine pif_f rfl (pif_f (decide_eq_false (by omega)) (pif_f (decide_eq_false (by omega)) (f6.ints.len (pif_f ?_ (bonds_end (hB.le (AHeap.le_trans l05 l6)) hl)))))
  by_cases h1 : ecN n es = 1
  · have h2 := one.1 h1
    rw [h1, decide_eq_true (show (((brL n es).length : Nat) : Int) > 0 by omega)]; rfl
  · have h2 : ¬ 0 < (brL n es).length := fun h => h1 (one.2 h)
    rw [decide_eq_false (show ¬ (((brL n es).length : Nat) : Int) > 0 by omega), beq_eq_false_iff_ne.2 h1]; rfl
theorem bonds_list {u : Value} (hB : Byts H u l) (hl : l.length ≤ 4096) : F3.B31 QT1 u H := by
  unfold F3.B31
  refine drawBonds_ok hB hl fun v n es x G lG hS c => tup2_mk (agg2_mk (asI_mk (asI_mk (newK_f rfl fun H2 l2 n2 o2 => stK_f (new := [.int .i64 n, v]) o2 (by simp) (mem_iv (sl_one hS)) rfl fun H3 b3 o3 => ?_))))
  have l3 : G.le H3 := b3.le l2 (Nat.le_refl _)
  have hE := (sl_edges hS).le l3
  have l03 := AHeap.le_trans lG l3
  have sm := bsList_small (n := n) (es := es) (x := x)
  unfold F3.B30
  refine ldI_own o3 rfl (ld1_own o3 rfl (implBonds_ok hE (by omega) fun v4 H4 l4 f4 => tup2_mk (asI_mk ?_)))
  have o4 := o3.le l4
  have hE4 := hE.le l4
  unfold F3.B29
  refine ldI_own o4 rfl (ld1_own o4 rfl (specBonds_ok hE4 (by omega) fun v5 H5 l5 f5 => tup2_mk (asI_mk ?_)))
  have o5 := o4.le l5
  have hE5 := hE4.le l5
  have f4 := f4.le l5
  have l05 := AHeap.le_trans l03 (AHeap.le_trans l4 l5)
  have hrow : ∀ r ∈ bsList n es x, r.length ≤ 1000000000 := fun r hr => by
    unfold bsList at hr
    by_cases h0 : bsCode n es x = 0
    · rw [if_pos h0] at hr
      have := (mem_cmb (List.mem_filter.1 hr).1).1
      have := (bsCode_zero h0).2
      omega
    · rw [if_neg h0] at hr; cases hr
  unfold F3.B28
  refine pif_f (by simp) (rows5_ok f4 f5 (by omega) hrow (asB_mk (pif_f (by simp) ?_)))
  unfold F3.B26 F3.L20
  refine ⟨fun x0 x11 x12 x13 x17 G => u = x0 ∧ G.length = G.length ∧ H5.le G ∧ Own G x11 26 [.int .i64 n, v] ∧ x = x12 ∧ v4 = x13 ∧ ∃ i : Nat, x17 = i ∧ i ≤ (bsList n es x).length, fun _ _ _ _ x17 _ => (bsList n es x).length - x17.toNat, ⟨rfl, rfl, AHeap.le_refl _, o5, rfl, rfl, 0, rfl, by omega⟩, ?_⟩
  rintro x0 x11 x12 x13 x17 G' ⟨rfl, _, lG', oG, rfl, rfl, i, rfl, hi⟩
  have hR := f4.le lG'
  have l0G := AHeap.le_trans l05 lG'
  unfold F3.B25
  refine hR.len (pif_cases (fun hb => pif_cases (fun hb2 => ?_) fun hb2 => bonds_con (hB.le l0G) hl) fun hb => bonds_con (hB.le l0G) hl)
  have hlt : i < (bsList n es x).length := by have := of_decide_eq_true hb; omega
  have hm := List.getElem_mem hlt
  obtain ⟨r, hr⟩ : ∃ r, r = (bsList n es x)[i] := ⟨_, rfl⟩
  rw [← hr] at hm
  have hrd : (bsList n es x).getD i [] = r := by rw [getD_of hlt, hr]
  have facts : bsCode n es x = 0 ∧ r ∈ (cmb es.length x.toNat 0).filter (bondQ n es) := by
    unfold bsList at hm
    by_cases h0 : bsCode n es x = 0
    · rw [if_pos h0] at hm; exact ⟨h0, hm⟩
    · rw [if_neg h0] at hm; cases hm
  obtain ⟨hg, hx⟩ := bsCode_zero facts.1
  obtain ⟨f1, f2⟩ := List.mem_filter.1 facts.2
  obtain ⟨g1, g2, _⟩ := mem_cmb f1
  have hed : edCode n es r = 0 := by unfold edCode; rw [if_pos hg, if_pos g2]
  have hbd : bondB n es r = true := by unfold bondB; rw [if_pos hed]; exact f2
  unfold F3.B24
  refine ldI_own oG rfl (ld1_own oG rfl (hR.row hlt fun w fw => ?_))
  rw [hrd] at fw
  refine implIsBond_ok (hE5.le lG') (by omega) fw.ints (by omega) fun H6 l6 => tup2_mk (asB_mk (asI_mk ?_))
  rw [hed, hbd]
  unfold F3.B23
  refine pif_f rfl (pif_f rfl ((hR.le l6).row hlt fun w fw => ?_))
  rw [hrd] at fw
  refine fw.ints.len (pif_f (by simp; omega) ?_)
  unfold F3.B21
  rw [wrap_id (by omega) (by omega)]
  exact ⟨⟨rfl, rfl, AHeap.le_trans lG' l6, oG.le l6, rfl, rfl, i + 1, by omega, by omega⟩, by simp; omega⟩
theorem fnBonds_law (H : AHeap) (vs : List Value) (hv : AVs T0 H [22] vs) : AC Tryz.prog T0 3 vs H (fun v _ => v = .bool true) := by
  obtain ⟨v0, vs, rfl, a0, rfl⟩ := hv
  obtain ⟨l, hB, hlen⟩ := av_bytes a0
  apply F3.ac
  unfold F3.B49 F3.B48
  refine big_ok hB (asB_mk (pif_cases (fun _ => by unfold F3.B47; rfl) fun hs => ?_))
  have hl : l.length ≤ 4096 := by have := of_decide_eq_false hs; omega
  unfold F3.B46
  refine drawBridges_ok hB hl fun v n es G lG hS c => agg2_mk (asI_mk (newK_f rfl fun H2 l2 n2 o2 => stK_f (new := [.int .i64 n, v]) o2 (by simp) (mem_iv (sl_one hS)) rfl fun H3 b3 o3 => ?_))
  have l3 : G.le H3 := b3.le l2 (Nat.le_refl _)
  have hE := (sl_edges hS).le l3
  have l03 := AHeap.le_trans lG l3
  unfold F3.B45
  refine ldI_own o3 rfl (ld1_own o3 rfl (implBridges_ok hE (by omega) fun v4 H4 l4 f4 => tup2_mk (asI_mk ?_)))
  have o4 := o3.le l4
  have hE4 := hE.le l4
  unfold F3.B44
  refine ldI_own o4 rfl (ld1_own o4 rfl (specBridges_ok hE4 (by omega) fun v5 H5 l5 f5 => tup2_mk (asI_mk ?_)))
  have o5 := o4.le l5
  have hE5 := hE4.le l5
  have f4 := f4.le l5
  have l05 := AHeap.le_trans l03 (AHeap.le_trans l4 l5)
  have hbl : (brList n es).length ≤ 2000 := by
    unfold brList
    split
    · have := brL_len (n := n) (es := es); omega
    · simp
  unfold F3.B43
  refine pif_f (by simp) (likeInts_ok f4.ints f5.ints (by omega) (asB_mk (pif_f (by simp) ?_)))
  unfold F3.B41
  refine pif_cases (fun hb => ?_) fun hb => bonds_list (hB.le l05) hl
  have hg : IsG n es := by
    have := beq_iff_eq.1 hb
    unfold brCode at this
    by_cases h : IsG n es
    · exact h
    · rw [if_neg h] at this; cases this
  have hbr : brList n es = brL n es := by unfold brList; rw [if_pos hg]
  rw [hbr] at f4 hbl
  obtain ⟨e0, e1⟩ := bsList_one hg
  unfold F3.B40
  refine ldI_own o5 rfl (ld1_own o5 rfl (implBonds_ok (x := 1) hE5 (by omega) fun v6 H6 l6 f6 => tup2_mk (asI_mk ?_)))
  rw [e0]
  rw [e1] at f6
  have f4 := f4.le l6
  have l06 := AHeap.le_trans l05 l6
  unfold F3.B39
  refine pif_f rfl (f6.len (f4.ints.len (pif_f (by simp) ?_)))
  unfold F3.B37 F3.L32
  refine ⟨fun x0 x4 x8 x10 G => v0 = x0 ∧ v4 = x4 ∧ v6 = x8 ∧ H6 = G ∧ ∃ i : Nat, x10 = i ∧ i ≤ (brL n es).length, fun _ _ _ x10 _ => (brL n es).length - x10.toNat, ⟨rfl, rfl, rfl, rfl, 0, rfl, by omega⟩, ?_⟩
  rintro x0 x4 x8 x10 G' ⟨rfl, rfl, rfl, rfl, i, rfl, hi⟩
  unfold F3.B36
  refine f6.len (pif_cases (fun hb => ?_) fun hb => bonds_list (hB.le l06) hl)
  have hlt : i < (brL n es).length := by have := of_decide_eq_true hb; rw [List.length_map] at this; omega
  have hlt' : i < ((brL n es).map fun x => [x]).length := by rw [List.length_map]; exact hlt
  have hrow : ((brL n es).map fun x => [x]).getD i [] = [(brL n es).getD i 0] := by
    rw [getD_of hlt', List.getElem_map, getD_of hlt]
  unfold F3.B35
  refine f6.row hlt' fun w fw => ?_
  rw [hrow] at fw
  refine fw.ints.len (pif_f (by simp) (f6.row hlt' fun w fw => ?_))
  rw [hrow] at fw
  refine fw.ints.rd (by decide) (by simp) (f4.ints.rd (by omega) (by omega) (pif_f (by simp) ?_))
  unfold F3.B33
  rw [wrap_id (by omega) (by omega)]
  exact ⟨⟨rfl, rfl, rfl, rfl, i + 1, by omega, by omega⟩, by simp; omega⟩
end Go.Proofs
