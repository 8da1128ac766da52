/- Contracts: painters, sets of edges without which there are colours. -/
import Derived.Test.YtfcflpcmjlbedabU52
import Derived.Test.YtfcflpcmjlbedabM12
set_option linter.unusedVariables false
set_option linter.unusedSimpArgs false
set_option maxRecDepth 100000
namespace Go.Proofs
open Go.Abs

variable {H G : AHeap} {v u f : Value} {l m c D : List Int} {es fs : List (Int × Int)} {K : Value → AHeap → Prop}

theorem used_none {N m : Nat} : UsedOk es N (List.replicate m (-1)) (List.replicate N 0) := by
  refine ⟨by simp, fun w hw => ?_⟩
  have e : (List.replicate N 0).getD w 0 = 0 := by simp [List.getD, hw]
  rw [e]
  refine ⟨by decide, fun k => ?_⟩
  simp only [Nat.zero_testBit, Bool.false_eq_true, false_iff]
  rintro ⟨j, h1, h2, _⟩
  rw [List.length_replicate] at h1
  have : (List.replicate m (-1 : Int)).getD j 0 = -1 := by simp [List.getD, h1]
  omega
theorem rep_get {m i : Nat} (h : i < m) : (List.replicate m (-1 : Int)).getD i 0 = -1 := by simp [List.getD, h]
section
variable {n : Int} {H0 : AHeap} {pb cb ub : Nat} {tP : TypeId} {qE : Value}
theorem start_ok {E : List Int} (hg : IsG n es) (he : Edges H0 v es) (hE : Ints H0 qE E) (hEn : E.Nodup) (hEr : ∀ x ∈ E, 0 ≤ x ∧ x < es.length) (hcb : H0.length ≤ cb) (hub : H0.length ≤ ub) (hne : cb ≠ ub) (hp1 : pb ≠ cb) (hp2 : pb ≠ ub) (h0 : H0.le G)
    (oP : Own G pb tP [.int .i64 n, v, qE, .slice (some ⟨cb, 0, none⟩) es.length (es.length + 1), .slice (some ⟨ub, 0, none⟩) n.toNat (n.toNat + 1), foundV])
    (oc : Own G cb 2 (LI (List.replicate es.length (-1)))) (ou : Own G ub 72 (LU (List.replicate n.toNat 0))) (k : ∀ G', G.le G' → K (.bool (ptB es E (List.replicate es.length (-1)))) G') :
    AC Try.prog T0 156 [.pointer (some ⟨pb, 0, none⟩)] G K := by
  have n0 := hg.ed.lo; have n1 := hg.ed.hi
  have h30 : es.length ≤ 30 := by have := hg.ed.len; omega
  apply F156.ac
  unfold F156.B17 F156.B16
  refine nilK_mk (asP_mk (ldI_own oP rfl ?_))
  unfold F156.L2
  refine ⟨fun x0 x11 x12 G' => .pointer (some ⟨pb, 0, none⟩) = x0 ∧ n = x11 ∧ G.le G' ∧ ∃ i : Nat, x12 = i ∧ i ≤ n.toNat, fun _ _ x12 _ => n.toNat - x12.toNat, ⟨rfl, rfl, AHeap.le_refl _, 0, rfl, by omega⟩, ?_⟩
  rintro x0 x11 x12 G1 ⟨rfl, rfl, l1, i, rfl, hi⟩
  unfold F156.B15
  have oP1 := oP.le l1
  refine pif_cases (fun hb => ?_) fun hb => ?_
  · have hin : i < n.toNat := by have := of_decide_eq_true hb; omega
    unfold F156.B14 F156.B13 F156.B12
    refine nilK_mk (asP_mk (ldI_own oP1 rfl (ld1_own oP1 rfl (at_ok (he.le (AHeap.le_trans h0 l1)) (by omega) fun w G2 l2 hW => ?_))))
    have h3 := hg.three (v := (i : Int)) (by omega) (by omega)
    refine hW.len (by decide) (n := 3) (by rw [List.length_map, h3]) ?_
    unfold F156.L4
    refine ⟨fun x0 x4 x11 x12 x20 x21 x22 G' => .pointer (some ⟨pb, 0, none⟩) = x0 ∧ n = x11 ∧ ((i : Nat) : Int) = x12 ∧ w = x20 ∧ ((3 : Nat) : Int) = x21 ∧ G2 = G' ∧ ∃ t : Nat, x22 = t ∧ t ≤ 3, fun _ _ _ _ _ _ x22 _ => 3 - x22.toNat, ⟨rfl, rfl, rfl, rfl, rfl, rfl, 0, rfl, by omega⟩, ?_⟩
    rintro x0 x4 x11 x12 x20 x21 x22 G' ⟨rfl, rfl, rfl, rfl, rfl, rfl, t, rfl, ht⟩
    have l12 := AHeap.le_trans l1 l2
    have oP2 := oP.le l12
    have oi := own_ints (c := es.length + 1) (oc.le l12)
    rw [List.length_replicate] at oi
    unfold F156.B11
    refine pif_cases (fun hb => ?_) fun hb => ?_
    · have ht3 : t < 3 := by have := of_decide_eq_true hb; omega
      obtain ⟨j, hj1, hj2, hj3⟩ := at_get (es := es) (w := (i : Int)) (t := t) (by omega)
      unfold F156.B10
      refine hW.ints.rd (by omega) (by omega) ?_
      rw [Int.toNat_natCast, hj1]
      unfold F156.B9
      refine nilK_mk (asP_mk (ld1_own oP2 rfl (oi.rd (by omega) (by rw [List.length_replicate]; omega) ?_)))
      rw [Int.toNat_natCast, rep_get hj2]
      refine pif_t rfl ?_
      unfold F156.B5
      rw [wrap_id (by omega) (by omega)]
      exact ⟨⟨rfl, rfl, rfl, rfl, rfl, rfl, t + 1, by omega, by omega⟩, by show 3 - ((t : Int) + 1).toNat < 3 - (t : Int).toNat; omega⟩
    · unfold F156.B3
      rw [wrap_id (by omega) (by omega)]
      exact ⟨⟨rfl, rfl, l12, i + 1, by omega, by omega⟩, by show n.toNat - ((i : Int) + 1).toNat < n.toNat - (i : Int).toNat; omega⟩
  · unfold F156.B1
    refine paint_ok hg he hE hEn hEr hcb hub hne hp1 hp2 E.length 0 _ _ G1 _ (by omega) (AHeap.le_trans h0 l1) oP1 (oc.le l1) (ou.le l1) (by simp) used_none (fun j _ h2 => ?_) fun G2 l2 => asB_mk ?_
    · have := hEr _ (List.getElem_mem h2)
      rw [← getD_of (d := 0) h2] at this
      exact rep_get (by omega)
    · rw [List.drop_zero]
      exact k G2 (AHeap.le_trans l1 l2)
end
theorem painterOf_ok {n : Int} {qE : Value} (hg : IsG n es) (he : Edges H v es) (hq : qE.oneCell' = true)
    (k : ∀ pb cb ub tP G, H.le G → H.length ≤ cb → H.length ≤ ub → cb ≠ ub → pb ≠ cb → pb ≠ ub → Own G pb tP [.int .i64 n, v, qE, .slice (some ⟨cb, 0, none⟩) es.length (es.length + 1), .slice (some ⟨ub, 0, none⟩) n.toNat (n.toNat + 1), foundV] →
      Own G cb 2 (LI (List.replicate es.length (-1))) → Own G ub 72 (LU (List.replicate n.toNat 0)) → K (.pointer (some ⟨pb, 0, none⟩)) G) :
    AC Try.prog T0 154 [.agg ⟨[.int .i64 n, v]⟩, qE, .bool false, foundV] H K := by
  have n0 := hg.ed.lo; have n1 := hg.ed.hi
  have h30 : es.length ≤ 30 := by have := hg.ed.len; omega
  have hv := edges_one' he
  apply F154.ac
  unfold F154.B10
  refine newK_f (all_iv hv) fun H1 l1 n1' o1 => ?_
  have fin : ∀ (G G' : AHeap) (cb ub pb : Nat) (tP : TypeId), H1.le G → H1.length ≤ cb → H1.length ≤ ub → cb ≠ ub → pb ≠ cb → pb ≠ ub → Own G pb tP [.int .i64 n, v, qE, .slice (some ⟨cb, 0, none⟩) es.length (es.length + 1), .slice (some ⟨ub, 0, none⟩) n.toNat (n.toNat + 1), foundV] →
      Own G cb 2 (LI (List.replicate es.length (-1))) → Own G ub 72 (LU (List.replicate n.toNat 0)) → F154.B8 K false H.length (.pointer (some ⟨pb, 0, none⟩)) G := by
    intro G G' cb ub pb tP hG h1 h2 h3 h4 h5 oP oc ou
    unfold F154.B8
    refine pif_f rfl ?_
    unfold F154.B1
    have := l1.1
    exact k pb cb ub tP G (AHeap.le_trans l1 hG) (by omega) (by omega) h3 h4 h5 oP oc ou
  unfold F154.B9
  refine ldI_own o1 rfl (ld1_own o1 rfl (ld1_own o1 rfl ((he.le l1).len (ldI_own o1 rfl ⟨newK_f rfl fun H2 l2 n2 o2 => ⟨?_, ?_⟩, ?_⟩))))
  · have hb2 : 0 ≤ 0 := Nat.le_refl 0
    refine repeat_ok (t := -1) (by simpa using o2) (by omega) (by omega) fun H3 l3 o3 => ?_
    have l13 := AHeap.le_trans l2 l3
    refine ⟨ldI_own (o1.le l13) rfl (ld1_own (o1.le l13) rfl ⟨rfl, rfl⟩), ldI_own (o1.le l13) rfl ⟨rfl, rfl⟩, mkR_int (by omega) (by omega) (by decide) fun H4 l4 n4 o4 => pif_t hq (pif_t rfl (pif_t rfl (pif_t rfl (newK_f (by simp only [List.all_cons, List.all_nil, hv, hq]; rfl) fun H5 l5 n5 o5 => ?_))))⟩
    rw [rep_u] at o4
    have := lt_of_get o3
    have := l2.1
    exact fin H5 H5 _ _ _ _ (AHeap.le_trans l13 (AHeap.le_trans l4 l5)) (by omega) (by have := l3.1; omega) (by omega) (by have := l4.1; omega) (by omega) o5 (o3.le (AHeap.le_trans l4 l5)) (o4.le l5)
  · refine mkR_int (by omega) (by omega) (by decide) fun H3 l3 n3 o3 => repeat_ok (t := -1) (by simpa using o2.le l3) (by omega) (by omega) fun H4 l4 o4 => ?_
    have l14 := AHeap.le_trans l2 (AHeap.le_trans l3 l4)
    refine ⟨ldI_own (o1.le l14) rfl (ld1_own (o1.le l14) rfl ⟨rfl, rfl⟩), ldI_own (o1.le l14) rfl ⟨rfl, rfl⟩, pif_t hq (pif_t rfl (pif_t rfl (pif_t rfl (newK_f (by simp only [List.all_cons, List.all_nil, hv, hq]; rfl) fun H5 l5 n5 o5 => ?_))))⟩
    rw [rep_u] at o3
    have := lt_of_get o4
    have := l2.1
    exact fin H5 H5 _ _ _ _ (AHeap.le_trans l14 l5) (by have := l3.1; omega) (by omega) (by omega) (by omega) (by have := l4.1; omega) o5 (o4.le l5) (o3.le (AHeap.le_trans l4 l5))
  · refine mkR_int (by omega) (by omega) (by decide) fun H2 l2 n2 o2 => newK_f rfl fun H3 l3 n3 o3 => repeat_ok (t := -1) (by simpa using o3) (by omega) (by omega) fun H4 l4 o4 => ?_
    have l14 := AHeap.le_trans l2 (AHeap.le_trans l3 l4)
    refine ⟨ldI_own (o1.le l14) rfl (ld1_own (o1.le l14) rfl ⟨rfl, rfl⟩), ldI_own (o1.le l14) rfl ⟨rfl, rfl⟩, pif_t hq (pif_t rfl (pif_t rfl (pif_t rfl (newK_f (by simp only [List.all_cons, List.all_nil, hv, hq]; rfl) fun H5 l5 n5 o5 => ?_))))⟩
    rw [rep_u] at o2
    have := lt_of_get o4
    exact fin H5 H5 _ _ _ _ (AHeap.le_trans l14 l5) (by have := l2.1; have := l3.1; omega) (by omega) (by have := l3.1; omega) (by omega) (by have := l3.1; have := l4.1; omega) o5 (o4.le l5) (o2.le (AHeap.le_trans l3 (AHeap.le_trans l4 l5)))
theorem filt_mem {S : Nat → Bool} {m : Nat} {x : Int} (h : x ∈ filtB S m) : 0 ≤ x ∧ x < m := by
  unfold filtB at h
  obtain ⟨j, h1, rfl⟩ := List.mem_map.1 h
  have := List.mem_range.1 (List.mem_filter.1 h1).1
  exact ⟨Int.natCast_nonneg j, by show ((j : Nat) : Int) < m; omega⟩
theorem isPaintable_ok {n : Int} (hg : IsG n es) (he : Edges H v es) (hs : IsS l es.length) (k : ∀ G, H.le G → K (.bool (wkQ es l)) G) :
    AC Try.prog T0 111 [.agg ⟨[.int .i64 n, v]⟩, .int .u64 (setN l : Nat)] H K := by
  have n0 := hg.ed.lo; have n1 := hg.ed.hi
  have h30 : es.length ≤ 30 := by have := hg.ed.len; omega
  have hsn : setN l < 2 ^ 64 := setN_lt fun x hx => by have := hs.range x hx; omega
  have hp : 2 ^ es.length ≤ 2 ^ 30 := Nat.pow_le_pow_right (by decide) h30
  have hfull : 2 ^ es.length - 1 < 2 ^ 64 := by
    have : (2 : Nat) ^ 30 < 2 ^ 64 := by decide
    omega
  apply F111.ac
  unfold F111.B3
  refine newK_f (all_iv (edges_one' he)) fun H1 l1 n1' o1 => ?_
  unfold F111.B2
  refine ldI_own o1 rfl (ld1_own o1 rfl (every_ok (he.le l1) (by omega) fun H2 l2 => asI_mk ?_))
  rw [bits_andnot hfull hsn]
  refine list_ok (Nat.lt_of_le_of_lt Nat.and_le_left hfull) fun w H3 l3 f3 => ?_
  have eB : bitsL ((2 ^ es.length - 1) &&& (2 ^ 64 - (setN l + 1))) = filtB (fun j => !bitB l j) es.length := by
    have hb : ∀ j, ((2 ^ es.length - 1) &&& (2 ^ 64 - (setN l + 1))).testBit j = (decide (j < es.length) && !bitB l j) := fun j => by
      rw [andnot_bit hfull hsn, Nat.testBit_two_pow_sub_one]; rfl
    rw [bitsL_filt (n := es.length) (by omega) fun j hj => by rw [hb, Bool.and_eq_true] at hj; exact of_decide_eq_true hj.1]
    exact filtB_congr fun j hj => by rw [hb, decide_eq_true hj, Bool.true_and]
  rw [eB] at f3
  have l13 := AHeap.le_trans l1 (AHeap.le_trans l2 l3)
  have o3 := o1.le (AHeap.le_trans l2 l3)
  unfold F111.B1
  refine ldI_own o3 rfl (ld1_own o3 rfl (painterOf_ok hg (he.le l13) (ints_one f3.ints) fun pb cb ub tP G lG h1 h2 h3 h4 h5 oP oc ou => ?_))
  refine start_ok hg (he.le l13) f3.ints (filtB_nodup _ _) (fun x hx => filt_mem hx) h1 h2 h3 h4 h5 lG oP oc ou fun G2 l4 => asB_mk ?_
  rw [← wkQ_pt]
  exact k G2 (AHeap.le_trans l13 (AHeap.le_trans lG l4))
end Go.Proofs
