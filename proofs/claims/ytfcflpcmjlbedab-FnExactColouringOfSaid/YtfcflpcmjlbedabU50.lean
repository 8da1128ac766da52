/- Contracts: colourings of matchings, the program's way. -/
import Derived.Test.YtfcflpcmjlbedabU49
set_option linter.unusedVariables false
set_option linter.unusedSimpArgs false
set_option maxRecDepth 100000
namespace Go.Proofs
open Go.Abs

variable {H G : AHeap} {v u f : Value} {l m c D : List Int} {es fs : List (Int × Int)} {K : Value → AHeap → Prop} {cs : List (List Int)}

theorem LD_get : ∀ (ds : List (Nat × Bool)) (i : Nat) (hi : i < ds.length), (LD ds)[i * 2]? = some (.int .i64 ((ds.getD i (0, false)).1 : Nat)) ∧ (LD ds)[i * 2 + 1]? = some (.bool (ds.getD i (0, false)).2)
  | d :: ds, 0, _ => ⟨rfl, rfl⟩
  | d :: ds, i + 1, hi => by
    have ih := LD_get ds i (by simpa using hi)
    have e : LD (d :: ds) = .int .i64 (d.1 : Nat) :: .bool d.2 :: LD ds := rfl
    rw [e, show (i + 1) * 2 = i * 2 + 1 + 1 by omega]
    exact ih
theorem LD_idx {mm : Nat} {t : TypeId} {ds : List (Nat × Bool)} (h : Fresh mm G v t 2 (LD ds)) {i : Nat} (hi : i < ds.length) : ∃ b o, (∀ K : Nat → Nat → Prop, K b o → idxK v (i : Int) 2 K) ∧ G.cell b o = some (.int .i64 ((ds.getD i (0, false)).1 : Nat)) ∧ G.cell b (o + 1) = some (.bool (ds.getD i (0, false)).2) := by
  have hl := LD_length ds
  obtain ⟨g1, g2⟩ := LD_get ds i hi
  rcases h with ⟨h0, _⟩ | ⟨b, n, _, rfl, h3, h4⟩
  · rw [h0] at hl; simp at hl; omega
  · refine ⟨b, i * 2, fun K k => ⟨by omega, by omega, by simpa using k⟩, ?_, ?_⟩
    · rw [cell_own h3]; exact g1
    · rw [cell_own h3]; exact g2

theorem implColouring_ok {n : Int} (h : Edges H v es) (hl : es.length ≤ 1048576) (hc : Ints H u l) (hcl : l.length ≤ 1048576)
    (k : ∀ v' G, H.le G → Fresh H.length G v' 2 1 (LI (coList n es l)) → K (.tuple ⟨[v', .int .i64 (coCode n es l)]⟩) G) : AC Try.prog T0 36 [.agg ⟨[.int .i64 n, v]⟩, u] H K := by
  apply F36.ac
  unfold F36.B20
  refine newK_f (all_iv (edges_one' h)) fun H1 l1 _ o1 => ?_
  unfold F36.B19
  refine ldI_own o1 rfl (ld1_own o1 rfl (ldI_own o1 rfl (ld1_own o1 rfl (isMatching2_ok (h.le l1) hl (hc.le l1) hcl fun b H2 l2 hb => asB_mk ⟨l2, graphCode_ok (b := b) (h.le (AHeap.le_trans l1 l2)) hl fun H3 l3 => asI_mk ?_⟩))))
  have l13 := AHeap.le_trans (AHeap.le_trans l1 l2) l3
  have o3 := (o1.le l2).le l3
  unfold F36.B18
  by_cases hok : IsG n es ∧ IsM n es l
  rotate_left
  · have hne : (if IsG n es then (if b then 0 else 2) else 1 : Int) = coCode n es l ∧ coCode n es l ≠ 0 := by
      unfold coCode
      by_cases hg : IsG n es
      · have hm : ¬ IsM n es l := fun hm => hok ⟨hg, hm⟩
        have hbf : b = false := by rw [hb hg]; exact decide_eq_false hm
        rw [if_pos hg, if_pos hg, if_neg hm, hbf]; exact ⟨rfl, by decide⟩
      · rw [if_neg hg, if_neg hg]; exact ⟨rfl, by decide⟩
    rw [hne.1]
    refine pif_t (bne_iff_ne.2 hne.2) ?_
    unfold F36.B17
    have k := k (.slice none 0 0) _ l13
    unfold coList at k
    rw [if_neg hne.2] at k
    exact k (.inl ⟨rfl, .inl rfl⟩)
  obtain ⟨hg, hm⟩ := hok
  have hbt : b = true := by rw [hb hg]; exact decide_eq_true hm
  rw [if_pos hg, hbt]
  refine pif_f rfl ?_
  have n0 := hg.ed.lo; have n1 := hg.ed.hi
  have h30 : es.length ≤ 30 := by have := hg.ed.len; omega
  have hS := hm.set
  have ho := isM_one hg hm
  have hdeg : ∀ x : Nat, (x : Int) < n → degB es (leftP l) x = 2 := fun x hx => left_deg hg hS ho hx
  obtain ⟨cs, hcs⟩ : ∃ cs, cs = cycW es (leftP l) es.length := ⟨_, rfl⟩
  obtain ⟨L, hL⟩ : ∃ L, L = ldr es (leftP l) es.length := ⟨_, rfl⟩
  have hcsL : cs = L.map fun e => wkL es (leftP l) e (compL es (leftP l) e).length := by rw [hcs, hL, cycW_ldr]
  have hLl : L.length ≤ 30 := by
    have : cs.length ≤ 30 := by rw [hcs]; exact Nat.le_trans (cycW_length _ _) h30
    rw [hcsL, List.length_map] at this; exact this
  have hcsl : cs.length = L.length := by rw [hcsL, List.length_map]
  unfold F36.B16
  refine setOf_ok (hc.le l13) (by omega) (fun x hx => by have := hS.range x hx; omega) (asI_mk ?_)
  unfold F36.B15
  refine ldI_own o3 rfl (ld1_own o3 rfl (odd_ok (h.le l13) hg hS fun H4 l4 => asI_mk (pif_cases (fun hb => ?_) fun hb => ?_)))
  · have h0 : 0 < oddN es l := by have := of_decide_eq_true hb; omega
    have e : coCode n es l = 4 := by unfold coCode; rw [if_pos hg, if_pos hm, if_pos h0]
    unfold F36.B14
    have k := k (.slice none 0 0) _ (AHeap.le_trans l13 l4)
    unfold coList at k
    rw [e] at k
    exact k (.inl ⟨rfl, .inl rfl⟩)
  have h0 : ¬ 0 < oddN es l := by have := of_decide_eq_false hb; omega
  have e : coCode n es l = 0 := by unfold coCode; rw [if_pos hg, if_pos hm, if_neg h0]
  have l14 := AHeap.le_trans l13 l4
  have o4 := o3.le l4
  have hb4 := l14.1
  unfold F36.B13
  refine ld1_own o4 rfl ((h.le l14).len (mkR_int (by omega) (by omega) (by decide) fun H5 l5 n5 o5 => ?_))
  rw [Int.toNat_natCast, rep_one] at o5
  rw [Int.toNat_natCast]
  obtain ⟨b8, hb8⟩ : ∃ b8, b8 = H4.length := ⟨_, rfl⟩
  rw [← hb8] at o5 ⊢
  have l15 := AHeap.le_trans l14 l5
  have o15 := o4.le l5
  unfold F36.B12
  refine ldI_own o15 rfl (ld1_own o15 rfl (left2_ok (h.le l15) hg hS fun q H6 l6 f6 => ?_))
  rw [← hL] at f6
  have l46 := AHeap.le_trans l5 l6
  have hl6 := l6.1
  refine f6.sl.len (by decide) (n := L.length) (by simp) ?_
  unfold F36.L2
  refine ⟨fun x2 x8 x33 x34 x35 G => H.length = x2 ∧ .slice (some ⟨b8, 0, none⟩) es.length (es.length + 1) = x8 ∧ q = x33 ∧ (L.length : Int) = x34 ∧ H4.le G ∧ Fresh H5.length G q 72 1 (LU (L.map (compN es (leftP l)))) ∧ ∃ i : Nat, x35 = i ∧ i ≤ L.length ∧ Own G b8 2 (LI (pntAll (List.replicate es.length 0) cs i)), fun _ _ _ _ x35 _ => L.length - x35.toNat, ⟨rfl, rfl, rfl, rfl, l46, f6, 0, rfl, by omega, o5.le l6⟩, ?_⟩
  clear f6 o5 l5 l6 o15 l15
  rintro x2 x8 x33 x34 x35 G ⟨rfl, rfl, rfl, rfl, hG, hF, i, rfl, hi, oO⟩
  have lG := AHeap.le_trans l14 hG
  have oG := o4.le hG
  unfold F36.B11
  refine pif_cases (fun hb => ?_) fun hb => ?_
  · have hil : i < L.length := by have := of_decide_eq_true hb; omega
    have hmem : L[i] ∈ ldr es (leftP l) es.length := by rw [← hL]; exact List.getElem_mem hil
    obtain ⟨e1, e2, e3⟩ := mem_ldr.1 hmem
    obtain ⟨ei, hei⟩ : ∃ ei, ei = L[i] := ⟨_, rfl⟩
    rw [← hei] at e1 e2 e3
    have hci : cs.getD i [] = wkL es (leftP l) ei (compL es (leftP l) ei).length := by
      rw [getD_of (by omega), hei]; simp only [hcsL, List.getElem_map]
    obtain ⟨T, hT⟩ : ∃ T, T = (compL es (leftP l) ei).length := ⟨_, rfl⟩
    rw [← hT] at hci
    have hTl : T ≤ es.length := by rw [hT]; exact filtB_length _ _
    unfold F36.B10
    refine Sl_rdI hF.sl (by omega) (by simp; omega) (by rw [Int.toNat_natCast]; exact LU_get (by simpa using hil)) ?_
    rw [show (L.map (compN es (leftP l))).getD i 0 = compN es (leftP l) ei by rw [getD_of (by simpa using hil), hei]; simp]
    unfold F36.B9
    refine ldI_own oG rfl (ld1_own oG rfl (around_ok (p := leftP l) (e := ei) (h.le lG) hg hdeg e1 e2 (fun j => compN_bit) (fun j hj hr => ?_) fun r G2 l2' f2 => ?_))
    · exact cLeadB_iff.1 e3 j hj (eRch_in hr ⟨e1, e2⟩).2 (eRch_symm hr ⟨e1, e2⟩)
    rw [← hT] at f2
    have hGb : b8 < G.length := oO.lt
    refine f2.sl.len (by decide) (n := T) (by rw [LD_length, dirL_length]) ?_
    unfold F36.L4
    refine ⟨fun x2 x8 x33 x34 x35 x41 x42 x43 G' => H.length = x2 ∧ .slice (some ⟨b8, 0, none⟩) es.length (es.length + 1) = x8 ∧ q = x33 ∧ (L.length : Int) = x34 ∧ (i : Int) = x35 ∧ r = x41 ∧ (T : Int) = x42 ∧ H4.le G' ∧ Fresh H5.length G' q 72 1 (LU (L.map (compN es (leftP l)))) ∧ Fresh G.length G' r 95 2 (LD (dirL es (leftP l) ei T)) ∧ ∃ t : Nat, x43 = t ∧ t ≤ T ∧ Own G' b8 2 (LI (pnt (pntAll (List.replicate es.length 0) cs i) (cs.getD i []) t)),
      fun _ _ _ _ _ _ _ x43 _ => T - x43.toNat, ⟨rfl, rfl, rfl, rfl, rfl, rfl, rfl, AHeap.le_trans hG l2', hF.le l2', f2, 0, rfl, by omega, oO.le l2'⟩, ?_⟩
    clear f2 oO hF hG oG lG
    rintro x2 x8 x33 x34 x35 x41 x42 x43 G3 ⟨rfl, rfl, rfl, rfl, rfl, rfl, rfl, hG3, hF, f2, t, rfl, ht, oO⟩
    unfold F36.B8
    refine pif_cases (fun hb => ?_) fun hb => ?_
    · have htl : t < T := by have := of_decide_eq_true hb; omega
      obtain ⟨a0, w, hW⟩ := wk_walk hg hdeg e1 e2 t (by omega)
      have hwl := hW.lt
      obtain ⟨db, do', dk, dc1, dc2⟩ := LD_idx f2 (i := t) (by rw [dirL_length]; exact htl)
      have hd1 : ((dirL es (leftP l) ei T).getD t (0, false)).1 = (wk es (leftP l) ei t).1 := by
        rw [← dirT_fst]; unfold dirL; simp [List.getD, htl]
      rw [hd1] at dc1
      have hct : (cs.getD i []).getD t 0 = ((wk es (leftP l) ei t).1 : Int) := by
        rw [hci]; unfold wkL; simp [List.getD, htl]
      have hpl : (pnt (pntAll (List.replicate es.length 0) cs i) (cs.getD i []) t).length = es.length := by rw [pnt_length, pntAll_length, List.length_replicate]
      unfold F36.B7
      refine dk _ (ldI_mk dc1 (ld1_mk dc2 (asB_mk (newK_f rfl fun G4 l4' n4 o4' => stK_f o4' (by simp) (by simp [Value.oneCell']) rfl fun G5 b5 o5' => ?_))))
      have l35 : G3.le G5 := b5.le l4' (Nat.le_refl _)
      have oO5 := oO.le l35
      unfold F36.B6
      refine ldI_own o5' rfl (own_idx (by omega) (by omega) (stK_1 oO5 (by rw [List.length_map, hpl]; omega) rfl fun G6 b6 o6 => ?_))
      rw [tmod_col t (by omega), ← List.map_set, Int.toNat_natCast] at o6
      unfold F36.B5
      rw [wrap_id (by omega) (by omega)]
      refine ⟨⟨rfl, rfl, rfl, rfl, rfl, rfl, rfl, b6.le (AHeap.le_trans hG3 l35) (by omega), (hF.le l35).but b6 (by omega), (f2.le l35).but b6 hGb, t + 1, by omega, by omega, ?_⟩, by show T - ((t : Int) + 1).toNat < T - (t : Int).toNat; omega⟩
      rw [pnt, hct, Int.toNat_natCast]; exact o6
    · have htl : t = T := by have := of_decide_eq_false hb; omega
      subst htl
      unfold F36.B3
      rw [wrap_id (by omega) (by omega)]
      refine ⟨⟨rfl, rfl, rfl, rfl, hG3, hF, i + 1, by omega, by omega, ?_⟩, by show L.length - ((i : Int) + 1).toNat < L.length - (i : Int).toNat; omega⟩
      rw [pntAll]
      have : (cs.getD i []).length = t := by rw [hci, wkL_length]
      rw [this]; exact oO
  · have hil : i = L.length := by have := of_decide_eq_false hb; omega
    subst hil
    unfold F36.B1
    have k := k (.slice (some ⟨b8, 0, none⟩) es.length (es.length + 1)) _ lG
    unfold coList at k
    rw [e, if_pos rfl, ← hcs, hcsl] at k
    exact k (.inr ⟨b8, es.length, by omega, rfl, oO, by rw [List.length_map, pntAll_length, List.length_replicate]; omega⟩)
end Go.Proofs
