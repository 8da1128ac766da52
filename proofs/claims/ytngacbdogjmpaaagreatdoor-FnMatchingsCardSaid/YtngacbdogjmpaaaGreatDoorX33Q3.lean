/- Contracts and plain mathematics for a law, merged. -/
import Derived.Test.YtngacbdogjmpaaaGreatDoorX33Q2
set_option linter.unusedVariables false
set_option linter.unusedSimpArgs false
set_option maxRecDepth 100000
namespace Go.Proofs
open Go.Abs

variable {H G : AHeap} {v u f : Value} {l m c D : List Int} {es fs : List (Int × Int)} {K : Value → AHeap → Prop} {A A' : Nat → Prop} {B : Nat} {ls ms : List (List Int)}

def over60 (d : List (List Int)) : Bool := decide (d.length > 60)
theorem over60_any : ∀ (a d : List (List Int)), d.length ≤ 60 → anyD over60 d a = decide (d.length + a.length > 60)
 | [], d, h => by unfold anyD; symm; rw [decide_eq_false_iff_not]; simp; omega
 | x :: a, d, h => by
  rw [anyD]
  by_cases hx : d.length + 1 > 60
  ·have : over60 (d ++ [x]) = true := by unfold over60; simp; omega
   rw [this, Bool.true_or]; symm; rw [decide_eq_true_iff, List.length_cons]; omega
  ·have : over60 (d ++ [x]) = false := by unfold over60; simp; omega
   rw [this, Bool.false_or, over60_any a (d ++ [x]) (by simp; omega)]
   simp only [List.length_append, List.length_cons, List.length_nil]
   congr 1
   rw [eq_iff_iff]; omega
theorem listed_ok {n : Int} (hg : IsG n es) (hT : Tab H) (h : Edges H v es)
    (k : ∀ w G, H.le G → Fresh H.length G w 83 1 (LU ((upToD over60 [] (mats n es)).map setN)) → K (.tuple ⟨[w, .bool (!(decide ((mats n es).length > 60)))]⟩) G) : AC Tryz.prog T0 97 [.agg ⟨[.int .i64 n, v]⟩] H K := by
  have hrow := mats_row hg
  have h30 : es.length ≤ 30 := by have := hg.ed.len; have := hg.ed.hi; omega
  apply F97.ac
  unfold F97.B4
  refine newK_f (all_iv (edges_one' h)) fun H1 l1 n1 o1 => ?_
  unfold F97.B3
  refine newK_f rfl fun H2 l2 n2 o2 => ?_
  obtain ⟨co, hco⟩ : ∃ co, co = H1.length := ⟨_, rfl⟩
  rw [← hco] at o2 ⊢
  have l12 := AHeap.le_trans l1 l2
  have b1 := l1.1
  have o12 := o1.le l2
  have hml := mats_length hg
  unfold F97.B2
  refine ldI_own o12 rfl (ld1_own o12 rfl (matchings_ok hg (H0 := H) (Pv0 := fun x => x = co) (q := over60)
    (J := fun done Pv G => ∃ w, Own G co 107 [w] ∧ Fresh (co + 1) G w 83 1 (LU (done.map setN)) ∧ (∀ x, Pv x ↔ (x = co ∨ bk w = some x)) ∧ co + 1 ≤ G.length)
    h l12 (fun x hx => by omega) hT rfl ⟨_, o2, .inl ⟨rfl, .inl rfl⟩, fun x => ⟨.inl, fun h => h.elim id fun h => by cases h⟩, by omega⟩ ?_ ?_ ?_ ?_))
  · rintro done Pv G G2 ⟨w, h1, h2, h3, h4⟩ hle
    exact ⟨w, h1.le hle, h2.le hle, h3, by have := hle.1; omega⟩
  · rintro done Pv G x ⟨w, h1, h2, h3, h4⟩ hx
    rcases (h3 x).1 hx with rfl | hb
    · exact h1.lt
    · exact (h2.bk_lt hb).2
  · rintro done Pv l G ⟨w, h1, h2, h3, h4⟩ hF hlm hdn K hK
    have hsl : setN l < 2 ^ 64 := setN_lt fun x hx => by have := (hrow l hlm).1.range x hx; omega
    refine callV_mk ?_
    apply F156.ac
    unfold F156.B3 F156.B2
    refine asP_mk (ld1_own h1 rfl ?_)
    refine h2.sl.pushN E_set (by decide) h4 (n := 1) (ys := [.int .u64 (setN l : Nat)]) rfl rfl (by simp; omega) (by simp) fun v' G2 k2 ot nb f2 => ?_
    have v1 : v'.oneCell' = true := by
      rcases f2 with ⟨_, rfl | ⟨a, rfl⟩⟩ | ⟨b, n', _, rfl, _⟩ <;> rfl
    have oc2 := k2.own h1 (by omega)
    refine pif_t v1 (asP_mk (stK_f oc2 (by simp) (by simpa using v1) rfl fun G3 b3 o3 => ?_))
    have f3 := f2.but b3 (by omega)
    have o3 : Own G3 co 107 [v'] := by simpa using o3
    unfold F156.B1
    refine asP_mk (ld1_own o3 rfl (f3.sl.len (by decide) (n := done.length + 1) (by simp) ?_))
    have e : decide ((((done.length + 1 : Nat) : Int) : Int) > 60) = over60 (done ++ [l]) := by
      unfold over60; rw [List.length_append, List.length_singleton]; congr 1; rw [eq_iff_iff]; omega
    rw [e]
    refine hK G3 (fun x => x = co ∨ bk v' = some x) ⟨v', o3, by rw [List.map_append]; simpa using f3, fun x => Iff.rfl, by rw [b3.len]; have := k2.len; omega⟩ ⟨by rw [b3.len]; exact k2.len, fun x hx => ?_, fun x o hx ho => ?_⟩
    · rcases hx with rfl | hx
      · exact .inl ((h3 x).2 (.inl rfl))
      · exact .inr (nb x hx)
    · have hn : ¬ (x = co ∨ bk w = some x) := fun h => hx ((h3 x).2 h)
      rw [b3.same x (fun e => hn (.inl e))]
      exact ot x o (fun e => hn (.inr e)) ho
  · rintro G Pv ⟨w, h1, h2, h3, h4⟩ hF
    have hbG := (hF.base l12 (fun x hx => by omega)).1
    refine asB_mk ?_
    unfold F97.B1
    refine ld1_own h1 rfl ?_
    have e := over60_any (mats n es) [] (by simp)
    rw [List.length_nil, Nat.zero_add] at e
    rw [e]
    exact k w G hbG (h2.less (by omega))

noncomputable def maCode (n : Int) (es : List (Int × Int)) : Int := if IsG n es then (if (mats n es).length > 60 then 3 else 0) else 1
noncomputable def maList (n : Int) (es : List (Int × Int)) : List (List Int) := if maCode n es = 0 then mats n es else []
theorem maCode_zero {n : Int} (h : maCode n es = 0) : IsG n es ∧ (mats n es).length ≤ 60 := by
 unfold maCode at h
 by_cases hg : IsG n es
 ·rw [if_pos hg] at h
  by_cases hs : (mats n es).length > 60
  ·rw [if_pos hs] at h; cases h
  ·exact ⟨hg, by omega⟩
 ·rw [if_neg hg] at h; cases h
theorem specMa_ok {n : Int} (h : Edges H v es) (hl : es.length ≤ 1048576)
    (k : ∀ v' G, H.le G → RowsF (fun b => H.length ≤ b) G.length G v' (maList n es) → K (.tuple ⟨[v', .int .i64 (maCode n es)]⟩) G) : AC Tryz.prog T0 36 [.agg ⟨[.int .i64 n, v]⟩] H K := by
  apply F36.ac
  unfold F36.B7
  refine newK_f (all_iv (edges_one' h)) fun H1 l1 _ o1 => ?_
  unfold F36.B6
  refine ldI_own o1 rfl (ld1_own o1 rfl (l01Is_ok (h.le l1) hl fun H2 l2 => asB_mk ?_))
  have l12 := AHeap.le_trans l1 l2
  have o2 := o1.le l2
  refine pif_cases (fun hs => ?_) fun hs => ?_
  · have hg : ¬ IsG n es := by simpa using hs
    have e : maCode n es = 1 := by unfold maCode; rw [if_neg hg]
    unfold F36.B5
    have k := k (.slice none 0 0) _ l12
    unfold maList at k
    rw [e] at k
    exact k .nil
  have hg : IsG n es := by simpa using hs
  unfold F36.B4
  refine ldI_own o2 rfl (ld1_own o2 rfl (l04All_ok hg (h.le l12) fun q H3 l3 hR => ?_))
  have l13 := AHeap.le_trans l12 l3
  have b1 := l12.1
  unfold F36.B3
  refine hR.len (pif_cases (fun hb => ?_) fun hb => ?_)
  · have hgt : (mats n es).length > 60 := by have := of_decide_eq_true hb; omega
    have e : maCode n es = 3 := by unfold maCode; rw [if_pos hg, if_pos hgt]
    unfold F36.B2
    have k := k (.slice none 0 0) _ l13
    unfold maList at k
    rw [e] at k
    exact k .nil
  · have hgt : ¬ (mats n es).length > 60 := by have := of_decide_eq_false hb; omega
    have e : maCode n es = 0 := by unfold maCode; rw [if_pos hg, if_neg hgt]
    unfold F36.B1
    have k := k q _ l13
    unfold maList at k
    rw [e, if_pos rfl] at k
    exact k (hR.mono (fun b hb => by omega) (Nat.le_refl _))
theorem implMa_ok {n : Int} (hT : Tab H) (h : Edges H v es) (hl : es.length ≤ 1048576)
    (k : ∀ v' G, H.le G → RowsF (fun b => H.length ≤ b) G.length G v' (maList n es) → K (.tuple ⟨[v', .int .i64 (maCode n es)]⟩) G) : AC Tryz.prog T0 35 [.agg ⟨[.int .i64 n, v]⟩] H K := by
  apply F35.ac
  unfold F35.B15
  refine newK_f (all_iv (edges_one' h)) fun H1 l1 _ o1 => ?_
  unfold F35.B14
  refine ldI_own o1 rfl (ld1_own o1 rfl (graphCode_ok (b := true) (h.le l1) hl fun H2 l2 => asI_mk ?_))
  have l12 := AHeap.le_trans l1 l2
  have o2 := o1.le l2
  have e : (if IsG n es then (if true = true then 0 else 2) else 1 : Int) = grCode n es := by unfold grCode; simp
  rw [e]
  unfold F35.B13
  refine pif_cases (fun hs => ?_) fun hs => ?_
  · have hg : ¬ IsG n es := fun h => by unfold grCode at hs; rw [if_pos h] at hs; simp at hs
    have e0 : grCode n es = 1 := by unfold grCode; rw [if_neg hg]
    have e : maCode n es = 1 := by unfold maCode; rw [if_neg hg]
    unfold F35.B12
    have k := k (.slice none 0 0) _ l12
    unfold maList at k
    rw [e] at k
    rw [e0]
    exact k .nil
  have hg : IsG n es := by
    unfold grCode at hs
    by_cases h : IsG n es
    · exact h
    · rw [if_neg h] at hs; simp at hs
  have hrow := mats_row hg
  have h30 : es.length ≤ 30 := by have := hg.ed.len; have := hg.ed.hi; omega
  unfold F35.B11
  refine ldI_own o2 rfl (ld1_own o2 rfl (listed_ok hg (hT.le l12) (h.le l12) fun w H3 l3 f3 => tup2_mk (asB_mk ?_)))
  have l13 := AHeap.le_trans l12 l3
  unfold F35.B10
  refine pif_cases (fun hs => ?_) fun hs => ?_
  · have hgt : (mats n es).length > 60 := by simpa using hs
    have e : maCode n es = 3 := by unfold maCode; rw [if_pos hg, if_pos hgt]
    unfold F35.B9
    have k := k (.slice none 0 0) _ l13
    unfold maList at k
    rw [e] at k
    exact k .nil
  have hgt : ¬ (mats n es).length > 60 := by simpa using hs
  have e : maCode n es = 0 := by unfold maCode; rw [if_pos hg, if_neg hgt]
  unfold maList at k
  rw [e, if_pos rfl] at k
  have hup : upToD over60 [] (mats n es) = mats n es := upToD_all (by rw [over60_any _ _ (by simp)]; simp; omega)
  rw [hup] at f3
  obtain ⟨Z, hZ⟩ : ∃ Z, Z = (mats n es).map setN := ⟨_, rfl⟩
  rw [← hZ] at f3
  have hZl : Z.length = (mats n es).length := by rw [hZ, List.length_map]
  have hZ64 : ∀ z ∈ Z, z < 2 ^ 64 := by
    intro z hz
    rw [hZ] at hz
    obtain ⟨l, hl, rfl⟩ := List.mem_map.1 hz
    exact setN_lt fun x hx => by have := (hrow l hl).1.range x hx; omega
  have hZb : Z.map bitsL = mats n es := by
    rw [hZ, List.map_map]
    conv => rhs; rw [← List.map_id (mats n es)]
    exact List.map_congr_left fun l hl => (hrow l hl).1.bits (by omega)
  unfold F35.B8 F35.B7
  refine f3.sl.len (by decide) (n := Z.length) (by simp) ?_
  unfold F35.L2
  refine ⟨fun x7 x22 x23 x24 G => w = x22 ∧ (Z.length : Int) = x23 ∧ H3.le G ∧ ∃ t : Nat, x24 = t ∧ t ≤ Z.length ∧ RowsF (fun b => H3.length ≤ b) G.length G x7 ((Z.take t).map bitsL), fun _ _ _ x24 _ => Z.length - x24.toNat, ⟨rfl, rfl, AHeap.le_refl _, 0, rfl, by omega, .nil⟩, ?_⟩
  rintro x7 x22 x23 x24 G ⟨rfl, rfl, hG, t, rfl, ht, hR⟩
  unfold F35.B6
  refine pif_cases (fun hb => ?_) fun hb => ?_
  · have htl : t < Z.length := by have := of_decide_eq_true hb; omega
    unfold F35.B5
    refine Sl_rdI (f3.sl.le hG) (by omega) (by simp; omega) (by rw [Int.toNat_natCast]; exact LU_get htl) ?_
    rw [getD_of htl]
    unfold F35.B4
    refine list_ok (hZ64 _ (List.getElem_mem htl)) fun w2 G2 l2' f2 => ?_
    refine (hR.le l2').push l2'.1 (fun b hb => Nat.le_trans hG.1 hb) f2 (by rw [List.length_map, List.length_take]; omega) fun v' G3 ot nb hlen hR2 => ?_
    unfold F35.B3
    rw [wrap_id (by omega) (by omega)]
    refine ⟨⟨rfl, rfl, ?_, t + 1, by omega, by omega, ?_⟩, by simp; omega⟩
    · refine ⟨by have := hG.1; have := l2'.1; omega, fun b o ho => ot b o (fun hv => ?_) (l2'.2 _ _ (hG.2 _ _ ho))⟩
      obtain ⟨vs, _, _, q3, _⟩ := hR
      have := (q3 b hv).1
      have := lt_of_get ho
      omega
    · rw [List.take_succ_eq_append_getElem htl, List.map_append]; exact hR2
  · have hge : t = Z.length := by have := of_decide_eq_false hb; omega
    subst hge
    rw [List.take_length, hZb] at hR
    unfold F35.B1
    have := l13.1
    exact k _ _ (AHeap.le_trans l13 hG) (hR.mono (fun b hb => by omega) (Nat.le_refl _))
end Go.Proofs
namespace Go.Proofs
open Go.Abs

variable {H G : AHeap} {v u f : Value} {l m c D : List Int} {es fs : List (Int × Int)} {K : Value → AHeap → Prop} {A A' : Nat → Prop} {B : Nat} {ls ms : List (List Int)}

end Go.Proofs
namespace Go.Proofs
open Go.Abs

variable {H G : AHeap} {v u f : Value} {l m c D : List Int} {es fs : List (Int × Int)} {K : Value → AHeap → Prop} {A A' : Nat → Prop} {B : Nat} {ls ms : List (List Int)}

end Go.Proofs
namespace Go.Proofs
open Go.Abs

variable {H G : AHeap} {v u f : Value} {l m c D : List Int} {es fs : List (Int × Int)} {K : Value → AHeap → Prop}

end Go.Proofs
namespace Go.Proofs
open Go.Abs

variable {es : List (Int × Int)} {p : Nat → Bool} {l c O : List Int} {L : List (List Int)} {n : Int} {e : Nat}

noncomputable def etoB (es : List (Int × Int)) (p : Nat → Bool) (k j : Nat) : Bool := @decide (ETo es p k j) (Classical.propDecidable _)
theorem etoB_iff {k j : Nat} : etoB es p k j = true ↔ ETo es p k j := by unfold etoB; simp
theorem sum_snoc (L : List Nat) (x : Nat) : (L ++ [x]).sum = L.sum + x := by simp
theorem lens_sum : ∀ k, k ≤ es.length → (lensTo es p k).sum = cn (etoB es p k) es.length
 | 0, _ => by
  rw [cn_zero fun i hi => ?_]
  ·rfl
  ·rw [← Bool.not_eq_true, etoB_iff]; rintro ⟨_, a, h, _⟩; omega
 | k + 1, hk => by
  have ih := lens_sum k (by omega)
  by_cases hs : ETo es p k k ∨ p k = false
  ·rw [lensTo_skip hs, ih]
   refine cn_congr fun i _ => ?_
   rw [Bool.eq_iff_iff, etoB_iff, etoB_iff, ETo.skip hs]
  ·have hpk : p k = true := by
    cases h : p k with
    | true => rfl
    | false => exact absurd (.inr h) hs
   have hl : cLeadB es p k = true := by
    cases h : cLeadB es p k with
    | true => rfl
    | false => exact absurd (.inl ((ETo.lead hpk).2 h)) hs
   rw [lensTo, if_pos ⟨hpk, hl⟩, sum_snoc, ih]
   unfold compL
   rw [cn_filt, ← cn_add (f := etoB es p k) (g := rchB (eAdj es p) k)]
   ·refine cn_congr fun i _ => ?_
    rw [Bool.eq_iff_iff, etoB_iff, Bool.or_eq_true, etoB_iff, rchB_iff, ETo.succ]
    constructor
    ·rintro (h | h)
     ·exact .inl h
     ·exact .inr ⟨hpk, (eRch_in h ⟨by omega, hpk⟩).2, h⟩
    ·rintro (h | ⟨_, _, h⟩)
     ·exact .inl h
     ·exact .inr h
   ·rintro i _ ⟨h1, h2⟩
    rw [etoB_iff] at h1
    rw [rchB_iff] at h2
    obtain ⟨_, a, ha, hpa, hr⟩ := h1
    exact hs (.inl ⟨hpk, a, ha, hpa, hr.trans (eRch_symm h2 ⟨by omega, hpk⟩)⟩)
theorem lens_all : (lensTo es p es.length).sum = cn p es.length := by
 rw [lens_sum es.length (Nat.le_refl _)]
 refine cn_congr fun i hi => ?_
 rw [Bool.eq_iff_iff, etoB_iff]
 constructor
 ·exact fun h => h.1
 ·intro h
  obtain ⟨e, he, hr⟩ := lead_get hi h
  exact ⟨h, e, he.1, he.2.1, hr⟩
theorem cn_compl (f : Nat → Bool) : ∀ k, cn f k + cn (fun j => !f j) k = k
 | 0 => rfl
 | k + 1 => by
  have := cn_compl f k
  rw [cn, cn]
  cases h : f k <;> simp <;> omega
theorem left_sum (hg : IsG n es) (hm : IsM n es l) : ((lensTo es (leftP l) es.length).sum : Int) = n := by
 rw [lens_all]
 have h1 := cn_compl (bitB l) es.length
 have h2 : l.length = cn (bitB l) es.length := by
  have := congrArg List.length hm.set.filt
  rwa [cn_filt] at this
 have h3 := hm.len
 have h4 := hg.ed.len
 have h5 := hg.ed.even
 have : cn (leftP l) es.length = cn (fun j => !bitB l j) es.length := rfl
 omega
-- covers
end Go.Proofs
namespace Go.Proofs
open Go.Abs

variable {H G G' Hb H0 : AHeap} {v u f w : Value} {l m c D : List Int} {es fs : List (Int × Int)} {K : Value → AHeap → Prop} {bs : Nat} {n : Int}

theorem l04Draw_ok (hB : Byts H u l) (hl : l.length ≤ 4096) (k : DrwL H K) : AC Tryz.prog T0 100 [u] H K := by
 apply F100.ac
 unfold F100.B9
 refine newK_f rfl fun H1 l1 n1 o1 => ?_
 unfold F100.B8
 refine l01From_ok (hB.le l1) hl fun G1 g1 s1 => ?_
 have hs1 := s1.lt
 have hlt := o1.lt
 unfold F100.B7
 refine l01Spoil_ok s1 fun v2 n2 es2 G2 k2 s2 h2 c2 a0 a1 => agg2_mk (asI_mk (newK_f rfl fun G4 l4 n4 o4 => stK_f (new := [.int .i64 n2, v2]) o4 (by simp) (mem_iv (sl_one h2)) rfl fun G5 b5 o5 => ?_))
 have l5 : G2.le G5 := b5.le l4 (Nat.le_refl _)
 have ob2 := k2.own (o1.le g1) (by omega)
 have hs2 := s2.lt
 have hl5 := l5.1
 have ob5 := ob2.le l5
 have s5 := s2.le l5
 have h5 : Sl (H1.length + 1) G5 v2 28 2 (LE es2) := (h2.le l5).less (by omega)
 unfold F100.B6
 refine ldI_own o5 rfl (ld1_own o5 rfl (l01Is_ok (sl_edges h5) (by omega) fun G6 l6 => asB_mk (pif_cases (fun hg => ?_) fun hg => ?_)))
 ·unfold F100.B5
  have o6 := o5.le l6
  refine ldI_own o6 rfl (ld1_own o6 rfl (newK_f rfl fun G7 l7 n7 o7 => ?_))
  have hl6 := l6.1
  have l57 := AHeap.le_trans l6 l7
  exact with_tail (l := [0]) k (AHeap.le_trans l1 (s5.le l57).1) (Nat.le_refl _) (ob5.le l57) ((h5.le l57).less (by omega)) (.inr ⟨G6.length, 1, by omega, rfl, o7, rfl⟩) c2 (by simp) a0 a1
 have hg : IsG n2 es2 := by simpa using hg
 have o6 := o5.le l6
 have h6 := h5.le l6
 unfold F100.B4
 refine ldI_own o6 rfl (ld1_own o6 rfl (l04All_ok hg (sl_edges h6) fun x6 G7 l7 hR => ?_))
 have l57 := AHeap.le_trans l6 l7
 have s7 := s5.le l57
 have o7 := o5.le l57
 have ob7 := ob5.le l57
 have h7 := h5.le l57
 have hl6 := l6.1
 have hl7 := l7.1
 -- two numbers
 have two : ∀ G, Kb H1.length G7 G → Src H1 H1.length G → F100.B2 K H.length (.pointer (some ⟨H1.length, 0, none⟩)) G2.length G := by
  intro G kG sG
  have oG := kG.own o7 (by omega)
  unfold F100.B2
  refine ldI_own oG rfl (ld1_own oG rfl (newK_f rfl fun G8 l8 n8 o8 => ?_))
  have hsG := sG.lt
  refine l01Pick_ok (l := [1, 2, 3, -1, 40]) (sG.le l8) (own_ints (l := [1, 2, 3, -1, 40]) o8) (by simp) (by simp) (fun x hx => by simp at hx; omega) (fun G3 k3 => own_ints (l := [1, 2, 3, -1, 40]) (k3.own o8 (by omega))) fun r G9 k9 s9 hr => asI_mk ?_
  have kk := (kG.trans (.of_le l8)).trans k9
  have o9 := kk.own o7 (by omega)
  have ob9 := kk.own ob7 (by omega)
  have h9 := sl_kb h7 kk
  have hkk := kk.len
  have h09 := AHeap.le_trans l1 s9.1
  refine ⟨ldI_own o9 rfl (ld1_own o9 rfl ⟨rfl, rfl⟩), newK_f rfl fun G10 l10 n10 o10 => ?_, ?_⟩
  ·exact with_tail k (AHeap.le_trans h09 l10) (Nat.le_refl _) (ob9.le l10) ((h9.le l10).less (by omega)) (.inr ⟨G9.length, 2, by omega, rfl, o10, rfl⟩ : Fresh (H.length + 1) G10 _ 2 1 (LI [0, r])) c2 (by simp) a0 a1
  ·refine stK_f (new := [.int .i64 n2, v2]) ob9 (by simp) (mem_iv (sl_one h9)) rfl fun G10 b10 o10 => newK_f rfl fun G11 l11 n11 o11 => ldI_own (o10.le l11) rfl (ld1_own (o10.le l11) rfl ?_)
   have hb10 := b10.len
   exact k v2 n2 es2 _ [0, r] G11 (AHeap.le_trans (b10.le h09 (Nat.le_refl _)) l11) (((h9.but b10 (by omega)).le l11).less (by omega)) (.inr ⟨G10.length, 2, by omega, rfl, o11, rfl⟩) c2 (by simp) a0 a1
 unfold F100.B3
 refine hR.len (pif_cases (fun _ => two G7 (.of_le (AHeap.le_refl _)) s7) fun hz => l01Next_ok s7 fun r G8 k8 s8 _ _ _ => asI_mk (pif_cases (fun _ => two G8 k8 s8) fun _ => ?_))
 have hpos : 0 < (mats n2 es2).length := by have := beq_eq_false_iff_ne.1 hz; omega
 have hmat := mats_length hg
 unfold F100.B1
 have o8 := k8.own o7 (by omega)
 have hR8 := hR.move (G := G8) fun b o ha _ ho => k8.old b o (by omega) ho
 refine ldI_own o8 rfl (ld1_own o8 rfl (hR8.len (l01Next_ok s8 fun q G9 k9 s9 q0 q1 _ => asI_mk ?_)))
 have hq := q1 (by omega)
 have o9 := k9.own o8 (by omega)
 have kk := k8.trans k9
 have ob9 := kk.own ob7 (by omega)
 have h9 := sl_kb h7 kk
 have hR9 := hR8.move (G := G9) fun b o ha _ ho => k9.old b o (by omega) ho
 obtain ⟨q, rfl⟩ : ∃ q' : Nat, q = q' := ⟨q.toNat, by omega⟩
 have hql : q < (mats n2 es2).length := by omega
 have h09 := AHeap.le_trans l1 s9.1
 refine ⟨ldI_own o9 rfl (ld1_own o9 rfl ⟨rfl, rfl⟩), ?_⟩
 obtain ⟨vs, r1, r2, r3, r4⟩ := hR9
 obtain ⟨w, t1, t2, t3⟩ := r4 q hql
 have hwl : ((mats n2 es2).getD q []).length ≤ 30 := by rw [getD_of hql]; exact (mats_row hg _ (List.getElem_mem hql)).2
 rcases r1 with ⟨e, _⟩ | ⟨b, c, hb, rfl, rb, rl⟩
 ·rw [e] at t1; simp at t1
 have hbA := (r3 b rfl).1
 have hl9 := k9.len
 have hvl : q < vs.length := by
  obtain ⟨hh, _⟩ := List.getElem?_eq_some_iff.1 t1; exact hh
 refine own_idx (by omega) (by omega) (ld1_own rb (by rw [Int.toNat_natCast]; exact t1) (stK_f (new := [.int .i64 n2, v2]) ob9 (by simp) (mem_iv (sl_one h9)) rfl fun G10 b10 o10 => ⟨ld1_own (b10.own rb (by omega)) (by rw [Int.toNat_natCast]; exact t1) ⟨rfl, rfl⟩, ldI_own o10 rfl (ld1_own o10 rfl ?_)⟩))
 have fw : Fresh (H.length + 1) G9 w 2 1 (LI ((mats n2 es2).getD q [])) := fresh_more t2 fun b hb => by have := (t3 b hb).1; omega
 exact k v2 n2 es2 w _ G10 (b10.le h09 (Nat.le_refl _)) ((h9.but b10 (by omega)).less (by omega)) ((fw.but b10 (by omega)).less (by omega)) c2 (by omega) a0 a1
end Go.Proofs
namespace Go.Proofs
open Go.Abs

variable {es : List (Int × Int)} {l c O : List Int} {L : List (List Int)} {n : Int}

theorem withN_cons (l : List Int) (L : List (List Int)) (e : Int) : withN (l :: L) e = (if e ∈ l then 1 else 0) + withN L e := by
 unfold withN
 rw [List.filter_cons]
 by_cases h : e ∈ l <;> simp [h] <;> omega
theorem one_of (hg : IsG n es) {v : Nat} (hv : (v : Int) < n) (hs : IsS l es.length) (ho : OneAt n es l) : ∃ a b c : Nat, atL es v = [(a : Int), (b : Int), (c : Int)] ∧ (if (a : Int) ∈ l then 1 else 0) + (if (b : Int) ∈ l then 1 else 0) + (if (c : Int) ∈ l then 1 else 0) = (1 : Nat) := by
 have h3 := hg.three (v := (v : Int)) (by omega) hv
 obtain ⟨a, b, c, e⟩ := list3 h3
 have mem : ∀ y ∈ atL es (v : Int), ∃ q : Nat, y = q ∧ q < es.length ∧ on (es.getD q (0, 0)) v = true := fun y hy => mem_atL.1 hy
 obtain ⟨a', rfl, ha2, ha3⟩ := mem a (by rw [e]; simp)
 obtain ⟨b', rfl, hb2, hb3⟩ := mem b (by rw [e]; simp)
 obtain ⟨c', rfl, hc2, hc3⟩ := mem c (by rw [e]; simp)
 refine ⟨a', b', c', e, ?_⟩
 have h1 := ho v hv
 have hn : (atL es (v : Int)).Nodup := filtB_nodup _ _
 have f1 : ((atL es (v : Int)).filter fun x => decide (x ∈ l)).length ≤ degC es l v := by
  unfold degC
  refine nodup_sub (List.Pairwise.filter _ hn) fun y hy => ?_
  rw [List.mem_filter] at hy
  obtain ⟨q, rfl, q2, q3⟩ := mem y hy.1
  exact List.mem_filter.2 ⟨of_decide_eq_true hy.2, by rw [Int.toNat_natCast]; exact q3⟩
 have f2 : degC es l v ≤ ((atL es (v : Int)).filter fun x => decide (x ∈ l)).length := by
  unfold degC
  refine nodup_sub (List.Pairwise.filter _ (asc_nodup hs.asc)) fun y hy => ?_
  rw [List.mem_filter] at hy
  have hr := hs.range y hy.1
  refine List.mem_filter.2 ⟨mem_atL.2 ⟨y.toNat, by omega, by omega, hy.2⟩, decide_eq_true hy.1⟩
 have f3 : ((atL es (v : Int)).filter fun x => decide (x ∈ l)).length = 1 := by omega
 rw [e] at f3
 simp only [List.filter_cons, List.filter_nil] at f3
 by_cases h1 : (a' : Int) ∈ l <;> by_cases h2 : (b' : Int) ∈ l <;> by_cases h3 : (c' : Int) ∈ l <;> simp [h1, h2, h3] at f3 ⊢
theorem with_sum {a b c : Nat} : ∀ L : List (List Int), (∀ l ∈ L, (if (a : Int) ∈ l then 1 else 0) + (if (b : Int) ∈ l then 1 else 0) + (if (c : Int) ∈ l then 1 else 0) = (1 : Nat)) → withN L a + withN L b + withN L c = L.length
 | [], _ => rfl
 | l :: L, h => by
  have h1 := h l (by simp)
  have h2 := with_sum L fun x hx => h x (by simp [hx])
  rw [withN_cons, withN_cons, withN_cons, List.length_cons]
  omega
theorem with_all (hg : IsG n es) {v : Nat} (hv : (v : Int) < n) : ∃ a b c : Nat, atL es v = [(a : Int), (b : Int), (c : Int)] ∧ a < es.length ∧ b < es.length ∧ c < es.length ∧ withN (mats n es) a + withN (mats n es) b + withN (mats n es) c = (mats n es).length := by
 have h3 := hg.three (v := (v : Int)) (by omega) hv
 obtain ⟨a, b, c, e⟩ := list3 h3
 have mem : ∀ y ∈ atL es (v : Int), ∃ q : Nat, y = q ∧ q < es.length ∧ on (es.getD q (0, 0)) v = true := fun y hy => mem_atL.1 hy
 obtain ⟨a', rfl, ha2, ha3⟩ := mem a (by rw [e]; simp)
 obtain ⟨b', rfl, hb2, hb3⟩ := mem b (by rw [e]; simp)
 obtain ⟨c', rfl, hc2, hc3⟩ := mem c (by rw [e]; simp)
 refine ⟨a', b', c', e, ha2, hb2, hc2, with_sum _ fun l hl => ?_⟩
 obtain ⟨h1, _, h2⟩ := mats_row2 hg l hl
 obtain ⟨a, b, c, e', h⟩ := one_of hg hv h1 h2
 rw [e] at e'
 injection e' with e1 e'
 injection e' with e2 e'
 injection e' with e3 _
 obtain rfl : a' = a := by omega
 obtain rfl : b' = b := by omega
 obtain rfl : c' = c := by omega
 exact h
theorem perm_sum {l m : List Int} (h : l.Perm m) : l.sum = m.sum := by
 induction h with
 | nil => rfl
 | cons x _ ih => rw [List.sum_cons, List.sum_cons, ih]
 | swap x y l => rw [List.sum_cons, List.sum_cons, List.sum_cons, List.sum_cons]; omega
 | trans _ _ h1 h2 => exact h1.trans h2
theorem srtI_sum (l : List Int) : (srtI l).sum = l.sum := by
 unfold srtI
 exact perm_sum (List.mergeSort_perm l _)
theorem nat_sum : ∀ l : List Nat, (l.map Int.ofNat).sum = ((l.sum : Nat) : Int)
 | [] => rfl
 | a :: l => by
  rw [List.map_cons, List.sum_cons, List.sum_cons, nat_sum l]
  simp
end Go.Proofs
namespace Go.Proofs
open Go.Abs

variable {H G : AHeap} {v u f : Value} {l m c D : List Int} {es fs : List (Int × Int)} {K : Value → AHeap → Prop} {n : Int}

theorem likeInts_ok (h : Ints H v l) (g : Ints H u l) (hl : l.length ≤ 1000000000) (k : K (.bool true) H) : AC Tryz.prog T0 24 [v, u] H K := by
 apply F24.ac
 unfold F24.B10 F24.B9
 refine h.len (g.len (pif_f (by simp) ?_))
 unfold F24.B7 F24.L2
 refine ⟨fun x0 x1 x5 G => v = x0 ∧ u = x1 ∧ H = G ∧ ∃ i : Nat, x5 = i ∧ i ≤ l.length, fun _ _ x5 _ => l.length - x5.toNat, ⟨rfl, rfl, rfl, 0, rfl, by omega⟩, ?_⟩
 rintro x0 x1 x5 G ⟨rfl, rfl, rfl, i, rfl, hi⟩
 unfold F24.B6
 refine h.len (pif_cases (fun hb => ?_) fun hb => ?_)
 ·have hlt : i < l.length := by have := of_decide_eq_true hb; omega
  unfold F24.B5
  refine h.rd (by omega) (by omega) (g.rd (by omega) (by omega) (pif_f (by simp) ?_))
  unfold F24.B3
  rw [wrap_id (by omega) (by omega)]
  exact ⟨⟨rfl, rfl, rfl, i + 1, by omega, by omega⟩, by simp; omega⟩
 ·unfold F24.B1
  exact k
theorem big_ok (h : Byts H v l) (k : K (.bool (decide ((l.length : Int) > 4096))) H) : AC Tryz.prog T0 7 [v] H K := by
 apply F7.ac
 unfold F7.B2 F7.B1
 exact h.len k
end Go.Proofs
namespace Go.Proofs
open Go.Abs

variable {H G G' Hb H0 : AHeap} {v u f w : Value} {l m c D : List Int} {es fs : List (Int × Int)} {K : Value → AHeap → Prop} {bs : Nat} {n : Int} {L : List (List Int)}

def cwN (L : List (List Int)) (w : Nat) : Nat := (L.filter fun l => decide (setN l &&& w = w)).length
theorem cwN_snoc (L : List (List Int)) (l : List Int) (w : Nat) : cwN (L ++ [l]) w = cwN L w + if setN l &&& w = w then 1 else 0 := by
 unfold cwN
 rw [List.filter_append, List.length_append]
 congr 1
 by_cases h : setN l &&& w = w <;> simp [h]
theorem cwN_le (L : List (List Int)) (w : Nat) : cwN L w ≤ L.length := List.length_filter_le _ _
theorem cwN_zero (L : List (List Int)) : cwN L 0 = L.length := by
 unfold cwN
 rw [List.filter_eq_self.2 fun l _ => by simp]
theorem and_pow {s e : Nat} : s &&& 2 ^ e = 2 ^ e ↔ s.testBit e = true := by
 constructor
 ·intro h
  have := congrArg (fun x => Nat.testBit x e) h
  simp only [Nat.testBit_and, Nat.testBit_two_pow_self, Bool.and_true] at this
  exact this
 ·intro h
  apply Nat.eq_of_testBit_eq
  intro j
  rw [Nat.testBit_and, Nat.testBit_two_pow]
  by_cases e' : e = j
  ·subst e'; simp [h]
  ·simp [e']
theorem cwN_pow {e : Nat} (hL : ∀ l ∈ L, ∀ x ∈ l, 0 ≤ x) : cwN L (2 ^ e) = withN L (e : Int) := by
 unfold cwN withN
 congr 1
 refine List.filter_congr fun l hl => ?_
 rw [decide_eq_decide, and_pow, setN_bit (hL l hl), decide_eq_true_iff]
theorem countWith_ok {w : Nat} (hT : Tab H) (h : Edges H v es) (hg : IsG n es) (hw : w < 2 ^ 64) (k : ∀ G, H.le G → K (.int .i64 (cwN (mats n es) w : Nat)) G) :
    AC Tryz.prog T0 75 [.agg ⟨[.int .i64 n, v]⟩, .int .u64 (w : Nat)] H K := by
  have hrow := mats_row hg
  have h30 : es.length ≤ 30 := by have := hg.ed.len; have := hg.ed.hi; omega
  have hsn : ∀ l ∈ mats n es, setN l < 2 ^ 64 := fun l hl => setN_lt fun x hx => by have := (hrow l hl).1.range x hx; omega
  have hml := mats_length hg
  apply F75.ac
  unfold F75.B4
  refine newK_f (all_iv (edges_one' h)) fun H1 l1 _ o1 => newK_f rfl fun H2 l2 n2 o2 => ?_
  unfold F75.B3
  refine newK_f rfl fun H3 l3 n3 o3 => ?_
  have l13 := AHeap.le_trans l2 l3
  have l03 := AHeap.le_trans l1 l13
  have hlt1 := lt_of_get o1
  have hlt2 := lt_of_get o2
  have hlt3 := lt_of_get o3
  obtain ⟨a, ha⟩ : ∃ a, a = H1.length := ⟨_, rfl⟩
  obtain ⟨b, hb⟩ : ∃ b, b = H2.length := ⟨_, rfl⟩
  have o2' := o2.le l3
  rw [← ha] at o2' ⊢; rw [← hb] at o3 ⊢
  have hl1 := l1.1
  unfold F75.B2
  refine ldI_own (o1.le l13) rfl (ld1_own (o1.le l13) rfl (matchings_ok hg (H0 := H) (Pv0 := fun x => x = b) (q := fun _ => false)
    (J := fun done Pv G => (∀ x, Pv x ↔ x = b) ∧ b < G.length ∧ Own G b 2 [.int .i64 (cwN done w : Nat)] ∧ Own G a 83 [.int .u64 (w : Nat)])
    h l03 (fun x hx => by omega) hT rfl ⟨fun x => Iff.rfl, by omega, o3, o2'⟩ ?_ ?_ ?_ ?_))
  · rintro done Pv G G2 ⟨h1, h2, h3, h4⟩ hle
    exact ⟨h1, by have := hle.1; omega, h3.le hle, h4.le hle⟩
  · rintro done Pv G x ⟨h1, h2, h3, h4⟩ hx
    have := (h1 x).1 hx; omega
  · rintro done Pv l G ⟨h1, h2, h3, h4⟩ hF hlm hd K hK
    have hsl := hsn l hlm
    have hle := cwN_le done w
    refine callV_mk ?_
    apply F140.ac
    unfold F140.B4 F140.B3
    refine asP_mk (ldI_own h4 rfl (asP_mk (ldI_own h4 rfl ?_)))
    rw [bits_and hsl hw]
    refine pif_cases (fun hc => ?_) fun hc => ?_
    · have hc : setN l &&& w = w := by have := beq_iff_eq.1 hc; omega
      unfold F140.B2
      refine asP_mk (ldI_own h3 rfl (asP_mk (stK_1 h3 (by simp) rfl fun G2 b2 o2 => ?_)))
      rw [wrap_id (by omega) (by omega)] at o2
      unfold F140.B1
      refine hK G2 Pv ⟨h1, by rw [b2.len]; exact h2, ?_, b2.own h4 (by omega)⟩ ⟨by rw [b2.len]; exact Nat.le_refl _, fun x hx => .inl hx, fun x o hx ho => ?_⟩
      · rw [cwN_snoc, if_pos hc]
        simpa using o2
      · rw [b2.same x (fun e => hx ((h1 x).2 e))]; exact ho
    · have hc : ¬ setN l &&& w = w := fun e => by have := beq_eq_false_iff_ne.1 hc; exact this (by rw [e])
      unfold F140.B1
      refine hK G Pv ⟨h1, h2, ?_, h4⟩ ⟨Nat.le_refl _, fun x hx => .inl hx, fun x o hx ho => ho⟩
      rw [cwN_snoc, if_neg hc]; exact h3
  · rintro G Pv ⟨h1, h2, h3, h4⟩ hF
    rw [upToD_all anyD_none] at h3
    refine asB_mk ?_
    unfold F75.B1
    exact ldI_own h3 rfl (k G (hF.base l03 (fun x hx => by omega)).1)
noncomputable def cmVal (n : Int) (es : List (Int × Int)) : Int := if IsG n es then ((mats n es).length : Nat) else 0
theorem implCountM_ok (hT : Tab H) (h : Edges H v es) (hl : es.length ≤ 1048576) (k : ∀ G, H.le G → K (.tuple ⟨[.int .i64 (cmVal n es), .int .i64 (grCode n es)]⟩) G) :
    AC Tryz.prog T0 18 [.agg ⟨[.int .i64 n, v]⟩] H K := by
  apply F18.ac
  unfold F18.B5
  refine newK_f (all_iv (edges_one' h)) fun H1 l1 n1' o1 => ?_
  unfold F18.B4
  refine ldI_own o1 rfl (ld1_own o1 rfl (graphCode_ok (b := true) (h.le l1) hl fun H2 l2 => asI_mk ?_))
  have l12 := AHeap.le_trans l1 l2
  have o2 := o1.le l2
  have e : (if IsG n es then (if true = true then 0 else 2) else 1 : Int) = grCode n es := by unfold grCode; simp
  rw [e]
  unfold F18.B3
  by_cases hg : IsG n es
  · have e0 : grCode n es = 0 := by unfold grCode; rw [if_pos hg]
    have e1 : cmVal n es = ((mats n es).length : Nat) := by unfold cmVal; rw [if_pos hg]
    rw [e0, e1] at k
    rw [e0]
    refine pif_f rfl ?_
    unfold F18.B1
    refine ldI_own o2 rfl (ld1_own o2 rfl (countWith_ok (w := 0) (hT.le l12) (h.le l12) hg (by decide) fun G lG => asI_mk ?_))
    rw [cwN_zero]
    exact k G (AHeap.le_trans l12 lG)
  · have e0 : grCode n es = 1 := by unfold grCode; rw [if_neg hg]
    have e1 : cmVal n es = 0 := by unfold cmVal; rw [if_neg hg]
    rw [e0, e1] at k
    rw [e0]
    refine pif_t rfl ?_
    unfold F18.B2
    exact k H2 l12
theorem specCountM_ok (h : Edges H v es) (hl : es.length ≤ 1048576) (k : ∀ G, H.le G → K (.tuple ⟨[.int .i64 (cmVal n es), .int .i64 (grCode n es)]⟩) G) :
    AC Tryz.prog T0 39 [.agg ⟨[.int .i64 n, v]⟩] H K := by
  apply F39.ac
  unfold F39.B4
  refine newK_f (all_iv (edges_one' h)) fun H1 l1 n1' o1 => ?_
  unfold F39.B3
  refine ldI_own o1 rfl (ld1_own o1 rfl (l01Is_ok (h.le l1) hl fun H2 l2 => asB_mk (pif_cases (fun hs => ?_) fun hs => ?_)))
  · have hg : ¬ IsG n es := by simpa using hs
    have e0 : grCode n es = 1 := by unfold grCode; rw [if_neg hg]
    have e1 : cmVal n es = 0 := by unfold cmVal; rw [if_neg hg]
    rw [e0, e1] at k
    unfold F39.B2
    exact k H2 (AHeap.le_trans l1 l2)
  · have hg : IsG n es := by simpa using hs
    have e0 : grCode n es = 0 := by unfold grCode; rw [if_pos hg]
    have e1 : cmVal n es = ((mats n es).length : Nat) := by unfold cmVal; rw [if_pos hg]
    rw [e0, e1] at k
    have l12 := AHeap.le_trans l1 l2
    have o2 := o1.le l2
    unfold F39.B1
    refine ldI_own o2 rfl (ld1_own o2 rfl (l04All_ok hg (h.le l12) fun x6 G7 l7 hR => hR.len ?_))
    exact k G7 (AHeap.le_trans l12 l7)
noncomputable def mwCode (n : Int) (es : List (Int × Int)) (e : Int) : Int := if IsG n es then (if 0 ≤ e ∧ e ≤ (es.length : Int) - 1 then 0 else 2) else 1
noncomputable def mwVal (n : Int) (es : List (Int × Int)) (e : Int) : Int := if mwCode n es e = 0 then (withN (mats n es) e : Nat) else 0
theorem mw_zero {e : Int} (h : mwCode n es e = 0) : IsG n es ∧ 0 ≤ e ∧ e ≤ (es.length : Int) - 1 := by
 unfold mwCode at h
 by_cases hg : IsG n es
 ·rw [if_pos hg] at h
  by_cases he : 0 ≤ e ∧ e ≤ (es.length : Int) - 1
  ·exact ⟨hg, he⟩
  ·rw [if_neg he] at h; cases h
 ·rw [if_neg hg] at h; cases h
theorem implWith_ok {e : Int} (hT : Tab H) (h : Edges H v es) (hl : es.length ≤ 1048576) (k : ∀ G, H.le G → K (.tuple ⟨[.int .i64 (mwVal n es e), .int .i64 (mwCode n es e)]⟩) G) :
    AC Tryz.prog T0 41 [.agg ⟨[.int .i64 n, v]⟩, .int .i64 e] H K := by
  apply F41.ac
  unfold F41.B5
  refine newK_f (all_iv (edges_one' h)) fun H1 l1 n1' o1 => ?_
  unfold F41.B4
  refine ldI_own o1 rfl (ld1_own o1 rfl (ldI_own o1 rfl (ld1_own o1 rfl (isEdge_ok (h.le l1) hl fun H2 l2 => asB_mk ⟨l2, graphCode_ok ((h.le l1).le l2) hl fun H3 l3 => asI_mk ?_⟩))))
  have l13 := AHeap.le_trans l1 (AHeap.le_trans l2 l3)
  have o3 := (o1.le l2).le l3
  have ec : (if IsG n es then (if (decide (0 ≤ e ∧ e ≤ (es.length : Int) - 1)) = true then 0 else 2) else 1 : Int) = mwCode n es e := by
    unfold mwCode
    by_cases he : 0 ≤ e ∧ e ≤ (es.length : Int) - 1 <;> simp [he]
  rw [ec]
  unfold F41.B3
  refine pif_cases (fun hc => ?_) fun hc => ?_
  · have hne : mwCode n es e ≠ 0 := by simpa using hc
    have e1 : mwVal n es e = 0 := by unfold mwVal; rw [if_neg hne]
    rw [e1] at k
    unfold F41.B2
    exact k H3 l13
  · have h0 : mwCode n es e = 0 := by simpa using hc
    obtain ⟨hg, e0, e1⟩ := mw_zero h0
    have h30 : es.length ≤ 30 := by have := hg.ed.len; have := hg.ed.hi; omega
    have ev : mwVal n es e = (withN (mats n es) e : Nat) := by unfold mwVal; rw [if_pos h0]
    rw [h0, ev] at k
    have px : 2 ^ e.toNat < 2 ^ 64 := Nat.pow_lt_pow_right (by decide) (by omega)
    unfold F41.B1
    refine ldI_own o3 rfl (ld1_own o3 rfl ⟨e0, ?_⟩)
    rw [one_shl e0 (by omega)]
    refine countWith_ok (hT.le l13) (h.le l13) hg px fun G lG => asI_mk ?_
    rw [cwN_pow fun l hl x hx => ((mats_row hg l hl).1.range x hx).1, Int.toNat_of_nonneg e0]
    exact k G (AHeap.le_trans l13 lG)
theorem specWith_ok {e : Int} (h : Edges H v es) (hl : es.length ≤ 1048576) (k : ∀ G, H.le G → K (.tuple ⟨[.int .i64 (mwVal n es e), .int .i64 (mwCode n es e)]⟩) G) :
    AC Tryz.prog T0 42 [.agg ⟨[.int .i64 n, v]⟩, .int .i64 e] H K := by
  apply F42.ac
  unfold F42.B6
  refine newK_f (all_iv (edges_one' h)) fun H1 l1 n1' o1 => ?_
  unfold F42.B5
  refine ldI_own o1 rfl (ld1_own o1 rfl (l01Is_ok (h.le l1) hl fun H2 l2 => asB_mk ?_))
  have l12 := AHeap.le_trans l1 l2
  have o2 := o1.le l2
  refine pif_cases (fun hs => ?_) fun hs => ?_
  · have hg : ¬ IsG n es := by simpa using hs
    have e0 : mwCode n es e = 1 := by unfold mwCode; rw [if_neg hg]
    have e1 : mwVal n es e = 0 := by unfold mwVal; rw [e0]; rfl
    rw [e0, e1] at k
    unfold F42.B2
    exact k H2 l12
  have hg : IsG n es := by simpa using hs
  unfold F42.B4
  refine ld1_own o2 rfl ((h.le l12).len (l01In_ok (asB_mk ?_)))
  rw [wrap_id (by omega) (by omega)]
  refine pif_cases (fun hc => ?_) fun hc => ?_
  · have he : ¬ (0 ≤ e ∧ e ≤ (es.length : Int) - 1) := fun h => by rw [decide_eq_true h] at hc; cases hc
    have e0 : mwCode n es e = 2 := by unfold mwCode; rw [if_pos hg, if_neg he]
    have e1 : mwVal n es e = 0 := by unfold mwVal; rw [e0]; rfl
    rw [e0, e1] at k
    unfold F42.B3
    exact k H2 l12
  · have he : 0 ≤ e ∧ e ≤ (es.length : Int) - 1 := by simpa using hc
    have e0 : mwCode n es e = 0 := by unfold mwCode; rw [if_pos hg, if_pos he]
    have ev : mwVal n es e = (withN (mats n es) e : Nat) := by unfold mwVal; rw [if_pos e0]
    rw [e0, ev] at k
    unfold F42.B1
    refine ldI_own o2 rfl (ld1_own o2 rfl (l04All_ok hg (h.le l12) fun x6 G7 l7 hR => l04With_ok hR (by have := mats_length hg; omega) (fun l hl => by have := (mats_row hg l hl).2; omega) (asI_mk ?_)))
    exact k G7 (AHeap.le_trans l12 l7)
theorem implIsM_ok (h : Edges H v es) (hl : es.length ≤ 1048576) (hc : Ints H u l) (hcl : l.length ≤ 1048576) (k : ∀ G, H.le G → K (.tuple ⟨[.bool (decide (IsG n es ∧ IsM n es l)), .int .i64 (grCode n es)]⟩) G) :
    AC Tryz.prog T0 47 [.agg ⟨[.int .i64 n, v]⟩, u] H K := by
  apply F47.ac
  unfold F47.B5
  refine newK_f (all_iv (edges_one' h)) fun H1 l1 n1' o1 => ?_
  unfold F47.B4
  refine ldI_own o1 rfl (ld1_own o1 rfl (graphCode_ok (b := true) (h.le l1) hl fun H2 l2 => asI_mk ?_))
  have l12 := AHeap.le_trans l1 l2
  have o2 := o1.le l2
  have e : (if IsG n es then (if true = true then 0 else 2) else 1 : Int) = grCode n es := by unfold grCode; simp
  rw [e]
  unfold F47.B3
  by_cases hg : IsG n es
  · have e0 : grCode n es = 0 := by unfold grCode; rw [if_pos hg]
    rw [e0] at k
    rw [e0]
    refine pif_f rfl ?_
    unfold F47.B1
    refine ldI_own o2 rfl (ld1_own o2 rfl (isMatching_ok (h.le l12) hl hg (hc.le l12) hcl fun G lG => asB_mk ?_))
    have k := k G (AHeap.le_trans l12 lG)
    rwa [show decide (IsG n es ∧ IsM n es l) = decide (IsM n es l) by rw [decide_eq_decide]; exact ⟨fun h => h.2, fun h => ⟨hg, h⟩⟩] at k
  · have e0 : grCode n es = 1 := by unfold grCode; rw [if_neg hg]
    rw [e0, decide_eq_false fun h => hg h.1] at k
    rw [e0]
    refine pif_t rfl ?_
    unfold F47.B2
    exact k H2 l12
theorem specIsM_ok (h : Edges H v es) (hl : es.length ≤ 1048576) (hc : Ints H u l) (hcl : l.length ≤ 1048576) (k : ∀ G, H.le G → K (.tuple ⟨[.bool (decide (IsG n es ∧ IsM n es l)), .int .i64 (grCode n es)]⟩) G) :
    AC Tryz.prog T0 48 [.agg ⟨[.int .i64 n, v]⟩, u] H K := by
  apply F48.ac
  unfold F48.B4
  refine newK_f (all_iv (edges_one' h)) fun H1 l1 n1' o1 => ?_
  unfold F48.B3
  refine ldI_own o1 rfl (ld1_own o1 rfl (l01Is_ok (h.le l1) hl fun H2 l2 => asB_mk ?_))
  have l12 := AHeap.le_trans l1 l2
  have o2 := o1.le l2
  refine pif_cases (fun hs => ?_) fun hs => ?_
  · have hg : ¬ IsG n es := by simpa using hs
    have e0 : grCode n es = 1 := by unfold grCode; rw [if_neg hg]
    rw [e0, decide_eq_false fun h => hg h.1] at k
    unfold F48.B2
    exact k H2 l12
  · have hg : IsG n es := by simpa using hs
    have e0 : grCode n es = 0 := by unfold grCode; rw [if_pos hg]
    rw [e0] at k
    unfold F48.B1
    refine ldI_own o2 rfl (ld1_own o2 rfl (l04Is_ok (h.le l12) hl hg (hc.le l12) hcl fun G lG => asB_mk ?_))
    have k := k G (AHeap.le_trans l12 lG)
    rwa [show decide (IsG n es ∧ IsM n es l) = decide (IsM n es l) by rw [decide_eq_decide]; exact ⟨fun h => h.2, fun h => ⟨hg, h⟩⟩] at k
theorem isVertex_ok {x : Int} (h : Edges H v es) (hg : IsG n es) (k : ∀ G, H.le G → K (.bool (decide (0 ≤ x ∧ x ≤ n - 1))) G) : AC Tryz.prog T0 111 [.agg ⟨[.int .i64 n, v]⟩, .int .i64 x] H K := by
 have n0 := hg.ed.lo; have n1 := hg.ed.hi
 apply F111.ac
 unfold F111.B2
 refine newK_f (all_iv (edges_one' h)) fun H1 l1 n1' o1 => ?_
 unfold F111.B1
 refine ldI_own o1 rfl ?_
 rw [wrap_id (by omega) (by omega)]
 exact within_ok (asB_mk (k _ l1))
theorem implAt_ok {x : Int} (h : Edges H v es) (hl : es.length ≤ 1048576) (hg : IsG n es) (h0 : 0 ≤ x) (h1 : x < n) (k : ∀ v' G, H.le G → Sl H.length G v' 2 1 (LI (atL es x)) → K (.tuple ⟨[v', .int .i64 0]⟩) G) :
    AC Tryz.prog T0 53 [.agg ⟨[.int .i64 n, v]⟩, .int .i64 x] H K := by
  apply F53.ac
  unfold F53.B5
  refine newK_f (all_iv (edges_one' h)) fun H1 l1 n1' o1 => ?_
  unfold F53.B4
  refine ldI_own o1 rfl (ld1_own o1 rfl (ldI_own o1 rfl (ld1_own o1 rfl (isVertex_ok (h.le l1) hg fun H2 l2 => asB_mk ⟨l2, graphCode_ok ((h.le l1).le l2) hl fun H3 l3 => asI_mk ?_⟩))))
  have l13 := AHeap.le_trans l1 (AHeap.le_trans l2 l3)
  have o3 := (o1.le l2).le l3
  rw [if_pos hg, decide_eq_true (show 0 ≤ x ∧ x ≤ n - 1 by omega), if_pos rfl]
  unfold F53.B3
  refine pif_f rfl ?_
  unfold F53.B1
  exact ldI_own o3 rfl (ld1_own o3 rfl (at_ok (h.le l13) hl fun w G lG hW => k w G (AHeap.le_trans l13 lG) (hW.less l13.1)))
theorem isum_app : ∀ l m : List Int, (l ++ m).sum = l.sum + m.sum
 | [], m => by simp
 | a :: l, m => by rw [List.cons_append, List.sum_cons, List.sum_cons, isum_app l m, Int.add_assoc]
theorem isum_take {i : Nat} (h : i < l.length) : (l.take (i + 1)).sum = (l.take i).sum + l.getD i 0 := by
 rw [List.take_succ_eq_append_getElem h, isum_app, getD_of h]; simp
theorem isum_rng : ∀ l : List Int, (∀ x ∈ l, 0 ≤ x ∧ x ≤ 1000000) → 0 ≤ l.sum ∧ l.sum ≤ 1000000 * l.length
 | [], _ => by simp
 | a :: l, h => by
  have h1 := h a (by simp)
  have h2 := isum_rng l fun x hx => h x (by simp [hx])
  rw [List.sum_cons, List.length_cons]
  omega
theorem sum_ok (h : Ints H v l) (hl : l.length ≤ 1000000) (hb : ∀ x ∈ l, 0 ≤ x ∧ x ≤ 1000000) (k : K (.int .i64 l.sum) H) : AC Tryz.prog T0 52 [v] H K := by
 apply F52.ac
 unfold F52.B8 F52.B7 F52.B6 F52.L2
 refine ⟨fun x0 x3 x4 G => v = x0 ∧ H = G ∧ ∃ i : Nat, x4 = i ∧ i ≤ l.length ∧ x3 = (l.take i).sum, fun _ _ x4 _ => l.length - x4.toNat, ⟨rfl, rfl, 0, rfl, by omega, by simp⟩, ?_⟩
 rintro x0 x3 x4 G ⟨rfl, rfl, i, rfl, hi, rfl⟩
 unfold F52.B5
 refine h.len (pif_cases (fun hc => ?_) fun hc => ?_)
 ·have hlt : i < l.length := by have := of_decide_eq_true hc; omega
  have ht := isum_take hlt
  have h1 := isum_rng (l.take i) fun x hx => hb x (List.mem_of_mem_take hx)
  have h2 := isum_rng (l.take (i + 1)) fun x hx => hb x (List.mem_of_mem_take hx)
  rw [List.length_take] at h1 h2
  unfold F52.B4
  refine h.rd (by omega) (by omega) ?_
  rw [Int.toNat_natCast]
  unfold F52.B3
  rw [wrap_id (by omega) (by omega), ← ht, wrap_id (by omega) (by omega)]
  exact ⟨⟨rfl, rfl, i + 1, by omega, by omega, rfl⟩, by simp; omega⟩
 ·have hie : i = l.length := by have := of_decide_eq_false hc; omega
  subst hie
  unfold F52.B1
  rw [List.take_length]; exact k
theorem rows9_ok {A A' : Nat → Prop} {B B' : Nat} {ls : List (List Int)} (h : RowsF A B H v ls) (g : RowsF A' B' H u ls) (hl : ls.length ≤ 1000000000) (hr : ∀ l ∈ ls, l.length ≤ 1000000000) (k : K (.bool true) H) : AC Tryz.prog T0 37 [v, u] H K := by
 apply F37.ac
 unfold F37.B10 F37.B9
 refine h.len (g.len (pif_f (by simp) ?_))
 unfold F37.B7 F37.L2
 refine ⟨fun x0 x1 x5 G => v = x0 ∧ u = x1 ∧ H = G ∧ ∃ i : Nat, x5 = i ∧ i ≤ ls.length, fun _ _ x5 _ => ls.length - x5.toNat, ⟨rfl, rfl, rfl, 0, rfl, by omega⟩, ?_⟩
 rintro x0 x1 x5 G ⟨rfl, rfl, rfl, i, rfl, hi⟩
 unfold F37.B6
 refine h.len (pif_cases (fun hb => ?_) fun hb => ?_)
 ·have hlt : i < ls.length := by have := of_decide_eq_true hb; omega
  have hm : (ls.getD i []).length ≤ 1000000000 := by rw [getD_of hlt]; exact hr _ (List.getElem_mem hlt)
  unfold F37.B5
  refine h.row hlt fun w fw => g.row hlt fun y fy => likeInts_ok fw.ints fy.ints hm (asB_mk (pif_f (by simp) ?_))
  unfold F37.B3
  rw [wrap_id (by omega) (by omega)]
  exact ⟨⟨rfl, rfl, rfl, i + 1, by omega, by omega⟩, by simp; omega⟩
 ·unfold F37.B1
  exact k
-- draws
theorem drawMats_ok (hB : Byts H u l) (hl : l.length ≤ 4096) (k : DrwK H K) : AC Tryz.prog T0 34 [u] H K := by
 apply F34.ac
 unfold F34.B2
 refine newK_f rfl fun H1 l1 n1 o1 => ?_
 unfold F34.B1
 refine l01From_ok (hB.le l1) hl fun G1 g1 s1 => l01Spoil_ok s1 fun v2 n2 es2 G2 k2 s2 h2 c2 _ _ => agg2_mk (asI_mk ?_)
 have hs1 := s1.lt
 have hlt := o1.lt
 exact put_graph (k2.own (o1.le g1) (by omega)) (AHeap.le_trans l1 s2.1) (Nat.le_refl _) h2 (by omega) fun G' _ lG eG => k v2 n2 es2 G' lG (eG.less (by omega)) c2
theorem drawCountM_ok (hB : Byts H u l) (hl : l.length ≤ 4096) (k : DrwK H K) : AC Tryz.prog T0 38 [u] H K := by
 apply F38.ac
 unfold F38.B2
 refine newK_f rfl fun H1 l1 n1 o1 => ?_
 unfold F38.B1
 refine l01From_ok (hB.le l1) hl fun G1 g1 s1 => l01Spoil_ok s1 fun v2 n2 es2 G2 k2 s2 h2 c2 _ _ => agg2_mk (asI_mk ?_)
 have hs1 := s1.lt
 have hlt := o1.lt
 exact put_graph (k2.own (o1.le g1) (by omega)) (AHeap.le_trans l1 s2.1) (Nat.le_refl _) h2 (by omega) fun G' _ lG eG => k v2 n2 es2 G' lG (eG.less (by omega)) c2
theorem drawFree_ok (hB : Byts H u l) (hl : l.length ≤ 4096) (k : DrwK H K) : AC Tryz.prog T0 49 [u] H K := by
 apply F49.ac
 unfold F49.B2
 refine newK_f rfl fun H1 l1 n1 o1 => ?_
 unfold F49.B1
 refine l01From_ok (hB.le l1) hl fun G1 g1 s1 => l01Spoil_ok s1 fun v2 n2 es2 G2 k2 s2 h2 c2 _ _ => agg2_mk (asI_mk ?_)
 have hs1 := s1.lt
 have hlt := o1.lt
 exact put_graph (k2.own (o1.le g1) (by omega)) (AHeap.le_trans l1 s2.1) (Nat.le_refl _) h2 (by omega) fun G' _ lG eG => k v2 n2 es2 G' lG (eG.less (by omega)) c2
theorem drawWith_ok (hB : Byts H u l) (hl : l.length ≤ 4096) (k : ∀ v n es x G, H.le G → Sl H.length G v 28 2 (LE es) → es.length ≤ 2000 → K (.tuple ⟨[.agg ⟨[.int .i64 n, v]⟩, .int .i64 x]⟩) G) : AC Tryz.prog T0 40 [u] H K := by
 apply F40.ac
 unfold F40.B4
 refine newK_f rfl fun H1 l1 n1 o1 => ?_
 unfold F40.B3
 refine l01From_ok (hB.le l1) hl fun G1 g1 s1 => ?_
 have hs1 := s1.lt
 have hlt := o1.lt
 unfold F40.B2
 refine l01Spoil_ok s1 fun v2 n2 es2 G2 k2 s2 h2 c2 a0 a1 => agg2_mk (asI_mk (newK_f rfl fun G4 l4 n4 o4 => stK_f (new := [.int .i64 n2, v2]) o4 (by simp) (mem_iv (sl_one h2)) rfl fun G5 b5 o5 => ?_))
 have l5 : G2.le G5 := b5.le l4 (Nat.le_refl _)
 have ob2 := k2.own (o1.le g1) (by omega)
 have hs2 := s2.lt
 have hl5 := l5.1
 have h5 : Sl (H1.length + 1) G5 v2 28 2 (LE es2) := (h2.le l5).less (by omega)
 unfold F40.B1
 refine ldI_own o5 rfl (ld1_own o5 rfl (ld1_own o5 rfl ((sl_edges h5).len (l01Next_ok (s2.le l5) fun r G6 k6 s6 r0 r1 _ => asI_mk ?_))))
 have o6 := k6.own o5 (by omega)
 refine ⟨ldI_own o6 rfl (ld1_own o6 rfl ⟨rfl, rfl⟩), ld1_own o6 rfl ⟨rfl, rfl⟩, l01Next_ok s6 fun q G7 k7 s7 q0 q1 _ => asI_mk ?_⟩
 have o7 := k7.own o6 (by omega)
 have kk := k6.trans k7
 refine ⟨ldI_own o7 rfl (ld1_own o7 rfl ⟨rfl, rfl⟩), ?_⟩
 exact put_graph (K := fun v G => K (.tuple ⟨[v, .int .i64 q]⟩) G) (kk.own (ob2.le l5) (by omega)) (AHeap.le_trans l1 s7.1) (Nat.le_refl _) (sl_kb h5 kk) (by omega) fun G' _ lG eG => k v2 n2 es2 q G' lG (eG.less (by omega)) c2
theorem drawCycles_ok (hB : Byts H u l) (hl : l.length ≤ 4096) (k : DrwL H K) : AC Tryz.prog T0 43 [u] H K := by
 apply F43.ac
 unfold F43.B2
 refine newK_f rfl fun H1 l1 n1 o1 => ?_
 unfold F43.B1
 refine l04Draw_ok (hB.le l1) hl fun v2 n2 es2 w2 l2 G2 g2 h2 f2 c1 c2 c3 c4 => tup2_mk (agg2_mk (asI_mk ?_))
 rw [n1] at h2 f2
 exact with_tail k (AHeap.le_trans l1 g2) (Nat.le_refl _) (o1.le g2) h2 f2 c1 c2 c3 c4
theorem drawIsM_ok (hB : Byts H u l) (hl : l.length ≤ 4096) (k : DrwL H K) : AC Tryz.prog T0 46 [u] H K := by
 apply F46.ac
 unfold F46.B2
 refine newK_f rfl fun H1 l1 n1 o1 => ?_
 unfold F46.B1
 refine l04Draw_ok (hB.le l1) hl fun v2 n2 es2 w2 l2 G2 g2 h2 f2 c1 c2 c3 c4 => tup2_mk (agg2_mk (asI_mk ?_))
 rw [n1] at h2 f2
 exact with_tail k (AHeap.le_trans l1 g2) (Nat.le_refl _) (o1.le g2) h2 f2 c1 c2 c3 c4
end Go.Proofs
namespace Go.Proofs
open Go.Abs

variable {H G : AHeap} {v u x4 x21 : Value} {l m c D : List Int} {es fs : List (Int × Int)} {n : Int} {K : Value → AHeap → Prop}

abbrev QC33 : Value → AHeap → Prop := fun v _ => v = .bool true
structure MtS (es : List (Int × Int)) (n : Int) (v x4 : Value) (x3 : Nat) (G : AHeap) : Prop where
 o : Own G x3 31 [.int .i64 n, v]
 E : Edges G v es
 l1 : es.length ≤ 2000
 R : RowsF (fun _ => True) G.length G x4 (maList n es)
 T : Tab G
theorem rowsF_any {A : Nat → Prop} {B : Nat} {ls : List (List Int)} (h : RowsF A B H v ls) (hB : B ≤ G.length) (hl : H.le G) : RowsF (fun _ => True) G.length G v ls := by
 have h := h.le hl
 obtain ⟨vs, h1, h2, h3, h4⟩ := h
 refine ⟨vs, h1, h2, fun b hb => ⟨trivial, by have := (h3 b hb).2; omega⟩, fun i hi => ?_⟩
 obtain ⟨w, g1, g2, g3⟩ := h4 i hi
 exact ⟨w, g1, g2, fun b hb => ⟨trivial, by have := (g3 b hb).2.1; omega, (g3 b hb).2.2⟩⟩
theorem MtS.le {x3 : Nat} (h : MtS es n v x4 x3 H) (hl : H.le G) : MtS es n v x4 x3 G := ⟨h.o.le hl, h.E.le hl, h.l1, rowsF_any h.R hl.1 hl, h.T.le hl⟩
theorem grCode_zero (hg : IsG n es) : grCode n es = 0 := by unfold grCode; rw [if_pos hg]
theorem cmVal_eq (hg : IsG n es) : cmVal n es = ((mats n es).length : Nat) := by unfold cmVal; rw [if_pos hg]
theorem mat_13 {x3 : Nat} (h : MtS es n v x4 x3 G) : F5.B13 QC33 x3 x4 (maCode n es) G := by
 have hl1 := h.l1
 unfold F5.B13
 refine pif_cases (fun hb => ?_) fun hb => ?_
 ·have hne : maCode n es ≠ 0 := by simpa using hb
  have e1 : maList n es = [] := by unfold maList; rw [if_neg hne]
  unfold F5.B12
  refine h.R.len ?_
  rw [e1]; rfl
 have h0 : maCode n es = 0 := by simpa using hb
 obtain ⟨hg, hlen⟩ := maCode_zero h0
 have e1 : maList n es = mats n es := by unfold maList; rw [if_pos h0]
 unfold F5.B11
 refine ldI_own h.o rfl (ld1_own h.o rfl (implCountM_ok h.T h.E (by omega) fun G1 l1 => tup2_mk (asI_mk (asI_mk ?_))))
 have g := h.le l1
 rw [grCode_zero hg, cmVal_eq hg]
 have hR := g.R
 rw [e1] at hR
 unfold F5.B10
 refine pif_f rfl (hR.len (pif_f (by simp) ?_))
 unfold F5.B8 F5.L2
 refine ⟨fun a3 a4 a46 G' => x3 = a3 ∧ x4 = a4 ∧ MtS es n v x4 x3 G' ∧ ∃ i : Nat, a46 = i ∧ i ≤ 3, fun _ _ a46 _ => 3 - a46.toNat, ⟨rfl, rfl, g, 0, rfl, by omega⟩, ?_⟩
 rintro a3 a4 a46 G' ⟨rfl, rfl, g, i, rfl, hi⟩
 have hR := g.R
 rw [e1] at hR
 unfold F5.B7
 refine hR.len (pif_cases (fun hb => ?_) fun hb => ?_)
 ·refine pif_cases (fun hb3 => ?_) fun hb3 => ?_
  ·have hlt : i < (mats n es).length := by have := of_decide_eq_true hb; omega
   have hlt3 : i < 3 := by have := of_decide_eq_true hb3; omega
   have hmem : (mats n es).getD i [] ∈ mats n es := by rw [getD_of hlt]; exact List.getElem_mem hlt
   obtain ⟨m1, m2, m3⟩ := mats_row2 hg _ hmem
   unfold F5.B6
   refine ldI_own g.o rfl (ld1_own g.o rfl (hR.row hlt fun w fw => implIsM_ok g.E (by omega) fw.ints (by omega) fun G2 l2 => tup2_mk (asB_mk (asI_mk ?_))))
   rw [grCode_zero hg, decide_eq_true (And.intro hg (one_isM hg m1 m3))]
   unfold F5.B5
   refine pif_f rfl (pif_f rfl ?_)
   unfold F5.B3
   rw [wrap_id (by omega) (by omega)]
   exact ⟨⟨rfl, rfl, g.le l2, i + 1, by omega, by omega⟩, by simp; omega⟩
  ·unfold F5.B1; rfl
 ·unfold F5.B1; rfl
theorem mat_27 {x3 x13 : Nat} {v2 : Value} {n2 e : Int} {es2 : List (Int × Int)} (h : MtS es n v x4 x3 G) (o13 : Own G x13 31 [.int .i64 n2, v2]) (hE2 : Edges G v2 es2) (hl2 : es2.length ≤ 2000) :
    F5.B27 QC33 x3 x4 (maCode n es) x13 e (mwVal n2 es2 e) (mwCode n2 es2 e) G := by
  unfold F5.B27
  refine pif_cases (fun hb => ?_) fun hb => mat_13 h
  have h0 : mwCode n2 es2 e = 0 := beq_iff_eq.1 hb
  obtain ⟨hg, e0, e1⟩ := mw_zero h0
  have ev : mwVal n2 es2 e = (withN (mats n2 es2) e : Nat) := by unfold mwVal; rw [if_pos h0]
  have hml := mats_length hg
  obtain ⟨a, b, ea, eb, ec⟩ := edge_ends hg (i := e.toNat) (by omega)
  obtain ⟨bb, oo, hk, c1, c2⟩ := hE2.idx e0 (by omega)
  unfold F5.B26
  refine ldI_own o13 rfl (ld1_own o13 rfl (ld1_own o13 rfl (hk _ (ldI_mk c1 ?_))))
  rw [ea]
  obtain ⟨p, q, r, at1, p1, q1, r1, hsum⟩ := with_all hg (v := a) (by omega)
  refine implAt_ok hE2 (by omega) hg (by show (0 : Int) ≤ (a : Int); omega) (by show (a : Int) < n2; omega) fun x36 G1 l1 hW => tup2_mk (asI_mk ?_)
  have hW' : Ints G1 x36 [(p : Int), (q : Int), (r : Int)] := by
    have := hW.ints
    rwa [show atL es2 ((a : Int), (b : Int)).1 = [(p : Int), (q : Int), (r : Int)] from at1] at this
  have o13 := o13.le l1; have hE2 := hE2.le l1; have h := h.le l1
  unfold F5.B25
  refine ldI_own o13 rfl (ld1_own o13 rfl (implCountM_ok h.T hE2 (by omega) fun G2 l2 => tup2_mk (asI_mk (asI_mk ?_))))
  rw [grCode_zero hg, cmVal_eq hg, ev]
  unfold F5.B24 F5.B23 F5.L16
  have hp := withN_le (mats n2 es2) (p : Int)
  have hq := withN_le (mats n2 es2) (q : Int)
  have hr := withN_le (mats n2 es2) (r : Int)
  have he := withN_le (mats n2 es2) e
  obtain ⟨S, hS⟩ : ∃ S : Nat → Nat, S = fun i => if i = 0 then 0 else if i = 1 then withN (mats n2 es2) p else if i = 2 then withN (mats n2 es2) p + withN (mats n2 es2) q else withN (mats n2 es2) p + withN (mats n2 es2) q + withN (mats n2 es2) r := ⟨_, rfl⟩
  have S0 : S 0 = 0 := by rw [hS]; rfl
  have Sn : ∀ i, i < 3 → S (i + 1) = S i + withN (mats n2 es2) (([(p : Int), (q : Int), (r : Int)] : List Int).getD i 0) := fun i hi => by
    rcases (show i = 0 ∨ i = 1 ∨ i = 2 by omega) with rfl | rfl | rfl
    · rw [hS]; show withN (mats n2 es2) p = 0 + withN (mats n2 es2) p; omega
    · rw [hS]; rfl
    · rw [hS]; rfl
  have S3 : S 3 = (mats n2 es2).length := by rw [hS]; exact hsum
  have Sle : ∀ i, i ≤ 3 → S i ≤ (mats n2 es2).length := fun i hi => by
    rcases (show i = 0 ∨ i = 1 ∨ i = 2 ∨ i = 3 by omega) with rfl | rfl | rfl | rfl
    · omega
    · have h1 : S 2 = S 1 + _ := Sn 1 (by omega)
      have h2 : S 3 = S 2 + _ := Sn 2 (by omega)
      omega
    · have h2 : S 3 = S 2 + _ := Sn 2 (by omega)
      omega
    · omega
  refine ⟨fun a3 a4 a5 a13 a15 a36 a37 a38 a39 a40 a41 G' => x3 = a3 ∧ x4 = a4 ∧ maCode n es = a5 ∧ x13 = a13 ∧ ((withN (mats n2 es2) e : Nat) : Int) = a15 ∧ x36 = a36 ∧ (0 : Int) = a37 ∧ (((mats n2 es2).length : Nat) : Int) = a38 ∧ (0 : Int) = a39 ∧ G2.le G' ∧ ∃ i : Nat, a41 = i ∧ i ≤ 3 ∧ a40 = (S i : Nat),
    fun _ _ _ _ _ _ _ _ _ _ a41 _ => 3 - a41.toNat, ⟨rfl, rfl, rfl, rfl, rfl, rfl, rfl, rfl, rfl, AHeap.le_refl _, 0, rfl, by omega, by rw [S0]; rfl⟩, ?_⟩
  rintro a3 a4 a5 a13 a15 a36 a37 a38 a39 a40 a41 G' ⟨rfl, rfl, rfl, rfl, rfl, rfl, rfl, rfl, rfl, lG, i, rfl, hi, rfl⟩
  have l1G := AHeap.le_trans l2 lG
  have hW3 := hW'.le l1G
  unfold F5.B22
  refine hW3.len (pif_cases (fun hb => ?_) fun hb => ?_)
  · have hlt : i < 3 := by have := of_decide_eq_true hb; simp at this; omega
    have hrng : 0 ≤ ([(p : Int), (q : Int), (r : Int)] : List Int).getD i 0 ∧ ([(p : Int), (q : Int), (r : Int)] : List Int).getD i 0 ≤ (es2.length : Int) - 1 := by
      rcases (show i = 0 ∨ i = 1 ∨ i = 2 by omega) with rfl | rfl | rfl
      · show 0 ≤ (p : Int) ∧ (p : Int) ≤ _; omega
      · show 0 ≤ (q : Int) ∧ (q : Int) ≤ _; omega
      · show 0 ≤ (r : Int) ∧ (r : Int) ≤ _; omega
    unfold F5.B21
    refine ldI_own (o13.le l1G) rfl (ld1_own (o13.le l1G) rfl (hW3.rd (by omega) (by simp; omega) ?_))
    rw [Int.toNat_natCast]
    refine implWith_ok (h.T.le l1G) (hE2.le l1G) (by omega) fun G3 l3 => tup2_mk (asI_mk (asI_mk ?_))
    have hc0 : mwCode n2 es2 (([(p : Int), (q : Int), (r : Int)] : List Int).getD i 0) = 0 := by unfold mwCode; rw [if_pos hg, if_pos hrng]
    have hv0 : mwVal n2 es2 (([(p : Int), (q : Int), (r : Int)] : List Int).getD i 0) = (withN (mats n2 es2) (([(p : Int), (q : Int), (r : Int)] : List Int).getD i 0) : Nat) := by unfold mwVal; rw [if_pos hc0]
    rw [hc0, hv0]
    have hn := Sn i hlt
    have hle := Sle (i + 1) (by omega)
    unfold F5.B20
    refine pif_f rfl ?_
    unfold F5.B18 F5.B17
    rw [wrap_id (by omega) (by omega), wrap_id (by omega) (by omega)]
    exact ⟨⟨rfl, rfl, rfl, rfl, rfl, rfl, rfl, rfl, rfl, AHeap.le_trans lG l3, i + 1, by omega, by omega, by rw [hn]; omega⟩, by simp; omega⟩
  · have hie : i = 3 := by have := of_decide_eq_false hb; simp at this; omega
    subst hie
    rw [S3]
    unfold F5.B15
    exact pif_f rfl (pif_f rfl (pif_f (by simp) (pif_f (decide_eq_false (by omega)) (mat_13 (h.le l1G)))))
theorem mat_29 {x3 x13 x19 : Nat} {v2 v3 : Value} {n2 n3 e : Int} {es2 es3 : List (Int × Int)} (h : MtS es n v x4 x3 G) (o13 : Own G x13 31 [.int .i64 n2, v2]) (hE2 : Edges G v2 es2) (hl2 : es2.length ≤ 2000)
    (o19 : Own G x19 31 [.int .i64 n3, v3]) (h21 : Ints G x21 (clList n3 es3 l)) :
    F5.B29 QC33 x3 x4 (maCode n es) x13 e (mwVal n2 es2 e) (mwCode n2 es2 e) x19 x21 (clCode n3 es3 l) G := by
  unfold F5.B29
  refine pif_cases (fun hb => ?_) fun hb => mat_27 h o13 hE2 hl2
  have h0 : clCode n3 es3 l = 0 := beq_iff_eq.1 hb
  have hgm : IsG n3 es3 ∧ IsM n3 es3 l := by
    unfold clCode at h0
    by_cases hg : IsG n3 es3
    · rw [if_pos hg] at h0
      by_cases hm : IsM n3 es3 l
      · exact ⟨hg, hm⟩
      · rw [if_neg hm] at h0; cases h0
    · rw [if_neg hg] at h0; cases h0
  obtain ⟨hg, hm⟩ := hgm
  have h30 : es3.length ≤ 30 := by have := hg.ed.len; have := hg.ed.hi; omega
  have e1 : clList n3 es3 l = srtI ((lensTo es3 (leftP l) es3.length).map Int.ofNat) := by unfold clList; rw [if_pos h0]
  have hsum : (clList n3 es3 l).sum = n3 := by rw [e1, srtI_sum, nat_sum, left_sum hg hm]
  have hll : (clList n3 es3 l).length ≤ 1000000 := by
    rw [e1]
    unfold srtI
    rw [List.length_mergeSort, List.length_map]
    have := lensTo_length es3 (leftP l) es3.length
    omega
  have hb : ∀ x ∈ clList n3 es3 l, 0 ≤ x ∧ x ≤ 1000000 := fun x hx => by
    rw [e1] at hx
    unfold srtI at hx
    rw [List.mem_mergeSort] at hx
    obtain ⟨y, hy, rfl⟩ := List.mem_map.1 hx
    obtain ⟨e, _, rfl⟩ := mem_lens.1 hy
    have : (compL es3 (leftP l) e).length ≤ es3.length := filtB_length _ _
    exact ⟨Int.natCast_nonneg _, by show (((compL es3 (leftP l) e).length : Nat) : Int) ≤ 1000000; omega⟩
  refine ldI_own o19 rfl (sum_ok h21 hll hb (asI_mk ⟨AHeap.le_refl _, pif_f ?_ (mat_27 h o13 hE2 hl2)⟩))
  rw [hsum, bne_eq_false_iff_eq]
theorem fnMatchings_law (H : AHeap) (hT : Tab H) (vs : List Value) (hv : AVs T0 H [22] vs) : AC Tryz.prog T0 5 vs H (fun v _ => v = .bool true) := by
 obtain ⟨v0, vs, rfl, a0, rfl⟩ := hv
 obtain ⟨b, hB, hlen⟩ := av_bytes a0
 apply F5.ac
 unfold F5.B62 F5.B61
 refine big_ok hB (asB_mk (pif_cases (fun _ => by unfold F5.B60; rfl) fun hs => ?_))
 have hl : b.length ≤ 4096 := by have := of_decide_eq_false hs; omega
 -- all matchings
 unfold F5.B59
 refine drawMats_ok hB hl fun v n es G lG hS c1 => agg2_mk (asI_mk (newK_f rfl fun H2 l2 n2 o2 => stK_f (new := [.int .i64 n, v]) o2 (by simp) (mem_iv (sl_one hS)) rfl fun H3 b3 o3 => ?_))
 have l3 : G.le H3 := b3.le l2 (Nat.le_refl _)
 have hE := (sl_edges hS).le l3
 have l03 := AHeap.le_trans lG l3
 unfold F5.B58
 refine ldI_own o3 rfl (ld1_own o3 rfl (implMa_ok (hT.le l03) hE (by omega) fun x4 H4 l4 hR4 => tup2_mk (asI_mk ?_)))
 have o4 := o3.le l4; have hE4 := hE.le l4; have l04 := AHeap.le_trans l03 l4
 unfold F5.B57
 refine ldI_own o4 rfl (ld1_own o4 rfl (specMa_ok hE4 (by omega) fun x6 H5 l5 hR5 => tup2_mk (asI_mk ?_)))
 have l05 := AHeap.le_trans l04 l5
 have s5 : MtS es n v x4 G.length H5 := ⟨o4.le l5, hE4.le l5, c1, rowsF_any hR4 l5.1 l5, hT.le l05⟩
 have hsm : (maList n es).length ≤ 1000000000 ∧ ∀ r ∈ maList n es, r.length ≤ 1000000000 := by
  unfold maList
  split
  ·rename_i h0
   obtain ⟨hg, hlen⟩ := maCode_zero h0
   exact ⟨by omega, fun r hr => by have := (mats_row hg r hr).2; omega⟩
  ·exact ⟨by simp, fun r hr => by cases hr⟩
 unfold F5.B56
 refine pif_f (by simp) (rows9_ok s5.R hR5 hsm.1 hsm.2 (asB_mk (pif_f rfl ?_)))
 -- their number
 unfold F5.B54
 refine drawCountM_ok (hB.le l05) hl fun v2 n2 es2 G2 lG2 hS2 c2 => agg2_mk (asI_mk (newK_f rfl fun H6 l6 n6 o6 => stK_f (new := [.int .i64 n2, v2]) o6 (by simp) (mem_iv (sl_one hS2)) rfl fun H7 b7 o7 => ?_))
 have l7 : G2.le H7 := b7.le l6 (Nat.le_refl _)
 have hE7 := (sl_edges hS2).le l7
 have l57 := AHeap.le_trans lG2 l7
 unfold F5.B53
 refine ldI_own o7 rfl (ld1_own o7 rfl (implCountM_ok (s5.T.le l57) hE7 (by omega) fun H8 l8 => tup2_mk (asI_mk (asI_mk ?_))))
 have o8 := o7.le l8
 unfold F5.B52
 refine ldI_own o8 rfl (ld1_own o8 rfl (specCountM_ok (hE7.le l8) (by omega) fun H9 l9 => tup2_mk (asI_mk (asI_mk ?_))))
 have l59 := AHeap.le_trans l57 (AHeap.le_trans l8 l9)
 have s9 := s5.le l59
 have l09 := AHeap.le_trans l05 l59
 unfold F5.B51
 refine pif_f (by simp) (pif_f (by simp) ?_)
 -- those with an edge
 unfold F5.B49
 refine drawWith_ok (hB.le l09) hl fun v3 n3 es3 e G3 lG3 hS3 c3 => tup2_mk (agg2_mk (asI_mk (asI_mk (newK_f rfl fun H10 l10 n10 o10 => stK_f (new := [.int .i64 n3, v3]) o10 (by simp) (mem_iv (sl_one hS3)) rfl fun H11 b11 o11 => ?_))))
 have l11 : G3.le H11 := b11.le l10 (Nat.le_refl _)
 have hE11 := (sl_edges hS3).le l11
 have l911 := AHeap.le_trans lG3 l11
 unfold F5.B48
 refine ldI_own o11 rfl (ld1_own o11 rfl (implWith_ok (s9.T.le l911) hE11 (by omega) fun H12 l12 => tup2_mk (asI_mk (asI_mk ?_))))
 have o12 := o11.le l12
 unfold F5.B47
 refine ldI_own o12 rfl (ld1_own o12 rfl (specWith_ok (hE11.le l12) (by omega) fun H13 l13 => tup2_mk (asI_mk (asI_mk ?_))))
 have l1113 := AHeap.le_trans l12 l13
 have l913 := AHeap.le_trans l911 l1113
 have s13 := s9.le l913
 have o13 := o12.le l13
 have hE13 := hE11.le l1113
 have l013 := AHeap.le_trans l09 l913
 unfold F5.B46
 refine pif_f (by simp) (pif_f (by simp) ?_)
 -- the cycles that are left
 unfold F5.B44
 refine drawCycles_ok (hB.le l013) hl fun v4 n4 es4 w4 la4 G4 lG4 hS4 fw4 c4 d4 _ _ => tup2_mk (agg2_mk (asI_mk (newK_f rfl fun H14 l14 n14 o14 => stK_f (new := [.int .i64 n4, v4]) o14 (by simp) (mem_iv (sl_one hS4)) rfl fun H15 b15 o15 => ?_)))
 have l15 : G4.le H15 := b15.le l14 (Nat.le_refl _)
 have hE15 := (sl_edges hS4).le l15
 have hw15 := fw4.ints.le l15
 have l1315 := AHeap.le_trans lG4 l15
 unfold F5.B43
 refine ldI_own o15 rfl (ld1_own o15 rfl (implLeft_ok hE15 (by omega) hw15 (by omega) fun x21 H16 l16 f16 => tup2_mk (asI_mk ?_)))
 have o16 := o15.le l16
 unfold F5.B42
 refine ldI_own o16 rfl (ld1_own o16 rfl (specLeft_ok (hE15.le l16) (by omega) (hw15.le l16) (by omega) fun x23 H17 l17 f17 => tup2_mk (asI_mk ?_)))
 have l1317 := AHeap.le_trans l1315 (AHeap.le_trans l16 l17)
 have hcs : (clList n4 es4 la4).length ≤ 1048576 := clList_small (by omega)
 have f1617 := f16.ints.le l17
 unfold F5.B41
 refine pif_f (by simp) (likeInts_ok f1617 f17.ints (by omega) (asB_mk (pif_f rfl ?_)))
 have s17 := s13.le l1317
 have l017 := AHeap.le_trans l013 l1317
 have o17 := o16.le l17
 -- whether it is a matching
 unfold F5.B39
 refine drawIsM_ok (hB.le l017) hl fun v5 n5 es5 w5 la5 G5 lG5 hS5 fw5 c5 d5 _ _ => tup2_mk (agg2_mk (asI_mk (newK_f rfl fun H18 l18 n18 o18 => stK_f (new := [.int .i64 n5, v5]) o18 (by simp) (mem_iv (sl_one hS5)) rfl fun H19 b19 o19 => ?_)))
 have l19 : G5.le H19 := b19.le l18 (Nat.le_refl _)
 have hE19 := (sl_edges hS5).le l19
 have hw19 := fw5.ints.le l19
 unfold F5.B38
 refine ldI_own o19 rfl (ld1_own o19 rfl (implIsM_ok hE19 (by omega) hw19 (by omega) fun H20 l20 => tup2_mk (asB_mk (asI_mk ?_))))
 have o20 := o19.le l20
 unfold F5.B37
 refine ldI_own o20 rfl (ld1_own o20 rfl (specIsM_ok (hE19.le l20) (by omega) (hw19.le l20) (by omega) fun H21 l21 => tup2_mk (asB_mk (asI_mk ?_))))
 have l1721 := AHeap.le_trans (AHeap.le_trans lG5 l19) (AHeap.le_trans l20 l21)
 have s21 := s17.le l1721
 have l021 := AHeap.le_trans l017 l1721
 unfold F5.B36
 refine pif_f (by simp) (pif_f (by simp) ?_)
 -- free edges
 unfold F5.B34
 refine drawFree_ok (hB.le l021) hl fun v6 n6 es6 G6 lG6 hS6 c6 => agg2_mk (asI_mk (newK_f rfl fun H22 l22 n22 o22 => stK_f (new := [.int .i64 n6, v6]) o22 (by simp) (mem_iv (sl_one hS6)) rfl fun H23 b23 o23 => ?_))
 have l23 : G6.le H23 := b23.le l22 (Nat.le_refl _)
 have hE23 := (sl_edges hS6).le l23
 have l2123 := AHeap.le_trans lG6 l23
 unfold F5.B33
 refine ldI_own o23 rfl (ld1_own o23 rfl (implFree_ok (s21.T.le l2123) hE23 (by omega) fun x32 H24 l24 f24 => tup2_mk (asI_mk ?_)))
 have o24 := o23.le l24
 unfold F5.B32
 refine ldI_own o24 rfl (ld1_own o24 rfl (specFree_ok (hE23.le l24) (by omega) fun x34 H25 l25 f25 => tup2_mk (asI_mk ?_)))
 have hfl : (freeL n6 es6).length ≤ 1000000000 := by
  unfold freeL
  split
  ·have := filtB_length (fun j => decide (0 < withN (mats n6 es6) j ∧ withN (mats n6 es6) j < (mats n6 es6).length)) es6.length
   omega
  ·simp
 unfold F5.B31
 refine pif_f (by simp) (likeInts_ok (f24.ints.le l25) f25.ints (by omega) (asB_mk (pif_f rfl ?_)))
 have l2125 := AHeap.le_trans l2123 (AHeap.le_trans l24 l25)
 have l1725 := AHeap.le_trans l1721 l2125
 have l1325 := AHeap.le_trans l1317 l1725
 exact mat_29 (s21.le l2125) (o13.le l1325) (hE13.le l1325) c3 (o17.le l1725) (f1617.le l1725)
end Go.Proofs
