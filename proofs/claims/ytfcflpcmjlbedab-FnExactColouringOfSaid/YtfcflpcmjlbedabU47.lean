/- Contracts: the cycles that a matching leaves, the reference's way, as lists. -/
import Derived.Test.YtfcflpcmjlbedabU43
import Derived.Test.YtfcflpcmjlbedabM13
set_option linter.unusedVariables false
set_option linter.unusedSimpArgs false
set_option maxRecDepth 100000
namespace Go.Proofs
open Go.Abs

variable {H G : AHeap} {v u f : Value} {l m c D : List Int} {es fs : List (Int × Int)} {K : Value → AHeap → Prop} {A A' : Nat → Prop} {B : Nat} {ls ms : List (List Int)}

theorem cycW_skip {p : Nat → Bool} {k : Nat} (h : ETo es p k k ∨ p k = false) : cycW es p (k + 1) = cycW es p k := by
  rw [cycW, if_neg, List.append_nil]
  rintro ⟨h1, h2⟩
  rcases h with h | h
  · rw [ETo.lead h1] at h; rw [h] at h2; cases h2
  · rw [h] at h1; cases h1
theorem cycW_lens (p : Nat → Bool) : ∀ k, (cycW es p k).map List.length = lensTo es p k
  | 0 => rfl
  | k + 1 => by
    rw [cycW, lensTo, List.map_append, cycW_lens p k]
    split
    · rw [List.map_singleton, wkL_length]
    · rfl
theorem cycW_length (p : Nat → Bool) (k : Nat) : (cycW es p k).length ≤ k := by
  have := congrArg List.length (cycW_lens (es := es) p k)
  rw [List.length_map] at this
  clear this
  induction k with
  | zero => exact Nat.le_refl _
  | succ k ih =>
    rw [cycW, List.length_append]
    split <;> simp <;> omega
theorem l04CyclesW_ok {n : Int} (h : Edges H v es) (hg : IsG n es) (hc : Ints H u l) (hS : IsS l es.length) (ho : OneAt n es l)
    (k : ∀ v' G, H.le G → RowsF (fun b => H.length ≤ b) G.length G v' (cycW es (leftP l) es.length) → K v' G) : AC Try.prog T0 75 [.agg ⟨[.int .i64 n, v]⟩, u] H K := by
  have n0 := hg.ed.lo; have n1 := hg.ed.hi
  have h30 : es.length ≤ 30 := by have := hg.ed.len; omega
  have hll : l.length ≤ es.length := by rw [hS.filt]; exact filtB_length _ _
  obtain ⟨p, hp⟩ : ∃ p, p = leftP l := ⟨_, rfl⟩
  have hdeg : ∀ x : Nat, (x : Int) < n → degB es p x = 2 := fun x hx => by rw [hp]; exact left_deg hg hS ho hx
  rw [← hp] at k
  have hpm : ∀ j : Nat, p j = true ↔ (j : Int) ∉ l := fun j => by
    rw [hp]; unfold leftP
    rw [Bool.not_eq_true', ← Bool.not_eq_true, bitB_mem hS]
  have hend : ∀ i, i < es.length → ∀ x : Int, on (es.getD i (0, 0)) x = true → 0 ≤ x ∧ x < n := fun i hi x hx => by
    obtain ⟨d1, d2, d3, d4, d5⟩ := hg.ed.ends es[i] (List.getElem_mem hi)
    rw [← getD_of (d := (0, 0)) hi] at d1 d2 d3 d4 d5
    unfold on at hx
    simp only [Bool.or_eq_true, beq_iff_eq] at hx
    omega
  apply F75.ac
  unfold F75.B23
  refine newK_f (all_iv (edges_one' h)) fun H1 l1 n1' o1 => ?_
  unfold F75.B22
  refine ld1_own o1 rfl ((h.le l1).len (mkR_int (by omega) (by omega) (by decide) fun H2 l2 n2 o2 => newK_f rfl fun H3 l3 n3 o3 => ?_))
  rw [Int.toNat_natCast, rep_b] at o2
  rw [Int.toNat_natCast]
  obtain ⟨pm, hpmb⟩ : ∃ pm, pm = H1.length := ⟨_, rfl⟩
  rw [← hpmb] at o2 ⊢
  have b1 := l1.1
  have l13 := AHeap.le_trans l2 l3
  have o2' := o2.le l3
  unfold F75.B21 F75.L2
  refine ⟨fun x1 x2 x5 x6 x7 G => u = x1 ∧ H.length = x2 ∧ .slice (some ⟨pm, 0, none⟩) es.length (es.length + 1) = x5 ∧ H1.le G ∧ ∃ i : Nat, x7 = i ∧ i ≤ es.length ∧ ∃ S, Own G pm 4 (LB S) ∧ S.length = es.length ∧ (∀ j, j < es.length → (S.getD j false = true ↔ ETo es p i j)) ∧ RowsF (fun b => pm < b) G.length G x6 (cycW es p i),
    fun _ _ _ _ x7 _ => es.length - x7.toNat, ⟨rfl, rfl, rfl, l13, 0, rfl, by omega, List.replicate es.length false, o2', by simp, fun j hj => ?_, .nil1 o3 (by omega) (by omega)⟩, ?_⟩
  · have : (List.replicate es.length false).getD j false = false := by simp [List.getD, List.getElem?_replicate, hj]
    rw [this]
    refine ⟨(fun h => by cases h), fun ⟨_, a, h, _⟩ => absurd h (by omega)⟩
  clear o2 o2' o3 l13 l3 l2
  rintro x1 x2 x5 x6 x7 G ⟨rfl, rfl, rfl, hG, i, rfl, hi, S, oS, hSl, hSe, hR⟩
  have hcl := cycW_length (es := es) p i
  have lG := AHeap.le_trans l1 hG
  have oG := o1.le hG
  unfold F75.B20
  refine ld1_own oG rfl ((h.le lG).len (pif_cases (fun hb => ?_) fun hb => ?_))
  · have hil : i < es.length := by have := of_decide_eq_true hb; omega
    have skip : (ETo es p i i ∨ p i = false) → ∀ N2 : Value → Nat → Value → Value → Int → AHeap → Prop, ((u = u ∧ H.length = H.length ∧ True ∧ H1.le G ∧ ∃ i' : Nat, (i : Int) + 1 = i' ∧ i' ≤ es.length ∧ ∃ S, Own G pm 4 (LB S) ∧ S.length = es.length ∧ (∀ j, j < es.length → (S.getD j false = true ↔ ETo es p i' j)) ∧ RowsF (fun b => pm < b) G.length G x6 (cycW es p i')) → N2 u H.length (.slice (some ⟨pm, 0, none⟩) es.length (es.length + 1)) x6 ((i : Int) + 1) G) → F75.B3 K N2 u H.length (.slice (some ⟨pm, 0, none⟩) es.length (es.length + 1)) x6 (i : Nat) G := by
      intro hs N2 hN
      unfold F75.B3
      rw [wrap_id (by omega) (by omega)]
      refine hN ⟨rfl, rfl, trivial, hG, i + 1, by omega, by omega, S, oS, hSl, fun j hj => ?_, ?_⟩
      · rw [hSe j hj, ETo.skip hs]
      · rw [cycW_skip hs]; exact hR
    unfold F75.B19
    refine own_idx (by omega) (by omega) (ld1_own oS (by rw [Int.toNat_natCast]; exact LB_get (by omega)) (asB_mk (pif_cases (fun hb => ?_) fun hb => ?_)))
    · refine skip (.inl ((hSe i hil).1 hb)) _ fun ⟨a1, a2, _, a4, i', e, a5, a6⟩ => ⟨⟨rfl, rfl, rfl, a4, i', e, a5, a6⟩, by show es.length - ((i : Int) + 1).toNat < es.length - (i : Int).toNat; omega⟩
    have hnE : ¬ ETo es p i i := fun h => by have := (hSe i hil).2 h; rw [this] at hb; cases hb
    refine l04Has_ok (hc.le lG) (by omega) (asB_mk (pif_cases (fun hb => ?_) fun hb => ?_))
    · have hpi : p i = false := by
        have := of_decide_eq_true hb
        cases hx : p i with
        | false => rfl
        | true => exact absurd this ((hpm i).1 hx)
      refine skip (.inr hpi) _ fun ⟨a1, a2, _, a4, i', e, a5, a6⟩ => ⟨⟨rfl, rfl, rfl, a4, i', e, a5, a6⟩, by show es.length - ((i : Int) + 1).toNat < es.length - (i : Int).toNat; omega⟩
    clear skip
    have hpi : p i = true := (hpm i).2 (of_decide_eq_false hb)
    have hlead : cLeadB es p i = true := by
      cases hx : cLeadB es p i with
      | true => rfl
      | false => exact absurd ((ETo.lead hpi).2 hx) hnE
    obtain ⟨d1, d2, d3, d4, d5⟩ := hg.ed.ends es[i] (List.getElem_mem hil)
    rw [← getD_of (d := (0, 0)) hil] at d1 d2 d3 d4 d5
    obtain ⟨a0, ha0⟩ : ∃ a0 : Nat, (es.getD i (0, 0)).1 = a0 := ⟨(es.getD i (0, 0)).1.toNat, by omega⟩
    obtain ⟨z0, hz0⟩ : ∃ z0 : Nat, (es.getD i (0, 0)).2 = z0 := ⟨(es.getD i (0, 0)).2.toNat, by omega⟩
    unfold F75.B18
    obtain ⟨bb, oo, hk, c1, c2⟩ := (h.le lG).idx (show (0 : Int) ≤ i by omega) (by omega)
    simp only [Int.toNat_natCast] at c1 c2
    refine ld1_own oG rfl (hk _ (ldI_mk c2 (newK_f rfl fun G1 lg1 ng1 og1 => ?_)))
    rw [hz0]
    have hpmG : pm < G.length := oS.lt
    have hGl := lg1.1
    unfold F75.L5
    refine ⟨fun x1 x2 x5 x6' x7 x8 x9 x10 G' => u = x1 ∧ H.length = x2 ∧ .slice (some ⟨pm, 0, none⟩) es.length (es.length + 1) = x5 ∧ x6 = x6' ∧ (i : Int) = x7 ∧ H1.le G' ∧ G.length ≤ G'.length ∧ RowsF (fun b => pm < b) G.length G' x6 (cycW es p i) ∧ ∃ (now w z : Nat) (C : List Int) (S' : List Bool), x9 = now ∧ x10 = z ∧ Fresh G.length G' x8 2 1 (LI C) ∧ Own G' pm 4 (LB S') ∧ S'.length = es.length ∧ (∀ j, j < es.length → (S'.getD j false = true ↔ ETo es p i j ∨ (j : Int) ∈ C)) ∧ Walk n es p i a0 (ETo es p i) C now w z ∧ C = wkL es p i C.length ∧ (now, z) = wk es p i C.length,
      fun _ _ _ _ _ x8 _ _ _ => es.length - lenV x8, ⟨rfl, rfl, rfl, rfl, rfl, AHeap.le_trans hG lg1, hGl, hR.le lg1, i, a0, z0, [], S, rfl, rfl, .inr ⟨_, 0, Nat.le_refl _, rfl, og1, rfl⟩, oS.le lg1, hSl, fun j hj => by rw [hSe j hj]; simp, ?_, rfl, ?_⟩, ?_⟩
    · refine ⟨(fun i hi => by cases hi), List.nodup_nil, fun x => by simp [degC], hil, hpi, .refl, ?_, ?_, by omega, by omega, by omega, .inl ⟨rfl, rfl, rfl⟩⟩
      · unfold on; rw [ha0]; simp
      · unfold on; rw [hz0]; simp
    · show (i, z0) = (i, (es.getD i (0, 0)).2.toNat)
      rw [hz0]; rfl
    clear oS hSl hSe hR og1 ng1 hk c1 c2 oG lG
    rintro x1 x2 x5 x6' x7 x8 x9 x10 G2 ⟨rfl, rfl, rfl, rfl, rfl, hG2, hGl2, hR, now, w, z, C, S, rfl, rfl, hF, oS, hSl, hSe, hW, hCw, hwk⟩
    have lG2 := AHeap.le_trans l1 hG2
    have oG2 := o1.le hG2
    have hnl := hW.lt
    have hCl : C.length ≤ es.length := by
      have := nodup_sub (m := upto es.length) hW.nd fun x hx => by
        obtain ⟨j, rfl, h1, _⟩ := hW.mem x hx
        unfold upto; exact List.mem_map.2 ⟨j, List.mem_range.2 h1, rfl⟩
      rwa [upto_length] at this
    unfold F75.B17
    refine own_idx (by omega) (by omega) (ld1_own oS (by rw [Int.toNat_natCast]; exact LB_get (by omega)) (asB_mk (pif_cases (fun hb => ?_) fun hb => ?_)))
    · have hnot : ¬ (ETo es p i now ∨ (now : Int) ∈ C) := fun h => by
        have := (hSe now hnl).2 h; rw [this] at hb; cases hb
      have hnC : (now : Int) ∉ C := fun h => hnot (.inr h)
      have hCl' : C.length + 1 ≤ es.length := by
        have := nodup_sub (l := C ++ [(now : Int)]) (m := upto es.length) (by
          rw [List.nodup_append]
          refine ⟨hW.nd, by simp, fun a ha b hb => ?_⟩
          rw [List.mem_singleton] at hb
          rintro rfl
          rw [hb] at ha; exact hnC ha) fun x hx => by
          unfold upto
          rcases List.mem_append.1 hx with hx | hx
          · obtain ⟨j, rfl, h1, _⟩ := hW.mem x hx
            exact List.mem_map.2 ⟨j, List.mem_range.2 h1, rfl⟩
          · rw [List.mem_singleton] at hx
            exact List.mem_map.2 ⟨now, List.mem_range.2 hnl, hx.symm⟩
        rw [upto_length] at this
        simpa using this
      unfold F75.B16
      refine own_idx (by omega) (by omega) (stK_1 oS (by simp; omega) rfl fun G3 b3 o3 => ?_)
      rw [Int.toNat_natCast, ← List.map_set] at o3
      have hF3 := hF.but b3 hpmG
      have hR3 := hR.but b3 (by omega)
      have hG3 := b3.le hG2 (by omega)
      unfold F75.B15
      refine hF3.sl.pushN E_int (by decide) (by rw [b3.len]; exact hGl2) (n := 1) (ys := [.int .i64 now]) rfl rfl (by simp; omega) (by simp) fun x8' G4 k4 ot4 nb4 f4 => ?_
      have hk4 := k4.len
      have hG4 := k4.le hG3 (by have := hG.1; omega)
      have lG4 := AHeap.le_trans l1 hG4
      have o4 := k4.own o3 hpmG
      have hR4 := hR3.keep k4
      unfold F75.B14
      have hzn := hW.vn
      refine ldI_own (o1.le hG4) rfl (ld1_own (o1.le hG4) rfl (l01At_ok (h.le lG4) (by omega) fun a G5 l5 f5 => ?_))
      have h3 := hg.three (v := (z : Int)) (by omega) (by omega)
      have lG5 := AHeap.le_trans lG4 l5
      have hex := other_left (hdeg z hzn) hnl
      unfold F75.B13 F75.L8
      refine ⟨fun y1 y2 y5 y6 y7 y8 y9 y10 y11 y12 y13 G' => u = y1 ∧ H.length = y2 ∧ .slice (some ⟨pm, 0, none⟩) es.length (es.length + 1) = y5 ∧ x6 = y6 ∧ (i : Int) = y7 ∧ x8' = y8 ∧ (now : Int) = y9 ∧ (z : Int) = y10 ∧ a = y11 ∧ G5 = G' ∧ ∃ t : Nat, y13 = t ∧ t ≤ 3 ∧ ((y12 = now ∧ ∀ j, j < t → (atL es (z : Int)).getD j 0 = now ∨ (atL es (z : Int)).getD j 0 ∈ l) ∨ ∃ q : Nat, y12 = q ∧ q < es.length ∧ p q = true ∧ q ≠ now ∧ on (es.getD q (0, 0)) z = true),
        fun _ _ _ _ _ _ _ _ _ _ y13 _ => 3 - y13.toNat, ⟨rfl, rfl, rfl, rfl, rfl, rfl, rfl, rfl, rfl, rfl, 0, rfl, by omega, .inl ⟨rfl, fun j hj => absurd hj (by omega)⟩⟩, ?_⟩
      rintro y1 y2 y5 y6 y7 y8 y9 y10 y11 y12 y13 G' ⟨rfl, rfl, rfl, rfl, rfl, rfl, rfl, rfl, rfl, rfl, t, rfl, ht, hq⟩
      unfold F75.B12
      refine pif_cases (fun hb => ?_) fun hb => ?_
      · have ht3 : t < 3 := by have := of_decide_eq_true hb; omega
        obtain ⟨q, hq1, hq2, hq3⟩ := at_get (es := es) (w := (z : Int)) (t := t) (by omega)
        have nxt : ((q : Int) = now ∨ (q : Int) ∈ l) → ((y12 = now ∧ ∀ j, j < t → (atL es (z : Int)).getD j 0 = now ∨ (atL es (z : Int)).getD j 0 ∈ l) ∨ ∃ q : Nat, y12 = q ∧ q < es.length ∧ p q = true ∧ q ≠ now ∧ on (es.getD q (0, 0)) z = true) → ((y12 = now ∧ ∀ j, j < t + 1 → (atL es (z : Int)).getD j 0 = now ∨ (atL es (z : Int)).getD j 0 ∈ l) ∨ ∃ q : Nat, y12 = q ∧ q < es.length ∧ p q = true ∧ q ≠ now ∧ on (es.getD q (0, 0)) z = true) := by
          intro hc h
          rcases h with ⟨h1, h2⟩ | h
          · refine .inl ⟨h1, fun j hj => ?_⟩
            by_cases e : j = t
            · subst e; rw [hq1]; exact hc
            · exact h2 j (by omega)
          · exact .inr h
        unfold F75.B11
        refine f5.ints.rd (by omega) (by omega) ?_
        rw [Int.toNat_natCast, hq1]
        refine pif_cases (fun hb => ?_) fun hb => ?_
        · have hqn : (q : Int) ≠ now := bne_iff_ne.1 hb
          refine f5.ints.rd (by omega) (by omega) ?_
          rw [Int.toNat_natCast, hq1]
          refine l04Has_ok (hc.le lG5) (by omega) (asB_mk (pif_cases (fun hb => ?_) fun hb => ?_))
          · have hql : (q : Int) ∉ l := by
              rw [Bool.not_eq_true'] at hb
              exact of_decide_eq_false hb
            unfold F75.B10
            refine f5.ints.rd (by omega) (by omega) ?_
            rw [Int.toNat_natCast, hq1]
            unfold F75.B9
            rw [wrap_id (by omega) (by omega)]
            exact ⟨⟨rfl, rfl, rfl, rfl, rfl, rfl, rfl, rfl, rfl, rfl, t + 1, by omega, by omega, .inr ⟨q, rfl, hq2, (hpm q).2 hql, by omega, hq3⟩⟩, by show 3 - ((t : Int) + 1).toNat < 3 - (t : Int).toNat; omega⟩
          · have hql : (q : Int) ∈ l := by
              rw [Bool.not_eq_false'] at hb
              exact of_decide_eq_true hb
            unfold F75.B9
            rw [wrap_id (by omega) (by omega)]
            exact ⟨⟨rfl, rfl, rfl, rfl, rfl, rfl, rfl, rfl, rfl, rfl, t + 1, by omega, by omega, nxt (.inr hql) hq⟩, by show 3 - ((t : Int) + 1).toNat < 3 - (t : Int).toNat; omega⟩
        · have hqn : (q : Int) = now := bne_eq_false_iff_eq.1 hb
          unfold F75.B9
          rw [wrap_id (by omega) (by omega)]
          exact ⟨⟨rfl, rfl, rfl, rfl, rfl, rfl, rfl, rfl, rfl, rfl, t + 1, by omega, by omega, nxt (.inl hqn) hq⟩, by show 3 - ((t : Int) + 1).toNat < 3 - (t : Int).toNat; omega⟩
      · have ht3 : t = 3 := by have := of_decide_eq_false hb; omega
        subst ht3
        obtain ⟨q, rfl, hq2, hq3, hq4, hq5⟩ : ∃ q : Nat, y12 = q ∧ q < es.length ∧ p q = true ∧ q ≠ now ∧ on (es.getD q (0, 0)) z = true := by
          rcases hq with ⟨_, h2⟩ | hq
          · obtain ⟨q, g1, g2, g3, g4⟩ := hex
            have hm : (q : Int) ∈ atL es (z : Int) := mem_atL.2 ⟨q, rfl, g1, g4⟩
            obtain ⟨j, hj, hje⟩ := List.getElem_of_mem hm
            have := h2 j (by omega)
            rw [getD_of hj, hje] at this
            rcases this with h | h
            · exact absurd h (by omega)
            · exact absurd h ((hpm q).1 g2)
          · exact hq
        obtain ⟨e1, e2, e3, e4, e5⟩ := hg.ed.ends es[q] (List.getElem_mem hq2)
        rw [← getD_of (d := (0, 0)) hq2] at e1 e2 e3 e4 e5
        obtain ⟨y, hy⟩ : ∃ y : Nat, (es.getD q (0, 0)).1 + (es.getD q (0, 0)).2 - (z : Int) = y := ⟨((es.getD q (0, 0)).1 + (es.getD q (0, 0)).2 - (z : Int)).toNat, by rcases on_oth hq5 with e | e <;> omega⟩
        have hyn : (y : Int) < n := by rcases on_oth hq5 with e | e <;> omega
        have hyo : on (es.getD q (0, 0)) y = true := by
          unfold on
          simp only [Bool.or_eq_true, beq_iff_eq]
          rcases on_oth hq5 with e | e <;> omega
        have hzy : z ≠ y := by
          have := hq5
          unfold on at this
          simp only [Bool.or_eq_true, beq_iff_eq] at this
          omega
        unfold F75.B7 F75.B6
        refine ldI_own ((o1.le hG4).le l5) rfl (ld1_own ((o1.le hG4).le l5) rfl (l01Other_ok (e := (q : Int)) (h.le lG5) (by omega) (by omega) (by rw [Int.toNat_natCast]; omega) (by rw [Int.toNat_natCast]; omega) (by omega) fun G6 l6 => asI_mk ?_))
        rw [Int.toNat_natCast, hy]
        have l56 := AHeap.le_trans l5 l6
        have hl56 := l56.1
        have f6 := f4.le l56
        refine ⟨⟨rfl, rfl, rfl, rfl, rfl, AHeap.le_trans hG4 l56, by have := b3.len; omega, hR4.le l56, q, z, y, C ++ [(now : Int)], S.set now true, rfl, rfl, by simpa using f6, o4.le l56, by simpa using hSl, fun j hj => ?_, hW.step hnC (fun h => hnot (.inl h)) hq2 hq3 hq4 hq5 hyo hzy hyn, ?_, ?_⟩, ?_⟩
        · rw [setB (by omega)]
          simp only [insB, Bool.or_eq_true, decide_eq_true_eq, hSe j hj, List.mem_append, List.mem_singleton]
          constructor
          · rintro ((h | h) | h)
            · exact .inl h
            · exact .inr (.inl h)
            · exact .inr (.inr (by omega))
          · rintro (h | h | h)
            · exact .inl (.inl h)
            · exact .inl (.inr h)
            · exact .inr (by omega)
        · rw [List.length_append, List.length_singleton, wkL_succ, ← hCw]
          have : now = (wk es p i C.length).1 := by rw [← hwk]
          rw [← this]
        · rw [List.length_append, List.length_singleton]
          have e1 : now = (wk es p i C.length).1 := by rw [← hwk]
          have e2 : z = (wk es p i C.length).2 := by rw [← hwk]
          have hnx := nx_eq (hdeg z hzn) hnl hW.pn hW.onv hq2 hq3 hq4 hq5
          rw [wk, ← e1, ← e2, hnx]
          have : othN es (q : Int) z = y := by unfold othN; rw [Int.toNat_natCast]; omega
          rw [this]
        · show es.length - lenV x8' < es.length - lenV x8
          rw [Sl_lenV f6.sl, Sl_lenV hF.sl]
          simp; omega
    · have hmet : S.getD now false = true := by simpa using hb
      have hst : (now : Int) ∈ C ∨ ETo es p i now := ((hSe now hnl).1 hmet).symm
      have hall := hW.stop hdeg hend hnE (fun a b _ ha hab => ha.closed hab) hst
      obtain ⟨hclen, hciff⟩ := hW.comp hall
      unfold F75.B4
      refine hR.push hGl2 (fun b hb => by omega) hF (by omega) fun v' G3 ot nb hlen3 hR3 => ?_
      unfold F75.B3
      rw [wrap_id (by omega) (by omega)]
      have hbo : ∀ b, bk x6 = some b → pm < b := fun b hb => by
        obtain ⟨vs, _, _, q3, _⟩ := hR
        exact (q3 b hb).1
      refine ⟨⟨rfl, rfl, rfl, ⟨by have := hG2.1; omega, fun b o ho' => ot b o (fun hv => by have := hbo b hv; have := lt_of_get ho'; omega) (hG2.2 _ _ ho')⟩, i + 1, by omega, by omega, S, ot pm _ (fun hv => by have := hbo pm hv; omega) oS, hSl, fun j hj => ?_, ?_⟩, by show es.length - ((i : Int) + 1).toNat < es.length - (i : Int).toNat; omega⟩
      · rw [hSe j hj, ETo.succ, hciff j]
        refine or_congr Iff.rfl ⟨fun hr => ⟨hpi, (eRch_in hr ⟨hil, hpi⟩).2, hr⟩, fun hr => hr.2.2⟩
      · rw [cycW, if_pos ⟨hpi, hlead⟩, ← hclen, ← hCw]; exact hR3
  · have hil : i = es.length := by have := of_decide_eq_false hb; omega
    subst hil
    unfold F75.B1
    exact k _ _ lG (hR.mono (fun b hb => by omega) (Nat.le_refl _))
end Go.Proofs
