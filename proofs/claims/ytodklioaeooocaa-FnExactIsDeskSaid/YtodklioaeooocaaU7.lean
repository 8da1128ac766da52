/- The law of SumOfSets. -/
import Derived.Test.YtodklioaeooocaaU6
import Derived.Test.YtodklioaeooocaaA25
set_option linter.unusedVariables false
set_option linter.unusedSimpArgs false
namespace Go.Proofs
open Go.Abs

variable {H : AHeap} {v u f : Value} {l m : List Int} {es fs : List (Int × Int)} {K : Value → AHeap → Prop}

theorem av_ints (h : AV T0 H 25 v) : ∃ l, Ints H v l ∧ l.length ≤ 9223372036854775807 ∧ ∀ x ∈ l, -9223372036854775808 ≤ x ∧ x ≤ 9223372036854775807 := by
  obtain ⟨n, cs, a, rfl⟩ := AV_flat h (by kernel_rfl)
  obtain ⟨v, l, rfl, h1, h2, h3⟩ := AT_ints (e := 2) (by kernel_rfl) (by kernel_rfl) (by kernel_rfl) a
  exact ⟨l, h1, h2, h3⟩
theorem av_graph (h : AV T0 H 24 v) : ∃ n ve es, v = .agg ⟨[.int .i64 n, ve]⟩ ∧ Edges H ve es ∧ es.length ≤ 9223372036854775807 := by
  obtain ⟨n, cs, a, rfl⟩ := AV_agg h (by kernel_rfl)
  obtain ⟨m, c⟩ := AT_struct (by kernel_rfl) a
  rw [show sFields (T0 24) = [2, 22] by kernel_rfl] at c
  obtain ⟨h1, h2, h3, h4, h5⟩ := c
  rw [show sz T0 2 = 1 by kernel_rfl] at h1 h2 h3 h4 h5
  rw [show sz T0 22 = 1 by kernel_rfl] at h3 h4 h5
  obtain ⟨x, hx, _⟩ := AT_i64 (by kernel_rfl) h2
  obtain ⟨ve, es, hv, he, hl⟩ := AT_edges (e := 54) (i := 2) (by kernel_rfl) (by kernel_rfl) (by kernel_rfl) (by kernel_rfl) (by kernel_rfl) h4
  refine ⟨x, ve, es, ?_, he, hl⟩
  match cs, h1, h3, hx, hv, h5 with
  | [a, b], _, _, hx, hv, _ => simp at hx hv; rw [hx, hv]
  | a :: b :: c :: r, _, _, _, _, h5 => simp [Chunked] at h5

theorem bnd_le {B : AHeap} (h : B.le H) : B.length ≤ H.length := h.1

theorem sumOfSets_law (H : AHeap) (vs : List Value) (hv : AVs T0 H [24, 25, 25] vs) : AC Try.prog T0 3 vs H (fun v _ => v = .bool true) := by
  obtain ⟨v0, vs, rfl, a0, v1, vs, rfl, a1, v2, vs, rfl, a2, rfl⟩ := hv
  obtain ⟨n, ve, es, rfl, he, hel⟩ := av_graph a0
  obtain ⟨a, ha, hal, _⟩ := av_ints a1
  obtain ⟨b, hb, hbl, _⟩ := av_ints a2
  apply F3.ac
  unfold F3.B46
  refine newK_f (all_iv (edges_one' he)) fun H1 l1 n1 o1 => ?_
  have he := he.le l1; have ha := ha.le l1; have hb := hb.le l1
  unfold F3.B45
  refine ha.len (pif_cases (fun _ => by unfold F3.B44; rfl) fun hs => ?_)
  have sa : a.length ≤ 1048576 := by have := of_decide_eq_false hs; omega
  unfold F3.B43
  refine hb.len (pif_cases (fun _ => by unfold F3.B42; rfl) fun hs => ?_)
  have sb : b.length ≤ 1048576 := by have := of_decide_eq_false hs; omega
  unfold F3.B41 F3.B40
  refine ldI_own o1 rfl (ld1_own o1 rfl (szGraph_ok he hel (by decide) (by decide) (edges_one' he) fun H2 l2 => asI_mk ?_))
  unfold F3.B39
  refine pif_cases (fun _ => by unfold F3.B38; rfl) fun hs => ?_
  have se : es.length ≤ 1048576 := by
    have := of_decide_eq_false hs
    split at this <;> omega
  have he := he.le l2; have ha := ha.le l2; have hb := hb.le l2; have o1 := l2.2 _ _ o1
  -- the reference
  unfold F3.B37
  refine ldI_own o1 rfl (ld1_own o1 rfl (toGraph_ok he (by omega) fun ge1 H3 l3 f3 => agg2_mk (asI_mk ?_)))
  have ha := ha.le l3; have hb := hb.le l3; have he := he.le l3; have o1 := l3.2 _ _ o1
  refine toInt64S_ok ha (by omega) fun wa H4 l4 f4 => ?_
  have ha := ha.le l4; have hb := hb.le l4; have he := he.le l4; have o1 := l4.2 _ _ o1
  refine toInt64S_ok hb (by omega) fun wb H5 l5 f5 => ?_
  have ha := ha.le l5; have hb := hb.le l5; have he := he.le l5; have o1 := l5.2 _ _ o1
  refine specSum_ok (f3.edges.le (AHeap.le_trans l4 l5)) se (f4.ints.le l5) sa f5.ints sb fun w0 H6 l6 f6 => tup2_mk (asI_mk ?_)
  have ha := ha.le l6; have hb := hb.le l6; have he := he.le l6; have o1 := l6.2 _ _ o1
  have hw := f6.ints
  have ha6 := ha; have hb6 := hb; have he6 := he; have o16 := o1; have hw6 := hw
  have hwl : (sumList n es a b).length ≤ 1048576 := by
    unfold sumList
    split
    · exact Nat.le_trans (oneOf_length _ _ _) se
    · simp
  -- the program
  unfold F3.B36
  refine ldI_own o1 rfl (ld1_own o1 rfl (toGraph_ok he (by omega) fun ge H7 l7 f7 => agg2_mk (asI_mk ?_)))
  have e7 : ge.oneCell' = true := edges_one' f7.edges
  refine newK_f rfl fun H8 l8 n8 o8 => stK_f o8 (by simp) (mem_iv e7) rfl fun H9 b9 o9 => ?_
  have l69 : H6.le H9 := b9.le (AHeap.le_trans l7 l8) l7.1
  have f9 : Fresh H6.length H9 ge 55 2 (LE es) := by
    rcases f7 with f7 | ⟨c, k, q1, q2, q3, q4⟩
    · exact .inl f7
    · exact .inr ⟨c, k, q1, q2, b9.own (l8.2 _ _ q3) (by have := lt_of_get q3; omega), q4⟩
  have g9 : ∀ c k, ge = .slice (some ⟨c, 0, none⟩) k (k + 1) → c < H9.length := fun c k e => (f9.lt e).2
  have ha := ha.le l69; have hb := hb.le l69; have he := he.le l69; have o1 := l69.2 _ _ o1; have hw := hw.le l69
  unfold F3.B35
  refine toInt64S_ok ha (by omega) fun xa H10 l10 f10 => ?_
  have xl10 : ∀ c k, xa = .slice (some ⟨c, 0, none⟩) k (k + 1) → c < H10.length := fun c k e => (f10.lt e).2
  have ha := ha.le l10; have hb := hb.le l10; have he := he.le l10; have o1 := l10.2 _ _ o1; have hw := hw.le l10; have o9 := l10.2 _ _ o9; have f9 := f9.le l10
  unfold F3.B34
  refine toInt64S_ok hb (by omega) fun xb H11 l11 f11 => ?_
  have xl11 : ∀ c k, xb = .slice (some ⟨c, 0, none⟩) k (k + 1) → c < H11.length := fun c k e => (f11.lt e).2
  have ha := ha.le l11; have hb := hb.le l11; have he := he.le l11; have o1 := l11.2 _ _ o1; have hw := hw.le l11; have o9 := l11.2 _ _ o9; have f9 := f9.le l11; have f10 := f10.le l11
  unfold F3.B33
  refine ldI_own o9 rfl (ld1_own o9 rfl (implSum_ok f9.edges se f10.ints sa f11.ints sb fun g0 H12 l12 f12 => tup2_mk (asI_mk ?_)))
  have ha := ha.le l12; have hb := hb.le l12; have he := he.le l12; have o1 := l12.2 _ _ o1; have hw := hw.le l12; have o9 := l12.2 _ _ o9; have f9 := f9.le l12; have f10 := f10.le l12; have f11 := f11.le l12
  -- the same answer
  unfold F3.B32
  refine eqInt64S_ok f12.ints hw (by omega) (asB_mk (pif_f (by simp) (pif_f (by simp) ?_)))
  unfold F3.B30
  refine ldI_own o9 rfl (ld1_own o9 rfl (ldI_own o1 rfl (ld1_own o1 rfl (toGraph_ok he (by omega) fun ge2 H13 l13 f13 => agg2_mk (asI_mk ⟨l13, eqGraph_ok (f9.edges.le l13) f13.edges (by omega) fun H14 l14 => asB_mk (pif_f (by simp) ?_)⟩)))))
  have l1214 := AHeap.le_trans l13 l14
  have ha := ha.le l1214; have hb := hb.le l1214; have he := he.le l1214; have o1 := l1214.2 _ _ o1; have hw := hw.le l1214; have o9 := l1214.2 _ _ o9; have f9 := f9.le l1214; have f10 := f10.le l1214; have f11 := f11.le l1214; have f12 := f12.le l1214
  unfold F3.B28
  refine toInt64S_ok ha (by omega) fun ya H15 l15 f15 => eqInt64S_ok (f10.ints.le l15) f15.ints (by omega) (asB_mk (pif_f (by simp) ?_))
  have ha := ha.le l15; have hb := hb.le l15; have he := he.le l15; have o1 := l15.2 _ _ o1; have hw := hw.le l15; have o9 := l15.2 _ _ o9; have f9 := f9.le l15; have f10 := f10.le l15; have f11 := f11.le l15; have f12 := f12.le l15
  unfold F3.B26
  refine toInt64S_ok hb (by omega) fun yb H16 l16 f16 => eqInt64S_ok (f11.ints.le l16) f16.ints (by omega) (asB_mk (pif_f (by simp) ?_))
  have ha := ha.le l16; have hb := hb.le l16; have he := he.le l16; have o1 := l16.2 _ _ o1; have hw := hw.le l16; have o9 := l16.2 _ _ o9; have f9 := f9.le l16; have f10 := f10.le l16; have f11 := f11.le l16; have f12 := f12.le l16
  -- the marks
  have old : H6.le H16 := AHeap.le_trans l69 (AHeap.le_trans l10 (AHeap.le_trans l11 (AHeap.le_trans l12 (AHeap.le_trans l1214 (AHeap.le_trans l15 l16)))))
  have k6 := l6.1; have k9 := l69.1; have k10 := l10.1; have k11 := l11.1; have k12 := l12.1
  unfold F3.B24 F3.B23
  refine ldI_own o9 rfl (ld1_own o9 rfl (markGraph_ok (by decide) (by omega) f9 fun G1 m1 => asI_mk ?_))
  have l1 := m1.le f9 (Nat.le_refl _) old
  have f10 := m1.keep g9 f10
  have f11 := m1.keep (m := H10.length) (fun c k e => by have := g9 c k e; omega) f11
  have f12 := m1.keep (m := H11.length) (fun c k e => by have := g9 c k e; omega) f12
  unfold F3.B22
  refine markInt64S_ok (by omega) (by omega) f10 fun G2 m2 _ => asI_mk ?_
  have l2 := m2.le f10 k9 l1
  have f11 := m2.keep xl10 f11
  have f12 := m2.keep (m := H11.length) (fun c k e => by have := xl10 c k e; omega) f12
  unfold F3.B21
  refine markInt64S_ok (by omega) (by omega) f11 fun G3 m3 _ => asI_mk ?_
  have l3 := m3.le f11 (by omega) l2
  have f12 := m3.keep xl11 f12
  unfold F3.B20
  refine pif_f (decide_eq_false (by omega)) (eqInt64S_ok f12.ints (hw6.le l3) (by omega) (asB_mk (pif_f (by simp) (pif_f (by simp) ?_))))
  -- the second answer
  unfold F3.B18 F3.B17
  refine markInt64S_ok (by decide) (by omega) f12 fun G4 m4 f12 => asI_mk ?_
  have l4 := m4.le (f := H11.length) (by assumption) (by omega) l3
  have hm := marks_length 1 (sumList n es a b).length
  unfold F3.B16 F3.B15
  refine heldInt64S_ok (by decide) (by omega) f12.ints (by rw [hm]) (asI_mk ?_)
  unfold F3.B14
  refine pif_f (decide_eq_false (by omega)) ?_
  unfold F3.B12
  refine pif_f (by rw [hm]; simp) ?_
  unfold F3.B10
  have o1 := l4.2 _ _ o16
  refine ldI_own o1 rfl (ld1_own o1 rfl (toGraph_ok (he6.le l4) (by omega) fun gh G5 l5 p5 => agg2_mk (asI_mk (toInt64S_ok (ha6.le (AHeap.le_trans l4 l5)) (by omega) fun za G6 l6 p6 => toInt64S_ok (hb6.le (AHeap.le_trans l4 (AHeap.le_trans l5 l6))) (by omega) fun zb G7 l7 p7 => ?_))))
  refine implSum_ok (p5.edges.le (AHeap.le_trans l6 l7)) se (p6.ints.le l7) sa p7.ints sb fun h0 G8 l8 p8 => tup2_mk (asI_mk ?_)
  have l48 := AHeap.le_trans l5 (AHeap.le_trans l6 (AHeap.le_trans l7 l8))
  unfold F3.B9
  refine eqInt64S_ok p8.ints (hw6.le (AHeap.le_trans l4 l48)) (by omega) (asB_mk (pif_f (by simp) (pif_f (by simp) ?_)))
  unfold F3.B7 F3.B6
  refine heldInt64S_ok (by decide) (by omega) (f12.ints.le l48) (by rw [hm]) (asI_mk ?_)
  unfold F3.B5
  refine pif_f (decide_eq_false (by omega)) ?_
  unfold F3.B3
  refine pif_f (by rw [hm]; simp) ?_
  unfold F3.B1
  rfl
end Go.Proofs
