/- The law of ColouringOf. -/
import Derived.Test.YtfcflpcmjlbedabV1
import Derived.Test.YtfcflpcmjlbedabU50
set_option linter.unusedVariables false
set_option linter.unusedSimpArgs false
set_option maxRecDepth 100000
namespace Go.Proofs
open Go.Abs

theorem colouringOf_law (H : AHeap) (vs : List Value) (hv : AVs T0 H [24, 25] vs) : AC Try.prog T0 8 vs H (fun v _ => v = .bool true) := by
  obtain ⟨v0, vs, rfl, a0, v1, vs, rfl, a1, rfl⟩ := hv
  obtain ⟨n0, ve0, es0, rfl, he0, hel0⟩ := av_graph a0
  obtain ⟨ls1, he1, hel1, _⟩ := av_ints a1
  apply F8.ac
  unfold F8.B40
  refine newK_f (all_iv (edges_one' he0)) fun H1 l1 n1 o1 => ?_
  have he0 := he0.le l1; have he1 := he1.le l1
  unfold F8.B39
  refine he1.len (pif_cases (fun _ => by unfold F8.B38; rfl) fun hs => ?_)
  have s1 : ls1.length ≤ 1048576 := by have := of_decide_eq_false hs; omega
  unfold F8.B37 F8.B36
  refine ldI_own o1 rfl (ld1_own o1 rfl (szGraph_ok he0 hel0 (by decide) (by decide) (edges_one' he0) fun H2 l2 => asI_mk ?_))
  have he0 := he0.le l2; have he1 := he1.le l2; have o1 := o1.le l2
  unfold F8.B35
  refine pif_cases (fun _ => by unfold F8.B34; rfl) fun hs => ?_
  have s0 : es0.length ≤ 1048576 := by
    have := of_decide_eq_false hs
    split at this <;> omega
  -- the reference
  unfold F8.B33
  refine ldI_own o1 rfl (ld1_own o1 rfl (toGraph_ok he0 (by omega) fun p0 H3 l3 fp0 => agg2_mk (asI_mk ?_)))
  have he0 := he0.le l3; have he1 := he1.le l3; have o1 := o1.le l3
  refine toInt64S_ok he1 (by omega) fun p1 H4 l4 fp1 => ?_
  have he0 := he0.le l4; have he1 := he1.le l4; have o1 := o1.le l4; have fp0 := fp0.le l4
  refine specColouring_ok fp0.edges s0 fp1.ints s1 fun w H5 l5 fw => tup2_mk (asI_mk ?_)
  have he0 := he0.le l5; have he1 := he1.le l5; have o1 := o1.le l5; have fp0 := fp0.le l5; have fp1 := fp1.le l5
  have he0_ := he0
  have he1_ := he1
  have o1_ := o1
  have hw := fw.ints
  have hw_ := hw
  have hwl : (coList n0 es0 ls1).length ≤ 1048576 := by exact coList_small s0
  have cw := AHeap.le_refl H5
  -- the program
  unfold F8.B32
  refine ldI_own o1 rfl (ld1_own o1 rfl (toGraph_ok he0 (by omega) fun x0 H6 l6 f0 => agg2_mk (asI_mk ?_)))
  have e7 : x0.oneCell' = true := edges_one' f0.edges
  refine newK_f rfl fun H7 l7 n7 o0 => stK_f o0 (by simp) (mem_iv e7) rfl fun H8 b0 o9 => ?_
  have l8 : H5.le H8 := b0.le (AHeap.le_trans l6 l7) l6.1
  have fx0 : Fresh H5.length H8 x0 100 2 (LE es0) := by
    rcases f0 with f0 | ⟨c, k, q1, q2, q3, q4⟩
    · exact .inl f0
    · exact .inr ⟨c, k, q1, q2, b0.own (l7.2 _ _ q3) (by have := lt_of_get q3; omega), q4⟩
  have g0 : ∀ c k, x0 = .slice (some ⟨c, 0, none⟩) k (k + 1) → c < H8.length := fun c k e => (fx0.lt e).2
  have d0 := l8.1
  have he0 := he0.le l8; have he1 := he1.le l8; have o1 := o1.le l8; have hw := hw.le l8
  have cw := AHeap.le_trans cw l8
  unfold F8.B31
  refine toInt64S_ok he1 (by omega) fun x1 H9 l9 fx1 => ?_
  have g1 : ∀ c k, x1 = .slice (some ⟨c, 0, none⟩) k (k + 1) → c < H9.length := fun c k e => (fx1.lt e).2
  have d1 := l9.1
  have he0 := he0.le l9; have he1 := he1.le l9; have o1 := o1.le l9; have hw := hw.le l9; have o9 := o9.le l9; have fx0 := fx0.le l9
  have cw := AHeap.le_trans cw l9
  unfold F8.B30
  refine ldI_own o9 rfl (ld1_own o9 rfl (implColouring_ok fx0.edges s0 fx1.ints s1 fun g H10 l10 fg => tup2_mk (asI_mk ?_)))
  have dg := l10.1
  have he0 := he0.le l10; have he1 := he1.le l10; have o1 := o1.le l10; have hw := hw.le l10; have o9 := o9.le l10; have fx0 := fx0.le l10; have fx1 := fx1.le l10
  have cw := AHeap.le_trans cw l10
  -- the same answer
  unfold F8.B29
  refine eqInt64S_ok fg.ints hw (by omega) (asB_mk (pif_f (by simp) (pif_f (by simp) ?_)))
  unfold F8.B27
  refine ldI_own o9 rfl (ld1_own o9 rfl (ldI_own o1 rfl (ld1_own o1 rfl (toGraph_ok he0 (by omega) fun y0 H11 l11 fy => agg2_mk (asI_mk ⟨l11, eqGraph_ok (fx0.edges.le l11) fy.edges (by omega) fun H12 l12 => asB_mk (pif_f (by simp) ?_)⟩)))))
  have l12 := AHeap.le_trans l11 l12
  have he0 := he0.le l12; have he1 := he1.le l12; have o1 := o1.le l12; have hw := hw.le l12; have o9 := o9.le l12; have fx0 := fx0.le l12; have fx1 := fx1.le l12; have fg := fg.le l12
  have cw := AHeap.le_trans cw l12
  unfold F8.B25
  refine toInt64S_ok he1 (by omega) fun y1 H13 l13 fy => eqInt64S_ok (fx1.ints.le l13) fy.ints (by omega) (asB_mk (pif_f (by simp) ?_))
  have he0 := he0.le l13; have he1 := he1.le l13; have o1 := o1.le l13; have hw := hw.le l13; have o9 := o9.le l13; have fx0 := fx0.le l13; have fx1 := fx1.le l13; have fg := fg.le l13
  have cw := AHeap.le_trans cw l13
  -- the marks
  unfold F8.B23 F8.B22
  refine ldI_own o9 rfl (ld1_own o9 rfl (markGraph_ok (by decide) (by omega) fx0 fun M0 m0 => asI_mk ?_))
  have lm0 := m0.le fx0 (by omega) cw
  have fx1 := m0.keep (m := H8.length) (fun c k e => by have := g0 c k e; omega) fx1
  have fg := m0.keep (m := H9.length) (fun c k e => by have := g0 c k e; omega) fg
  unfold F8.B21
  refine markInt64S_ok (by omega) (by omega) fx1 fun M1 m1 _ => asI_mk ?_
  have lm1 := m1.le fx1 (by omega) lm0
  have fg := m1.keep (m := H9.length) (fun c k e => by have := g1 c k e; omega) fg
  unfold F8.B20
  refine pif_f (decide_eq_false (by omega)) (eqInt64S_ok fg.ints (hw_.le lm1) (by omega) (asB_mk (pif_f (by simp) (pif_f (by simp) ?_))))
  -- the second answer
  unfold F8.B18 F8.B17
  refine markInt64S_ok (by decide) (by omega) fg fun M m fg' => asI_mk ?_
  have lm := m.le fg (by omega) lm1
  have fg := fg'
  have hm := marks_length 1 (coList n0 es0 ls1).length
  unfold F8.B16 F8.B15
  refine heldInt64S_ok (by decide) (by omega) fg.ints (by rw [hm]) (asI_mk ?_)
  unfold F8.B14
  refine pif_f (decide_eq_false (by omega)) ?_
  unfold F8.B12
  refine pif_f (by rw [hm]; simp) ?_
  unfold F8.B10
  have he0 := he0_.le lm
  have he1 := he1_.le lm
  have o1 := o1_.le lm
  have hw := hw_.le lm
  refine ldI_own o1 rfl (ld1_own o1 rfl (toGraph_ok he0 (by omega) fun z0 H15 l15 fz0 => agg2_mk (asI_mk ?_)))
  have he0 := he0.le l15; have he1 := he1.le l15; have o1 := o1.le l15; have fg := fg.le l15; have hw := hw.le l15
  refine toInt64S_ok he1 (by omega) fun z1 H16 l16 fz1 => ?_
  have he0 := he0.le l16; have he1 := he1.le l16; have o1 := o1.le l16; have fg := fg.le l16; have hw := hw.le l16; have fz0 := fz0.le l16
  refine implColouring_ok fz0.edges s0 fz1.ints s1 fun h H17 l17 fh => tup2_mk (asI_mk ?_)
  have fg := fg.le l17; have hw := hw.le l17
  unfold F8.B9
  refine eqInt64S_ok fh.ints hw (by omega) (asB_mk (pif_f (by simp) (pif_f (by simp) ?_)))
  unfold F8.B7 F8.B6
  refine heldInt64S_ok (by decide) (by omega) fg.ints (by rw [hm]) (asI_mk ?_)
  unfold F8.B5
  refine pif_f (decide_eq_false (by omega)) ?_
  unfold F8.B3
  refine pif_f (by rw [hm]; simp) ?_
  unfold F8.B1
  rfl
end Go.Proofs
