/- The law of WeakSet. -/
import Derived.Test.YtfcflpcmjlbedabV1
import Derived.Test.YtfcflpcmjlbedabU57
set_option linter.unusedVariables false
set_option linter.unusedSimpArgs false
set_option maxRecDepth 100000
namespace Go.Proofs
open Go.Abs

theorem weakSet_law (H : AHeap) (vs : List Value) (hv : AVs T0 H [24] vs) : AC Try.prog T0 7 vs H (fun v _ => v = .bool true) := by
  obtain ⟨v0, vs, rfl, a0, rfl⟩ := hv
  obtain ⟨n0, ve0, es0, rfl, he0, hel0⟩ := av_graph a0
  apply F7.ac
  unfold F7.B34
  refine newK_f (all_iv (edges_one' he0)) fun H1 l1 n1 o1 => ?_
  have he0 := he0.le l1
  unfold F7.B33 F7.B32
  refine ldI_own o1 rfl (ld1_own o1 rfl (szGraph_ok he0 hel0 (by decide) (by decide) (edges_one' he0) fun H2 l2 => asI_mk ?_))
  have he0 := he0.le l2; have o1 := o1.le l2
  unfold F7.B31
  refine pif_cases (fun _ => by unfold F7.B30; rfl) fun hs => ?_
  have s0 : es0.length ≤ 1048576 := by
    have := of_decide_eq_false hs
    split at this <;> omega
  -- the reference
  unfold F7.B29
  refine ldI_own o1 rfl (ld1_own o1 rfl (toGraph_ok he0 (by omega) fun p0 H3 l3 fp0 => agg2_mk (asI_mk ?_)))
  have he0 := he0.le l3; have o1 := o1.le l3
  refine specWeak_ok fp0.edges s0 fun w H4 l4 fw => tup2_mk (asI_mk ?_)
  have he0 := he0.le l4; have o1 := o1.le l4; have fp0 := fp0.le l4
  have he0_ := he0
  have o1_ := o1
  have hw := fw.ints
  have hw_ := hw
  have hwl : (wsL n0 es0).length ≤ 1048576 := by exact wsL_small
  have cw := AHeap.le_refl H4
  -- the program
  unfold F7.B28
  refine ldI_own o1 rfl (ld1_own o1 rfl (toGraph_ok he0 (by omega) fun x0 H5 l5 f0 => agg2_mk (asI_mk ?_)))
  have e7 : x0.oneCell' = true := edges_one' f0.edges
  refine newK_f rfl fun H6 l6 n6 o0 => stK_f o0 (by simp) (mem_iv e7) rfl fun H7 b0 o9 => ?_
  have l7 : H4.le H7 := b0.le (AHeap.le_trans l5 l6) l5.1
  have fx0 : Fresh H4.length H7 x0 100 2 (LE es0) := by
    rcases f0 with f0 | ⟨c, k, q1, q2, q3, q4⟩
    · exact .inl f0
    · exact .inr ⟨c, k, q1, q2, b0.own (l6.2 _ _ q3) (by have := lt_of_get q3; omega), q4⟩
  have g0 : ∀ c k, x0 = .slice (some ⟨c, 0, none⟩) k (k + 1) → c < H7.length := fun c k e => (fx0.lt e).2
  have d0 := l7.1
  have he0 := he0.le l7; have o1 := o1.le l7; have hw := hw.le l7
  have cw := AHeap.le_trans cw l7
  unfold F7.B27
  refine ldI_own o9 rfl (ld1_own o9 rfl (implWeak_ok fx0.edges s0 fun g H8 l8 fg => tup2_mk (asI_mk ?_)))
  have dg := l8.1
  have he0 := he0.le l8; have o1 := o1.le l8; have hw := hw.le l8; have o9 := o9.le l8; have fx0 := fx0.le l8
  have cw := AHeap.le_trans cw l8
  -- the same answer
  unfold F7.B26
  refine eqInt64S_ok fg.ints hw (by omega) (asB_mk (pif_f (by simp) (pif_f (by simp) ?_)))
  unfold F7.B24
  refine ldI_own o9 rfl (ld1_own o9 rfl (ldI_own o1 rfl (ld1_own o1 rfl (toGraph_ok he0 (by omega) fun y0 H9 l9 fy => agg2_mk (asI_mk ⟨l9, eqGraph_ok (fx0.edges.le l9) fy.edges (by omega) fun H10 l10 => asB_mk (pif_f (by simp) ?_)⟩)))))
  have l10 := AHeap.le_trans l9 l10
  have he0 := he0.le l10; have o1 := o1.le l10; have hw := hw.le l10; have o9 := o9.le l10; have fx0 := fx0.le l10; have fg := fg.le l10
  have cw := AHeap.le_trans cw l10
  -- the marks
  unfold F7.B22 F7.B21
  refine ldI_own o9 rfl (ld1_own o9 rfl (markGraph_ok (by decide) (by omega) fx0 fun M0 m0 => asI_mk ?_))
  have lm0 := m0.le fx0 (by omega) cw
  have fg := m0.keep (m := H7.length) (fun c k e => by have := g0 c k e; omega) fg
  unfold F7.B20
  refine pif_f (decide_eq_false (by omega)) (eqInt64S_ok fg.ints (hw_.le lm0) (by omega) (asB_mk (pif_f (by simp) (pif_f (by simp) ?_))))
  -- the second answer
  unfold F7.B18 F7.B17
  refine markInt64S_ok (by decide) (by omega) fg fun M m fg' => asI_mk ?_
  have lm := m.le fg (by omega) lm0
  have fg := fg'
  have hm := marks_length 1 (wsL n0 es0).length
  unfold F7.B16 F7.B15
  refine heldInt64S_ok (by decide) (by omega) fg.ints (by rw [hm]) (asI_mk ?_)
  unfold F7.B14
  refine pif_f (decide_eq_false (by omega)) ?_
  unfold F7.B12
  refine pif_f (by rw [hm]; simp) ?_
  unfold F7.B10
  have he0 := he0_.le lm
  have o1 := o1_.le lm
  have hw := hw_.le lm
  refine ldI_own o1 rfl (ld1_own o1 rfl (toGraph_ok he0 (by omega) fun z0 H11 l11 fz0 => agg2_mk (asI_mk ?_)))
  have he0 := he0.le l11; have o1 := o1.le l11; have fg := fg.le l11; have hw := hw.le l11
  refine implWeak_ok fz0.edges s0 fun h H12 l12 fh => tup2_mk (asI_mk ?_)
  have fg := fg.le l12; have hw := hw.le l12
  unfold F7.B9
  refine eqInt64S_ok fh.ints hw (by omega) (asB_mk (pif_f (by simp) (pif_f (by simp) ?_)))
  unfold F7.B7 F7.B6
  refine heldInt64S_ok (by decide) (by omega) fg.ints (by rw [hm]) (asI_mk ?_)
  unfold F7.B5
  refine pif_f (decide_eq_false (by omega)) ?_
  unfold F7.B3
  refine pif_f (by rw [hm]; simp) ?_
  unfold F7.B1
  rfl
end Go.Proofs
