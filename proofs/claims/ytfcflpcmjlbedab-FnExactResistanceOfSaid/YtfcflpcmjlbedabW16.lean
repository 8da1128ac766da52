/- The law of ResistanceOf. -/
import Derived.Test.YtfcflpcmjlbedabV1
import Derived.Test.YtfcflpcmjlbedabU57
set_option linter.unusedVariables false
set_option linter.unusedSimpArgs false
set_option maxRecDepth 100000
namespace Go.Proofs
open Go.Abs

theorem resistanceOf_law (H : AHeap) (vs : List Value) (hv : AVs T0 H [24] vs) : AC Try.prog T0 5 vs H (fun v _ => v = .bool true) := by
  obtain ⟨v0, vs, rfl, a0, rfl⟩ := hv
  obtain ⟨n0, ve0, es0, rfl, he0, hel0⟩ := av_graph a0
  apply F5.ac
  unfold F5.B13
  refine newK_f (all_iv (edges_one' he0)) fun H1 l1 n1 o1 => ?_
  have he0 := he0.le l1
  unfold F5.B12 F5.B11
  refine ldI_own o1 rfl (ld1_own o1 rfl (szGraph_ok he0 hel0 (by decide) (by decide) (edges_one' he0) fun H2 l2 => asI_mk ?_))
  have he0 := he0.le l2; have o1 := o1.le l2
  unfold F5.B10
  refine pif_cases (fun _ => by unfold F5.B9; rfl) fun hs => ?_
  have s0 : es0.length ≤ 1048576 := by
    have := of_decide_eq_false hs
    split at this <;> omega
  -- the reference
  unfold F5.B8
  refine ldI_own o1 rfl (ld1_own o1 rfl (toGraph_ok he0 (by omega) fun p0 H3 l3 fp0 => agg2_mk (asI_mk ?_)))
  have he0 := he0.le l3; have o1 := o1.le l3
  refine specRes_ok fp0.edges s0 fun H4 l4 => tup2_mk (asI_mk (asI_mk ?_))
  have he0 := he0.le l4; have o1 := o1.le l4; have fp0 := fp0.le l4
  have he0_ := he0
  have o1_ := o1
  have cw := AHeap.le_refl H4
  -- the program
  unfold F5.B7
  refine ldI_own o1 rfl (ld1_own o1 rfl (toGraph_ok he0 (by omega) fun x0 H5 l5 f0 => agg2_mk (asI_mk ?_)))
  have e7 : x0.oneCell' = true := edges_one' f0.edges
  refine newK_f rfl fun H6 l6 n6 o0 => stK_f o0 (by simp) (mem_iv e7) rfl fun H7 b0 o9 => ?_
  have l7 : H4.le H7 := b0.le (AHeap.le_trans l5 l6) l5.1
  have fx0 : Fresh H4.length H7 x0 100 2 (LE es0) := by
    rcases f0 with f0 | ⟨c, k, q1, q2, q3, q4⟩
    · exact .inl f0
    · exact .inr ⟨c, k, q1, q2, b0.own (l6.2 _ _ q3) (by have := lt_of_get q3; omega), q4⟩
  have g0 : ∀ c k, x0 = .slice (some ⟨c, 0, none⟩) k (k + 1) → c < H7.length := fun c k e => (fx0.lt e).2
  have d0 := l7.1
  have he0 := he0.le l7; have o1 := o1.le l7
  have cw := AHeap.le_trans cw l7
  unfold F5.B6
  refine ldI_own o9 rfl (ld1_own o9 rfl (implRes_ok fx0.edges s0 fun H8 l8 => tup2_mk (asI_mk (asI_mk ?_))))
  have dg := l8.1
  have he0 := he0.le l8; have o1 := o1.le l8; have o9 := o9.le l8; have fx0 := fx0.le l8
  have cw := AHeap.le_trans cw l8
  -- the same answer
  unfold F5.B5
  refine pif_f (by simp) (pif_f (by simp) ?_)
  unfold F5.B3
  refine ldI_own o9 rfl (ld1_own o9 rfl (ldI_own o1 rfl (ld1_own o1 rfl (toGraph_ok he0 (by omega) fun y0 H9 l9 fy => agg2_mk (asI_mk ⟨l9, eqGraph_ok (fx0.edges.le l9) fy.edges (by omega) fun H10 l10 => asB_mk (pif_f (by simp) ?_)⟩)))))
  have l10 := AHeap.le_trans l9 l10
  have he0 := he0.le l10; have o1 := o1.le l10; have o9 := o9.le l10; have fx0 := fx0.le l10
  have cw := AHeap.le_trans cw l10
  unfold F5.B1
  rfl
end Go.Proofs
