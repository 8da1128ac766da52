/- Contracts: best matchings: the asked functions. -/
import Derived.Test.YtfcflpcmjlbedaaDoorU45
set_option linter.unusedVariables false
set_option linter.unusedSimpArgs false
set_option maxRecDepth 100000
namespace Go.Proofs
open Go.Abs

variable {H G : AHeap} {v u f : Value} {l m c D : List Int} {es fs : List (Int × Int)} {K : Value → AHeap → Prop}

theorem specOdd_ok {n : Int} (h : Edges H v es) (hl : es.length ≤ 1048576) (k : ∀ G, H.le G → K (.tuple ⟨[.int .i64 (odVal n es), .int .i64 (bmCode n es)]⟩) G) : AC Tryd.prog T0 23 [.agg ⟨[.int .i64 n, v]⟩] H K := by
  apply F23.ac
  unfold F23.B7
  refine newK_f (all_iv (edges_one' h)) fun H1 l1 _ o1 => ?_
  unfold F23.B6
  refine ldI_own o1 rfl (ld1_own o1 rfl (l01Is_ok (h.le l1) hl fun H2 l2 => asB_mk ?_))
  have l12 := AHeap.le_trans l1 l2
  have o2 := o1.le l2
  refine pif_cases (fun hs => ?_) fun hs => ?_
  · have hg : ¬ IsG n es := by simpa using hs
    have e : bmCode n es = 1 := by unfold bmCode; rw [if_neg hg]
    unfold F23.B5
    have k := k _ l12
    unfold odVal at k
    rw [e] at k
    exact k
  have hg : IsG n es := by simpa using hs
  unfold F23.B4
  refine ldI_own o2 rfl (ld1_own o2 rfl (l04Best_ok (h.le l12) hg fun w H3 l3 f3 => tup3_mk (asI_mk (asB_mk ?_))))
  have l13 := AHeap.le_trans l12 l3
  unfold F23.B3
  refine pif_cases (fun hs => ?_) fun hs => ?_
  · have he : mats n es = [] := by simpa using hs
    have e : bmCode n es = 4 := by unfold bmCode; rw [if_pos hg, if_pos he]
    unfold F23.B2
    have k := k _ l13
    unfold odVal at k
    rw [e] at k
    exact k
  · have he : mats n es ≠ [] := by simpa using hs
    have e : bmCode n es = 0 := by unfold bmCode; rw [if_pos hg, if_neg he]
    unfold F23.B1
    have k := k _ l13
    unfold odVal at k
    rw [e, if_pos rfl] at k
    exact k
theorem implOdd_ok {n : Int} (hT : Tab H) (h : Edges H v es) (hl : es.length ≤ 1048576) (k : ∀ G, H.le G → K (.tuple ⟨[.int .i64 (odVal n es), .int .i64 (bmCode n es)]⟩) G) : AC Tryd.prog T0 24 [.agg ⟨[.int .i64 n, v]⟩] H K := by
  apply F24.ac
  unfold F24.B8
  refine newK_f (all_iv (edges_one' h)) fun H1 l1 _ o1 => ?_
  unfold F24.B7
  refine ldI_own o1 rfl (ld1_own o1 rfl (graphCode_ok (b := true) (h.le l1) hl fun H2 l2 => asI_mk ?_))
  have l12 := AHeap.le_trans l1 l2
  have o2 := o1.le l2
  have e : (if IsG n es then (if true = true then 0 else 2) else 1 : Int) = grCode n es := by unfold grCode; simp
  rw [e]
  unfold F24.B6
  refine pif_cases (fun hs => ?_) fun hs => ?_
  · have hg : ¬ IsG n es := fun h => by unfold grCode at hs; rw [if_pos h] at hs; simp at hs
    have e0 : grCode n es = 1 := by unfold grCode; rw [if_neg hg]
    have e : bmCode n es = 1 := by unfold bmCode; rw [if_neg hg]
    unfold F24.B5
    have k := k _ l12
    unfold odVal at k
    rw [e] at k
    rw [e0]
    exact k
  have hg : IsG n es := by
    unfold grCode at hs
    by_cases h : IsG n es
    · exact h
    · rw [if_neg h] at hs; simp at hs
  unfold F24.B4
  refine ldI_own o2 rfl (ld1_own o2 rfl (best_ok (hT.le l12) (h.le l12) hg fun H3 l3 => tup3_mk (asI_mk (asI_mk (asB_mk ?_)))))
  have l13 := AHeap.le_trans l12 l3
  unfold F24.B3
  refine pif_cases (fun hs => ?_) fun hs => ?_
  · have he : mats n es = [] := by simpa using hs
    have e : bmCode n es = 4 := by unfold bmCode; rw [if_pos hg, if_pos he]
    unfold F24.B2
    have k := k _ l13
    unfold odVal at k
    rw [e] at k
    exact k
  · have he : mats n es ≠ [] := by simpa using hs
    have e : bmCode n es = 0 := by unfold bmCode; rw [if_pos hg, if_neg he]
    unfold F24.B1
    have k := k _ l13
    unfold odVal at k
    rw [e, if_pos rfl] at k
    exact k
end Go.Proofs
