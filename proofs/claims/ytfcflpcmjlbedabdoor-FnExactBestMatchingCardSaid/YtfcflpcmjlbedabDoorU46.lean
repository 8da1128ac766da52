/- Contracts: best matchings: the asked functions. -/
import Derived.Test.YtfcflpcmjlbedabDoorU45
set_option linter.unusedVariables false
set_option linter.unusedSimpArgs false
set_option maxRecDepth 100000
namespace Go.Proofs
open Go.Abs

variable {H G : AHeap} {v u f : Value} {l m c D : List Int} {es fs : List (Int × Int)} {K : Value → AHeap → Prop}

theorem bmList_small {n : Int} : (bmList n es).length ≤ 1048576 := by
  unfold bmList
  by_cases h : bmCode n es = 0
  · rw [if_pos h]
    have hg : IsG n es := by
      apply Classical.byContradiction
      intro hn
      unfold bmCode at h; rw [if_neg hn] at h; cases h
    have h30 : es.length ≤ 30 := by have := hg.ed.len; have := hg.ed.hi; omega
    have hs := best_isS hg (d := mats n es) fun l hl => hl
    have : (bestF es (mats n es)).1.length ≤ es.length := by rw [hs.filt]; exact filtB_length _ _
    omega
  · rw [if_neg h]; simp
theorem specBest_ok {n : Int} (h : Edges H v es) (hl : es.length ≤ 1048576) (k : ∀ v' G, H.le G → Fresh H.length G v' 2 1 (LI (bmList n es)) → K (.tuple ⟨[v', .int .i64 (bmCode n es)]⟩) G) : AC Tryd.prog T0 5 [.agg ⟨[.int .i64 n, v]⟩] H K := by
  apply F5.ac
  unfold F5.B7
  refine newK_f (all_iv (edges_one' h)) fun H1 l1 _ o1 => ?_
  unfold F5.B6
  refine ldI_own o1 rfl (ld1_own o1 rfl (l01Is_ok (h.le l1) hl fun H2 l2 => asB_mk ?_))
  have l12 := AHeap.le_trans l1 l2
  have o2 := o1.le l2
  refine pif_cases (fun hs => ?_) fun hs => ?_
  · have hg : ¬ IsG n es := by simpa using hs
    have e : bmCode n es = 1 := by unfold bmCode; rw [if_neg hg]
    unfold F5.B5
    have k := k (.slice none 0 0) _ l12
    unfold bmList at k
    rw [e] at k
    exact k (.inl ⟨rfl, .inl rfl⟩)
  have hg : IsG n es := by simpa using hs
  unfold F5.B4
  refine ldI_own o2 rfl (ld1_own o2 rfl (l04Best_ok (h.le l12) hg fun w H3 l3 f3 => tup3_mk (asI_mk (asB_mk ?_))))
  have l13 := AHeap.le_trans l12 l3
  unfold F5.B3
  refine pif_cases (fun hs => ?_) fun hs => ?_
  · have he : mats n es = [] := by simpa using hs
    have e : bmCode n es = 4 := by unfold bmCode; rw [if_pos hg, if_pos he]
    unfold F5.B2
    have k := k (.slice none 0 0) _ l13
    unfold bmList at k
    rw [e] at k
    exact k (.inl ⟨rfl, .inl rfl⟩)
  · have he : mats n es ≠ [] := by simpa using hs
    have e : bmCode n es = 0 := by unfold bmCode; rw [if_pos hg, if_neg he]
    unfold F5.B1
    have k := k w _ l13
    unfold bmList at k
    rw [e, if_pos rfl] at k
    exact k (f3.less l12.1)
theorem implBest_ok {n : Int} (hT : Tab H) (h : Edges H v es) (hl : es.length ≤ 1048576) (k : ∀ v' G, H.le G → Fresh H.length G v' 2 1 (LI (bmList n es)) → K (.tuple ⟨[v', .int .i64 (bmCode n es)]⟩) G) : AC Tryd.prog T0 7 [.agg ⟨[.int .i64 n, v]⟩] H K := by
  apply F7.ac
  unfold F7.B8
  refine newK_f (all_iv (edges_one' h)) fun H1 l1 _ o1 => ?_
  unfold F7.B7
  refine ldI_own o1 rfl (ld1_own o1 rfl (graphCode_ok (b := true) (h.le l1) hl fun H2 l2 => asI_mk ?_))
  have l12 := AHeap.le_trans l1 l2
  have o2 := o1.le l2
  have e : (if IsG n es then (if true = true then 0 else 2) else 1 : Int) = grCode n es := by unfold grCode; simp
  rw [e]
  unfold F7.B6
  refine pif_cases (fun hs => ?_) fun hs => ?_
  · have hg : ¬ IsG n es := fun h => by unfold grCode at hs; rw [if_pos h] at hs; simp at hs
    have e0 : grCode n es = 1 := by unfold grCode; rw [if_neg hg]
    have e : bmCode n es = 1 := by unfold bmCode; rw [if_neg hg]
    unfold F7.B5
    have k := k (.slice none 0 0) _ l12
    unfold bmList at k
    rw [e] at k
    rw [e0]
    exact k (.inl ⟨rfl, .inl rfl⟩)
  have hg : IsG n es := by
    unfold grCode at hs
    by_cases h : IsG n es
    · exact h
    · rw [if_neg h] at hs; simp at hs
  have h30 : es.length ≤ 30 := by have := hg.ed.len; have := hg.ed.hi; omega
  unfold F7.B4
  refine ldI_own o2 rfl (ld1_own o2 rfl (best_ok (hT.le l12) (h.le l12) hg fun H3 l3 => tup3_mk (asI_mk (asI_mk (asB_mk ?_)))))
  have l13 := AHeap.le_trans l12 l3
  unfold F7.B3
  refine pif_cases (fun hs => ?_) fun hs => ?_
  · have he : mats n es = [] := by simpa using hs
    have e : bmCode n es = 4 := by unfold bmCode; rw [if_pos hg, if_pos he]
    unfold F7.B2
    have k := k (.slice none 0 0) _ l13
    unfold bmList at k
    rw [e] at k
    exact k (.inl ⟨rfl, .inl rfl⟩)
  · have he : mats n es ≠ [] := by simpa using hs
    have e : bmCode n es = 0 := by unfold bmCode; rw [if_pos hg, if_neg he]
    have hS := best_isS hg (d := mats n es) fun l hl => hl
    unfold F7.B1
    refine list_ok (setN_lt fun x hx => by have := hS.range x hx; omega) fun w H4 l4 f4 => ?_
    rw [hS.bits (by omega)] at f4
    have k := k w _ (AHeap.le_trans l13 l4)
    unfold bmList at k
    rw [e, if_pos rfl] at k
    exact k (f4.less l13.1)
end Go.Proofs
