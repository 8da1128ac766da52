/- Plain mathematics: the way round a cycle, as a list. -/
import Derived.Test.YtfcflpcmjlbedabM12
set_option linter.unusedVariables false
set_option linter.unusedSimpArgs false
namespace Go.Proofs
open Go.Abs

/-- The other edge left at a vertex. -/
noncomputable def nxE (es : List (Int × Int)) (p : Nat → Bool) (now v : Nat) : Nat := @dite Nat (∃ q, q < es.length ∧ p q = true ∧ q ≠ now ∧ on (es.getD q (0, 0)) v = true) (Classical.propDecidable _) (fun h => Classical.choose h) fun _ => 0
/-- The edge that one is at behind so many steps, and the vertex that one goes to. -/
noncomputable def wk (es : List (Int × Int)) (p : Nat → Bool) (e : Nat) : Nat → Nat × Nat
  | 0 => (e, (es.getD e (0, 0)).2.toNat)
  | t + 1 => (nxE es p (wk es p e t).1 (wk es p e t).2, othN es (nxE es p (wk es p e t).1 (wk es p e t).2 : Nat) (wk es p e t).2)
noncomputable def wkL (es : List (Int × Int)) (p : Nat → Bool) (e T : Nat) : List Int := (List.range T).map fun t => ((wk es p e t).1 : Int)
theorem wkL_succ (es : List (Int × Int)) (p : Nat → Bool) (e T : Nat) : wkL es p e (T + 1) = wkL es p e T ++ [((wk es p e T).1 : Int)] := by
  unfold wkL; rw [List.range_succ, List.map_append]; rfl
theorem wkL_length (es : List (Int × Int)) (p : Nat → Bool) (e T : Nat) : (wkL es p e T).length = T := by simp [wkL]
section
variable {es : List (Int × Int)} {p : Nat → Bool} {n : Int} {e now v q : Nat}
theorem nx_eq (h2 : degB es p v = 2) (hn1 : now < es.length) (hn2 : p now = true) (hn3 : on (es.getD now (0, 0)) v = true) (h1 : q < es.length) (h3 : p q = true) (h4 : q ≠ now) (h5 : on (es.getD q (0, 0)) v = true) : nxE es p now v = q := by
  have hex : ∃ q, q < es.length ∧ p q = true ∧ q ≠ now ∧ on (es.getD q (0, 0)) v = true := ⟨q, h1, h3, h4, h5⟩
  have e : nxE es p now v = Classical.choose hex := by unfold nxE; rw [dif_pos hex]
  obtain ⟨g1, g2, g3, g4⟩ := Classical.choose_spec hex
  rw [e]
  generalize Classical.choose hex = r at g1 g2 g3 g4
  apply Classical.byContradiction
  intro hne
  have := nodup_sub (l := [((now : Nat) : Int), ((q : Nat) : Int), ((r : Nat) : Int)]) (m := filtB (fun j => on (es.getD j (0, 0)) v && p j) es.length) (by
    simp only [List.nodup_cons, List.mem_cons, List.not_mem_nil, or_false, not_or, List.nodup_nil, not_false_eq_true, and_true]
    omega) fun x hx => by
      simp only [List.mem_cons, List.not_mem_nil, or_false] at hx
      rcases hx with rfl | rfl | rfl
      · exact mem_filtB.2 ⟨_, rfl, hn1, by rw [hn3, hn2]; rfl⟩
      · exact mem_filtB.2 ⟨_, rfl, h1, by rw [h5, h3]; rfl⟩
      · exact mem_filtB.2 ⟨_, rfl, g1, by rw [g4, g2]; rfl⟩
  unfold degB at h2
  rw [h2] at this
  simp at this
/-- The walk along the list. -/
theorem wk_walk (hg : IsG n es) (h2 : ∀ x : Nat, (x : Int) < n → degB es p x = 2) (he : e < es.length) (hpe : p e = true) : ∀ t, t ≤ (compL es p e).length → ∃ a0 w, Walk n es p e a0 (fun _ => False) (wkL es p e t) (wk es p e t).1 w (wk es p e t).2
  | 0, _ => by
    obtain ⟨d1, d2, d3, d4, d5⟩ := hg.ed.ends es[e] (List.getElem_mem he)
    rw [← getD_of (d := (0, 0)) he] at d1 d2 d3 d4 d5
    refine ⟨(es.getD e (0, 0)).1.toNat, (es.getD e (0, 0)).1.toNat, ?_⟩
    show Walk n es p e _ _ [] e _ (es.getD e (0, 0)).2.toNat
    refine ⟨(fun i hi => by cases hi), List.nodup_nil, fun x => by simp [degC], he, hpe, .refl, ?_, ?_, by omega, by omega, by omega, .inl ⟨rfl, rfl, rfl⟩⟩
    · unfold on; simp only [Bool.or_eq_true, beq_iff_eq]; left; omega
    · unfold on; simp only [Bool.or_eq_true, beq_iff_eq]; right; omega
  | t + 1, ht => by
    obtain ⟨a0, w, hW⟩ := wk_walk hg h2 he hpe t (by omega)
    have hend : ∀ i, i < es.length → ∀ x : Int, on (es.getD i (0, 0)) x = true → 0 ≤ x ∧ x < n := fun i hi x hx => by
      obtain ⟨d1, d2, d3, d4, d5⟩ := hg.ed.ends es[i] (List.getElem_mem hi)
      rw [← getD_of (d := (0, 0)) hi] at d1 d2 d3 d4 d5
      unfold on at hx
      simp only [Bool.or_eq_true, beq_iff_eq] at hx
      omega
    have hnot : ((wk es p e t).1 : Int) ∉ wkL es p e t := fun hm => by
      have := (hW.comp (hW.stop h2 hend (fun h => h) (fun _ _ _ h _ => h) (.inl hm))).1
      rw [wkL_length] at this; omega
    have hvn := hW.vn
    obtain ⟨q, q1, q2, q3, q4⟩ := other_left (now := (wk es p e t).1) (h2 (wk es p e t).2 hvn) hW.lt
    have hnx := nx_eq (h2 _ hvn) hW.lt hW.pn hW.onv q1 q2 q3 q4
    obtain ⟨d1, d2, d3, d4, d5⟩ := hg.ed.ends es[q] (List.getElem_mem q1)
    rw [← getD_of (d := (0, 0)) q1] at d1 d2 d3 d4 d5
    have hon := q4
    unfold on at hon
    simp only [Bool.or_eq_true, beq_iff_eq] at hon
    have ho : (othN es (q : Int) (wk es p e t).2 : Int) = (es.getD q (0, 0)).1 + (es.getD q (0, 0)).2 - (wk es p e t).2 := by unfold othN; rw [Int.toNat_natCast]; omega
    refine ⟨a0, (wk es p e t).2, ?_⟩
    rw [wkL_succ]
    have e1 : (wk es p e (t + 1)).1 = q := by rw [wk, hnx]
    have e2 : (wk es p e (t + 1)).2 = othN es (q : Int) (wk es p e t).2 := by rw [wk, hnx]
    rw [e1, e2]
    refine hW.step hnot (fun h => h) q1 q2 q3 q4 ?_ (by omega) (by omega)
    unfold on
    simp only [Bool.or_eq_true, beq_iff_eq]
    omega
theorem wk_not (hg : IsG n es) (h2 : ∀ x : Nat, (x : Int) < n → degB es p x = 2) (he : e < es.length) (hpe : p e = true) {t : Nat} (ht : t < (compL es p e).length) : ((wk es p e t).1 : Int) ∉ wkL es p e t := by
  obtain ⟨a0, w, hW⟩ := wk_walk hg h2 he hpe t (by omega)
  have hend : ∀ i, i < es.length → ∀ x : Int, on (es.getD i (0, 0)) x = true → 0 ≤ x ∧ x < n := fun i hi x hx => by
    obtain ⟨d1, d2, d3, d4, d5⟩ := hg.ed.ends es[i] (List.getElem_mem hi)
    rw [← getD_of (d := (0, 0)) hi] at d1 d2 d3 d4 d5
    unfold on at hx
    simp only [Bool.or_eq_true, beq_iff_eq] at hx
    omega
  intro hm
  have := (hW.comp (hW.stop h2 hend (fun h => h) (fun _ _ _ h _ => h) (.inl hm))).1
  rw [wkL_length] at this; omega
theorem wkL_all (hg : IsG n es) (h2 : ∀ x : Nat, (x : Int) < n → degB es p x = 2) (he : e < es.length) (hpe : p e = true) (j : Nat) : (j : Int) ∈ wkL es p e (compL es p e).length ↔ Rch (eAdj es p) e j := by
  obtain ⟨a0, w, hW⟩ := wk_walk hg h2 he hpe _ (Nat.le_refl _)
  constructor
  · intro hj
    obtain ⟨j', e1, _, _, h4, _⟩ := hW.mem _ hj
    obtain rfl : j = j' := by omega
    exact h4
  · intro hr
    have hm : (j : Int) ∈ compL es p e := mem_compL.2 ⟨j, rfl, (eRch_in hr ⟨he, hpe⟩).1, hr⟩
    refine nodup_sup (m := compL es p e) hW.nd (fun x hx => ?_) (by rw [wkL_length]; exact Nat.le_refl _) _ hm
    obtain ⟨i, rfl, h1, _, h3, _⟩ := hW.mem x hx
    exact mem_compL.2 ⟨i, rfl, h1, h3⟩
end
/-- The cycles with a least edge less than k. -/
noncomputable def cycW (es : List (Int × Int)) (p : Nat → Bool) : Nat → List (List Int)
  | 0 => []
  | k + 1 => cycW es p k ++ if p k = true ∧ cLeadB es p k = true then [wkL es p k (compL es p k).length] else []
end Go.Proofs
