/- Plain mathematics: the parts of what is left, as lists of vertices. -/
import Derived.Test.YtfcflpcmjlbedabM7
set_option linter.unusedVariables false
set_option linter.unusedSimpArgs false
namespace Go.Proofs
open Go.Abs

/-- The edges that are not of a kind. -/
def restTo (es : List (Int × Int)) (p : Nat → Bool) (k : Nat) : List (Int × Int) := ((List.range k).filter fun j => !p j).map fun j => es.getD j (0, 0)
def restL (es : List (Int × Int)) (p : Nat → Bool) : List (Int × Int) := restTo es p es.length
theorem restTo_succ (es : List (Int × Int)) (p : Nat → Bool) (k : Nat) : restTo es p (k + 1) = restTo es p k ++ if p k then [] else [es.getD k (0, 0)] := by
  unfold restTo
  rw [List.range_succ, List.filter_append, List.map_append]
  congr 1
  cases h : p k <;> simp [h]
theorem restTo_length (es : List (Int × Int)) (p : Nat → Bool) (k : Nat) : (restTo es p k).length ≤ k := by
  unfold restTo; rw [List.length_map]
  exact Nat.le_trans (List.length_filter_le _ _) (by simp)
theorem mem_restL {es : List (Int × Int)} {p : Nat → Bool} {e : Int × Int} : e ∈ restL es p ↔ ∃ j, j < es.length ∧ p j = false ∧ e = es.getD j (0, 0) := by
  unfold restL restTo
  rw [List.mem_map]
  constructor
  · rintro ⟨j, hj, rfl⟩
    rw [List.mem_filter, List.mem_range] at hj
    exact ⟨j, hj.1, by simpa using hj.2, rfl⟩
  · rintro ⟨j, h1, h2, rfl⟩
    exact ⟨j, by rw [List.mem_filter, List.mem_range]; exact ⟨h1, by simpa using h2⟩, rfl⟩
theorem restTo_none (es : List (Int × Int)) {p : Nat → Bool} (h : ∀ j, p j = false) : ∀ k, k ≤ es.length → restTo es p k = es.take k
  | 0, _ => by simp [restTo]
  | k + 1, hk => by
    rw [restTo_succ, restTo_none es h k (by omega), h k, List.take_succ_eq_append_getElem (show k < es.length by omega), getD_of (show k < es.length by omega)]; rfl
theorem restL_none (es : List (Int × Int)) {p : Nat → Bool} (h : ∀ j, p j = false) : restL es p = es := by
  unfold restL; rw [restTo_none es h _ (Nat.le_refl _), List.take_length]
theorem restL_sub {es : List (Int × Int)} {p : Nat → Bool} {e : Int × Int} (h : e ∈ restL es p) : e ∈ es := by
  obtain ⟨j, h1, _, rfl⟩ := mem_restL.1 h
  rw [getD_of h1]; exact List.getElem_mem h1

noncomputable def vLeadB (fs : List (Int × Int)) (i : Nat) : Bool := @decide (∀ b, b < i → ¬ Rch (vAdj fs) b i) (Classical.propDecidable _)
theorem vLeadB_iff {fs : List (Int × Int)} {i : Nat} : vLeadB fs i = true ↔ ∀ b, b < i → ¬ Rch (vAdj fs) b i := by unfold vLeadB; simp
noncomputable def sideL (fs : List (Int × Int)) (n v : Nat) : List Int := filtB (rchB (vAdj fs) v) n
/-- The sides with the least vertices less than k. -/
noncomputable def sidesTo (fs : List (Int × Int)) (n k : Nat) : List (List Int) := ((List.range k).filter (vLeadB fs)).map (sideL fs n)
noncomputable def sidesL (fs : List (Int × Int)) (n : Nat) : List (List Int) := sidesTo fs n n
theorem sidesTo_succ (fs : List (Int × Int)) (n k : Nat) : sidesTo fs n (k + 1) = sidesTo fs n k ++ if vLeadB fs k then [sideL fs n k] else [] := by
  unfold sidesTo
  rw [List.range_succ, List.filter_append, List.map_append]
  congr 1
  cases h : vLeadB fs k <;> simp [h]
theorem sidesTo_length (fs : List (Int × Int)) (n k : Nat) : (sidesTo fs n k).length ≤ k := by
  unfold sidesTo; rw [List.length_map]
  exact Nat.le_trans (List.length_filter_le _ _) (by simp)
theorem mem_sideL {fs : List (Int × Int)} {n v : Nat} {x : Int} : x ∈ sideL fs n v ↔ ∃ j : Nat, x = j ∧ j < n ∧ Rch (vAdj fs) v j := by
  unfold sideL; rw [mem_filtB]
  exact ⟨fun ⟨j, h1, h2, h3⟩ => ⟨j, h1, h2, rchB_iff.1 h3⟩, fun ⟨j, h1, h2, h3⟩ => ⟨j, h1, h2, rchB_iff.2 h3⟩⟩
theorem side_get {fs : List (Int × Int)} {n j : Nat} (h : j < (sidesL fs n).length) : ∃ v, v < n ∧ vLeadB fs v = true ∧ (sidesL fs n).getD j [] = sideL fs n v ∧ ((List.range n).filter (vLeadB fs))[j]? = some v := by
  unfold sidesL sidesTo at h ⊢
  rw [List.length_map] at h
  have hm := List.getElem_mem h
  rw [List.mem_filter, List.mem_range] at hm
  refine ⟨_, hm.1, hm.2, ?_, List.getElem?_eq_getElem h⟩
  simp [List.getD, h]
theorem lead_eq {fs : List (Int × Int)} {a b : Nat} (ha : vLeadB fs a = true) (hb : vLeadB fs b = true) (h : Rch (vAdj fs) a b) : a = b := by
  rcases Nat.lt_trichotomy a b with h1 | h1 | h1
  · exact absurd h (vLeadB_iff.1 hb a h1)
  · exact h1
  · exact absurd (h.symm vAdj_symm) (vLeadB_iff.1 ha b h1)
theorem lead_exists {fs : List (Int × Int)} (i : Nat) : ∃ j, j ≤ i ∧ vLeadB fs j = true ∧ Rch (vAdj fs) j i := by
  induction i using Nat.strongRecOn with
  | _ i ih =>
    cases hl : vLeadB fs i with
    | true => exact ⟨i, Nat.le_refl _, hl, .refl⟩
    | false =>
      have : ∃ j, j < i ∧ Rch (vAdj fs) j i := by
        apply Classical.byContradiction
        intro h
        have : vLeadB fs i = true := vLeadB_iff.2 fun b hb hr => h ⟨b, hb, hr⟩
        rw [hl] at this; cases this
      obtain ⟨j, h1, h2⟩ := this
      obtain ⟨j', g1, g2, g3⟩ := ih j h1
      exact ⟨j', by omega, g2, g3.trans h2⟩
theorem side_disj {fs : List (Int × Int)} {n i j : Nat} (hi : i < (sidesL fs n).length) (hj : j < (sidesL fs n).length) {x : Int} (h1 : x ∈ (sidesL fs n).getD i []) (h2 : x ∈ (sidesL fs n).getD j []) : i = j := by
  obtain ⟨a, a1, a2, a3, a4⟩ := side_get hi
  obtain ⟨b, b1, b2, b3, b4⟩ := side_get hj
  rw [a3] at h1; rw [b3] at h2
  obtain ⟨y, rfl, _, h3⟩ := mem_sideL.1 h1
  obtain ⟨y', e, _, h4⟩ := mem_sideL.1 h2
  obtain rfl : y = y' := by omega
  obtain rfl := lead_eq a2 b2 (h3.trans (h4.symm vAdj_symm))
  have nd : ((List.range n).filter (vLeadB fs)).Nodup := List.nodup_range.filter _
  obtain ⟨p1, p2⟩ := List.getElem?_eq_some_iff.1 a4
  obtain ⟨q1, q2⟩ := List.getElem?_eq_some_iff.1 b4
  exact (List.getElem_inj nd).1 (p2.trans q2.symm)
theorem side_cover {fs : List (Int × Int)} {n v : Nat} (h : v < n) : ∃ j, j < (sidesL fs n).length ∧ (v : Int) ∈ (sidesL fs n).getD j [] := by
  obtain ⟨a, a1, a2, a3⟩ := lead_exists (fs := fs) v
  have hm : a ∈ (List.range n).filter (vLeadB fs) := by rw [List.mem_filter, List.mem_range]; exact ⟨by omega, a2⟩
  obtain ⟨j, hj, e⟩ := List.getElem_of_mem hm
  refine ⟨j, by unfold sidesL sidesTo; rw [List.length_map]; exact hj, ?_⟩
  have : (sidesL fs n).getD j [] = sideL fs n a := by
    unfold sidesL sidesTo; simp [List.getD, hj, e]
  rw [this]
  exact mem_sideL.2 ⟨v, rfl, h, a3⟩
theorem side_same {fs : List (Int × Int)} {n j : Nat} (hj : j < (sidesL fs n).length) {x y : Nat} (h1 : (x : Int) ∈ (sidesL fs n).getD j []) (hy : y < n) : (y : Int) ∈ (sidesL fs n).getD j [] ↔ Rch (vAdj fs) x y := by
  obtain ⟨a, a1, a2, a3, _⟩ := side_get hj
  rw [a3] at h1 ⊢
  obtain ⟨x', e, _, h3⟩ := mem_sideL.1 h1
  obtain rfl : x = x' := by omega
  rw [mem_sideL]
  constructor
  · rintro ⟨y', e, _, h4⟩
    obtain rfl : y = y' := by omega
    exact (h3.symm vAdj_symm).trans h4
  · exact fun h => ⟨y, rfl, hy, h3.trans h⟩
theorem side_range {fs : List (Int × Int)} {n j : Nat} (hj : j < (sidesL fs n).length) {x : Int} (h : x ∈ (sidesL fs n).getD j []) : ∃ y : Nat, x = y ∧ y < n := by
  obtain ⟨a, a1, a2, a3, _⟩ := side_get hj
  rw [a3] at h
  obtain ⟨y, h1, h2, _⟩ := mem_sideL.1 h
  exact ⟨y, h1, h2⟩
theorem side_length {fs : List (Int × Int)} {n j : Nat} (hj : j < (sidesL fs n).length) : ((sidesL fs n).getD j []).length ≤ n := by
  obtain ⟨a, a1, a2, a3, _⟩ := side_get hj
  rw [a3]; exact filtB_length _ _
theorem getD_set_ne {l : List Int} {i j : Nat} {x : Int} (h : i ≠ j) : (l.set i x).getD j 0 = l.getD j 0 := by simp [List.getD, List.getElem?_set, h]
theorem getD_set_self {l : List Int} {i : Nat} {x : Int} (h : i < l.length) : (l.set i x).getD i 0 = x := by simp [List.getD, h]
/-- Each vertex's place among the sides. -/
def PlaceTo (fs : List (Int × Int)) (n : Nat) (P : List Int) (k t : Nat) : Prop := P.length = n ∧ (∀ j, j < k → ∀ x : Nat, (x : Int) ∈ (sidesL fs n).getD j [] → P.getD x 0 = j) ∧ ∀ t', t' < t → P.getD (((sidesL fs n).getD k []).getD t' 0).toNat 0 = k
theorem PlaceTo.put {fs : List (Int × Int)} {n : Nat} {P : List Int} {k t : Nat} (h : PlaceTo fs n P k t) (hk : k < (sidesL fs n).length) (ht : t < ((sidesL fs n).getD k []).length) : PlaceTo fs n (P.set (((sidesL fs n).getD k []).getD t 0).toNat k) k (t + 1) := by
  obtain ⟨h1, h2, h3⟩ := h
  have hm := List.getElem_mem ht
  obtain ⟨y, e, hy⟩ := side_range hk hm
  have ey : (((sidesL fs n).getD k []).getD t 0).toNat = y := by rw [getD_of ht, e]; rfl
  rw [e] at hm
  rw [ey]
  refine ⟨by simp [h1], fun j hj x hx => ?_, fun t' ht' => ?_⟩
  · have hjl : j < (sidesL fs n).length := by omega
    by_cases ex : y = x
    · subst ex
      have := side_disj hjl hk hx hm
      omega
    · rw [getD_set_ne ex]; exact h2 j hj x hx
  · by_cases et : t' = t
    · subst et
      rw [ey]; exact getD_set_self (by omega)
    · have := h3 t' (by omega)
      by_cases ex : y = (((sidesL fs n).getD k []).getD t' 0).toNat
      · rw [← ex]; exact getD_set_self (by omega)
      · rw [getD_set_ne ex]; exact this
theorem PlaceTo.next {fs : List (Int × Int)} {n : Nat} {P : List Int} {k : Nat} (h : PlaceTo fs n P k ((sidesL fs n).getD k []).length) : PlaceTo fs n P (k + 1) 0 := by
  obtain ⟨h1, h2, h3⟩ := h
  refine ⟨h1, fun j hj x hx => ?_, fun t' h => absurd h (by omega)⟩
  by_cases e : j = k
  · subst e
    obtain ⟨t, ht, hte⟩ := List.getElem_of_mem hx
    have := h3 t ht
    rw [getD_of ht, hte] at this
    simpa using this
  · exact h2 j (by omega) x hx
theorem PlaceTo.iff {fs : List (Int × Int)} {n : Nat} {P : List Int} (h : PlaceTo fs n P (sidesL fs n).length 0) {a b : Nat} (ha : a < n) (hb : b < n) : P.getD a 0 = P.getD b 0 ↔ Rch (vAdj fs) a b := by
  obtain ⟨_, h2, _⟩ := h
  obtain ⟨i, hi, ia⟩ := side_cover (fs := fs) ha
  obtain ⟨j, hj, jb⟩ := side_cover (fs := fs) hb
  have e1 := h2 i hi a ia
  have e2 := h2 j hj b jb
  constructor
  · intro e
    obtain rfl : i = j := by omega
    exact (side_same hi ia hb).1 jb
  · intro h
    have := (side_same hi ia hb).2 h
    rw [e1, h2 i hi b this]
theorem PlaceTo.init {fs : List (Int × Int)} {n : Nat} {P : List Int} (h : P.length = n) : PlaceTo fs n P 0 0 := ⟨h, fun j hj => absurd hj (by omega), fun t ht => absurd ht (by omega)⟩

/-- A bond. -/
def Bond (n : Nat) (es : List (Int × Int)) (l : List Int) : Prop := (sidesL (restL es (bitB l)) n).length = (sidesL es n).length + 1 ∧ ∀ x ∈ l, ¬ Rch (vAdj (restL es (bitB l))) (es.getD x.toNat (0, 0)).1.toNat (es.getD x.toNat (0, 0)).2.toNat
noncomputable instance (n : Nat) (es : List (Int × Int)) (l : List Int) : Decidable (Bond n es l) := Classical.propDecidable _
end Go.Proofs
