/- Plain mathematics: the cycles of a set of edges: its connected parts. -/
import Derived.Test.YtfcflpcmjlbedabM6
set_option linter.unusedVariables false
set_option linter.unusedSimpArgs false
namespace Go.Proofs
open Go.Abs

/-- Edges of a kind that have a vertex in common. -/
def eAdj (es : List (Int × Int)) (p : Nat → Bool) (i j : Nat) : Prop := j < es.length ∧ p j = true ∧ share (es.getD i (0, 0)) (es.getD j (0, 0))
noncomputable def rchB (adj : Nat → Nat → Prop) (e : Nat) (j : Nat) : Bool := decide (Rch adj e j)
theorem rchB_iff {adj : Nat → Nat → Prop} {e j : Nat} : rchB adj e j = true ↔ Rch adj e j := by unfold rchB; simp
theorem share_symm {a b : Int × Int} (h : share a b) : share b a := by
  obtain ⟨v, h1, h2⟩ := h; exact ⟨v, h2, h1⟩
section
variable {es : List (Int × Int)} {p : Nat → Bool} {l : List Int}
theorem eRch_in {i j : Nat} (h : Rch (eAdj es p) i j) (hi : i < es.length ∧ p i = true) : j < es.length ∧ p j = true :=
  h.keep (P := fun x => x < es.length ∧ p x = true) (fun x y hxy _ => ⟨hxy.1, hxy.2.1⟩) hi
theorem eRch_symm {i j : Nat} (h : Rch (eAdj es p) i j) (hi : i < es.length ∧ p i = true) : Rch (eAdj es p) j i := by
  have : ∀ x, Rch (eAdj es p) i x → Rch (eAdj es p) x i ∧ (x < es.length ∧ p x = true) := by
    intro x hx
    induction hx with
    | refl => exact ⟨.refl, hi⟩
    | step _ h2 ih => exact ⟨(Rch.step .refl ⟨ih.2.1, ih.2.2, share_symm h2.2.2⟩).trans ih.1, h2.1, h2.2.1⟩
  exact (this j h).1
def cLead (es : List (Int × Int)) (p : Nat → Bool) (i : Nat) : Prop := ∀ j, j < i → p j = true → ¬ Rch (eAdj es p) j i
noncomputable def cLeadB (es : List (Int × Int)) (p : Nat → Bool) (i : Nat) : Bool := @decide (cLead es p i) (Classical.propDecidable _)
theorem cLeadB_iff {i : Nat} : cLeadB es p i = true ↔ cLead es p i := by unfold cLeadB; simp
theorem lead_of {i : Nat} (hp : p i = true) (hn : ¬ cLead es p i) : ∃ j, j < i ∧ p j = true ∧ cLead es p j ∧ Rch (eAdj es p) j i := by
  induction i using Nat.strongRecOn with
  | _ i ih =>
    have : ∃ j, j < i ∧ p j = true ∧ Rch (eAdj es p) j i := by
      apply Classical.byContradiction
      intro h
      exact hn fun j h1 h2 h3 => h ⟨j, h1, h2, h3⟩
    obtain ⟨j, h1, h2, h3⟩ := this
    by_cases hl : cLead es p j
    · exact ⟨j, h1, h2, hl, h3⟩
    · obtain ⟨j', g1, g2, g3, g4⟩ := ih j h1 h2 hl
      exact ⟨j', by omega, g2, g3, g4.trans h3⟩
/-- A connected part. -/
noncomputable def compL (es : List (Int × Int)) (p : Nat → Bool) (i : Nat) : List Int := filtB (rchB (eAdj es p) i) es.length
/-- The parts of a list's edges, by their first edges. -/
noncomputable def cycOf (es : List (Int × Int)) (p : Nat → Bool) (l : List Int) : List (List Int) := (l.filter fun x => cLeadB es p x.toNat).map fun x => compL es p x.toNat
theorem cycOf_take {t : Nat} (h : t < l.length) : cycOf es p (l.take (t + 1)) = cycOf es p (l.take t) ++ if cLeadB es p (l[t]).toNat then [compL es p (l[t]).toNat] else [] := by
  unfold cycOf
  rw [List.take_succ_eq_append_getElem h, List.filter_append, List.map_append]
  congr 1
  cases hl : cLeadB es p (l[t]).toNat <;> simp [hl]
theorem asc_take {t : Nat} (ha : Asc l) (ht : t < l.length) (y : Int) : y ∈ l.take t ↔ y ∈ l ∧ y < l[t] := by
  unfold Asc at ha
  rw [List.pairwise_iff_getElem] at ha
  constructor
  · intro h
    obtain ⟨i, hi, rfl⟩ := List.getElem_of_mem h
    rw [List.length_take] at hi
    rw [List.getElem_take]
    exact ⟨List.getElem_mem _, ha i t _ _ (by omega)⟩
  · rintro ⟨h, hlt⟩
    obtain ⟨i, hi, rfl⟩ := List.getElem_of_mem h
    rcases Nat.lt_or_ge i t with h' | h'
    · have : (l.take t)[i]'(by simp; omega) = l[i] := List.getElem_take ..
      rw [← this]; exact List.getElem_mem _
    · rcases Nat.lt_or_ge t i with h2 | h2
      · have := ha t i ht hi h2; omega
      · obtain rfl : i = t := by omega
        omega
/-- Whether a part that was met has the next edge. -/
theorem met_iff {n : Nat} (hl : l = filtB p es.length) {t : Nat} (ht : t < l.length) : (∃ y ∈ l.take t, cLeadB es p y.toNat = true ∧ Rch (eAdj es p) y.toNat (l[t]).toNat) ↔ cLeadB es p (l[t]).toNat = false := by
  have hasc : Asc l := by rw [hl]; exact filtB_asc _ _
  have hm : ∀ x, x ∈ l ↔ ∃ j : Nat, x = j ∧ j < es.length ∧ p j = true := fun x => by rw [hl]; exact mem_filtB
  obtain ⟨i, hi, hi1, hi2⟩ := (hm _).1 (List.getElem_mem ht)
  rw [hi, Int.toNat_natCast]
  constructor
  · rintro ⟨y, hy, h1, h2⟩
    rw [asc_take hasc ht] at hy
    obtain ⟨j, rfl, hj1, hj2⟩ := (hm y).1 hy.1
    rw [Int.toNat_natCast] at h2
    cases hb : cLeadB es p i with
    | false => rfl
    | true => exact absurd h2 (cLeadB_iff.1 hb j (by omega) hj2)
  · intro hb
    obtain ⟨j, h1, h2, h3, h4⟩ := lead_of (es := es) hi2 fun h => by rw [cLeadB_iff.2 h] at hb; cases hb
    refine ⟨j, (asc_take hasc ht _).2 ⟨(hm _).2 ⟨j, rfl, by omega, h2⟩, by omega⟩, ?_, ?_⟩
    · exact cLeadB_iff.2 h3
    · exact h4
theorem compL_asc (i : Nat) : Asc (compL es p i) := filtB_asc _ _
theorem mem_compL {i : Nat} {x : Int} : x ∈ compL es p i ↔ ∃ j : Nat, x = j ∧ j < es.length ∧ Rch (eAdj es p) i j := by
  unfold compL; rw [mem_filtB]
  exact ⟨fun ⟨j, h1, h2, h3⟩ => ⟨j, h1, h2, rchB_iff.1 h3⟩, fun ⟨j, h1, h2, h3⟩ => ⟨j, h1, h2, rchB_iff.2 h3⟩⟩
end
/-- Vertices that an edge joins. -/
def vAdj (fs : List (Int × Int)) (a b : Nat) : Prop := ((a : Int), (b : Int)) ∈ fs ∨ ((b : Int), (a : Int)) ∈ fs
theorem vAdj_symm {fs : List (Int × Int)} (a b : Nat) (h : vAdj fs a b) : vAdj fs b a := Or.symm h
theorem kept_mem {es : List (Int × Int)} {p : Nat → Bool} {e : Int × Int} : e ∈ keptL es (filtB p es.length) ↔ ∃ j, j < es.length ∧ p j = true ∧ e = es.getD j (0, 0) := by
  unfold keptL
  rw [List.mem_map]
  constructor
  · rintro ⟨x, hx, rfl⟩
    obtain ⟨j, rfl, h1, h2⟩ := mem_filtB.1 hx
    exact ⟨j, h1, h2, rfl⟩
  · rintro ⟨j, h1, h2, rfl⟩
    exact ⟨j, mem_filtB.2 ⟨j, rfl, h1, h2⟩, rfl⟩
/-- Edges are in one part exactly if their vertices are joined. -/
theorem part_iff {es : List (Int × Int)} {p : Nat → Bool} (hr : ∀ e ∈ es, 0 ≤ e.1 ∧ 0 ≤ e.2) {a b : Nat} (ha : a < es.length ∧ p a = true) (hb : b < es.length ∧ p b = true) :
    Rch (vAdj (keptL es (filtB p es.length))) (es.getD a (0, 0)).1.toNat (es.getD b (0, 0)).1.toNat ↔ Rch (eAdj es p) a b := by
  have nn : ∀ j, j < es.length → 0 ≤ (es.getD j (0, 0)).1 ∧ 0 ≤ (es.getD j (0, 0)).2 := fun j hj => by rw [getD_of hj]; exact hr _ (List.getElem_mem hj)
  have onl : ∀ e : Int × Int, on e e.1 = true := fun e => by unfold on; simp
  have onr : ∀ e : Int × Int, on e e.2 = true := fun e => by unfold on; simp
  constructor
  · intro h
    have key : ∀ w, Rch (vAdj (keptL es (filtB p es.length))) (es.getD a (0, 0)).1.toNat w → ∀ f, f < es.length → p f = true → on (es.getD f (0, 0)) w = true → Rch (eAdj es p) a f := by
      intro w hw
      induction hw with
      | refl =>
        intro f h1 h2 h3
        exact .step .refl ⟨h1, h2, (es.getD a (0, 0)).1, onl _, by have := (nn a ha.1).1; rwa [show (((es.getD a (0, 0)).1.toNat : Nat) : Int) = (es.getD a (0, 0)).1 by omega] at h3⟩
      | @step x y _ h2 ih =>
        intro f g1 g2 g3
        have : ∃ j, j < es.length ∧ p j = true ∧ on (es.getD j (0, 0)) x = true ∧ on (es.getD j (0, 0)) y = true := by
          rcases h2 with h2 | h2
          · obtain ⟨j, j1, j2, j3⟩ := kept_mem.1 h2
            exact ⟨j, j1, j2, by rw [← j3]; exact onl _, by rw [← j3]; exact onr _⟩
          · obtain ⟨j, j1, j2, j3⟩ := kept_mem.1 h2
            exact ⟨j, j1, j2, by rw [← j3]; exact onr _, by rw [← j3]; exact onl _⟩
        obtain ⟨j, j1, j2, j3, j4⟩ := this
        exact .step (ih j j1 j2 j3) ⟨g1, g2, y, j4, g3⟩
    exact key _ h b hb.1 hb.2 (by have := (nn b hb.1).1; rw [show (((es.getD b (0, 0)).1.toNat : Nat) : Int) = (es.getD b (0, 0)).1 by omega]; exact onl _)
  · intro h
    have joined : ∀ j, j < es.length → p j = true → ∀ v, on (es.getD j (0, 0)) v = true → Rch (vAdj (keptL es (filtB p es.length))) (es.getD j (0, 0)).1.toNat v.toNat := by
      intro j j1 j2 v hv
      have := nn j j1
      unfold on at hv
      simp only [Bool.or_eq_true, beq_iff_eq] at hv
      rcases hv with rfl | rfl
      · exact .refl
      · refine .step .refl (.inl ?_)
        rw [show (((es.getD j (0, 0)).1.toNat : Nat) : Int) = (es.getD j (0, 0)).1 by omega, show (((es.getD j (0, 0)).2.toNat : Nat) : Int) = (es.getD j (0, 0)).2 by omega]
        exact kept_mem.2 ⟨j, j1, j2, rfl⟩
    have key : ∀ f, Rch (eAdj es p) a f → (f < es.length ∧ p f = true) ∧ Rch (vAdj (keptL es (filtB p es.length))) (es.getD a (0, 0)).1.toNat (es.getD f (0, 0)).1.toNat := by
      intro f hf
      induction hf with
      | refl => exact ⟨ha, .refl⟩
      | step _ h2 ih =>
        obtain ⟨g1, g2, v, g3, g4⟩ := h2
        exact ⟨⟨g1, g2⟩, ih.2.trans ((joined _ ih.1.1 ih.1.2 v g3).trans ((joined _ g1 g2 v g4).symm vAdj_symm))⟩
    exact (key b h).2
end Go.Proofs
