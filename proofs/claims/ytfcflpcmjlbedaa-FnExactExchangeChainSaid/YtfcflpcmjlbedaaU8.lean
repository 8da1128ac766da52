/- Contracts: colourings. -/
import Derived.Test.YtfcflpcmjlbedaaU6
import Derived.Test.YtfcflpcmjlbedaaM3
set_option linter.unusedVariables false
set_option linter.unusedSimpArgs false
set_option maxRecDepth 100000
namespace Go.Proofs
open Go.Abs

variable {H : AHeap} {v u f : Value} {l m c : List Int} {es fs : List (Int × Int)} {K : Value → AHeap → Prop}

theorem lengthL_ok (h : Ints H v l) (k : K (.int .i64 l.length) H) : AC Try.prog T0 86 [v] H K := by
  apply F86.ac
  unfold F86.B2 F86.B1
  exact h.len k
theorem isColour_cl : ∀ x : Int, Cl H (.func (.func 85) ⟨[]⟩ ⟨[]⟩) (.int .i64 x) (decide (0 ≤ x ∧ x ≤ 2)) := by
  intro x G hG K k
  refine callV_mk ?_
  apply F85.ac
  unfold F85.B2 F85.B1
  exact within_ok (asB_mk (k _ (AHeap.le_refl _)))

theorem l01At_ok {n x : Int} (h : Edges H v es) (hl : es.length ≤ 1048576) (k : ∀ v' G, H.le G → Fresh H.length G v' 2 1 (LI (atL es x)) → K v' G) : AC Try.prog T0 87 [.agg ⟨[.int .i64 n, v]⟩, .int .i64 x] H K := by
  apply F87.ac
  unfold F87.B9
  refine newK_f (all_iv (edges_one' h)) fun H1 l1 n1 o1 => ?_
  unfold F87.B8
  refine newK_f rfl fun H2 l2 n2 o2 => ?_
  unfold F87.B7 F87.L2
  refine ⟨fun x1 x2 x5 x6 G => x1 = x ∧ x2 = H.length ∧ 0 ≤ x6 ∧ x6 ≤ es.length ∧ H1.le G ∧ Fresh H1.length G x5 2 1 (LI (atTo es x x6.toNat)), fun _ _ _ x6 _ => es.length - x6.toNat, ⟨rfl, rfl, by omega, by omega, l2, .inr ⟨_, 0, Nat.le_refl _, rfl, o2, rfl⟩⟩, ?_⟩
  rintro x1 x2 x5 x6 G ⟨rfl, rfl, h0, h1, hG, hF⟩
  have oG := hG.2 _ _ o1
  have lG := AHeap.le_trans l1 hG
  unfold F87.B6
  refine ld1_own oG rfl ((h.le lG).len (pif_cases (fun hb => ?_) fun hb => ?_))
  · have hlt : x6 < es.length := of_decide_eq_true hb
    obtain ⟨i, rfl⟩ : ∃ i : Nat, x6 = i := ⟨x6.toNat, by omega⟩
    simp only [Int.toNat_natCast] at hF
    have yes : on (es.getD i (0, 0)) x1 = true → ∀ N : Int → Nat → Value → Int → AHeap → Prop, (∀ x5' G', H1.le G' → Fresh H1.length G' x5' 2 1 (LI (atTo es x1 (i + 1))) → N x1 H.length x5' ((i : Int) + 1) G') → F87.B4 K N x1 H.length x5 i G := by
      intro ho N hN
      unfold F87.B4
      refine push_int hF hG (by have := atTo_length es x1 i; omega) fun v' G2 hG2 hF2 _ => ?_
      unfold F87.B3
      rw [wrap_id (by omega) (by omega)]
      exact hN _ _ hG2 (by rw [atTo_succ, if_pos ho]; exact hF2)
    have fin : ∀ x5' G', H1.le G' → Fresh H1.length G' x5' 2 1 (LI (atTo es x1 (i + 1))) → (x1 = x1 ∧ H.length = H.length ∧ 0 ≤ (i : Int) + 1 ∧ (i : Int) + 1 ≤ es.length ∧ H1.le G' ∧ Fresh H1.length G' x5' 2 1 (LI (atTo es x1 ((i : Int) + 1).toNat))) ∧ es.length - ((i : Int) + 1).toNat < es.length - (i : Int).toNat :=
      fun x5' G' a b => ⟨⟨rfl, rfl, by omega, by omega, a, by rw [show ((i : Int) + 1).toNat = i + 1 by omega]; exact b⟩, by omega⟩
    unfold F87.B5
    obtain ⟨b, o, hk, c1, c2⟩ := (h.le lG).idx h0 hlt
    simp only [Int.toNat_natCast] at c1 c2
    refine ld1_own oG rfl (hk _ (ldI_mk c1 (pif_cases (fun hs => ?_) fun hs => ?_)))
    · exact yes (by unfold on; rw [hs]; rfl) _ fin
    · refine ld1_own oG rfl (hk _ (ldI_mk c2 (pif_cases (fun ht => ?_) fun ht => ?_)))
      · exact yes (by unfold on; rw [hs, ht]; rfl) _ fin
      · unfold F87.B3
        rw [wrap_id (by omega) (by omega)]
        exact fin _ _ hG (by rw [atTo_succ, if_neg (by unfold on; rw [hs, ht]; decide), List.append_nil]; exact hF)
  · have hge : ¬ x6 < es.length := of_decide_eq_false hb
    have : x6 = es.length := by omega
    subst this
    unfold F87.B1
    exact k _ _ lG (hF.less l1.1)

/-- An edge's end. -/
def en (e : Int × Int) (k : Nat) : Int := if k = 0 then e.1 else e.2
def Fits (es : List (Int × Int)) (c : List Int) (e : Nat) (x : Int) : Prop := ∀ i, i < e → share (es.getD i (0, 0)) (es.getD e (0, 0)) → c.getD i 0 ≠ x
noncomputable instance (es : List (Int × Int)) (c : List Int) (e : Nat) (x : Int) : Decidable (Fits es c e x) := Classical.propDecidable _
theorem on_en {e : Int × Int} {k : Nat} : on e (en e k) = true := by
  unfold on en; split <;> simp
theorem on_cases {e : Int × Int} {v : Int} (h : on e v = true) : v = en e 0 ∨ v = en e 1 := by
  unfold on at h; unfold en
  simp only [Bool.or_eq_true, beq_iff_eq] at h
  rcases h with h | h
  · left; simp [h]
  · right; simp [h]
theorem cell_en {H : AHeap} {b o k : Nat} {e : Int × Int} (h1 : H.cell b o = some (.int .i64 e.1)) (h2 : H.cell b (o + 1) = some (.int .i64 e.2)) (hk : k < 2) : H.cell b (o + Int.toNat (k : Int) * 1) = some (.int .i64 (en e k)) := by
  rcases (by omega : k = 0 ∨ k = 1) with rfl | rfl
  · simpa [en] using h1
  · simpa [en] using h2

theorem l02Fits_ok {n x : Int} {e : Nat} (h : Edges H v es) (hl : es.length ≤ 1048576) (hg : IsG n es) (hc : Ints H u c) (hcl : c.length = es.length) (he : e < es.length) (k : ∀ G, H.le G → K (.bool (decide (Fits es c e x))) G) :
    AC Try.prog T0 77 [.agg ⟨[.int .i64 n, v]⟩, u, .int .i64 e, .int .i64 x] H K := by
  apply F77.ac
  unfold F77.B13
  refine newK_f (all_iv (edges_one' h)) fun H1 l1 n1 o1 => ?_
  unfold F77.B12 F77.L2
  refine ⟨fun x1 x2 x3 x4 x9 G => x1 = u ∧ x2 = e ∧ x3 = x ∧ x4 = H.length ∧ H1.le G ∧ ∃ j : Nat, x9 = j ∧ j ≤ 2 ∧ ∀ j', j' < j → ∀ i, i < e → on (es.getD i (0, 0)) (en (es.getD e (0, 0)) j') = true → c.getD i 0 ≠ x, fun _ _ _ _ x9 _ => 2 - x9.toNat, ⟨rfl, rfl, rfl, rfl, AHeap.le_refl _, 0, rfl, by omega, fun j' hj => absurd hj (by omega)⟩, ?_⟩
  rintro x1 x2 x3 x4 x9 G ⟨rfl, rfl, rfl, rfl, hG, j, rfl, hj, hp⟩
  have oG := hG.2 _ _ o1
  have lG := AHeap.le_trans l1 hG
  obtain ⟨d1, d2, d3, d4, _⟩ := hg.ed.ends es[e] (List.getElem_mem he)
  unfold F77.B11
  refine pif_cases (fun hb => ?_) fun hb => ?_
  · have hj2 : j < 2 := by have := of_decide_eq_true hb; omega
    unfold F77.B10
    obtain ⟨b, o, hk, c1, c2⟩ := (h.le lG).idx (show (0 : Int) ≤ (e : Int) by omega) (by omega)
    simp only [Int.toNat_natCast] at c1 c2
    refine ldI_own oG rfl (ld1_own oG rfl (ld1_own oG rfl (hk _ (bndK_iff.2 ⟨by omega, by omega, ldI_mk (cell_en c1 c2 hj2) (l01At_ok (h.le lG) hl fun w G2 hG2 hF => ?_)⟩))))
    have hv : 0 ≤ en (es.getD e (0, 0)) j ∧ en (es.getD e (0, 0)) j < n := by
      rw [getD_of he]; unfold en; split <;> omega
    have h3 := hg.three hv.1 hv.2
    have lG2 := AHeap.le_trans lG hG2
    unfold F77.B9 F77.L4
    refine ⟨fun y1 y2 y3 y4 y9 y10 y11 G' => y1 = x1 ∧ y2 = e ∧ y3 = x3 ∧ y4 = H.length ∧ y9 = j ∧ y10 = w ∧ G' = G2 ∧ 0 ≤ y11 ∧ y11 ≤ 3 ∧ ∀ t : Nat, (t : Int) < y11 → (atL es (en (es.getD e (0, 0)) j)).getD t 0 < e → c.getD ((atL es (en (es.getD e (0, 0)) j)).getD t 0).toNat 0 ≠ x3, fun _ _ _ _ _ _ y11 _ => 3 - y11.toNat, ⟨rfl, rfl, rfl, rfl, rfl, rfl, rfl, by omega, by omega, fun t ht => absurd ht (by omega)⟩, ?_⟩
    rintro y1 y2 y3 y4 y9 y10 y11 G' ⟨rfl, rfl, rfl, rfl, rfl, rfl, rfl, g0, g1, hq⟩
    unfold F77.B8
    refine pif_cases (fun hb => ?_) fun hb => ?_
    · have ht3 : y11 < 3 := of_decide_eq_true hb
      obtain ⟨t, rfl⟩ : ∃ t : Nat, y11 = t := ⟨y11.toNat, by omega⟩
      have htl : t < (atL es (en (es.getD e (0, 0)) j)).length := by omega
      unfold F77.B7
      have fin : ((atL es (en (es.getD e (0, 0)) j)).getD t 0 < e → c.getD ((atL es (en (es.getD e (0, 0)) j)).getD t 0).toNat 0 ≠ y3) → ∀ t' : Nat, (t' : Int) < (t : Int) + 1 → (atL es (en (es.getD e (0, 0)) j)).getD t' 0 < e → c.getD ((atL es (en (es.getD e (0, 0)) j)).getD t' 0).toNat 0 ≠ y3 := by
        intro hy t' ht'
        by_cases he : t' = t
        · subst he; exact hy
        · exact hq t' (by omega)
      obtain ⟨i, hi1, hi2, hi3⟩ := mem_atL.1 (List.getElem_mem htl)
      rw [← getD_of (d := 0) htl] at hi1
      have rd : ∀ K : Int → Prop, K ((atL es (en (es.getD e (0, 0)) j)).getD t 0) → idxK y10 t 1 (fun b o => ldI .i64 G' b o K) := fun K k => by
        have := hF.ints.rd (i := (t : Int)) g0 (by omega) (K := K)
        simp only [Int.toNat_natCast] at this
        exact this k
      refine rd _ (pif_cases (fun hs => ?_) fun hs => ?_)
      · have hs := of_decide_eq_true hs
        refine rd _ ((hc.le lG2).rd (by omega) (by omega) (pif_cases (fun hu => ?_) fun hu => ?_))
        · unfold F77.B6
          have k := k _ lG2
          rw [decide_eq_false (fun hf : Fits es c e y3 => by
            rw [hi1] at hu hs
            exact hf i (by omega) ⟨_, hi3, on_en⟩ (by simpa using hu))] at k
          exact k
        · unfold F77.B5
          rw [wrap_id (by omega) (by omega)]
          exact ⟨⟨rfl, rfl, rfl, rfl, rfl, rfl, rfl, by omega, by omega, fin fun _ => by simpa using hu⟩, by simp; omega⟩
      · have hs := of_decide_eq_false hs
        unfold F77.B5
        rw [wrap_id (by omega) (by omega)]
        exact ⟨⟨rfl, rfl, rfl, rfl, rfl, rfl, rfl, by omega, by omega, fin fun h => absurd h hs⟩, by simp; omega⟩
    · have hge : ¬ y11 < 3 := of_decide_eq_false hb
      unfold F77.B3
      rw [wrap_id (by omega) (by omega)]
      refine ⟨⟨rfl, rfl, rfl, rfl, AHeap.le_trans hG hG2, j + 1, by omega, by omega, fun j' hj' i hi ho => ?_⟩, by simp; omega⟩
      by_cases he' : j' = j
      · subst he'
        have hm : (i : Int) ∈ atL es (en (es.getD e (0, 0)) j') := mem_atL.2 ⟨i, rfl, by omega, ho⟩
        obtain ⟨t, ht, hte⟩ := List.getElem_of_mem hm
        have := hq t (by omega)
        rw [getD_of ht, hte] at this
        simpa using this (by omega)
      · exact hp j' (by omega) i hi ho
  · have hj2 : j = 2 := by have := of_decide_eq_false hb; omega
    subst hj2
    unfold F77.B1
    have k := k _ lG
    rw [decide_eq_true (show Fits es c e x3 from fun i hi ⟨w, hw1, hw2⟩ => by
      rcases on_cases hw2 with rfl | rfl
      · exact hp 0 (by omega) i hi hw1
      · exact hp 1 (by omega) i hi hw1)] at k
    exact k

theorem l02Is_ok {n : Int} (h : Edges H v es) (hl : es.length ≤ 1048576) (hg : IsG n es) (hc : Ints H u c) (hcl : c.length ≤ 1048576) (k : ∀ G, H.le G → K (.bool (decide (IsC es c))) G) :
    AC Try.prog T0 48 [.agg ⟨[.int .i64 n, v]⟩, u] H K := by
  apply F48.ac
  unfold F48.B10
  refine newK_f (all_iv (edges_one' h)) fun H1 l1 n1 o1 => ?_
  unfold F48.B9
  refine (hc.le l1).len (ld1_own o1 rfl ((h.le l1).len (pif_cases (fun hb => ?_) fun hb => ?_)))
  · unfold F48.B8
    have k := k _ l1
    rw [decide_eq_false (fun hi => by have := hi.len; simp [this] at hb)] at k; exact k
  · have hlen : c.length = es.length := by have := bne_eq_false_iff_eq.1 hb; omega
    unfold F48.B7 F48.L2
    refine ⟨fun x1 x2 x5 G => x1 = u ∧ x2 = H.length ∧ H1.le G ∧ ∃ j : Nat, x5 = j ∧ j ≤ c.length ∧ ∀ i, i < j → (0 ≤ c.getD i 0 ∧ c.getD i 0 ≤ 2) ∧ Fits es c i (c.getD i 0), fun _ _ x5 _ => c.length - x5.toNat, ⟨rfl, rfl, AHeap.le_refl _, 0, rfl, by omega, fun i hi => absurd hi (by omega)⟩, ?_⟩
    rintro x1 x2 x5 G ⟨rfl, rfl, hG, j, rfl, hj, hp⟩
    have oG := hG.2 _ _ o1
    have lG := AHeap.le_trans l1 hG
    unfold F48.B6
    refine (hc.le lG).len (pif_cases (fun hb => ?_) fun hb => ?_)
    · have hlt : j < c.length := by have := of_decide_eq_true hb; omega
      have no : ∀ G', H.le G' → ¬ ((0 ≤ c.getD j 0 ∧ c.getD j 0 ≤ 2) ∧ Fits es c j (c.getD j 0)) → ∀ N, F48.B4 K N G' := by
        intro G' hG' hno N
        unfold F48.B4
        have k := k _ hG'
        rw [decide_eq_false (fun hi : IsC es c => hno ⟨by rw [getD_of hlt]; exact hi.rng _ (List.getElem_mem hlt), fun i hij hs => hi.col j (by omega) i hij hs⟩)] at k; exact k
      unfold F48.B5
      refine (hc.le lG).rd (by omega) (by omega) (l01In_ok (asB_mk ?_))
      simp only [Int.toNat_natCast]
      refine pif_cases (fun hs => ?_) fun hs => ?_
      · rw [Bool.not_eq_true'] at hs
        exact no _ lG (fun hy => of_decide_eq_false hs hy.1) _
      · rw [Bool.not_eq_false'] at hs
        have hr := of_decide_eq_true hs
        refine ldI_own oG rfl (ld1_own oG rfl ((hc.le lG).rd (by omega) (by omega) (l02Fits_ok (h.le lG) hl hg (hc.le lG) hlen (by omega) fun G2 hG2 => asB_mk ?_)))
        simp only [Int.toNat_natCast]
        refine pif_cases (fun hs => ?_) fun hs => ?_
        · rw [Bool.not_eq_true'] at hs
          exact no _ (AHeap.le_trans lG hG2) (fun hy => of_decide_eq_false hs hy.2) _
        · rw [Bool.not_eq_false'] at hs
          unfold F48.B3
          rw [wrap_id (by omega) (by omega)]
          refine ⟨⟨rfl, rfl, AHeap.le_trans hG hG2, j + 1, by omega, by omega, fun i hi => ?_⟩, by simp; omega⟩
          by_cases he : i = j
          · subst he; exact ⟨hr, of_decide_eq_true hs⟩
          · exact hp i (by omega)
    · have hge : ¬ (j : Int) < c.length := of_decide_eq_false hb
      unfold F48.B1
      have k := k _ lG
      rw [decide_eq_true (⟨hlen, fun x hx => by
        obtain ⟨i, hi, rfl⟩ := List.getElem_of_mem hx
        have := (hp i (by omega)).1
        rwa [getD_of hi] at this, fun j' hj' i hij hs => (hp j' (by omega)).2 i hij hs⟩ : IsC es c)] at k
      exact k
end Go.Proofs
