/- Contracts: colourings. -/
import Derived.Test.YtfcflpcmjlbedabU6
import Derived.Test.YtfcflpcmjlbedabM3
set_option linter.unusedVariables false
set_option linter.unusedSimpArgs false
set_option maxRecDepth 100000
namespace Go.Proofs
open Go.Abs

variable {H : AHeap} {v u f : Value} {l m c : List Int} {es fs : List (Int × Int)} {K : Value → AHeap → Prop}

theorem l01At_ok {n x : Int} (h : Edges H v es) (hl : es.length ≤ 1048576) (k : ∀ v' G, H.le G → Fresh H.length G v' 2 1 (LI (atL es x)) → K v' G) : AC Try.prog T0 49 [.agg ⟨[.int .i64 n, v]⟩, .int .i64 x] H K := by
  apply F49.ac
  unfold F49.B9
  refine newK_f (all_iv (edges_one' h)) fun H1 l1 n1 o1 => ?_
  unfold F49.B8
  refine newK_f rfl fun H2 l2 n2 o2 => ?_
  unfold F49.B7 F49.L2
  refine ⟨fun x1 x2 x5 x6 G => x1 = x ∧ x2 = H.length ∧ 0 ≤ x6 ∧ x6 ≤ es.length ∧ H1.le G ∧ Fresh H1.length G x5 2 1 (LI (atTo es x x6.toNat)), fun _ _ _ x6 _ => es.length - x6.toNat, ⟨rfl, rfl, by omega, by omega, l2, .inr ⟨_, 0, Nat.le_refl _, rfl, o2, rfl⟩⟩, ?_⟩
  rintro x1 x2 x5 x6 G ⟨rfl, rfl, h0, h1, hG, hF⟩
  have oG := hG.2 _ _ o1
  have lG := AHeap.le_trans l1 hG
  unfold F49.B6
  refine ld1_own oG rfl ((h.le lG).len (pif_cases (fun hb => ?_) fun hb => ?_))
  · have hlt : x6 < es.length := of_decide_eq_true hb
    obtain ⟨i, rfl⟩ : ∃ i : Nat, x6 = i := ⟨x6.toNat, by omega⟩
    simp only [Int.toNat_natCast] at hF
    have yes : on (es.getD i (0, 0)) x1 = true → ∀ N : Int → Nat → Value → Int → AHeap → Prop, (∀ x5' G', H1.le G' → Fresh H1.length G' x5' 2 1 (LI (atTo es x1 (i + 1))) → N x1 H.length x5' ((i : Int) + 1) G') → F49.B4 K N x1 H.length x5 i G := by
      intro ho N hN
      unfold F49.B4
      refine push_int hF hG (by have := atTo_length es x1 i; omega) fun v' G2 hG2 hF2 _ => ?_
      unfold F49.B3
      rw [wrap_id (by omega) (by omega)]
      exact hN _ _ hG2 (by rw [atTo_succ, if_pos ho]; exact hF2)
    have fin : ∀ x5' G', H1.le G' → Fresh H1.length G' x5' 2 1 (LI (atTo es x1 (i + 1))) → (x1 = x1 ∧ H.length = H.length ∧ 0 ≤ (i : Int) + 1 ∧ (i : Int) + 1 ≤ es.length ∧ H1.le G' ∧ Fresh H1.length G' x5' 2 1 (LI (atTo es x1 ((i : Int) + 1).toNat))) ∧ es.length - ((i : Int) + 1).toNat < es.length - (i : Int).toNat :=
      fun x5' G' a b => ⟨⟨rfl, rfl, by omega, by omega, a, by rw [show ((i : Int) + 1).toNat = i + 1 by omega]; exact b⟩, by omega⟩
    unfold F49.B5
    obtain ⟨b, o, hk, c1, c2⟩ := (h.le lG).idx h0 hlt
    simp only [Int.toNat_natCast] at c1 c2
    refine ld1_own oG rfl (hk _ (ldI_mk c1 (pif_cases (fun hs => ?_) fun hs => ?_)))
    · exact yes (by unfold on; rw [hs]; rfl) _ fin
    · refine ld1_own oG rfl (hk _ (ldI_mk c2 (pif_cases (fun ht => ?_) fun ht => ?_)))
      · exact yes (by unfold on; rw [hs, ht]; rfl) _ fin
      · unfold F49.B3
        rw [wrap_id (by omega) (by omega)]
        exact fin _ _ hG (by rw [atTo_succ, if_neg (by unfold on; rw [hs, ht]; decide), List.append_nil]; exact hF)
  · have hge : ¬ x6 < es.length := of_decide_eq_false hb
    have : x6 = es.length := by omega
    subst this
    unfold F49.B1
    exact k _ _ lG (hF.less l1.1)

/-- An edge's end. -/
def en (e : Int × Int) (k : Nat) : Int := if k = 0 then e.1 else e.2
def Fits (es : List (Int × Int)) (c : List Int) (e : Nat) (x : Int) : Prop := ∀ i, i < e → share (es.getD i (0, 0)) (es.getD e (0, 0)) → c.getD i 0 ≠ x
noncomputable instance (es : List (Int × Int)) (c : List Int) (e : Nat) (x : Int) : Decidable (Fits es c e x) := Classical.propDecidable _
theorem on_en {e : Int × Int} {k : Nat} : on e (en e k) = true := by
  unfold on en; split <;> simp
theorem on_cases {e : Int × Int} {v : Int} (h : on e v = true) : v = en e 0 ∨ v = en e 1 := by
  unfold on at h; unfold en
  simp only [Bool.or_eq_true, beq_iff_eq] at h
  rcases h with h | h
  · left; simp [h]
  · right; simp [h]
theorem cell_en {H : AHeap} {b o k : Nat} {e : Int × Int} (h1 : H.cell b o = some (.int .i64 e.1)) (h2 : H.cell b (o + 1) = some (.int .i64 e.2)) (hk : k < 2) : H.cell b (o + Int.toNat (k : Int) * 1) = some (.int .i64 (en e k)) := by
  rcases (by omega : k = 0 ∨ k = 1) with rfl | rfl
  · simpa [en] using h1
  · simpa [en] using h2

theorem l02Fits2_ok {n x : Int} {e : Nat} (h : Edges H v es) (hl : es.length ≤ 1048576) (hg : IsG n es) (hc : Ints H u c) (hcl : e ≤ c.length) (he : e < es.length) (k : ∀ G, H.le G → K (.bool (decide (Fits es c e x))) G) :
    AC Try.prog T0 175 [.agg ⟨[.int .i64 n, v]⟩, u, .int .i64 e, .int .i64 x] H K := by
  apply F175.ac
  unfold F175.B13
  refine newK_f (all_iv (edges_one' h)) fun H1 l1 n1 o1 => ?_
  unfold F175.B12 F175.L2
  refine ⟨fun x1 x2 x3 x4 x9 G => x1 = u ∧ x2 = e ∧ x3 = x ∧ x4 = H.length ∧ H1.le G ∧ ∃ j : Nat, x9 = j ∧ j ≤ 2 ∧ ∀ j', j' < j → ∀ i, i < e → on (es.getD i (0, 0)) (en (es.getD e (0, 0)) j') = true → c.getD i 0 ≠ x, fun _ _ _ _ x9 _ => 2 - x9.toNat, ⟨rfl, rfl, rfl, rfl, AHeap.le_refl _, 0, rfl, by omega, fun j' hj => absurd hj (by omega)⟩, ?_⟩
  rintro x1 x2 x3 x4 x9 G ⟨rfl, rfl, rfl, rfl, hG, j, rfl, hj, hp⟩
  have oG := hG.2 _ _ o1
  have lG := AHeap.le_trans l1 hG
  obtain ⟨d1, d2, d3, d4, _⟩ := hg.ed.ends es[e] (List.getElem_mem he)
  unfold F175.B11
  refine pif_cases (fun hb => ?_) fun hb => ?_
  · have hj2 : j < 2 := by have := of_decide_eq_true hb; omega
    unfold F175.B10
    obtain ⟨b, o, hk, c1, c2⟩ := (h.le lG).idx (show (0 : Int) ≤ (e : Int) by omega) (by omega)
    simp only [Int.toNat_natCast] at c1 c2
    refine ldI_own oG rfl (ld1_own oG rfl (ld1_own oG rfl (hk _ (bndK_iff.2 ⟨by omega, by omega, ldI_mk (cell_en c1 c2 hj2) (l01At_ok (h.le lG) hl fun w G2 hG2 hF => ?_)⟩))))
    have hv : 0 ≤ en (es.getD e (0, 0)) j ∧ en (es.getD e (0, 0)) j < n := by
      rw [getD_of he]; unfold en; split <;> omega
    have h3 := hg.three hv.1 hv.2
    have lG2 := AHeap.le_trans lG hG2
    unfold F175.B9 F175.L4
    refine ⟨fun y1 y2 y3 y4 y9 y10 y11 G' => y1 = x1 ∧ y2 = e ∧ y3 = x3 ∧ y4 = H.length ∧ y9 = j ∧ y10 = w ∧ G' = G2 ∧ 0 ≤ y11 ∧ y11 ≤ 3 ∧ ∀ t : Nat, (t : Int) < y11 → (atL es (en (es.getD e (0, 0)) j)).getD t 0 < e → c.getD ((atL es (en (es.getD e (0, 0)) j)).getD t 0).toNat 0 ≠ x3, fun _ _ _ _ _ _ y11 _ => 3 - y11.toNat, ⟨rfl, rfl, rfl, rfl, rfl, rfl, rfl, by omega, by omega, fun t ht => absurd ht (by omega)⟩, ?_⟩
    rintro y1 y2 y3 y4 y9 y10 y11 G' ⟨rfl, rfl, rfl, rfl, rfl, rfl, rfl, g0, g1, hq⟩
    unfold F175.B8
    refine pif_cases (fun hb => ?_) fun hb => ?_
    · have ht3 : y11 < 3 := of_decide_eq_true hb
      obtain ⟨t, rfl⟩ : ∃ t : Nat, y11 = t := ⟨y11.toNat, by omega⟩
      have htl : t < (atL es (en (es.getD e (0, 0)) j)).length := by omega
      unfold F175.B7
      have fin : ((atL es (en (es.getD e (0, 0)) j)).getD t 0 < e → c.getD ((atL es (en (es.getD e (0, 0)) j)).getD t 0).toNat 0 ≠ y3) → ∀ t' : Nat, (t' : Int) < (t : Int) + 1 → (atL es (en (es.getD e (0, 0)) j)).getD t' 0 < e → c.getD ((atL es (en (es.getD e (0, 0)) j)).getD t' 0).toNat 0 ≠ y3 := by
        intro hy t' ht'
        by_cases he : t' = t
        · subst he; exact hy
        · exact hq t' (by omega)
      obtain ⟨i, hi1, hi2, hi3⟩ := mem_atL.1 (List.getElem_mem htl)
      rw [← getD_of (d := 0) htl] at hi1
      have rd : ∀ K : Int → Prop, K ((atL es (en (es.getD e (0, 0)) j)).getD t 0) → idxK y10 t 1 (fun b o => ldI .i64 G' b o K) := fun K k => by
        have := hF.ints.rd (i := (t : Int)) g0 (by omega) (K := K)
        simp only [Int.toNat_natCast] at this
        exact this k
      refine rd _ (pif_cases (fun hs => ?_) fun hs => ?_)
      · have hs := of_decide_eq_true hs
        refine rd _ ((hc.le lG2).rd (by omega) (by omega) (pif_cases (fun hu => ?_) fun hu => ?_))
        · unfold F175.B6
          have k := k _ lG2
          rw [decide_eq_false (fun hf : Fits es c e y3 => by
            rw [hi1] at hu hs
            exact hf i (by omega) ⟨_, hi3, on_en⟩ (by simpa using hu))] at k
          exact k
        · unfold F175.B5
          rw [wrap_id (by omega) (by omega)]
          exact ⟨⟨rfl, rfl, rfl, rfl, rfl, rfl, rfl, by omega, by omega, fin fun _ => by simpa using hu⟩, by simp; omega⟩
      · have hs := of_decide_eq_false hs
        unfold F175.B5
        rw [wrap_id (by omega) (by omega)]
        exact ⟨⟨rfl, rfl, rfl, rfl, rfl, rfl, rfl, by omega, by omega, fin fun h => absurd h hs⟩, by simp; omega⟩
    · have hge : ¬ y11 < 3 := of_decide_eq_false hb
      unfold F175.B3
      rw [wrap_id (by omega) (by omega)]
      refine ⟨⟨rfl, rfl, rfl, rfl, AHeap.le_trans hG hG2, j + 1, by omega, by omega, fun j' hj' i hi ho => ?_⟩, by simp; omega⟩
      by_cases he' : j' = j
      · subst he'
        have hm : (i : Int) ∈ atL es (en (es.getD e (0, 0)) j') := mem_atL.2 ⟨i, rfl, by omega, ho⟩
        obtain ⟨t, ht, hte⟩ := List.getElem_of_mem hm
        have := hq t (by omega)
        rw [getD_of ht, hte] at this
        simpa using this (by omega)
      · exact hp j' (by omega) i hi ho
  · have hj2 : j = 2 := by have := of_decide_eq_false hb; omega
    subst hj2
    unfold F175.B1
    have k := k _ lG
    rw [decide_eq_true (show Fits es c e x3 from fun i hi ⟨w, hw1, hw2⟩ => by
      rcases on_cases hw2 with rfl | rfl
      · exact hp 0 (by omega) i hi hw1
      · exact hp 1 (by omega) i hi hw1)] at k
    exact k

end Go.Proofs
