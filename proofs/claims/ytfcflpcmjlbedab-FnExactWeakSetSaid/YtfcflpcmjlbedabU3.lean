/- Contracts: whether a graph is one. -/
import Derived.Test.YtfcflpcmjlbedabM1
import Derived.Test.YtfcflpcmjlbedabG
set_option linter.unusedVariables false
set_option linter.unusedSimpArgs false
set_option maxRecDepth 100000
namespace Go.Proofs
open Go.Abs

variable {H : AHeap} {v u f : Value} {l m : List Int} {es fs : List (Int × Int)} {K : Value → AHeap → Prop}

theorem within_ok {n a b : Int} (k : K (.bool (decide (a ≤ n ∧ n ≤ b))) H) : AC Try.prog T0 83 [.int .i64 n, .int .i64 a, .int .i64 b] H K := by
  apply F83.ac
  unfold F83.B2 F83.B1
  refine pif_cases (fun h => ?_) fun h => ?_
  · have h := of_decide_eq_true h
    simpa [h] using k
  · have h := of_decide_eq_false h
    simpa [h] using k
theorem l01In_ok {n a b : Int} (k : K (.bool (decide (a ≤ n ∧ n ≤ b))) H) : AC Try.prog T0 48 [.int .i64 n, .int .i64 a, .int .i64 b] H K := by
  apply F48.ac
  unfold F48.B2 F48.B1
  refine pif_cases (fun h => ?_) fun h => ?_
  · have h := of_decide_eq_true h
    simpa [h] using k
  · have h := of_decide_eq_false h
    have h : ¬ a ≤ n := by omega
    simpa [h] using k
theorem isSize_ok {n : Int} (k : K (.bool (decide (2 ≤ n ∧ n ≤ 20 ∧ n % 2 = 0))) H) : AC Try.prog T0 169 [.int .i64 n] H K := by
  apply F169.ac
  unfold F169.B2 F169.B1
  refine within_ok (asB_mk (pif_cases (fun h => ?_) fun h => ?_))
  · have h := of_decide_eq_true h
    have e : Int.tmod n 2 = n % 2 := Int.tmod_eq_emod_of_nonneg (by omega)
    rw [e]
    have : (n % 2 == 0) = decide (2 ≤ n ∧ n ≤ 20 ∧ n % 2 = 0) := by
      by_cases h2 : n % 2 = 0 <;> simp [h2, h]
    rw [this]; exact k
  · have h := of_decide_eq_false h
    rw [decide_eq_false (fun h2 => h ⟨h2.1, h2.2.1⟩)] at k; exact k
theorem lengthE_ok (h : Edges H v es) (k : K (.int .i64 es.length) H) : AC Try.prog T0 85 [v] H K := by
  apply F85.ac
  unfold F85.B2 F85.B1
  exact h.len k

/-- What a function's value answers, in a heap and all later ones. -/
def Cl (H : AHeap) (f x : Value) (b : Bool) : Prop := ∀ G, H.le G → ∀ K : Value → AHeap → Prop, (∀ G', G.le G' → K (.bool b) G') → callV Try.prog T0 f [x] G K
theorem Cl.le {G : AHeap} {x : Value} {b : Bool} (h : Cl H f x b) (hl : H.le G) : Cl G f x b := fun G' hg => h G' (AHeap.le_trans hl hg)
theorem callV_mk {g : Nat} {xs ys args : List Value} (h : AC Try.prog T0 g (xs ++ args ++ ys) H K) : callV Try.prog T0 (.func (.func g) ⟨xs⟩ ⟨ys⟩) args H K := h
def ve (e : Int × Int) : Value := .agg ⟨[.int .i64 e.1, .int .i64 e.2]⟩

theorem indexE_ok {p : Int × Int → Bool} (h : Edges H v es) (hl : es.length ≤ 4611686018427387904) (hf : ∀ e ∈ es, Cl H f (ve e) (p e)) (k : ∀ r G, H.le G → decide (r ≥ 0) = es.any p → K (.int .i64 r) G) :
    AC Try.prog T0 183 [v, f] H K := by
  apply F183.ac
  unfold F183.B9 F183.B8
  refine h.len ?_
  unfold F183.L2
  refine ⟨fun x0 x1 x7 x8 G => x0 = v ∧ x1 = f ∧ x7 = es.length ∧ 0 ≤ x8 ∧ x8 ≤ es.length ∧ H.le G ∧ ∀ i : Nat, (i : Int) < x8 → p (es.getD i (0, 0)) = false, fun _ _ _ x8 _ => es.length - x8.toNat, ⟨rfl, rfl, rfl, by omega, by omega, AHeap.le_refl _, fun i hi => absurd hi (by omega)⟩, ?_⟩
  rintro x0 x1 x7 x8 G ⟨rfl, rfl, rfl, h0, h1, hG, hp⟩
  unfold F183.B7
  refine pif_cases (fun hb => ?_) fun hb => ?_
  · have hlt : x8 < es.length := of_decide_eq_true hb
    obtain ⟨n, rfl⟩ : ∃ n : Nat, x8 = n := ⟨x8.toNat, by omega⟩
    have hn : n < es.length := by omega
    unfold F183.B6 F183.B5
    obtain ⟨b, o, hk, c1, c2⟩ := (h.le hG).idx h0 hlt
    refine hk _ (ldI_mk c1 (ldI_mk c2 ?_))
    simp only [Int.toNat_natCast, getD_of hn]
    refine hf es[n] (List.getElem_mem hn) G hG _ fun G2 hG2 => asB_mk (pif_cases (fun hb => ?_) fun hb => ?_)
    · unfold F183.B4
      refine k _ _ (AHeap.le_trans hG hG2) ?_
      rw [List.any_eq_true.2 ⟨es[n], List.getElem_mem hn, hb⟩]; simp
    · unfold F183.B3
      rw [wrap_id (by omega) (by omega)]
      refine ⟨⟨rfl, rfl, rfl, by omega, by omega, AHeap.le_trans hG hG2, fun i hi => ?_⟩, by simp; omega⟩
      by_cases he : i = n
      · subst he; rw [getD_of hn]; exact hb
      · exact hp i (by omega)
  · have hge : ¬ x8 < es.length := of_decide_eq_false hb
    unfold F183.B1
    refine k _ _ hG ?_
    have : es.any p = false := by
      rw [List.any_eq_false]
      intro e he
      obtain ⟨i, hi, rfl⟩ := List.getElem_of_mem he
      have := hp i (by omega)
      rw [getD_of hi] at this; simp [this]
    rw [this]; simp
theorem containsE_ok {p : Int × Int → Bool} (h : Edges H v es) (hl : es.length ≤ 4611686018427387904) (hf : ∀ e ∈ es, Cl H f (ve e) (p e)) (k : ∀ G, H.le G → K (.bool (es.any p)) G) :
    AC Try.prog T0 171 [v, f] H K := by
  apply F171.ac
  unfold F171.B2 F171.B1
  refine indexE_ok h hl hf fun r G hG hr => asI_mk ?_
  rw [hr]; exact k G hG
theorem areAllE_ok {p : Int × Int → Bool} (h : Edges H v es) (hl : es.length ≤ 4611686018427387904) (hf1 : f.oneCell' = true) (hf : ∀ e ∈ es, Cl H f (ve e) (p e)) (k : ∀ G, H.le G → K (.bool (es.all p)) G) :
    AC Try.prog T0 145 [v, f] H K := by
  apply F145.ac
  unfold F145.B2
  refine pif_t hf1 (newK_f (by simp [hf1]) fun H1 l1 n1 o1 => ?_)
  unfold F145.B1
  refine containsE_ok (p := fun e => !p e) (h.le l1) hl (fun e he => ?_) fun G hG => asB_mk ?_
  · intro G hG K k
    refine callV_mk ?_
    apply F172.ac
    unfold F172.B2
    refine newK_f rfl fun H2 l2 n2 o2 => ?_
    unfold F172.B1
    refine asP_mk (ld1_own (l2.2 _ _ (hG.2 _ _ o1)) rfl (ldI_own o2 rfl (ldI_own o2 rfl ?_)))
    exact hf e he _ (AHeap.le_trans l1 (AHeap.le_trans hG l2)) _ fun G' hG' => asB_mk (k _ (AHeap.le_trans l2 hG'))
  · have := k G (AHeap.le_trans l1 hG)
    rw [show (!es.any fun e => !p e) = es.all p by rw [List.all_eq_not_any_not]]
    exact this
theorem indexI_ok {p : Int → Bool} (h : Ints H v l) (hl : l.length ≤ 4611686018427387904) (hf : ∀ e ∈ l, Cl H f (.int .i64 e) (p e)) (k : ∀ r G, H.le G → decide (r ≥ 0) = l.any p → K (.int .i64 r) G) :
    AC Try.prog T0 180 [v, f] H K := by
  apply F180.ac
  unfold F180.B9 F180.B8
  refine h.len ?_
  unfold F180.L2
  refine ⟨fun x0 x1 x7 x8 G => x0 = v ∧ x1 = f ∧ x7 = l.length ∧ 0 ≤ x8 ∧ x8 ≤ l.length ∧ H.le G ∧ ∀ i : Nat, (i : Int) < x8 → p (l.getD i 0) = false, fun _ _ _ x8 _ => l.length - x8.toNat, ⟨rfl, rfl, rfl, by omega, by omega, AHeap.le_refl _, fun i hi => absurd hi (by omega)⟩, ?_⟩
  rintro x0 x1 x7 x8 G ⟨rfl, rfl, rfl, h0, h1, hG, hp⟩
  unfold F180.B7
  refine pif_cases (fun hb => ?_) fun hb => ?_
  · have hlt : x8 < l.length := of_decide_eq_true hb
    obtain ⟨n, rfl⟩ : ∃ n : Nat, x8 = n := ⟨x8.toNat, by omega⟩
    have hn : n < l.length := by omega
    unfold F180.B6 F180.B5
    refine (h.le hG).rd h0 hlt ?_
    simp only [Int.toNat_natCast, getD_of hn]
    refine hf l[n] (List.getElem_mem hn) G hG _ fun G2 hG2 => asB_mk (pif_cases (fun hb => ?_) fun hb => ?_)
    · unfold F180.B4
      refine k _ _ (AHeap.le_trans hG hG2) ?_
      rw [List.any_eq_true.2 ⟨l[n], List.getElem_mem hn, hb⟩]; simp
    · unfold F180.B3
      rw [wrap_id (by omega) (by omega)]
      refine ⟨⟨rfl, rfl, rfl, by omega, by omega, AHeap.le_trans hG hG2, fun i hi => ?_⟩, by simp; omega⟩
      by_cases he : i = n
      · subst he; rw [getD_of hn]; exact hb
      · exact hp i (by omega)
  · have hge : ¬ x8 < l.length := of_decide_eq_false hb
    unfold F180.B1
    refine k _ _ hG ?_
    have : l.any p = false := by
      rw [List.any_eq_false]
      intro e he
      obtain ⟨i, hi, rfl⟩ := List.getElem_of_mem he
      have := hp i (by omega)
      rw [getD_of hi] at this; simp [this]
    rw [this]; simp
theorem containsI_ok {p : Int → Bool} (h : Ints H v l) (hl : l.length ≤ 4611686018427387904) (hf : ∀ e ∈ l, Cl H f (.int .i64 e) (p e)) (k : ∀ G, H.le G → K (.bool (l.any p)) G) :
    AC Try.prog T0 159 [v, f] H K := by
  apply F159.ac
  unfold F159.B2 F159.B1
  refine indexI_ok h hl hf fun r G hG hr => asI_mk ?_
  rw [hr]; exact k G hG
theorem areAllI_ok {p : Int → Bool} (h : Ints H v l) (hl : l.length ≤ 4611686018427387904) (hf1 : f.oneCell' = true) (hf : ∀ e ∈ l, Cl H f (.int .i64 e) (p e)) (k : ∀ G, H.le G → K (.bool (l.all p)) G) :
    AC Try.prog T0 117 [v, f] H K := by
  apply F117.ac
  unfold F117.B2
  refine pif_t hf1 (newK_f (by simp [hf1]) fun H1 l1 n1 o1 => ?_)
  unfold F117.B1
  refine containsI_ok (p := fun e => !p e) (h.le l1) hl (fun e he => ?_) fun G hG => asB_mk ?_
  · intro G hG K k
    refine callV_mk ?_
    apply F160.ac
    unfold F160.B2
    unfold F160.B1
    refine asP_mk (ld1_own (hG.2 _ _ o1) rfl ?_)
    exact hf e he _ (AHeap.le_trans l1 hG) _ fun G' hG' => asB_mk (k _ hG')
  · have := k G (AHeap.le_trans l1 hG)
    rw [show (!l.any fun e => !p e) = l.all p by rw [List.all_eq_not_any_not]]
    exact this
end Go.Proofs
