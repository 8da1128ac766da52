/- Contracts and plain mathematics for a law, merged. -/
import Derived.Laws.Bits64
import Derived.Test.YtkmjiikgkhhciaaGreatX29G
import Derived.Test.YtkmjiikgkhhciaaGreatX29P3
set_option linter.unusedVariables false
set_option linter.unusedSimpArgs false
set_option maxRecDepth 100000
namespace Go.Proofs
open Go.Abs

structure IsEd (n : Int) (es : List (Int × Int)) : Prop where
 lo : 2 ≤ n
 hi : n ≤ 20
 even : n % 2 = 0
 len : (es.length : Int) = 3 * n / 2
 ends : ∀ e ∈ es, 0 ≤ e.1 ∧ e.1 ≤ n - 1 ∧ 0 ≤ e.2 ∧ e.2 ≤ n - 1 ∧ e.1 ≠ e.2
def bump1 (cs : List Int) (v : Int) : List Int := cs.set v.toNat (cs.getD v.toNat 0 + 1)
def bump (cs : List Int) (e : Int × Int) : List Int := bump1 (bump1 cs e.1) e.2
def counts (n : Int) (es : List (Int × Int)) : List Int := es.foldl bump (List.replicate n.toNat 0)
def ltE (a b : Int × Int) : Prop := a.1 < b.1 ∨ a.1 = b.1 ∧ a.2 < b.2
instance (a b : Int × Int) : Decidable (ltE a b) := by unfold ltE; infer_instance
def Srt (es : List (Int × Int)) : Prop := ∀ i, i + 1 < es.length → ¬ ltE (es.getD (i + 1) (0, 0)) (es.getD i (0, 0))
structure IsG (n : Int) (es : List (Int × Int)) : Prop where
 ed : IsEd n es
 up : ∀ e ∈ es, e.1 < e.2
 srt : Srt es
 cub : ∀ c ∈ counts n es, c = 3
noncomputable instance (n : Int) (es : List (Int × Int)) : Decidable (IsG n es) := Classical.propDecidable _
noncomputable instance (n : Int) (es : List (Int × Int)) : Decidable (IsEd n es) := Classical.propDecidable _
def IsS (l : List Int) (n : Int) : Prop := ∀ i, i < l.length → 0 ≤ l.getD i 0 ∧ l.getD i 0 ≤ n - 1 ∧ (0 < i → l.getD (i - 1) 0 < l.getD i 0)
noncomputable instance (l : List Int) (n : Int) : Decidable (IsS l n) := Classical.propDecidable _
def Cub (n : Int) (es : List (Int × Int)) : Prop := ∀ c ∈ counts n es, c = 3
noncomputable instance (n : Int) (es : List (Int × Int)) : Decidable (Cub n es) := Classical.propDecidable _

theorem bump1_length (cs : List Int) (v : Int) : (bump1 cs v).length = cs.length := by simp [bump1]
theorem bump_length (cs : List Int) (e : Int × Int) : (bump cs e).length = cs.length := by simp [bump, bump1_length]
theorem foldl_bump_length : ∀ (es : List (Int × Int)) (cs : List Int), (es.foldl bump cs).length = cs.length
 | [], cs => rfl
 | e :: es, cs => by rw [List.foldl_cons, foldl_bump_length es, bump_length]
theorem counts_length (n : Int) (es : List (Int × Int)) : (counts n es).length = n.toNat := by simp [counts, foldl_bump_length]
theorem counts_take (n : Int) (es : List (Int × Int)) {i : Nat} (h : i < es.length) : counts n (es.take (i + 1)) = bump (counts n (es.take i)) es[i] := by
 unfold counts; rw [List.take_succ_eq_append_getElem h, List.foldl_append]; rfl
theorem bump1_le {cs : List Int} {B : Int} (h : ∀ c ∈ cs, 0 ≤ c ∧ c ≤ B) (v : Int) : ∀ c ∈ bump1 cs v, 0 ≤ c ∧ c ≤ B + 1 := by
 intro c hc
 unfold bump1 at hc
 by_cases hv : v.toNat < cs.length
 ·rcases List.mem_or_eq_of_mem_set hc with hc | rfl
  ·have := h c hc; omega
  ·have := h cs[v.toNat] (List.getElem_mem hv)
   rw [getD_of hv]; omega
 ·rw [List.set_eq_of_length_le (by omega)] at hc
  have := h c hc; omega
theorem foldl_bump_le : ∀ (es : List (Int × Int)) (cs : List Int) (B : Int), (∀ c ∈ cs, 0 ≤ c ∧ c ≤ B) → ∀ c ∈ es.foldl bump cs, 0 ≤ c ∧ c ≤ B + 2 * es.length
 | [], cs, B, h, c, hc => by have := h c hc; simp; omega
 | e :: es, cs, B, h, c, hc => by
  have := foldl_bump_le es (bump cs e) (B + 2) (fun c hc => by have := bump1_le (bump1_le h e.1) e.2 c hc; omega) c hc
  simp; omega
theorem counts_le (n : Int) (es : List (Int × Int)) : ∀ c ∈ counts n es, 0 ≤ c ∧ c ≤ 2 * es.length := by
 intro c hc
 have := foldl_bump_le es _ 0 (by intro c hc; rw [List.mem_replicate] at hc; omega) c hc
 omega
end Go.Proofs
namespace Go.Proofs
open Go.Abs

variable {H : AHeap} {v u f : Value} {l m : List Int} {es fs : List (Int × Int)} {K : Value → AHeap → Prop}

theorem within_ok {n a b : Int} (k : K (.bool (decide (a ≤ n ∧ n ≤ b))) H) : AC Tryz.prog T0 77 [.int .i64 n, .int .i64 a, .int .i64 b] H K := by
 apply F77.ac
 unfold F77.B2 F77.B1
 refine pif_cases (fun h => ?_) fun h => ?_
 ·have h := of_decide_eq_true h
  simpa [h] using k
 ·have h := of_decide_eq_false h
  simpa [h] using k
theorem l01In_ok {n a b : Int} (k : K (.bool (decide (a ≤ n ∧ n ≤ b))) H) : AC Tryz.prog T0 85 [.int .i64 n, .int .i64 a, .int .i64 b] H K := by
 apply F85.ac
 unfold F85.B2 F85.B1
 refine pif_cases (fun h => ?_) fun h => ?_
 ·have h := of_decide_eq_true h
  simpa [h] using k
 ·have h := of_decide_eq_false h
  have h : ¬ a ≤ n := by omega
  simpa [h] using k
theorem isSize_ok {n : Int} (k : K (.bool (decide (2 ≤ n ∧ n ≤ 20 ∧ n % 2 = 0))) H) : AC Tryz.prog T0 214 [.int .i64 n] H K := by
 apply F214.ac
 unfold F214.B2 F214.B1
 refine within_ok (asB_mk (pif_cases (fun h => ?_) fun h => ?_))
 ·have h := of_decide_eq_true h
  have e : Int.tmod n 2 = n % 2 := Int.tmod_eq_emod_of_nonneg (by omega)
  rw [e]
  have : (n % 2 == 0) = decide (2 ≤ n ∧ n ≤ 20 ∧ n % 2 = 0) := by
   by_cases h2 : n % 2 = 0 <;> simp [h2, h]
  rw [this]; exact k
 ·have h := of_decide_eq_false h
  rw [decide_eq_false (fun h2 => h ⟨h2.1, h2.2.1⟩)] at k; exact k
theorem lengthE_ok (h : Edges H v es) (k : K (.int .i64 es.length) H) : AC Tryz.prog T0 73 [v] H K := by
 apply F73.ac
 unfold F73.B2 F73.B1
 exact h.len k

def Cl (H : AHeap) (f x : Value) (b : Bool) : Prop := ∀ G, H.le G → ∀ K : Value → AHeap → Prop, (∀ G', G.le G' → K (.bool b) G') → callV Tryz.prog T0 f [x] G K
theorem callV_mk {g : Nat} {xs ys args : List Value} (h : AC Tryz.prog T0 g (xs ++ args ++ ys) H K) : callV Tryz.prog T0 (.func (.func g) ⟨xs⟩ ⟨ys⟩) args H K := h
def ve (e : Int × Int) : Value := .agg ⟨[.int .i64 e.1, .int .i64 e.2]⟩

theorem indexE_ok {p : Int × Int → Bool} (h : Edges H v es) (hl : es.length ≤ 4611686018427387904) (hf : ∀ e ∈ es, Cl H f (ve e) (p e)) (k : ∀ r G, H.le G → decide (r ≥ 0) = es.any p → K (.int .i64 r) G) :
    AC Tryz.prog T0 228 [v, f] H K := by
  apply F228.ac
  unfold F228.B9 F228.B8
  refine h.len ?_
  unfold F228.L2
  refine ⟨fun x0 x1 x7 x8 G => x0 = v ∧ x1 = f ∧ x7 = es.length ∧ 0 ≤ x8 ∧ x8 ≤ es.length ∧ H.le G ∧ ∀ i : Nat, (i : Int) < x8 → p (es.getD i (0, 0)) = false, fun _ _ _ x8 _ => es.length - x8.toNat, ⟨rfl, rfl, rfl, by omega, by omega, AHeap.le_refl _, fun i hi => absurd hi (by omega)⟩, ?_⟩
  rintro x0 x1 x7 x8 G ⟨rfl, rfl, rfl, h0, h1, hG, hp⟩
  unfold F228.B7
  refine pif_cases (fun hb => ?_) fun hb => ?_
  · have hlt : x8 < es.length := of_decide_eq_true hb
    obtain ⟨n, rfl⟩ : ∃ n : Nat, x8 = n := ⟨x8.toNat, by omega⟩
    have hn : n < es.length := by omega
    unfold F228.B6 F228.B5
    obtain ⟨b, o, hk, c1, c2⟩ := (h.le hG).idx h0 hlt
    refine hk _ (ldI_mk c1 (ldI_mk c2 ?_))
    simp only [Int.toNat_natCast, getD_of hn]
    refine hf es[n] (List.getElem_mem hn) G hG _ fun G2 hG2 => asB_mk (pif_cases (fun hb => ?_) fun hb => ?_)
    · unfold F228.B4
      refine k _ _ (AHeap.le_trans hG hG2) ?_
      rw [List.any_eq_true.2 ⟨es[n], List.getElem_mem hn, hb⟩]; simp
    · unfold F228.B3
      rw [wrap_id (by omega) (by omega)]
      refine ⟨⟨rfl, rfl, rfl, by omega, by omega, AHeap.le_trans hG hG2, fun i hi => ?_⟩, by simp; omega⟩
      by_cases he : i = n
      · subst he; rw [getD_of hn]; exact hb
      · exact hp i (by omega)
  · have hge : ¬ x8 < es.length := of_decide_eq_false hb
    unfold F228.B1
    refine k _ _ hG ?_
    have : es.any p = false := by
      rw [List.any_eq_false]
      intro e he
      obtain ⟨i, hi, rfl⟩ := List.getElem_of_mem he
      have := hp i (by omega)
      rw [getD_of hi] at this; simp [this]
    rw [this]; simp
theorem containsE_ok {p : Int × Int → Bool} (h : Edges H v es) (hl : es.length ≤ 4611686018427387904) (hf : ∀ e ∈ es, Cl H f (ve e) (p e)) (k : ∀ G, H.le G → K (.bool (es.any p)) G) :
    AC Tryz.prog T0 216 [v, f] H K := by
  apply F216.ac
  unfold F216.B2 F216.B1
  refine indexE_ok h hl hf fun r G hG hr => asI_mk ?_
  rw [hr]; exact k G hG
theorem areAllE_ok {p : Int × Int → Bool} (h : Edges H v es) (hl : es.length ≤ 4611686018427387904) (hf1 : f.oneCell' = true) (hf : ∀ e ∈ es, Cl H f (ve e) (p e)) (k : ∀ G, H.le G → K (.bool (es.all p)) G) :
    AC Tryz.prog T0 184 [v, f] H K := by
  apply F184.ac
  unfold F184.B2
  refine pif_t hf1 (newK_f (by simp [hf1]) fun H1 l1 n1 o1 => ?_)
  unfold F184.B1
  refine containsE_ok (p := fun e => !p e) (h.le l1) hl (fun e he => ?_) fun G hG => asB_mk ?_
  · intro G hG K k
    refine callV_mk ?_
    apply F217.ac
    unfold F217.B2
    refine newK_f rfl fun H2 l2 n2 o2 => ?_
    unfold F217.B1
    refine asP_mk (ld1_own (l2.2 _ _ (hG.2 _ _ o1)) rfl (ldI_own o2 rfl (ldI_own o2 rfl ?_)))
    exact hf e he _ (AHeap.le_trans l1 (AHeap.le_trans hG l2)) _ fun G' hG' => asB_mk (k _ (AHeap.le_trans l2 hG'))
  · have := k G (AHeap.le_trans l1 hG)
    rw [show (!es.any fun e => !p e) = es.all p by rw [List.all_eq_not_any_not]]
    exact this
theorem indexI_ok {p : Int → Bool} (h : Ints H v l) (hl : l.length ≤ 4611686018427387904) (hf : ∀ e ∈ l, Cl H f (.int .i64 e) (p e)) (k : ∀ r G, H.le G → decide (r ≥ 0) = l.any p → K (.int .i64 r) G) :
    AC Tryz.prog T0 234 [v, f] H K := by
  apply F234.ac
  unfold F234.B9 F234.B8
  refine h.len ?_
  unfold F234.L2
  refine ⟨fun x0 x1 x7 x8 G => x0 = v ∧ x1 = f ∧ x7 = l.length ∧ 0 ≤ x8 ∧ x8 ≤ l.length ∧ H.le G ∧ ∀ i : Nat, (i : Int) < x8 → p (l.getD i 0) = false, fun _ _ _ x8 _ => l.length - x8.toNat, ⟨rfl, rfl, rfl, by omega, by omega, AHeap.le_refl _, fun i hi => absurd hi (by omega)⟩, ?_⟩
  rintro x0 x1 x7 x8 G ⟨rfl, rfl, rfl, h0, h1, hG, hp⟩
  unfold F234.B7
  refine pif_cases (fun hb => ?_) fun hb => ?_
  · have hlt : x8 < l.length := of_decide_eq_true hb
    obtain ⟨n, rfl⟩ : ∃ n : Nat, x8 = n := ⟨x8.toNat, by omega⟩
    have hn : n < l.length := by omega
    unfold F234.B6 F234.B5
    refine (h.le hG).rd h0 hlt ?_
    simp only [Int.toNat_natCast, getD_of hn]
    refine hf l[n] (List.getElem_mem hn) G hG _ fun G2 hG2 => asB_mk (pif_cases (fun hb => ?_) fun hb => ?_)
    · unfold F234.B4
      refine k _ _ (AHeap.le_trans hG hG2) ?_
      rw [List.any_eq_true.2 ⟨l[n], List.getElem_mem hn, hb⟩]; simp
    · unfold F234.B3
      rw [wrap_id (by omega) (by omega)]
      refine ⟨⟨rfl, rfl, rfl, by omega, by omega, AHeap.le_trans hG hG2, fun i hi => ?_⟩, by simp; omega⟩
      by_cases he : i = n
      · subst he; rw [getD_of hn]; exact hb
      · exact hp i (by omega)
  · have hge : ¬ x8 < l.length := of_decide_eq_false hb
    unfold F234.B1
    refine k _ _ hG ?_
    have : l.any p = false := by
      rw [List.any_eq_false]
      intro e he
      obtain ⟨i, hi, rfl⟩ := List.getElem_of_mem he
      have := hp i (by omega)
      rw [getD_of hi] at this; simp [this]
    rw [this]; simp
theorem containsI_ok {p : Int → Bool} (h : Ints H v l) (hl : l.length ≤ 4611686018427387904) (hf : ∀ e ∈ l, Cl H f (.int .i64 e) (p e)) (k : ∀ G, H.le G → K (.bool (l.any p)) G) :
    AC Tryz.prog T0 229 [v, f] H K := by
  apply F229.ac
  unfold F229.B2 F229.B1
  refine indexI_ok h hl hf fun r G hG hr => asI_mk ?_
  rw [hr]; exact k G hG
theorem areAllI_ok {p : Int → Bool} (h : Ints H v l) (hl : l.length ≤ 4611686018427387904) (hf1 : f.oneCell' = true) (hf : ∀ e ∈ l, Cl H f (.int .i64 e) (p e)) (k : ∀ G, H.le G → K (.bool (l.all p)) G) :
    AC Tryz.prog T0 218 [v, f] H K := by
  apply F218.ac
  unfold F218.B2
  refine pif_t hf1 (newK_f (by simp [hf1]) fun H1 l1 n1 o1 => ?_)
  unfold F218.B1
  refine containsI_ok (p := fun e => !p e) (h.le l1) hl (fun e he => ?_) fun G hG => asB_mk ?_
  · intro G hG K k
    refine callV_mk ?_
    apply F230.ac
    unfold F230.B2
    unfold F230.B1
    refine asP_mk (ld1_own (hG.2 _ _ o1) rfl ?_)
    exact hf e he _ (AHeap.le_trans l1 hG) _ fun G' hG' => asB_mk (k _ hG')
  · have := k G (AHeap.le_trans l1 hG)
    rw [show (!l.any fun e => !p e) = l.all p by rw [List.all_eq_not_any_not]]
    exact this
theorem indexL_ok {p : Int → Bool} (h : Ints H v l) (hl : l.length ≤ 4611686018427387904) (hf : ∀ e ∈ l, Cl H f (.int .i64 e) (p e)) (k : ∀ r G, H.le G → decide (r ≥ 0) = l.any p → K (.int .i64 r) G) :
    AC Tryz.prog T0 220 [v, f] H K := by
  apply F220.ac
  unfold F220.B9 F220.B8
  refine h.len ?_
  unfold F220.L2
  refine ⟨fun x0 x1 x7 x8 G => x0 = v ∧ x1 = f ∧ x7 = l.length ∧ 0 ≤ x8 ∧ x8 ≤ l.length ∧ H.le G ∧ ∀ i : Nat, (i : Int) < x8 → p (l.getD i 0) = false, fun _ _ _ x8 _ => l.length - x8.toNat, ⟨rfl, rfl, rfl, by omega, by omega, AHeap.le_refl _, fun i hi => absurd hi (by omega)⟩, ?_⟩
  rintro x0 x1 x7 x8 G ⟨rfl, rfl, rfl, h0, h1, hG, hp⟩
  unfold F220.B7
  refine pif_cases (fun hb => ?_) fun hb => ?_
  · have hlt : x8 < l.length := of_decide_eq_true hb
    obtain ⟨n, rfl⟩ : ∃ n : Nat, x8 = n := ⟨x8.toNat, by omega⟩
    have hn : n < l.length := by omega
    unfold F220.B6 F220.B5
    refine (h.le hG).rd h0 hlt ?_
    simp only [Int.toNat_natCast, getD_of hn]
    refine hf l[n] (List.getElem_mem hn) G hG _ fun G2 hG2 => asB_mk (pif_cases (fun hb => ?_) fun hb => ?_)
    · unfold F220.B4
      refine k _ _ (AHeap.le_trans hG hG2) ?_
      rw [List.any_eq_true.2 ⟨l[n], List.getElem_mem hn, hb⟩]; simp
    · unfold F220.B3
      rw [wrap_id (by omega) (by omega)]
      refine ⟨⟨rfl, rfl, rfl, by omega, by omega, AHeap.le_trans hG hG2, fun i hi => ?_⟩, by simp; omega⟩
      by_cases he : i = n
      · subst he; rw [getD_of hn]; exact hb
      · exact hp i (by omega)
  · have hge : ¬ x8 < l.length := of_decide_eq_false hb
    unfold F220.B1
    refine k _ _ hG ?_
    have : l.any p = false := by
      rw [List.any_eq_false]
      intro e he
      obtain ⟨i, hi, rfl⟩ := List.getElem_of_mem he
      have := hp i (by omega)
      rw [getD_of hi] at this; simp [this]
    rw [this]; simp
theorem containsL_ok {p : Int → Bool} (h : Ints H v l) (hl : l.length ≤ 4611686018427387904) (hf : ∀ e ∈ l, Cl H f (.int .i64 e) (p e)) (k : ∀ G, H.le G → K (.bool (l.any p)) G) :
    AC Tryz.prog T0 189 [v, f] H K := by
  apply F189.ac
  unfold F189.B2 F189.B1
  refine indexL_ok h hl hf fun r G hG hr => asI_mk ?_
  rw [hr]; exact k G hG
theorem areAllL_ok {p : Int → Bool} (h : Ints H v l) (hl : l.length ≤ 4611686018427387904) (hf1 : f.oneCell' = true) (hf : ∀ e ∈ l, Cl H f (.int .i64 e) (p e)) (k : ∀ G, H.le G → K (.bool (l.all p)) G) :
    AC Tryz.prog T0 148 [v, f] H K := by
  apply F148.ac
  unfold F148.B2
  refine pif_t hf1 (newK_f (by simp [hf1]) fun H1 l1 n1 o1 => ?_)
  unfold F148.B1
  refine containsL_ok (p := fun e => !p e) (h.le l1) hl (fun e he => ?_) fun G hG => asB_mk ?_
  · intro G hG K k
    refine callV_mk ?_
    apply F190.ac
    unfold F190.B2
    unfold F190.B1
    refine asP_mk (ld1_own (hG.2 _ _ o1) rfl ?_)
    exact hf e he _ (AHeap.le_trans l1 hG) _ fun G' hG' => asB_mk (k _ hG')
  · have := k G (AHeap.le_trans l1 hG)
    rw [show (!l.any fun e => !p e) = l.all p by rw [List.all_eq_not_any_not]]
    exact this
end Go.Proofs
namespace Go.Proofs
open Go.Abs

variable {H : AHeap} {v u f : Value} {l m : List Int} {es fs : List (Int × Int)} {K : Value → AHeap → Prop}

def cmpI (a b : Int) : Int := if a < b then -1 else if a > b then 1 else 0
def cmpE (a b : Int × Int) : Int := if cmpI a.1 b.1 ≠ 0 then cmpI a.1 b.1 else cmpI a.2 b.2
theorem cmpE_neg (a b : Int × Int) : cmpE a b < 0 ↔ ltE a b := by
 unfold cmpE cmpI ltE
 repeat' split
 all_goals omega

theorem edges_one' {H : AHeap} {v : Value} {l : List (Int × Int)} (h : Edges H v l) : v.oneCell' = true := by
 rcases h with ⟨rfl, _⟩ | ⟨a, c, rfl, _⟩ <;> rfl
theorem isNaN_ok {a : Int} (k : K (.bool false) H) : AC Tryz.prog T0 209 [.int .i64 a] H K := by
 apply F209.ac
 unfold F209.B2 F209.B1
 simpa using k
theorem cmpCompare_ok {a b : Int} (k : K (.int .i64 (cmpI a b)) H) : AC Tryz.prog T0 169 [.int .i64 a, .int .i64 b] H K := by
 apply F169.ac
 unfold F169.B14 F169.B13
 refine isNaN_ok (asB_mk ?_)
 unfold F169.B12
 refine isNaN_ok (asB_mk ?_)
 unfold F169.B11
 refine pif_f rfl ?_
 unfold F169.B7
 refine pif_f rfl ?_
 unfold F169.B5
 unfold cmpI at k
 refine pif_cases (fun h => ?_) fun h => ?_
 ·unfold F169.B4; rw [if_pos (of_decide_eq_true h)] at k; exact k
 ·rw [if_neg (of_decide_eq_false h)] at k
  unfold F169.B3
  refine pif_cases (fun h => ?_) fun h => ?_
  ·unfold F169.B2; rw [if_pos (of_decide_eq_true h)] at k; exact k
  ·unfold F169.B1; rw [if_neg (of_decide_eq_false h)] at k; exact k

theorem compare2_ok {a b c d : Int} (h : Ints H v [a, b]) (g : Ints H u [c, d]) (k : K (.int .i64 (cmpE (a, b) (c, d))) H) : AC Tryz.prog T0 170 [v, u] H K := by
 apply F170.ac
 unfold F170.B15 F170.B14
 refine h.len ?_
 unfold F170.L4
 refine ⟨fun x0 x1 x9 x10 x11 G => x0 = v ∧ x1 = u ∧ x9 = v ∧ x10 = 2 ∧ G = H ∧ (x11 = 0 ∨ (x11 = 1 ∧ cmpI a c = 0) ∨ (x11 = 2 ∧ cmpI a c = 0 ∧ cmpI b d = 0)), fun _ _ _ _ x11 _ => 2 - x11.toNat, ⟨rfl, rfl, rfl, rfl, rfl, .inl rfl⟩, ?_⟩
 rintro x0 x1 x9 x10 x11 G ⟨rfl, rfl, rfl, rfl, rfl, p⟩
 unfold F170.B13
 rcases p with rfl | ⟨rfl, p⟩ | ⟨rfl, p, q⟩
 ·refine pif_t rfl ?_
  unfold F170.B12
  refine h.rd (by decide) (by simp) ?_
  unfold F170.B11
  refine g.len (pif_f rfl ?_)
  unfold F170.B9
  refine g.rd (by decide) (by simp) ?_
  unfold F170.B8
  refine cmpCompare_ok (asI_mk ?_)
  unfold F170.B7
  refine pif_cases (fun hb => ?_) fun hb => ?_
  ·unfold F170.B6
   have hb : cmpI a c ≠ 0 := by simpa using hb
   unfold cmpE at k
   rw [if_pos hb] at k; exact k
  ·unfold F170.B5
   exact ⟨⟨rfl, rfl, rfl, rfl, rfl, .inr (.inl ⟨rfl, by simpa using hb⟩)⟩, show 2 - (IntKind.i64.wrap (0 + 1)).toNat < 2 - (0 : Int).toNat by decide⟩
 ·refine pif_t rfl ?_
  unfold F170.B12
  refine h.rd (by decide) (by simp) ?_
  unfold F170.B11
  refine g.len (pif_f rfl ?_)
  unfold F170.B9
  refine g.rd (by decide) (by simp) ?_
  unfold F170.B8
  refine cmpCompare_ok (asI_mk ?_)
  unfold cmpE at k
  rw [if_neg (by simpa using p)] at k
  unfold F170.B7
  refine pif_cases (fun hb => ?_) fun hb => ?_
  ·unfold F170.B6
   exact k
  ·unfold F170.B5
   exact ⟨⟨rfl, rfl, rfl, rfl, rfl, .inr (.inr ⟨rfl, p, by simpa using hb⟩)⟩, show 2 - (IntKind.i64.wrap (1 + 1)).toNat < 2 - (1 : Int).toNat by decide⟩
 ·refine pif_f rfl ?_
  unfold F170.B3
  refine h.len (g.len (pif_f rfl ?_))
  unfold F170.B1
  unfold cmpE at k
  rw [if_neg (by simpa using p)] at k
  simp only [q] at k; exact k

theorem own_ints {b : Nat} {e : TypeId} {l : List Int} {c : Nat} (h : Own H b e (LI l)) : Ints H (.slice (some ⟨b, 0, none⟩) l.length c) l :=
 .inr ⟨_, _, rfl, .inr ⟨rfl, fun i x hx => by rw [h.cell]; simp [hx]⟩⟩
theorem compareEdges_ok {a b : Int × Int} (k : ∀ G, H.le G → K (.int .i64 (cmpE a b)) G) : AC Tryz.prog T0 187 [ve a, ve b] H K := by
 apply F187.ac
 unfold F187.B2
 refine newK_f rfl fun H1 l1 n1 o1 => newK_f rfl fun H2 l2 n2 o2 => ?_
 unfold F187.B1
 exact compare2_ok (own_ints (l := [a.1, a.2]) (l2.2 _ _ o1)) (own_ints (l := [b.1, b.2]) o2) (asI_mk (k _ (AHeap.le_trans l1 l2)))

theorem isSorted_ok (h : Edges H v es) (hl : es.length ≤ 4611686018427387904) [Decidable (Srt es)] (k : ∀ G, H.le G → K (.bool (decide (Srt es))) G) : AC Tryz.prog T0 186 [v, .func (.func 187) ⟨[]⟩ ⟨[]⟩] H K := by
 apply F186.ac
 unfold F186.B8 F186.B7
 refine h.len ?_
 rw [wrap_id (by omega) (by omega)]
 unfold F186.L2
 refine ⟨fun x0 x1 x5 G => x0 = v ∧ x1 = .func (.func 187) ⟨[]⟩ ⟨[]⟩ ∧ -1 ≤ x5 ∧ x5 < es.length ∧ H.le G ∧ ∀ i, x5 ≤ (i : Nat) → i + 1 < es.length → ¬ ltE (es.getD (i + 1) (0, 0)) (es.getD i (0, 0)), fun _ _ x5 _ => (x5 + 1).toNat, ⟨rfl, rfl, by omega, by omega, AHeap.le_refl _, fun i hi hi2 => absurd hi (by omega)⟩, ?_⟩
 rintro x0 x1 x5 G ⟨rfl, rfl, h0, h1, hG, hp⟩
 unfold F186.B6
 refine pif_cases (fun hb => ?_) fun hb => ?_
 ·have hgt : x5 > 0 := of_decide_eq_true hb
  obtain ⟨n, rfl⟩ : ∃ n : Nat, x5 = (n : Int) + 1 := ⟨(x5 - 1).toNat, by omega⟩
  unfold F186.B5
  rw [wrap_id (by omega) (by omega)]
  obtain ⟨b, o, hk, c1, c2⟩ := (h.le hG).idx (show (0 : Int) ≤ (n : Int) + 1 by omega) h1
  obtain ⟨b', o', hk', c1', c2'⟩ := (h.le hG).idx (show (0 : Int) ≤ (n : Int) + 1 - 1 by omega) (by omega)
  refine hk _ (ldI_mk c1 (ldI_mk c2 (hk' _ (ldI_mk c1' (ldI_mk c2' (callV_mk (compareEdges_ok (a := es.getD (((n : Int) + 1).toNat) (0, 0)) (b := es.getD (((n : Int) + 1 - 1).toNat) (0, 0)) fun G2 hG2 => asI_mk ?_)))))))
  rw [show ((n : Int) + 1).toNat = n + 1 by omega, show ((n : Int) + 1 - 1).toNat = n by omega]
  refine pif_cases (fun hb => ?_) fun hb => ?_
  ·unfold F186.B4
   have := k _ (AHeap.le_trans hG hG2)
   rw [decide_eq_false (fun hs => hs n (by omega) ((cmpE_neg _ _).1 (of_decide_eq_true hb)))] at this; exact this
  ·unfold F186.B3
   rw [wrap_id (by omega) (by omega)]
   refine ⟨⟨rfl, rfl, by omega, by omega, AHeap.le_trans hG hG2, fun i hi hi2 => ?_⟩, show ((n : Int) + 1 - 1 + 1).toNat < ((n : Int) + 1 + 1).toNat by omega⟩
   by_cases he : i = n
   ·subst he; exact fun hs => of_decide_eq_false hb ((cmpE_neg _ _).2 hs)
   ·exact hp i (by omega) hi2
 ·have hle : ¬ x5 > 0 := of_decide_eq_false hb
  unfold F186.B1
  have := k _ hG
  rw [decide_eq_true (show Srt es from fun i hi => hp i (by omega) hi)] at this; exact this

theorem mkR_int {bytes : Nat} {e : TypeId} {zs : List Value} {n : Int} {K : Value → AHeap → Prop} (h0 : 0 ≤ n) (h1 : n ≤ 4294967296) (h2 : bytes ≤ 1024)
    (h : ∀ G, H.le G → G.length = H.length + 1 → Own G H.length e (List.replicate n.toNat zs).flatten → K (.slice (some ⟨H.length, 0, none⟩) n.toNat (n.toNat + 1)) G) : mkR H bytes e zs n n K :=
  ⟨h0, Int.le_refl _, h1, h2, h _ (le_snoc _ _) (by simp) (by simp [Own])⟩
theorem rep_one (n : Nat) : (List.replicate n [Value.int .i64 0]).flatten = LI (List.replicate n 0) := by
 induction n with
 | zero => rfl
 | succ n ih => rw [List.replicate_succ, List.replicate_succ, List.flatten_cons, ih]; rfl

theorem bump_at {b : Nat} {e : TypeId} {cs : List Int} {x : Int} {K : AHeap → Prop} (ho : Own H b e (LI cs)) (h0 : 0 ≤ x) (h1 : x < cs.length) (hb : ∀ c ∈ cs, 0 ≤ c ∧ c ≤ 1000000000000) (k : ∀ G, But b H G → Own G b e (LI (bump1 cs x)) → K G) :
    idxK (.slice (some ⟨b, 0, none⟩) cs.length (cs.length + 1)) x 1 (fun b2 o3 => ldI .i64 H b2 o3 (fun v4 => idxK (.slice (some ⟨b, 0, none⟩) cs.length (cs.length + 1)) x 1 (fun b5 o6 => stK H b5 o6 [(Value.int .i64 (IntKind.i64.wrap (v4 + 1)))] K))) := by
  refine (own_ints (c := cs.length + 1) ho).rd h0 h1 ⟨h0, h1, stK_1 ho (by simp; omega) rfl fun G hG o => k G hG ?_⟩
  have hx : x.toNat < cs.length := by omega
  have := hb cs[x.toNat] (List.getElem_mem hx)
  rw [getD_of hx, wrap_id (by omega) (by omega), ← List.map_set, ← getD_of (d := 0) hx] at o
  simpa [bump1] using o

theorem isThree_cl : ∀ c : Int, Cl H (.func (.func 219) ⟨[]⟩ ⟨[]⟩) (.int .i64 c) (c == 3) := by
 intro c G hG K k
 refine callV_mk ?_
 apply F219.ac
 unfold F219.B2 F219.B1
 exact k _ (AHeap.le_refl _)

theorem isCubic_ok {n : Int} (h : Edges H v es) (hd : IsEd n es) (k : ∀ G, H.le G → K (.bool (decide (Cub n es))) G) : AC Tryz.prog T0 188 [.int .i64 n, v] H K := by
 have := hd.lo; have := hd.hi; have hlen := hd.len
 apply F188.ac
 unfold F188.B10 F188.B9
 refine mkR_int (by omega) (by omega) (by decide) fun H1 l1 n1 o1 => ?_
 unfold F188.B8
 refine h.len ?_
 unfold F188.L2
 rw [rep_one] at o1
 refine ⟨fun x5 x10 x11 x12 G => x5 = .slice (some ⟨H.length, 0, none⟩) n.toNat (n.toNat + 1) ∧ x10 = v ∧ x11 = es.length ∧ 0 ≤ x12 ∧ x12 ≤ es.length ∧ H.le G ∧ Own G H.length 3 (LI (counts n (es.take x12.toNat))), fun _ _ _ x12 _ => es.length - x12.toNat, ⟨rfl, rfl, rfl, by omega, by omega, l1, by simpa [counts] using o1⟩, ?_⟩
 rintro x5 x10 x11 x12 G ⟨rfl, rfl, rfl, h0, h1, hG, ho⟩
 unfold F188.B7
 refine pif_cases (fun hb => ?_) fun hb => ?_
 ·have hlt : x12 < es.length := of_decide_eq_true hb
  obtain ⟨i, rfl⟩ : ∃ i : Nat, x12 = i := ⟨x12.toNat, by omega⟩
  have hi : i < es.length := by omega
  unfold F188.B6
  obtain ⟨b, o, hk, c1, c2⟩ := (h.le hG).idx h0 hlt
  refine hk _ (ldI_mk c1 (ldI_mk c2 (newK_f rfl fun H2 l2 n2 o2 => stK_f o2 (by simp) (by simp [Value.oneCell']) rfl fun H3 b3 o3 => ?_)))
  simp only [Int.toNat_natCast, getD_of hi] at o3
  have hGl := lt_of_get ho
  have ho3 := b3.own (l2.2 _ _ ho) (by omega)
  have l3 : H.le H3 := b3.le (AHeap.le_trans hG l2) hG.1
  obtain ⟨e1, e2, e3, e4, _⟩ := hd.ends es[i] (List.getElem_mem hi)
  have cl : (counts n (es.take i)).length = n.toNat := counts_length _ _
  have cb : ∀ c ∈ counts n (es.take i), 0 ≤ c ∧ c ≤ 1000 := fun c hc => by have := counts_le _ _ c hc; simp at this; omega
  unfold F188.B5
  refine ldI_own o3 rfl ?_
  have hs : ∀ cs : List Int, cs.length = n.toNat → (.slice (some ⟨H.length, 0, none⟩) n.toNat (n.toNat + 1) : Value) = .slice (some ⟨H.length, 0, none⟩) cs.length (cs.length + 1) := fun cs h => by rw [h]
  rw [hs _ cl]
  simp only [Int.toNat_natCast] at ho3
  refine bump_at ho3 e1 (by omega) (fun c hc => by have := cb c hc; omega) fun H4 b4 o4 => ?_
  rw [← hs _ cl]
  unfold F188.B4
  have o34 := b4.own o3 (by have := hG.1; omega)
  refine ldI_own o34 rfl ?_
  rw [hs _ ((bump1_length _ _).trans cl)]
  refine bump_at o4 e3 (by rw [bump1_length]; omega) (fun c hc => by have := bump1_le cb _ c hc; omega) fun H5 b5 o5 => ?_
  rw [← hs _ ((bump1_length _ _).trans cl)]
  unfold F188.B3
  rw [wrap_id (by omega) (by omega)]
  refine ⟨⟨rfl, rfl, rfl, by omega, by omega, b5.le (b4.le l3 (Nat.le_refl _)) (Nat.le_refl _), ?_⟩, by simp; omega⟩
  rw [show ((i : Int) + 1).toNat = i + 1 by omega, counts_take n es hi]
  exact o5
 ·have hge : ¬ x12 < es.length := of_decide_eq_false hb
  have : x12 = es.length := by omega
  subst this
  simp only [Int.toNat_natCast, List.take_length] at ho
  unfold F188.B1
  have cl : (counts n es).length = n.toNat := counts_length _ _
  have hi := own_ints (c := n.toNat + 1) ho
  rw [cl] at hi
  refine areAllI_ok (p := fun c => c == 3) hi (by omega) rfl (fun c _ => isThree_cl c) fun G2 hG2 => asB_mk ?_
  have := k _ (AHeap.le_trans hG hG2)
  have e : (counts n es).all (fun c => c == 3) = decide (Cub n es) := by
   rw [Bool.eq_iff_iff, List.all_eq_true, decide_eq_true_iff]
   simp [Cub]
  rw [e]; exact this

theorem areEdges_ok {n : Int} (h : Edges H v es) (hl : es.length ≤ 1048576) (k : ∀ G, H.le G → K (.bool (decide (IsEd n es))) G) : AC Tryz.prog T0 183 [.int .i64 n, v] H K := by
 apply F183.ac
 unfold F183.B2
 refine newK_f rfl fun H1 l1 n1 o1 => ?_
 unfold F183.B1
 refine ldI_own o1 rfl (isSize_ok (asB_mk (pif_cases (fun hs => ?_) fun hs => ?_)))
 ·obtain ⟨s1, s2, s3⟩ := of_decide_eq_true hs
  refine ldI_own o1 rfl (lengthE_ok (h.le l1) (asI_mk ⟨AHeap.le_refl _, ?_⟩))
  rw [wrap_id (x := 3 * n) (by omega) (by omega), show Int.tdiv (3 * n) 2 = 3 * n / 2 from Int.tdiv_eq_ediv_of_nonneg (by omega), wrap_id (by omega) (by omega)]
  refine pif_cases (fun hs => ?_) fun hs => ?_
  ·have hlen : (es.length : Int) = 3 * n / 2 := by simpa using hs
   refine areAllE_ok (p := fun e => decide (0 ≤ e.1 ∧ e.1 ≤ n - 1) && (decide (0 ≤ e.2 ∧ e.2 ≤ n - 1) && (e.1 != e.2))) (h.le l1) (by omega) rfl (fun e he => ?_) fun G hG => asB_mk ?_
   ·intro G hG K k
    refine callV_mk ?_
    apply F215.ac
    unfold F215.B2
    refine newK_f rfl fun H2 l2 n2 o2 => ?_
    have o1 := l2.2 _ _ (hG.2 _ _ o1)
    unfold F215.B1
    refine ldI_own o2 rfl (asP_mk (ldI_own o1 rfl (within_ok (asB_mk ?_))))
    rw [wrap_id (by omega) (by omega)]
    have k := k _ l2
    refine pif_cases (fun hb => ?_) fun hb => ?_
    ·rw [hb, Bool.true_and] at k
     refine ldI_own o2 rfl (asP_mk (ldI_own o1 rfl (within_ok (asB_mk ?_))))
     rw [wrap_id (by omega) (by omega)]
     refine pif_cases (fun hb => ?_) fun hb => ?_
     ·rw [hb, Bool.true_and] at k
      exact ldI_own o2 rfl (ldI_own o2 rfl k)
     ·rw [hb, Bool.false_and] at k; exact k
    ·rw [hb, Bool.false_and] at k; exact k
   ·have := k _ (AHeap.le_trans l1 hG)
    have e : (es.all fun e => decide (0 ≤ e.1 ∧ e.1 ≤ n - 1) && (decide (0 ≤ e.2 ∧ e.2 ≤ n - 1) && (e.1 != e.2))) = decide (IsEd n es) := by
     rw [Bool.eq_iff_iff, List.all_eq_true, decide_eq_true_iff]
     constructor
     ·intro h
      refine ⟨s1, s2, s3, hlen, fun e he => ?_⟩
      have := h e he
      simp only [Bool.and_eq_true, decide_eq_true_eq, bne_iff_ne] at this
      exact ⟨this.1.1, this.1.2, this.2.1.1, this.2.1.2, this.2.2⟩
     ·intro h e he
      obtain ⟨h1, h2, h3, h4, h5⟩ := h.ends e he
      simp [h1, h2, h3, h4, h5]
    rw [e]; exact this
  ·have := k _ l1
   rw [decide_eq_false (fun hd => by have := hd.len; simp at hs; omega)] at this; exact this
 ·have := k _ l1
  rw [decide_eq_false (fun hd => of_decide_eq_false hs ⟨hd.lo, hd.hi, hd.even⟩)] at this; exact this

noncomputable instance (es : List (Int × Int)) : Decidable (Srt es) := Classical.propDecidable _
theorem IsGraph_ok {n : Int} (h : Edges H v es) (hl : es.length ≤ 1048576) (k : ∀ G, H.le G → K (.bool (decide (IsG n es))) G) : AC Tryz.prog T0 143 [.agg ⟨[.int .i64 n, v]⟩] H K := by
 apply F143.ac
 unfold F143.B2
 refine newK_f (all_iv (edges_one' h)) fun H1 l1 n1 o1 => ?_
 unfold F143.B1
 refine ldI_own o1 rfl (ld1_own o1 rfl (areEdges_ok (h.le l1) hl fun H2 l2 => asB_mk (pif_cases (fun hb => ?_) fun hb => ?_)))
 ·have hd := of_decide_eq_true hb
  have o2 := l2.2 _ _ o1
  refine ld1_own o2 rfl (areAllE_ok (p := fun e => decide (e.1 < e.2)) (h.le (AHeap.le_trans l1 l2)) (by omega) rfl (fun e he => ?_) fun H3 l3 => asB_mk (pif_cases (fun hb => ?_) fun hb => ?_))
  ·intro G hG K k
   refine callV_mk ?_
   apply F185.ac
   unfold F185.B2
   refine newK_f rfl fun H2 l2 n2 o2 => ?_
   unfold F185.B1
   exact ldI_own o2 rfl (ldI_own o2 rfl (k _ l2))
  ·have hup : ∀ e ∈ es, e.1 < e.2 := fun e he => of_decide_eq_true (List.all_eq_true.1 hb e he)
   have o3 := l3.2 _ _ o2
   have l13 := AHeap.le_trans l1 (AHeap.le_trans l2 l3)
   refine ld1_own o3 rfl (isSorted_ok (h.le l13) (by omega) fun H4 l4 => asB_mk (pif_cases (fun hb => ?_) fun hb => ?_))
   ·have o4 := l4.2 _ _ o3
    refine ldI_own o4 rfl (ld1_own o4 rfl (isCubic_ok (h.le (AHeap.le_trans l13 l4)) hd fun H5 l5 => asB_mk ?_))
    have := k _ (AHeap.le_trans l13 (AHeap.le_trans l4 l5))
    have e : decide (IsG n es) = decide (Cub n es) := by
     rw [decide_eq_decide]
     exact ⟨fun h => h.cub, fun h => ⟨hd, hup, of_decide_eq_true hb, h⟩⟩
    rw [e] at this; exact this
   ·have := k _ (AHeap.le_trans l13 l4)
    rw [decide_eq_false (fun hg => of_decide_eq_false hb hg.srt)] at this; exact this
  ·have := k _ (AHeap.le_trans l1 (AHeap.le_trans l2 l3))
   rw [decide_eq_false (fun hg => by
    have : es.all (fun e => decide (e.1 < e.2)) = true := List.all_eq_true.2 fun e he => decide_eq_true (hg.up e he)
    rw [this] at hb; cases hb)] at this; exact this
 ·have := k _ (AHeap.le_trans l1 l2)
  rw [decide_eq_false (fun hg => of_decide_eq_false hb hg.ed)] at this; exact this

theorem graphCode_ok {n : Int} {b : Bool} (h : Edges H v es) (hl : es.length ≤ 1048576) (k : ∀ G, H.le G → K (.int .i64 (if IsG n es then (if b then 0 else 2) else 1)) G) : AC Tryz.prog T0 72 [.agg ⟨[.int .i64 n, v]⟩, .bool b] H K := by
 apply F72.ac
 unfold F72.B6
 refine newK_f (all_iv (edges_one' h)) fun H1 l1 n1 o1 => ?_
 unfold F72.B5
 refine ldI_own o1 rfl (ld1_own o1 rfl (IsGraph_ok (h.le l1) hl fun H2 l2 => asB_mk ?_))
 have k := k _ (AHeap.le_trans l1 l2)
 refine pif_cases (fun hb => ?_) fun hb => ?_
 ·unfold F72.B2
  rw [if_neg (of_decide_eq_false (by simpa using hb))] at k; exact k
 ·rw [if_pos (of_decide_eq_true (by simpa using hb))] at k
  unfold F72.B4
  cases b
  ·exact pif_t rfl k
  ·exact pif_f rfl k

theorem isSet_ok {n : Int} (h : Ints H v l) (hl : l.length ≤ 4611686018427387904) (hn : -1000000000000 ≤ n) (hn2 : n ≤ 4611686018427387904) (k : K (.bool (decide (IsS l n))) H) : AC Tryz.prog T0 98 [v, .int .i64 n] H K := by
 apply F98.ac
 unfold F98.B9 F98.B8
 refine h.len ?_
 unfold F98.L2
 refine ⟨fun x0 x1 x7 x8 x9 G => x0 = v ∧ x1 = n ∧ x7 = v ∧ x8 = l.length ∧ 0 ≤ x9 ∧ x9 ≤ l.length ∧ G = H ∧ ∀ i : Nat, (i : Int) < x9 → 0 ≤ l.getD i 0 ∧ l.getD i 0 ≤ n - 1 ∧ (0 < i → l.getD (i - 1) 0 < l.getD i 0), fun _ _ _ _ x9 _ => l.length - x9.toNat, ⟨rfl, rfl, rfl, rfl, by omega, by omega, rfl, fun i hi => absurd hi (by omega)⟩, ?_⟩
 rintro x0 x1 x7 x8 x9 G ⟨rfl, rfl, rfl, rfl, h0, h1, rfl, hp⟩
 unfold F98.B7
 refine pif_cases (fun hb => ?_) fun hb => ?_
 ·have hlt : x9 < l.length := of_decide_eq_true hb
  obtain ⟨i, rfl⟩ : ∃ i : Nat, x9 = i := ⟨x9.toNat, by omega⟩
  have hi : i < l.length := by omega
  unfold F98.B6
  refine h.rd h0 hlt ?_
  simp only [Int.toNat_natCast]
  unfold F98.B5
  refine within_ok (asB_mk ?_)
  rw [wrap_id (by omega) (by omega)]
  have no : ¬ (0 ≤ l.getD i 0 ∧ l.getD i 0 ≤ x1 - 1 ∧ (0 < i → l.getD (i - 1) 0 < l.getD i 0)) → ∀ N, F98.B4 K N G := by
   intro hno N
   unfold F98.B4
   rw [decide_eq_false (fun hs : IsS l x1 => hno (hs i hi))] at k; exact k
  have yes : (0 ≤ l.getD i 0 ∧ l.getD i 0 ≤ x1 - 1 ∧ (0 < i → l.getD (i - 1) 0 < l.getD i 0)) → ∀ j : Nat, (j : Int) < (i : Int) + 1 → 0 ≤ l.getD j 0 ∧ l.getD j 0 ≤ x1 - 1 ∧ (0 < j → l.getD (j - 1) 0 < l.getD j 0) := by
   intro hy j hj
   by_cases he : j = i
   ·subst he; exact hy
   ·exact hp j (by omega)
  refine pif_cases (fun hb => ?_) fun hb => ?_
  ·rw [Bool.not_eq_true'] at hb
   exact no (fun hy => of_decide_eq_false hb ⟨hy.1, hy.2.1⟩) _
  ·have hb : 0 ≤ l.getD i 0 ∧ l.getD i 0 ≤ x1 - 1 := by simpa using hb
   refine pif_cases (fun hc => ?_) fun hc => ?_
   ·have hi0 : 0 < i := by have := of_decide_eq_true hc; omega
    rw [wrap_id (by omega) (by omega)]
    refine h.rd (by omega) (by omega) ?_
    rw [show ((i : Int) - 1).toNat = i - 1 by omega]
    refine pif_cases (fun hd => ?_) fun hd => ?_
    ·have := of_decide_eq_true hd
     exact no (fun hy => by have := hy.2.2 hi0; omega) _
    ·have := of_decide_eq_false hd
     unfold F98.B3
     rw [wrap_id (by omega) (by omega)]
     exact ⟨⟨rfl, rfl, rfl, rfl, by omega, by omega, rfl, yes ⟨hb.1, hb.2, fun _ => by omega⟩⟩, by simp; omega⟩
   ·have := of_decide_eq_false hc
    unfold F98.B3
    rw [wrap_id (by omega) (by omega)]
    exact ⟨⟨rfl, rfl, rfl, rfl, by omega, by omega, rfl, yes ⟨hb.1, hb.2, fun h => by omega⟩⟩, by simp; omega⟩
 ·have hge : ¬ x9 < l.length := of_decide_eq_false hb
  unfold F98.B1
  rw [decide_eq_true (show IsS l x1 from fun i hi => hp i (by omega))] at k; exact k
end Go.Proofs
namespace Go.Proofs
open Go.Abs

variable {H : AHeap} {v u f : Value} {l m : List Int} {es fs : List (Int × Int)} {K : Value → AHeap → Prop}

theorem l01Before_ok {a b : Int × Int} (k : ∀ G, H.le G → K (.bool (decide (ltE a b))) G) : AC Tryz.prog T0 146 [.agg ⟨[.int .i64 a.1, .int .i64 a.2]⟩, .agg ⟨[.int .i64 b.1, .int .i64 b.2]⟩] H K := by
 apply F146.ac
 unfold F146.B2
 refine newK_f rfl fun H1 l1 n1 o1 => newK_f rfl fun H2 l2 n2 o2 => ?_
 have o1 := l2.2 _ _ o1
 have k := k _ (AHeap.le_trans l1 l2)
 unfold F146.B1
 refine ldI_own o1 rfl (ldI_own o2 rfl (pif_cases (fun h => ?_) fun h => ?_))
 ·rw [decide_eq_true (show ltE a b from .inl (of_decide_eq_true h))] at k; exact k
 ·have h := of_decide_eq_false h
  refine ldI_own o1 rfl (ldI_own o2 rfl (pif_cases (fun g => ?_) fun g => ?_))
  ·refine ldI_own o1 rfl (ldI_own o2 rfl ?_)
   have g : a.1 = b.1 := by simpa using g
   have e : decide (a.2 < b.2) = decide (ltE a b) := by rw [decide_eq_decide]; unfold ltE; omega
   rw [e]; exact k
  ·have g : a.1 ≠ b.1 := by simpa using g
   rw [decide_eq_false (by unfold ltE; omega)] at k; exact k

theorem l01Ends_ok {n : Int} (h : Edges H v es) (hl : es.length ≤ 1048576) (k : K (.int .i64 (if IsEd n es then 0 else 2)) H) : AC Tryz.prog T0 144 [.int .i64 n, v] H K := by
 apply F144.ac
 unfold F144.B10 F144.B9
 have no : ¬ IsEd n es → F144.B8 K H := by
  intro hno
  unfold F144.B8; rw [if_neg hno] at k; exact k
 refine l01In_ok (asB_mk (pif_cases (fun hs => ?_) fun hs => ?_))
 ·rw [Bool.not_eq_true'] at hs
  exact no fun hd => of_decide_eq_false hs ⟨hd.lo, hd.hi⟩
 ·rw [Bool.not_eq_false'] at hs
  obtain ⟨s1, s2⟩ := of_decide_eq_true hs
  refine pif_cases (fun hs => ?_) fun hs => ?_
  ·exact no fun hd => by have := hd.even; rw [Int.tmod_eq_emod_of_nonneg (by omega)] at hs; simp [this] at hs
  ·have s3 : n % 2 = 0 := by rw [Int.tmod_eq_emod_of_nonneg (by omega)] at hs; simpa using hs
   refine h.len ?_
   rw [wrap_id (x := 3 * n) (by omega) (by omega), show Int.tdiv (3 * n) 2 = 3 * n / 2 from Int.tdiv_eq_ediv_of_nonneg (by omega), wrap_id (by omega) (by omega)]
   refine pif_cases (fun hs => ?_) fun hs => ?_
   ·exact no fun hd => by have := hd.len; simp [this] at hs
   ·have hlen : (es.length : Int) = 3 * n / 2 := by simpa using hs
    unfold F144.B7 F144.L2
    refine ⟨fun x0 x1 x5 G => x0 = n ∧ x1 = v ∧ 0 ≤ x5 ∧ x5 ≤ es.length ∧ G = H ∧ ∀ i : Nat, (i : Int) < x5 → 0 ≤ (es.getD i (0, 0)).1 ∧ (es.getD i (0, 0)).1 ≤ n - 1 ∧ 0 ≤ (es.getD i (0, 0)).2 ∧ (es.getD i (0, 0)).2 ≤ n - 1 ∧ (es.getD i (0, 0)).1 ≠ (es.getD i (0, 0)).2,
     fun _ _ x5 _ => es.length - x5.toNat, ⟨rfl, rfl, by omega, by omega, rfl, fun i hi => absurd hi (by omega)⟩, ?_⟩
    rintro x0 x1 x5 G ⟨rfl, rfl, h0, h1, rfl, hp⟩
    unfold F144.B6
    refine h.len (pif_cases (fun hb => ?_) fun hb => ?_)
    ·have hlt : x5 < es.length := of_decide_eq_true hb
     obtain ⟨i, rfl⟩ : ∃ i : Nat, x5 = i := ⟨x5.toNat, by omega⟩
     have hi : i < es.length := by omega
     have no : ¬ (0 ≤ (es.getD i (0, 0)).1 ∧ (es.getD i (0, 0)).1 ≤ x0 - 1 ∧ 0 ≤ (es.getD i (0, 0)).2 ∧ (es.getD i (0, 0)).2 ≤ x0 - 1 ∧ (es.getD i (0, 0)).1 ≠ (es.getD i (0, 0)).2) → ∀ N, F144.B4 K N G := by
      intro hno N
      unfold F144.B4
      rw [if_neg (fun hd => hno (by have := hd.ends _ (List.getElem_mem hi); rw [getD_of hi]; exact this))] at k; exact k
     unfold F144.B5
     obtain ⟨b, o, hk, c1, c2⟩ := h.idx h0 hlt
     simp only [Int.toNat_natCast] at c1 c2
     refine hk _ (ldI_mk c1 (l01In_ok (asB_mk ?_)))
     rw [wrap_id (by omega) (by omega)]
     refine pif_cases (fun hs => ?_) fun hs => ?_
     ·rw [Bool.not_eq_true'] at hs
      exact no (fun hy => of_decide_eq_false hs ⟨hy.1, hy.2.1⟩) _
     ·rw [Bool.not_eq_false'] at hs
      obtain ⟨t1, t2⟩ := of_decide_eq_true hs
      refine hk _ (ldI_mk c2 (l01In_ok (asB_mk (pif_cases (fun hs => ?_) fun hs => ?_))))
      ·rw [Bool.not_eq_true'] at hs
       exact no (fun hy => of_decide_eq_false hs ⟨hy.2.2.1, hy.2.2.2.1⟩) _
      ·rw [Bool.not_eq_false'] at hs
       obtain ⟨t3, t4⟩ := of_decide_eq_true hs
       refine hk _ (ldI_mk c1 (hk _ (ldI_mk c2 (pif_cases (fun hs => ?_) fun hs => ?_))))
       ·exact no (fun hy => hy.2.2.2.2 (by simpa using hs)) _
       ·unfold F144.B3
        rw [wrap_id (x := (i : Int) + 1) (by omega) (by omega)]
        refine ⟨⟨rfl, rfl, by omega, by omega, rfl, fun j hj => ?_⟩, by simp; omega⟩
        by_cases he : j = i
        ·subst he; exact ⟨t1, t2, t3, t4, by simpa using hs⟩
        ·exact hp j (by omega)
    ·have hge : ¬ x5 < es.length := of_decide_eq_false hb
     unfold F144.B1
     rw [if_pos (⟨s1, s2, s3, hlen, fun e he => by
      obtain ⟨i, hi, rfl⟩ := List.getElem_of_mem he
      have := hp i (by omega)
      rwa [getD_of hi] at this⟩ : IsEd x0 es)] at k
     exact k

theorem l01Cubic_ok {n : Int} (h : Edges H v es) (hd : IsEd n es) (k : ∀ G, H.le G → K (.bool (decide (Cub n es))) G) : AC Tryz.prog T0 145 [.int .i64 n, v] H K := by
 have := hd.lo; have := hd.hi; have hlen := hd.len
 apply F145.ac
 unfold F145.B15 F145.B14
 refine mkR_int (by omega) (by omega) (by decide) fun H1 l1 n1 o1 => ?_
 unfold F145.B13 F145.L8
 rw [rep_one] at o1
 refine ⟨fun x0 x1 x5 x6 G => x0 = n ∧ x1 = v ∧ x5 = .slice (some ⟨H.length, 0, none⟩) n.toNat (n.toNat + 1) ∧ 0 ≤ x6 ∧ x6 ≤ es.length ∧ H.le G ∧ Own G H.length 2 (LI (counts n (es.take x6.toNat))), fun _ _ _ x6 _ => es.length - x6.toNat, ⟨rfl, rfl, rfl, by omega, by omega, l1, by simpa [counts] using o1⟩, ?_⟩
 rintro x0 x1 x5 x6 G ⟨rfl, rfl, rfl, h0, h1, hG, ho⟩
 unfold F145.B12
 refine h.len (pif_cases (fun hb => ?_) fun hb => ?_)
 ·have hlt : x6 < es.length := of_decide_eq_true hb
  obtain ⟨i, rfl⟩ : ∃ i : Nat, x6 = i := ⟨x6.toNat, by omega⟩
  have hi : i < es.length := by omega
  unfold F145.B11
  obtain ⟨b, o, hk, c1, c2⟩ := (h.le hG).idx h0 hlt
  obtain ⟨e1, e2, e3, e4, _⟩ := hd.ends es[i] (List.getElem_mem hi)
  simp only [Int.toNat_natCast, getD_of hi] at c1 c2 ho
  have cl : (counts x0 (es.take i)).length = x0.toNat := counts_length _ _
  have cb : ∀ c ∈ counts x0 (es.take i), 0 ≤ c ∧ c ≤ 1000 := fun c hc => by have := counts_le _ _ c hc; simp at this; omega
  have hs : ∀ cs : List Int, cs.length = x0.toNat → (.slice (some ⟨H.length, 0, none⟩) x0.toNat (x0.toNat + 1) : Value) = .slice (some ⟨H.length, 0, none⟩) cs.length (cs.length + 1) := fun cs h => by rw [h]
  refine hk _ (ldI_mk c1 ?_)
  rw [hs _ cl]
  refine bump_at ho e1 (by omega) (fun c hc => by have := cb c hc; omega) fun H4 b4 o4 => ?_
  rw [← hs _ cl]
  unfold F145.B10
  have l4 := b4.le hG (Nat.le_refl _)
  obtain ⟨b', o', hk', c1', c2'⟩ := (h.le l4).idx h0 hlt
  simp only [Int.toNat_natCast, getD_of hi] at c1' c2'
  refine hk' _ (ldI_mk c2' ?_)
  rw [hs _ ((bump1_length _ _).trans cl)]
  refine bump_at o4 e3 (by rw [bump1_length]; omega) (fun c hc => by have := bump1_le cb _ c hc; omega) fun H5 b5 o5 => ?_
  rw [← hs _ ((bump1_length _ _).trans cl)]
  unfold F145.B9
  rw [wrap_id (by omega) (by omega)]
  refine ⟨⟨rfl, rfl, rfl, by omega, by omega, b5.le l4 (Nat.le_refl _), ?_⟩, by simp; omega⟩
  rw [show ((i : Int) + 1).toNat = i + 1 by omega, counts_take x0 es hi]
  exact o5
 ·have hge : ¬ x6 < es.length := of_decide_eq_false hb
  have : x6 = es.length := by omega
  subst this
  simp only [Int.toNat_natCast, List.take_length] at ho
  have cl : (counts x0 es).length = x0.toNat := counts_length _ _
  have hi := own_ints (c := x0.toNat + 1) ho
  rw [cl] at hi
  unfold F145.B7 F145.L2
  refine ⟨fun y0 y5 y7 G' => y0 = x0 ∧ y5 = .slice (some ⟨H.length, 0, none⟩) x0.toNat (x0.toNat + 1) ∧ 0 ≤ y7 ∧ y7 ≤ x0 ∧ G' = G ∧ ∀ i : Nat, (i : Int) < y7 → (counts x0 es).getD i 0 = 3, fun _ _ y7 _ => (x0 - y7).toNat, ⟨rfl, rfl, by omega, by omega, rfl, fun i hi => absurd hi (by omega)⟩, ?_⟩
  rintro y0 y5 y7 G' ⟨rfl, rfl, g0, g1, rfl, hp⟩
  unfold F145.B6
  have k := k _ hG
  refine pif_cases (fun hb => ?_) fun hb => ?_
  ·have hlt : y7 < y0 := of_decide_eq_true hb
   obtain ⟨i, rfl⟩ : ∃ i : Nat, y7 = i := ⟨y7.toNat, by omega⟩
   unfold F145.B5
   refine hi.rd g0 (by omega) ?_
   simp only [Int.toNat_natCast]
   refine pif_cases (fun hs => ?_) fun hs => ?_
   ·unfold F145.B4
    have hil : i < (counts y0 es).length := by omega
    rw [getD_of hil] at hs
    rw [decide_eq_false (fun hc : Cub y0 es => by have := hc _ (List.getElem_mem hil); simp [this] at hs)] at k; exact k
   ·unfold F145.B3
    rw [wrap_id (by omega) (by omega)]
    refine ⟨⟨rfl, rfl, by omega, by omega, rfl, fun j hj => ?_⟩, show (y0 - ((i : Int) + 1)).toNat < (y0 - (i : Int)).toNat by omega⟩
    by_cases he : j = i
    ·subst he; exact bne_eq_false_iff_eq.1 hs
    ·exact hp j (by omega)
  ·have hge : ¬ y7 < y0 := of_decide_eq_false hb
   unfold F145.B1
   rw [decide_eq_true (show Cub y0 es from fun c hc => by
    obtain ⟨i, hi, rfl⟩ := List.getElem_of_mem hc
    have := hp i (by omega)
    rwa [getD_of hi] at this)] at k
   exact k

theorem l01Is_ok {n : Int} (h : Edges H v es) (hl : es.length ≤ 1048576) (k : ∀ G, H.le G → K (.bool (decide (IsG n es))) G) : AC Tryz.prog T0 75 [.agg ⟨[.int .i64 n, v]⟩] H K := by
 apply F75.ac
 unfold F75.B10
 refine newK_f (all_iv (edges_one' h)) fun H1 l1 n1 o1 => ?_
 unfold F75.B9
 refine ldI_own o1 rfl (ld1_own o1 rfl (l01Ends_ok (h.le l1) hl (asI_mk ?_)))
 refine pif_cases (fun hb => ?_) fun hb => ?_
 ·unfold F75.B8
  have k := k _ l1
  rw [decide_eq_false (fun hg => by rw [if_pos hg.ed] at hb; simp at hb)] at k; exact k
 ·have hd : IsEd n es := by
   by_cases hd : IsEd n es
   ·exact hd
   ·rw [if_neg hd] at hb; simp at hb
  refine ldI_own o1 rfl (ld1_own o1 rfl (l01Cubic_ok (h.le l1) hd fun H2 l2 => asB_mk ?_))
  have l12 := AHeap.le_trans l1 l2
  have o2 := l2.2 _ _ o1
  refine pif_cases (fun hb => ?_) fun hb => ?_
  ·unfold F75.B8
   rw [Bool.not_eq_true'] at hb
   have k := k _ l12
   rw [decide_eq_false (fun hg => of_decide_eq_false hb hg.cub)] at k; exact k
  ·rw [Bool.not_eq_false'] at hb
   have hc : Cub n es := of_decide_eq_true hb
   unfold F75.B7 F75.L2
   refine ⟨fun x1 x3 G => x1 = H.length ∧ 0 ≤ x3 ∧ x3 ≤ es.length ∧ H.le G ∧ Own G H.length 26 [.int .i64 n, v] ∧ ∀ i : Nat, (i : Int) < x3 → ¬ (es.getD i (0, 0)).1 > (es.getD i (0, 0)).2 ∧ (0 < i → ¬ ltE (es.getD i (0, 0)) (es.getD (i - 1) (0, 0))),
    fun _ x3 _ => es.length - x3.toNat, ⟨rfl, by omega, by omega, l12, o2, fun i hi => absurd hi (by omega)⟩, ?_⟩
   rintro x1 x3 G ⟨rfl, h0, h1, hG, ho, hp⟩
   unfold F75.B6
   refine ld1_own ho rfl ((h.le hG).len (pif_cases (fun hb => ?_) fun hb => ?_))
   ·have hlt : x3 < es.length := of_decide_eq_true hb
    obtain ⟨i, rfl⟩ : ∃ i : Nat, x3 = i := ⟨x3.toNat, by omega⟩
    have hi : i < es.length := by omega
    have no : ∀ G, H.le G → ¬ (¬ (es.getD i (0, 0)).1 > (es.getD i (0, 0)).2 ∧ (0 < i → ¬ ltE (es.getD i (0, 0)) (es.getD (i - 1) (0, 0)))) → ∀ N, F75.B4 K N G := by
     intro G hG hno N
     unfold F75.B4
     have k := k _ hG
     rw [decide_eq_false (fun hg : IsG n es => hno ⟨by have := hg.up _ (List.getElem_mem hi); rw [getD_of hi]; omega, fun hi0 => by
      have := hg.srt (i - 1) (by omega)
      rwa [show i - 1 + 1 = i by omega] at this⟩)] at k; exact k
    have yes : (¬ (es.getD i (0, 0)).1 > (es.getD i (0, 0)).2 ∧ (0 < i → ¬ ltE (es.getD i (0, 0)) (es.getD (i - 1) (0, 0)))) → ∀ j : Nat, (j : Int) < (i : Int) + 1 → ¬ (es.getD j (0, 0)).1 > (es.getD j (0, 0)).2 ∧ (0 < j → ¬ ltE (es.getD j (0, 0)) (es.getD (j - 1) (0, 0))) := by
     intro hy j hj
     by_cases he : j = i
     ·subst he; exact hy
     ·exact hp j (by omega)
    unfold F75.B5
    obtain ⟨b, o, hk, c1, c2⟩ := (h.le hG).idx h0 hlt
    simp only [Int.toNat_natCast] at c1 c2
    refine ld1_own ho rfl (hk _ (ldI_mk c1 (ld1_own ho rfl (hk _ (ldI_mk c2 (pif_cases (fun hs => ?_) fun hs => ?_))))))
    ·exact no _ hG (fun hy => hy.1 (of_decide_eq_true hs)) _
    ·have hs := of_decide_eq_false hs
     refine pif_cases (fun ht => ?_) fun ht => ?_
     ·have hi0 : 0 < i := by have := of_decide_eq_true ht; omega
      rw [wrap_id (by omega) (by omega)]
      obtain ⟨b', o', hk', c1', c2'⟩ := (h.le hG).idx (show (0 : Int) ≤ (i : Int) - 1 by omega) (by omega)
      rw [show ((i : Int) - 1).toNat = i - 1 by omega] at c1' c2'
      refine ld1_own ho rfl (hk _ (ldI_mk c1 (ldI_mk c2 (ld1_own ho rfl (hk' _ (ldI_mk c1' (ldI_mk c2' (l01Before_ok fun G2 hG2 => asB_mk (pif_cases (fun hb => ?_) fun hb => ?_)))))))))
      ·exact no _ (AHeap.le_trans hG hG2) (fun hy => hy.2 hi0 (of_decide_eq_true hb)) _
      ·unfold F75.B3
       rw [wrap_id (by omega) (by omega)]
       exact ⟨⟨rfl, by omega, by omega, AHeap.le_trans hG hG2, hG2.2 _ _ ho, yes ⟨hs, fun _ => of_decide_eq_false hb⟩⟩, by simp; omega⟩
     ·have := of_decide_eq_false ht
      unfold F75.B3
      rw [wrap_id (by omega) (by omega)]
      exact ⟨⟨rfl, by omega, by omega, hG, ho, yes ⟨hs, fun h => by omega⟩⟩, by simp; omega⟩
   ·have hge : ¬ x3 < es.length := of_decide_eq_false hb
    unfold F75.B1
    have k := k _ hG
    rw [decide_eq_true (⟨hd, fun e he => by
     obtain ⟨i, hi, rfl⟩ := List.getElem_of_mem he
     have h1 := (hp i (by omega)).1
     have h2 := (hd.ends _ (List.getElem_mem hi)).2.2.2.2
     rw [getD_of hi] at h1; omega, fun i hi => by have := (hp (i + 1) (by omega)).2 (by omega); simpa using this, hc⟩ : IsG n es)] at k
    exact k

end Go.Proofs
namespace Go.Proofs
open Go.Abs

variable {H : AHeap} {v u : Value} {l m : List Int} {es fs : List (Int × Int)} {K : Value → AHeap → Prop}

theorem LE_set (l : List (Int × Int)) {n : Nat} (x : Int × Int) (h : n < l.length) : (LE l).take (n * 2) ++ [.int .i64 x.1, .int .i64 x.2] ++ (LE l).drop (n * 2 + 2) = LE (l.set n x) := by
 induction l generalizing n with
 | nil => simp at h
 | cons y l ih =>
  cases n with
  | zero => simp [LE_cons]
  | succ n =>
   rw [List.set_cons_succ, LE_cons, LE_cons, ← ih (by simpa using h), show (n + 1) * 2 = n * 2 + 2 by omega]
   simp

theorem ints_one {H : AHeap} {v : Value} {l : List Int} (h : Ints H v l) : v.oneCell' = true := by
 rcases h with ⟨rfl, _⟩ | ⟨a, c, rfl, _⟩ <;> rfl

end Go.Proofs
namespace Go.Proofs
open Go.Abs

variable {H : AHeap} {v u : Value} {l m : List Int} {es fs : List (Int × Int)} {K : Value → AHeap → Prop}

end Go.Proofs
namespace Go.Proofs
open Go.Abs

def setN (l : List Int) : Nat := l.foldl (fun s i => s ||| 2 ^ i.toNat) 0
def bitsTo (s i : Nat) : List Int := ((List.range i).filter (fun j => s.testBit j)).map Int.ofNat
def bitsL (s : Nat) : List Int := bitsTo s 64

theorem u64_nat {x : Nat} (h : x < 2 ^ 64) : IntKind.u64.wrap ((x : Nat) : Int) = x := by
 rw [IntKind.wrap_u64]; omega
theorem bv_nat (s : Nat) : BitVec.ofInt 64 (s : Int) = BitVec.ofNat 64 s := by
 simp
theorem or_lt {s t : Nat} (h : s < 2 ^ 64) (g : t < 2 ^ 64) : s ||| t < 2 ^ 64 := Nat.or_lt_two_pow h g
theorem bits_or {s t : Nat} (h : s < 2 ^ 64) (g : t < 2 ^ 64) : IntKind.u64.wrap ((BitVec.ofInt 64 (s : Int) ||| BitVec.ofInt 64 (t : Int)).toNat : Int) = ((s ||| t : Nat) : Int) := by
 rw [bv_nat, bv_nat, BitVec.toNat_or, BitVec.toNat_ofNat, BitVec.toNat_ofNat, Nat.mod_eq_of_lt h, Nat.mod_eq_of_lt g, u64_nat (or_lt h g)]
theorem bits_and {s t : Nat} (h : s < 2 ^ 64) (g : t < 2 ^ 64) : IntKind.u64.wrap ((BitVec.ofInt 64 (s : Int) &&& BitVec.ofInt 64 (t : Int)).toNat : Int) = ((s &&& t : Nat) : Int) := by
 have : s &&& t < 2 ^ 64 := Nat.lt_of_le_of_lt Nat.and_le_left h
 rw [bv_nat, bv_nat, BitVec.toNat_and, BitVec.toNat_ofNat, BitVec.toNat_ofNat, Nat.mod_eq_of_lt h, Nat.mod_eq_of_lt g, u64_nat this]
theorem one_shl {i : Int} (h0 : 0 ≤ i) (h : i < 64) : IntKind.u64.wrap (1 * 2 ^ (min i.toNat 64)) = ((2 ^ i.toNat : Nat) : Int) := by
 rw [Int.one_mul, show min i.toNat 64 = i.toNat by omega]
 have : (2 : Nat) ^ i.toNat < 2 ^ 64 := Nat.pow_lt_pow_right (by decide) (by omega)
 rw [← u64_nat this]; simp
theorem shr_nat (s : Nat) (i : Nat) : Int.fdiv (s : Int) (2 ^ i) = ((s / 2 ^ i : Nat) : Int) := by
 rw [Int.fdiv_eq_ediv_of_nonneg _ (by exact Int.le_of_lt (Int.pow_pos (by decide)))]
 simp
theorem testBit_big {s : Nat} (h : s < 2 ^ 64) {i : Nat} (hi : 64 ≤ i) : s.testBit i = false :=
 Nat.testBit_lt_two_pow (Nat.lt_of_lt_of_le h (Nat.pow_le_pow_right (by decide) hi))
theorem has_bit {s : Nat} (h : s < 2 ^ 64) {i : Int} (h0 : 0 ≤ i) : ((IntKind.u64.wrap ((BitVec.ofInt 64 (Int.fdiv (s : Int) (2 ^ (min i.toNat 64))) &&& BitVec.ofInt 64 1).toNat : Int) : Int) == 1) = s.testBit i.toNat := by
 have hd : s / 2 ^ (min i.toNat 64) < 2 ^ 64 := Nat.lt_of_le_of_lt (Nat.div_le_self _ _) h
 rw [shr_nat, show (1 : Int) = ((1 : Nat) : Int) from rfl, bits_and hd (by decide), Nat.and_one_is_mod]
 by_cases hi : i.toNat < 64
 ·rw [show min i.toNat 64 = i.toNat by omega, Nat.testBit_eq_decide_div_mod_eq]
  have : s / 2 ^ i.toNat % 2 = 0 ∨ s / 2 ^ i.toNat % 2 = 1 := by omega
  rcases this with e | e <;> simp [e]
 ·rw [testBit_big h (by omega), show min i.toNat 64 = 64 by omega, Nat.div_eq_of_lt h]; rfl

theorem setN_foldl_lt : ∀ (l : List Int) (s : Nat), (∀ x ∈ l, x < 64) → s < 2 ^ 64 → l.foldl (fun s i => s ||| 2 ^ i.toNat) s < 2 ^ 64
 | [], s, _, h => h
 | x :: l, s, hx, h => setN_foldl_lt l _ (fun y hy => hx y (by simp [hy])) (or_lt h (Nat.pow_lt_pow_right (by decide) (by have := hx x (by simp); omega)))
theorem setN_lt {l : List Int} (h : ∀ x ∈ l, x < 64) : setN l < 2 ^ 64 := setN_foldl_lt l 0 h (by decide)
theorem setN_take {l : List Int} {i : Nat} (h : i < l.length) : setN (l.take (i + 1)) = setN (l.take i) ||| 2 ^ (l[i]).toNat := by
 unfold setN; rw [List.take_succ_eq_append_getElem h, List.foldl_append]; rfl
theorem setN_foldl_bit : ∀ (l : List Int) (s i : Nat), (∀ x ∈ l, 0 ≤ x) → ((l.foldl (fun s i => s ||| 2 ^ i.toNat) s).testBit i = true ↔ s.testBit i = true ∨ (i : Int) ∈ l)
 | [], s, i, _ => by simp
 | x :: l, s, i, h => by
  rw [List.foldl_cons, setN_foldl_bit l _ i fun y hy => h y (by simp [hy]), Nat.testBit_or, Nat.testBit_two_pow]
  have := h x (by simp)
  simp only [Bool.or_eq_true, decide_eq_true_eq, List.mem_cons]
  constructor
  ·rintro ((h | h) | h)
   ·exact .inl h
   ·exact .inr (.inl (by omega))
   ·exact .inr (.inr h)
  ·rintro (h | h | h)
   ·exact .inl (.inl h)
   ·exact .inl (.inr (by omega))
   ·exact .inr h
theorem setN_bit {l : List Int} (h : ∀ x ∈ l, 0 ≤ x) (i : Nat) : (setN l).testBit i = decide ((i : Int) ∈ l) := by
 rw [Bool.eq_iff_iff, setN, setN_foldl_bit l 0 i h]; simp
theorem bitsTo_succ (s i : Nat) : bitsTo s (i + 1) = bitsTo s i ++ (if s.testBit i then [(i : Int)] else []) := by
 unfold bitsTo
 rw [List.range_succ, List.filter_append, List.map_append]
 congr 1
 by_cases h : s.testBit i <;> simp [h]
theorem bitsTo_end {s i : Nat} (h : s / 2 ^ i = 0) : ∀ k, bitsTo s (i + k) = bitsTo s i
 | 0 => rfl
 | k + 1 => by
  rw [← Nat.add_assoc, bitsTo_succ, bitsTo_end h k]
  have hs : s < 2 ^ i := by
   have := Nat.div_add_mod s (2 ^ i); rw [h] at this
   have := Nat.mod_lt s (Nat.two_pow_pos i); omega
  have : s.testBit (i + k) = false := Nat.testBit_lt_two_pow (Nat.lt_of_lt_of_le hs (Nat.pow_le_pow_right (by decide) (by omega)))
  simp [this]
theorem bitsTo_length (s i : Nat) : (bitsTo s i).length ≤ i := by
 unfold bitsTo; rw [List.length_map]
 exact Nat.le_trans (List.length_filter_le _ _) (by simp)
theorem IsS.range {l : List Int} {n : Int} (h : IsS l n) : ∀ x ∈ l, 0 ≤ x ∧ x < n := by
 intro x hx
 obtain ⟨i, hi, rfl⟩ := List.getElem_of_mem hx
 have := h i hi
 rw [getD_of hi] at this; omega
end Go.Proofs
namespace Go.Proofs
open Go.Abs

variable {H : AHeap} {v u f : Value} {l m : List Int} {es fs : List (Int × Int)} {K : Value → AHeap → Prop}

noncomputable def tiInt : TI := (T0 2).getD ⟨.bool, 0, 0, undef⟩
theorem T0_int : T0 2 = some tiInt ∧ tiInt.size = 1 ∧ tiInt.bytes = 8 ∧ tiInt.fine = true := ⟨by kernel_rfl, by kernel_rfl, by kernel_rfl, by kernel_rfl⟩
theorem push_int {H0 : AHeap} {x : Int} (hF : Fresh H0.length H v 2 1 (LI l)) (h0 : H0.le H) (hs : l.length < 4294967296)
    (k : ∀ v' G, H0.le G → Fresh H0.length G v' 2 1 (LI (l ++ [x])) → (∀ b o, H[b]? = some (some o) → (∀ c n, v ≠ .slice (some ⟨b, c, none⟩) n (n + 1)) → G[b]? = some (some o)) → K v' G) :
    newK H [Value.int .i64 x] 2 (fun b1 H2 => apK T0 2 H2 v (Value.slice (some ⟨b1, 0, none⟩) 1 (1 + 1)) K) := by
  refine newK_f rfl fun H2 l2 n2 o2 => ?_
  obtain ⟨t1, t2, t3, t4⟩ := T0_int
  have hF2 := hF.le l2
  rw [← t2] at hF2
  refine Fresh.push (n := 1) (ys := [.int .i64 x]) t1 (by omega) (by omega) t4 hF2 (AHeap.le_trans h0 l2) ?_ (by decide) (by simp; omega) ?_
  · rw [t2]; exact cellsAt_row o2 (by simp)
  · intro v' G hG hf hk
    rw [t2] at hf
    exact k v' G hG (by simpa using hf) fun b o hb hne => hk b o (l2.2 _ _ hb) hne

theorem setOf_ok (h : Ints H v l) (hl : l.length ≤ 4611686018427387904) (hr : ∀ x ∈ l, 0 ≤ x ∧ x < 64) (k : K (.int .u64 (setN l : Nat)) H) : AC Tryz.prog T0 89 [v] H K := by
 apply F89.ac
 unfold F89.B9 F89.B8 F89.B7
 refine h.len ?_
 unfold F89.L2
 refine ⟨fun x3 x6 x7 x8 G => x3 = (setN (l.take x8.toNat) : Nat) ∧ x6 = v ∧ x7 = l.length ∧ 0 ≤ x8 ∧ x8 ≤ l.length ∧ G = H, fun _ _ _ x8 _ => l.length - x8.toNat, ⟨rfl, rfl, rfl, by omega, by omega, rfl⟩, ?_⟩
 rintro x3 x6 x7 x8 G ⟨rfl, rfl, rfl, h0, h1, rfl⟩
 unfold F89.B6
 refine pif_cases (fun hb => ?_) fun hb => ?_
 ·have hlt : x8 < l.length := of_decide_eq_true hb
  obtain ⟨i, rfl⟩ : ∃ i : Nat, x8 = i := ⟨x8.toNat, by omega⟩
  have hi : i < l.length := by omega
  unfold F89.B5
  refine h.rd h0 hlt ?_
  simp only [Int.toNat_natCast, getD_of hi]
  have hx := hr l[i] (List.getElem_mem hi)
  unfold F89.B4
  refine ⟨hx.1, ?_⟩
  unfold F89.B3
  have hp : 2 ^ (l[i]).toNat < 2 ^ 64 := Nat.pow_lt_pow_right (by decide) (by omega)
  rw [wrap_id (x := (i : Int) + 1) (by omega) (by omega), one_shl hx.1 hx.2, bits_or (setN_lt fun x hx => (hr x (List.mem_of_mem_take hx)).2) hp]
  refine ⟨⟨?_, rfl, rfl, by omega, by omega, rfl⟩, by simp; omega⟩
  rw [show ((i : Int) + 1).toNat = i + 1 by omega, setN_take hi]
 ·have hge : ¬ x8 < l.length := of_decide_eq_false hb
  have : x8 = l.length := by omega
  subst this
  unfold F89.B1
  simpa using k

theorem has_ok {s : Nat} {i : Int} (hs : s < 2 ^ 64) (h0 : 0 ≤ i) (k : K (.bool (s.testBit i.toNat)) H) : AC Tryz.prog T0 134 [.int .u64 (s : Nat), .int .i64 i] H K := by
 apply F134.ac
 unfold F134.B2 F134.B1
 refine ⟨h0, ?_⟩
 rw [has_bit hs h0]; exact k

theorem list_ok {s : Nat} (hs : s < 2 ^ 64) (k : ∀ v' G, H.le G → Fresh H.length G v' 2 1 (LI (bitsL s)) → K v' G) : AC Tryz.prog T0 81 [.int .u64 (s : Nat)] H K := by
 apply F81.ac
 unfold F81.B9 F81.B8 F81.B7 F81.L2
 refine ⟨fun x0 x3 x4 G => x0 = (s : Nat) ∧ 0 ≤ x4 ∧ x4 ≤ 64 ∧ H.le G ∧ Fresh H.length G x3 2 1 (LI (bitsTo s x4.toNat)), fun _ _ x4 _ => 64 - x4.toNat, ⟨rfl, by omega, by omega, AHeap.le_refl _, .inl ⟨rfl, .inl rfl⟩⟩, ?_⟩
 rintro x0 x3 x4 G ⟨rfl, h0, h1, hG, hF⟩
 obtain ⟨i, rfl⟩ : ∃ i : Nat, x4 = i := ⟨x4.toNat, by omega⟩
 simp only [Int.toNat_natCast] at hF
 unfold F81.B6
 refine ⟨h0, ?_⟩
 rw [shr_nat, show min (Int.toNat (i : Int)) 64 = i by simp; omega]
 refine pif_cases (fun hb => ?_) fun hb => ?_
 ·have hi : i < 64 := by
   rcases Nat.lt_or_ge i 64 with h | h
   ·exact h
   ·have : i = 64 := by omega
    subst this
    rw [Nat.div_eq_of_lt hs] at hb; simp at hb
  unfold F81.B5
  refine has_ok hs h0 (asB_mk (pif_cases (fun hb => ?_) fun hb => ?_))
  ·unfold F81.B4
   refine push_int hF hG (by have := bitsTo_length s i; omega) fun v' G2 hG2 hF2 _ => ?_
   unfold F81.B3
   rw [wrap_id (by omega) (by omega)]
   refine ⟨⟨rfl, by omega, by omega, hG2, ?_⟩, by simp; omega⟩
   rw [show ((i : Int) + 1).toNat = i + 1 by omega, bitsTo_succ, if_pos (by simpa using hb)]; exact hF2
  ·unfold F81.B3
   rw [wrap_id (by omega) (by omega)]
   refine ⟨⟨rfl, by omega, by omega, hG, ?_⟩, by simp; omega⟩
   rw [show ((i : Int) + 1).toNat = i + 1 by omega, bitsTo_succ, if_neg (by simpa using hb), List.append_nil]; exact hF
 ·have hz : s / 2 ^ i = 0 := Int.natCast_eq_zero.1 (bne_eq_false_iff_eq.1 hb)
  unfold F81.B1
  refine k _ _ hG ?_
  have e := bitsTo_end hz (64 - i)
  rw [show i + (64 - i) = 64 by omega] at e
  unfold bitsL
  rw [e]; exact hF
end Go.Proofs
namespace Go.Proofs
open Go.Abs

def on (e : Int × Int) (v : Int) : Bool := e.1 == v || e.2 == v
def atTo (es : List (Int × Int)) (v : Int) (k : Nat) : List Int := ((List.range k).filter (fun i => on (es.getD i (0, 0)) v)).map Int.ofNat
def atL (es : List (Int × Int)) (v : Int) : List Int := atTo es v es.length
theorem atTo_succ (es : List (Int × Int)) (v : Int) (k : Nat) : atTo es v (k + 1) = atTo es v k ++ (if on (es.getD k (0, 0)) v then [(k : Int)] else []) := by
 unfold atTo
 rw [List.range_succ, List.filter_append, List.map_append]
 congr 1
 cases h : on (es.getD k (0, 0)) v <;> simp only [List.filter_cons, h, List.filter_nil] <;> rfl
theorem atTo_length (es : List (Int × Int)) (v : Int) (k : Nat) : (atTo es v k).length ≤ k := by
 unfold atTo; rw [List.length_map]
 exact Nat.le_trans (List.length_filter_le _ _) (by simp)
theorem mem_atL {es : List (Int × Int)} {v : Int} {x : Int} : x ∈ atL es v ↔ ∃ i : Nat, x = i ∧ i < es.length ∧ on (es.getD i (0, 0)) v = true := by
 unfold atL atTo
 rw [List.mem_map]
 constructor
 ·rintro ⟨i, hi, rfl⟩
  rw [List.mem_filter, List.mem_range] at hi
  exact ⟨i, rfl, hi⟩
 ·rintro ⟨i, rfl, h1, h2⟩
  exact ⟨i, by rw [List.mem_filter, List.mem_range]; exact ⟨h1, h2⟩, rfl⟩

theorem bump1_get (cs : List Int) (v : Int) {i : Nat} (hi : i < cs.length) (hv : 0 ≤ v) : (bump1 cs v).getD i 0 = cs.getD i 0 + if v = i then 1 else 0 := by
 unfold bump1
 simp only [List.getD, List.getElem?_set]
 by_cases h : v = i
 ·subst h; simp [hi]
 ·have : v.toNat ≠ i := by omega
  simp [this, h]
theorem counts_at {n : Int} {es : List (Int × Int)} (hd : IsEd n es) {v : Nat} (hv : (v : Int) < n) : ∀ k, k ≤ es.length → (counts n (es.take k)).getD v 0 = ((atTo es v k).length : Int) := by
 intro k
 induction k with
 | zero =>
  intro _
  have : v < n.toNat := by omega
  simp [counts, atTo, this]
 | succ k ih =>
  intro hk
  have hk' : k < es.length := by omega
  obtain ⟨e1, e2, e3, e4, e5⟩ := hd.ends es[k] (List.getElem_mem hk')
  have hl : v < (counts n (es.take k)).length := by rw [counts_length]; omega
  rw [counts_take n es hk', bump, bump1_get _ _ (by rw [bump1_length]; exact hl) e3, bump1_get _ _ hl e1, ih (by omega), atTo_succ, List.length_append, getD_of hk']
  unfold on
  by_cases h1 : es[k].1 = v
  ·have h2 : es[k].2 ≠ v := by omega
   simp [h1, h2]
  ·by_cases h2 : es[k].2 = v <;> simp [h1, h2]
theorem IsG.three {n : Int} {es : List (Int × Int)} (hg : IsG n es) {v : Int} (h0 : 0 ≤ v) (h1 : v < n) : (atL es v).length = 3 := by
 obtain ⟨k, rfl⟩ : ∃ k : Nat, v = k := ⟨v.toNat, by omega⟩
 have := counts_at hg.ed h1 es.length (Nat.le_refl _)
 rw [List.take_length] at this
 have hl : k < (counts n es).length := by rw [counts_length]; omega
 rw [getD_of hl, hg.cub _ (List.getElem_mem hl)] at this
 unfold atL; omega

def share (a b : Int × Int) : Prop := ∃ v, on a v = true ∧ on b v = true
def ColTo (es : List (Int × Int)) (c : List Int) (k : Nat) : Prop := ∀ j, j < k → ∀ i, i < j → share (es.getD i (0, 0)) (es.getD j (0, 0)) → c.getD i 0 ≠ c.getD j 0
structure IsC (es : List (Int × Int)) (c : List Int) : Prop where
 len : c.length = es.length
 rng : ∀ x ∈ c, 0 ≤ x ∧ x ≤ 2
 col : ColTo es c es.length
noncomputable instance (es : List (Int × Int)) (c : List Int) : Decidable (IsC es c) := Classical.propDecidable _

def ends (es : List (Int × Int)) (l : List Int) : List Int := l.flatMap fun i => [(es.getD i.toNat (0, 0)).1, (es.getD i.toNat (0, 0)).2]
end Go.Proofs
namespace Go.Proofs
open Go.Abs

variable {H : AHeap} {v u f : Value} {l m c : List Int} {es fs : List (Int × Int)} {K : Value → AHeap → Prop}

theorem isColour_cl : ∀ x : Int, Cl H (.func (.func 173) ⟨[]⟩ ⟨[]⟩) (.int .i64 x) (decide (0 ≤ x ∧ x ≤ 2)) := by
 intro x G hG K k
 refine callV_mk ?_
 apply F173.ac
 unfold F173.B2 F173.B1
 exact within_ok (asB_mk (k _ (AHeap.le_refl _)))

theorem l01At_ok {n x : Int} (h : Edges H v es) (hl : es.length ≤ 1048576) (k : ∀ v' G, H.le G → Fresh H.length G v' 2 1 (LI (atL es x)) → K v' G) : AC Tryz.prog T0 175 [.agg ⟨[.int .i64 n, v]⟩, .int .i64 x] H K := by
 apply F175.ac
 unfold F175.B9
 refine newK_f (all_iv (edges_one' h)) fun H1 l1 n1 o1 => ?_
 unfold F175.B8
 refine newK_f rfl fun H2 l2 n2 o2 => ?_
 unfold F175.B7 F175.L2
 refine ⟨fun x1 x2 x5 x6 G => x1 = x ∧ x2 = H.length ∧ 0 ≤ x6 ∧ x6 ≤ es.length ∧ H1.le G ∧ Fresh H1.length G x5 2 1 (LI (atTo es x x6.toNat)), fun _ _ _ x6 _ => es.length - x6.toNat, ⟨rfl, rfl, by omega, by omega, l2, .inr ⟨_, 0, Nat.le_refl _, rfl, o2, rfl⟩⟩, ?_⟩
 rintro x1 x2 x5 x6 G ⟨rfl, rfl, h0, h1, hG, hF⟩
 have oG := hG.2 _ _ o1
 have lG := AHeap.le_trans l1 hG
 unfold F175.B6
 refine ld1_own oG rfl ((h.le lG).len (pif_cases (fun hb => ?_) fun hb => ?_))
 ·have hlt : x6 < es.length := of_decide_eq_true hb
  obtain ⟨i, rfl⟩ : ∃ i : Nat, x6 = i := ⟨x6.toNat, by omega⟩
  simp only [Int.toNat_natCast] at hF
  have yes : on (es.getD i (0, 0)) x1 = true → ∀ N : Int → Nat → Value → Int → AHeap → Prop, (∀ x5' G', H1.le G' → Fresh H1.length G' x5' 2 1 (LI (atTo es x1 (i + 1))) → N x1 H.length x5' ((i : Int) + 1) G') → F175.B4 K N x1 H.length x5 i G := by
   intro ho N hN
   unfold F175.B4
   refine push_int hF hG (by have := atTo_length es x1 i; omega) fun v' G2 hG2 hF2 _ => ?_
   unfold F175.B3
   rw [wrap_id (by omega) (by omega)]
   exact hN _ _ hG2 (by rw [atTo_succ, if_pos ho]; exact hF2)
  have fin : ∀ x5' G', H1.le G' → Fresh H1.length G' x5' 2 1 (LI (atTo es x1 (i + 1))) → (x1 = x1 ∧ H.length = H.length ∧ 0 ≤ (i : Int) + 1 ∧ (i : Int) + 1 ≤ es.length ∧ H1.le G' ∧ Fresh H1.length G' x5' 2 1 (LI (atTo es x1 ((i : Int) + 1).toNat))) ∧ es.length - ((i : Int) + 1).toNat < es.length - (i : Int).toNat :=
   fun x5' G' a b => ⟨⟨rfl, rfl, by omega, by omega, a, by rw [show ((i : Int) + 1).toNat = i + 1 by omega]; exact b⟩, by omega⟩
  unfold F175.B5
  obtain ⟨b, o, hk, c1, c2⟩ := (h.le lG).idx h0 hlt
  simp only [Int.toNat_natCast] at c1 c2
  refine ld1_own oG rfl (hk _ (ldI_mk c1 (pif_cases (fun hs => ?_) fun hs => ?_)))
  ·exact yes (by unfold on; rw [hs]; rfl) _ fin
  ·refine ld1_own oG rfl (hk _ (ldI_mk c2 (pif_cases (fun ht => ?_) fun ht => ?_)))
   ·exact yes (by unfold on; rw [hs, ht]; rfl) _ fin
   ·unfold F175.B3
    rw [wrap_id (by omega) (by omega)]
    exact fin _ _ hG (by rw [atTo_succ, if_neg (by unfold on; rw [hs, ht]; decide), List.append_nil]; exact hF)
 ·have hge : ¬ x6 < es.length := of_decide_eq_false hb
  have : x6 = es.length := by omega
  subst this
  unfold F175.B1
  exact k _ _ lG (hF.less l1.1)

def en (e : Int × Int) (k : Nat) : Int := if k = 0 then e.1 else e.2
def Fits (es : List (Int × Int)) (c : List Int) (e : Nat) (x : Int) : Prop := ∀ i, i < e → share (es.getD i (0, 0)) (es.getD e (0, 0)) → c.getD i 0 ≠ x
noncomputable instance (es : List (Int × Int)) (c : List Int) (e : Nat) (x : Int) : Decidable (Fits es c e x) := Classical.propDecidable _
theorem on_en {e : Int × Int} {k : Nat} : on e (en e k) = true := by
 unfold on en; split <;> simp
theorem on_cases {e : Int × Int} {v : Int} (h : on e v = true) : v = en e 0 ∨ v = en e 1 := by
 unfold on at h; unfold en
 simp only [Bool.or_eq_true, beq_iff_eq] at h
 rcases h with h | h
 ·left; simp [h]
 ·right; simp [h]
theorem cell_en {H : AHeap} {b o k : Nat} {e : Int × Int} (h1 : H.cell b o = some (.int .i64 e.1)) (h2 : H.cell b (o + 1) = some (.int .i64 e.2)) (hk : k < 2) : H.cell b (o + Int.toNat (k : Int) * 1) = some (.int .i64 (en e k)) := by
 rcases (by omega : k = 0 ∨ k = 1) with rfl | rfl
 ·simpa [en] using h1
 ·simpa [en] using h2

theorem l02Fits2_ok {n x : Int} {e : Nat} (h : Edges H v es) (hl : es.length ≤ 1048576) (hg : IsG n es) (hc : Ints H u c) (hcl : e ≤ c.length) (he : e < es.length) (k : ∀ G, H.le G → K (.bool (decide (Fits es c e x))) G) :
    AC Tryz.prog T0 210 [.agg ⟨[.int .i64 n, v]⟩, u, .int .i64 e, .int .i64 x] H K := by
  apply F210.ac
  unfold F210.B13
  refine newK_f (all_iv (edges_one' h)) fun H1 l1 n1 o1 => ?_
  unfold F210.B12 F210.L2
  refine ⟨fun x1 x2 x3 x4 x9 G => x1 = u ∧ x2 = e ∧ x3 = x ∧ x4 = H.length ∧ H1.le G ∧ ∃ j : Nat, x9 = j ∧ j ≤ 2 ∧ ∀ j', j' < j → ∀ i, i < e → on (es.getD i (0, 0)) (en (es.getD e (0, 0)) j') = true → c.getD i 0 ≠ x, fun _ _ _ _ x9 _ => 2 - x9.toNat, ⟨rfl, rfl, rfl, rfl, AHeap.le_refl _, 0, rfl, by omega, fun j' hj => absurd hj (by omega)⟩, ?_⟩
  rintro x1 x2 x3 x4 x9 G ⟨rfl, rfl, rfl, rfl, hG, j, rfl, hj, hp⟩
  have oG := hG.2 _ _ o1
  have lG := AHeap.le_trans l1 hG
  obtain ⟨d1, d2, d3, d4, _⟩ := hg.ed.ends es[e] (List.getElem_mem he)
  unfold F210.B11
  refine pif_cases (fun hb => ?_) fun hb => ?_
  · have hj2 : j < 2 := by have := of_decide_eq_true hb; omega
    unfold F210.B10
    obtain ⟨b, o, hk, c1, c2⟩ := (h.le lG).idx (show (0 : Int) ≤ (e : Int) by omega) (by omega)
    simp only [Int.toNat_natCast] at c1 c2
    refine ldI_own oG rfl (ld1_own oG rfl (ld1_own oG rfl (hk _ (bndK_iff.2 ⟨by omega, by omega, ldI_mk (cell_en c1 c2 hj2) (l01At_ok (h.le lG) hl fun w G2 hG2 hF => ?_)⟩))))
    have hv : 0 ≤ en (es.getD e (0, 0)) j ∧ en (es.getD e (0, 0)) j < n := by
      rw [getD_of he]; unfold en; split <;> omega
    have h3 := hg.three hv.1 hv.2
    have lG2 := AHeap.le_trans lG hG2
    unfold F210.B9 F210.L4
    refine ⟨fun y1 y2 y3 y4 y9 y10 y11 G' => y1 = x1 ∧ y2 = e ∧ y3 = x3 ∧ y4 = H.length ∧ y9 = j ∧ y10 = w ∧ G' = G2 ∧ 0 ≤ y11 ∧ y11 ≤ 3 ∧ ∀ t : Nat, (t : Int) < y11 → (atL es (en (es.getD e (0, 0)) j)).getD t 0 < e → c.getD ((atL es (en (es.getD e (0, 0)) j)).getD t 0).toNat 0 ≠ x3, fun _ _ _ _ _ _ y11 _ => 3 - y11.toNat, ⟨rfl, rfl, rfl, rfl, rfl, rfl, rfl, by omega, by omega, fun t ht => absurd ht (by omega)⟩, ?_⟩
    rintro y1 y2 y3 y4 y9 y10 y11 G' ⟨rfl, rfl, rfl, rfl, rfl, rfl, rfl, g0, g1, hq⟩
    unfold F210.B8
    refine pif_cases (fun hb => ?_) fun hb => ?_
    · have ht3 : y11 < 3 := of_decide_eq_true hb
      obtain ⟨t, rfl⟩ : ∃ t : Nat, y11 = t := ⟨y11.toNat, by omega⟩
      have htl : t < (atL es (en (es.getD e (0, 0)) j)).length := by omega
      unfold F210.B7
      have fin : ((atL es (en (es.getD e (0, 0)) j)).getD t 0 < e → c.getD ((atL es (en (es.getD e (0, 0)) j)).getD t 0).toNat 0 ≠ y3) → ∀ t' : Nat, (t' : Int) < (t : Int) + 1 → (atL es (en (es.getD e (0, 0)) j)).getD t' 0 < e → c.getD ((atL es (en (es.getD e (0, 0)) j)).getD t' 0).toNat 0 ≠ y3 := by
        intro hy t' ht'
        by_cases he : t' = t
        · subst he; exact hy
        · exact hq t' (by omega)
      obtain ⟨i, hi1, hi2, hi3⟩ := mem_atL.1 (List.getElem_mem htl)
      rw [← getD_of (d := 0) htl] at hi1
      have rd : ∀ K : Int → Prop, K ((atL es (en (es.getD e (0, 0)) j)).getD t 0) → idxK y10 t 1 (fun b o => ldI .i64 G' b o K) := fun K k => by
        have := hF.ints.rd (i := (t : Int)) g0 (by omega) (K := K)
        simp only [Int.toNat_natCast] at this
        exact this k
      refine rd _ (pif_cases (fun hs => ?_) fun hs => ?_)
      · have hs := of_decide_eq_true hs
        refine rd _ ((hc.le lG2).rd (by omega) (by omega) (pif_cases (fun hu => ?_) fun hu => ?_))
        · unfold F210.B6
          have k := k _ lG2
          rw [decide_eq_false (fun hf : Fits es c e y3 => by
            rw [hi1] at hu hs
            exact hf i (by omega) ⟨_, hi3, on_en⟩ (by simpa using hu))] at k
          exact k
        · unfold F210.B5
          rw [wrap_id (by omega) (by omega)]
          exact ⟨⟨rfl, rfl, rfl, rfl, rfl, rfl, rfl, by omega, by omega, fin fun _ => by simpa using hu⟩, by simp; omega⟩
      · have hs := of_decide_eq_false hs
        unfold F210.B5
        rw [wrap_id (by omega) (by omega)]
        exact ⟨⟨rfl, rfl, rfl, rfl, rfl, rfl, rfl, by omega, by omega, fin fun h => absurd h hs⟩, by simp; omega⟩
    · have hge : ¬ y11 < 3 := of_decide_eq_false hb
      unfold F210.B3
      rw [wrap_id (by omega) (by omega)]
      refine ⟨⟨rfl, rfl, rfl, rfl, AHeap.le_trans hG hG2, j + 1, by omega, by omega, fun j' hj' i hi ho => ?_⟩, by simp; omega⟩
      by_cases he' : j' = j
      · subst he'
        have hm : (i : Int) ∈ atL es (en (es.getD e (0, 0)) j') := mem_atL.2 ⟨i, rfl, by omega, ho⟩
        obtain ⟨t, ht, hte⟩ := List.getElem_of_mem hm
        have := hq t (by omega)
        rw [getD_of ht, hte] at this
        simpa using this (by omega)
      · exact hp j' (by omega) i hi ho
  · have hj2 : j = 2 := by have := of_decide_eq_false hb; omega
    subst hj2
    unfold F210.B1
    have k := k _ lG
    rw [decide_eq_true (show Fits es c e x3 from fun i hi ⟨w, hw1, hw2⟩ => by
      rcases on_cases hw2 with rfl | rfl
      · exact hp 0 (by omega) i hi hw1
      · exact hp 1 (by omega) i hi hw1)] at k
    exact k

theorem l02Fits_ok {n x : Int} {e : Nat} (h : Edges H v es) (hl : es.length ≤ 1048576) (hg : IsG n es) (hc : Ints H u c) (hcl : c.length = es.length) (he : e < es.length) (k : ∀ G, H.le G → K (.bool (decide (Fits es c e x))) G) :
    AC Tryz.prog T0 210 [.agg ⟨[.int .i64 n, v]⟩, u, .int .i64 e, .int .i64 x] H K := l02Fits2_ok h hl hg hc (by omega) he k
theorem l02Is_ok {n : Int} (h : Edges H v es) (hl : es.length ≤ 1048576) (hg : IsG n es) (hc : Ints H u c) (hcl : c.length ≤ 1048576) (k : ∀ G, H.le G → K (.bool (decide (IsC es c))) G) :
    AC Tryz.prog T0 176 [.agg ⟨[.int .i64 n, v]⟩, u] H K := by
  apply F176.ac
  unfold F176.B10
  refine newK_f (all_iv (edges_one' h)) fun H1 l1 n1 o1 => ?_
  unfold F176.B9
  refine (hc.le l1).len (ld1_own o1 rfl ((h.le l1).len (pif_cases (fun hb => ?_) fun hb => ?_)))
  · unfold F176.B8
    have k := k _ l1
    rw [decide_eq_false (fun hi => by have := hi.len; simp [this] at hb)] at k; exact k
  · have hlen : c.length = es.length := by have := bne_eq_false_iff_eq.1 hb; omega
    unfold F176.B7 F176.L2
    refine ⟨fun x1 x2 x5 G => x1 = u ∧ x2 = H.length ∧ H1.le G ∧ ∃ j : Nat, x5 = j ∧ j ≤ c.length ∧ ∀ i, i < j → (0 ≤ c.getD i 0 ∧ c.getD i 0 ≤ 2) ∧ Fits es c i (c.getD i 0), fun _ _ x5 _ => c.length - x5.toNat, ⟨rfl, rfl, AHeap.le_refl _, 0, rfl, by omega, fun i hi => absurd hi (by omega)⟩, ?_⟩
    rintro x1 x2 x5 G ⟨rfl, rfl, hG, j, rfl, hj, hp⟩
    have oG := hG.2 _ _ o1
    have lG := AHeap.le_trans l1 hG
    unfold F176.B6
    refine (hc.le lG).len (pif_cases (fun hb => ?_) fun hb => ?_)
    · have hlt : j < c.length := by have := of_decide_eq_true hb; omega
      have no : ∀ G', H.le G' → ¬ ((0 ≤ c.getD j 0 ∧ c.getD j 0 ≤ 2) ∧ Fits es c j (c.getD j 0)) → ∀ N, F176.B4 K N G' := by
        intro G' hG' hno N
        unfold F176.B4
        have k := k _ hG'
        rw [decide_eq_false (fun hi : IsC es c => hno ⟨by rw [getD_of hlt]; exact hi.rng _ (List.getElem_mem hlt), fun i hij hs => hi.col j (by omega) i hij hs⟩)] at k; exact k
      unfold F176.B5
      refine (hc.le lG).rd (by omega) (by omega) (l01In_ok (asB_mk ?_))
      simp only [Int.toNat_natCast]
      refine pif_cases (fun hs => ?_) fun hs => ?_
      · rw [Bool.not_eq_true'] at hs
        exact no _ lG (fun hy => of_decide_eq_false hs hy.1) _
      · rw [Bool.not_eq_false'] at hs
        have hr := of_decide_eq_true hs
        refine ldI_own oG rfl (ld1_own oG rfl ((hc.le lG).rd (by omega) (by omega) (l02Fits_ok (h.le lG) hl hg (hc.le lG) hlen (by omega) fun G2 hG2 => asB_mk ?_)))
        simp only [Int.toNat_natCast]
        refine pif_cases (fun hs => ?_) fun hs => ?_
        · rw [Bool.not_eq_true'] at hs
          exact no _ (AHeap.le_trans lG hG2) (fun hy => of_decide_eq_false hs hy.2) _
        · rw [Bool.not_eq_false'] at hs
          unfold F176.B3
          rw [wrap_id (by omega) (by omega)]
          refine ⟨⟨rfl, rfl, AHeap.le_trans hG hG2, j + 1, by omega, by omega, fun i hi => ?_⟩, by simp; omega⟩
          by_cases he : i = j
          · subst he; exact ⟨hr, of_decide_eq_true hs⟩
          · exact hp i (by omega)
    · have hge : ¬ (j : Int) < c.length := of_decide_eq_false hb
      unfold F176.B1
      have k := k _ lG
      rw [decide_eq_true (⟨hlen, fun x hx => by
        obtain ⟨i, hi, rfl⟩ := List.getElem_of_mem hx
        have := (hp i (by omega)).1
        rwa [getD_of hi] at this, fun j' hj' i hij hs => (hp j' (by omega)).2 i hij hs⟩ : IsC es c)] at k
      exact k
end Go.Proofs
namespace Go.Proofs
open Go.Abs

variable {H : AHeap} {v u f : Value} {l m c : List Int} {es fs : List (Int × Int)} {K : Value → AHeap → Prop}

abbrev LU (s : List Nat) : List Value := s.map fun x => Value.int .u64 (x : Nat)
abbrev LB (s : List Bool) : List Value := s.map Value.bool
theorem rep_u (n : Nat) : (List.replicate n [Value.int .u64 0]).flatten = LU (List.replicate n 0) := by
 induction n with
 | zero => rfl
 | succ n ih => rw [List.replicate_succ, List.replicate_succ, List.flatten_cons, ih]; rfl
theorem rep_b (n : Nat) : (List.replicate n [Value.bool false]).flatten = LB (List.replicate n false) := by
 induction n with
 | zero => rfl
 | succ n ih => rw [List.replicate_succ, List.replicate_succ, List.flatten_cons, ih]; rfl
theorem own_idx {b n : Nat} {x : Int} {K : Nat → Nat → Prop} (h0 : 0 ≤ x) (h1 : x < n) (k : K b x.toNat) : idxK (.slice (some ⟨b, 0, none⟩) n (n + 1)) x 1 K := ⟨h0, h1, by simpa using k⟩

def Seen (es : List (Int × Int)) (c : List Int) (S : List Nat) (i m : Nat) : Prop :=
 ∀ w, w < S.length → S.getD w 0 < 2 ^ 64 ∧ ∀ k : Nat, (S.getD w 0).testBit k = true ↔ (∃ j, j < i ∧ on (es.getD j (0, 0)) w = true ∧ c.getD j 0 = k) ∨ ((∃ m', m' < m ∧ (w : Int) = en (es.getD i (0, 0)) m') ∧ c.getD i 0 = k)
theorem Seen.next {es : List (Int × Int)} {c : List Int} {S : List Nat} {i : Nat} (h : Seen es c S i 2) : Seen es c S (i + 1) 0 := by
 intro w hw
 obtain ⟨h1, h2⟩ := h w hw
 refine ⟨h1, fun k => (h2 k).trans ⟨?_, ?_⟩⟩
 ·rintro (⟨j, hj, ho, hc⟩ | ⟨⟨m', hm, he⟩, hc⟩)
  ·exact .inl ⟨j, by omega, ho, hc⟩
  ·exact .inl ⟨i, by omega, by rw [he]; exact on_en, hc⟩
 ·rintro (⟨j, hj, ho, hc⟩ | ⟨⟨m', hm, he⟩, hc⟩)
  ·by_cases h : j = i
   ·subst h
    rcases on_cases ho with e | e
    ·exact .inr ⟨⟨0, by omega, e⟩, hc⟩
    ·exact .inr ⟨⟨1, by omega, e⟩, hc⟩
   ·exact .inl ⟨j, by omega, ho, hc⟩
  ·omega

theorem isColouring_ok {n : Int} (h : Edges H v es) (hl : es.length ≤ 1048576) (hg : IsG n es) (hc : Ints H u c) (hcl : c.length ≤ 1048576) (k : ∀ G, H.le G → K (.bool (decide (IsC es c))) G) :
    AC Tryz.prog T0 133 [.agg ⟨[.int .i64 n, v]⟩, u] H K := by
  have n0 := hg.ed.lo; have n1 := hg.ed.hi
  apply F133.ac
  unfold F133.B18
  refine newK_f (all_iv (edges_one' h)) fun H1 l1 n1' o1 => ?_
  unfold F133.B17
  have no : ∀ G, H.le G → ¬ IsC es c → F133.B16 K G := by
    intro G hG hno
    unfold F133.B16
    have k := k _ hG
    rw [decide_eq_false hno] at k; exact k
  refine ldI_own o1 rfl (ld1_own o1 rfl (IsGraph_ok (h.le l1) hl fun H2 l2 => asB_mk (pif_f (by rw [decide_eq_true hg]; rfl) ?_)))
  have l12 := AHeap.le_trans l1 l2
  have o2 := l2.2 _ _ o1
  refine (hc.le l12).len (ld1_own o2 rfl ((h.le l12).len (pif_cases (fun hb => ?_) fun hb => ?_)))
  · exact no _ l12 fun hi => by have := hi.len; simp [this] at hb
  · have hlen : c.length = es.length := by have := bne_eq_false_iff_eq.1 hb; omega
    refine areAllL_ok (p := fun x => decide (0 ≤ x ∧ x ≤ 2)) (hc.le l12) (by omega) rfl (fun x _ => isColour_cl x) fun H3 l3 => asB_mk (pif_cases (fun hb => ?_) fun hb => ?_)
    · rw [Bool.not_eq_true'] at hb
      refine no _ (AHeap.le_trans l12 l3) fun hi => ?_
      rw [List.all_eq_true.2 fun x hx => decide_eq_true (hi.rng x hx)] at hb
      cases hb
    · rw [Bool.not_eq_false'] at hb
      have hr : ∀ x ∈ c, 0 ≤ x ∧ x ≤ 2 := fun x hx => of_decide_eq_true (List.all_eq_true.1 hb x hx)
      have l13 := AHeap.le_trans l12 l3
      have o3 := l3.2 _ _ o2
      unfold F133.B15
      refine ldI_own o3 rfl (mkR_int (by omega) (by omega) (by decide) fun H4 l4 n4 o4 => ?_)
      rw [rep_u] at o4
      have o14 := l4.2 _ _ o3
      have l14 := AHeap.le_trans l13 l4
      unfold F133.B14
      refine ld1_own o14 rfl ((h.le l14).len ?_)
      unfold F133.L2
      refine ⟨fun x1 x5 x30 x31 x32 G => x1 = u ∧ x5 = .slice (some ⟨H3.length, 0, none⟩) n.toNat (n.toNat + 1) ∧ x30 = v ∧ x31 = es.length ∧ H3.le G ∧ ∃ i : Nat, x32 = i ∧ i ≤ es.length ∧ ColTo es c i ∧ ∃ S, S.length = n.toNat ∧ Own G H3.length 81 (LU S) ∧ Seen es c S i 0,
        fun _ _ _ _ x32 _ => es.length - x32.toNat, ⟨rfl, rfl, rfl, rfl, l4, 0, rfl, by omega, fun j hj => absurd hj (by omega), _, by simp, o4, ?_⟩, ?_⟩
      · intro w hw
        have : (List.replicate n.toNat 0).getD w 0 = 0 := by simp only [List.getD, List.getElem?_replicate]; split <;> rfl
        rw [this]
        exact ⟨by decide, fun k => by simp⟩
      · rintro x1 x5 x30 x31 x32 G ⟨rfl, rfl, rfl, rfl, hG, i, rfl, hi, hcol, S, hS, oS, seen⟩
        have lG := AHeap.le_trans l13 hG
        unfold F133.B13
        refine pif_cases (fun hb => ?_) fun hb => ?_
        · have hil : i < es.length := by have := of_decide_eq_true hb; omega
          have hic : i < c.length := by omega
          have rc := hr c[i] (List.getElem_mem hic)
          rw [← getD_of (d := 0) hic] at rc
          obtain ⟨d1, d2, d3, d4, d5⟩ := hg.ed.ends es[i] (List.getElem_mem hil)
          rw [← getD_of (d := (0, 0)) hil] at d1 d2 d3 d4 d5
          unfold F133.B12
          obtain ⟨b, o, hk, c1, c2⟩ := (h.le lG).idx (show (0 : Int) ≤ (i : Int) by omega) (by omega)
          simp only [Int.toNat_natCast] at c1 c2
          have hSl := lt_of_get oS
          refine hk _ (ldI_mk c1 (ldI_mk c2 (newK_f rfl fun H5 l5 n5 o5 => stK_f o5 (by simp) (by simp [Value.oneCell']) rfl fun H6 b6 o6 => ?_)))
          have l6 : H3.le H6 := b6.le (AHeap.le_trans hG l5) hG.1
          have oS6 := b6.own (l5.2 _ _ oS) (by omega)
          unfold F133.B11
          refine ldI_own o6 rfl (ldI_own o6 rfl ?_)
          unfold F133.L4
          refine ⟨fun y1 y5 y6 y30 y31 y32 ya yb y38 G' => y1 = x1 ∧ y5 = .slice (some ⟨H3.length, 0, none⟩) n.toNat (n.toNat + 1) ∧ y6 = i ∧ y30 = x30 ∧ y31 = es.length ∧ y32 = i ∧ ya = (es.getD i (0, 0)).1 ∧ yb = (es.getD i (0, 0)).2 ∧ H3.le G' ∧ ∃ m : Nat, y38 = m ∧ m ≤ 2 ∧
              (∀ m', m' < m → ∀ j, j < i → on (es.getD j (0, 0)) (en (es.getD i (0, 0)) m') = true → c.getD j 0 ≠ c.getD i 0) ∧ ∃ S, S.length = n.toNat ∧ Own G' H3.length 81 (LU S) ∧ Seen es c S i m,
            fun _ _ _ _ _ _ _ _ y38 _ => 2 - y38.toNat, ⟨rfl, rfl, rfl, rfl, rfl, rfl, rfl, rfl, l6, 0, rfl, by omega, fun m' hm => absurd hm (by omega), S, hS, oS6, seen⟩, ?_⟩
          rintro y1 y5 y6 y30 y31 y32 ya yb y38 G' ⟨rfl, rfl, rfl, rfl, rfl, rfl, rfl, rfl, hG', m, rfl, hm, hne, S, hS, oS, seen⟩
          have lG' := AHeap.le_trans l13 hG'
          unfold F133.B10
          refine pif_cases (fun hb => ?_) fun hb => ?_
          · have hm2 : m < 2 := by have := of_decide_eq_true hb; omega
            unfold F133.B9
            refine bndK_iff.2 ⟨by omega, by omega, ?_⟩
            have hat : ∀ K : Value → Prop, K (.int .i64 (en (es.getD i (0, 0)) m)) → atK [Value.int .i64 (es.getD i (0, 0)).1, Value.int .i64 (es.getD i (0, 0)).2] (Int.toNat (m : Int) * 1) K := by
              intro K k
              rcases (by omega : m = 0 ∨ m = 1) with rfl | rfl
              · exact k
              · exact k
            refine hat _ (asI_mk ?_)
            have hv : 0 ≤ en (es.getD i (0, 0)) m ∧ en (es.getD i (0, 0)) m < n := by unfold en; split <;> omega
            obtain ⟨w, hw⟩ : ∃ w : Nat, en (es.getD i (0, 0)) m = w := ⟨(en (es.getD i (0, 0)) m).toNat, by omega⟩
            rw [hw]
            have hwS : w < S.length := by omega
            obtain ⟨s1, s2⟩ := seen w hwS
            have rdS : (LU S)[w]? = some (.int .u64 ((S.getD w 0 : Nat) : Int)) := by rw [getD_of hwS]; simp [hwS]
            have rdc : ∀ K : Int → Prop, K (c.getD i 0) → idxK y1 (i : Int) 1 (fun b o => ldI .i64 G' b o K) := fun K k => by
              have := (hc.le lG').rd (i := (i : Int)) (by omega) (by omega) (K := K)
              simp only [Int.toNat_natCast] at this; exact this k
            unfold F133.B8
            refine own_idx (by omega) (by omega) (ldI_own oS rdS (rdc _ (has_ok s1 rc.1 (asB_mk (pif_cases (fun hbit => ?_) fun hbit => ?_)))))
            · unfold F133.B7
              have k := k _ lG'
              rw [decide_eq_false (fun hi' : IsC es c => by
                rcases (s2 _).1 hbit with ⟨j, hj, ho, hcj⟩ | ⟨⟨m', hm', he⟩, _⟩
                · exact hi'.col i hil j hj ⟨w, ho, by rw [← hw]; exact on_en⟩ (by rw [hcj]; omega)
                · have e0 : m' = 0 ∧ m = 1 := by omega
                  obtain ⟨rfl, rfl⟩ := e0
                  have e1 : en (es.getD i (0, 0)) 1 = en (es.getD i (0, 0)) 0 := hw.trans he
                  exact d5 (by simpa [en] using e1.symm))] at k
              exact k
            · unfold F133.B6
              refine own_idx (by omega) (by omega) (ldI_own oS rdS (rdc _ ⟨rc.1, own_idx (by omega) (by omega) (stK_1 oS (by simpa using hwS) rfl fun G2 b2 o2 => ?_)⟩))
              have hp : 2 ^ (c.getD i 0).toNat < 2 ^ 64 := Nat.pow_lt_pow_right (by decide) (by omega)
              rw [one_shl rc.1 (by omega), bits_or s1 hp] at o2
              have o2 : Own G2 H3.length 81 (LU (S.set w (S.getD w 0 ||| 2 ^ (c.getD i 0).toNat))) := by simpa using o2
              unfold F133.B5
              rw [wrap_id (by omega) (by omega)]
              refine ⟨⟨rfl, rfl, rfl, rfl, rfl, rfl, rfl, rfl, b2.le hG' (Nat.le_refl _), m + 1, by omega, by omega, fun m' hm' j hj ho => ?_, _, by simpa using hS, o2, ?_⟩, by simp; omega⟩
              · by_cases he : m' = m
                · subst he
                  intro hcc
                  rw [hw] at ho
                  have e2 := (s2 (c.getD i 0).toNat).2 (.inl ⟨j, hj, ho, by omega⟩)
                  exact absurd (e2.symm.trans hbit) (by decide)
                · exact hne m' (by omega) j hj ho
              · intro w' hw'
                rw [List.length_set] at hw'
                obtain ⟨t1, t2⟩ := seen w' hw'
                by_cases he : w = w'
                · subst he
                  have e1 : (S.set w (S.getD w 0 ||| 2 ^ (c.getD i 0).toNat)).getD w 0 = S.getD w 0 ||| 2 ^ (c.getD i 0).toNat := by simp [List.getD, hwS]
                  rw [e1]
                  refine ⟨or_lt s1 hp, fun k => ?_⟩
                  rw [Nat.testBit_or, Nat.testBit_two_pow, Bool.or_eq_true, decide_eq_true_eq, t2 k]
                  constructor
                  · rintro ((h | ⟨⟨m', hm', he⟩, hcc⟩) | h)
                    · exact .inl h
                    · exact .inr ⟨⟨m', by omega, he⟩, hcc⟩
                    · exact .inr ⟨⟨m, by omega, hw.symm⟩, by omega⟩
                  · rintro (h | ⟨⟨m', hm', he⟩, hcc⟩)
                    · exact .inl (.inl h)
                    · exact .inr (by omega)
                · have e1 : (S.set w (S.getD w 0 ||| 2 ^ (c.getD i 0).toNat)).getD w' 0 = S.getD w' 0 := by simp [List.getD, List.getElem?_set, he]
                  rw [e1]
                  refine ⟨t1, fun k => (t2 k).trans ⟨?_, ?_⟩⟩
                  · rintro (h | ⟨⟨m', hm', he⟩, hcc⟩)
                    · exact .inl h
                    · exact .inr ⟨⟨m', by omega, he⟩, hcc⟩
                  · rintro (h | ⟨⟨m', hm', he'⟩, hcc⟩)
                    · exact .inl h
                    · by_cases hmm : m' = m
                      · subst hmm; rw [hw] at he'; omega
                      · exact .inr ⟨⟨m', by omega, he'⟩, hcc⟩
          · have hm2 : m = 2 := by have := of_decide_eq_false hb; omega
            subst hm2
            unfold F133.B3
            rw [wrap_id (by omega) (by omega)]
            refine ⟨⟨rfl, rfl, rfl, rfl, hG', i + 1, by omega, by omega, fun j hj i' hi' hs => ?_, S, hS, oS, seen.next⟩, by simp; omega⟩
            by_cases he : j = i
            · subst he
              obtain ⟨w, hw1, hw2⟩ := hs
              rcases on_cases hw2 with rfl | rfl
              · exact hne 0 (by omega) i' hi' hw1
              · exact hne 1 (by omega) i' hi' hw1
            · exact hcol j (by omega) i' hi' hs
        · have hil : i = es.length := by have := of_decide_eq_false hb; omega
          subst hil
          unfold F133.B1
          have k := k _ lG
          rw [decide_eq_true (⟨hlen, hr, hcol⟩ : IsC es c)] at k
          exact k
end Go.Proofs
namespace Go.Proofs
open Go.Abs

inductive Rch (adj : Nat → Nat → Prop) (e : Nat) : Nat → Prop
 | refl : Rch adj e e
 | step {x y : Nat} : Rch adj e x → adj x y → Rch adj e y
theorem Rch.trans {adj : Nat → Nat → Prop} {a b c : Nat} (h : Rch adj a b) (k : Rch adj b c) : Rch adj a c := by
 induction k with
 | refl => exact h
 | step _ h2 ih => exact .step ih h2
theorem Rch.symm {adj : Nat → Nat → Prop} (hs : ∀ x y, adj x y → adj y x) {a b : Nat} (h : Rch adj a b) : Rch adj b a := by
 induction h with
 | refl => exact .refl
 | step _ h2 ih => exact (Rch.step .refl (hs _ _ h2)).trans ih
theorem Rch.mono {adj adj' : Nat → Nat → Prop} (hs : ∀ x y, adj x y → adj' x y) {a b : Nat} (h : Rch adj a b) : Rch adj' a b := by
 induction h with
 | refl => exact .refl
 | step _ h2 ih => exact .step ih (hs _ _ h2)
theorem Rch.keep {adj : Nat → Nat → Prop} {P : Nat → Prop} (hs : ∀ x y, adj x y → P x → P y) {a b : Nat} (h : Rch adj a b) (ha : P a) : P b := by
 induction h with
 | refl => exact ha
 | step _ h2 ih => exact hs _ _ h2 ih
noncomputable instance (adj : Nat → Nat → Prop) (a b : Nat) : Decidable (Rch adj a b) := Classical.propDecidable _

def insB (S : Nat → Bool) (y : Nat) : Nat → Bool := fun j => S j || decide (y = j)
theorem insB_self (S : Nat → Bool) (y : Nat) : insB S y y = true := by simp [insB]
theorem insB_of {S : Nat → Bool} {y x : Nat} (h : S x = true) : insB S y x = true := by simp [insB, h]
theorem insB_ne {S : Nat → Bool} {y x : Nat} (h : insB S y x = true) (hne : x ≠ y) : S x = true := by
 simp only [insB, Bool.or_eq_true, decide_eq_true_eq] at h
 exact h.elim id fun h => absurd h.symm hne
def unseen (S : Nat → Bool) : Nat → Nat
 | 0 => 0
 | n + 1 => unseen S n + if S n then 0 else 1
theorem unseen_congr {S S' : Nat → Bool} : ∀ {n : Nat}, (∀ i, i < n → S i = S' i) → unseen S n = unseen S' n
 | 0, _ => rfl
 | n + 1, h => by rw [unseen, unseen, unseen_congr fun i hi => h i (by omega), h n (by omega)]
theorem unseen_ins {S : Nat → Bool} {y : Nat} : ∀ {n : Nat}, y < n → S y = false → unseen (insB S y) n + 1 = unseen S n
 | n + 1, h, hs => by
  rw [unseen, unseen]
  by_cases e : y = n
  ·subst e
   rw [unseen_congr (S' := S) fun i hi => by simp [insB]; intro h; omega, insB_self, hs]; simp
  ·have : insB S y n = S n := by simp [insB, e]
   rw [this, ← unseen_ins (n := n) (by omega) hs]; omega
theorem unseen_le (S : Nat → Bool) : ∀ n, unseen S n ≤ n
 | 0 => Nat.le_refl _
 | n + 1 => by have := unseen_le S n; rw [unseen]; split <;> omega

structure Ex (adj : Nat → Nat → Prop) (e : Nat) (S : Nat → Bool) (Q : List Nat) : Prop where
 start : S e = true
 q : ∀ x ∈ Q, S x = true
 rch : ∀ x, S x = true → Rch adj e x
 done : ∀ x, S x = true → x ∉ Q → ∀ y, adj x y → S y = true
theorem Ex.init {adj : Nat → Nat → Prop} {e : Nat} {S : Nat → Bool} (h : ∀ x, S x = true ↔ x = e) : Ex adj e S [e] :=
 ⟨(h e).2 rfl, fun x hx => by rw [List.mem_singleton] at hx; exact (h x).2 hx, fun x hx => by rw [(h x).1 hx]; exact .refl, fun x hx hn => absurd ((h x).1 hx) (by simpa using hn)⟩
theorem Ex.push {adj : Nat → Nat → Prop} {e : Nat} {S : Nat → Bool} {Q : List Nat} (h : Ex adj e S Q) {x y : Nat} (hx : S x = true) (ha : adj x y) : Ex adj e (insB S y) (Q ++ [y]) := by
 refine ⟨insB_of h.start, fun z hz => ?_, fun z hz => ?_, fun z hz hn w hw => ?_⟩
 ·rcases List.mem_append.1 hz with hz | hz
  ·exact insB_of (h.q z hz)
  ·rw [List.mem_singleton] at hz; rw [hz]; exact insB_self _ _
 ·by_cases e' : z = y
  ·rw [e']; exact .step (h.rch x hx) ha
  ·exact h.rch z (insB_ne hz e')
 ·rw [List.mem_append, List.mem_singleton] at hn
  exact insB_of (h.done z (insB_ne hz fun h => hn (.inr h)) (fun h => hn (.inl h)) w hw)
theorem Ex.pop {adj : Nat → Nat → Prop} {e : Nat} {S : Nat → Bool} {x : Nat} {Q : List Nat} (h : Ex adj e S (x :: Q)) (ha : ∀ y, adj x y → S y = true) : Ex adj e S Q := by
 refine ⟨h.start, fun z hz => h.q z (by simp [hz]), h.rch, fun z hz hn w hw => ?_⟩
 by_cases e' : z = x
 ·rw [e'] at hw; exact ha w hw
 ·exact h.done z hz (by simp [e', hn]) w hw
theorem Ex.fin {adj : Nat → Nat → Prop} {e : Nat} {S : Nat → Bool} (h : Ex adj e S []) (x : Nat) : S x = true ↔ Rch adj e x := by
 refine ⟨h.rch x, fun hr => hr.keep (P := fun x => S x = true) (fun a b hab ha => ?_) h.start⟩
 exact h.done a ha (by simp) b hab
end Go.Proofs
namespace Go.Proofs
open Go.Abs

end Go.Proofs
namespace Go.Proofs
open Go.Abs

def filtB (S : Nat → Bool) (k : Nat) : List Int := ((List.range k).filter S).map Int.ofNat
theorem filtB_succ (S : Nat → Bool) (k : Nat) : filtB S (k + 1) = filtB S k ++ (if S k then [(k : Int)] else []) := by
 unfold filtB
 rw [List.range_succ, List.filter_append, List.map_append]
 congr 1
 cases h : S k <;> simp [h]
theorem filtB_length (S : Nat → Bool) (k : Nat) : (filtB S k).length ≤ k := by
 unfold filtB; rw [List.length_map]
 exact Nat.le_trans (List.length_filter_le _ _) (by simp)
theorem filtB_congr {S S' : Nat → Bool} {k : Nat} (h : ∀ i, i < k → S i = S' i) : filtB S k = filtB S' k := by
 unfold filtB
 rw [List.filter_congr fun i hi => h i (List.mem_range.1 hi)]
theorem bits_lt {s n : Nat} (h : ∀ j, s.testBit j = true → j < n) : s < 2 ^ n := by
 apply Nat.lt_pow_two_of_testBit
 intro i hi
 cases hb : s.testBit i with
 | false => rfl
 | true => have := h i hb; omega
theorem bitsL_filt {s n : Nat} (hn : n ≤ 64) (h : ∀ j, s.testBit j = true → j < n) : bitsL s = filtB (fun j => s.testBit j) n := by
 have e := bitsTo_end (Nat.div_eq_of_lt (bits_lt h)) (64 - n)
 rw [show n + (64 - n) = 64 by omega] at e
 exact e
theorem mem_filtB {S : Nat → Bool} {k : Nat} {x : Int} : x ∈ filtB S k ↔ ∃ j : Nat, x = j ∧ j < k ∧ S j = true := by
 unfold filtB
 rw [List.mem_map]
 constructor
 ·rintro ⟨j, hj, rfl⟩
  rw [List.mem_filter, List.mem_range] at hj
  exact ⟨j, rfl, hj⟩
 ·rintro ⟨j, rfl, h⟩
  exact ⟨j, by rw [List.mem_filter, List.mem_range]; exact h, rfl⟩
def Asc (l : List Int) : Prop := l.Pairwise (· < ·)
theorem Asc.ext : ∀ {l m : List Int}, Asc l → Asc m → (∀ x, x ∈ l ↔ x ∈ m) → l = m
 | [], [], _, _, _ => rfl
 | [], b :: m, _, _, h => absurd ((h b).2 (by simp)) (by simp)
 | a :: l, [], _, _, h => absurd ((h a).1 (by simp)) (by simp)
 | a :: l, b :: m, hl, hm, h => by
  unfold Asc at hl hm
  rw [List.pairwise_cons] at hl hm
  have hab : a = b := by
   have h1 := (h a).1 (by simp)
   have h2 := (h b).2 (by simp)
   rcases List.mem_cons.1 h1 with rfl | h1
   ·rfl
   ·rcases List.mem_cons.1 h2 with h2 | h2
    ·exact h2.symm
    ·have := hl.1 b h2; have := hm.1 a h1; omega
  subst hab
  rw [Asc.ext hl.2 hm.2 fun x => ?_]
  constructor
  ·intro hx
   rcases List.mem_cons.1 ((h x).1 (by simp [hx])) with rfl | hx'
   ·exact absurd (hl.1 x hx) (Int.lt_irrefl _)
   ·exact hx'
  ·intro hx
   rcases List.mem_cons.1 ((h x).2 (by simp [hx])) with rfl | hx'
   ·exact absurd (hm.1 x hx) (Int.lt_irrefl _)
   ·exact hx'
theorem filtB_asc (S : Nat → Bool) (k : Nat) : Asc (filtB S k) := by
 unfold filtB Asc
 refine List.Pairwise.map _ (fun a b (h : a < b) => Int.ofNat_lt.2 h) ?_
 exact List.Pairwise.filter _ List.pairwise_lt_range
theorem IsS.asc {l : List Int} {n : Int} (h : IsS l n) : Asc l := by
 have key : ∀ i j, i < j → j < l.length → l.getD i 0 < l.getD j 0 := by
  intro i j hij hj
  induction j with
  | zero => omega
  | succ j ih =>
   have := (h (j + 1) hj).2.2 (by omega)
   rw [Nat.add_sub_cancel] at this
   by_cases e : i = j
   ·subst e; exact this
   ·have := ih (by omega) (by omega); omega
 unfold Asc
 rw [List.pairwise_iff_getElem]
 intro i j hi hj hij
 have := key i j hij hj
 rwa [getD_of hi, getD_of hj] at this
def bitB (l : List Int) (j : Nat) : Bool := (setN l).testBit j
theorem bitB_mem {l : List Int} {n : Int} (h : IsS l n) (j : Nat) : bitB l j = true ↔ (j : Int) ∈ l := by
 unfold bitB
 rw [setN_bit fun x hx => (h.range x hx).1]; simp
theorem IsS.filt {l : List Int} {n : Nat} (h : IsS l n) : l = filtB (bitB l) n := by
 refine Asc.ext h.asc (filtB_asc _ _) fun x => ?_
 rw [mem_filtB]
 constructor
 ·intro hx
  have := h.range x hx
  refine ⟨x.toNat, by omega, by omega, (bitB_mem h _).2 ?_⟩
  rwa [show ((x.toNat : Nat) : Int) = x by omega]
 ·rintro ⟨j, rfl, _, hj⟩
  exact (bitB_mem h j).1 hj

def degB (es : List (Int × Int)) (p : Nat → Bool) (w : Int) : Nat := (filtB (fun j => on (es.getD j (0, 0)) w && p j) es.length).length
end Go.Proofs
namespace Go.Proofs
open Go.Abs

def eAdj (es : List (Int × Int)) (p : Nat → Bool) (i j : Nat) : Prop := j < es.length ∧ p j = true ∧ share (es.getD i (0, 0)) (es.getD j (0, 0))
noncomputable def rchB (adj : Nat → Nat → Prop) (e : Nat) (j : Nat) : Bool := decide (Rch adj e j)
theorem rchB_iff {adj : Nat → Nat → Prop} {e j : Nat} : rchB adj e j = true ↔ Rch adj e j := by unfold rchB; simp
theorem dec_eq {p : Prop} [Decidable p] {b : Bool} (h : b = true ↔ p) : b = decide p := by
 rw [Bool.eq_iff_iff, h]; simp
theorem share_symm {a b : Int × Int} (h : share a b) : share b a := by
 obtain ⟨v, h1, h2⟩ := h; exact ⟨v, h2, h1⟩
section
variable {es : List (Int × Int)} {p : Nat → Bool} {l : List Int}
theorem eRch_in {i j : Nat} (h : Rch (eAdj es p) i j) (hi : i < es.length ∧ p i = true) : j < es.length ∧ p j = true :=
 h.keep (P := fun x => x < es.length ∧ p x = true) (fun x y hxy _ => ⟨hxy.1, hxy.2.1⟩) hi
theorem eRch_symm {i j : Nat} (h : Rch (eAdj es p) i j) (hi : i < es.length ∧ p i = true) : Rch (eAdj es p) j i := by
 have : ∀ x, Rch (eAdj es p) i x → Rch (eAdj es p) x i ∧ (x < es.length ∧ p x = true) := by
  intro x hx
  induction hx with
  | refl => exact ⟨.refl, hi⟩
  | step _ h2 ih => exact ⟨(Rch.step .refl ⟨ih.2.1, ih.2.2, share_symm h2.2.2⟩).trans ih.1, h2.1, h2.2.1⟩
 exact (this j h).1
end
def vAdj (fs : List (Int × Int)) (a b : Nat) : Prop := ((a : Int), (b : Int)) ∈ fs ∨ ((b : Int), (a : Int)) ∈ fs
theorem vAdj_symm {fs : List (Int × Int)} (a b : Nat) (h : vAdj fs a b) : vAdj fs b a := Or.symm h
end Go.Proofs
namespace Go.Abs
open Go.RowKit

section
variable {T : TT} {H H0 G : AHeap} {v : Value} {l : List Int} {m : Nat} {t : TypeId} {z : Nat} {cs : List Value}

theorem lenK_of {a : Option Addr} {n c : Nat} {K : Nat → Prop} (k : K n) : lenK (.slice a n c) K := k
structure Keep (m : Nat) (H G : AHeap) : Prop where
 len : H.length ≤ G.length
 old : ∀ (b : Nat) (o : AObj), b < m → H[b]? = some (some o) → G[b]? = some (some o)
theorem Keep.refl : Keep m H H := ⟨Nat.le_refl _, fun _ _ _ h => h⟩
theorem Keep.trans {G' : AHeap} (h : Keep m H G) (k : Keep m G G') : Keep m H G' := ⟨Nat.le_trans h.len k.len, fun b o hb ho => k.old b o hb (h.old b o hb ho)⟩
theorem Keep.of_le (h : H.le G) : Keep m H G := ⟨h.1, fun b o _ ho => h.2 b o ho⟩
theorem Keep.less {m' : Nat} (h : Keep m H G) (hm : m' ≤ m) : Keep m' H G := ⟨h.len, fun b o hb ho => h.old b o (by omega) ho⟩
theorem Keep.le (h : Keep m H G) (h0 : H0.le H) (hm : H0.length ≤ m) : H0.le G := ⟨Nat.le_trans h0.1 h.len, fun b o ho => h.old b o (by have := lt_of_get ho; omega) (h0.2 b o ho)⟩
theorem Keep.own {b : Nat} (h : Keep m H G) (o : Own H b t cs) (hb : b < m) : Own G b t cs := h.old b _ hb o
theorem Own.lt {b : Nat} (o : Own H b t cs) : b < H.length := lt_of_get o
theorem Own.le {b : Nat} (o : Own H b t cs) (h : H.le G) : Own G b t cs := h.2 _ _ o
def Sl (m : Nat) (H : AHeap) (v : Value) (t : TypeId) (z : Nat) (cs : List Value) : Prop :=
 (cs = [] ∧ (v = .slice none 0 0 ∨ ∃ a, v = .slice (some a) 0 0)) ∨ ∃ b n pre post, m ≤ b ∧ v = .slice (some ⟨b, List.length pre, none⟩) n (n + 1) ∧ Own H b t (pre ++ cs ++ post) ∧ cs.length = n * z
theorem Fresh.sl (h : Fresh m H v t z cs) : Sl m H v t z cs := by
 rcases h with h | ⟨b, n, h1, h2, h3, h4⟩
 ·exact .inl h
 ·exact .inr ⟨b, n, [], [], h1, h2, by simpa using h3, h4⟩
theorem Sl.le (h : Sl m H v t z cs) (hl : H.le G) : Sl m G v t z cs := by
 rcases h with h | ⟨b, n, pre, post, h1, h2, h3, h4⟩
 ·exact .inl h
 ·exact .inr ⟨b, n, pre, post, h1, h2, h3.le hl, h4⟩
theorem Sl.less {m' : Nat} (h : Sl m H v t z cs) (hm : m' ≤ m) : Sl m' H v t z cs := by
 rcases h with h | ⟨b, n, pre, post, h1, h2, h3, h4⟩
 ·exact .inl h
 ·exact .inr ⟨b, n, pre, post, by omega, h2, h3, h4⟩
theorem Sl.but {b : Nat} (h : Sl m H v t z cs) (hb : But b H G) (hm : b < m) : Sl m G v t z cs := by
 rcases h with h | ⟨c, n, pre, post, h1, h2, h3, h4⟩
 ·exact .inl h
 ·exact .inr ⟨c, n, pre, post, h1, h2, hb.own h3 (by omega), h4⟩
theorem Fresh.but {b : Nat} (h : Fresh m H v t z cs) (hb : But b H G) (hm : b < m) : Fresh m G v t z cs := by
 rcases h with h | ⟨c, n, h1, h2, h3, h4⟩
 ·exact .inl h
 ·exact .inr ⟨c, n, h1, h2, hb.own h3 (by omega), h4⟩
theorem Sl.nil : Sl m H (.slice none 0 0) t z [] := .inl ⟨rfl, .inl rfl⟩
theorem Sl.ints (h : Sl m H v t 1 (LI l)) : Ints H v l := by
 rcases h with ⟨h1, h2⟩ | ⟨b, n, pre, post, h1, rfl, h3, h4⟩
 ·have : l = [] := by simpa using h1
  subst this
  rcases h2 with rfl | ⟨a, rfl⟩
  ·exact .inl ⟨rfl, rfl⟩
  ·exact .inr ⟨a, 0, rfl, .inl rfl⟩
 ·simp at h4
  subst h4
  refine .inr ⟨_, _, rfl, .inr ⟨rfl, fun i x hx => ?_⟩⟩
  have hi : i < l.length := lt_of_get hx
  rw [h3.cell, List.append_assoc, List.getElem?_append_right (Nat.le_add_right _ _), Nat.add_sub_cancel_left, List.getElem?_append_left (by simpa using hi)]
  simp [hx]
theorem Sl.len (h : Sl m H v t z cs) {n : Nat} (hz : 0 < z) (hn : cs.length = n * z) {K : Nat → Prop} (k : K n) : lenK v K := by
 rcases h with ⟨h1, h2⟩ | ⟨b, n', pre, post, h1, rfl, h3, h4⟩
 ·subst h1
  have : n = 0 := by
   cases n with
   | zero => rfl
   | succ n => simp [Nat.add_mul] at hn; omega
  subst this
  rcases h2 with rfl | ⟨a, rfl⟩ <;> exact k
 ·have : n' = n := Nat.eq_of_mul_eq_mul_right hz (h4.symm.trans hn)
  subst this; exact k
def bk : Value → Option Nat
 | .slice (some a) _ (_ + 1) => some a.block
 | _ => none
theorem Sl.lt (h : Sl m H v t z cs) {b : Nat} (hb : bk v = some b) : m ≤ b ∧ b < H.length := by
 rcases h with ⟨_, rfl | ⟨a, rfl⟩⟩ | ⟨b', n, pre, post, h1, rfl, h3, _⟩
 ·cases hb
 ·cases hb
 ·cases hb; exact ⟨h1, h3.lt⟩
def Oth (v : Value) (H G : AHeap) : Prop := ∀ (b : Nat) (o : AObj), bk v ≠ some b → H[b]? = some (some o) → G[b]? = some (some o)
theorem Sl.oth {w : Value} (h : Sl m H v t z cs) (k : Oth w H G) (hn : ∀ b, bk v = some b → bk w ≠ some b) : Sl m G v t z cs := by
 rcases h with h | ⟨b, n, pre, post, h1, rfl, h3, h4⟩
 ·exact .inl h
 ·exact .inr ⟨b, n, pre, post, h1, rfl, k b _ (hn b rfl) h3, h4⟩
theorem Fresh.bk_lt (h : Fresh m H v t z cs) {b : Nat} (hb : bk v = some b) : m ≤ b ∧ b < H.length := h.sl.lt hb
def Elem (T : TT) (t : TypeId) (z : Nat) : Prop := ∃ ti, T t = some ti ∧ ti.size = z ∧ ti.bytes ≤ 1024 ∧ ti.fine = true
theorem Sl.app {ys : List Value} {x : Value} {n : Nat} {K : Value → AHeap → Prop} (he : Elem T t z) (hz : 0 < z) (h : Sl m H v t z cs) (hm : m ≤ H.length) (hx : cellsAt H x z n ys) (hs : cs.length + ys.length ≤ 4294967296)
    (k0 : ys = [] → K v H) (k : ∀ v' G, Keep m H G → Oth v H G → (∀ b, bk v' = some b → H.length ≤ b) → Fresh m G v' t z (cs ++ ys) → K v' G) : apK T t H v x K := by
  obtain ⟨ti, e1, rfl, e3, e4⟩ := he
  unfold apK
  rw [e1]
  simp only
  have hyl := hx.1
  by_cases hn : n = 0
  · subst hn
    have : ys = [] := List.length_eq_zero_iff.1 (by omega)
    subst this
    refine ⟨0, [], hx, .inl ⟨rfl, ?_, k0 rfl⟩⟩
    rcases h with ⟨_, rfl | ⟨a, rfl⟩⟩ | ⟨b, n, pre, post, _, rfl, _⟩
    · exact .inr rfl
    · exact .inl ⟨a, 0, 0, rfl⟩
    · exact .inl ⟨_, _, _, rfl⟩
  · refine ⟨n, ys, hx, .inr ⟨by omega, ?_⟩⟩
    have hle : n ≤ n * ti.size := Nat.le_mul_of_pos_right _ hz
    rcases h with ⟨rfl, h1⟩ | ⟨b, n', pre, post, hb, rfl, h3, h4⟩
    · refine ⟨0, [], H, ?_, by simp at hs; omega, e3, e4, hz, k _ _ (Keep.of_le (le_snoc _ _)) (fun b o _ h => (le_snoc _ _).2 b o h) (fun b h => by cases h; exact Nat.le_refl _) ?_⟩
      · rcases h1 with rfl | ⟨a, rfl⟩
        · exact .inl ⟨rfl, rfl, rfl, rfl⟩
        · exact .inr (.inl ⟨a, rfl, rfl, rfl, rfl⟩)
      · rw [Nat.zero_add]; exact (fresh_snoc (by simpa using hyl)).less hm
    · have hml : n' ≤ n' * ti.size := Nat.le_mul_of_pos_right _ hz
      refine ⟨n', cs, H.set b none, .inr (.inr ⟨b, pre.length, n' + 1, _, rfl, h3, by simp; omega, ?_, rfl⟩), by omega, e3, e4, hz, k _ _ ?_ ?_ (fun b h => by cases h; exact Nat.le_refl _) ?_⟩
      · rw [List.append_assoc, List.drop_left, ← h4, List.take_left]
      · refine ⟨by simp, fun d o hd ho => ?_⟩
        have := lt_of_get ho
        rw [List.getElem?_append_left (by simpa using this), List.getElem?_set_ne (by omega)]; exact ho
      · intro d o hd ho
        have := lt_of_get ho
        rw [List.getElem?_append_left (by simpa using this), List.getElem?_set_ne (fun h => hd (by rw [h]; rfl))]; exact ho
      · refine .inr ⟨H.length, n' + n, hm, rfl, ?_, by simp [h4, hyl, Nat.add_mul]⟩
        have : (H.set b none).length = H.length := by simp
        rw [← this]; exact snoc_get _ _
theorem Sl.pushN {ys : List Value} {n : Nat} {K : Value → AHeap → Prop} (he : Elem T t z) (hz : 0 < z) (h : Sl m H v t z cs) (hm : m ≤ H.length) (hy : ys.length = n * z) (h1 : ys.all Value.oneCell' = true) (hs : cs.length + ys.length ≤ 4294967296)
    (k0 : ys ≠ []) (k : ∀ v' G, Keep m H G → Oth v H G → (∀ b, bk v' = some b → H.length ≤ b) → Fresh m G v' t z (cs ++ ys) → K v' G) : newK H ys t (fun b1 H2 => apK T t H2 v (.slice (some ⟨b1, 0, none⟩) n (n + 1)) K) := by
  refine newK_f h1 fun H2 l2 n2 o2 => ?_
  exact Sl.app he hz (h.le l2) (Nat.le_trans hm l2.1) (cellsAt_row o2 hy) hs (fun h => absurd h k0) fun v' G hk ho hn hf => k v' G ((Keep.of_le l2).trans hk) (fun b o hb h => ho b o hb (l2.2 b o h)) (fun b h => Nat.le_trans l2.1 (hn b h)) hf
theorem Sl.drop {i : Nat} {n : Nat} {K : Value → Prop} (h : Sl m H v t z cs) (hn : cs.length = n * z) (hz : 0 < z) (h0 : 0 < n) (hi : i ≤ n) (k : ∀ v', Sl m H v' t z (cs.drop (i * z)) → K v') : sliceK H t v (some (.int .i64 (i : Int))) none z K := by
 have hle : i * z ≤ n * z := Nat.mul_le_mul_right z hi
 have hnz : n ≤ n * z := Nat.le_mul_of_pos_right _ hz
 rcases h with ⟨rfl, h1⟩ | ⟨b, n', pre, post, hb, rfl, h3, h4⟩
 ·simp at hn; omega
 ·have : n' = n := Nat.eq_of_mul_eq_mul_right hz (h4.symm.trans hn)
  subst this
  refine ⟨⟨_, _, h3, by simp; omega⟩, by simp, by simp; omega, by simp, ?_⟩
  refine k _ (.inr ⟨b, n' - i, pre ++ cs.take (i * z), post, hb, ?_, ?_, ?_⟩)
  ·simp [Nat.min_eq_left (show i * z ≤ cs.length by omega)]
  ·rw [List.append_assoc pre, List.take_append_drop]; exact h3
  ·rw [List.length_drop, hn, Nat.sub_mul]
end
end Go.Abs
namespace Go.Proofs
open Go.Abs

variable {H : AHeap} {v u f : Value} {l m c : List Int} {es fs : List (Int × Int)} {K : Value → AHeap → Prop}

theorem E_int : Elem T0 2 1 := ⟨tiInt, T0_int.1, T0_int.2.1, by rw [T0_int.2.2.1]; decide, T0_int.2.2.2⟩
theorem setB {S : List Bool} {y : Nat} (h : y < S.length) (j : Nat) : (S.set y true).getD j false = insB (fun j => S.getD j false) y j := by
 unfold insB
 simp only [List.getD, List.getElem?_set]
 by_cases e : y = j
 ·subst e; simp [h]
 ·simp [e]
theorem LB_get {S : List Bool} {i : Nat} (h : i < S.length) : (LB S)[i]? = some (.bool (S.getD i false)) := by simp [h]
abbrev NI (Q : List Nat) : List Int := Q.map Int.ofNat
def lenV : Value → Nat
 | .slice _ n _ => n
 | _ => 0
theorem Sl_lenV {m : Nat} {t : TypeId} {cs : List Value} (h : Sl m H v t 1 cs) : lenV v = cs.length := by
 rcases h with ⟨rfl, rfl | ⟨a, rfl⟩⟩ | ⟨b, n, pre, post, _, rfl, _, h⟩
 ·rfl
 ·rfl
 ·simp [lenV, h]

theorem isOn_ok {e : Int × Int} {x : Int} (k : ∀ G, H.le G → K (.bool (on e x)) G) : AC Tryz.prog T0 195 [ve e, .int .i64 x] H K := by
 apply F195.ac
 unfold F195.B2
 refine newK_f rfl fun H1 l1 n1 o1 => ?_
 unfold F195.B1
 have k := k _ l1
 refine ldI_own o1 rfl (pif_cases (fun hb => ?_) fun hb => ?_)
 ·rw [show on e x = true by unfold on; rw [hb]; rfl] at k; exact k
 ·rw [show on e x = (e.2 == x) by unfold on; rw [hb]; rfl] at k
  exact ldI_own o1 rfl k

theorem at_ok {n x : Int} (h : Edges H v es) (hl : es.length ≤ 1048576) (k : ∀ v' G, H.le G → Sl H.length G v' 2 1 (LI (atL es x)) → K v' G) : AC Tryz.prog T0 161 [.agg ⟨[.int .i64 n, v]⟩, .int .i64 x] H K := by
 apply F161.ac
 unfold F161.B10
 refine newK_f (all_iv (edges_one' h)) fun H1 l1 n1 o1 => ?_
 unfold F161.B9 F161.B8
 refine ld1_own o1 rfl ((h.le l1).len ?_)
 unfold F161.L2
 refine ⟨fun x1 x5 x9 x10 x11 G => x = x1 ∧ v = x9 ∧ (es.length : Int) = x10 ∧ H.le G ∧ ∃ i : Nat, x11 = i ∧ i ≤ es.length ∧ Sl H.length G x5 2 1 (LI (atTo es x i)), fun _ _ _ _ x11 _ => es.length - x11.toNat, ⟨rfl, rfl, rfl, l1, 0, rfl, by omega, .nil⟩, ?_⟩
 rintro x1 x5 x9 x10 x11 G ⟨rfl, rfl, rfl, hG, i, rfl, hi, hF⟩
 unfold F161.B7
 refine pif_cases (fun hb => ?_) fun hb => ?_
 ·have hlt : i < es.length := by have := of_decide_eq_true hb; omega
  unfold F161.B6
  obtain ⟨b, o, hk, c1, c2⟩ := (h.le hG).idx (show (0 : Int) ≤ i by omega) (by omega)
  simp only [Int.toNat_natCast] at c1 c2
  refine hk _ (ldI_mk c1 (ldI_mk c2 (newK_f rfl fun H2 l2 n2 o2 => stK_f o2 (by simp) (by simp [Value.oneCell']) rfl fun H3 b3 o3 => ?_)))
  have l3 : G.le H3 := b3.le l2 (Nat.le_refl _)
  unfold F161.B5
  refine ldI_own o3 rfl (ldI_own o3 rfl (isOn_ok (e := es.getD i (0, 0)) fun H4 l4 => asB_mk ?_))
  have l4 := AHeap.le_trans l3 l4
  have hF := hF.le l4
  have lG := AHeap.le_trans hG l4
  refine pif_cases (fun hs => ?_) fun hs => ?_
  ·unfold F161.B4
   refine hF.pushN E_int (by decide) lG.1 (n := 1) (ys := [.int .i64 i]) rfl rfl (by have := atTo_length es x i; simp; omega) (by simp) fun v' G2 k2 _ _ f2 => ?_
   unfold F161.B3
   rw [wrap_id (by omega) (by omega)]
   refine ⟨⟨rfl, rfl, rfl, k2.le lG (Nat.le_refl _), i + 1, by omega, by omega, ?_⟩, by simp; omega⟩
   rw [atTo_succ, if_pos hs]
   simpa using f2.sl
  ·unfold F161.B3
   rw [wrap_id (by omega) (by omega)]
   refine ⟨⟨rfl, rfl, rfl, lG, i + 1, by omega, by omega, ?_⟩, by simp; omega⟩
   rw [atTo_succ, if_neg (by rw [hs]; decide), List.append_nil]; exact hF
 ·have hge : i = es.length := by have := of_decide_eq_false hb; omega
  subst hge
  unfold F161.B1
  exact k _ _ hG hF

structure InX (es : List (Int × Int)) (p : Nat → Bool) (e x M : Nat) (D : Nat → Prop) (S : Nat → Bool) (Q : List Nat) : Prop where
 ex : Ex (eAdj es p) e S (x :: Q)
 bnd : ∀ y, S y = true → y < es.length
 mu : 2 * unseen S es.length + (Q.length + 1) ≤ M
 past : ∀ j, D j → S j = true
theorem InX.more {es : List (Int × Int)} {p : Nat → Bool} {e x M : Nat} {D D' : Nat → Prop} {S : Nat → Bool} {Q : List Nat} (h : InX es p e x M D S Q) (hd : ∀ j, D' j → D j ∨ S j = true) : InX es p e x M D' S Q :=
 ⟨h.ex, h.bnd, h.mu, fun j hj => (hd j hj).elim (h.past j) id⟩
theorem InX.push {es : List (Int × Int)} {p : Nat → Bool} {e x M y : Nat} {D D' : Nat → Prop} {S S' : Nat → Bool} {Q : List Nat} (h : InX es p e x M D S Q) (hy : eAdj es p x y) (hn : S y = false) (hs : ∀ j, S' j = insB S y j) (hd : ∀ j, D' j → D j ∨ j = y) : InX es p e x M D' S' (Q ++ [y]) := by
 obtain rfl : S' = insB S y := funext hs
 have hx : S x = true := h.ex.q x (by simp)
 refine ⟨h.ex.push hx hy, fun z hz => ?_, ?_, fun j hj => ?_⟩
 ·by_cases e' : z = y
  ·rw [e']; exact hy.1
  ·exact h.bnd z (insB_ne hz e')
 ·have := unseen_ins (n := es.length) hy.1 hn
  have := h.mu
  simp; omega
 ·rcases hd j hj with hj | rfl
  ·exact insB_of (h.past j hj)
  ·exact insB_self _ _
theorem InX.pop {es : List (Int × Int)} {p : Nat → Bool} {e x M : Nat} {D : Nat → Prop} {S : Nat → Bool} {Q : List Nat} (h : InX es p e x M D S Q) (hd : ∀ j, j < es.length → p j = true → (on (es.getD j (0, 0)) (en (es.getD x (0, 0)) 0) = true ∨ on (es.getD j (0, 0)) (en (es.getD x (0, 0)) 1) = true) → D j) : Ex (eAdj es p) e S Q ∧ 2 * unseen S es.length + Q.length < M := by
 refine ⟨h.ex.pop fun y hy => ?_, by have := h.mu; omega⟩
 obtain ⟨h1, h2, w, h3, h4⟩ := hy
 refine h.past y (hd y h1 h2 ?_)
 rcases on_cases h3 with rfl | rfl
 ·exact .inl h4
 ·exact .inr h4
theorem or_bit {s y : Nat} (j : Nat) : (s ||| 2 ^ y).testBit j = insB (fun j => s.testBit j) y j := by
 simp [insB, Nat.testBit_or, Nat.testBit_two_pow]
def PastE (es : List (Int × Int)) (p : Nat → Bool) (x m : Nat) (j : Nat) : Prop := j < es.length ∧ p j = true ∧ ∃ m', m' < m ∧ on (es.getD j (0, 0)) (en (es.getD x (0, 0)) m') = true
def PastT (es : List (Int × Int)) (p : Nat → Bool) (x m t : Nat) (j : Nat) : Prop := PastE es p x m j ∨ (p j = true ∧ ∃ t', t' < t ∧ (atL es (en (es.getD x (0, 0)) m)).getD t' 0 = j ∧ t' < (atL es (en (es.getD x (0, 0)) m)).length)
theorem PastT.fin {es : List (Int × Int)} {p : Nat → Bool} {x m : Nat} {j : Nat} (h : PastE es p x (m + 1) j) : PastT es p x m (atL es (en (es.getD x (0, 0)) m)).length j := by
 obtain ⟨h1, h2, m', h3, h4⟩ := h
 by_cases e : m' = m
 ·subst e
  have hm : (j : Int) ∈ atL es (en (es.getD x (0, 0)) m') := mem_atL.2 ⟨j, rfl, h1, h4⟩
  obtain ⟨t, ht, hte⟩ := List.getElem_of_mem hm
  exact .inr ⟨h2, t, ht, by rw [getD_of ht, hte], ht⟩
 ·exact .inl ⟨h1, h2, m', by omega, h4⟩
theorem PastT.step {es : List (Int × Int)} {p : Nat → Bool} {x m t : Nat} {j : Nat} (h : PastT es p x m (t + 1) j) : PastT es p x m t j ∨ (p j = true ∧ (atL es (en (es.getD x (0, 0)) m)).getD t 0 = j) := by
 rcases h with h | ⟨h1, t', h2, h3, h4⟩
 ·exact .inl (.inl h)
 ·by_cases e : t' = t
  ·subst e; exact .inr ⟨h1, h3⟩
  ·exact .inl (.inr ⟨h1, t', by omega, h3, h4⟩)
theorem at_get {es : List (Int × Int)} {w : Int} {t : Nat} (h : t < (atL es w).length) : ∃ i : Nat, (atL es w).getD t 0 = i ∧ i < es.length ∧ on (es.getD i (0, 0)) w = true := by
 obtain ⟨i, h1, h2, h3⟩ := mem_atL.1 (List.getElem_mem h)
 exact ⟨i, by rw [getD_of h]; exact h1, h2, h3⟩
def BitQ (m0 : Nat) (X : (Nat → Bool) → List Nat → Prop) (w : Int) (q : Value) (G : AHeap) : Prop := ∃ (s : Nat) (Q : List Nat), w = ((s : Nat) : Int) ∧ s < 2 ^ 64 ∧ X (fun j => s.testBit j) Q ∧ Sl m0 G q 2 1 (LI (NI Q))

def chP (c : List Int) (e : Nat) (b : Int) (j : Nat) : Bool := c.getD j 0 == c.getD e 0 || c.getD j 0 == b

theorem chain_ok {n b : Int} {e : Nat} (h : Edges H v es) (hg : IsG n es) (hc : Ints H u c) (hcl : c.length = es.length) (he : e < es.length)
    (k : ∀ (s : Nat) G, H.le G → s < 2 ^ 64 → (∀ j, s.testBit j = true → j < es.length) → (∀ j, s.testBit j = true ↔ Rch (eAdj es (chP c e b)) e j) → K (.int .u64 (s : Nat)) G) : AC Tryz.prog T0 130 [.agg ⟨[.int .i64 n, v]⟩, u, .int .i64 (e : Nat), .int .i64 b] H K := by
  have h30 : es.length ≤ 30 := by have := hg.ed.len; have := hg.ed.hi; omega
  apply F130.ac
  unfold F130.B20
  refine newK_f (all_iv (edges_one' h)) fun H1 l1 n1 o1 => ?_
  unfold F130.B19
  refine ⟨by omega, ?_⟩
  rw [one_shl (by omega) (by omega), Int.toNat_natCast]
  have p64 : 2 ^ e < 2 ^ 64 := Nat.pow_lt_pow_right (by decide) (by omega)
  unfold F130.B18
  refine newK_f rfl fun H2 l2 n2 o2 => ?_
  unfold F130.L2
  refine ⟨fun x1 x2 x3 x4 x9 x10 G => u = x1 ∧ (e : Int) = x2 ∧ b = x3 ∧ H.length = x4 ∧ H1.le G ∧ BitQ H1.length (fun S Q => Ex (eAdj es (chP c e b)) e S Q ∧ (∀ y, S y = true → y < es.length) ∧ 2 * unseen S es.length + Q.length ≤ 61) x9 x10 G,
    fun _ _ _ _ x9 x10 _ => 2 * unseen (fun j => x9.toNat.testBit j) es.length + lenV x10, ⟨rfl, rfl, rfl, rfl, l2, 2 ^ e, [e], rfl, p64, ⟨.init fun x => ?_, fun y hy => ?_, by have := unseen_le (fun j => (2 ^ e).testBit j) es.length; simp; omega⟩, (Fresh.sl (.inr ⟨_, 1, Nat.le_refl _, rfl, o2, rfl⟩))⟩, ?_⟩
  · rw [Nat.testBit_two_pow]; simp [eq_comm]
  · have hy : (2 ^ e).testBit y = true := hy
    rw [Nat.testBit_two_pow] at hy; have := of_decide_eq_true hy; omega
  rintro x1 x2 x3 x4 x9 x10 G ⟨rfl, rfl, rfl, rfl, hG, s, Q, rfl, hs, ⟨hE, hB, hU⟩, hQ⟩
  have lG := AHeap.le_trans l1 hG
  have oG := o1.le hG
  unfold F130.B17
  refine hQ.len (by decide) (n := Q.length) (by simp) (pif_cases (fun hb => ?_) fun hb => ?_)
  · have hpos : 0 < Q.length := by have := of_decide_eq_true hb; omega
    cases Q with
    | nil => simp at hpos
    | cons x Q =>
    have hxl : x < es.length := hB x (hE.q x (by simp))
    obtain ⟨d1, d2, d3, d4, d5⟩ := hg.ed.ends es[x] (List.getElem_mem hxl)
    rw [← getD_of (d := (0, 0)) hxl] at d1 d2 d3 d4 d5
    have hmu : 2 * unseen (fun j => (((s : Nat) : Int).toNat).testBit j) es.length + lenV x10 = 2 * unseen (fun j => s.testBit j) es.length + (Q.length + 1) := by
      rw [Sl_lenV hQ]; simp
    have hU : 2 * unseen (fun j => s.testBit j) es.length + (Q.length + 1) ≤ 61 := hU
    unfold F130.B16
    refine ld1_own oG rfl (hQ.ints.rd (by decide) (by simp) ?_)
    rw [show (NI (x :: Q)).getD (0 : Int).toNat 0 = (x : Int) from rfl]
    obtain ⟨bb, oo, hk, c1, c2⟩ := (h.le lG).idx (show (0 : Int) ≤ x by omega) (by omega)
    simp only [Int.toNat_natCast] at c1 c2
    refine hk _ (ldI_mk c1 (ldI_mk c2 ?_))
    unfold F130.L4
    refine ⟨fun x1 x2 x3 x4 x9 x10 x30a x30b x31 G => u = x1 ∧ (e : Int) = x2 ∧ b = x3 ∧ H.length = x4 ∧ (es.getD x (0, 0)).1 = x30a ∧ (es.getD x (0, 0)).2 = x30b ∧ H1.le G ∧ ∃ m : Nat, x31 = m ∧ m ≤ 2 ∧ BitQ H1.length (fun S Q' => ∃ R, Q' = x :: R ∧ InX es (chP c e b) e x (2 * unseen (fun j => s.testBit j) es.length + (Q.length + 1)) (PastE es (chP c e b) x m) S R) x9 x10 G,
      fun _ _ _ _ _ _ _ _ x31 _ => 2 - x31.toNat, ⟨rfl, rfl, rfl, rfl, rfl, rfl, hG, 0, rfl, by omega, s, x :: Q, rfl, hs, ⟨Q, rfl, hE, hB, Nat.le_refl _, fun j ⟨_, _, m', h, _⟩ => absurd h (by omega)⟩, hQ⟩, ?_⟩
    clear hQ hE hB hG oG lG hk c1 c2
    rintro x1 x2 x3 x4 x9 x10' x30a x30b x31 G ⟨rfl, rfl, rfl, rfl, rfl, rfl, hG, m, rfl, hm, s', _, rfl, hs', ⟨R, rfl, hX⟩, hQ⟩
    have lG := AHeap.le_trans l1 hG
    have oG := o1.le hG
    unfold F130.B15
    refine pif_cases (fun hb => ?_) fun hb => ?_
    · have hm2 : m < 2 := by have := of_decide_eq_true hb; omega
      unfold F130.B14
      have hat : ([.int .i64 (es.getD x (0, 0)).1, .int .i64 (es.getD x (0, 0)).2] : List Value)[(m : Int).toNat * 1]? = some (.int .i64 (en (es.getD x (0, 0)) m)) := by
        rcases (by omega : m = 0 ∨ m = 1) with rfl | rfl <;> rfl
      refine bndK_iff.2 ⟨by omega, by omega, ?_⟩
      unfold atK
      rw [hat]
      refine asI_mk ?_
      unfold F130.B13
      refine ldI_own oG rfl (ld1_own oG rfl (at_ok (h.le lG) (by omega) fun w G2 hG2 hF => ?_))
      have hv : 0 ≤ en (es.getD x (0, 0)) m ∧ en (es.getD x (0, 0)) m < n := by unfold en; split <;> omega
      have h3 := hg.three hv.1 hv.2
      refine hF.len (by decide) (n := 3) (by rw [List.length_map, h3]) ?_
      have lG2 := AHeap.le_trans hG hG2
      have hFm := hF.less (m' := H1.length) hG.1
      unfold F130.L6
      refine ⟨fun x1 x2 x3 x4 x9 x10 x30a x30b x31 x36 x37 x38 G => u = x1 ∧ (e : Int) = x2 ∧ b = x3 ∧ H.length = x4 ∧ (es.getD x (0, 0)).1 = x30a ∧ (es.getD x (0, 0)).2 = x30b ∧ (m : Int) = x31 ∧ w = x36 ∧ 3 = x37 ∧ H1.le G ∧ Sl 0 G w 2 1 (LI (atL es (en (es.getD x (0, 0)) m))) ∧ (∀ b, bk w = some b → bk x10 ≠ some b) ∧
          ∃ t : Nat, x38 = t ∧ t ≤ 3 ∧ BitQ H1.length (fun S Q' => ∃ R, Q' = x :: R ∧ InX es (chP c e b) e x (2 * unseen (fun j => s.testBit j) es.length + (Q.length + 1)) (PastT es (chP c e b) x m t) S R) x9 x10 G,
        fun _ _ _ _ _ _ _ _ _ _ _ x38 _ => 3 - x38.toNat, ⟨rfl, rfl, rfl, rfl, rfl, rfl, rfl, rfl, rfl, lG2, hF.less (Nat.zero_le _), (fun b hb hb' => by have := (hF.lt hb).1; have := (hQ.lt hb').2; omega), 0, rfl, by omega, s', x :: R, rfl, hs', ⟨R, rfl, hX.more fun j hj => .inl ?_⟩, hQ.le hG2⟩, ?_⟩
      · rcases hj with hj | ⟨_, t', h, _⟩
        · exact hj
        · exact absurd h (by omega)
      clear hX hQ hF hFm hG2 lG2 oG lG hG
      rintro x1 x2 x3 x4 x9 x10' x30a x30b x31 x36 x37 x38 G3 ⟨rfl, rfl, rfl, rfl, rfl, rfl, rfl, rfl, rfl, hG, hW, hA, t, rfl, ht, s3, _, rfl, hs3, ⟨R3, rfl, hX⟩, hQ⟩
      have lG := AHeap.le_trans l1 hG
      have hc := hc.le lG
      unfold F130.B12
      refine pif_cases (fun hb => ?_) fun hb => ?_
      · have ht3 : t < 3 := by have := of_decide_eq_true hb; omega
        obtain ⟨i, hi1, hi2, hi3⟩ := at_get (es := es) (w := en (es.getD x (0, 0)) m) (t := t) (by omega)
        have hxi : share (es.getD x (0, 0)) (es.getD i (0, 0)) := ⟨_, on_en, hi3⟩
        have hpast : ∀ j, PastT es (chP c e b) x m (t + 1) j → PastT es (chP c e b) x m t j ∨ (chP c e b j = true ∧ j = i) := fun j hj => (PastT.step hj).imp id fun ⟨h1, h2⟩ => ⟨h1, by omega⟩
        unfold F130.B11
        refine hW.ints.rd (by omega) (by omega) ?_
        simp only [Int.toNat_natCast, hi1]
        unfold F130.B10
        refine has_ok hs3 (by omega) (asB_mk ?_)
        simp only [Int.toNat_natCast]
        refine pif_cases (fun hb => ?_) fun hb => ?_
        · have hn : s3.testBit i = false := by simpa using hb
          refine hc.rd (by omega) (by omega) (hc.rd (by omega) (by omega) (pif_cases (fun h1 => ?_) fun h1 => hc.rd (by omega) (by omega) (pif_cases (fun h2 => ?_) fun h2 => ?_)))
          rotate_right
          · have hp : chP c e b i = false := by
              simp only [Int.toNat_natCast] at h1 h2
              unfold chP; rw [h1, h2]; rfl
            unfold F130.B7
            rw [wrap_id (by omega) (by omega)]
            refine ⟨⟨rfl, rfl, rfl, rfl, rfl, rfl, rfl, rfl, rfl, hG, hW, hA, t + 1, by omega, by omega, s3, x :: R3, rfl, hs3, ⟨R3, rfl, hX.more fun j hj => ?_⟩, hQ⟩, by simp; omega⟩
            rcases hpast j hj with h | ⟨h, rfl⟩
            · exact .inl h
            · rw [hp] at h; cases h
          all_goals
            have hp : chP c e b i = true := by
              simp only [Int.toNat_natCast] at h1
              try simp only [Int.toNat_natCast] at h2
              unfold chP; first | (rw [h1]; rfl) | (rw [h2]; simp)
            have pi : 2 ^ i < 2 ^ 64 := Nat.pow_lt_pow_right (by decide) (by omega)
            unfold F130.B9
            refine ⟨by omega, ?_⟩
            rw [one_shl (by omega) (by omega), Int.toNat_natCast, bits_or hs3 pi]
            unfold F130.B8
            refine hQ.pushN E_int (by decide) hG.1 (n := 1) (ys := [.int .i64 i]) rfl rfl (by have := hX.mu; simp; omega) (by simp) fun v' G4 k4 ot4 nb4 f4 => ?_
            unfold F130.B7
            rw [wrap_id (by omega) (by omega)]
            refine ⟨⟨rfl, rfl, rfl, rfl, rfl, rfl, rfl, rfl, rfl, k4.le hG (Nat.le_refl _), hW.oth ot4 hA, (fun b hb hb' => by have := (hW.lt hb).2; have := nb4 b hb'; omega), t + 1, by omega, by omega, s3 ||| 2 ^ i, x :: (R3 ++ [i]), rfl, or_lt hs3 pi, ⟨R3 ++ [i], rfl, hX.push ⟨hi2, hp, hxi⟩ hn or_bit fun j hj => ?_⟩, ?_⟩, by simp; omega⟩
            · exact (hpast j hj).imp id fun h => h.2
            · have := f4.sl
              simpa using this
        · have hn : s3.testBit i = true := by simpa using hb
          unfold F130.B7
          rw [wrap_id (by omega) (by omega)]
          refine ⟨⟨rfl, rfl, rfl, rfl, rfl, rfl, rfl, rfl, rfl, hG, hW, hA, t + 1, by omega, by omega, s3, x :: R3, rfl, hs3, ⟨R3, rfl, hX.more fun j hj => ?_⟩, hQ⟩, by simp; omega⟩
          rcases hpast j hj with h | ⟨h, rfl⟩
          · exact .inl h
          · exact .inr hn
      · have ht3 : t = 3 := by have := of_decide_eq_false hb; omega
        subst ht3
        unfold F130.B5
        rw [wrap_id (by omega) (by omega)]
        exact ⟨⟨rfl, rfl, rfl, rfl, rfl, rfl, hG, m + 1, by omega, by omega, s3, x :: R3, rfl, hs3, ⟨R3, rfl, hX.more fun j hj => .inl (by rw [← h3]; exact PastT.fin hj)⟩, hQ⟩, by simp; omega⟩
    · have hm2 : m = 2 := by have := of_decide_eq_false hb; omega
      subst hm2
      unfold F130.B3
      obtain ⟨hE, hlt⟩ := hX.pop fun j h1 h2 h3 => ⟨h1, h2, h3.elim (fun h => ⟨0, by omega, h⟩) fun h => ⟨1, by omega, h⟩⟩
      refine hQ.drop (i := 1) (n := R.length + 1) (by simp) (by decide) (by omega) (by omega) fun v' hv' => ?_
      have hv' : Sl H1.length G v' 2 1 (LI (NI R)) := by simpa using hv'
      refine ⟨⟨rfl, rfl, rfl, rfl, hG, s', R, rfl, hs', ⟨hE, hX.bnd, by omega⟩, hv'⟩, ?_⟩
      show 2 * unseen (fun j => (((s' : Nat) : Int).toNat).testBit j) es.length + lenV v' < 2 * unseen (fun j => (((s : Nat) : Int).toNat).testBit j) es.length + lenV x10
      rw [hmu, Sl_lenV hv']
      simpa using hlt
  · have hz : Q = [] := by
      have := of_decide_eq_false hb
      cases Q with
      | nil => rfl
      | cons x Q => simp at this
    subst hz
    unfold F130.B1
    exact k s G lG hs hB hE.fin
end Go.Proofs
namespace Go.Proofs
open Go.Abs

variable {H : AHeap} {v u f : Value} {l m c : List Int} {es fs : List (Int × Int)} {K : Value → AHeap → Prop}

theorem and32 {y : Int} (h0 : 0 ≤ y) (h1 : y < 4294967296) : IntKind.u64.wrap (((BitVec.ofInt 64 y &&& BitVec.ofInt 64 4294967295).toNat : Nat) : Int) = y := by
 obtain ⟨n, rfl⟩ := Int.eq_ofNat_of_zero_le h0
 have h : (BitVec.ofInt 64 ((n : Nat) : Int) &&& BitVec.ofInt 64 4294967295).toNat = n := by
  rw [BitVec.toNat_and, show (BitVec.ofInt 64 4294967295).toNat = 2 ^ 32 - 1 from by decide, Nat.and_two_pow_sub_one_eq_mod]
  simp only [BitVec.ofInt_natCast, BitVec.toNat_ofNat]
  omega
 rw [h]
 simp only [IntKind.wrap, IntKind.bits, IntKind.signed, Bool.false_and, Bool.false_eq_true, if_false]
 omega
theorem mul64_ok {y : Int} (h0 : 0 ≤ y) (h1 : y < 4294967296) (k : K (.tuple ⟨[.int .u64 0, .int .u64 y]⟩) H) : AC Tryz.prog T0 232 [.int .u64 1, .int .u64 y] H K := by
 apply F232.ac
 have e0 : Int.fdiv y (2 ^ (min (Int.toNat 32) 64)) = 0 := by
  rw [show (2 : Int) ^ (min (Int.toNat 32) 64) = 4294967296 from by decide, Int.fdiv_eq_ediv_of_nonneg _ (by decide)]; omega
 have w : ∀ z : Int, 0 ≤ z → z < 4294967296 → IntKind.u64.wrap z = z := by
  intro z a b; simp only [IntKind.wrap, IntKind.bits, IntKind.signed, Bool.false_and, Bool.false_eq_true, if_false]; omega
 unfold F232.B12 F232.B11 F232.B10
 rw [and32 (by decide) (by decide)]
 refine ⟨by decide, ?_⟩
 rw [show Int.fdiv 1 (2 ^ (min (Int.toNat 32) 64)) = 0 from by decide]
 unfold F232.B9 F232.B8
 rw [and32 h0 h1]
 refine ⟨by decide, ?_⟩
 rw [e0]
 unfold F232.B7 F232.B6
 refine ⟨by decide, ?_⟩
 rw [Int.one_mul, w y h0 h1, e0, Int.zero_mul, w 0 (by decide) (by decide), show (0 : Int) + 0 = 0 from rfl, w 0 (by decide) (by decide)]
 unfold F232.B5 F232.B4
 rw [and32 (by decide) (by decide)]
 refine ⟨by decide, ?_⟩
 rw [show Int.fdiv 0 (2 ^ (min (Int.toNat 32) 64)) = 0 from by decide]
 unfold F232.B3 F232.B2
 refine ⟨by decide, ?_⟩
 simp only [show (1 : Int) * 0 = 0 from rfl, show (0 : Int) * 0 = 0 from rfl, show (0 : Int) + 0 = 0 from rfl, w 0 (by decide) (by decide), show Int.fdiv 0 (2 ^ (min (Int.toNat 32) 64)) = 0 from by decide]
 unfold F232.B1
 rw [Int.one_mul, w y h0 h1]
 exact k
theorem mul_ok {y : Int} (h0 : 0 ≤ y) (h1 : y < 4294967296) (k : K (.tuple ⟨[.int .u64 0, .int .u64 y]⟩) H) : AC Tryz.prog T0 221 [.int .u64 1, .int .u64 y] H K := by
 apply F221.ac
 unfold F221.B3 F221.B2
 refine mul64_ok h0 h1 ?_
 exact k
end Go.Proofs
namespace Go.Proofs
open Go.Abs

variable {H : AHeap} {l s : List Int}

theorem cp_own {b o n c2 sb so m c : Nat} {K : Nat → AHeap → Prop} (hb : Own H b 2 (LI l)) (hs : Own H sb 2 (LI s)) (hm : 0 < m) (hn : 0 < n) (h1 : so + m ≤ s.length) (h2 : o + n ≤ l.length)
    (k : ∀ G, But b H G → Own G b 2 (LI (l.take o ++ (s.drop so).take (Nat.min m n) ++ l.drop (o + Nat.min m n))) → K (Nat.min m n) G) :
    cpK T0 2 H (.slice (some ⟨b, o, none⟩) n c2) (.slice (some ⟨sb, so, none⟩) m c) K := by
  have hq : Nat.min m n ≤ m ∧ Nat.min m n ≤ n ∧ 0 < Nat.min m n := ⟨Nat.min_le_left _ _, Nat.min_le_right _ _, Nat.lt_min.2 ⟨hm, hn⟩⟩
  have hl : (LI ((s.drop so).take (Nat.min m n))).length = Nat.min m n := by simp only [LI, List.length_map, List.length_take, List.length_drop]; omega
  refine .inr ⟨sb, so, m, c, b, o, n, c2, LI l, LI ((s.drop so).take (Nat.min m n)), rfl, rfl, hb, hq.2.2, ?_, ?_, ?_, k _ But.set ?_⟩
  · rw [hl]; exact (Nat.mul_one _).symm
  · intro i u hu
    rw [hs.cell]
    have hi := lt_of_get hu
    rw [hl] at hi
    simp only [LI, List.getElem?_map] at hu ⊢
    rw [List.getElem?_take_of_lt hi, List.getElem?_drop] at hu
    exact hu
  · rw [hl]; simp only [LI, List.length_map]; omega
  · rw [hl]
    have : b < H.length := lt_of_get hb
    simp only [Own, LI, List.map_append, List.map_take, List.map_drop]
    rw [List.getElem?_set_self this]
end Go.Proofs
namespace Go.Proofs
open Go.Abs

variable {H : AHeap} {l s : List Int}

theorem repeat_ok {b1 : Nat} {t n : Int} {K : Value → AHeap → Prop} (o : Own H b1 2 (LI [t])) (h0 : 0 ≤ n) (h1 : n ≤ 1000000)
    (k : ∀ G, H.le G → Own G H.length 2 (LI (List.replicate n.toNat t)) → K (.slice (some ⟨H.length, 0, none⟩) n.toNat (n.toNat + 1)) G) :
    AC Tryz.prog T0 192 [.slice (some ⟨b1, 0, none⟩) 1 (1 + 1), .int .i64 n] H K := by
  obtain ⟨N, rfl⟩ := Int.eq_ofNat_of_zero_le h0
  have hu : IntKind.u64.wrap ((N : Nat) : Int) = N := by simp only [IntKind.wrap, IntKind.bits, IntKind.signed, Bool.false_and, Bool.false_eq_true, if_false]; omega
  have hb1 : b1 < H.length := lt_of_get o
  apply F192.ac
  unfold F192.B10 F192.B9
  refine pif_f (by simp) ?_
  unfold F192.B8
  refine lenK_of ?_
  rw [hu, show IntKind.u64.wrap ((1 : Nat) : Int) = 1 from by decide]
  refine mul_ok (by omega) (by omega) ?_
  show F192.B7 K _ 0 N H
  unfold F192.B7
  refine pif_f (by decide) (pif_f (by simp; omega) ?_)
  unfold F192.B6
  rw [wrap_id (by omega) (by omega)]
  refine mkR_int (by omega) (by omega) (by decide) fun H2 l2 n2 o2 => ?_
  rw [rep_one, Int.toNat_natCast] at o2
  simp only [Int.toNat_natCast] at k ⊢
  unfold F192.B5
  have main : ∀ (i : Nat) G, i ≤ N → (0 < i ∨ N = 0) → H.le G → Own G H.length 2 (LI (List.replicate i t ++ List.replicate (N - i) 0)) → F192.L2 K (.slice (some ⟨H.length, 0, none⟩) N (N + 1)) (i : Int) G := by
    intro i G hi hp hl ho
    unfold F192.L2
    refine ⟨fun x7 x8 G => x7 = .slice (some ⟨H.length, 0, none⟩) N (N + 1) ∧ ∃ i : Nat, x8 = i ∧ i ≤ N ∧ (0 < i ∨ N = 0) ∧ H.le G ∧ Own G H.length 2 (LI (List.replicate i t ++ List.replicate (N - i) 0)), fun _ x8 _ => N - x8.toNat, ⟨rfl, i, rfl, hi, hp, hl, ho⟩, ?_⟩
    rintro x7 x8 G ⟨rfl, i, rfl, hi, hp, hl, ho⟩
    unfold F192.B4
    refine lenK_of ?_
    by_cases h : i < N
    · refine pif_t (by simp; omega) ?_
      unfold F192.B3
      refine ⟨⟨_, _, ho, by simp [LI]; omega⟩, by omega, by omega, by omega, ?_⟩
      refine ⟨⟨_, _, ho, by simp [LI]; omega⟩, by omega, by omega, by omega, ?_⟩
      simp only [Int.toNat_natCast, Nat.zero_add, Nat.mul_one, Int.toNat_zero, Nat.zero_mul, Nat.sub_zero]
      refine cp_own ho ho (by omega) (by omega) (by first | (simp; done) | (simp; omega)) (by first | (simp; done) | (simp; omega)) fun G2 b2 o2 => ?_
      have hq : Nat.min i (N - i) ≤ i ∧ Nat.min i (N - i) ≤ N - i ∧ 0 < Nat.min i (N - i) := ⟨Nat.min_le_left _ _, Nat.min_le_right _ _, Nat.lt_min.2 ⟨by omega, by omega⟩⟩
      generalize Nat.min i (N - i) = q at hq o2 ⊢
      rw [wrap_id (by omega) (by omega)]
      refine ⟨⟨by first | trivial | rfl, i + q, by omega, by omega, by omega, b2.le hl (Nat.le_refl _), ?_⟩, by omega⟩
      have e : (List.replicate i t ++ List.replicate (N - i) 0).take i ++ ((List.replicate i t ++ List.replicate (N - i) 0).drop 0).take q ++ (List.replicate i t ++ List.replicate (N - i) 0).drop (i + q) = List.replicate (i + q) t ++ List.replicate (N - (i + q)) 0 := by
        rw [List.take_left' (by simp), List.drop_zero, List.take_append_of_le_length (by simp; omega), List.take_replicate, Nat.min_eq_left hq.1, List.replicate_append_replicate, List.drop_append, List.drop_eq_nil_of_le (by simp), List.nil_append, List.drop_replicate, List.length_replicate]
        congr 2; omega
      rw [e] at o2
      exact o2
    · refine pif_f (by simp; omega) ?_
      unfold F192.B1
      obtain rfl : i = N := by omega
      exact k _ hl (by simpa using ho)
  by_cases hN : N = 0
  · subst hN
    exact .inl ⟨_, _, _, _, _, _, rfl, rfl, .inr rfl, main 0 H2 (by omega) (.inr rfl) l2 (by simpa using o2)⟩
  · refine cp_own o2 (l2.2 _ _ o) (by omega) (by omega) (by simp) (by simp) fun G b2 o3 => ?_
    have hq : Nat.min 1 N = 1 := Nat.min_eq_left (by omega)
    rw [hq] at o3 ⊢
    refine main 1 G (by omega) (.inl (by omega)) (b2.le l2 (Nat.le_refl _)) ?_
    simpa using o3
end Go.Proofs
namespace Go.Proofs
open Go.Abs

variable {H : AHeap} {v u f : Value} {l m c : List Int} {es fs : List (Int × Int)} {K : Value → AHeap → Prop}

end Go.Proofs
namespace Go.Proofs
open Go.Abs

def restTo (es : List (Int × Int)) (p : Nat → Bool) (k : Nat) : List (Int × Int) := ((List.range k).filter fun j => !p j).map fun j => es.getD j (0, 0)
def restL (es : List (Int × Int)) (p : Nat → Bool) : List (Int × Int) := restTo es p es.length
theorem restTo_succ (es : List (Int × Int)) (p : Nat → Bool) (k : Nat) : restTo es p (k + 1) = restTo es p k ++ if p k then [] else [es.getD k (0, 0)] := by
 unfold restTo
 rw [List.range_succ, List.filter_append, List.map_append]
 congr 1
 cases h : p k <;> simp [h]
theorem mem_restL {es : List (Int × Int)} {p : Nat → Bool} {e : Int × Int} : e ∈ restL es p ↔ ∃ j, j < es.length ∧ p j = false ∧ e = es.getD j (0, 0) := by
 unfold restL restTo
 rw [List.mem_map]
 constructor
 ·rintro ⟨j, hj, rfl⟩
  rw [List.mem_filter, List.mem_range] at hj
  exact ⟨j, hj.1, by simpa using hj.2, rfl⟩
 ·rintro ⟨j, h1, h2, rfl⟩
  exact ⟨j, by rw [List.mem_filter, List.mem_range]; exact ⟨h1, by simpa using h2⟩, rfl⟩
theorem restTo_none (es : List (Int × Int)) {p : Nat → Bool} (h : ∀ j, p j = false) : ∀ k, k ≤ es.length → restTo es p k = es.take k
 | 0, _ => by simp [restTo]
 | k + 1, hk => by
  rw [restTo_succ, restTo_none es h k (by omega), h k, List.take_succ_eq_append_getElem (show k < es.length by omega), getD_of (show k < es.length by omega)]; rfl
theorem restL_none (es : List (Int × Int)) {p : Nat → Bool} (h : ∀ j, p j = false) : restL es p = es := by
 unfold restL; rw [restTo_none es h _ (Nat.le_refl _), List.take_length]
noncomputable def vLeadB (fs : List (Int × Int)) (i : Nat) : Bool := @decide (∀ b, b < i → ¬ Rch (vAdj fs) b i) (Classical.propDecidable _)
theorem vLeadB_iff {fs : List (Int × Int)} {i : Nat} : vLeadB fs i = true ↔ ∀ b, b < i → ¬ Rch (vAdj fs) b i := by unfold vLeadB; simp
noncomputable def sideL (fs : List (Int × Int)) (n v : Nat) : List Int := filtB (rchB (vAdj fs) v) n
noncomputable def sidesTo (fs : List (Int × Int)) (n k : Nat) : List (List Int) := ((List.range k).filter (vLeadB fs)).map (sideL fs n)
noncomputable def sidesL (fs : List (Int × Int)) (n : Nat) : List (List Int) := sidesTo fs n n
theorem sidesTo_succ (fs : List (Int × Int)) (n k : Nat) : sidesTo fs n (k + 1) = sidesTo fs n k ++ if vLeadB fs k then [sideL fs n k] else [] := by
 unfold sidesTo
 rw [List.range_succ, List.filter_append, List.map_append]
 congr 1
 cases h : vLeadB fs k <;> simp [h]
theorem sidesTo_length (fs : List (Int × Int)) (n k : Nat) : (sidesTo fs n k).length ≤ k := by
 unfold sidesTo; rw [List.length_map]
 exact Nat.le_trans (List.length_filter_le _ _) (by simp)
theorem mem_sideL {fs : List (Int × Int)} {n v : Nat} {x : Int} : x ∈ sideL fs n v ↔ ∃ j : Nat, x = j ∧ j < n ∧ Rch (vAdj fs) v j := by
 unfold sideL; rw [mem_filtB]
 exact ⟨fun ⟨j, h1, h2, h3⟩ => ⟨j, h1, h2, rchB_iff.1 h3⟩, fun ⟨j, h1, h2, h3⟩ => ⟨j, h1, h2, rchB_iff.2 h3⟩⟩
theorem lead_eq {fs : List (Int × Int)} {a b : Nat} (ha : vLeadB fs a = true) (hb : vLeadB fs b = true) (h : Rch (vAdj fs) a b) : a = b := by
 rcases Nat.lt_trichotomy a b with h1 | h1 | h1
 ·exact absurd h (vLeadB_iff.1 hb a h1)
 ·exact h1
 ·exact absurd (h.symm vAdj_symm) (vLeadB_iff.1 ha b h1)
theorem lead_exists {fs : List (Int × Int)} (i : Nat) : ∃ j, j ≤ i ∧ vLeadB fs j = true ∧ Rch (vAdj fs) j i := by
 induction i using Nat.strongRecOn with
 | _ i ih =>
  cases hl : vLeadB fs i with
  | true => exact ⟨i, Nat.le_refl _, hl, .refl⟩
  | false =>
   have : ∃ j, j < i ∧ Rch (vAdj fs) j i := by
    apply Classical.byContradiction
    intro h
    have : vLeadB fs i = true := vLeadB_iff.2 fun b hb hr => h ⟨b, hb, hr⟩
    rw [hl] at this; cases this
   obtain ⟨j, h1, h2⟩ := this
   obtain ⟨j', g1, g2, g3⟩ := ih j h1
   exact ⟨j', by omega, g2, g3.trans h2⟩
theorem getD_set_ne {l : List Int} {i j : Nat} {x : Int} (h : i ≠ j) : (l.set i x).getD j 0 = l.getD j 0 := by simp [List.getD, List.getElem?_set, h]
theorem getD_set_self {l : List Int} {i : Nat} {x : Int} (h : i < l.length) : (l.set i x).getD i 0 = x := by simp [List.getD, h]
end Go.Proofs
namespace Go.Proofs
open Go.Abs

def upTo {α : Type} (q : α → Bool) : List α → List α
 | [] => []
 | x :: xs => if q x then [x] else x :: upTo q xs
theorem upTo_app {α : Type} {q : α → Bool} : ∀ {a b : List α}, a.any q = false → upTo q (a ++ b) = a ++ upTo q b
 | [], b, _ => rfl
 | x :: a, b, h => by
  rw [List.any_cons, Bool.or_eq_false_iff] at h
  rw [List.cons_append, upTo, h.1]
  simp [upTo_app h.2]
theorem upTo_stop {α : Type} {q : α → Bool} : ∀ {a b : List α}, a.any q = true → upTo q (a ++ b) = upTo q a
 | x :: a, b, h => by
  rw [List.cons_append, upTo, upTo]
  cases hx : q x with
  | true => rfl
  | false =>
   rw [List.any_cons, hx, Bool.false_or] at h
   simp [upTo_stop h]
theorem upTo_all {α : Type} {q : α → Bool} {a : List α} (h : a.any q = false) : upTo q a = a := by
 have := upTo_app (b := []) h
 simpa [upTo] using this
end Go.Proofs
namespace Go.Proofs
open Go.Abs

noncomputable instance (a b : Int × Int) : Decidable (share a b) := Classical.propDecidable _
noncomputable def clashB (es : List (Int × Int)) (c : List Int) (i : Nat) (x : Int) : Bool := @decide (∃ j, j < c.length ∧ c.getD j 0 = x ∧ share (es.getD j (0, 0)) (es.getD i (0, 0))) (Classical.propDecidable _)
theorem clashB_iff {es : List (Int × Int)} {c : List Int} {i : Nat} {x : Int} : clashB es c i x = true ↔ ∃ j, j < c.length ∧ c.getD j 0 = x ∧ share (es.getD j (0, 0)) (es.getD i (0, 0)) := by unfold clashB; simp
end Go.Proofs
namespace Go.Proofs
open Go.Abs

variable {H G : AHeap} {v u f : Value} {l m c D : List Int} {es fs : List (Int × Int)} {K : Value → AHeap → Prop}

theorem nilK_mk {b o : Nat} {K : Value → Prop} (h : K (.pointer (some ⟨b, o, none⟩))) : nilK (.pointer (some ⟨b, o, none⟩)) K := h
theorem asTup_mk {xs : List Value} {K : List Value → Prop} (h : K xs) : asTup (.tuple ⟨xs⟩) K := h
structure Two (cb ub : Nat) (G G' : AHeap) : Prop where
 len : G.length ≤ G'.length
 old : ∀ (b : Nat) (o : AObj), b ≠ cb → b ≠ ub → G[b]? = some (some o) → G'[b]? = some (some o)
theorem Two.le {cb ub : Nat} {G G' : AHeap} (h : G.le G') : Two cb ub G G' := ⟨h.1, fun b o _ _ ho => h.2 b o ho⟩
theorem Two.trans {cb ub : Nat} {G G' G2 : AHeap} (h : Two cb ub G G') (k : Two cb ub G' G2) : Two cb ub G G2 := ⟨Nat.le_trans h.len k.len, fun b o h1 h2 ho => k.old b o h1 h2 (h.old b o h1 h2 ho)⟩
theorem Two.base {cb ub : Nat} {H0 G G' : AHeap} (h : Two cb ub G G') (h0 : H0.le G) (hc : H0.length ≤ cb) (hu : H0.length ≤ ub) : H0.le G' :=
 ⟨Nat.le_trans h0.1 h.len, fun b o ho => by have := lt_of_get ho; exact h.old b o (by omega) (by omega) (h0.2 b o ho)⟩
theorem Two.butC {cb ub : Nat} {G G' : AHeap} (h : But cb G G') : Two cb ub G G' := ⟨Nat.le_of_eq h.len.symm, fun b o h1 _ ho => by rw [h.same b h1]; exact ho⟩
theorem Two.butU {cb ub : Nat} {G G' : AHeap} (h : But ub G G') : Two cb ub G G' := ⟨Nat.le_of_eq h.len.symm, fun b o _ h1 ho => by rw [h.same b h1]; exact ho⟩
theorem LUget2 {Z : List Nat} {i : Nat} (h : i < Z.length) : (LU Z)[i]? = some (.int .u64 (Z.getD i 0 : Nat)) := by simp [h]
def orAt (u : List Nat) (w x : Nat) : List Nat := u.set w (u.getD w 0 ||| 2 ^ x)
def offAtU (u : List Nat) (w x : Nat) : List Nat := u.set w (u.getD w 0 &&& (2 ^ 64 - (2 ^ x + 1)))
theorem off_or {s x : Nat} (hs : s < 2 ^ 64) (hx : x < 64) (hb : s.testBit x = false) : (s ||| 2 ^ x) &&& (2 ^ 64 - (2 ^ x + 1)) = s := by
 have px : 2 ^ x < 2 ^ 64 := Nat.pow_lt_pow_right (by decide) hx
 apply Nat.eq_of_testBit_eq
 intro j
 rw [Nat.testBit_and, Nat.testBit_or, Nat.testBit_two_pow_sub_succ px, Nat.testBit_two_pow]
 by_cases hj : j < 64
 ·by_cases e : x = j
  ·subst e; simp [hb]
  ·simp [hj, e]
 ·rw [testBit_big hs (by omega)]; simp [hj]
theorem getN_set_self {l : List Nat} {i x : Nat} (h : i < l.length) : (l.set i x).getD i 0 = x := by simp [List.getD, h]
theorem getN_set_ne {l : List Nat} {i j x : Nat} (h : i ≠ j) : (l.set i x).getD j 0 = l.getD j 0 := by simp [List.getD, List.getElem?_set, h]
theorem set_getN {l : List Nat} {i : Nat} (h : i < l.length) : l.set i (l.getD i 0) = l := by rw [getD_of h]; exact List.set_getElem_self h
theorem give_take {u : List Nat} {a b x : Nat} (ha : a < u.length) (hb : b < u.length) (hab : a ≠ b) (hx : x < 64) (h1 : u.getD a 0 < 2 ^ 64) (h2 : u.getD b 0 < 2 ^ 64) (b1 : (u.getD a 0).testBit x = false) (b2 : (u.getD b 0).testBit x = false) :
    offAtU (offAtU (orAt (orAt u a x) b x) a x) b x = u := by
  unfold offAtU orAt
  have e1 : ((u.set a (u.getD a 0 ||| 2 ^ x)).getD b 0) = u.getD b 0 := getN_set_ne hab
  rw [e1]
  have e2 : (((u.set a (u.getD a 0 ||| 2 ^ x)).set b (u.getD b 0 ||| 2 ^ x)).getD a 0) = u.getD a 0 ||| 2 ^ x := by
    rw [getN_set_ne (fun e => hab e.symm), getN_set_self ha]
  rw [e2, off_or h1 hx b1]
  have e3 : ((((u.set a (u.getD a 0 ||| 2 ^ x)).set b (u.getD b 0 ||| 2 ^ x)).set a (u.getD a 0)).getD b 0) = u.getD b 0 ||| 2 ^ x := by
    rw [getN_set_ne hab, getN_set_self (by simpa using hb)]
  rw [e3, off_or h2 hx b2]
  rw [List.set_comm _ _ hab, List.set_set, List.set_comm _ _ (fun e => hab e.symm), List.set_set, set_getN ha, set_getN hb]
def UsedOk (es : List (Int × Int)) (n : Nat) (c : List Int) (u : List Nat) : Prop := u.length = n ∧ ∀ w, w < n → u.getD w 0 < 2 ^ 64 ∧ ∀ k : Nat, (u.getD w 0).testBit k = true ↔ ∃ j, j < c.length ∧ c.getD j 0 = k ∧ on (es.getD j (0, 0)) w = true
theorem UsedOk.give {n : Nat} {c : List Int} {u : List Nat} {a b i x : Nat} (h : UsedOk es n c u) (hi : i < c.length) (hc : c.getD i 0 = -1) (he : es.getD i (0, 0) = ((a : Int), (b : Int))) (ha : a < n) (hb : b < n) (hab : a ≠ b) (hx : x < 64) : UsedOk es n (c.set i (x : Int)) (orAt (orAt u a x) b x) := by
 obtain ⟨h1, h2⟩ := h
 have px : 2 ^ x < 2 ^ 64 := Nat.pow_lt_pow_right (by decide) hx
 have hon : ∀ w : Nat, on (es.getD i (0, 0)) w = true ↔ a = w ∨ b = w := fun w => by
  rw [he]; unfold on; simp only [Bool.or_eq_true, beq_iff_eq]; omega
 have hget : ∀ w, w < n → (orAt (orAt u a x) b x).getD w 0 = if on (es.getD i (0, 0)) w = true then u.getD w 0 ||| 2 ^ x else u.getD w 0 := by
  intro w hw
  unfold orAt
  have e1 : ((u.set a (u.getD a 0 ||| 2 ^ x)).getD b 0) = u.getD b 0 := getN_set_ne hab
  rw [e1]
  by_cases e2 : b = w
  ·subst e2
   rw [getN_set_self (by simp; omega), if_pos ((hon b).2 (.inr rfl))]
  ·rw [getN_set_ne e2]
   by_cases e3 : a = w
   ·subst e3
    rw [getN_set_self (by omega), if_pos ((hon a).2 (.inl rfl))]
   ·rw [getN_set_ne e3, if_neg fun h => ((hon w).1 h).elim e3 e2]
 refine ⟨by simp [orAt, h1], fun w hw => ?_⟩
 rw [hget w hw]
 obtain ⟨g1, g2⟩ := h2 w hw
 refine ⟨by split; exact or_lt g1 px; exact g1, fun k => ?_⟩
 constructor
 ·intro hk
  by_cases ho : on (es.getD i (0, 0)) w = true
  ·rw [if_pos ho, Nat.testBit_or, Bool.or_eq_true, Nat.testBit_two_pow, decide_eq_true_iff] at hk
   rcases hk with hk | hk
   ·obtain ⟨j, j1, j2, j3⟩ := (g2 k).1 hk
    have hne : i ≠ j := fun e => by subst e; omega
    exact ⟨j, by simpa using j1, by rw [getD_set_ne hne]; exact j2, j3⟩
   ·exact ⟨i, by simpa using hi, by rw [getD_set_self hi]; omega, ho⟩
  ·rw [if_neg ho] at hk
   obtain ⟨j, j1, j2, j3⟩ := (g2 k).1 hk
   have hne : i ≠ j := fun e => by subst e; omega
   exact ⟨j, by simpa using j1, by rw [getD_set_ne hne]; exact j2, j3⟩
 ·rintro ⟨j, j1, j2, j3⟩
  by_cases e : i = j
  ·subst e
   rw [getD_set_self hi] at j2
   rw [if_pos j3, Nat.testBit_or, Bool.or_eq_true, Nat.testBit_two_pow, decide_eq_true_iff]
   right; omega
  ·rw [getD_set_ne e] at j2
   have := (g2 k).2 ⟨j, by simpa using j1, j2, j3⟩
   split
   ·rw [Nat.testBit_or, this]; rfl
   ·exact this
theorem used_clash {n : Nat} {c : List Int} {u : List Nat} {a b i x : Nat} (h : UsedOk es n c u) (he : es.getD i (0, 0) = ((a : Int), (b : Int))) (ha : a < n) (hb : b < n) : (u.getD a 0 ||| u.getD b 0).testBit x = clashB es c i (x : Int) := by
 obtain ⟨_, h2⟩ := h
 rw [Bool.eq_iff_iff, clashB_iff, Nat.testBit_or, Bool.or_eq_true, (h2 a ha).2, (h2 b hb).2]
 have hon : ∀ z : Int, on (es.getD i (0, 0)) z = true ↔ (a : Int) = z ∨ (b : Int) = z := fun z => by
  rw [he]; unfold on; simp only [Bool.or_eq_true, beq_iff_eq]
 constructor
 ·rintro (⟨j, j1, j2, j3⟩ | ⟨j, j1, j2, j3⟩)
  ·exact ⟨j, j1, j2, a, j3, (hon a).2 (.inl rfl)⟩
  ·exact ⟨j, j1, j2, b, j3, (hon b).2 (.inr rfl)⟩
 ·rintro ⟨j, j1, j2, z, z1, z2⟩
  rcases (hon z).1 z2 with rfl | rfl
  ·exact .inl ⟨j, j1, j2, z1⟩
  ·exact .inr ⟨j, j1, j2, z1⟩

section
variable {n : Int} {H0 : AHeap} {pb cb ub : Nat} {tP : TypeId} {qE fV : Value} {u : List Nat}
theorem give_ok {i x : Nat} (hg : IsG n es) (he : Edges H0 v es) (h0 : H0.le G) (hcb : H0.length ≤ cb) (hub : H0.length ≤ ub) (hne : cb ≠ ub) (hp1 : pb ≠ cb) (hp2 : pb ≠ ub) (oP : Own G pb tP [.int .i64 n, v, qE, .slice (some ⟨cb, 0, none⟩) es.length (es.length + 1), .slice (some ⟨ub, 0, none⟩) n.toNat (n.toNat + 1), fV])
    (oc : Own G cb 2 (LI c)) (ou : Own G ub 81 (LU u)) (hcl : c.length = es.length) (hul : u.length = n.toNat) (hu64 : ∀ w, w < n.toNat → u.getD w 0 < 2 ^ 64) (hi : i < es.length) (hx : x < 64)
    (k : ∀ G', Two cb ub G G' → Own G' cb 2 (LI (c.set i (x : Int))) → Own G' ub 81 (LU (orAt (orAt u (es.getD i (0, 0)).1.toNat x) (es.getD i (0, 0)).2.toNat x)) → K (.tuple ⟨[]⟩) G') :
    AC Tryz.prog T0 212 [.pointer (some ⟨pb, 0, none⟩), .int .i64 (i : Nat), .int .i64 (x : Nat)] G K := by
  obtain ⟨d1, d2, d3, d4, d5⟩ := hg.ed.ends es[i] (List.getElem_mem hi)
  rw [← getD_of (d := (0, 0)) hi] at d1 d2 d3 d4 d5
  have px : 2 ^ x < 2 ^ 64 := Nat.pow_lt_pow_right (by decide) hx
  apply F212.ac
  unfold F212.B7
  refine nilK_mk (asP_mk (ld1_own oP rfl (own_idx (by omega) (by omega) (stK_1 oc (by simp; omega) rfl fun G1 b1 oc1 => ?_))))
  rw [Int.toNat_natCast, ← List.map_set] at oc1
  have t1 : Two cb ub G G1 := .butC b1
  have oP1 := b1.own oP hp1
  have ou1 := b1.own ou (fun e => hne e.symm)
  unfold F212.B6
  obtain ⟨bb, oo, hk, c1, c2⟩ := (he.le (t1.base h0 hcb hub)).idx (show (0 : Int) ≤ i by omega) (by omega)
  simp only [Int.toNat_natCast] at c1 c2
  refine nilK_mk (asP_mk (ld1_own oP1 rfl (hk _ (ldI_mk c1 (ldI_mk c2 ?_)))))
  unfold F212.L1
  refine ⟨fun x0 x2 x22a x22b x23 G' => .pointer (some ⟨pb, 0, none⟩) = x0 ∧ ((x : Nat) : Int) = x2 ∧ (es.getD i (0, 0)).1 = x22a ∧ (es.getD i (0, 0)).2 = x22b ∧ Two cb ub G G' ∧ Own G' pb tP [.int .i64 n, v, qE, .slice (some ⟨cb, 0, none⟩) es.length (es.length + 1), .slice (some ⟨ub, 0, none⟩) n.toNat (n.toNat + 1), fV] ∧ Own G' cb 2 (LI (c.set i (x : Int))) ∧ ∃ (t : Nat) (u' : List Nat), x23 = t ∧ t ≤ 2 ∧ Own G' ub 81 (LU u') ∧ u'.length = n.toNat ∧ (∀ w, w < n.toNat → u'.getD w 0 < 2 ^ 64) ∧ u' = (if t = 0 then u else if t = 1 then orAt u (es.getD i (0, 0)).1.toNat x else orAt (orAt u (es.getD i (0, 0)).1.toNat x) (es.getD i (0, 0)).2.toNat x),
    fun _ _ _ _ x23 _ => 2 - x23.toNat, ⟨rfl, rfl, rfl, rfl, t1, oP1, oc1, 0, u, rfl, by omega, ou1, hul, hu64, rfl⟩, ?_⟩
  rintro x0 x2 x22a x22b x23 G2 ⟨rfl, rfl, rfl, rfl, t2, oP2, oc2, t, u', rfl, ht, ou2, hul', hu64', hue⟩
  unfold F212.B5
  refine pif_cases (fun hb => ?_) fun hb => ?_
  · have ht2 : t < 2 := by have := of_decide_eq_true hb; omega
    have hw : ∃ w : Nat, ([.int .i64 (es.getD i (0, 0)).1, .int .i64 (es.getD i (0, 0)).2] : List Value)[(t : Int).toNat * 1]? = some (.int .i64 (w : Nat)) ∧ w < n.toNat ∧ (t = 0 → w = (es.getD i (0, 0)).1.toNat) ∧ (t = 1 → w = (es.getD i (0, 0)).2.toNat) := by
      rcases (by omega : t = 0 ∨ t = 1) with rfl | rfl
      · exact ⟨(es.getD i (0, 0)).1.toNat, by rw [Int.toNat_of_nonneg d1]; rfl, by omega, fun _ => rfl, fun h => by omega⟩
      · exact ⟨(es.getD i (0, 0)).2.toNat, by rw [Int.toNat_of_nonneg d3]; rfl, by omega, fun h => by omega, fun _ => rfl⟩
    obtain ⟨w, hat, hwn, w0, w1⟩ := hw
    have huw := hu64' w hwn
    unfold F212.B4
    refine bndK_iff.2 ⟨by omega, by omega, ?_⟩
    unfold atK
    rw [hat]
    refine asI_mk ?_
    unfold F212.B3
    refine nilK_mk (asP_mk (ld1_own oP2 rfl (own_idx (by omega) (by omega) (ldI_own ou2 (by rw [Int.toNat_natCast]; exact LUget2 (by omega)) ⟨by omega, own_idx (by omega) (by omega) (stK_1 ou2 (by simp; omega) rfl fun G3 b3 o3 => ?_)⟩))))
    rw [one_shl (by omega) (by omega), Int.toNat_natCast, Int.toNat_natCast, bits_or huw px, show (Value.int .u64 (((u'.getD w 0 ||| 2 ^ x : Nat)) : Int)) = (fun z : Nat => Value.int .u64 (z : Int)) (u'.getD w 0 ||| 2 ^ x) from rfl, ← List.map_set] at o3
    unfold F212.B2
    rw [wrap_id (by omega) (by omega)]
    refine ⟨⟨rfl, rfl, rfl, rfl, t2.trans (.butU b3), b3.own oP2 hp2, b3.own oc2 hne, t + 1, _, by omega, by omega, o3, by simpa using hul', fun w' hw' => ?_, ?_⟩, by simp; omega⟩
    · by_cases e : w = w'
      · subst e; rw [getN_set_self (by omega)]; exact or_lt huw px
      · rw [getN_set_ne e]; exact hu64' w' hw'
    · rcases (by omega : t = 0 ∨ t = 1) with rfl | rfl
      · rw [if_neg (by omega), if_pos rfl, hue, if_pos rfl, w0 rfl]; rfl
      · rw [if_neg (by omega), if_neg (by omega), hue, if_neg (by omega), if_pos rfl, w1 rfl]; rfl
  · have ht2 : t = 2 := by have := of_decide_eq_false hb; omega
    subst ht2
    rw [if_neg (by omega), if_neg (by omega)] at hue
    rw [hue] at ou2
    exact k G2 t2 oc2 ou2
theorem take_ok {i x : Nat} (hg : IsG n es) (he : Edges H0 v es) (h0 : H0.le G) (hcb : H0.length ≤ cb) (hub : H0.length ≤ ub) (hne : cb ≠ ub) (hp1 : pb ≠ cb) (hp2 : pb ≠ ub) (oP : Own G pb tP [.int .i64 n, v, qE, .slice (some ⟨cb, 0, none⟩) es.length (es.length + 1), .slice (some ⟨ub, 0, none⟩) n.toNat (n.toNat + 1), fV])
    (oc : Own G cb 2 (LI c)) (ou : Own G ub 81 (LU u)) (hcl : c.length = es.length) (hul : u.length = n.toNat) (hu64 : ∀ w, w < n.toNat → u.getD w 0 < 2 ^ 64) (hi : i < es.length) (hx : x < 64) (hcx : c.getD i 0 = (x : Int))
    (k : ∀ G', Two cb ub G G' → Own G' cb 2 (LI (c.set i (-1))) → Own G' ub 81 (LU (offAtU (offAtU u (es.getD i (0, 0)).1.toNat x) (es.getD i (0, 0)).2.toNat x)) → K (.tuple ⟨[]⟩) G') :
    AC Tryz.prog T0 227 [.pointer (some ⟨pb, 0, none⟩), .int .i64 (i : Nat)] G K := by
  obtain ⟨d1, d2, d3, d4, d5⟩ := hg.ed.ends es[i] (List.getElem_mem hi)
  rw [← getD_of (d := (0, 0)) hi] at d1 d2 d3 d4 d5
  have px : 2 ^ x < 2 ^ 64 := Nat.pow_lt_pow_right (by decide) hx
  have oi := own_ints (c := es.length + 1) oc
  rw [hcl] at oi
  apply F227.ac
  unfold F227.B7
  obtain ⟨bb, oo, hk, c1, c2⟩ := (he.le h0).idx (show (0 : Int) ≤ i by omega) (by omega)
  simp only [Int.toNat_natCast] at c1 c2
  refine nilK_mk (asP_mk (ld1_own oP rfl (hk _ (ldI_mk c1 (ldI_mk c2 ?_)))))
  unfold F227.L2
  refine ⟨fun x0 x1 x13a x13b x14 G' => .pointer (some ⟨pb, 0, none⟩) = x0 ∧ ((i : Nat) : Int) = x1 ∧ (es.getD i (0, 0)).1 = x13a ∧ (es.getD i (0, 0)).2 = x13b ∧ Two cb ub G G' ∧ Own G' pb tP [.int .i64 n, v, qE, .slice (some ⟨cb, 0, none⟩) es.length (es.length + 1), .slice (some ⟨ub, 0, none⟩) n.toNat (n.toNat + 1), fV] ∧ Own G' cb 2 (LI c) ∧ ∃ (t : Nat) (u' : List Nat), x14 = t ∧ t ≤ 2 ∧ Own G' ub 81 (LU u') ∧ u'.length = n.toNat ∧ (∀ w, w < n.toNat → u'.getD w 0 < 2 ^ 64) ∧ u' = (if t = 0 then u else if t = 1 then offAtU u (es.getD i (0, 0)).1.toNat x else offAtU (offAtU u (es.getD i (0, 0)).1.toNat x) (es.getD i (0, 0)).2.toNat x),
    fun _ _ _ _ x14 _ => 2 - x14.toNat, ⟨rfl, rfl, rfl, rfl, .le (AHeap.le_refl _), oP, oc, 0, u, rfl, by omega, ou, hul, hu64, rfl⟩, ?_⟩
  clear oi
  rintro x0 x1 x13a x13b x14 G2 ⟨rfl, rfl, rfl, rfl, t2, oP2, oc2, t, u', rfl, ht, ou2, hul', hu64', hue⟩
  have oi := own_ints (c := es.length + 1) oc2
  rw [hcl] at oi
  unfold F227.B6
  refine pif_cases (fun hb => ?_) fun hb => ?_
  · have ht2 : t < 2 := by have := of_decide_eq_true hb; omega
    have hw : ∃ w : Nat, ([.int .i64 (es.getD i (0, 0)).1, .int .i64 (es.getD i (0, 0)).2] : List Value)[(t : Int).toNat * 1]? = some (.int .i64 (w : Nat)) ∧ w < n.toNat ∧ (t = 0 → w = (es.getD i (0, 0)).1.toNat) ∧ (t = 1 → w = (es.getD i (0, 0)).2.toNat) := by
      rcases (by omega : t = 0 ∨ t = 1) with rfl | rfl
      · exact ⟨(es.getD i (0, 0)).1.toNat, by rw [Int.toNat_of_nonneg d1]; rfl, by omega, fun _ => rfl, fun h => by omega⟩
      · exact ⟨(es.getD i (0, 0)).2.toNat, by rw [Int.toNat_of_nonneg d3]; rfl, by omega, fun h => by omega, fun _ => rfl⟩
    obtain ⟨w, hat, hwn, w0, w1⟩ := hw
    have huw := hu64' w hwn
    unfold F227.B5
    refine bndK_iff.2 ⟨by omega, by omega, ?_⟩
    unfold atK
    rw [hat]
    refine asI_mk ?_
    unfold F227.B4
    refine nilK_mk (asP_mk (ld1_own oP2 rfl (own_idx (by omega) (by omega) (ldI_own ou2 (by rw [Int.toNat_natCast]; exact LUget2 (by omega)) (nilK_mk (asP_mk (ld1_own oP2 rfl (oi.rd (by omega) (by omega) ?_))))))))
    rw [Int.toNat_natCast, hcx]
    refine ⟨by omega, own_idx (by omega) (by omega) (stK_1 ou2 (by simp; omega) rfl fun G3 b3 o3 => ?_)⟩
    have band : IntKind.u64.wrap ((BitVec.ofInt 64 ((u'.getD w 0 : Nat) : Int) &&& ~~~(BitVec.ofInt 64 ((2 ^ x : Nat) : Int))).toNat : Int) = ((u'.getD w 0 &&& (2 ^ 64 - (2 ^ x + 1)) : Nat) : Int) := by
      have hs' : u'.getD w 0 &&& (2 ^ 64 - (2 ^ x + 1)) < 2 ^ 64 := Nat.lt_of_le_of_lt Nat.and_le_left huw
      rw [bv_nat, bv_nat, BitVec.toNat_and, BitVec.toNat_not, BitVec.toNat_ofNat, BitVec.toNat_ofNat, Nat.mod_eq_of_lt huw, Nat.mod_eq_of_lt px, show 2 ^ 64 - 1 - 2 ^ x = 2 ^ 64 - (2 ^ x + 1) by omega, u64_nat hs']
    rw [one_shl (by omega) (by omega), Int.toNat_natCast, Int.toNat_natCast, band, show (Value.int .u64 (((u'.getD w 0 &&& (2 ^ 64 - (2 ^ x + 1)) : Nat)) : Int)) = (fun z : Nat => Value.int .u64 (z : Int)) (u'.getD w 0 &&& (2 ^ 64 - (2 ^ x + 1))) from rfl, ← List.map_set] at o3
    unfold F227.B3
    rw [wrap_id (by omega) (by omega)]
    refine ⟨⟨rfl, rfl, rfl, rfl, t2.trans (.butU b3), b3.own oP2 hp2, b3.own oc2 hne, t + 1, _, by omega, by omega, o3, by simpa using hul', fun w' hw' => ?_, ?_⟩, by simp; omega⟩
    · by_cases e : w = w'
      · subst e; rw [getN_set_self (by omega)]; exact Nat.lt_of_le_of_lt Nat.and_le_left huw
      · rw [getN_set_ne e]; exact hu64' w' hw'
    · rcases (by omega : t = 0 ∨ t = 1) with rfl | rfl
      · rw [if_neg (by omega), if_pos rfl, hue, if_pos rfl, w0 rfl]; rfl
      · rw [if_neg (by omega), if_neg (by omega), hue, if_neg (by omega), if_pos rfl, w1 rfl]; rfl
  · have ht2 : t = 2 := by have := of_decide_eq_false hb; omega
    subst ht2
    rw [if_neg (by omega), if_neg (by omega)] at hue
    rw [hue] at ou2
    unfold F227.B1
    refine nilK_mk (asP_mk (ld1_own oP2 rfl (own_idx (by omega) (by omega) (stK_1 oc2 (by simp; omega) rfl fun G3 b3 o3 => ?_))))
    rw [Int.toNat_natCast, ← List.map_set] at o3
    exact k G3 (t2.trans (.butC b3)) o3 (b3.own ou2 (fun e => hne e.symm))
end
end Go.Proofs
namespace Go.Proofs
open Go.Abs

variable {H G : AHeap} {v u f : Value} {l m c D : List Int} {es fs : List (Int × Int)} {K : Value → AHeap → Prop}

noncomputable def ptL (es : List (Int × Int)) : List Int → List Int → List (List Int)
 | [], c => [c]
 | i :: E, c => if c.getD i.toNat 0 = -1 then (List.range 3).flatMap fun x : Nat => if clashB es c i.toNat (x : Int) then [] else ptL es E (c.set i.toNat (x : Int)) else ptL es E c
noncomputable def ptTo (es : List (Int × Int)) (E : List Int) (i : Nat) (c : List Int) (t : Nat) : List (List Int) := (List.range t).flatMap fun x : Nat => if clashB es c i (x : Int) then [] else ptL es E (c.set i (x : Int))
theorem ptL_cons {i : Nat} {E c : List Int} (h : c.getD i 0 = -1) : ptL es ((i : Int) :: E) c = ptTo es E i c 3 := by
 rw [ptL, Int.toNat_natCast, if_pos h]; rfl
theorem ptL_skip {i : Nat} {E c : List Int} (h : c.getD i 0 ≠ -1) : ptL es ((i : Int) :: E) c = ptL es E c := by
 rw [ptL, Int.toNat_natCast, if_neg h]
theorem ptTo_succ {E : List Int} {i : Nat} {c : List Int} (t : Nat) : ptTo es E i c (t + 1) = ptTo es E i c t ++ if clashB es c i (t : Int) then [] else ptL es E (c.set i (t : Int)) := by
 unfold ptTo
 rw [List.range_succ, List.flatMap_append]
 simp
theorem ptTo_le {E : List Int} {i : Nat} {c : List Int} {t s : Nat} (h : t ≤ s) : (ptTo es E i c t).length ≤ (ptTo es E i c s).length := by
 obtain ⟨d, rfl⟩ : ∃ d, s = t + d := ⟨s - t, by omega⟩
 clear h
 induction d with
 | zero => exact Nat.le_refl _
 | succ d ih =>
  rw [← Nat.add_assoc, ptTo_succ, List.length_append]; omega
structure Fnd (X : Nat → Prop) (G G' : AHeap) : Prop where
 len : G.length ≤ G'.length
 old : ∀ (b : Nat) (o : AObj), ¬ X b → G[b]? = some (some o) → G'[b]? = some (some o)
theorem Fnd.refl {X : Nat → Prop} : Fnd X G G := ⟨Nat.le_refl _, fun _ _ _ h => h⟩
theorem Fnd.le {X : Nat → Prop} {G' : AHeap} (h : G.le G') : Fnd X G G' := ⟨h.1, fun b o _ ho => h.2 b o ho⟩
theorem Fnd.trans {X : Nat → Prop} {G' G2 : AHeap} (h : Fnd X G G') (k : Fnd X G' G2) : Fnd X G G2 := ⟨Nat.le_trans h.len k.len, fun b o hb ho => k.old b o hb (h.old b o hb ho)⟩
theorem Fnd.own {X : Nat → Prop} {G' : AHeap} {b : Nat} {t : TypeId} {cs : List Value} (h : Fnd X G G') (o : Own G b t cs) (hb : ¬ X b) : Own G' b t cs := h.old b _ hb o
theorem Fnd.base {X : Nat → Prop} {H0 G' : AHeap} (h : Fnd X G G') (h0 : H0.le G) (hX : ∀ b, b < H0.length → ¬ X b) : H0.le G' := ⟨Nat.le_trans h0.1 h.len, fun b o ho => h.old b o (hX b (lt_of_get ho)) (h0.2 b o ho)⟩
theorem Two.fnd {X : Nat → Prop} {cb ub : Nat} {G G4 G5 G6 : AHeap} {tc tu : TypeId} {xs ys : List Value} (h1 : Two cb ub G G4) (h2 : Fnd X G4 G5) (h3 : Two cb ub G5 G6) (c1 : Own G cb tc xs) (c2 : Own G6 cb tc xs) (u1 : Own G ub tu ys) (u2 : Own G6 ub tu ys) : Fnd X G G6 := by
 refine ⟨Nat.le_trans h1.len (Nat.le_trans h2.len h3.len), fun b o hX ho => ?_⟩
 by_cases e1 : b = cb
 ·subst e1
  have := c1.symm.trans ho
  rw [← Option.some.inj (Option.some.inj this)]; exact c2
 ·by_cases e2 : b = ub
  ·subst e2
   have := u1.symm.trans ho
   rw [← Option.some.inj (Option.some.inj this)]; exact u2
  ·exact h3.old b o e1 e2 (h2.old b o hX (h1.old b o e1 e2 ho))
section
variable {n : Int} {H0 : AHeap} {pb cb ub : Nat} {tP : TypeId} {qE fV : Value} {X : Nat → Prop} {J : List (List Int) → AHeap → Prop} {q : List Int → Bool} {N Bd : Nat}
structure Caller (es : List (Int × Int)) (H0 : AHeap) (pb cb ub : Nat) (fV : Value) (X : Nat → Prop) (Bd : Nat) (J : List (List Int) → AHeap → Prop) (q : List Int → Bool) (N : Nat) : Prop where
 x0 : ∀ b, b < H0.length → ¬ X b
 xp : ¬ X pb
 xc : ¬ X cb
 xu : ¬ X ub
 xb : ∀ b, X b → b < Bd
 st : ∀ done (G G' : AHeap), J done G → Two cb ub G G' → J done G'
 call : ∀ done c' (G : AHeap), H0.le G → Own G cb 2 (LI c') → c'.length = es.length → J done G → done.length < N → ∀ K : Value → AHeap → Prop, (∀ G', Fnd X G G' → J (done ++ [c']) G' → K (.bool (q c')) G') → callV Tryz.prog T0 fV [.slice (some ⟨cb, 0, none⟩) es.length (es.length + 1)] G K
theorem paintG_ok {E : List Int} (hC : Caller es H0 pb cb ub fV X Bd J q N) (hg : IsG n es) (he : Edges H0 v es) (hE : Ints H0 qE E) (hEl : E.length ≤ 1000) (hEr : ∀ x ∈ E, 0 ≤ x ∧ x < es.length) (hcb : H0.length ≤ cb) (hub : H0.length ≤ ub) (hne : cb ≠ ub) (hp1 : pb ≠ cb) (hp2 : pb ≠ ub) :
    ∀ (r k : Nat) (c : List Int) (u : List Nat) (done : List (List Int)) (G : AHeap) (K : Value → AHeap → Prop), E.length ≤ k + r → k ≤ E.length → H0.le G → Bd ≤ G.length → Own G pb tP [.int .i64 n, v, qE, .slice (some ⟨cb, 0, none⟩) es.length (es.length + 1), .slice (some ⟨ub, 0, none⟩) n.toNat (n.toNat + 1), fV] →
      Own G cb 2 (LI c) → Own G ub 81 (LU u) → c.length = es.length → UsedOk es n.toNat c u → J done G → done.length + (ptL es (E.drop k) c).length ≤ N → (∀ G', Fnd X G G' → J (done ++ upTo q (ptL es (E.drop k) c)) G' → K (.bool ((ptL es (E.drop k) c).any q)) G') →
      AC Tryz.prog T0 213 [.pointer (some ⟨pb, 0, none⟩), .int .i64 (k : Nat)] G K := by
  have n0 := hg.ed.lo; have n1 := hg.ed.hi
  have h30 : es.length ≤ 30 := by have := hg.ed.len; omega
  intro r
  induction r with
  | zero | succ r ih =>
    intro k0 c u done G K hkr hk0 h0 hBd oP oc ou hcl hU hJ hN kk
    have hEG := hE.le h0
    have oi := own_ints (c := es.length + 1) oc
    rw [hcl] at oi
    apply F213.ac
    unfold F213.B20 F213.L17
    refine ⟨fun x0 x1 G' => .pointer (some ⟨pb, 0, none⟩) = x0 ∧ G = G' ∧ ∃ k : Nat, x1 = k ∧ k0 ≤ k ∧ k ≤ E.length ∧ ptL es (E.drop k0) c = ptL es (E.drop k) c, fun _ x1 _ => E.length - x1.toNat, ⟨rfl, rfl, k0, rfl, Nat.le_refl _, hk0, rfl⟩, ?_⟩
    rintro x0 x1 G' ⟨rfl, rfl, k, rfl, hkk, hkE, hsame⟩
    rw [hsame] at hN kk
    have leaf : k = E.length → F213.B15 K (.pointer (some ⟨pb, 0, none⟩)) G := fun hk => by
      unfold F213.B15
      rw [hk, List.drop_length] at hN kk
      have hN : done.length + 1 ≤ N := hN
      refine nilK_mk (asP_mk (ld1_own oP rfl (nilK_mk (asP_mk (ld1_own oP rfl (hC.call done c G h0 oc hcl hJ (by omega) _ fun G' hG' hJ' => asB_mk ?_))))))
      have kk := kk G' hG'
      have e : [c].any q = q c := by simp
      rw [show ptL es [] c = [c] from rfl, e] at kk
      refine kk ?_
      have e2 : upTo q [c] = [c] := by unfold upTo; cases q c <;> rfl
      rw [e2]; exact hJ'
    unfold F213.B19
    refine nilK_mk (asP_mk (ld1_own oP rfl (hEG.len (pif_cases (fun hb => ?_) fun hb => ?_))))
    rotate_left
    · have hk : k = E.length := by have := of_decide_eq_false hb; omega
      unfold F213.B16
      exact nilK_mk (asP_mk (ld1_own oP rfl (hEG.len (pif_t (by rw [beq_iff_eq]; omega) (leaf hk)))))
    have hk : k < E.length := by have := of_decide_eq_true hb; omega
    have hi := hEr _ (List.getElem_mem hk)
    obtain ⟨i, hie⟩ : ∃ i : Nat, E[k] = (i : Int) := ⟨(E[k]).toNat, by omega⟩
    have hget : E.getD k 0 = (i : Int) := by rw [getD_of hk, hie]
    rw [hie] at hi
    have hil : i < es.length := by omega
    have hdrop : E.drop k = (i : Int) :: E.drop (k + 1) := by rw [List.drop_eq_getElem_cons hk, hie]
    refine nilK_mk (asP_mk (ld1_own oP rfl (nilK_mk (asP_mk (ld1_own oP rfl (hEG.rd (by omega) (by omega) ?_))))))
    rw [Int.toNat_natCast, hget]
    refine oi.rd (by omega) (by omega) ?_
    rw [Int.toNat_natCast]
    refine pif_cases (fun hb => ?_) fun hb => ?_
    · have hci := bne_iff_ne.1 hb
      unfold F213.B18
      rw [wrap_id (by omega) (by omega)]
      refine ⟨⟨rfl, rfl, k + 1, by omega, by omega, by omega, ?_⟩, by simp; omega⟩
      rw [hsame, hdrop, ptL_skip hci]
    have hci : c.getD i 0 = -1 := bne_eq_false_iff_eq.1 hb
    unfold F213.B16
    refine nilK_mk (asP_mk (ld1_own oP rfl (hEG.len (pif_f (by rw [beq_eq_false_iff_ne]; omega) ?_))))
    unfold F213.B14
    refine nilK_mk (asP_mk (ld1_own oP rfl (hEG.rd (by omega) (by omega) ?_)))
    rw [Int.toNat_natCast, hget]
    obtain ⟨d1, d2, d3, d4, d5⟩ := hg.ed.ends es[i] (List.getElem_mem hil)
    rw [← getD_of (d := (0, 0)) hil] at d1 d2 d3 d4 d5
    obtain ⟨a, ha⟩ : ∃ a : Nat, (es.getD i (0, 0)).1 = a := ⟨(es.getD i (0, 0)).1.toNat, by omega⟩
    obtain ⟨b, hb'⟩ : ∃ b : Nat, (es.getD i (0, 0)).2 = b := ⟨(es.getD i (0, 0)).2.toNat, by omega⟩
    have hab : es.getD i (0, 0) = ((a : Int), (b : Int)) := by rw [← ha, ← hb']
    rw [hdrop, ptL_cons hci] at hN kk
    unfold F213.B13
    obtain ⟨bb, oo, hk', c1, c2⟩ := (he.le h0).idx (show (0 : Int) ≤ i by omega) (by omega)
    simp only [Int.toNat_natCast] at c1 c2
    refine nilK_mk (asP_mk (ld1_own oP rfl (hk' _ (ldI_mk c1 (ldI_mk c2 (newK_f rfl fun G1 l1 n1' o1 => stK_f o1 (by simp) (by simp [Value.oneCell']) rfl fun G2 b2 o2 => ?_))))))
    have l2 : G.le G2 := b2.le l1 (Nat.le_refl _)
    have o2 : Own G2 G.length 78 [.int .i64 (a : Nat), .int .i64 (b : Nat)] := by rw [ha, hb'] at o2; simpa using o2
    have hul := hU.1
    have hcl0 := oc.lt
    have hul0 := ou.lt
    have xG : ¬ X G.length := fun h => by have := hC.xb _ h; omega
    unfold F213.B12 F213.L2
    refine ⟨fun x0 x1 x5 x6 x65 G' => .pointer (some ⟨pb, 0, none⟩) = x0 ∧ ((k : Nat) : Int) = x1 ∧ ((i : Nat) : Int) = x5 ∧ G.length = x6 ∧ Fnd X G2 G' ∧ ∃ t : Nat, x65 = t ∧ t ≤ 3 ∧ J (done ++ ptTo es (E.drop (k + 1)) i c t) G' ∧ (ptTo es (E.drop (k + 1)) i c t).any q = false, fun _ _ _ _ x65 _ => 3 - x65.toNat,
      ⟨rfl, rfl, rfl, rfl, .refl, 0, rfl, by omega, by rw [show ptTo es (E.drop (k + 1)) i c 0 = [] from rfl, List.append_nil]; exact hC.st _ _ _ hJ (.le l2), rfl⟩, ?_⟩
    rintro x0 x1 x5 x6 x65 G3 ⟨rfl, rfl, rfl, rfl, hG3, t, rfl, ht, hJ3, hno⟩
    have fG3 := (Fnd.le (X := X) l2).trans hG3
    have h03 := fG3.base h0 hC.x0
    have oP3 := fG3.own oP hC.xp
    have oc3 := fG3.own oc hC.xc
    have ou3 := fG3.own ou hC.xu
    have o23 := hG3.own o2 xG
    have hG3l := fG3.len
    unfold F213.B11
    refine pif_cases (fun hb => ?_) fun hb => ?_
    · have ht3 : t < 3 := by have := of_decide_eq_true hb; omega
      have hua := (hU.2 a (by omega)).1
      have hub' := (hU.2 b (by omega)).1
      have hsucc := ptTo_succ (es := es) (E := E.drop (k + 1)) (i := i) (c := c) t
      have hle3 := ptTo_le (es := es) (E := E.drop (k + 1)) (i := i) (c := c) (t := t + 1) (s := 3) (by omega)
      unfold F213.B10 F213.B9
      refine nilK_mk (asP_mk (ld1_own oP3 rfl (ldI_own o23 rfl (own_idx (by omega) (by omega) (ldI_own ou3 (by rw [Int.toNat_natCast]; exact LUget2 (by omega)) (nilK_mk (asP_mk (ld1_own oP3 rfl (ldI_own o23 rfl (own_idx (by omega) (by omega) (ldI_own ou3 (by rw [Int.toNat_natCast]; exact LUget2 (by omega)) ?_)))))))))))
      rw [bits_or hua hub']
      refine has_ok (or_lt hua hub') (by omega) (asB_mk ?_)
      rw [Int.toNat_natCast, used_clash hU hab (by omega) (by omega)]
      refine pif_cases (fun hb => ?_) fun hb => ?_
      · unfold F213.B3
        rw [wrap_id (by omega) (by omega)]
        rw [hb, if_pos rfl, List.append_nil] at hsucc
        exact ⟨⟨rfl, rfl, rfl, rfl, hG3, t + 1, by omega, by omega, by rw [hsucc]; exact hJ3, by rw [hsucc]; exact hno⟩, by simp; omega⟩
      · have hcl2 := hb
        rw [hb] at hsucc
        simp only [Bool.false_eq_true, if_false] at hsucc
        unfold F213.B8
        refine give_ok (x := t) hg he h03 hcb hub hne hp1 hp2 oP3 oc3 ou3 hcl hul (fun w hw => (hU.2 w hw).1) hil (by omega) fun G4 t4 oc4 ou4 => asTup_mk ?_
        rw [ha, hb', Int.toNat_natCast, Int.toNat_natCast] at ou4
        have hU4 := hU.give (x := t) (by omega) hci hab (by omega) (by omega) (by omega) (by omega)
        have h04 := t4.base h03 hcb hub
        have oP4 : Own G4 pb tP _ := t4.old pb _ hp1 hp2 oP3
        have hJ4 := hC.st _ _ _ hJ3 t4
        have hl4 := t4.len
        unfold F213.B7
        rw [wrap_id (by omega) (by omega), show ((k : Nat) : Int) + 1 = ((k + 1 : Nat) : Int) by omega]
        first
        | (exfalso; omega)
        | (refine ih (k + 1) (c.set i (t : Int)) _ _ G4 _ (by omega) (by omega) h04 (by omega) oP4 oc4 ou4 (by simpa using hcl) hU4 hJ4 (by
             rw [hsucc, List.length_append] at hle3
             rw [List.length_append]; omega) fun G5 f5 hJ5 => asB_mk ?_
           have oP5 := f5.own oP4 hC.xp
           have oc5 := f5.own oc4 hC.xc
           have ou5 := f5.own ou4 hC.xu
           have h05 := f5.base h04 hC.x0
           unfold F213.B6
           refine take_ok (x := t) hg he h05 hcb hub hne hp1 hp2 oP5 oc5 ou5 (by simpa using hcl) hU4.1 (fun w hw => (hU4.2 w hw).1) hil (by omega) (getD_set_self (by omega)) fun G6 t6 oc6 ou6 => asTup_mk ?_
           have hback : (c.set i (t : Int)).set i (-1) = c := by
             rw [List.set_set, ← hci, getD_of (by omega : i < c.length)]; exact List.set_getElem_self _
           rw [hback] at oc6
           have hbit := used_clash (x := t) hU hab (by omega) (by omega)
           rw [hcl2, Nat.testBit_or, Bool.or_eq_false_iff] at hbit
           rw [ha, hb', Int.toNat_natCast, Int.toNat_natCast, give_take (by omega) (by omega) (by omega) (by omega) hua hub' hbit.1 hbit.2] at ou6
           have f36 : Fnd X G3 G6 := Two.fnd t4 f5 t6 oc3 oc6 ou3 ou6
           have hJ6 := hC.st _ _ _ hJ5 t6
           rw [List.append_assoc] at hJ6
           unfold F213.B5
           refine pif_cases (fun hb => ?_) fun hb => ?_
           · unfold F213.B4
             have kk := kk G6 (fG3.trans f36)
             have e3 : ptTo es (E.drop (k + 1)) i c 3 = ptTo es (E.drop (k + 1)) i c t ++ (ptL es (E.drop (k + 1)) (c.set i (t : Int)) ++ (ptTo es (E.drop (k + 1)) i c 3).drop (ptTo es (E.drop (k + 1)) i c (t + 1)).length) := by
               rw [← List.append_assoc, ← hsucc]
               have pre : ∀ s, t + 1 ≤ s → ∃ R, ptTo es (E.drop (k + 1)) i c s = ptTo es (E.drop (k + 1)) i c (t + 1) ++ R := by
                 intro s hs
                 induction s with
                 | zero => omega
                 | succ s ihs =>
                   by_cases es' : s = t
                   · subst es'; exact ⟨[], by simp⟩
                   · obtain ⟨R, hR⟩ := ihs (by omega)
                     exact ⟨_, by rw [ptTo_succ, hR, List.append_assoc]⟩
               obtain ⟨R, hR⟩ := pre 3 (by omega)
               rw [hR, List.drop_left]
             have hany : (ptTo es (E.drop (k + 1)) i c 3).any q = true := by
               rw [e3, List.any_append, List.any_append, hb]; simp
             have hup : upTo q (ptTo es (E.drop (k + 1)) i c 3) = ptTo es (E.drop (k + 1)) i c t ++ upTo q (ptL es (E.drop (k + 1)) (c.set i (t : Int))) := by
               rw [e3, upTo_app hno, upTo_stop hb]
             rw [hany, hup] at kk
             exact kk hJ6
           · rw [upTo_all hb] at hJ6
             unfold F213.B3
             rw [wrap_id (by omega) (by omega)]
             exact ⟨⟨rfl, rfl, rfl, rfl, hG3.trans f36, t + 1, by omega, by omega, by rw [hsucc]; exact hJ6, by rw [hsucc, List.any_append, hno, hb]; rfl⟩, by simp; omega⟩)
    · have ht3 : t = 3 := by have := of_decide_eq_false hb; omega
      subst ht3
      unfold F213.B1
      have kk := kk G3 fG3
      rw [hno, upTo_all hno] at kk
      exact kk hJ3
end
end Go.Proofs
namespace Go.Proofs
open Go.Abs

variable {H : AHeap} {v u f : Value} {l m c : List Int} {es fs : List (Int × Int)} {K : Value → AHeap → Prop}

theorem ints_cells (h : Ints H v l) : cellsAt H v 1 l.length (LI l) := by
 refine ⟨by simp, ?_⟩
 rcases h with ⟨rfl, rfl⟩ | ⟨a, c, rfl, h⟩
 ·exact ⟨none, 0, rfl, .inl rfl⟩
 ·refine ⟨some a, c, rfl, ?_⟩
  rcases h with rfl | ⟨h1, h2⟩
  ·exact .inl rfl
  ·refine .inr ⟨a.block, a.off, ?_, fun i u hu => ?_⟩
   ·cases a; cases h1; rfl
   ·rw [List.getElem?_map] at hu
    cases hx : l[i]? with
    | none => rw [hx] at hu; cases hu
    | some x => rw [hx] at hu; cases hu; exact h2 i x hx
theorem own_app (h : Ints H v l) (hl : l.length ≤ 4294967296) (k : ∀ v' G, H.le G → Fresh H.length G v' 2 1 (LI l) → K v' G) :
    newK H [] 2 (fun b1 H2 => apK T0 2 H2 (.slice (some ⟨b1, 0, none⟩) 0 (0 + 1)) v K) := by
  refine newK_f rfl fun H2 l2 n2 o2 => ?_
  have f2 : Fresh H.length H2 (.slice (some ⟨H.length, 0, none⟩) 0 (0 + 1)) 2 1 [] := .inr ⟨_, 0, Nat.le_refl _, rfl, o2, rfl⟩
  refine f2.sl.app E_int (by decide) l2.1 (ints_cells (h.le l2)) (by simpa using hl) (fun h0 => ?_) fun v' G k3 _ _ f3 => ?_
  · exact k _ _ l2 (by rw [h0]; exact f2)
  · exact k _ _ (k3.le l2 (Nat.le_refl _)) f3
theorem l01Own_ok (h : Ints H v l) (hl : l.length ≤ 4294967296) (k : ∀ v' G, H.le G → Fresh H.length G v' 2 1 (LI l) → K v' G) : AC Tryz.prog T0 138 [v] H K := by
 apply F138.ac
 unfold F138.B2 F138.B1
 exact own_app h hl k
theorem clone_ok (h : Ints H v l) (hl : l.length ≤ 4294967296) (k : ∀ v' G, H.le G → Fresh H.length G v' 2 1 (LI l) → K v' G) : AC Tryz.prog T0 174 [v] H K := by
 apply F174.ac
 unfold F174.B4 F174.B3
 rcases h with ⟨rfl, rfl⟩ | ⟨a, c, rfl, h⟩
 ·show F174.B2 K H
  unfold F174.B2
  exact k _ _ (AHeap.le_refl _) (.inl ⟨rfl, .inl rfl⟩)
 ·show F174.B1 K _ H
  unfold F174.B1
  exact own_app (.inr ⟨a, c, rfl, h⟩) hl k

def BolQ (b0 N : Nat) (X : (Nat → Bool) → List Nat → Prop) (q : Value) (i : Int) (G : AHeap) : Prop :=
 ∃ (S : List Bool) (L : List Nat) (k : Nat), i = (k : Int) ∧ k ≤ L.length ∧ S.length = N ∧ Own G b0 4 (LB S) ∧ X (fun j => S.getD j false) (L.drop k) ∧ L.length + unseen (fun j => S.getD j false) N ≤ N + 1 ∧ Sl (b0 + 1) G q 2 1 (LI (NI L))
theorem l02Chain_ok {n b : Int} {e : Nat} (h : Edges H v es) (hg : IsG n es) (hc : Ints H u c) (hcl : c.length = es.length) (he : e < es.length)
    (k : ∀ b0 (S : List Bool) G, H.le G → Own G b0 4 (LB S) → H.length ≤ b0 → S.length = es.length → (∀ j, S.getD j false = true ↔ Rch (eAdj es (chP c e b)) e j) → K (.slice (some ⟨b0, 0, none⟩) es.length (es.length + 1)) G) :
    AC Tryz.prog T0 131 [.agg ⟨[.int .i64 n, v]⟩, u, .int .i64 (e : Nat), .int .i64 b] H K := by
  have h30 : es.length ≤ 30 := by have := hg.ed.len; have := hg.ed.hi; omega
  apply F131.ac
  unfold F131.B21
  refine newK_f (all_iv (edges_one' h)) fun H1 l1 n1 o1 => ?_
  unfold F131.B20
  refine (hc.le l1).len (mkR_int (by omega) (by omega) (by decide) fun H2 l2 n2 o2 => newK_f rfl fun H3 l3 n3 o3 => ?_)
  rw [Int.toNat_natCast, hcl] at o2
  rw [Int.toNat_natCast, hcl]
  rw [rep_b] at o2
  unfold F131.B19
  refine own_idx (by omega) (by omega) (stK_1 (o2.le l3) (by simp; omega) rfl fun H4 b4 o4 => ?_)
  have l4 : H1.le H4 := b4.le (AHeap.le_trans l2 l3) (Nat.le_refl _)
  have q4 : Sl (H1.length + 1) H4 (.slice (some ⟨H2.length, 0, none⟩) 1 (1 + 1)) 2 1 (LI (NI [e])) := Sl.but (Fresh.sl (.inr ⟨_, 1, by omega, rfl, o3, rfl⟩)) b4 (by omega)
  have s4 : ∀ x, ((List.replicate es.length false).set e true).getD x false = true ↔ x = e := by
    intro x
    rw [setB (by simpa using he)]
    unfold insB
    simp only [List.getD, List.getElem?_replicate]
    split <;> simp [eq_comm]
  have u4 := unseen_le (fun j => ((List.replicate es.length false).set e true).getD j false) es.length
  unfold F131.B18 F131.L2
  refine ⟨fun x1 x2 x3 x4 x9 x10 x11 G => u = x1 ∧ (e : Int) = x2 ∧ b = x3 ∧ H.length = x4 ∧ .slice (some ⟨H1.length, 0, none⟩) es.length (es.length + 1) = x9 ∧ H1.le G ∧ BolQ H1.length es.length (fun S Q => Ex (eAdj es (chP c e b)) e S Q ∧ ∀ y, S y = true → y < es.length) x10 x11 G,
    fun _ _ _ _ _ _ x11 _ => es.length + 1 - x11.toNat, ⟨rfl, rfl, rfl, rfl, rfl, l4, (List.replicate es.length false).set e true, [e], 0, rfl, by simp, by simp, by simpa using o4, ⟨.init s4, fun y hy => by have := (s4 y).1 hy; omega⟩, by simp only [List.length_singleton]; omega, q4⟩, ?_⟩
  rintro x1 x2 x3 x4 x9 x10 x11 G ⟨rfl, rfl, rfl, rfl, rfl, hG, S, L, i0, rfl, hi0, hS, oS, ⟨hE, hB⟩, hU, hQ⟩
  have lG := AHeap.le_trans l1 hG
  have oG := o1.le hG
  unfold F131.B17
  refine hQ.len (by decide) (n := L.length) (by simp) (pif_cases (fun hb => ?_) fun hb => ?_)
  · have hlt : i0 < L.length := by have := of_decide_eq_true hb; omega
    have hdr : L.drop i0 = L[i0] :: L.drop (i0 + 1) := List.drop_eq_getElem_cons hlt
    obtain ⟨x, hx⟩ : ∃ x, L[i0] = x := ⟨_, rfl⟩
    rw [hdr, hx] at hE
    have hxl : x < es.length := hB x (hE.q x (by simp))
    obtain ⟨d1, d2, d3, d4, d5⟩ := hg.ed.ends es[x] (List.getElem_mem hxl)
    rw [← getD_of (d := (0, 0)) hxl] at d1 d2 d3 d4 d5
    obtain ⟨M, hM⟩ : ∃ M, M = 2 * unseen (fun j => S.getD j false) es.length + ((L.drop (i0 + 1)).length + 1) := ⟨_, rfl⟩
    unfold F131.B16 F131.L4
    refine ⟨fun x1 x2 x3 x4 x9 x10 x11 x12 G => u = x1 ∧ (e : Int) = x2 ∧ b = x3 ∧ H.length = x4 ∧ .slice (some ⟨H1.length, 0, none⟩) es.length (es.length + 1) = x9 ∧ H1.le G ∧ (i0 : Int) = x11 ∧ ∃ m : Nat, x12 = m ∧ m ≤ 2 ∧ BolQ H1.length es.length (fun S Q' => ∃ R, Q' = x :: R ∧ InX es (chP c e b) e x M (PastE es (chP c e b) x m) S R) x10 x11 G,
      fun _ _ _ _ _ _ _ x12 _ => 2 - x12.toNat, ⟨rfl, rfl, rfl, rfl, rfl, hG, rfl, 0, rfl, by omega, S, L, i0, rfl, hi0, hS, oS, ⟨_, by rw [hdr, hx], hE, hB, Nat.le_of_eq hM.symm, fun j ⟨_, _, m', h, _⟩ => absurd h (by omega)⟩, hU, hQ⟩, ?_⟩
    clear hQ hE hB hG oG lG hU oS hdr hi0 hlt hM hS hx
    rintro x1 x2 x3 x4 x9 x10' x11 x12 G ⟨rfl, rfl, rfl, rfl, rfl, hG, rfl, m, rfl, hm, S', L', i', hi', hil, hS, oS, ⟨R, hdr, hX⟩, hU, hQ⟩
    obtain rfl : i0 = i' := by omega
    have lG := AHeap.le_trans l1 hG
    have oG := o1.le hG
    have hlt : i0 < L'.length := by
      rcases Nat.lt_or_ge i0 L'.length with h | h
      · exact h
      · rw [List.drop_of_length_le h] at hdr; cases hdr
    have hx : L'[i0] = x := by
      have := List.drop_eq_getElem_cons hlt
      rw [hdr] at this
      exact (List.cons.inj this).1.symm
    unfold F131.B15
    refine pif_cases (fun hb => ?_) fun hb => ?_
    · have hm2 : m < 2 := by have := of_decide_eq_true hb; omega
      unfold F131.B14
      obtain ⟨bb, oo, hk, c1, c2⟩ := (h.le lG).idx (show (0 : Int) ≤ x by omega) (by omega)
      simp only [Int.toNat_natCast] at c1 c2
      refine ldI_own oG rfl (ld1_own oG rfl (ld1_own oG rfl (hQ.ints.rd (by omega) (by simpa using hlt) ?_)))
      rw [Int.toNat_natCast, getD_of (by simpa using hlt), List.getElem_map, hx]
      refine hk _ (bndK_iff.2 ⟨by omega, by omega, ldI_mk (cell_en c1 c2 hm2) (l01At_ok (h.le lG) (by omega) fun w G2 hG2 hF => ?_)⟩)
      have hv : 0 ≤ en (es.getD x (0, 0)) m ∧ en (es.getD x (0, 0)) m < n := by unfold en; split <;> omega
      have h3 := hg.three hv.1 hv.2
      have lG2 := AHeap.le_trans hG hG2
      have hb0 : H1.length < G.length := oS.lt
      have hF := hF.sl
      unfold F131.B13 F131.L6
      refine ⟨fun x1 x2 x3 x4 x9 x10 x11 x12 x13 x14 G => u = x1 ∧ (e : Int) = x2 ∧ b = x3 ∧ H.length = x4 ∧ .slice (some ⟨H1.length, 0, none⟩) es.length (es.length + 1) = x9 ∧ (i0 : Int) = x11 ∧ (m : Int) = x12 ∧ w = x13 ∧ H1.le G ∧ Sl (H1.length + 1) G w 2 1 (LI (atL es (en (es.getD x (0, 0)) m))) ∧ (∀ b, bk w = some b → bk x10 ≠ some b) ∧
          ∃ t : Nat, x14 = t ∧ t ≤ 3 ∧ BolQ H1.length es.length (fun S Q' => ∃ R, Q' = x :: R ∧ InX es (chP c e b) e x M (PastT es (chP c e b) x m t) S R) x10 x11 G,
        fun _ _ _ _ _ _ _ _ _ x14 _ => 3 - x14.toNat, ⟨rfl, rfl, rfl, rfl, rfl, rfl, rfl, rfl, lG2, hF.less (by omega), (fun b hb hb' => by have := (hF.lt hb).1; have := (hQ.lt hb').2; omega), 0, rfl, by omega, S', L', i0, rfl, hil, hS, oS.le hG2, ⟨R, hdr, hX.more fun j hj => .inl ?_⟩, hU, hQ.le hG2⟩, ?_⟩
      · rcases hj with hj | ⟨_, t', h, _⟩
        · exact hj
        · exact absurd h (by omega)
      clear hX hQ hF hG2 lG2 oG lG hG hU oS hdr hil hlt hi' hx hS hb0
      rintro x1 x2 x3 x4 x9 x10' x11 x12 x13 x14 G3 ⟨rfl, rfl, rfl, rfl, rfl, rfl, rfl, rfl, hG, hW, hA, t, rfl, ht, S3, L3, i', hi', hil, hS, oS, ⟨R3, hdr, hX⟩, hU, hQ⟩
      obtain rfl : i0 = i' := by omega
      have lG := AHeap.le_trans l1 hG
      have hc := hc.le lG
      unfold F131.B12
      refine pif_cases (fun hb => ?_) fun hb => ?_
      · have ht3 : t < 3 := by have := of_decide_eq_true hb; omega
        obtain ⟨i, hi1, hi2, hi3⟩ := at_get (es := es) (w := en (es.getD x (0, 0)) m) (t := t) (by omega)
        have hxi : share (es.getD x (0, 0)) (es.getD i (0, 0)) := ⟨_, on_en, hi3⟩
        have hpast : ∀ j, PastT es (chP c e b) x m (t + 1) j → PastT es (chP c e b) x m t j ∨ (chP c e b j = true ∧ j = i) := fun j hj => (PastT.step hj).imp id fun ⟨h1, h2⟩ => ⟨h1, by omega⟩
        unfold F131.B11
        refine hW.ints.rd (by omega) (by omega) ?_
        simp only [Int.toNat_natCast, hi1]
        unfold F131.B10
        have hiS : i < S3.length := by omega
        refine own_idx (by omega) (by omega) (ld1_own oS (by rw [Int.toNat_natCast]; exact LB_get hiS) (asB_mk ?_))
        refine pif_cases (fun hb => ?_) fun hb => ?_
        · have hn : S3.getD i false = false := by simpa using hb
          refine hc.rd (by omega) (by omega) (hc.rd (by omega) (by omega) (pif_cases (fun h1 => ?_) fun h1 => hc.rd (by omega) (by omega) (pif_cases (fun h2 => ?_) fun h2 => ?_)))
          rotate_right
          · have hp : chP c e b i = false := by
              simp only [Int.toNat_natCast] at h1 h2
              unfold chP; rw [h1, h2]; rfl
            unfold F131.B7
            rw [wrap_id (by omega) (by omega)]
            refine ⟨⟨rfl, rfl, rfl, rfl, rfl, rfl, rfl, rfl, hG, hW, hA, t + 1, by omega, by omega, S3, L3, i0, rfl, hil, hS, oS, ⟨R3, hdr, hX.more fun j hj => ?_⟩, hU, hQ⟩, by simp; omega⟩
            rcases hpast j hj with h | ⟨h, rfl⟩
            · exact .inl h
            · rw [hp] at h; cases h
          all_goals
            have hp : chP c e b i = true := by
              simp only [Int.toNat_natCast] at h1
              try simp only [Int.toNat_natCast] at h2
              unfold chP; first | (rw [h1]; rfl) | (rw [h2]; simp)
            unfold F131.B9
            refine own_idx (by omega) (by omega) (stK_1 oS (by simpa using hiS) rfl fun G4 b4 o4 => ?_)
            have hG4 := b4.le hG (Nat.le_refl _)
            have o4 : Own G4 H1.length 4 (LB (S3.set i true)) := by simpa using o4
            unfold F131.B8
            refine (hQ.but b4 (by omega)).pushN E_int (by decide) o4.lt (n := 1) (ys := [.int .i64 i]) rfl rfl (by simp; omega) (by simp) fun v' G5 k5 ot5 nb5 f5 => ?_
            unfold F131.B7
            rw [wrap_id (by omega) (by omega)]
            have hnew : unseen (fun j => (S3.set i true).getD j false) es.length + 1 = unseen (fun j => S3.getD j false) es.length := by
              rw [show (fun j => (S3.set i true).getD j false) = insB (fun j => S3.getD j false) i from funext (setB hiS)]
              exact unseen_ins hi2 hn
            refine ⟨⟨rfl, rfl, rfl, rfl, rfl, rfl, rfl, rfl, k5.le hG4 (Nat.le_succ _), (hW.but b4 (by omega)).oth ot5 hA, (fun b hb hb' => by have := (hW.lt hb).2; have := nb5 b hb'; have := b4.len; omega), t + 1, by omega, by omega, S3.set i true, L3 ++ [i], i0, rfl, by simp; omega, by simpa using hS, k5.own o4 (Nat.lt_succ_self _), ⟨R3 ++ [i], by rw [List.drop_append_of_le_length hil, hdr]; rfl, hX.push ⟨hi2, hp, hxi⟩ hn (setB hiS) fun j hj => ?_⟩, by rw [List.length_append, List.length_singleton]; omega, ?_⟩, by simp; omega⟩
            · exact (hpast j hj).imp id fun h => h.2
            · have := f5.sl
              simpa using this
        · have hn : S3.getD i false = true := by simpa using hb
          unfold F131.B7
          rw [wrap_id (by omega) (by omega)]
          refine ⟨⟨rfl, rfl, rfl, rfl, rfl, rfl, rfl, rfl, hG, hW, hA, t + 1, by omega, by omega, S3, L3, i0, rfl, hil, hS, oS, ⟨R3, hdr, hX.more fun j hj => ?_⟩, hU, hQ⟩, by simp; omega⟩
          rcases hpast j hj with h | ⟨h, rfl⟩
          · exact .inl h
          · exact .inr hn
      · have ht3 : t = 3 := by have := of_decide_eq_false hb; omega
        subst ht3
        unfold F131.B5
        rw [wrap_id (by omega) (by omega)]
        exact ⟨⟨rfl, rfl, rfl, rfl, rfl, hG, rfl, m + 1, by omega, by omega, S3, L3, i0, rfl, hil, hS, oS, ⟨R3, hdr, hX.more fun j hj => .inl (by rw [← h3]; exact PastT.fin hj)⟩, hU, hQ⟩, by simp; omega⟩
    · have hm2 : m = 2 := by have := of_decide_eq_false hb; omega
      subst hm2
      unfold F131.B3
      obtain ⟨hE, hlt'⟩ := hX.pop fun j h1 h2 h3 => ⟨h1, h2, h3.elim (fun h => ⟨0, by omega, h⟩) fun h => ⟨1, by omega, h⟩⟩
      have hR : L'.drop (i0 + 1) = R := by
        have := List.drop_eq_getElem_cons hlt
        rw [hdr] at this
        exact (List.cons.inj this).2.symm
      rw [wrap_id (by omega) (by omega)]
      exact ⟨⟨rfl, rfl, rfl, rfl, rfl, hG, S', L', i0 + 1, by omega, by omega, hS, oS, ⟨by rw [hR]; exact hE, hX.bnd⟩, hU, hQ⟩, by simp; omega⟩
  · have hz : L.drop i0 = [] := List.drop_of_length_le (by have := of_decide_eq_false hb; omega)
    rw [hz] at hE
    unfold F131.B1
    exact k _ S G lG oS l1.1 hS hE.fin
end Go.Proofs
namespace Go.Proofs
open Go.Abs

variable {H : AHeap} {v u f : Value} {l m c : List Int} {es fs : List (Int × Int)} {K : Value → AHeap → Prop}

theorem isColouring_any {n : Int} (h : Edges H v es) (hl : es.length ≤ 1048576) (hc : Ints H u c) (hcl : c.length ≤ 1048576) (k : ∀ G, H.le G → K (.bool (decide (IsG n es ∧ IsC es c))) G) :
    AC Tryz.prog T0 133 [.agg ⟨[.int .i64 n, v]⟩, u] H K := by
  by_cases hg : IsG n es
  · refine isColouring_ok h hl hg hc hcl fun G hG => ?_
    have k := k G hG
    rw [show decide (IsG n es ∧ IsC es c) = decide (IsC es c) from decide_eq_decide.2 ⟨fun h => h.2, fun h => ⟨hg, h⟩⟩] at k
    exact k
  · apply F133.ac
    unfold F133.B18
    refine newK_f (all_iv (edges_one' h)) fun H1 l1 n1 o1 => ?_
    unfold F133.B17
    refine ldI_own o1 rfl (ld1_own o1 rfl (IsGraph_ok (h.le l1) hl fun H2 l2 => asB_mk (pif_t (by rw [decide_eq_false hg]; rfl) ?_)))
    unfold F133.B16
    have k := k _ (AHeap.le_trans l1 l2)
    rw [decide_eq_false fun h => hg h.1] at k
    exact k
theorem isColour_ok {x : Int} (k : K (.bool (decide (0 ≤ x ∧ x ≤ 2))) H) : AC Tryz.prog T0 173 [.int .i64 x] H K := by
 apply F173.ac
 unfold F173.B2 F173.B1
 exact within_ok (asB_mk k)
theorem isEdge_ok {n x : Int} (h : Edges H v es) (hl : es.length ≤ 1048576) (k : ∀ G, H.le G → K (.bool (decide (0 ≤ x ∧ x ≤ (es.length : Int) - 1))) G) : AC Tryz.prog T0 172 [.agg ⟨[.int .i64 n, v]⟩, .int .i64 x] H K := by
 apply F172.ac
 unfold F172.B2
 refine newK_f (all_iv (edges_one' h)) fun H1 l1 n1 o1 => ?_
 unfold F172.B1
 refine ld1_own o1 rfl (lengthE_ok (h.le l1) (asI_mk ?_))
 rw [wrap_id (by omega) (by omega)]
 exact within_ok (asB_mk (k _ l1))

def ChIn (es : List (Int × Int)) (c : List Int) (e b : Int) : Prop := IsC es c ∧ (0 ≤ e ∧ e ≤ (es.length : Int) - 1) ∧ (0 ≤ b ∧ b ≤ 2) ∧ c.getD e.toNat 0 ≠ b
noncomputable instance (es : List (Int × Int)) (c : List Int) (e b : Int) : Decidable (ChIn es c e b) := Classical.propDecidable _
noncomputable def chCode (n : Int) (es : List (Int × Int)) (c : List Int) (e b : Int) : Int := if IsG n es then (if ChIn es c e b then 0 else 2) else 1
theorem chCode_no {n : Int} {e b : Int} (h : ¬ ChIn es c e b) : chCode n es c e b = if IsG n es then (if (false : Bool) then 0 else 2) else 1 := by
 unfold chCode; rw [if_neg h]; rfl
theorem chCode_zero {n : Int} {e b : Int} (h : chCode n es c e b = 0) : IsG n es ∧ ChIn es c e b := by
 unfold chCode at h
 by_cases hg : IsG n es
 ·rw [if_pos hg] at h
  by_cases hc : ChIn es c e b
  ·exact ⟨hg, hc⟩
  ·rw [if_neg hc] at h; cases h
 ·rw [if_neg hg] at h; cases h

theorem chainCode_ok {n e b : Int} (h : Edges H v es) (hl : es.length ≤ 1048576) (hc : Ints H u c) (hcl : c.length ≤ 1048576) (k : ∀ G, H.le G → K (.int .i64 (chCode n es c e b)) G) :
    AC Tryz.prog T0 126 [.agg ⟨[.int .i64 n, v]⟩, u, .int .i64 e, .int .i64 b] H K := by
  apply F126.ac
  unfold F126.B2
  refine newK_f (all_iv (edges_one' h)) fun H1 l1 n1 o1 => ?_
  unfold F126.B1
  refine ldI_own o1 rfl (ld1_own o1 rfl (ldI_own o1 rfl (ld1_own o1 rfl (isColouring_any (h.le l1) hl (hc.le l1) hcl fun H2 l2 => asB_mk ⟨l2, ?_⟩))))
  have l12 := AHeap.le_trans l1 l2
  refine pif_cases (fun hb => ?_) fun hb => ?_
  · have hb := of_decide_eq_true hb
    refine ldI_own (o1.le l2) rfl (ld1_own (o1.le l2) rfl (isEdge_ok (h.le l12) hl fun H3 l3 => asB_mk ⟨l3, ?_⟩))
    have l13 := AHeap.le_trans l12 l3
    refine pif_cases (fun hs => ?_) fun hs => ?_
    · have hs := of_decide_eq_true hs
      refine isColour_ok (asB_mk ⟨AHeap.le_refl _, pif_cases (fun ht => ?_) fun ht => ?_⟩)
      · have ht := of_decide_eq_true ht
        have := hb.2.len
        refine (hc.le l13).rd hs.1 (by omega) (graphCode_ok (h.le l13) hl fun H4 l4 => asI_mk ?_)
        have k := k _ (AHeap.le_trans l13 l4)
        unfold chCode at k
        rw [if_pos hb.1] at k ⊢
        by_cases hne : c.getD e.toNat 0 = b
        · rw [if_neg fun h : ChIn es c e b => h.2.2.2 hne] at k
          rw [hne]; simpa using k
        · rw [if_pos (show ChIn es c e b from ⟨hb.2, hs, ht, hne⟩)] at k
          rw [if_pos (show (c.getD e.toNat 0 != b) = true by simpa using hne)]; exact k
      · refine graphCode_ok (h.le l13) hl fun H4 l4 => asI_mk ?_
        have k := k _ (AHeap.le_trans l13 l4)
        rw [chCode_no fun h : ChIn es c e b => of_decide_eq_false ht h.2.2.1] at k; exact k
    · refine graphCode_ok (h.le l13) hl fun H4 l4 => asI_mk ?_
      have k := k _ (AHeap.le_trans l13 l4)
      rw [chCode_no fun h : ChIn es c e b => of_decide_eq_false hs h.2.1] at k; exact k
  · refine graphCode_ok (h.le l12) hl fun H4 l4 => asI_mk ?_
    have k := k _ (AHeap.le_trans l12 l4)
    by_cases hg : IsG n es
    · rw [chCode_no fun h : ChIn es c e b => of_decide_eq_false hb ⟨hg, h.1⟩] at k; exact k
    · unfold chCode at k; rw [if_neg hg] at k ⊢; exact k

theorem l02Code_ok {n : Int} {b : Nat} (h : Edges H v es) (hl : es.length ≤ 1048576) (hc : Ints H u c) (hcl : c.length ≤ 1048576) (ho : Own H b 28 [u]) (k : ∀ G, H.le G → K (.int .i64 (if IsG n es then (if IsC es c then 0 else 2) else 1)) G) :
    AC Tryz.prog T0 135 [.agg ⟨[.int .i64 n, v]⟩, .slice (some ⟨b, 0, none⟩) 1 (1 + 1)] H K := by
  apply F135.ac
  unfold F135.B10
  refine newK_f (all_iv (edges_one' h)) fun H1 l1 n1 o1 => ?_
  unfold F135.B9
  refine ldI_own o1 rfl (ld1_own o1 rfl (l01Is_ok (h.le l1) hl fun H2 l2 => asB_mk ?_))
  have l12 := AHeap.le_trans l1 l2
  refine pif_cases (fun hb => ?_) fun hb => ?_
  · rw [Bool.not_eq_true'] at hb
    unfold F135.B8
    have k := k _ l12
    rw [if_neg (of_decide_eq_false hb)] at k; exact k
  · rw [Bool.not_eq_false'] at hb
    have hg : IsG n es := of_decide_eq_true hb
    rw [if_pos hg] at k
    unfold F135.B7 F135.L2
    refine ⟨fun x1 x2 x5 G => .slice (some ⟨b, 0, none⟩) 1 (1 + 1) = x1 ∧ H.length = x2 ∧ H2.le G ∧ (x5 = 0 ∨ (x5 = 1 ∧ IsC es c)), fun _ _ x5 _ => 1 - x5.toNat, ⟨rfl, rfl, AHeap.le_refl _, .inl rfl⟩, ?_⟩
    rintro x1 x2 x5 G ⟨rfl, rfl, hG, p⟩
    have lG := AHeap.le_trans l12 hG
    have oG := (o1.le l2).le hG
    unfold F135.B6
    rcases p with rfl | ⟨rfl, p⟩
    · refine lenK_of (pif_t rfl ?_)
      unfold F135.B5
      refine ldI_own oG rfl (ld1_own oG rfl ⟨by decide, by decide, ld1_own (ho.le lG) rfl (l02Is_ok (h.le lG) hl hg (hc.le lG) hcl fun H3 l3 => asB_mk ?_)⟩)
      refine pif_cases (fun hb => ?_) fun hb => ?_
      · rw [Bool.not_eq_true'] at hb
        unfold F135.B4
        have k := k _ (AHeap.le_trans lG l3)
        rw [if_neg (of_decide_eq_false hb)] at k; exact k
      · rw [Bool.not_eq_false'] at hb
        unfold F135.B3
        exact ⟨⟨rfl, rfl, AHeap.le_trans hG l3, .inr ⟨rfl, of_decide_eq_true hb⟩⟩, show 1 - (IntKind.i64.wrap (0 + 1)).toNat < 1 - (0 : Int).toNat by decide⟩
    · refine lenK_of (pif_f rfl ?_)
      unfold F135.B1
      have k := k _ lG
      rw [if_pos p] at k; exact k

theorem l02Given_ok {n e b : Int} (h : Edges H v es) (hl : es.length ≤ 1048576) (hc : Ints H u c) (hcl : c.length ≤ 1048576) (k : ∀ G, H.le G → K (.int .i64 (chCode n es c e b)) G) :
    AC Tryz.prog T0 128 [.agg ⟨[.int .i64 n, v]⟩, u, .int .i64 e, .int .i64 b] H K := by
  apply F128.ac
  unfold F128.B7
  refine newK_f (all_iv (edges_one' h)) fun H1 l1 n1 o1 => ?_
  unfold F128.B6
  have h1 := ints_one hc
  refine ldI_own o1 rfl (ld1_own o1 rfl (pif_t h1 (newK_f (by simpa using h1) fun H2 l2 n2 o2 => l02Code_ok (h.le (AHeap.le_trans l1 l2)) hl (hc.le (AHeap.le_trans l1 l2)) hcl o2 fun H3 l3 => asI_mk ?_)))
  have l13 := AHeap.le_trans l1 (AHeap.le_trans l2 l3)
  have k := k _ l13
  unfold chCode at k
  unfold F128.B5
  by_cases hg : IsG n es
  · rw [if_pos hg] at k ⊢
    by_cases hi : IsC es c
    · rw [if_pos hi]
      refine pif_f rfl ?_
      have no : ¬ ChIn es c e b → F128.B2 K H3 := by
        intro hn
        unfold F128.B2
        rw [if_neg hn] at k; exact k
      unfold F128.B3
      have := hi.len
      refine (hc.le l13).len (l01In_ok (asB_mk ?_))
      rw [wrap_id (by omega) (by omega)]
      refine pif_cases (fun hs => ?_) fun hs => ?_
      · rw [Bool.not_eq_true'] at hs
        exact no fun h => of_decide_eq_false hs (by have := h.2.1; omega)
      · rw [Bool.not_eq_false'] at hs
        have hs := of_decide_eq_true hs
        refine l01In_ok (asB_mk (pif_cases (fun ht => ?_) fun ht => ?_))
        · rw [Bool.not_eq_true'] at ht
          exact no fun h => of_decide_eq_false ht h.2.2.1
        · rw [Bool.not_eq_false'] at ht
          have ht := of_decide_eq_true ht
          refine (hc.le l13).rd hs.1 (by omega) (pif_cases (fun hu => ?_) fun hu => ?_)
          · exact no fun h => h.2.2.2 (by simpa using hu)
          · unfold F128.B1
            rw [if_pos (show ChIn es c e b from ⟨hi, by omega, ht, by simpa using hu⟩)] at k; exact k
    · rw [if_neg fun h : ChIn es c e b => hi h.1] at k
      rw [if_neg hi]
      refine pif_t rfl ?_
      unfold F128.B4
      exact k
  · rw [if_neg hg] at k ⊢
    refine pif_t rfl ?_
    unfold F128.B4
    exact k

noncomputable def chList (n : Int) (es : List (Int × Int)) (c : List Int) (e b : Int) : List Int := if chCode n es c e b = 0 then filtB (rchB (eAdj es (chP c e.toNat b)) e.toNat) es.length else []
theorem filt_bools {b0 N : Nat} {S : List Bool} {f : Nat → Bool} (hS : S.length = N) (hf : ∀ j, S.getD j false = f j) {i : Nat} (hi : i < N) (ho : Own H b0 4 (LB S)) : (LB S)[i]? = some (.bool (f i)) := by
 rw [LB_get (by omega), hf]

theorem specChain_ok {n e b : Int} (h : Edges H v es) (hl : es.length ≤ 1048576) (hc : Ints H u c) (hcl : c.length ≤ 1048576)
    (k : ∀ v' G, H.le G → Fresh H.length G v' 2 1 (LI (chList n es c e b)) → K (.tuple ⟨[v', .int .i64 (chCode n es c e b)]⟩) G) : AC Tryz.prog T0 52 [.agg ⟨[.int .i64 n, v]⟩, u, .int .i64 e, .int .i64 b] H K := by
  apply F52.ac
  unfold F52.B12
  refine newK_f (all_iv (edges_one' h)) fun H1 l1 n1 o1 => ?_
  unfold F52.B11
  refine ldI_own o1 rfl (ld1_own o1 rfl (l02Given_ok (e := e) (b := b) (h.le l1) hl (hc.le l1) hcl fun H2 l2 => asI_mk ?_))
  have l12 := AHeap.le_trans l1 l2
  unfold F52.B10
  refine pif_cases (fun hs => ?_) fun hs => ?_
  · unfold F52.B9
    exact k _ _ l12 (.inl ⟨by rw [chList, if_neg (bne_iff_ne.1 hs)]; rfl, .inl rfl⟩)
  · have h0 : chCode n es c e b = 0 := bne_eq_false_iff_eq.1 hs
    obtain ⟨hg, hi, he, hb, hne⟩ := chCode_zero h0
    obtain ⟨e, rfl⟩ : ∃ e' : Nat, e = e' := ⟨e.toNat, by omega⟩
    unfold chList at k
    rw [if_pos h0, Int.toNat_natCast] at k
    have h30 : es.length ≤ 30 := by have := hg.ed.len; have := hg.ed.hi; omega
    unfold F52.B8
    refine ldI_own (o1.le l2) rfl (ld1_own (o1.le l2) rfl (l02Chain_ok (h.le l12) hg (hc.le l12) hi.len (by omega) fun b0 S H3 l3 o3 hb0 hS hr => newK_f rfl fun H4 l4 n4 o4 => ?_))
    have hf : ∀ j, S.getD j false = rchB (eAdj es (chP c e b)) e j := fun j => dec_eq (hr j)
    have l14 := AHeap.le_trans l12 (AHeap.le_trans l3 l4)
    unfold F52.B7 F52.L2
    refine ⟨fun x11 x12 x13 G => .slice (some ⟨b0, 0, none⟩) es.length (es.length + 1) = x11 ∧ H3.le G ∧ ∃ i : Nat, x13 = i ∧ i ≤ es.length ∧ Fresh H3.length G x12 2 1 (LI (filtB (rchB (eAdj es (chP c e b)) e) i)), fun _ _ x13 _ => es.length - x13.toNat,
      ⟨rfl, l4, 0, rfl, by omega, .inr ⟨_, 0, Nat.le_refl _, rfl, o4, rfl⟩⟩, ?_⟩
    rintro x11 x12 x13 G ⟨rfl, hG, i, rfl, hi', hF⟩
    unfold F52.B6
    refine pif_cases (fun hb => ?_) fun hb => ?_
    · have hlt : i < es.length := by have := of_decide_eq_true hb; omega
      unfold F52.B5
      refine own_idx (by omega) (by omega) (ld1_own (o3.le hG) (by rw [Int.toNat_natCast]; exact filt_bools hS hf hlt o3) (asB_mk (pif_cases (fun hs => ?_) fun hs => ?_)))
      · unfold F52.B4
        refine hF.sl.pushN E_int (by decide) hG.1 (n := 1) (ys := [.int .i64 i]) rfl rfl (by have := filtB_length (rchB (eAdj es (chP c e b)) e) i; simp; omega) (by simp) fun v' G2 k2 _ _ f2 => ?_
        unfold F52.B3
        rw [wrap_id (by omega) (by omega)]
        refine ⟨⟨rfl, k2.le hG (Nat.le_refl _), i + 1, by omega, by omega, ?_⟩, by simp; omega⟩
        rw [filtB_succ, if_pos hs]; simpa using f2
      · unfold F52.B3
        rw [wrap_id (by omega) (by omega)]
        refine ⟨⟨rfl, hG, i + 1, by omega, by omega, ?_⟩, by simp; omega⟩
        rw [filtB_succ, if_neg (by rw [hs]; decide), List.append_nil]; exact hF
    · have : i = es.length := by have := of_decide_eq_false hb; omega
      subst this
      unfold F52.B1
      have l13 := AHeap.le_trans l12 l3
      have k := k _ _ (AHeap.le_trans l13 hG) (hF.less l13.1)
      rw [h0] at k; exact k

theorem implChain_ok {n e b : Int} (h : Edges H v es) (hl : es.length ≤ 1048576) (hc : Ints H u c) (hcl : c.length ≤ 1048576)
    (k : ∀ v' G, H.le G → Fresh H.length G v' 2 1 (LI (chList n es c e b)) → K (.tuple ⟨[v', .int .i64 (chCode n es c e b)]⟩) G) : AC Tryz.prog T0 51 [.agg ⟨[.int .i64 n, v]⟩, u, .int .i64 e, .int .i64 b] H K := by
  apply F51.ac
  unfold F51.B5
  refine newK_f (all_iv (edges_one' h)) fun H1 l1 n1 o1 => ?_
  unfold F51.B4
  refine ldI_own o1 rfl (ld1_own o1 rfl (chainCode_ok (e := e) (b := b) (h.le l1) hl (hc.le l1) hcl fun H2 l2 => asI_mk ?_))
  have l12 := AHeap.le_trans l1 l2
  unfold F51.B3
  refine pif_cases (fun hs => ?_) fun hs => ?_
  · unfold F51.B2
    exact k _ _ l12 (.inl ⟨by rw [chList, if_neg (bne_iff_ne.1 hs)]; rfl, .inl rfl⟩)
  · have h0 : chCode n es c e b = 0 := bne_eq_false_iff_eq.1 hs
    obtain ⟨hg, hi, he, hb, hne⟩ := chCode_zero h0
    obtain ⟨e, rfl⟩ : ∃ e' : Nat, e = e' := ⟨e.toNat, by omega⟩
    unfold chList at k
    rw [if_pos h0, Int.toNat_natCast] at k
    have h30 : es.length ≤ 30 := by have := hg.ed.len; have := hg.ed.hi; omega
    unfold F51.B1
    refine ldI_own (o1.le l2) rfl (ld1_own (o1.le l2) rfl (chain_ok (h.le l12) hg (hc.le l12) hi.len (by omega) fun s H3 l3 hs3 hbn hr => asI_mk (list_ok hs3 fun v' H4 l4 f4 => ?_)))
    rw [bitsL_filt (by omega) hbn, filtB_congr (S' := rchB (eAdj es (chP c e b)) e) fun j _ => dec_eq (hr j)] at f4
    have l13 := AHeap.le_trans l12 l3
    have k := k _ _ (AHeap.le_trans l13 l4) (f4.less l13.1)
    rw [h0] at k; exact k

noncomputable def exAt (es : List (Int × Int)) (c : List Int) (e : Nat) (b : Int) (f : Nat) : Int := if rchB (eAdj es (chP c e b)) e f then c.getD e 0 + b - c.getD f 0 else c.getD f 0
noncomputable def exTo (es : List (Int × Int)) (c : List Int) (e : Nat) (b : Int) (k : Nat) : List Int := (List.range k).map (exAt es c e b)
theorem exTo_succ (es : List (Int × Int)) (c : List Int) (e : Nat) (b : Int) (k : Nat) : exTo es c e b (k + 1) = exTo es c e b k ++ [exAt es c e b k] := by
 unfold exTo; rw [List.range_succ, List.map_append]; rfl
theorem exTo_length (es : List (Int × Int)) (c : List Int) (e : Nat) (b : Int) (k : Nat) : (exTo es c e b k).length = k := by simp [exTo]
noncomputable def exList (n : Int) (es : List (Int × Int)) (c : List Int) (e b : Int) : List Int := if chCode n es c e b = 0 then exTo es c e.toNat b es.length else []
theorem IsC.get {es : List (Int × Int)} {c : List Int} (h : IsC es c) (i : Nat) : 0 ≤ c.getD i 0 ∧ c.getD i 0 ≤ 2 := by
 by_cases hi : i < c.length
 ·rw [getD_of hi]; exact h.rng _ (List.getElem_mem hi)
 ·simp [List.getD, List.getElem?_eq_none (show c.length ≤ i by omega)]

theorem l02Exchange_ok {n b : Int} {e : Nat} (h : Edges H v es) (hg : IsG n es) (hc : Ints H u c) (hi : IsC es c) (he : e < es.length) (hb : 0 ≤ b ∧ b ≤ 2)
    (k : ∀ v' G, H.le G → Fresh H.length G v' 2 1 (LI (exTo es c e b es.length)) → K v' G) : AC Tryz.prog T0 129 [.agg ⟨[.int .i64 n, v]⟩, u, .int .i64 (e : Nat), .int .i64 b] H K := by
  have h30 : es.length ≤ 30 := by have := hg.ed.len; have := hg.ed.hi; omega
  have hcl := hi.len
  apply F129.ac
  unfold F129.B10
  refine newK_f (all_iv (edges_one' h)) fun H1 l1 n1 o1 => ?_
  unfold F129.B9
  refine ldI_own o1 rfl (ld1_own o1 rfl (l02Chain_ok (h.le l1) hg (hc.le l1) hcl he fun b0 S H3 l3 o3 hb0 hS hr => newK_f rfl fun H4 l4 n4 o4 => ?_))
  have hf : ∀ j, S.getD j false = rchB (eAdj es (chP c e b)) e j := fun j => dec_eq (hr j)
  have l13 := AHeap.le_trans l1 l3
  unfold F129.B8 F129.L2
  refine ⟨fun x1 x2 x3 x9 x10 x11 G => u = x1 ∧ (e : Int) = x2 ∧ b = x3 ∧ .slice (some ⟨b0, 0, none⟩) es.length (es.length + 1) = x9 ∧ H3.le G ∧ ∃ i : Nat, x11 = i ∧ i ≤ es.length ∧ Fresh H3.length G x10 2 1 (LI (exTo es c e b i)), fun _ _ _ _ _ x11 _ => es.length - x11.toNat,
    ⟨rfl, rfl, rfl, rfl, l4, 0, rfl, by omega, .inr ⟨_, 0, Nat.le_refl _, rfl, o4, rfl⟩⟩, ?_⟩
  rintro x1 x2 x3 x9 x10 x11 G ⟨rfl, rfl, rfl, rfl, hG, i, rfl, hi', hF⟩
  have hc := hc.le (AHeap.le_trans l13 hG)
  have ce := hi.get e; have ci := hi.get i
  have push : exAt es c e b i = exAt es c e b i → ∀ N2 : Value → Int → Int → Value → Value → Int → AHeap → Prop, (∀ v' G', H3.le G' → Fresh H3.length G' v' 2 1 (LI (exTo es c e b (i + 1))) → N2 u e b (.slice (some ⟨b0, 0, none⟩) es.length (es.length + 1)) v' ((i : Int) + 1) G') →
      newK G [.int .i64 (exAt es c e b i)] 2 (fun b7 H8 => apK T0 2 H8 x10 (.slice (some ⟨b7, 0, none⟩) 1 (1 + 1)) (fun v9 H10 => F129.B3 K N2 u e b (.slice (some ⟨b0, 0, none⟩) es.length (es.length + 1)) v9 i H10)) := by
    intro _ N2 hN
    refine hF.sl.pushN E_int (by decide) hG.1 (n := 1) (ys := [.int .i64 (exAt es c e b i)]) rfl rfl (by have := exTo_length es c e b i; simp; omega) (by simp) fun v' G2 k2 _ _ f2 => ?_
    unfold F129.B3
    rw [wrap_id (by omega) (by omega)]
    refine hN v' G2 (k2.le hG (Nat.le_refl _)) ?_
    rw [exTo_succ]; simpa using f2
  unfold F129.B7
  refine hc.len (pif_cases (fun hb => ?_) fun hb => ?_)
  · have hlt : i < es.length := by have := of_decide_eq_true hb; omega
    have fin : ∀ v' G', H3.le G' → Fresh H3.length G' v' 2 1 (LI (exTo es c e b (i + 1))) → (u = u ∧ (e : Int) = e ∧ b = b ∧ (.slice (some ⟨b0, 0, none⟩) es.length (es.length + 1) : Value) = .slice (some ⟨b0, 0, none⟩) es.length (es.length + 1) ∧ H3.le G' ∧ ∃ i' : Nat, (i : Int) + 1 = i' ∧ i' ≤ es.length ∧ Fresh H3.length G' v' 2 1 (LI (exTo es c e b i'))) ∧ es.length - ((i : Int) + 1).toNat < es.length - (i : Int).toNat :=
      fun v' G' h1 h2 => ⟨⟨rfl, rfl, rfl, rfl, h1, i + 1, by omega, by omega, h2⟩, by omega⟩
    unfold F129.B6
    refine own_idx (by omega) (by omega) (ld1_own (o3.le hG) (by rw [Int.toNat_natCast]; exact filt_bools hS hf hlt o3) (asB_mk (pif_cases (fun hs => ?_) fun hs => ?_)))
    · unfold F129.B4
      refine hc.rd (by omega) (by omega) (hc.rd (by omega) (by omega) ?_)
      simp only [Int.toNat_natCast]
      rw [wrap_id (x := c.getD e 0 + b) (by omega) (by omega), wrap_id (by omega) (by omega), show c.getD e 0 + b - c.getD i 0 = exAt es c e b i by unfold exAt; rw [if_pos hs]]
      exact push rfl _ fin
    · unfold F129.B5
      refine hc.rd (by omega) (by omega) ?_
      simp only [Int.toNat_natCast]
      rw [show c.getD i 0 = exAt es c e b i by unfold exAt; rw [if_neg (by rw [hs]; decide)]]
      exact push rfl _ fin
  · have : i = es.length := by have := of_decide_eq_false hb; omega
    subst this
    unfold F129.B1
    exact k _ _ (AHeap.le_trans l13 hG) (hF.less l13.1)

theorem specExchange_ok {n e b : Int} (h : Edges H v es) (hl : es.length ≤ 1048576) (hc : Ints H u c) (hcl : c.length ≤ 1048576)
    (k : ∀ v' G, H.le G → Fresh H.length G v' 2 1 (LI (exList n es c e b)) → K (.tuple ⟨[v', .int .i64 (chCode n es c e b)]⟩) G) : AC Tryz.prog T0 50 [.agg ⟨[.int .i64 n, v]⟩, u, .int .i64 e, .int .i64 b] H K := by
  apply F50.ac
  unfold F50.B5
  refine newK_f (all_iv (edges_one' h)) fun H1 l1 n1 o1 => ?_
  unfold F50.B4
  refine ldI_own o1 rfl (ld1_own o1 rfl (l02Given_ok (e := e) (b := b) (h.le l1) hl (hc.le l1) hcl fun H2 l2 => asI_mk ?_))
  have l12 := AHeap.le_trans l1 l2
  unfold F50.B3
  refine pif_cases (fun hs => ?_) fun hs => ?_
  · unfold F50.B2
    exact k _ _ l12 (.inl ⟨by rw [exList, if_neg (bne_iff_ne.1 hs)]; rfl, .inl rfl⟩)
  · have h0 : chCode n es c e b = 0 := bne_eq_false_iff_eq.1 hs
    obtain ⟨hg, hi, he, hb, hne⟩ := chCode_zero h0
    obtain ⟨e, rfl⟩ : ∃ e' : Nat, e = e' := ⟨e.toNat, by omega⟩
    unfold exList at k
    rw [if_pos h0, Int.toNat_natCast, h0] at k
    unfold F50.B1
    exact ldI_own (o1.le l2) rfl (ld1_own (o1.le l2) rfl (l02Exchange_ok (h.le l12) hg (hc.le l12) hi (by omega) hb fun v' H3 l3 f3 => k _ _ (AHeap.le_trans l12 l3) (f3.less l12.1)))

theorem exchanged_ok {n b : Int} {e : Nat} (h : Edges H v es) (hg : IsG n es) (hc : Ints H u c) (hi : IsC es c) (he : e < es.length) (hb : 0 ≤ b ∧ b ≤ 2)
    (k : ∀ v' G, H.le G → Fresh H.length G v' 2 1 (LI (exTo es c e b es.length)) → K v' G) : AC Tryz.prog T0 127 [.agg ⟨[.int .i64 n, v]⟩, u, .int .i64 (e : Nat), .int .i64 b] H K := by
  have h30 : es.length ≤ 30 := by have := hg.ed.len; have := hg.ed.hi; omega
  have hcl := hi.len
  apply F127.ac
  unfold F127.B9
  refine newK_f (all_iv (edges_one' h)) fun H1 l1 n1 o1 => ?_
  unfold F127.B8
  refine clone_ok (hc.le l1) (by omega) fun v' H2 l2 f2 => ?_
  have l12 := AHeap.le_trans l1 l2
  unfold F127.B7
  refine ldI_own (o1.le l2) rfl (ld1_own (o1.le l2) rfl (chain_ok (h.le l12) hg (hc.le l12) hcl he fun s H3 l3 hs3 hbn hr => asI_mk (list_ok hs3 fun w H4 l4 f4 => ?_)))
  rw [bitsL_filt (by omega) hbn, filtB_congr (S' := rchB (eAdj es (chP c e b)) e) fun j _ => dec_eq (hr j)] at f4
  obtain ⟨B, hB⟩ : ∃ B, B = rchB (eAdj es (chP c e b)) e := ⟨_, rfl⟩
  rw [← hB] at f4
  have hbl : (filtB B es.length).length ≤ es.length := filtB_length _ _
  have l24 := AHeap.le_trans l3 l4
  refine f4.ints.len ?_
  rcases f2 with ⟨h1, _⟩ | ⟨b0, n0, hb0, rfl, o2, hn0⟩
  · have : c.length = 0 := by simpa using congrArg List.length h1
    omega
  have o2 : Own H2 b0 2 (LI c) := o2
  obtain rfl : n0 = es.length := by simpa [hcl] using hn0.symm
  have o4 := o2.le l24
  have hbl0 := o2.lt
  unfold F127.L2
  refine ⟨fun x1 x2 x3 x9 x19 x20 x21 G => u = x1 ∧ (e : Int) = x2 ∧ b = x3 ∧ .slice (some ⟨b0, 0, none⟩) es.length (es.length + 1) = x9 ∧ w = x19 ∧ ((filtB B es.length).length : Int) = x20 ∧ H.le G ∧ Fresh H3.length G w 2 1 (LI (filtB B es.length)) ∧ ∃ (t : Nat) (D : List Int), x21 = t ∧ t ≤ (filtB B es.length).length ∧ D.length = es.length ∧ Own G b0 2 (LI D) ∧
      ∀ j, j < es.length → D.getD j 0 = if (j : Int) ∈ (filtB B es.length).take t then c.getD e 0 + b - c.getD j 0 else c.getD j 0, fun _ _ _ _ _ _ x21 _ => (filtB B es.length).length - x21.toNat,
    ⟨rfl, rfl, rfl, rfl, rfl, rfl, AHeap.le_trans l12 l24, f4, 0, c, rfl, by omega, hcl, o4, fun j _ => by simp⟩, ?_⟩
  rintro x1 x2 x3 x9 x19 x20 x21 G ⟨rfl, rfl, rfl, rfl, rfl, rfl, hG, hF, t, D, rfl, ht, hD, oD, hd⟩
  have hc := hc.le hG
  unfold F127.B6
  refine pif_cases (fun hb' => ?_) fun hb' => ?_
  · have hlt : t < (filtB B es.length).length := by have := of_decide_eq_true hb'; omega
    obtain ⟨j, hj1, hj2⟩ : ∃ j : Nat, (filtB B es.length)[t] = (j : Int) ∧ j < es.length := by
      have hm := List.getElem_mem hlt
      unfold filtB at hm
      rw [List.mem_map] at hm
      obtain ⟨j, hj, e'⟩ := hm
      rw [List.mem_filter, List.mem_range] at hj
      exact ⟨j, e'.symm, hj.1⟩
    have ce := hi.get e; have cj := hi.get j
    unfold F127.B5
    refine hF.ints.rd (by omega) (by omega) ?_
    rw [Int.toNat_natCast, getD_of hlt, hj1]
    unfold F127.B4
    refine hc.rd (by omega) (by omega) (hc.rd (by omega) (by omega) (own_idx (by omega) (by omega) (stK_1 oD (by simp; omega) rfl fun G2 b2 o2 => ?_)))
    simp only [Int.toNat_natCast] at o2
    rw [wrap_id (x := c.getD e 0 + b) (by omega) (by omega), wrap_id (by omega) (by omega), ← List.map_set] at o2
    unfold F127.B3
    rw [wrap_id (by omega) (by omega)]
    refine ⟨⟨rfl, rfl, rfl, rfl, rfl, rfl, b2.le hG (by have := l1.1; omega), hF.but b2 (by have := l3.1; omega), t + 1, _, by omega, by omega, by simpa using hD, o2, fun j' hj' => ?_⟩, by simp; omega⟩
    rw [List.take_succ_eq_append_getElem hlt, hj1]
    simp only [List.mem_append, List.mem_singleton]
    have h1 := hd j' hj'
    by_cases ej : j = j'
    · subst ej
      simp [List.getD, hD, hj2]
    · have hne : ¬ (j' : Int) = j := by omega
      have e1 : ∀ X, (D.set j X).getD j' 0 = D.getD j' 0 := fun X => by simp [List.getD, List.getElem?_set, ej]
      rw [e1, h1]; simp only [hne, or_false]
  · have : t = (filtB B es.length).length := by have := of_decide_eq_false hb'; omega
    subst this
    unfold F127.B1
    have hDe : D = exTo es c e b es.length := by
      apply List.ext_getElem (by rw [hD, exTo_length])
      intro j h1 h2
      have := hd j (by omega)
      rw [List.take_length, getD_of h1] at this
      have e2 : (exTo es c e b es.length)[j]'h2 = exAt es c e b j := by simp [exTo]
      rw [this, e2]
      unfold exAt
      rw [← hB]
      have hm : (j : Int) ∈ filtB B es.length ↔ B j = true := by
        unfold filtB
        rw [List.mem_map]
        constructor
        · rintro ⟨i, hi, e'⟩
          rw [List.mem_filter] at hi
          have : i = j := Int.ofNat.inj e'
          rw [← this]; exact hi.2
        · intro hj
          exact ⟨j, by rw [List.mem_filter, List.mem_range]; exact ⟨by omega, hj⟩, rfl⟩
      by_cases hj : B j = true
      · rw [if_pos (hm.2 hj), if_pos hj]
      · rw [if_neg fun h => hj (hm.1 h), if_neg hj]
    rw [← hDe] at k
    exact k _ _ hG (.inr ⟨b0, es.length, by have := l1.1; omega, rfl, oD, by simpa using hD⟩)

theorem implExchange_ok {n e b : Int} (h : Edges H v es) (hl : es.length ≤ 1048576) (hc : Ints H u c) (hcl : c.length ≤ 1048576)
    (k : ∀ v' G, H.le G → Fresh H.length G v' 2 1 (LI (exList n es c e b)) → K (.tuple ⟨[v', .int .i64 (chCode n es c e b)]⟩) G) : AC Tryz.prog T0 49 [.agg ⟨[.int .i64 n, v]⟩, u, .int .i64 e, .int .i64 b] H K := by
  apply F49.ac
  unfold F49.B5
  refine newK_f (all_iv (edges_one' h)) fun H1 l1 n1 o1 => ?_
  unfold F49.B4
  refine ldI_own o1 rfl (ld1_own o1 rfl (chainCode_ok (e := e) (b := b) (h.le l1) hl (hc.le l1) hcl fun H2 l2 => asI_mk ?_))
  have l12 := AHeap.le_trans l1 l2
  unfold F49.B3
  refine pif_cases (fun hs => ?_) fun hs => ?_
  · unfold F49.B2
    exact k _ _ l12 (.inl ⟨by rw [exList, if_neg (bne_iff_ne.1 hs)]; rfl, .inl rfl⟩)
  · have h0 : chCode n es c e b = 0 := bne_eq_false_iff_eq.1 hs
    obtain ⟨hg, hi, he, hb, hne⟩ := chCode_zero h0
    obtain ⟨e, rfl⟩ : ∃ e' : Nat, e = e' := ⟨e.toNat, by omega⟩
    unfold exList at k
    rw [if_pos h0, Int.toNat_natCast, h0] at k
    unfold F49.B1
    exact ldI_own (o1.le l2) rfl (ld1_own (o1.le l2) rfl (exchanged_ok (h.le l12) hg (hc.le l12) hi (by omega) hb fun v' H3 l3 f3 => k _ _ (AHeap.le_trans l12 l3) (f3.less l12.1)))
end Go.Proofs
namespace Go.Proofs
open Go.Abs

variable {H G : AHeap} {v u f : Value} {l m c : List Int} {es fs : List (Int × Int)} {K : Value → AHeap → Prop} {A : Nat → Prop} {B : Nat} {ls : List (List Int)}

noncomputable def tiRow : TI := (T0 28).getD ⟨.bool, 0, 0, undef⟩
theorem E_row : Elem T0 28 1 := ⟨tiRow, by kernel_rfl, by kernel_rfl, of_decide_eq_true (by kernel_rfl), by kernel_rfl⟩
noncomputable def tiEdge : TI := (T0 78).getD ⟨.bool, 0, 0, undef⟩
theorem E_edge : Elem T0 78 2 := ⟨tiEdge, by kernel_rfl, by kernel_rfl, of_decide_eq_true (by kernel_rfl), by kernel_rfl⟩

theorem Sl_rd1 {m0 : Nat} {t : TypeId} {cs : List Value} {i : Int} {K : Nat → Nat → Prop} (h : Sl m0 H v t 1 cs) (h0 : 0 ≤ i) (h1 : i < cs.length) (k : ∀ b o, H.cell b o = cs[i.toNat]? → K b o) : idxK v i 1 K := by
 rcases h with ⟨rfl, _⟩ | ⟨b, n, pre, post, _, rfl, ho, hn⟩
 ·simp at h1; omega
 ·refine ⟨h0, by omega, k _ _ ?_⟩
  rw [Nat.mul_one, Own.cell ho, List.append_assoc, List.getElem?_append_right (Nat.le_add_right _ _), Nat.add_sub_cancel_left, List.getElem?_append_left (by omega)]
theorem Sl_rd {m0 : Nat} {t : TypeId} {cs : List Value} {i : Int} {x : Value} {K : Value → Prop} (h : Sl m0 H v t 1 cs) (h0 : 0 ≤ i) (h1 : i < cs.length) (hx : cs[i.toNat]? = some x) (k : K x) : idxK v i 1 (fun b o => ld1 H b o K) :=
 Sl_rd1 h h0 h1 fun b o hc => ld1_mk (hc.trans hx) k
def RowsF (A : Nat → Prop) (B : Nat) (H : AHeap) (v : Value) (ls : List (List Int)) : Prop :=
 ∃ vs : List Value, Fresh 0 H v 28 1 vs ∧ vs.length = ls.length ∧ (∀ b, bk v = some b → A b ∧ b < B) ∧
  ∀ i, i < ls.length → ∃ w, vs[i]? = some w ∧ Fresh 0 H w 2 1 (LI (ls.getD i [])) ∧ ∀ b, bk w = some b → A b ∧ b < B ∧ bk v ≠ some b ∧ ∀ j w', j < i → vs[j]? = some w' → bk w' ≠ some b
theorem RowsF.nil : RowsF A B H (.slice none 0 0) [] := ⟨[], .inl ⟨rfl, .inl rfl⟩, rfl, (fun b h => by cases h), fun i h => absurd h (by simp)⟩
theorem RowsF.nil1 {b : Nat} (ho : Own H b 28 []) (ha : A b) (hb : b < B) : RowsF A B H (.slice (some ⟨b, 0, none⟩) 0 (0 + 1)) [] :=
 ⟨[], .inr ⟨b, 0, Nat.zero_le _, rfl, ho, rfl⟩, rfl, (fun b' h => by cases h; exact ⟨ha, hb⟩), fun i h => absurd h (by simp)⟩
theorem RowsF.mono {A' : Nat → Prop} {B' : Nat} (h : RowsF A B H v ls) (ha : ∀ b, A b → A' b) (hb : B ≤ B') : RowsF A' B' H v ls := by
 obtain ⟨vs, h1, h2, h3, h4⟩ := h
 refine ⟨vs, h1, h2, fun b hbk => ⟨ha b (h3 b hbk).1, by have := (h3 b hbk).2; omega⟩, fun i hi => ?_⟩
 obtain ⟨w, g1, g2, g3⟩ := h4 i hi
 exact ⟨w, g1, g2, fun b hbk => ⟨ha b (g3 b hbk).1, by have := (g3 b hbk).2.1; omega, (g3 b hbk).2.2⟩⟩
theorem fresh_oth {m0 : Nat} {t : TypeId} {z : Nat} {cs : List Value} (h : Fresh m0 H v t z cs) (k : ∀ b o, bk v = some b → H[b]? = some (some o) → G[b]? = some (some o)) : Fresh m0 G v t z cs := by
 rcases h with h | ⟨b, n, h1, rfl, h3, h4⟩
 ·exact .inl h
 ·exact .inr ⟨b, n, h1, rfl, k b _ rfl h3, h4⟩
theorem RowsF.move (h : RowsF A B H v ls) (k : ∀ b o, A b → b < B → H[b]? = some (some o) → G[b]? = some (some o)) : RowsF A B G v ls := by
 obtain ⟨vs, h1, h2, h3, h4⟩ := h
 refine ⟨vs, fresh_oth h1 fun b o hb ho => k b o (h3 b hb).1 (h3 b hb).2 ho, h2, h3, fun i hi => ?_⟩
 obtain ⟨w, g1, g2, g3⟩ := h4 i hi
 exact ⟨w, g1, fresh_oth g2 fun b o hb ho => k b o (g3 b hb).1 (g3 b hb).2.1 ho, g3⟩
theorem RowsF.le (h : RowsF A B H v ls) (hl : H.le G) : RowsF A B G v ls := h.move fun b o _ _ ho => hl.2 b o ho
theorem RowsF.keep (h : RowsF A B H v ls) (hk : Keep B H G) : RowsF A B G v ls := h.move fun b o _ hb ho => hk.old b o hb ho
theorem RowsF.len (h : RowsF A B H v ls) {K : Nat → Prop} (k : K ls.length) : lenK v K := by
 obtain ⟨vs, h1, h2, _⟩ := h
 exact h1.sl.len (by decide) (n := ls.length) (by omega) k
theorem RowsF.push {w : Value} (h : RowsF A B H v ls) (hB : B ≤ H.length) (hA : ∀ b, B ≤ b → A b) (hw : Fresh B H w 2 1 (LI l)) (hs : ls.length < 4294967296)
    (k : ∀ v' G, Oth v H G → (∀ b, bk v' = some b → H.length ≤ b) → H.length ≤ G.length → RowsF A G.length G v' (ls ++ [l]) → K v' G) :
    pif w.oneCell' (newK H [w] 28 (fun b1 H2 => apK T0 28 H2 v (.slice (some ⟨b1, 0, none⟩) 1 (1 + 1)) K)) False := by
  have hw1 : w.oneCell' = true := ints_one hw.ints
  refine pif_t hw1 ?_
  obtain ⟨vs, h1, h2, h3, h4⟩ := h
  refine h1.sl.pushN E_row (by decide) (Nat.zero_le _) (n := 1) (ys := [w]) rfl (by simpa using hw1) (by simp; omega) (by simp) fun v' G k1 ot nb f' => k v' G ot nb k1.len ?_
  have hbw : ∀ b, bk w = some b → B ≤ b ∧ b < H.length := fun b hb => hw.bk_lt hb
  refine ⟨vs ++ [w], f', by simp [h2], fun b hb => ⟨hA b (by have := nb b hb; omega), (f'.bk_lt hb).2⟩, fun i hi => ?_⟩
  by_cases e : i < ls.length
  · obtain ⟨w', g1, g2, g3⟩ := h4 i e
    refine ⟨w', by rw [List.getElem?_append_left (by omega)]; exact g1, ?_, fun b hb => ?_⟩
    · rw [show (ls ++ [l]).getD i [] = ls.getD i [] by simp [List.getD, List.getElem?_append_left e]]
      exact fresh_oth g2 fun b o hb ho => ot b o (g3 b hb).2.2.1 ho
    · obtain ⟨q1, q2, q3, q4⟩ := g3 b hb
      refine ⟨q1, by have := k1.len; omega, fun hv => by have := nb b hv; omega, fun j w2 hj hw2 => q4 j w2 hj ?_⟩
      rwa [List.getElem?_append_left (by omega)] at hw2
  · have : i = ls.length := by simp at hi; omega
    subst this
    refine ⟨w, by rw [← h2]; simp, ?_, fun b hb => ?_⟩
    · rw [show (ls ++ [l]).getD ls.length [] = l by simp [List.getD]]
      exact fresh_oth (hw.less (Nat.zero_le _)) fun b o hb ho => ot b o (fun hv => by have := (h3 b hv).2; have := (hbw b hb).1; omega) ho
    · have hb' := hbw b hb
      refine ⟨hA b hb'.1, by have := k1.len; omega, fun hv => by have := nb b hv; omega, fun j w2 hj hw2 hw3 => ?_⟩
      rw [List.getElem?_append_left (by omega)] at hw2
      obtain ⟨w4, g1, _, g3⟩ := h4 j hj
      rw [hw2] at g1; cases g1
      have := (g3 b hw3).2.1; omega
theorem RowsF.row (h : RowsF A B H v ls) {i : Nat} (hi : i < ls.length) {K : Value → Prop} (k : ∀ w, Fresh 0 H w 2 1 (LI (ls.getD i [])) → K w) : idxK v i 1 (fun b o => ld1 H b o K) := by
 obtain ⟨vs, h1, h2, h3, h4⟩ := h
 obtain ⟨w, g1, g2, g3⟩ := h4 i hi
 exact Sl_rd h1.sl (by omega) (by omega) (by rw [Int.toNat_natCast]; exact g1) (k w g2)
end Go.Proofs
namespace Go.Proofs
open Go.Abs

variable {H G : AHeap} {v u f : Value} {l m c : List Int} {es fs : List (Int × Int)} {K : Value → AHeap → Prop} {A A' : Nat → Prop} {B B' : Nat} {ls ms : List (List Int)}

end Go.Proofs
namespace Go.Proofs
open Go.Abs

variable {H : AHeap} {v : Value}

end Go.Proofs
namespace Go.Proofs
open Go.Abs

variable {H G : AHeap} {v u f : Value} {l m c : List Int} {es fs : List (Int × Int)} {K : Value → AHeap → Prop} {A A' : Nat → Prop} {B B' : Nat} {ls ms : List (List Int)}

end Go.Proofs
