/- Contracts: double covers, both sides. -/
import Derived.Test.YtfcflpcmjlbedabU20
import Derived.Test.YtfcflpcmjlbedabU23
set_option linter.unusedVariables false
set_option linter.unusedSimpArgs false
set_option maxRecDepth 100000
namespace Go.Proofs
open Go.Abs

variable {H G : AHeap} {v u f : Value} {l m c : List Int} {es fs : List (Int × Int)} {K : Value → AHeap → Prop} {ls ms : List (List Int)}

theorem indexR_ok {p : List Int → Bool} (h : RowsR H v ls) (hl : ls.length ≤ 4611686018427387904) (hf : ∀ i, i < ls.length → ∀ G, H.le G → ∀ w, Ints G w (ls.getD i []) → Cl G f w (p (ls.getD i []))) (k : ∀ r G, H.le G → decide (r ≥ 0) = ls.any p → K (.int .i64 r) G) :
    AC Try.prog T0 179 [v, f] H K := by
  apply F179.ac
  unfold F179.B9 F179.B8
  refine h.len ?_
  unfold F179.L2
  refine ⟨fun x0 x1 x7 x8 G => v = x0 ∧ f = x1 ∧ (ls.length : Int) = x7 ∧ H.le G ∧ ∃ n : Nat, x8 = n ∧ n ≤ ls.length ∧ ∀ i : Nat, i < n → p (ls.getD i []) = false, fun _ _ _ x8 _ => ls.length - x8.toNat, ⟨rfl, rfl, rfl, AHeap.le_refl _, 0, rfl, by omega, fun i hi => absurd hi (by omega)⟩, ?_⟩
  rintro x0 x1 x7 x8 G ⟨rfl, rfl, rfl, hG, n, rfl, hn', hp⟩
  unfold F179.B7
  refine pif_cases (fun hb => ?_) fun hb => ?_
  · have hn : n < ls.length := by have := of_decide_eq_true hb; omega
    unfold F179.B6 F179.B5
    refine (h.le hG).row hn fun w hw => hf n hn G hG w hw G (AHeap.le_refl _) _ fun G2 hG2 => asB_mk (pif_cases (fun hb => ?_) fun hb => ?_)
    · unfold F179.B4
      refine k _ _ (AHeap.le_trans hG hG2) ?_
      rw [List.any_eq_true.2 ⟨ls.getD n [], by rw [getD_of hn]; exact List.getElem_mem hn, hb⟩]; simp
    · unfold F179.B3
      rw [wrap_id (by omega) (by omega)]
      refine ⟨⟨rfl, rfl, rfl, AHeap.le_trans hG hG2, n + 1, by omega, by omega, fun i hi => ?_⟩, by simp; omega⟩
      by_cases he : i = n
      · subst he; exact hb
      · exact hp i (by omega)
  · have hge : n = ls.length := by have := of_decide_eq_false hb; omega
    unfold F179.B1
    refine k _ _ hG ?_
    have : ls.any p = false := by
      rw [List.any_eq_false]
      intro e he
      obtain ⟨i, hi, rfl⟩ := List.getElem_of_mem he
      have := hp i (by omega)
      rw [getD_of hi] at this; simp [this]
    rw [this]; simp
theorem areAllR_ok {p : List Int → Bool} (h : RowsR H v ls) (hl : ls.length ≤ 4611686018427387904) (hf1 : f.oneCell' = true) (hf : ∀ i, i < ls.length → ∀ G, H.le G → ∀ w, Ints G w (ls.getD i []) → Cl G f w (p (ls.getD i []))) (k : ∀ G, H.le G → K (.bool (ls.all p)) G) :
    AC Try.prog T0 114 [v, f] H K := by
  apply F114.ac
  unfold F114.B2
  refine pif_t hf1 (newK_f (by simp [hf1]) fun H1 l1 n1 o1 => ?_)
  unfold F114.B1
  apply F157.ac
  unfold F157.B2 F157.B1
  refine indexR_ok (p := fun e => !p e) (h.le l1) hl (fun i hi G hG w hw => ?_) fun r G hG hr => asI_mk (asB_mk ?_)
  · intro G2 hG2 K k
    refine callV_mk ?_
    apply F158.ac
    unfold F158.B2 F158.B1
    refine asP_mk (ld1_own ((o1.le hG).le hG2) rfl ?_)
    exact hf i hi G (AHeap.le_trans l1 hG) w hw G2 hG2 _ fun G' hG' => asB_mk (k _ hG')
  · have := k G (AHeap.le_trans l1 hG)
    rw [hr, show (!ls.any fun e => !p e) = ls.all p by rw [List.all_eq_not_any_not]]
    exact this

def SetsB (es : List (Int × Int)) (ls : List (List Int)) : Prop := ∀ l ∈ ls, IsS l es.length
noncomputable instance (es : List (Int × Int)) (ls : List (List Int)) : Decidable (SetsB es ls) := Classical.propDecidable _
theorem areSets_ok {n : Int} (h : Edges H v es) (hl : es.length ≤ 1048576) (hr : RowsR H u ls) (hrl : ls.length ≤ 1048576) (hrr : ∀ l ∈ ls, l.length ≤ 1048576) (k : ∀ G, H.le G → K (.bool (decide (SetsB es ls))) G) :
    AC Try.prog T0 71 [.agg ⟨[.int .i64 n, v]⟩, u] H K := by
  apply F71.ac
  unfold F71.B2
  refine newK_f (all_iv (edges_one' h)) fun H1 l1 n1 o1 => ?_
  unfold F71.B1
  refine areAllR_ok (p := fun l => decide (IsS l es.length)) (hr.le l1) (by omega) rfl (fun i hi G hG w hw => ?_) fun G hG => asB_mk ?_
  · intro G2 hG2 K k
    refine callV_mk ?_
    apply F115.ac
    unfold F115.B2 F115.B1
    have hll : (ls.getD i []).length ≤ 1048576 := by rw [getD_of hi]; exact hrr _ (List.getElem_mem hi)
    exact asP_mk (ld1_own ((o1.le hG).le hG2) rfl (lengthE_ok (h.le (AHeap.le_trans l1 (AHeap.le_trans hG hG2))) (asI_mk (isSet_ok (hw.le hG2) (by omega) (by omega) (by omega) (asB_mk (k _ (AHeap.le_refl _)))))))
  · have k := k G (AHeap.le_trans l1 hG)
    have e : ls.all (fun l => decide (IsS l es.length)) = decide (SetsB es ls) := by
      rw [Bool.eq_iff_iff, List.all_eq_true, decide_eq_true_iff]
      exact ⟨fun h l hl => of_decide_eq_true (h l hl), fun h l hl => decide_eq_true (h l hl)⟩
    rw [e]; exact k

theorem l07Lists_ok {n : Int} (h : Edges H v es) (hl : es.length ≤ 1048576) (hr : RowsR H u ls) (hrl : ls.length ≤ 1048576) (hrr : ∀ l ∈ ls, l.length ≤ 1048576) (k : ∀ G, H.le G → K (.int .i64 (if IsG n es then (if SetsB es ls then 0 else 2) else 1)) G) :
    AC Try.prog T0 69 [.agg ⟨[.int .i64 n, v]⟩, u] H K := by
  apply F69.ac
  unfold F69.B11
  refine newK_f (all_iv (edges_one' h)) fun H1 l1 n1 o1 => ?_
  unfold F69.B10
  refine ldI_own o1 rfl (ld1_own o1 rfl (l01Is_ok (h.le l1) hl fun H2 l2 => asB_mk ?_))
  have l12 := AHeap.le_trans l1 l2
  have k := k _ l12
  refine pif_cases (fun hb => ?_) fun hb => ?_
  · rw [Bool.not_eq_true'] at hb
    unfold F69.B9
    rw [if_neg (of_decide_eq_false hb)] at k; exact k
  · rw [Bool.not_eq_false'] at hb
    rw [if_pos (of_decide_eq_true hb)] at k
    unfold F69.B8 F69.L2
    refine ⟨fun x1 x2 x5 G => u = x1 ∧ H.length = x2 ∧ H2 = G ∧ ∃ i : Nat, x5 = i ∧ i ≤ ls.length ∧ ∀ j, j < i → IsS (ls.getD j []) es.length, fun _ _ x5 _ => ls.length - x5.toNat, ⟨rfl, rfl, rfl, 0, rfl, by omega, fun j hj => absurd hj (by omega)⟩, ?_⟩
    rintro x1 x2 x5 G ⟨rfl, rfl, rfl, i, rfl, hi, hp⟩
    unfold F69.B7
    refine (hr.le l12).len (pif_cases (fun hb => ?_) fun hb => ?_)
    · have hlt : i < ls.length := by have := of_decide_eq_true hb; omega
      have hll : (ls.getD i []).length ≤ 1048576 := by rw [getD_of hlt]; exact hrr _ (List.getElem_mem hlt)
      unfold F69.B6
      refine (hr.le l12).row hlt fun w hw => ld1_own (o1.le l2) rfl ((h.le l12).len (l03Set_ok hw (by omega) (by omega) (by omega) (asI_mk ?_)))
      unfold F69.B5
      by_cases hs : IsS (ls.getD i []) es.length
      · rw [if_pos hs]
        refine pif_f rfl ?_
        unfold F69.B3
        rw [wrap_id (by omega) (by omega)]
        refine ⟨⟨rfl, rfl, rfl, i + 1, by omega, by omega, fun j hj => ?_⟩, by simp; omega⟩
        by_cases e : j = i
        · subst e; exact hs
        · exact hp j (by omega)
      · rw [if_neg hs]
        refine pif_t rfl ?_
        unfold F69.B4
        rw [if_neg fun h : SetsB es ls => hs (by rw [getD_of hlt]; exact h _ (List.getElem_mem hlt))] at k
        exact k
    · have hge : i = ls.length := by have := of_decide_eq_false hb; omega
      subst hge
      unfold F69.B1
      rw [if_pos (show SetsB es ls from fun l hl => by
        obtain ⟨j, hj, rfl⟩ := List.getElem_of_mem hl
        have := hp j hj
        rwa [getD_of hj] at this)] at k
      exact k

/-- How often each number is in lists. -/
def cntL (m : Nat) (l : List Int) : List Int := l.foldl bump1 (List.replicate m 0)
theorem cntL_length (m : Nat) (l : List Int) : (cntL m l).length = m := by
  have key : ∀ (l : List Int) (cs : List Int), (l.foldl bump1 cs).length = cs.length := by
    intro l
    induction l with
    | nil => intro cs; rfl
    | cons x l ih => intro cs; rw [List.foldl_cons, ih, bump1_length]
  unfold cntL; rw [key]; simp
theorem cntL_snoc (m : Nat) (l : List Int) (x : Int) : cntL m (l ++ [x]) = bump1 (cntL m l) x := by unfold cntL; rw [List.foldl_append]; rfl
theorem cntL_le (m : Nat) (l : List Int) : ∀ c ∈ cntL m l, 0 ≤ c ∧ c ≤ l.length := by
  have key : ∀ (l : List Int) (cs : List Int) (B : Int), (∀ c ∈ cs, 0 ≤ c ∧ c ≤ B) → ∀ c ∈ l.foldl bump1 cs, 0 ≤ c ∧ c ≤ B + l.length := by
    intro l
    induction l with
    | nil => intro cs B h c hc; have := h c hc; simp; omega
    | cons x l ih =>
      intro cs B h c hc
      have := ih (bump1 cs x) (B + 1) (fun c hc => by have := bump1_le h x c hc; omega) c hc
      simp; omega
  intro c hc
  have := key l _ 0 (by intro c hc; rw [List.mem_replicate] at hc; omega) c hc
  omega
noncomputable def dblB (n : Int) (es : List (Int × Int)) (ls : List (List Int)) : Bool := ls.all (cycB n es) && (cntL es.length ls.flatten).all (fun c => c == 2)
theorem flat_take {i : Nat} (h : i < ls.length) : (ls.take (i + 1)).flatten = (ls.take i).flatten ++ ls.getD i [] := by
  rw [List.take_succ_eq_append_getElem h, List.flatten_append, getD_of h]; simp
theorem flat_len : ls.flatten.length = totL ls := by unfold totL; rw [List.length_flatten]
theorem flat_take_le (i : Nat) : (ls.take i).flatten.length ≤ totL ls := by rw [flat_len]; exact totL_le i

theorem all_no {p : List Int → Bool} {i : Nat} (hi : i < ls.length) (h : p (ls.getD i []) = false) : ls.all p = false := by
  cases ha : ls.all p with
  | false => rfl
  | true =>
    rw [List.all_eq_true] at ha
    have := ha _ (List.getElem_mem hi)
    rw [← getD_of (d := []) hi, h] at this
    cases this
theorem l07Double_ok {n : Int} (h : Edges H v es) (hg : IsG n es) (hr : RowsR H u ls) (hrl : ls.length ≤ 1048576) (ht : totL ls ≤ 1048576) (hS : SetsB es ls) (k : ∀ G, H.le G → K (.bool (dblB n es ls)) G) :
    AC Try.prog T0 70 [.agg ⟨[.int .i64 n, v]⟩, u] H K := by
  have h30 : es.length ≤ 30 := by have := hg.ed.len; have := hg.ed.hi; omega
  apply F70.ac
  unfold F70.B20
  refine newK_f (all_iv (edges_one' h)) fun H1 l1 n1 o1 => ?_
  unfold F70.B19
  refine ld1_own o1 rfl ((h.le l1).len (mkR_int (by omega) (by omega) (by decide) fun H2 l2 n2 o2 => ?_))
  rw [Int.toNat_natCast, rep_one] at o2
  rw [Int.toNat_natCast]
  have hsl : ∀ cs : List Int, cs.length = es.length → (.slice (some ⟨H1.length, 0, none⟩) es.length (es.length + 1) : Value) = .slice (some ⟨H1.length, 0, none⟩) cs.length (cs.length + 1) := fun cs h => by rw [h]
  unfold F70.B18 F70.L8
  refine ⟨fun x1 x2 x5 x6 G => u = x1 ∧ H.length = x2 ∧ .slice (some ⟨H1.length, 0, none⟩) es.length (es.length + 1) = x5 ∧ H1.le G ∧ ∃ i : Nat, x6 = i ∧ i ≤ ls.length ∧ Own G H1.length 2 (LI (cntL es.length (ls.take i).flatten)) ∧ ∀ j, j < i → cycB n es (ls.getD j []) = true, fun _ _ _ x6 _ => ls.length - x6.toNat, ⟨rfl, rfl, rfl, l2, 0, rfl, by omega, o2, fun j hj => absurd hj (by omega)⟩, ?_⟩
  rintro x1 x2 x5 x6 G ⟨rfl, rfl, rfl, hG, i, rfl, hi, oC, hp⟩
  have lG := AHeap.le_trans l1 hG
  have oG := o1.le hG
  unfold F70.B17
  refine (hr.le lG).len (pif_cases (fun hb => ?_) fun hb => ?_)
  · have hlt : i < ls.length := by have := of_decide_eq_true hb; omega
    have hs : IsS (ls.getD i []) es.length := by rw [getD_of hlt]; exact hS _ (List.getElem_mem hlt)
    have hfl := flat_take_le (ls := ls) (i + 1)
    rw [flat_take hlt, List.length_append] at hfl
    unfold F70.B16
    refine ldI_own oG rfl (ld1_own oG rfl ((hr.le lG).row hlt fun w hw => l07Cycle_ok (h.le lG) hg hw hs fun G2 l2 => asB_mk (pif_cases (fun hb => ?_) fun hb => ?_)))
    · rw [Bool.not_eq_true'] at hb
      unfold F70.B15
      have k := k _ (AHeap.le_trans lG l2)
      unfold dblB at k
      rw [all_no hlt hb, Bool.false_and] at k
      exact k
    · rw [Bool.not_eq_false'] at hb
      unfold F70.B14 F70.L10
      refine ⟨fun x1 x2 x5 x6 x7 G => u = x1 ∧ H.length = x2 ∧ .slice (some ⟨H1.length, 0, none⟩) es.length (es.length + 1) = x5 ∧ (i : Int) = x6 ∧ H1.le G ∧ ∃ t : Nat, x7 = t ∧ t ≤ (ls.getD i []).length ∧ Own G H1.length 2 (LI (cntL es.length ((ls.take i).flatten ++ (ls.getD i []).take t))), fun _ _ _ _ x7 _ => (ls.getD i []).length - x7.toNat, ⟨rfl, rfl, rfl, rfl, AHeap.le_trans hG l2, 0, rfl, by omega, by simpa using oC.le l2⟩, ?_⟩
      rintro x1 x2 x5 x6 x7 G3 ⟨rfl, rfl, rfl, rfl, hG3, t, rfl, ht', oC3⟩
      have lG3 := AHeap.le_trans l1 hG3
      unfold F70.B13
      refine (hr.le lG3).row hlt fun w3 hw3 => hw3.len (pif_cases (fun hb' => ?_) fun hb' => ?_)
      · have htl : t < (ls.getD i []).length := by have := of_decide_eq_true hb'; omega
        have hx := hs.range _ (List.getElem_mem htl)
        unfold F70.B12
        refine (hr.le lG3).row hlt fun w4 hw4 => hw4.rd (by omega) (by omega) ?_
        rw [Int.toNat_natCast, getD_of htl, hsl _ (cntL_length _ _)]
        refine bump_at oC3 hx.1 (by rw [cntL_length]; exact hx.2) (fun c hc => by
          have := cntL_le _ _ c hc
          have h5 : ((ls.getD i []).take t).length ≤ (ls.getD i []).length := List.length_take_le' ..
          rw [List.length_append] at this
          omega) fun G4 b4 o4 => ?_
        rw [← hsl _ (cntL_length _ _)]
        unfold F70.B11
        rw [wrap_id (by omega) (by omega)]
        refine ⟨⟨rfl, rfl, rfl, rfl, b4.le hG3 (Nat.le_refl _), t + 1, by omega, by omega, ?_⟩, show (ls.getD i []).length - ((t : Int) + 1).toNat < (ls.getD i []).length - ((t : Nat) : Int).toNat by omega⟩
        rw [List.take_succ_eq_append_getElem htl, ← List.append_assoc, cntL_snoc]; exact o4
      · have hge : t = (ls.getD i []).length := by have := of_decide_eq_false hb'; omega
        subst hge
        rw [List.take_length] at oC3
        unfold F70.B9
        rw [wrap_id (by omega) (by omega)]
        refine ⟨⟨rfl, rfl, rfl, hG3, i + 1, by omega, by omega, by rw [flat_take hlt]; exact oC3, fun j hj => ?_⟩, by simp; omega⟩
        by_cases e : j = i
        · subst e; exact hb
        · exact hp j (by omega)
  · have hge : i = ls.length := by have := of_decide_eq_false hb; omega
    subst hge
    rw [List.take_length] at oC
    have hall : ls.all (cycB n es) = true := by
      rw [List.all_eq_true]
      intro l hl
      obtain ⟨j, hj, rfl⟩ := List.getElem_of_mem hl
      have := hp j hj
      rwa [getD_of hj] at this
    have hC := own_ints (c := es.length + 1) oC
    rw [cntL_length] at hC
    have k := k _ lG
    unfold dblB at k
    rw [hall, Bool.true_and] at k
    unfold F70.B7 F70.L2
    refine ⟨fun x5 x8 G' => .slice (some ⟨H1.length, 0, none⟩) es.length (es.length + 1) = x5 ∧ G = G' ∧ ∃ e : Nat, x8 = e ∧ e ≤ es.length ∧ ∀ j, j < e → (cntL es.length ls.flatten).getD j 0 = 2, fun _ x8 _ => es.length - x8.toNat, ⟨rfl, rfl, 0, rfl, by omega, fun j hj => absurd hj (by omega)⟩, ?_⟩
    rintro x5 x8 G' ⟨rfl, rfl, e, rfl, he, hq⟩
    unfold F70.B6
    refine lenK_of (pif_cases (fun hb => ?_) fun hb => ?_)
    · have hlt : e < es.length := by have := of_decide_eq_true hb; omega
      have hlt2 : e < (cntL es.length ls.flatten).length := by rw [cntL_length]; exact hlt
      unfold F70.B5
      refine hC.rd (by omega) (by omega) ?_
      rw [Int.toNat_natCast]
      refine pif_cases (fun hs => ?_) fun hs => ?_
      · unfold F70.B4
        rw [show (cntL es.length ls.flatten).all (fun c => c == 2) = false from by
          cases ha : (cntL es.length ls.flatten).all (fun c => c == 2) with
          | false => rfl
          | true =>
            rw [List.all_eq_true] at ha
            have := ha _ (List.getElem_mem hlt2)
            rw [← getD_of (d := 0) hlt2] at this
            rw [beq_iff_eq.1 this] at hs; cases hs] at k
        exact k
      · unfold F70.B3
        rw [wrap_id (by omega) (by omega)]
        refine ⟨⟨rfl, rfl, e + 1, by omega, by omega, fun j hj => ?_⟩, by simp; omega⟩
        by_cases e' : j = e
        · subst e'; exact bne_eq_false_iff_eq.1 hs
        · exact hq j (by omega)
    · have hge : e = es.length := by have := of_decide_eq_false hb; omega
      subst hge
      unfold F70.B1
      rw [show (cntL es.length ls.flatten).all (fun c => c == 2) = true from by
        rw [List.all_eq_true]
        intro c hc
        obtain ⟨j, hj, rfl⟩ := List.getElem_of_mem hc
        have := hq j (by rw [cntL_length] at hj; exact hj)
        rw [getD_of hj] at this
        rw [this]; rfl] at k
      exact k

theorem isTwo_cl : ∀ c : Int, Cl H (.func (.func 118) ⟨[]⟩ ⟨[]⟩) (.int .i64 c) (c == 2) := by
  intro c G hG K k
  refine callV_mk ?_
  apply F118.ac
  unfold F118.B2 F118.B1
  exact k _ (AHeap.le_refl _)
theorem isDouble_ok {n : Int} (h : Edges H v es) (hg : IsG n es) (hr : RowsR H u ls) (hrl : ls.length ≤ 1048576) (ht : totL ls ≤ 1048576) (hS : SetsB es ls) (k : ∀ G, H.le G → K (.bool (dblB n es ls)) G) :
    AC Try.prog T0 72 [.agg ⟨[.int .i64 n, v]⟩, u] H K := by
  have h30 : es.length ≤ 30 := by have := hg.ed.len; have := hg.ed.hi; omega
  apply F72.ac
  unfold F72.B16
  refine newK_f (all_iv (edges_one' h)) fun H1 l1 n1 o1 => ?_
  unfold F72.B15
  refine ld1_own o1 rfl ((h.le l1).len (mkR_int (by omega) (by omega) (by decide) fun H2 l2 n2 o2 => ?_))
  rw [Int.toNat_natCast, rep_one] at o2
  rw [Int.toNat_natCast]
  have hsl : ∀ cs : List Int, cs.length = es.length → (.slice (some ⟨H1.length, 0, none⟩) es.length (es.length + 1) : Value) = .slice (some ⟨H1.length, 0, none⟩) cs.length (cs.length + 1) := fun cs h => by rw [h]
  unfold F72.B14
  refine (hr.le (AHeap.le_trans l1 l2)).len ?_
  unfold F72.L2
  refine ⟨fun x2 x5 x14 x15 x16 G => H.length = x2 ∧ .slice (some ⟨H1.length, 0, none⟩) es.length (es.length + 1) = x5 ∧ u = x14 ∧ (ls.length : Int) = x15 ∧ H1.le G ∧ ∃ i : Nat, x16 = i ∧ i ≤ ls.length ∧ Own G H1.length 3 (LI (cntL es.length (ls.take i).flatten)) ∧ ∀ j, j < i → cycB n es (ls.getD j []) = true, fun _ _ _ _ x16 _ => ls.length - x16.toNat, ⟨rfl, rfl, rfl, rfl, l2, 0, rfl, by omega, o2, fun j hj => absurd hj (by omega)⟩, ?_⟩
  rintro x2 x5 x14 x15 x16 G ⟨rfl, rfl, rfl, rfl, hG, i, rfl, hi, oC, hp⟩
  have lG := AHeap.le_trans l1 hG
  have oG := o1.le hG
  unfold F72.B13
  refine pif_cases (fun hb => ?_) fun hb => ?_
  · have hlt : i < ls.length := by have := of_decide_eq_true hb; omega
    have hs : IsS (ls.getD i []) es.length := by rw [getD_of hlt]; exact hS _ (List.getElem_mem hlt)
    have hfl := flat_take_le (ls := ls) (i + 1)
    rw [flat_take hlt, List.length_append] at hfl
    have hss := hs.short
    unfold F72.B12
    refine hr.rowB lG hlt fun w hw0 => ?_
    have hw := hw0.le lG
    unfold F72.B11
    refine ldI_own oG rfl (ld1_own oG rfl (setOf_ok hw (by omega) (fun x hx => by have := hs.range x hx; omega) (asI_mk ⟨AHeap.le_refl _, isCycle_ok (h.le lG) hg hs fun G2 l2 => asB_mk (pif_cases (fun hb => ?_) fun hb => ?_)⟩)))
    · rw [Bool.not_eq_true'] at hb
      unfold F72.B10
      have k := k _ (AHeap.le_trans lG l2)
      unfold dblB at k
      rw [all_no hlt hb, Bool.false_and] at k
      exact k
    · rw [Bool.not_eq_false'] at hb
      unfold F72.B9
      have hw2 := hw.le l2
      refine hw2.len ?_
      unfold F72.L4
      refine ⟨fun x2 x5 x14 x15 x16 x25 x26 x27 G => H.length = x2 ∧ .slice (some ⟨H1.length, 0, none⟩) es.length (es.length + 1) = x5 ∧ u = x14 ∧ (ls.length : Int) = x15 ∧ (i : Int) = x16 ∧ w = x25 ∧ ((ls.getD i []).length : Int) = x26 ∧ H1.le G ∧ ∃ t : Nat, x27 = t ∧ t ≤ (ls.getD i []).length ∧ Own G H1.length 3 (LI (cntL es.length ((ls.take i).flatten ++ (ls.getD i []).take t))), fun _ _ _ _ _ _ _ x27 _ => (ls.getD i []).length - x27.toNat, ⟨rfl, rfl, rfl, rfl, rfl, rfl, rfl, AHeap.le_trans hG l2, 0, rfl, by omega, by simpa using oC.le l2⟩, ?_⟩
      rintro x2 x5 x14 x15 x16 x25 x26 x27 G3 ⟨rfl, rfl, rfl, rfl, rfl, rfl, rfl, hG3, t, rfl, ht', oC3⟩
      have hw3 := hw0.le (AHeap.le_trans l1 hG3)
      unfold F72.B8
      refine pif_cases (fun hb' => ?_) fun hb' => ?_
      · have htl : t < (ls.getD i []).length := by have := of_decide_eq_true hb'; omega
        have hx := hs.range _ (List.getElem_mem htl)
        unfold F72.B7
        refine hw3.rd (by omega) (by omega) ?_
        rw [Int.toNat_natCast, getD_of htl]
        unfold F72.B6
        rw [hsl _ (cntL_length _ _)]
        refine bump_at oC3 hx.1 (by rw [cntL_length]; exact hx.2) (fun c hc => by
          have := cntL_le _ _ c hc
          have h5 : ((ls.getD i []).take t).length ≤ (ls.getD i []).length := List.length_take_le' ..
          rw [List.length_append] at this
          omega) fun G4 b4 o4 => ?_
        rw [← hsl _ (cntL_length _ _)]
        unfold F72.B5
        rw [wrap_id (by omega) (by omega)]
        have l4 := b4.le hG3 (Nat.le_refl _)
        refine ⟨⟨rfl, rfl, rfl, rfl, rfl, rfl, rfl, l4, t + 1, by omega, by omega, ?_⟩, show (ls.getD i []).length - ((t : Int) + 1).toNat < (ls.getD i []).length - ((t : Nat) : Int).toNat by omega⟩
        · rw [List.take_succ_eq_append_getElem htl, ← List.append_assoc, cntL_snoc]; exact o4
      · have hge : t = (ls.getD i []).length := by have := of_decide_eq_false hb'; omega
        subst hge
        rw [List.take_length] at oC3
        unfold F72.B3
        rw [wrap_id (by omega) (by omega)]
        refine ⟨⟨rfl, rfl, rfl, rfl, hG3, i + 1, by omega, by omega, by rw [flat_take hlt]; exact oC3, fun j hj => ?_⟩, by simp; omega⟩
        by_cases e : j = i
        · subst e; exact hb
        · exact hp j (by omega)
  · have hge : i = ls.length := by have := of_decide_eq_false hb; omega
    subst hge
    rw [List.take_length] at oC
    have hall : ls.all (cycB n es) = true := by
      rw [List.all_eq_true]
      intro l hl
      obtain ⟨j, hj, rfl⟩ := List.getElem_of_mem hl
      have := hp j hj
      rwa [getD_of hj] at this
    have hC := own_ints (c := es.length + 1) oC
    rw [cntL_length] at hC
    unfold F72.B1
    refine areAllI_ok (p := fun c => c == 2) hC (by rw [cntL_length]; omega) rfl (fun c _ => isTwo_cl c) fun G2 l2 => asB_mk ?_
    have k := k _ (AHeap.le_trans lG l2)
    unfold dblB at k
    rw [hall, Bool.true_and] at k
    exact k

noncomputable def dcCode (n : Int) (es : List (Int × Int)) (ls : List (List Int)) : Int := if IsG n es then (if SetsB es ls then 0 else 2) else 1
noncomputable def dcB (n : Int) (es : List (Int × Int)) (ls : List (List Int)) : Bool := if dcCode n es ls = 0 then dblB n es ls else false
theorem dcCode_zero {n : Int} (h : dcCode n es ls = 0) : IsG n es ∧ SetsB es ls := by
  unfold dcCode at h
  by_cases hg : IsG n es
  · rw [if_pos hg] at h
    by_cases hs : SetsB es ls
    · exact ⟨hg, hs⟩
    · rw [if_neg hs] at h; cases h
  · rw [if_neg hg] at h; cases h
theorem tot_row {l : List Int} (h : l ∈ ls) : l.length ≤ totL ls := by
  induction ls with
  | nil => cases h
  | cons a ls ih =>
    rcases List.mem_cons.1 h with rfl | h
    · simp [totL]
    · have := ih h
      simp [totL] at this ⊢; omega
theorem specDouble_ok {n : Int} (h : Edges H v es) (hl : es.length ≤ 1048576) (hr : RowsR H u ls) (hrl : ls.length + totL ls ≤ 1048576)
    (k : ∀ G, H.le G → K (.tuple ⟨[.bool (dcB n es ls), .int .i64 (dcCode n es ls)]⟩) G) : AC Try.prog T0 29 [.agg ⟨[.int .i64 n, v]⟩, u] H K := by
  have hrr : ∀ l ∈ ls, l.length ≤ 1048576 := fun l hl => by have := tot_row hl; omega
  apply F29.ac
  unfold F29.B5
  refine newK_f (all_iv (edges_one' h)) fun H1 l1 n1 o1 => ?_
  unfold F29.B4
  refine ldI_own o1 rfl (ld1_own o1 rfl (l07Lists_ok (h.le l1) hl (hr.le l1) (by omega) hrr fun H2 l2 => asI_mk ?_))
  have l12 := AHeap.le_trans l1 l2
  rw [show (if IsG n es then (if SetsB es ls then 0 else 2) else 1 : Int) = dcCode n es ls from rfl]
  unfold F29.B3
  unfold dcB at k
  refine pif_cases (fun hs => ?_) fun hs => ?_
  · unfold F29.B2
    have k := k _ l12
    rw [if_neg (bne_iff_ne.1 hs)] at k; exact k
  · have h0 : dcCode n es ls = 0 := bne_eq_false_iff_eq.1 hs
    obtain ⟨hg, hS⟩ := dcCode_zero h0
    unfold F29.B1
    refine ldI_own (o1.le l2) rfl (ld1_own (o1.le l2) rfl (l07Double_ok (h.le l12) hg (hr.le l12) (by omega) (by omega) hS fun H3 l3 => asB_mk ?_))
    have k := k _ (AHeap.le_trans l12 l3)
    rw [if_pos h0, h0] at k; exact k
theorem implDouble_ok {n : Int} (h : Edges H v es) (hl : es.length ≤ 1048576) (hr : RowsR H u ls) (hrl : ls.length + totL ls ≤ 1048576)
    (k : ∀ G, H.le G → K (.tuple ⟨[.bool (dcB n es ls), .int .i64 (dcCode n es ls)]⟩) G) : AC Try.prog T0 31 [.agg ⟨[.int .i64 n, v]⟩, u] H K := by
  have hrr : ∀ l ∈ ls, l.length ≤ 1048576 := fun l hl => by have := tot_row hl; omega
  apply F31.ac
  unfold F31.B5
  refine newK_f (all_iv (edges_one' h)) fun H1 l1 n1 o1 => ?_
  unfold F31.B4
  refine ldI_own o1 rfl (ld1_own o1 rfl (ldI_own o1 rfl (ld1_own o1 rfl (areSets_ok (h.le l1) hl (hr.le l1) (by omega) hrr fun H2 l2 => asB_mk ⟨l2, graphCode_ok (h.le (AHeap.le_trans l1 l2)) hl fun H3 l3 => asI_mk ?_⟩))))
  have l13 := AHeap.le_trans l1 (AHeap.le_trans l2 l3)
  have e : (if IsG n es then (if decide (SetsB es ls) = true then 0 else 2) else 1 : Int) = dcCode n es ls := by
    unfold dcCode
    by_cases hs : SetsB es ls
    · rw [decide_eq_true hs, if_pos rfl, if_pos hs]
    · rw [decide_eq_false hs, if_neg hs]; rfl
  rw [e]
  unfold F31.B3
  unfold dcB at k
  refine pif_cases (fun hs => ?_) fun hs => ?_
  · unfold F31.B2
    have k := k _ l13
    rw [if_neg (bne_iff_ne.1 hs)] at k; exact k
  · have h0 : dcCode n es ls = 0 := bne_eq_false_iff_eq.1 hs
    obtain ⟨hg, hS⟩ := dcCode_zero h0
    unfold F31.B1
    refine ldI_own ((o1.le l2).le l3) rfl (ld1_own ((o1.le l2).le l3) rfl (isDouble_ok (h.le l13) hg (hr.le l13) (by omega) (by omega) hS fun H4 l4 => asB_mk ?_))
    have k := k _ (AHeap.le_trans l13 l4)
    rw [if_pos h0, h0] at k; exact k
end Go.Proofs
