/- ResistanceOf, WeakSet: both sides. -/
import Derived.Test.YtfcflpcmjlbedabU56
set_option linter.unusedVariables false
set_option linter.unusedSimpArgs false
set_option maxRecDepth 100000
namespace Go.Proofs
open Go.Abs

variable {H G : AHeap} {v u f : Value} {l m c D : List Int} {es fs : List (Int × Int)} {K : Value → AHeap → Prop}

noncomputable def wsL (n : Int) (es : List (Int × Int)) : List Int := if smCode n es 12 = 0 then wkOf es else []
noncomputable def rsN (n : Int) (es : List (Int × Int)) : Int := (wsL n es).length
theorem smCode_zero {n x : Int} (h : smCode n es x = 0) : IsG n es := by
  unfold smCode at h
  by_cases hg : IsG n es
  · exact hg
  · rw [if_neg hg] at h; cases h
theorem wsL_small {n : Int} : (wsL n es).length ≤ 1048576 := by
  unfold wsL
  by_cases h : smCode n es 12 = 0
  · rw [if_pos h]
    have hg := smCode_zero h
    have := (wkOf_isS (es := es)).short
    have := hg.ed.len; have := hg.ed.hi; omega
  · rw [if_neg h]; exact Nat.zero_le _
theorem specHead_ok {n : Int} {R : Value} (h : Edges H v es) (hl : es.length ≤ 1048576) {B2 B3 B1 : AHeap → Prop} {a : Nat} {ta : TypeId} (o1 : Own H a ta [.int .i64 n, v])
    (k2 : ∀ G, H.le G → smCode n es 12 = 1 → B2 G) (k3 : ∀ G, H.le G → smCode n es 12 = 3 → B3 G) (k1 : ∀ G, H.le G → smCode n es 12 = 0 → B1 G) :
    ldI .i64 H a 0 (fun v1 => ld1 H a 1 (fun v2 => AC Try.prog T0 47 [.agg ⟨[.int .i64 v1, v2]⟩] H (fun v3 H4 => asB v3 (fun v5 => pif (!v5) (B2 H4) (ldI .i64 H4 a 0 (fun v1 => pif (decide ((v1 : Int) > 12)) (B3 H4) (B1 H4))))))) := by
  refine ldI_own o1 rfl (ld1_own o1 rfl (l01Is_ok h hl fun H2 l2 => asB_mk (pif_cases (fun hs => ?_) fun hs => ?_)))
  · have hg : ¬ IsG n es := by simpa using hs
    exact k2 H2 l2 (by unfold smCode; rw [if_neg hg])
  · have hg : IsG n es := by simpa using hs
    refine ldI_own (o1.le l2) rfl (pif_cases (fun hb => ?_) fun hb => ?_)
    · exact k3 H2 l2 (by unfold smCode; rw [if_pos hg, if_pos (of_decide_eq_true hb)])
    · exact k1 H2 l2 (by unfold smCode; rw [if_pos hg, if_neg (of_decide_eq_false hb)])
theorem specRes_ok {n : Int} (h : Edges H v es) (hl : es.length ≤ 1048576) (k : ∀ G, H.le G → K (.tuple ⟨[.int .i64 (rsN n es), .int .i64 (smCode n es 12)]⟩) G) : AC Try.prog T0 26 [.agg ⟨[.int .i64 n, v]⟩] H K := by
  apply F26.ac
  unfold F26.B6
  refine newK_f (all_iv (edges_one' h)) fun H1 l1 _ o1 => ?_
  unfold F26.B5 F26.B4
  refine specHead_ok (R := v) (h.le l1) hl o1 (fun G lG e => ?_) (fun G lG e => ?_) fun G lG e => ?_
  · unfold F26.B2
    have k := k G (AHeap.le_trans l1 lG)
    unfold rsN wsL at k
    rw [if_neg (by rw [e]; decide), e] at k
    exact k
  · unfold F26.B3
    have k := k G (AHeap.le_trans l1 lG)
    unfold rsN wsL at k
    rw [if_neg (by rw [e]; decide), e] at k
    exact k
  · unfold F26.B1
    have l1G := AHeap.le_trans l1 lG
    refine ldI_own (o1.le lG) rfl (ld1_own (o1.le lG) rfl (l08Set_ok (smCode_zero e) (h.le l1G) fun w G2 l2 hw => hw.ints.len ?_))
    have k := k G2 (AHeap.le_trans l1G l2)
    unfold rsN wsL at k
    rw [if_pos e, e] at k
    exact k
theorem specWeak_ok {n : Int} (h : Edges H v es) (hl : es.length ≤ 1048576) (k : ∀ v' G, H.le G → Fresh H.length G v' 2 1 (LI (wsL n es)) → K (.tuple ⟨[v', .int .i64 (smCode n es 12)]⟩) G) : AC Try.prog T0 32 [.agg ⟨[.int .i64 n, v]⟩] H K := by
  apply F32.ac
  unfold F32.B6
  refine newK_f (all_iv (edges_one' h)) fun H1 l1 _ o1 => ?_
  unfold F32.B5 F32.B4
  refine specHead_ok (R := v) (h.le l1) hl o1 (fun G lG e => ?_) (fun G lG e => ?_) fun G lG e => ?_
  · unfold F32.B2
    have k := k (.slice none 0 0) G (AHeap.le_trans l1 lG)
    unfold wsL at k
    rw [if_neg (by rw [e]; decide), e] at k
    exact k (.inl ⟨rfl, .inl rfl⟩)
  · unfold F32.B3
    have k := k (.slice none 0 0) G (AHeap.le_trans l1 lG)
    unfold wsL at k
    rw [if_neg (by rw [e]; decide), e] at k
    exact k (.inl ⟨rfl, .inl rfl⟩)
  · unfold F32.B1
    have l1G := AHeap.le_trans l1 lG
    refine ldI_own (o1.le lG) rfl (ld1_own (o1.le lG) rfl (l08Set_ok (smCode_zero e) (h.le l1G) fun w G2 l2 hw => ?_))
    have k := k w G2 (AHeap.le_trans l1G l2)
    unfold wsL at k
    rw [if_pos e, e] at k
    exact k (hw.less l1G.1)
theorem implRes_ok {n : Int} (h : Edges H v es) (hl : es.length ≤ 1048576) (k : ∀ G, H.le G → K (.tuple ⟨[.int .i64 (rsN n es), .int .i64 (smCode n es 12)]⟩) G) : AC Try.prog T0 27 [.agg ⟨[.int .i64 n, v]⟩] H K := by
  apply F27.ac
  unfold F27.B5
  refine newK_f (all_iv (edges_one' h)) fun H1 l1 _ o1 => ?_
  unfold F27.B4
  refine ldI_own o1 rfl (ld1_own o1 rfl (smallCode_ok (h.le l1) hl fun H2 l2 => asI_mk ?_))
  have l12 := AHeap.le_trans l1 l2
  unfold F27.B3
  refine pif_cases (fun hs => ?_) fun hs => ?_
  · unfold F27.B2
    have k := k _ l12
    unfold rsN wsL at k
    rw [if_neg (bne_iff_ne.1 hs)] at k
    exact k
  · have e := bne_eq_false_iff_eq.1 hs
    have hg := smCode_zero e
    have h30 : es.length ≤ 30 := by have := hg.ed.len; have := hg.ed.hi; omega
    have hS := wkOf_isS (es := es)
    have hsn : setN (wkOf es) < 2 ^ 64 := setN_lt fun x hx => by have := hS.range x hx; omega
    unfold F27.B1
    refine ldI_own (o1.le l2) rfl (ld1_own (o1.le l2) rfl (weak_ok hg (h.le l12) fun H3 l3 => asI_mk (size_ok hsn (asI_mk ?_))))
    have k := k _ (AHeap.le_trans l12 l3)
    unfold rsN wsL at k
    rw [if_pos e, e] at k
    have hpc : popc (setN (wkOf es)) 64 = (wkOf es).length := by
      show (bitsL (setN (wkOf es))).length = _
      rw [hS.bits (by omega)]
    rw [hpc]
    exact k
theorem implWeak_ok {n : Int} (h : Edges H v es) (hl : es.length ≤ 1048576) (k : ∀ v' G, H.le G → Fresh H.length G v' 2 1 (LI (wsL n es)) → K (.tuple ⟨[v', .int .i64 (smCode n es 12)]⟩) G) : AC Try.prog T0 33 [.agg ⟨[.int .i64 n, v]⟩] H K := by
  apply F33.ac
  unfold F33.B5
  refine newK_f (all_iv (edges_one' h)) fun H1 l1 _ o1 => ?_
  unfold F33.B4
  refine ldI_own o1 rfl (ld1_own o1 rfl (smallCode_ok (h.le l1) hl fun H2 l2 => asI_mk ?_))
  have l12 := AHeap.le_trans l1 l2
  unfold F33.B3
  refine pif_cases (fun hs => ?_) fun hs => ?_
  · unfold F33.B2
    have k := k (.slice none 0 0) _ l12
    unfold wsL at k
    rw [if_neg (bne_iff_ne.1 hs)] at k
    exact k (.inl ⟨rfl, .inl rfl⟩)
  · have e := bne_eq_false_iff_eq.1 hs
    have hg := smCode_zero e
    have h30 : es.length ≤ 30 := by have := hg.ed.len; have := hg.ed.hi; omega
    have hS := wkOf_isS (es := es)
    have hsn : setN (wkOf es) < 2 ^ 64 := setN_lt fun x hx => by have := hS.range x hx; omega
    unfold F33.B1
    refine ldI_own (o1.le l2) rfl (ld1_own (o1.le l2) rfl (weak_ok hg (h.le l12) fun H3 l3 => asI_mk (list_ok hsn fun w H4 l4 hw => ?_)))
    rw [hS.bits (by omega)] at hw
    have l13 := AHeap.le_trans l12 l3
    have k := k w _ (AHeap.le_trans l13 l4)
    unfold wsL at k
    rw [if_pos e, e] at k
    exact k (hw.less l13.1)
end Go.Proofs
