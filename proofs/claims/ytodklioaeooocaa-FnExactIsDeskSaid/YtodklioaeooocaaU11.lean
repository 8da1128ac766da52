/- The law of IsDesk. -/
import Derived.Test.YtodklioaeooocaaU10
import Derived.Test.YtodklioaeooocaaU7
set_option linter.unusedVariables false
set_option linter.unusedSimpArgs false
namespace Go.Proofs
open Go.Abs

variable {H : AHeap} {v u f va vb ua ub : Value} {l m a b : List Int} {es fs : List (Int × Int)} {K : Value → AHeap → Prop}

theorem all_ivvv {k : IntKind} {x : Int} {p q r : Value} (hp : p.oneCell' = true) (hq : q.oneCell' = true) (hr : r.oneCell' = true) : [Value.int k x, p, q, r].all Value.oneCell' = true := by simp [hp, hq, hr]; rfl
theorem mem_ivvv {k : IntKind} {x : Int} {p q r : Value} (hp : p.oneCell' = true) (hq : q.oneCell' = true) (hr : r.oneCell' = true) : ∀ v ∈ [Value.int k x, p, q, r], v.oneCell' = true := List.all_eq_true.1 (all_ivvv hp hq hr)

theorem szDesk_ok {n z : Int} (h : Edges H v es) (ha : Ints H va a) (hb : Ints H vb b) (hl : es.length ≤ 9223372036854775807) (la : a.length ≤ 9223372036854775807) (lb : b.length ≤ 9223372036854775807) (h0 : 0 ≤ n) (h1 : n ≤ 4611686018427387904)
    (k : ∀ r G, H.le G → (0 ≤ r → (es.length : Int) ≤ n ∧ (a.length : Int) ≤ n ∧ (b.length : Int) ≤ n) → K (.int .i64 r) G) : AC Try.prog T0 15 [.agg ⟨[.int .i64 z, v, va, vb]⟩, .int .i64 n] H K := by
  apply F15.ac
  unfold F15.B11
  refine newK_f (all_ivvv (edges_one' h) (ints_one ha) (ints_one hb)) fun H1 l1 n1 o1 => ?_
  unfold F15.B10
  refine ldI_own o1 rfl (ld1_own o1 rfl (szGraph_ok (h.le l1) hl h0 h1 (edges_one' h) fun H2 l2 => asI_mk ?_))
  have l12 := AHeap.le_trans l1 l2
  have o2 := l2.2 _ _ o1
  unfold F15.B9
  refine pif_cases (fun hs => by unfold F15.B8; exact k _ _ l12 fun h => by omega) fun hs => ?_
  have s1 : (es.length : Int) ≤ n := by
    have := of_decide_eq_false hs
    split at this <;> omega
  rw [if_neg (by omega)]
  unfold F15.B7
  refine ld1_own o2 rfl (szInt64S_ok (ha.le l12) la (by omega) (by omega) (asI_mk ?_))
  unfold F15.B6
  refine pif_cases (fun hs => by unfold F15.B5; exact k _ _ l12 fun h => by omega) fun hs => ?_
  have s2 : (a.length : Int) ≤ n - es.length := by
    have := of_decide_eq_false hs
    split at this <;> omega
  rw [if_neg (by omega)]
  unfold F15.B4
  refine ld1_own o2 rfl (szInt64S_ok (hb.le l12) lb (by omega) (by omega) (asI_mk ?_))
  unfold F15.B3
  refine pif_cases (fun hs => by unfold F15.B2; exact k _ _ l12 fun h => by omega) fun hs => ?_
  have s3 : (b.length : Int) ≤ n - es.length - a.length := by
    have := of_decide_eq_false hs
    split at this <;> omega
  unfold F15.B1
  exact k _ _ l12 fun _ => ⟨s1, by omega, by omega⟩

theorem toDesk_ok {z : Int} (h : Edges H v es) (ha : Ints H va a) (hb : Ints H vb b) (hl : es.length ≤ 4294967296) (la : a.length ≤ 4294967296) (lb : b.length ≤ 4294967296)
    (k : ∀ v' va' vb' G, H.le G → Edges G v' es → Ints G va' a → Ints G vb' b → K (.agg ⟨[.int .i64 z, v', va', vb']⟩) G) : AC Try.prog T0 17 [.agg ⟨[.int .i64 z, v, va, vb]⟩] H K := by
  apply F17.ac
  unfold F17.B6
  refine newK_f (all_ivvv (edges_one' h) (ints_one ha) (ints_one hb)) fun H1 l1 n1 o1 => newK_f rfl fun H2 l2 n2 o2 => ?_
  unfold F17.B5
  refine newK_f rfl fun H3 l3 n3 o3 => ?_
  have o13 := l3.2 _ _ (l2.2 _ _ o1); have o23 := l3.2 _ _ o2
  have l13 := AHeap.le_trans l1 (AHeap.le_trans l2 l3)
  unfold F17.B4
  refine ldI_own o13 rfl (ld1_own o13 rfl (toGraph_ok (h.le l13) hl fun w H4 l4 f4 => agg2_mk (asI_mk ?_)))
  have hw := edges_one' f4.edges
  refine stK_f (l4.2 _ _ o3) (by simp) (mem_iv hw) rfl fun H5 b5 o5 => ?_
  have keep : ∀ {w : Value} {G G' : AHeap} {e : TypeId} {z : Nat} {cs : List Value}, But H2.length G G' → Fresh H3.length G w e z cs → Fresh H3.length G' w e z cs := by
    intro w G G' e z cs hb hf
    rcases hf with hf | ⟨c, k, q1, q2, q3, q4⟩
    · exact .inl hf
    · exact .inr ⟨c, k, q1, q2, hb.own q3 (by omega), q4⟩
  have f5 := keep b5 f4
  have l5 : H2.le H5 := b5.le (AHeap.le_trans l3 l4) (Nat.le_refl _)
  unfold F17.B3
  have l15 := AHeap.le_trans l1 (AHeap.le_trans l2 l5)
  refine ld1_own (l5.2 _ _ (l2.2 _ _ o1)) rfl (toInt64S_ok (ha.le l15) la fun wa H6 l6 f6 => ?_)
  have hwa := ints_one f6.ints
  have f6 := f6.less (m' := H3.length) (by have := l4.1; have := b5.len; omega)
  have f56 := f5.le l6
  refine pif_t hwa (stK_f (l6.2 _ _ o5) (by simp) (by simpa using hwa) rfl fun H7 b7 o7 => ?_)
  have f57 := keep b7 f56; have f67 := keep b7 f6
  have l7 : H2.le H7 := b7.le (AHeap.le_trans l5 l6) (Nat.le_refl _)
  unfold F17.B2
  have l17 := AHeap.le_trans l1 (AHeap.le_trans l2 l7)
  refine ld1_own (l7.2 _ _ (l2.2 _ _ o1)) rfl (toInt64S_ok (hb.le l17) lb fun wb H8 l8 f8 => ?_)
  have hwb := ints_one f8.ints
  have f8 := f8.less (m' := H3.length) (by have := l4.1; have := b5.len; have := l6.1; have := b7.len; omega)
  have f58 := f57.le l8; have f68 := f67.le l8
  refine pif_t hwb (stK_f (l8.2 _ _ o7) (by simp) (by simpa using hwb) rfl fun H9 b9 o9 => ?_)
  have f59 := keep b9 f58; have f69 := keep b9 f68; have f89 := keep b9 f8
  have l9 : H2.le H9 := b9.le (AHeap.le_trans l7 l8) (Nat.le_refl _)
  unfold F17.B1
  refine ldI_own o9 rfl (ld1_own o9 rfl (ld1_own o9 rfl (ld1_own o9 rfl (stK_f (l9.2 _ _ o2) (by simp) (mem_ivvv hw hwa hwb) rfl fun H10 b10 o10 => ?_))))
  have keep2 : ∀ {w : Value} {e : TypeId} {z : Nat} {cs : List Value}, Fresh H3.length H9 w e z cs → Fresh H3.length H10 w e z cs := by
    intro w e z cs hf
    rcases hf with hf | ⟨c, k, q1, q2, q3, q4⟩
    · exact .inl hf
    · exact .inr ⟨c, k, q1, q2, b10.own q3 (by omega), q4⟩
  refine ldI_own o10 rfl (ld1_own o10 rfl (ld1_own o10 rfl (ld1_own o10 rfl ?_)))
  exact k _ _ _ _ (b10.le (AHeap.le_trans l1 (AHeap.le_trans l2 l9)) l1.1) (keep2 f59).edges (keep2 f69).ints (keep2 f89).ints

theorem eqDesk_ok {z : Int} (h : Edges H v es) (ha : Ints H va a) (hb : Ints H vb b) (g : Edges H u es) (ga : Ints H ua a) (gb : Ints H ub b) (hl : es.length ≤ 4294967296) (la : a.length ≤ 4294967296) (lb : b.length ≤ 4294967296)
    (k : ∀ G, H.le G → K (.bool true) G) : AC Try.prog T0 19 [.agg ⟨[.int .i64 z, v, va, vb]⟩, .agg ⟨[.int .i64 z, u, ua, ub]⟩] H K := by
  apply F19.ac
  unfold F19.B8
  refine newK_f (all_ivvv (edges_one' h) (ints_one ha) (ints_one hb)) fun H1 l1 n1 o1 => newK_f (all_ivvv (edges_one' g) (ints_one ga) (ints_one gb)) fun H2 l2 n2 o2 => ?_
  have o1 := l2.2 _ _ o1
  have l12 := AHeap.le_trans l1 l2
  unfold F19.B7
  refine ldI_own o1 rfl (ld1_own o1 rfl (ldI_own o2 rfl (ld1_own o2 rfl (eqGraph_ok (h.le l12) (g.le l12) hl fun H3 l3 => asB_mk (pif_f (by simp) ?_)))))
  have l13 := AHeap.le_trans l12 l3
  have o1 := l3.2 _ _ o1; have o2 := l3.2 _ _ o2
  unfold F19.B5
  refine ld1_own o1 rfl (ld1_own o2 rfl (eqInt64S_ok (ha.le l13) (ga.le l13) la (asB_mk (pif_f (by simp) ?_))))
  unfold F19.B3
  refine ld1_own o1 rfl (ld1_own o2 rfl (eqInt64S_ok (hb.le l13) (gb.le l13) lb (asB_mk (pif_f (by simp) ?_))))
  unfold F19.B1
  exact k _ l13

noncomputable def deskB (n : Int) (es : List (Int × Int)) (a b : List Int) : Bool := decide (IsG n es) && ((decide (a.length = 0) || decide (IsC es a)) && (decide (b.length = 0) || decide (IsM n es b)))

theorem specDesk_ok {n : Int} (h : Edges H v es) (hl : es.length ≤ 1048576) (ha : Ints H va a) (la : a.length ≤ 1048576) (hb : Ints H vb b) (lb : b.length ≤ 1048576) (k : ∀ G, H.le G → K (.bool (deskB n es a b)) G) :
    AC Try.prog T0 16 [.agg ⟨[.int .i64 n, v, va, vb]⟩] H K := by
  apply F16.ac
  unfold F16.B2
  refine newK_f (all_ivvv (edges_one' h) (ints_one ha) (ints_one hb)) fun H1 l1 n1 o1 => ?_
  unfold F16.B1
  unfold deskB at k
  refine ldI_own o1 rfl (ld1_own o1 rfl (l01Is_ok (h.le l1) hl fun H2 l2 => asB_mk (pif_cases (fun hs => ?_) fun hs => ?_)))
  · have hg := of_decide_eq_true hs
    have l12 := AHeap.le_trans l1 l2
    have o2 := l2.2 _ _ o1
    rw [decide_eq_true hg, Bool.true_and] at k
    refine ld1_own o2 rfl ((ha.le l12).len (pif_cases (fun hs => ?_) fun hs => ?_))
    · have e : a.length = 0 := by have := beq_iff_eq.1 hs; omega
      rw [decide_eq_true e, Bool.true_or, Bool.true_and] at k
      refine ld1_own o2 rfl ((hb.le l12).len (pif_cases (fun hs => ?_) fun hs => ?_))
      · have e : b.length = 0 := by have := beq_iff_eq.1 hs; omega
        rw [decide_eq_true e, Bool.true_or] at k; exact k _ l12
      · have e : ¬ b.length = 0 := by have := beq_eq_false_iff_ne.1 hs; omega
        rw [decide_eq_false e, Bool.false_or] at k
        exact ldI_own o2 rfl (ld1_own o2 rfl (ld1_own o2 rfl (l04Is_ok (h.le l12) hl hg (hb.le l12) lb fun H3 l3 => asB_mk (k _ (AHeap.le_trans l12 l3)))))
    · have e : ¬ a.length = 0 := by have := beq_eq_false_iff_ne.1 hs; omega
      rw [decide_eq_false e, Bool.false_or] at k
      refine ldI_own o2 rfl (ld1_own o2 rfl (ld1_own o2 rfl (l02Is_ok (h.le l12) hl hg (ha.le l12) la fun H3 l3 => asB_mk (pif_cases (fun hs => ?_) fun hs => ?_))))
      · have l13 := AHeap.le_trans l12 l3
        have o3 := l3.2 _ _ o2
        rw [hs, Bool.true_and] at k
        refine ld1_own o3 rfl ((hb.le l13).len (pif_cases (fun hs => ?_) fun hs => ?_))
        · have e : b.length = 0 := by have := beq_iff_eq.1 hs; omega
          rw [decide_eq_true e, Bool.true_or] at k; exact k _ l13
        · have e : ¬ b.length = 0 := by have := beq_eq_false_iff_ne.1 hs; omega
          rw [decide_eq_false e, Bool.false_or] at k
          exact ldI_own o3 rfl (ld1_own o3 rfl (ld1_own o3 rfl (l04Is_ok (h.le l13) hl hg (hb.le l13) lb fun H4 l4 => asB_mk (k _ (AHeap.le_trans l13 l4)))))
      · rw [hs, Bool.false_and] at k; exact k _ (AHeap.le_trans l12 l3)
  · rw [hs, Bool.false_and] at k; exact k _ (AHeap.le_trans l1 l2)

theorem implDesk_ok {n : Int} (h : Edges H v es) (hl : es.length ≤ 1048576) (ha : Ints H va a) (la : a.length ≤ 1048576) (hb : Ints H vb b) (lb : b.length ≤ 1048576) (k : ∀ G, H.le G → K (.bool (deskB n es a b)) G) :
    AC Try.prog T0 18 [.agg ⟨[.int .i64 n, v, va, vb]⟩] H K := by
  apply F18.ac
  unfold F18.B2
  refine newK_f (all_ivvv (edges_one' h) (ints_one ha) (ints_one hb)) fun H1 l1 n1 o1 => ?_
  unfold F18.B1
  unfold deskB at k
  refine ldI_own o1 rfl (ld1_own o1 rfl (IsGraph_ok (h.le l1) hl fun H2 l2 => asB_mk (pif_cases (fun hs => ?_) fun hs => ?_)))
  · have hg := of_decide_eq_true hs
    have l12 := AHeap.le_trans l1 l2
    have o2 := l2.2 _ _ o1
    rw [decide_eq_true hg, Bool.true_and] at k
    refine ld1_own o2 rfl ((ha.le l12).len (pif_cases (fun hs => ?_) fun hs => ?_))
    · have e : a.length = 0 := by have := beq_iff_eq.1 hs; omega
      rw [decide_eq_true e, Bool.true_or, Bool.true_and] at k
      refine ld1_own o2 rfl ((hb.le l12).len (pif_cases (fun hs => ?_) fun hs => ?_))
      · have e : b.length = 0 := by have := beq_iff_eq.1 hs; omega
        rw [decide_eq_true e, Bool.true_or] at k; exact k _ l12
      · have e : ¬ b.length = 0 := by have := beq_eq_false_iff_ne.1 hs; omega
        rw [decide_eq_false e, Bool.false_or] at k
        exact ldI_own o2 rfl (ld1_own o2 rfl (ld1_own o2 rfl (isMatching_ok (h.le l12) hl hg (hb.le l12) lb fun H3 l3 => asB_mk (k _ (AHeap.le_trans l12 l3)))))
    · have e : ¬ a.length = 0 := by have := beq_eq_false_iff_ne.1 hs; omega
      rw [decide_eq_false e, Bool.false_or] at k
      refine ldI_own o2 rfl (ld1_own o2 rfl (ld1_own o2 rfl (isColouring_ok (h.le l12) hl hg (ha.le l12) la fun H3 l3 => asB_mk (pif_cases (fun hs => ?_) fun hs => ?_))))
      · have l13 := AHeap.le_trans l12 l3
        have o3 := l3.2 _ _ o2
        rw [hs, Bool.true_and] at k
        refine ld1_own o3 rfl ((hb.le l13).len (pif_cases (fun hs => ?_) fun hs => ?_))
        · have e : b.length = 0 := by have := beq_iff_eq.1 hs; omega
          rw [decide_eq_true e, Bool.true_or] at k; exact k _ l13
        · have e : ¬ b.length = 0 := by have := beq_eq_false_iff_ne.1 hs; omega
          rw [decide_eq_false e, Bool.false_or] at k
          exact ldI_own o3 rfl (ld1_own o3 rfl (ld1_own o3 rfl (isMatching_ok (h.le l13) hl hg (hb.le l13) lb fun H4 l4 => asB_mk (k _ (AHeap.le_trans l13 l4)))))
      · rw [hs, Bool.false_and] at k; exact k _ (AHeap.le_trans l12 l3)
  · rw [hs, Bool.false_and] at k; exact k _ (AHeap.le_trans l1 l2)

theorem av_desk (h : AV T0 H 40 v) : ∃ n ve va vb es a b, v = .agg ⟨[.int .i64 n, ve, va, vb]⟩ ∧ Edges H ve es ∧ Ints H va a ∧ Ints H vb b ∧ es.length ≤ 9223372036854775807 ∧ a.length ≤ 9223372036854775807 ∧ b.length ≤ 9223372036854775807 := by
  obtain ⟨n, cs, c, rfl⟩ := AV_agg h (by kernel_rfl)
  obtain ⟨m, c⟩ := AT_struct (by kernel_rfl) c
  rw [show sFields (T0 40) = [24, 25, 25] by kernel_rfl] at c
  obtain ⟨g1, g2, h1, h2, h3, h4, h5⟩ := c
  rw [show sz T0 24 = 2 by kernel_rfl] at g1 g2 h1 h2 h3 h4 h5
  rw [show sz T0 25 = 1 by kernel_rfl] at h1 h2 h3 h4 h5
  obtain ⟨m', c⟩ := AT_struct (by kernel_rfl) g2
  rw [show sFields (T0 24) = [2, 22] by kernel_rfl] at c
  obtain ⟨k1, k2, k3, k4, k5⟩ := c
  rw [show sz T0 2 = 1 by kernel_rfl] at k1 k2 k3 k4 k5
  rw [show sz T0 22 = 1 by kernel_rfl] at k3 k4 k5
  obtain ⟨x, hx, _⟩ := AT_i64 (by kernel_rfl) k2
  obtain ⟨ve, es, hv, he, hel⟩ := AT_edges (e := 54) (i := 2) (by kernel_rfl) (by kernel_rfl) (by kernel_rfl) (by kernel_rfl) (by kernel_rfl) k4
  obtain ⟨va, a, hva, ha, hal, _⟩ := AT_ints (e := 2) (by kernel_rfl) (by kernel_rfl) (by kernel_rfl) h2
  obtain ⟨vb, b, hvb, hb, hbl, _⟩ := AT_ints (e := 2) (by kernel_rfl) (by kernel_rfl) (by kernel_rfl) h4
  refine ⟨x, ve, va, vb, es, a, b, ?_, he, ha, hb, hel, hal, hbl⟩
  match cs, g1, hx, hv, hva, hvb, h5 with
  | [p, q, r, s], _, hx, hv, hva, hvb, _ => simp at hx hv hva hvb; rw [hx, hv, hva, hvb]
  | [p, q], _, _, _, hva, _, _ => simp at hva
  | [p, q, r], _, _, _, _, hvb, _ => simp at hvb
  | p :: q :: r :: s :: t :: w, _, _, _, _, _, h5 => simp [Chunked] at h5

theorem isDesk_law (H : AHeap) (vs : List Value) (hv : AVs T0 H [40] vs) : AC Try.prog T0 4 vs H (fun v _ => v = .bool true) := by
  obtain ⟨v0, vs, rfl, a0, rfl⟩ := hv
  obtain ⟨n, ve, va, vb, es, a, b, rfl, he, ha, hb, hel, hal, hbl⟩ := av_desk a0
  apply F4.ac
  unfold F4.B13
  refine newK_f (all_ivvv (edges_one' he) (ints_one ha) (ints_one hb)) fun H1 l1 n1 o1 => ?_
  have he := he.le l1; have ha := ha.le l1; have hb := hb.le l1
  unfold F4.B12 F4.B11
  refine ldI_own o1 rfl (ld1_own o1 rfl (ld1_own o1 rfl (ld1_own o1 rfl (szDesk_ok he ha hb hel hal hbl (by decide) (by decide) fun r H2 l2 hr => asI_mk ?_))))
  unfold F4.B10
  refine pif_cases (fun _ => by unfold F4.B9; rfl) fun hs => ?_
  obtain ⟨s1, s2, s3⟩ := hr (by have := of_decide_eq_false hs; omega)
  have he := he.le l2; have ha := ha.le l2; have hb := hb.le l2; have o1 := l2.2 _ _ o1
  unfold F4.B8
  refine ldI_own o1 rfl (ld1_own o1 rfl (ld1_own o1 rfl (ld1_own o1 rfl (toDesk_ok he ha hb (by omega) (by omega) (by omega) fun we wa wb H3 l3 ge ga gb => agg4_mk (asI_mk ?_)))))
  refine specDesk_ok ge (by omega) ga (by omega) gb (by omega) fun H4 l4 => asB_mk ?_
  have l24 := AHeap.le_trans l3 l4
  have he := he.le l24; have ha := ha.le l24; have hb := hb.le l24; have o1 := l24.2 _ _ o1
  unfold F4.B7
  refine ldI_own o1 rfl (ld1_own o1 rfl (ld1_own o1 rfl (ld1_own o1 rfl (toDesk_ok he ha hb (by omega) (by omega) (by omega) fun xe xa xb H5 l5 fe fa fb => agg4_mk (asI_mk ?_)))))
  refine newK_f rfl fun H6 l6 n6 o6 => stK_f o6 (by simp) (mem_ivvv (edges_one' fe) (ints_one fa) (ints_one fb)) rfl fun H7 b7 o7 => ?_
  have l7 : H5.le H7 := b7.le l6 (Nat.le_refl _)
  have fe := fe.le l7; have fa := fa.le l7; have fb := fb.le l7
  have l57 := AHeap.le_trans l5 l7
  have he := he.le l57; have ha := ha.le l57; have hb := hb.le l57; have o1 := l57.2 _ _ o1
  unfold F4.B6
  refine ldI_own o7 rfl (ld1_own o7 rfl (ld1_own o7 rfl (ld1_own o7 rfl (implDesk_ok fe (by omega) fa (by omega) fb (by omega) fun H8 l8 => asB_mk ?_))))
  unfold F4.B5
  refine pif_f (by simp) ?_
  have fe := fe.le l8; have fa := fa.le l8; have fb := fb.le l8; have o7 := l8.2 _ _ o7
  have he := he.le l8; have ha := ha.le l8; have hb := hb.le l8; have o1 := l8.2 _ _ o1
  unfold F4.B3
  refine ldI_own o7 rfl (ld1_own o7 rfl (ld1_own o7 rfl (ld1_own o7 rfl (ldI_own o1 rfl (ld1_own o1 rfl (ld1_own o1 rfl (ld1_own o1 rfl (toDesk_ok he ha hb (by omega) (by omega) (by omega) fun ye ya yb H9 l9 ke ka kb => agg4_mk (asI_mk ⟨l9, ?_⟩)))))))))
  refine eqDesk_ok (fe.le l9) (fa.le l9) (fb.le l9) ke ka kb (by omega) (by omega) (by omega) fun H10 l10 => asB_mk (pif_f rfl ?_)
  unfold F4.B1
  rfl
end Go.Proofs
