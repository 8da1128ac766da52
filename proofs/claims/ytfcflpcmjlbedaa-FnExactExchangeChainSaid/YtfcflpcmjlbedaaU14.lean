/- Contracts: chains and exchanges, both sides. -/
import Derived.Test.YtfcflpcmjlbedaaU13
set_option linter.unusedVariables false
set_option linter.unusedSimpArgs false
set_option maxRecDepth 100000
namespace Go.Proofs
open Go.Abs

variable {H : AHeap} {v u f : Value} {l m c : List Int} {es fs : List (Int × Int)} {K : Value → AHeap → Prop}

theorem isColouring_any {n : Int} (h : Edges H v es) (hl : es.length ≤ 1048576) (hc : Ints H u c) (hcl : c.length ≤ 1048576) (k : ∀ G, H.le G → K (.bool (decide (IsG n es ∧ IsC es c))) G) :
    AC Try.prog T0 51 [.agg ⟨[.int .i64 n, v]⟩, u] H K := by
  by_cases hg : IsG n es
  · refine isColouring_ok h hl hg hc hcl fun G hG => ?_
    have k := k G hG
    rw [show decide (IsG n es ∧ IsC es c) = decide (IsC es c) from decide_eq_decide.2 ⟨fun h => h.2, fun h => ⟨hg, h⟩⟩] at k
    exact k
  · apply F51.ac
    unfold F51.B18
    refine newK_f (all_iv (edges_one' h)) fun H1 l1 n1 o1 => ?_
    unfold F51.B17
    refine ldI_own o1 rfl (ld1_own o1 rfl (IsGraph_ok (h.le l1) hl fun H2 l2 => asB_mk (pif_t (by rw [decide_eq_false hg]; rfl) ?_)))
    unfold F51.B16
    have k := k _ (AHeap.le_trans l1 l2)
    rw [decide_eq_false fun h => hg h.1] at k
    exact k
theorem isColour_ok {x : Int} (k : K (.bool (decide (0 ≤ x ∧ x ≤ 2))) H) : AC Try.prog T0 85 [.int .i64 x] H K := by
  apply F85.ac
  unfold F85.B2 F85.B1
  exact within_ok (asB_mk k)
theorem isEdge_ok {n x : Int} (h : Edges H v es) (hl : es.length ≤ 1048576) (k : ∀ G, H.le G → K (.bool (decide (0 ≤ x ∧ x ≤ (es.length : Int) - 1))) G) : AC Try.prog T0 88 [.agg ⟨[.int .i64 n, v]⟩, .int .i64 x] H K := by
  apply F88.ac
  unfold F88.B2
  refine newK_f (all_iv (edges_one' h)) fun H1 l1 n1 o1 => ?_
  unfold F88.B1
  refine ld1_own o1 rfl (lengthE_ok (h.le l1) (asI_mk ?_))
  rw [wrap_id (by omega) (by omega)]
  exact within_ok (asB_mk (k _ l1))

def ChIn (es : List (Int × Int)) (c : List Int) (e b : Int) : Prop := IsC es c ∧ (0 ≤ e ∧ e ≤ (es.length : Int) - 1) ∧ (0 ≤ b ∧ b ≤ 2) ∧ c.getD e.toNat 0 ≠ b
noncomputable instance (es : List (Int × Int)) (c : List Int) (e b : Int) : Decidable (ChIn es c e b) := Classical.propDecidable _
noncomputable def chCode (n : Int) (es : List (Int × Int)) (c : List Int) (e b : Int) : Int := if IsG n es then (if ChIn es c e b then 0 else 2) else 1
theorem chCode_no {n : Int} {e b : Int} (h : ¬ ChIn es c e b) : chCode n es c e b = if IsG n es then (if (false : Bool) then 0 else 2) else 1 := by
  unfold chCode; rw [if_neg h]; rfl
theorem chCode_zero {n : Int} {e b : Int} (h : chCode n es c e b = 0) : IsG n es ∧ ChIn es c e b := by
  unfold chCode at h
  by_cases hg : IsG n es
  · rw [if_pos hg] at h
    by_cases hc : ChIn es c e b
    · exact ⟨hg, hc⟩
    · rw [if_neg hc] at h; cases h
  · rw [if_neg hg] at h; cases h

theorem chainCode_ok {n e b : Int} (h : Edges H v es) (hl : es.length ≤ 1048576) (hc : Ints H u c) (hcl : c.length ≤ 1048576) (k : ∀ G, H.le G → K (.int .i64 (chCode n es c e b)) G) :
    AC Try.prog T0 55 [.agg ⟨[.int .i64 n, v]⟩, u, .int .i64 e, .int .i64 b] H K := by
  apply F55.ac
  unfold F55.B2
  refine newK_f (all_iv (edges_one' h)) fun H1 l1 n1 o1 => ?_
  unfold F55.B1
  refine ldI_own o1 rfl (ld1_own o1 rfl (ldI_own o1 rfl (ld1_own o1 rfl (isColouring_any (h.le l1) hl (hc.le l1) hcl fun H2 l2 => asB_mk ⟨l2, ?_⟩))))
  have l12 := AHeap.le_trans l1 l2
  refine pif_cases (fun hb => ?_) fun hb => ?_
  · have hb := of_decide_eq_true hb
    refine ldI_own (o1.le l2) rfl (ld1_own (o1.le l2) rfl (isEdge_ok (h.le l12) hl fun H3 l3 => asB_mk ⟨l3, ?_⟩))
    have l13 := AHeap.le_trans l12 l3
    refine pif_cases (fun hs => ?_) fun hs => ?_
    · have hs := of_decide_eq_true hs
      refine isColour_ok (asB_mk ⟨AHeap.le_refl _, pif_cases (fun ht => ?_) fun ht => ?_⟩)
      · have ht := of_decide_eq_true ht
        have := hb.2.len
        refine (hc.le l13).rd hs.1 (by omega) (graphCode_ok (h.le l13) hl fun H4 l4 => asI_mk ?_)
        have k := k _ (AHeap.le_trans l13 l4)
        unfold chCode at k
        rw [if_pos hb.1] at k ⊢
        by_cases hne : c.getD e.toNat 0 = b
        · rw [if_neg fun h : ChIn es c e b => h.2.2.2 hne] at k
          rw [hne]; simpa using k
        · rw [if_pos (show ChIn es c e b from ⟨hb.2, hs, ht, hne⟩)] at k
          rw [if_pos (show (c.getD e.toNat 0 != b) = true by simpa using hne)]; exact k
      · refine graphCode_ok (h.le l13) hl fun H4 l4 => asI_mk ?_
        have k := k _ (AHeap.le_trans l13 l4)
        rw [chCode_no fun h : ChIn es c e b => of_decide_eq_false ht h.2.2.1] at k; exact k
    · refine graphCode_ok (h.le l13) hl fun H4 l4 => asI_mk ?_
      have k := k _ (AHeap.le_trans l13 l4)
      rw [chCode_no fun h : ChIn es c e b => of_decide_eq_false hs h.2.1] at k; exact k
  · refine graphCode_ok (h.le l12) hl fun H4 l4 => asI_mk ?_
    have k := k _ (AHeap.le_trans l12 l4)
    by_cases hg : IsG n es
    · rw [chCode_no fun h : ChIn es c e b => of_decide_eq_false hb ⟨hg, h.1⟩] at k; exact k
    · unfold chCode at k; rw [if_neg hg] at k ⊢; exact k

theorem l02Code_ok {n : Int} {b : Nat} (h : Edges H v es) (hl : es.length ≤ 1048576) (hc : Ints H u c) (hcl : c.length ≤ 1048576) (ho : Own H b 25 [u]) (k : ∀ G, H.le G → K (.int .i64 (if IsG n es then (if IsC es c then 0 else 2) else 1)) G) :
    AC Try.prog T0 62 [.agg ⟨[.int .i64 n, v]⟩, .slice (some ⟨b, 0, none⟩) 1 (1 + 1)] H K := by
  apply F62.ac
  unfold F62.B10
  refine newK_f (all_iv (edges_one' h)) fun H1 l1 n1 o1 => ?_
  unfold F62.B9
  refine ldI_own o1 rfl (ld1_own o1 rfl (l01Is_ok (h.le l1) hl fun H2 l2 => asB_mk ?_))
  have l12 := AHeap.le_trans l1 l2
  refine pif_cases (fun hb => ?_) fun hb => ?_
  · rw [Bool.not_eq_true'] at hb
    unfold F62.B8
    have k := k _ l12
    rw [if_neg (of_decide_eq_false hb)] at k; exact k
  · rw [Bool.not_eq_false'] at hb
    have hg : IsG n es := of_decide_eq_true hb
    rw [if_pos hg] at k
    unfold F62.B7 F62.L2
    refine ⟨fun x1 x2 x5 G => .slice (some ⟨b, 0, none⟩) 1 (1 + 1) = x1 ∧ H.length = x2 ∧ H2.le G ∧ (x5 = 0 ∨ (x5 = 1 ∧ IsC es c)), fun _ _ x5 _ => 1 - x5.toNat, ⟨rfl, rfl, AHeap.le_refl _, .inl rfl⟩, ?_⟩
    rintro x1 x2 x5 G ⟨rfl, rfl, hG, p⟩
    have lG := AHeap.le_trans l12 hG
    have oG := (o1.le l2).le hG
    unfold F62.B6
    rcases p with rfl | ⟨rfl, p⟩
    · refine lenK_of (pif_t rfl ?_)
      unfold F62.B5
      refine ldI_own oG rfl (ld1_own oG rfl ⟨by decide, by decide, ld1_own (ho.le lG) rfl (l02Is_ok (h.le lG) hl hg (hc.le lG) hcl fun H3 l3 => asB_mk ?_)⟩)
      refine pif_cases (fun hb => ?_) fun hb => ?_
      · rw [Bool.not_eq_true'] at hb
        unfold F62.B4
        have k := k _ (AHeap.le_trans lG l3)
        rw [if_neg (of_decide_eq_false hb)] at k; exact k
      · rw [Bool.not_eq_false'] at hb
        unfold F62.B3
        exact ⟨⟨rfl, rfl, AHeap.le_trans hG l3, .inr ⟨rfl, of_decide_eq_true hb⟩⟩, show 1 - (IntKind.i64.wrap (0 + 1)).toNat < 1 - (0 : Int).toNat by decide⟩
    · refine lenK_of (pif_f rfl ?_)
      unfold F62.B1
      have k := k _ lG
      rw [if_pos p] at k; exact k

theorem l02Given_ok {n e b : Int} (h : Edges H v es) (hl : es.length ≤ 1048576) (hc : Ints H u c) (hcl : c.length ≤ 1048576) (k : ∀ G, H.le G → K (.int .i64 (chCode n es c e b)) G) :
    AC Try.prog T0 53 [.agg ⟨[.int .i64 n, v]⟩, u, .int .i64 e, .int .i64 b] H K := by
  apply F53.ac
  unfold F53.B7
  refine newK_f (all_iv (edges_one' h)) fun H1 l1 n1 o1 => ?_
  unfold F53.B6
  have h1 := ints_one hc
  refine ldI_own o1 rfl (ld1_own o1 rfl (pif_t h1 (newK_f (by simpa using h1) fun H2 l2 n2 o2 => l02Code_ok (h.le (AHeap.le_trans l1 l2)) hl (hc.le (AHeap.le_trans l1 l2)) hcl o2 fun H3 l3 => asI_mk ?_)))
  have l13 := AHeap.le_trans l1 (AHeap.le_trans l2 l3)
  have k := k _ l13
  unfold chCode at k
  unfold F53.B5
  by_cases hg : IsG n es
  · rw [if_pos hg] at k ⊢
    by_cases hi : IsC es c
    · rw [if_pos hi]
      refine pif_f rfl ?_
      have no : ¬ ChIn es c e b → F53.B2 K H3 := by
        intro hn
        unfold F53.B2
        rw [if_neg hn] at k; exact k
      unfold F53.B3
      have := hi.len
      refine (hc.le l13).len (l01In_ok (asB_mk ?_))
      rw [wrap_id (by omega) (by omega)]
      refine pif_cases (fun hs => ?_) fun hs => ?_
      · rw [Bool.not_eq_true'] at hs
        exact no fun h => of_decide_eq_false hs (by have := h.2.1; omega)
      · rw [Bool.not_eq_false'] at hs
        have hs := of_decide_eq_true hs
        refine l01In_ok (asB_mk (pif_cases (fun ht => ?_) fun ht => ?_))
        · rw [Bool.not_eq_true'] at ht
          exact no fun h => of_decide_eq_false ht h.2.2.1
        · rw [Bool.not_eq_false'] at ht
          have ht := of_decide_eq_true ht
          refine (hc.le l13).rd hs.1 (by omega) (pif_cases (fun hu => ?_) fun hu => ?_)
          · exact no fun h => h.2.2.2 (by simpa using hu)
          · unfold F53.B1
            rw [if_pos (show ChIn es c e b from ⟨hi, by omega, ht, by simpa using hu⟩)] at k; exact k
    · rw [if_neg fun h : ChIn es c e b => hi h.1] at k
      rw [if_neg hi]
      refine pif_t rfl ?_
      unfold F53.B4
      exact k
  · rw [if_neg hg] at k ⊢
    refine pif_t rfl ?_
    unfold F53.B4
    exact k

/-- The numbers less than n with a mark. -/
def filtB (S : Nat → Bool) (k : Nat) : List Int := ((List.range k).filter S).map Int.ofNat
theorem filtB_succ (S : Nat → Bool) (k : Nat) : filtB S (k + 1) = filtB S k ++ (if S k then [(k : Int)] else []) := by
  unfold filtB
  rw [List.range_succ, List.filter_append, List.map_append]
  congr 1
  cases h : S k <;> simp [h]
theorem filtB_length (S : Nat → Bool) (k : Nat) : (filtB S k).length ≤ k := by
  unfold filtB; rw [List.length_map]
  exact Nat.le_trans (List.length_filter_le _ _) (by simp)
theorem filtB_congr {S S' : Nat → Bool} {k : Nat} (h : ∀ i, i < k → S i = S' i) : filtB S k = filtB S' k := by
  unfold filtB
  rw [List.filter_congr fun i hi => h i (List.mem_range.1 hi)]
theorem bits_lt {s n : Nat} (h : ∀ j, s.testBit j = true → j < n) : s < 2 ^ n := by
  apply Nat.lt_pow_two_of_testBit
  intro i hi
  cases hb : s.testBit i with
  | false => rfl
  | true => have := h i hb; omega
theorem bitsL_filt {s n : Nat} (hn : n ≤ 64) (h : ∀ j, s.testBit j = true → j < n) : bitsL s = filtB (fun j => s.testBit j) n := by
  have e := bitsTo_end (Nat.div_eq_of_lt (bits_lt h)) (64 - n)
  rw [show n + (64 - n) = 64 by omega] at e
  exact e
noncomputable def rchB (adj : Nat → Nat → Prop) (e : Nat) (j : Nat) : Bool := decide (Rch adj e j)
noncomputable def chList (n : Int) (es : List (Int × Int)) (c : List Int) (e b : Int) : List Int := if chCode n es c e b = 0 then filtB (rchB (eAdj es (chP c e.toNat b)) e.toNat) es.length else []
theorem dec_eq {p : Prop} [Decidable p] {b : Bool} (h : b = true ↔ p) : b = decide p := by
  rw [Bool.eq_iff_iff, h]; simp

theorem filt_bools {b0 N : Nat} {S : List Bool} {f : Nat → Bool} (hS : S.length = N) (hf : ∀ j, S.getD j false = f j) {i : Nat} (hi : i < N) (ho : Own H b0 4 (LB S)) : (LB S)[i]? = some (.bool (f i)) := by
  rw [LB_get (by omega), hf]

theorem specChain_ok {n e b : Int} (h : Edges H v es) (hl : es.length ≤ 1048576) (hc : Ints H u c) (hcl : c.length ≤ 1048576)
    (k : ∀ v' G, H.le G → Fresh H.length G v' 2 1 (LI (chList n es c e b)) → K (.tuple ⟨[v', .int .i64 (chCode n es c e b)]⟩) G) : AC Try.prog T0 25 [.agg ⟨[.int .i64 n, v]⟩, u, .int .i64 e, .int .i64 b] H K := by
  apply F25.ac
  unfold F25.B12
  refine newK_f (all_iv (edges_one' h)) fun H1 l1 n1 o1 => ?_
  unfold F25.B11
  refine ldI_own o1 rfl (ld1_own o1 rfl (l02Given_ok (e := e) (b := b) (h.le l1) hl (hc.le l1) hcl fun H2 l2 => asI_mk ?_))
  have l12 := AHeap.le_trans l1 l2
  unfold F25.B10
  refine pif_cases (fun hs => ?_) fun hs => ?_
  · unfold F25.B9
    exact k _ _ l12 (.inl ⟨by rw [chList, if_neg (bne_iff_ne.1 hs)]; rfl, .inl rfl⟩)
  · have h0 : chCode n es c e b = 0 := bne_eq_false_iff_eq.1 hs
    obtain ⟨hg, hi, he, hb, hne⟩ := chCode_zero h0
    obtain ⟨e, rfl⟩ : ∃ e' : Nat, e = e' := ⟨e.toNat, by omega⟩
    unfold chList at k
    rw [if_pos h0, Int.toNat_natCast] at k
    have h30 : es.length ≤ 30 := by have := hg.ed.len; have := hg.ed.hi; omega
    unfold F25.B8
    refine ldI_own (o1.le l2) rfl (ld1_own (o1.le l2) rfl (l02Chain_ok (h.le l12) hg (hc.le l12) hi.len (by omega) fun b0 S H3 l3 o3 hb0 hS hr => newK_f rfl fun H4 l4 n4 o4 => ?_))
    have hf : ∀ j, S.getD j false = rchB (eAdj es (chP c e b)) e j := fun j => dec_eq (hr j)
    have l14 := AHeap.le_trans l12 (AHeap.le_trans l3 l4)
    unfold F25.B7 F25.L2
    refine ⟨fun x11 x12 x13 G => .slice (some ⟨b0, 0, none⟩) es.length (es.length + 1) = x11 ∧ H3.le G ∧ ∃ i : Nat, x13 = i ∧ i ≤ es.length ∧ Fresh H3.length G x12 2 1 (LI (filtB (rchB (eAdj es (chP c e b)) e) i)), fun _ _ x13 _ => es.length - x13.toNat,
      ⟨rfl, l4, 0, rfl, by omega, .inr ⟨_, 0, Nat.le_refl _, rfl, o4, rfl⟩⟩, ?_⟩
    rintro x11 x12 x13 G ⟨rfl, hG, i, rfl, hi', hF⟩
    unfold F25.B6
    refine pif_cases (fun hb => ?_) fun hb => ?_
    · have hlt : i < es.length := by have := of_decide_eq_true hb; omega
      unfold F25.B5
      refine own_idx (by omega) (by omega) (ld1_own (o3.le hG) (by rw [Int.toNat_natCast]; exact filt_bools hS hf hlt o3) (asB_mk (pif_cases (fun hs => ?_) fun hs => ?_)))
      · unfold F25.B4
        refine hF.sl.pushN E_int (by decide) hG.1 (n := 1) (ys := [.int .i64 i]) rfl rfl (by have := filtB_length (rchB (eAdj es (chP c e b)) e) i; simp; omega) (by simp) fun v' G2 k2 _ _ f2 => ?_
        unfold F25.B3
        rw [wrap_id (by omega) (by omega)]
        refine ⟨⟨rfl, k2.le hG (Nat.le_refl _), i + 1, by omega, by omega, ?_⟩, by simp; omega⟩
        rw [filtB_succ, if_pos hs]; simpa using f2
      · unfold F25.B3
        rw [wrap_id (by omega) (by omega)]
        refine ⟨⟨rfl, hG, i + 1, by omega, by omega, ?_⟩, by simp; omega⟩
        rw [filtB_succ, if_neg (by rw [hs]; decide), List.append_nil]; exact hF
    · have : i = es.length := by have := of_decide_eq_false hb; omega
      subst this
      unfold F25.B1
      have l13 := AHeap.le_trans l12 l3
      have k := k _ _ (AHeap.le_trans l13 hG) (hF.less l13.1)
      rw [h0] at k; exact k

theorem implChain_ok {n e b : Int} (h : Edges H v es) (hl : es.length ≤ 1048576) (hc : Ints H u c) (hcl : c.length ≤ 1048576)
    (k : ∀ v' G, H.le G → Fresh H.length G v' 2 1 (LI (chList n es c e b)) → K (.tuple ⟨[v', .int .i64 (chCode n es c e b)]⟩) G) : AC Try.prog T0 26 [.agg ⟨[.int .i64 n, v]⟩, u, .int .i64 e, .int .i64 b] H K := by
  apply F26.ac
  unfold F26.B5
  refine newK_f (all_iv (edges_one' h)) fun H1 l1 n1 o1 => ?_
  unfold F26.B4
  refine ldI_own o1 rfl (ld1_own o1 rfl (chainCode_ok (e := e) (b := b) (h.le l1) hl (hc.le l1) hcl fun H2 l2 => asI_mk ?_))
  have l12 := AHeap.le_trans l1 l2
  unfold F26.B3
  refine pif_cases (fun hs => ?_) fun hs => ?_
  · unfold F26.B2
    exact k _ _ l12 (.inl ⟨by rw [chList, if_neg (bne_iff_ne.1 hs)]; rfl, .inl rfl⟩)
  · have h0 : chCode n es c e b = 0 := bne_eq_false_iff_eq.1 hs
    obtain ⟨hg, hi, he, hb, hne⟩ := chCode_zero h0
    obtain ⟨e, rfl⟩ : ∃ e' : Nat, e = e' := ⟨e.toNat, by omega⟩
    unfold chList at k
    rw [if_pos h0, Int.toNat_natCast] at k
    have h30 : es.length ≤ 30 := by have := hg.ed.len; have := hg.ed.hi; omega
    unfold F26.B1
    refine ldI_own (o1.le l2) rfl (ld1_own (o1.le l2) rfl (chain_ok (h.le l12) hg (hc.le l12) hi.len (by omega) fun s H3 l3 hs3 hbn hr => asI_mk (list_ok hs3 fun v' H4 l4 f4 => ?_)))
    rw [bitsL_filt (by omega) hbn, filtB_congr (S' := rchB (eAdj es (chP c e b)) e) fun j _ => dec_eq (hr j)] at f4
    have l13 := AHeap.le_trans l12 l3
    have k := k _ _ (AHeap.le_trans l13 l4) (f4.less l13.1)
    rw [h0] at k; exact k

/-- A colouring with a chain exchanged. -/
noncomputable def exAt (es : List (Int × Int)) (c : List Int) (e : Nat) (b : Int) (f : Nat) : Int := if rchB (eAdj es (chP c e b)) e f then c.getD e 0 + b - c.getD f 0 else c.getD f 0
noncomputable def exTo (es : List (Int × Int)) (c : List Int) (e : Nat) (b : Int) (k : Nat) : List Int := (List.range k).map (exAt es c e b)
theorem exTo_succ (es : List (Int × Int)) (c : List Int) (e : Nat) (b : Int) (k : Nat) : exTo es c e b (k + 1) = exTo es c e b k ++ [exAt es c e b k] := by
  unfold exTo; rw [List.range_succ, List.map_append]; rfl
theorem exTo_length (es : List (Int × Int)) (c : List Int) (e : Nat) (b : Int) (k : Nat) : (exTo es c e b k).length = k := by simp [exTo]
noncomputable def exList (n : Int) (es : List (Int × Int)) (c : List Int) (e b : Int) : List Int := if chCode n es c e b = 0 then exTo es c e.toNat b es.length else []
theorem IsC.get {es : List (Int × Int)} {c : List Int} (h : IsC es c) (i : Nat) : 0 ≤ c.getD i 0 ∧ c.getD i 0 ≤ 2 := by
  by_cases hi : i < c.length
  · rw [getD_of hi]; exact h.rng _ (List.getElem_mem hi)
  · simp [List.getD, List.getElem?_eq_none (show c.length ≤ i by omega)]

theorem l02Exchange_ok {n b : Int} {e : Nat} (h : Edges H v es) (hg : IsG n es) (hc : Ints H u c) (hi : IsC es c) (he : e < es.length) (hb : 0 ≤ b ∧ b ≤ 2)
    (k : ∀ v' G, H.le G → Fresh H.length G v' 2 1 (LI (exTo es c e b es.length)) → K v' G) : AC Try.prog T0 60 [.agg ⟨[.int .i64 n, v]⟩, u, .int .i64 (e : Nat), .int .i64 b] H K := by
  have h30 : es.length ≤ 30 := by have := hg.ed.len; have := hg.ed.hi; omega
  have hcl := hi.len
  apply F60.ac
  unfold F60.B10
  refine newK_f (all_iv (edges_one' h)) fun H1 l1 n1 o1 => ?_
  unfold F60.B9
  refine ldI_own o1 rfl (ld1_own o1 rfl (l02Chain_ok (h.le l1) hg (hc.le l1) hcl he fun b0 S H3 l3 o3 hb0 hS hr => newK_f rfl fun H4 l4 n4 o4 => ?_))
  have hf : ∀ j, S.getD j false = rchB (eAdj es (chP c e b)) e j := fun j => dec_eq (hr j)
  have l13 := AHeap.le_trans l1 l3
  unfold F60.B8 F60.L2
  refine ⟨fun x1 x2 x3 x9 x10 x11 G => u = x1 ∧ (e : Int) = x2 ∧ b = x3 ∧ .slice (some ⟨b0, 0, none⟩) es.length (es.length + 1) = x9 ∧ H3.le G ∧ ∃ i : Nat, x11 = i ∧ i ≤ es.length ∧ Fresh H3.length G x10 2 1 (LI (exTo es c e b i)), fun _ _ _ _ _ x11 _ => es.length - x11.toNat,
    ⟨rfl, rfl, rfl, rfl, l4, 0, rfl, by omega, .inr ⟨_, 0, Nat.le_refl _, rfl, o4, rfl⟩⟩, ?_⟩
  rintro x1 x2 x3 x9 x10 x11 G ⟨rfl, rfl, rfl, rfl, hG, i, rfl, hi', hF⟩
  have hc := hc.le (AHeap.le_trans l13 hG)
  have ce := hi.get e; have ci := hi.get i
  have push : exAt es c e b i = exAt es c e b i → ∀ N2 : Value → Int → Int → Value → Value → Int → AHeap → Prop, (∀ v' G', H3.le G' → Fresh H3.length G' v' 2 1 (LI (exTo es c e b (i + 1))) → N2 u e b (.slice (some ⟨b0, 0, none⟩) es.length (es.length + 1)) v' ((i : Int) + 1) G') →
      newK G [.int .i64 (exAt es c e b i)] 2 (fun b7 H8 => apK T0 2 H8 x10 (.slice (some ⟨b7, 0, none⟩) 1 (1 + 1)) (fun v9 H10 => F60.B3 K N2 u e b (.slice (some ⟨b0, 0, none⟩) es.length (es.length + 1)) v9 i H10)) := by
    intro _ N2 hN
    refine hF.sl.pushN E_int (by decide) hG.1 (n := 1) (ys := [.int .i64 (exAt es c e b i)]) rfl rfl (by have := exTo_length es c e b i; simp; omega) (by simp) fun v' G2 k2 _ _ f2 => ?_
    unfold F60.B3
    rw [wrap_id (by omega) (by omega)]
    refine hN v' G2 (k2.le hG (Nat.le_refl _)) ?_
    rw [exTo_succ]; simpa using f2
  unfold F60.B7
  refine hc.len (pif_cases (fun hb => ?_) fun hb => ?_)
  · have hlt : i < es.length := by have := of_decide_eq_true hb; omega
    have fin : ∀ v' G', H3.le G' → Fresh H3.length G' v' 2 1 (LI (exTo es c e b (i + 1))) → (u = u ∧ (e : Int) = e ∧ b = b ∧ (.slice (some ⟨b0, 0, none⟩) es.length (es.length + 1) : Value) = .slice (some ⟨b0, 0, none⟩) es.length (es.length + 1) ∧ H3.le G' ∧ ∃ i' : Nat, (i : Int) + 1 = i' ∧ i' ≤ es.length ∧ Fresh H3.length G' v' 2 1 (LI (exTo es c e b i'))) ∧ es.length - ((i : Int) + 1).toNat < es.length - (i : Int).toNat :=
      fun v' G' h1 h2 => ⟨⟨rfl, rfl, rfl, rfl, h1, i + 1, by omega, by omega, h2⟩, by omega⟩
    unfold F60.B6
    refine own_idx (by omega) (by omega) (ld1_own (o3.le hG) (by rw [Int.toNat_natCast]; exact filt_bools hS hf hlt o3) (asB_mk (pif_cases (fun hs => ?_) fun hs => ?_)))
    · unfold F60.B4
      refine hc.rd (by omega) (by omega) (hc.rd (by omega) (by omega) ?_)
      simp only [Int.toNat_natCast]
      rw [wrap_id (x := c.getD e 0 + b) (by omega) (by omega), wrap_id (by omega) (by omega), show c.getD e 0 + b - c.getD i 0 = exAt es c e b i by unfold exAt; rw [if_pos hs]]
      exact push rfl _ fin
    · unfold F60.B5
      refine hc.rd (by omega) (by omega) ?_
      simp only [Int.toNat_natCast]
      rw [show c.getD i 0 = exAt es c e b i by unfold exAt; rw [if_neg (by rw [hs]; decide)]]
      exact push rfl _ fin
  · have : i = es.length := by have := of_decide_eq_false hb; omega
    subst this
    unfold F60.B1
    exact k _ _ (AHeap.le_trans l13 hG) (hF.less l13.1)

theorem specExchange_ok {n e b : Int} (h : Edges H v es) (hl : es.length ≤ 1048576) (hc : Ints H u c) (hcl : c.length ≤ 1048576)
    (k : ∀ v' G, H.le G → Fresh H.length G v' 2 1 (LI (exList n es c e b)) → K (.tuple ⟨[v', .int .i64 (chCode n es c e b)]⟩) G) : AC Try.prog T0 29 [.agg ⟨[.int .i64 n, v]⟩, u, .int .i64 e, .int .i64 b] H K := by
  apply F29.ac
  unfold F29.B5
  refine newK_f (all_iv (edges_one' h)) fun H1 l1 n1 o1 => ?_
  unfold F29.B4
  refine ldI_own o1 rfl (ld1_own o1 rfl (l02Given_ok (e := e) (b := b) (h.le l1) hl (hc.le l1) hcl fun H2 l2 => asI_mk ?_))
  have l12 := AHeap.le_trans l1 l2
  unfold F29.B3
  refine pif_cases (fun hs => ?_) fun hs => ?_
  · unfold F29.B2
    exact k _ _ l12 (.inl ⟨by rw [exList, if_neg (bne_iff_ne.1 hs)]; rfl, .inl rfl⟩)
  · have h0 : chCode n es c e b = 0 := bne_eq_false_iff_eq.1 hs
    obtain ⟨hg, hi, he, hb, hne⟩ := chCode_zero h0
    obtain ⟨e, rfl⟩ : ∃ e' : Nat, e = e' := ⟨e.toNat, by omega⟩
    unfold exList at k
    rw [if_pos h0, Int.toNat_natCast, h0] at k
    unfold F29.B1
    exact ldI_own (o1.le l2) rfl (ld1_own (o1.le l2) rfl (l02Exchange_ok (h.le l12) hg (hc.le l12) hi (by omega) hb fun v' H3 l3 f3 => k _ _ (AHeap.le_trans l12 l3) (f3.less l12.1)))

theorem exchanged_ok {n b : Int} {e : Nat} (h : Edges H v es) (hg : IsG n es) (hc : Ints H u c) (hi : IsC es c) (he : e < es.length) (hb : 0 ≤ b ∧ b ≤ 2)
    (k : ∀ v' G, H.le G → Fresh H.length G v' 2 1 (LI (exTo es c e b es.length)) → K v' G) : AC Try.prog T0 61 [.agg ⟨[.int .i64 n, v]⟩, u, .int .i64 (e : Nat), .int .i64 b] H K := by
  have h30 : es.length ≤ 30 := by have := hg.ed.len; have := hg.ed.hi; omega
  have hcl := hi.len
  apply F61.ac
  unfold F61.B9
  refine newK_f (all_iv (edges_one' h)) fun H1 l1 n1 o1 => ?_
  unfold F61.B8
  refine clone_ok (hc.le l1) (by omega) fun v' H2 l2 f2 => ?_
  have l12 := AHeap.le_trans l1 l2
  unfold F61.B7
  refine ldI_own (o1.le l2) rfl (ld1_own (o1.le l2) rfl (chain_ok (h.le l12) hg (hc.le l12) hcl he fun s H3 l3 hs3 hbn hr => asI_mk (list_ok hs3 fun w H4 l4 f4 => ?_)))
  rw [bitsL_filt (by omega) hbn, filtB_congr (S' := rchB (eAdj es (chP c e b)) e) fun j _ => dec_eq (hr j)] at f4
  obtain ⟨B, hB⟩ : ∃ B, B = rchB (eAdj es (chP c e b)) e := ⟨_, rfl⟩
  rw [← hB] at f4
  have hbl : (filtB B es.length).length ≤ es.length := filtB_length _ _
  have l24 := AHeap.le_trans l3 l4
  refine f4.ints.len ?_
  rcases f2 with ⟨h1, _⟩ | ⟨b0, n0, hb0, rfl, o2, hn0⟩
  · have : c.length = 0 := by simpa using congrArg List.length h1
    omega
  have o2 : Own H2 b0 2 (LI c) := o2
  obtain rfl : n0 = es.length := by simpa [hcl] using hn0.symm
  have o4 := o2.le l24
  have hbl0 := o2.lt
  unfold F61.L2
  refine ⟨fun x1 x2 x3 x9 x19 x20 x21 G => u = x1 ∧ (e : Int) = x2 ∧ b = x3 ∧ .slice (some ⟨b0, 0, none⟩) es.length (es.length + 1) = x9 ∧ w = x19 ∧ ((filtB B es.length).length : Int) = x20 ∧ H.le G ∧ Fresh H3.length G w 2 1 (LI (filtB B es.length)) ∧ ∃ (t : Nat) (D : List Int), x21 = t ∧ t ≤ (filtB B es.length).length ∧ D.length = es.length ∧ Own G b0 2 (LI D) ∧
      ∀ j, j < es.length → D.getD j 0 = if (j : Int) ∈ (filtB B es.length).take t then c.getD e 0 + b - c.getD j 0 else c.getD j 0, fun _ _ _ _ _ _ x21 _ => (filtB B es.length).length - x21.toNat,
    ⟨rfl, rfl, rfl, rfl, rfl, rfl, AHeap.le_trans l12 l24, f4, 0, c, rfl, by omega, hcl, o4, fun j _ => by simp⟩, ?_⟩
  rintro x1 x2 x3 x9 x19 x20 x21 G ⟨rfl, rfl, rfl, rfl, rfl, rfl, hG, hF, t, D, rfl, ht, hD, oD, hd⟩
  have hc := hc.le hG
  unfold F61.B6
  refine pif_cases (fun hb' => ?_) fun hb' => ?_
  · have hlt : t < (filtB B es.length).length := by have := of_decide_eq_true hb'; omega
    obtain ⟨j, hj1, hj2⟩ : ∃ j : Nat, (filtB B es.length)[t] = (j : Int) ∧ j < es.length := by
      have hm := List.getElem_mem hlt
      unfold filtB at hm
      rw [List.mem_map] at hm
      obtain ⟨j, hj, e'⟩ := hm
      rw [List.mem_filter, List.mem_range] at hj
      exact ⟨j, e'.symm, hj.1⟩
    have ce := hi.get e; have cj := hi.get j
    unfold F61.B5
    refine hF.ints.rd (by omega) (by omega) ?_
    rw [Int.toNat_natCast, getD_of hlt, hj1]
    unfold F61.B4
    refine hc.rd (by omega) (by omega) (hc.rd (by omega) (by omega) (own_idx (by omega) (by omega) (stK_1 oD (by simp; omega) rfl fun G2 b2 o2 => ?_)))
    simp only [Int.toNat_natCast] at o2
    rw [wrap_id (x := c.getD e 0 + b) (by omega) (by omega), wrap_id (by omega) (by omega), ← List.map_set] at o2
    unfold F61.B3
    rw [wrap_id (by omega) (by omega)]
    refine ⟨⟨rfl, rfl, rfl, rfl, rfl, rfl, b2.le hG (by have := l1.1; omega), hF.but b2 (by have := l3.1; omega), t + 1, _, by omega, by omega, by simpa using hD, o2, fun j' hj' => ?_⟩, by simp; omega⟩
    rw [List.take_succ_eq_append_getElem hlt, hj1]
    simp only [List.mem_append, List.mem_singleton]
    have h1 := hd j' hj'
    by_cases ej : j = j'
    · subst ej
      simp [List.getD, hD, hj2]
    · have hne : ¬ (j' : Int) = j := by omega
      have e1 : ∀ X, (D.set j X).getD j' 0 = D.getD j' 0 := fun X => by simp [List.getD, List.getElem?_set, ej]
      rw [e1, h1]; simp only [hne, or_false]
  · have : t = (filtB B es.length).length := by have := of_decide_eq_false hb'; omega
    subst this
    unfold F61.B1
    have hDe : D = exTo es c e b es.length := by
      apply List.ext_getElem (by rw [hD, exTo_length])
      intro j h1 h2
      have := hd j (by omega)
      rw [List.take_length, getD_of h1] at this
      have e2 : (exTo es c e b es.length)[j]'h2 = exAt es c e b j := by simp [exTo]
      rw [this, e2]
      unfold exAt
      rw [← hB]
      have hm : (j : Int) ∈ filtB B es.length ↔ B j = true := by
        unfold filtB
        rw [List.mem_map]
        constructor
        · rintro ⟨i, hi, e'⟩
          rw [List.mem_filter] at hi
          have : i = j := Int.ofNat.inj e'
          rw [← this]; exact hi.2
        · intro hj
          exact ⟨j, by rw [List.mem_filter, List.mem_range]; exact ⟨by omega, hj⟩, rfl⟩
      by_cases hj : B j = true
      · rw [if_pos (hm.2 hj), if_pos hj]
      · rw [if_neg fun h => hj (hm.1 h), if_neg hj]
    rw [← hDe] at k
    exact k _ _ hG (.inr ⟨b0, es.length, by have := l1.1; omega, rfl, oD, by simpa using hD⟩)

theorem implExchange_ok {n e b : Int} (h : Edges H v es) (hl : es.length ≤ 1048576) (hc : Ints H u c) (hcl : c.length ≤ 1048576)
    (k : ∀ v' G, H.le G → Fresh H.length G v' 2 1 (LI (exList n es c e b)) → K (.tuple ⟨[v', .int .i64 (chCode n es c e b)]⟩) G) : AC Try.prog T0 30 [.agg ⟨[.int .i64 n, v]⟩, u, .int .i64 e, .int .i64 b] H K := by
  apply F30.ac
  unfold F30.B5
  refine newK_f (all_iv (edges_one' h)) fun H1 l1 n1 o1 => ?_
  unfold F30.B4
  refine ldI_own o1 rfl (ld1_own o1 rfl (chainCode_ok (e := e) (b := b) (h.le l1) hl (hc.le l1) hcl fun H2 l2 => asI_mk ?_))
  have l12 := AHeap.le_trans l1 l2
  unfold F30.B3
  refine pif_cases (fun hs => ?_) fun hs => ?_
  · unfold F30.B2
    exact k _ _ l12 (.inl ⟨by rw [exList, if_neg (bne_iff_ne.1 hs)]; rfl, .inl rfl⟩)
  · have h0 : chCode n es c e b = 0 := bne_eq_false_iff_eq.1 hs
    obtain ⟨hg, hi, he, hb, hne⟩ := chCode_zero h0
    obtain ⟨e, rfl⟩ : ∃ e' : Nat, e = e' := ⟨e.toNat, by omega⟩
    unfold exList at k
    rw [if_pos h0, Int.toNat_natCast, h0] at k
    unfold F30.B1
    exact ldI_own (o1.le l2) rfl (ld1_own (o1.le l2) rfl (exchanged_ok (h.le l12) hg (hc.le l12) hi (by omega) hb fun v' H3 l3 f3 => k _ _ (AHeap.le_trans l12 l3) (f3.less l12.1)))
end Go.Proofs
