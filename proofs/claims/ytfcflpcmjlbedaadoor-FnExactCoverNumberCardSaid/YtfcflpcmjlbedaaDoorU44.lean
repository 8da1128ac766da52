/- Contracts: cover numbers: the asked functions. -/
import Derived.Test.YtfcflpcmjlbedaaDoorU42
set_option linter.unusedVariables false
set_option linter.unusedSimpArgs false
set_option maxRecDepth 100000
namespace Go.Proofs
open Go.Abs

variable {H G : AHeap} {v u f : Value} {l m c D : List Int} {es fs : List (Int × Int)} {K : Value → AHeap → Prop} {A A' : Nat → Prop} {B : Nat} {ls ms : List (List Int)}

abbrev coversV (a b c : Nat) : Value := .func (.func 39) ⟨[]⟩ ⟨[.pointer (some ⟨a, 0, none⟩), .pointer (some ⟨b, 0, none⟩), .pointer (some ⟨c, 0, none⟩)]⟩
theorem filtB_first {S : Nat → Bool} {m w : Nat} (hw : w < m) (h1 : S w = true) (h2 : ∀ j, j < w → S j = false) : ∃ r, filtB S m = (w : Int) :: r := by
  have hm : (w : Int) ∈ filtB S m := mem_filtB.2 ⟨w, rfl, hw, h1⟩
  have ha := filtB_asc S m
  cases hl : filtB S m with
  | nil => rw [hl] at hm; cases hm
  | cons a r =>
    refine ⟨r, ?_⟩
    rw [hl] at hm ha
    have hma : a ∈ filtB S m := by rw [hl]; simp
    obtain ⟨j, rfl, _, hj⟩ := mem_filtB.1 hma
    rcases List.mem_cons.1 hm with h | h
    · rw [h]
    · unfold Asc at ha
      have := (List.pairwise_cons.1 ha).1 _ h
      have := h2 j (by omega)
      rw [hj] at this; cases this
theorem setN_lt_pow {l : List Int} {m : Nat} (h : IsS l m) : setN l < 2 ^ m := bits_lt fun j hj => bitB_lt h hj
theorem covers_ok {n : Int} {H0 B1 : AHeap} (he : Edges H0 v es) (hl60 : es.length ≤ 60) {L : List (List Int)} (hLr : ∀ l ∈ L, IsS l es.length) (hLl : L.length ≤ 1000) {cg cl cc m0 : Nat} {tg tl tc : TypeId} {w : Value} (h01 : H0.le B1)
    (og : Own B1 cg tg [.int .i64 n, v]) (ol : Own B1 cl tl [w]) (hw : Sl m0 B1 w 52 1 (LU (L.map setN))) (oc : Own B1 cc tc [coversV cg cl cc]) :
    ∀ (k s : Nat) (H : AHeap) (K : Value → AHeap → Prop), B1.le H → s < 2 ^ es.length → k ≤ 1000 → (∀ G, H.le G → K (.bool (covB L es.length k s)) G) →
      AC Tryd.prog T0 39 [.int .u64 (s : Nat), .int .i64 (k : Nat), .pointer (some ⟨cg, 0, none⟩), .pointer (some ⟨cl, 0, none⟩), .pointer (some ⟨cc, 0, none⟩)] H K := by
  obtain ⟨m, hm⟩ : ∃ m, m = es.length := ⟨_, rfl⟩
  have hp61 : (2 : Nat) ^ es.length < 2 ^ 61 := Nat.pow_lt_pow_right (by decide) (by omega)
  have hp64 : (2 : Nat) ^ 61 < 2 ^ 64 := by decide
  have hmp := Nat.two_pow_pos es.length
  intro k
  induction k with
  | zero | succ k ih =>
    intro s H K hB hs hk kk
    have hs64 : s < 2 ^ 64 := by omega
    apply F39.ac
    unfold F39.B6
    refine newK_f rfl fun H1 l1 n1 o1 => newK_f rfl fun H2 l2 n2 o2 => ?_
    have l12 := AHeap.le_trans l1 l2
    have hB2 := AHeap.le_trans hB l12
    have o12 := o1.le l2
    unfold F39.B5
    refine asP_mk (ldI_own (og.le hB2) rfl (ld1_own (og.le hB2) rfl (ldI_own o12 rfl (every_ok (he.le (AHeap.le_trans h01 hB2)) hl60 fun G lG => asI_mk ⟨lG, ?_⟩))))
    rw [bits_andnot (by omega) hs64]
    obtain ⟨X, hX⟩ : ∃ X, X = (2 ^ es.length - 1) &&& (2 ^ 64 - (s + 1)) := ⟨_, rfl⟩
    rw [← hX]
    have hXl : X < 2 ^ 64 := by rw [hX]; exact Nat.lt_of_le_of_lt Nat.and_le_left (by omega)
    have hXb : ∀ j, X.testBit j = (decide (j < es.length) && !s.testBit j) := fun j => by rw [hX, andnot_bit (by omega) hs64, Nat.testBit_two_pow_sub_one]
    have lHG := AHeap.le_trans l12 lG
    have hBG := AHeap.le_trans hB lHG
    unfold F39.B4
    by_cases hfu : fv s es.length = es.length
    · have : X = 0 := by
        apply Nat.eq_of_testBit_eq
        intro j
        rw [hXb]
        by_cases hj : j < es.length
        · rw [fv_below (s := s) (n := es.length) (by omega)]; simp
        · simp [hj]
      refine pif_t (by rw [this]; rfl) ?_
      unfold F39.B3
      have kk := kk _ lHG
      rw [covB_full hfu] at kk
      exact kk
    have hlt : fv s es.length < es.length := by have := fv_le s es.length; omega
    have hX0 : X ≠ 0 := fun h => by
      have := hXb (fv s es.length)
      rw [h, fv_at hlt] at this
      simp at this; omega
    obtain ⟨i, hi⟩ : ∃ i, i = fv s es.length := ⟨_, rfl⟩
    refine pif_f (by rw [beq_eq_false_iff_ne]; omega) ?_
    unfold F39.B2
    refine list_ok hXl fun q G2 l3 f3 => ?_
    have hbl : bitsL X = filtB (fun j => X.testBit j) es.length := bitsL_filt (by omega) fun j hj => by rw [hXb, Bool.and_eq_true] at hj; exact of_decide_eq_true hj.1
    obtain ⟨r, hr⟩ := filtB_first (S := fun j => X.testBit j) (m := es.length) (w := i) (by omega) (by show X.testBit i = true; rw [hXb, hi, fv_at hlt]; simpa using hlt) (fun j hj => by show X.testBit j = false; rw [hXb, fv_below (s := s) (n := es.length) (by omega)]; simp)
    rw [hbl, hr] at f3
    refine f3.ints.rd (by decide) (by simp) ?_
    rw [show ((i : Int) :: r).getD (0 : Int).toNat 0 = (i : Int) from rfl]
    refine newK_f rfl fun G3 l4 n4 o4 => stK_f o4 (by simp) (by simp [Value.oneCell']) rfl fun G4 b4 o4' => ?_
    have o4' : Own G4 G2.length 2 [.int .i64 (i : Nat)] := by simpa using o4'
    have l24 : G2.le G4 := b4.le l4 (Nat.le_refl _)
    have lG4 := AHeap.le_trans lG (AHeap.le_trans l3 l24)
    have hB4 := AHeap.le_trans hB2 lG4
    have lH4 := AHeap.le_trans l12 lG4
    unfold F39.B1
    have o14 := o12.le lG4
    have o24 := o2.le lG4
    refine ldI_own o24 rfl ?_
    first
    | (refine pif_f (by simp) ?_
       have kk := kk _ lH4
       rw [covB_zero hfu] at kk
       exact kk)
    | (refine pif_t (decide_eq_true (by omega)) ?_
       have hZ64 : ∀ z ∈ L.map setN, z < 2 ^ 64 := by
         intro z hz
         obtain ⟨l, hl, rfl⟩ := List.mem_map.1 hz
         have := setN_lt_pow (hLr l hl); omega
       refine asP_mk (ld1_own (ol.le hB4) rfl (containsU_ok (p := fun z => z.testBit i && covB L es.length k (s ||| z)) (hw.le hB4) (by rw [List.length_map]; omega) (fun z hz => ?_) fun G5 l5 => asB_mk ?_))
       · intro G5 l5 K5 k5
         have hz64 := hZ64 z hz
         obtain ⟨l, hl, rfl⟩ := List.mem_map.1 hz
         refine callV_mk ?_
         apply F41.ac
         unfold F41.B2 F41.B1
         refine asP_mk (ldI_own (o4'.le l5) rfl (has_ok hz64 (by omega) (asB_mk ?_)))
         rw [Int.toNat_natCast]
         refine pif_cases (fun hb => ?_) fun hb => ?_
         · refine asP_mk (ld1_own ((oc.le hB4).le l5) rfl (asP_mk (ldI_own (o14.le l5) rfl (asP_mk (ldI_own (o24.le l5) rfl (callV_mk ?_))))))
           rw [bits_or hs64 hz64, wrap_id (by omega) (by omega), show (((k + 1 : Nat) : Nat) : Int) - 1 = ((k : Nat) : Int) by omega]
           refine ih (s ||| setN l) G5 _ (AHeap.le_trans hB4 l5) (Nat.or_lt_two_pow hs (setN_lt_pow (hLr l hl))) (by omega) fun G6 l6 => asB_mk ?_
           have := k5 G6 l6
           rw [hb, Bool.true_and] at this
           exact this
         · have := k5 G5 (AHeap.le_refl _)
           rw [hb, Bool.false_and] at this
           exact this
       · have kk := kk _ (AHeap.le_trans lH4 l5)
         have e : (L.map setN).any (fun z => z.testBit i && covB L es.length k (s ||| z)) = covB L es.length (k + 1) s := by
           rw [covB_succ hfu, List.any_map, ← hi, Bool.eq_iff_iff, List.any_eq_true, List.any_eq_true]
           have hb : ∀ l ∈ L, (setN l).testBit i = decide ((i : Int) ∈ l) := fun l hl => setN_bit (fun x hx => ((hLr l hl).range x hx).1) i
           constructor
           · rintro ⟨l, h1, h2⟩
             refine ⟨l, h1, ?_⟩
             simp only [Function.comp] at h2
             rwa [hb l h1] at h2
           · rintro ⟨l, h1, h2⟩
             refine ⟨l, h1, ?_⟩
             simp only [Function.comp]
             rwa [hb l h1]
         rw [e]; exact kk)

def AllC (n : Int) (es : List (Int × Int)) : Prop := ∀ j : Nat, j < es.length → ∃ l ∈ mats n es, (j : Int) ∈ l
noncomputable instance (n : Int) (es : List (Int × Int)) : Decidable (AllC n es) := Classical.propDecidable _
noncomputable def cvCode (n : Int) (es : List (Int × Int)) : Int := if IsG n es then (if (mats n es).length > 60 then 3 else if AllC n es then 0 else 4) else 1
noncomputable def cvVal (n : Int) (es : List (Int × Int)) : Int := if cvCode n es = 0 then ((covN (mats n es) es.length 31 3 : Nat) : Int) else 0
/-- One step of the search for the least number. -/
theorem cov_step {n : Int} (hg : IsG n es) (ha : AllC n es) {k : Nat} (hk : k ≤ 30) : (covB (mats n es) es.length k 0 = true → covN (mats n es) es.length (34 - k) k = k) ∧ (covB (mats n es) es.length k 0 = false → k < 30 ∧ covN (mats n es) es.length (34 - k) k = covN (mats n es) es.length (34 - (k + 1)) (k + 1)) := by
  have h30 : es.length ≤ 30 := by have := hg.ed.len; have := hg.ed.hi; omega
  have e : 34 - k = (34 - (k + 1)) + 1 := by omega
  constructor
  · intro h
    rw [e, covN, if_pos h]
  · intro h
    refine ⟨?_, by rw [e, covN, if_neg (by rw [h]; decide)]⟩
    rcases Nat.lt_or_ge k 30 with h' | h'
    · exact h'
    · have := covB_enough (L := mats n es) (m := es.length) ha (fun l hl x hx => ((mats_row hg l hl).1.range x hx).1) (k := k) (s := 0) (by have := left_le 0 es.length; omega)
      rw [this] at h; cases h
theorem covS_none (m : Nat) : CovS 0 m (List.replicate m false) := ⟨by simp, fun j hj => by simp [List.getD, List.getElem?_replicate, hj]⟩

theorem specCvN_ok {n : Int} (h : Edges H v es) (hl : es.length ≤ 1048576) (k : ∀ G, H.le G → K (.tuple ⟨[.int .i64 (cvVal n es), .int .i64 (cvCode n es)]⟩) G) : AC Tryd.prog T0 16 [.agg ⟨[.int .i64 n, v]⟩] H K := by
  apply F16.ac
  unfold F16.B17
  refine newK_f (all_iv (edges_one' h)) fun H1 l1 _ o1 => ?_
  unfold F16.B16
  refine ldI_own o1 rfl (ld1_own o1 rfl (l01Is_ok (h.le l1) hl fun H2 l2 => asB_mk ?_))
  have l12 := AHeap.le_trans l1 l2
  have o2 := o1.le l2
  refine pif_cases (fun hs => ?_) fun hs => ?_
  · have hg : ¬ IsG n es := by simpa using hs
    have e : cvCode n es = 1 := by unfold cvCode; rw [if_neg hg]
    unfold F16.B15
    have k := k _ l12
    unfold cvVal at k
    rw [e] at k
    exact k
  have hg : IsG n es := by simpa using hs
  have n0 := hg.ed.lo; have n1 := hg.ed.hi
  have h30 : es.length ≤ 30 := by have := hg.ed.len; omega
  have h3 : 0 < es.length := by have := hg.ed.len; omega
  have hml := mats_length hg
  have hrow := mats_row hg
  unfold F16.B14
  refine ldI_own o2 rfl (ld1_own o2 rfl (l04All_ok hg (h.le l12) fun q H3 l3 hR => ?_))
  have l13 := AHeap.le_trans l12 l3
  have o3 := o2.le l3
  unfold F16.B13
  refine hR.len (pif_cases (fun hb => ?_) fun hb => ?_)
  · have hgt : (mats n es).length > 60 := by have := of_decide_eq_true hb; omega
    have e : cvCode n es = 3 := by unfold cvCode; rw [if_pos hg, if_pos hgt]
    unfold F16.B12
    have k := k _ l13
    unfold cvVal at k
    rw [e] at k
    exact k
  have hgt : ¬ (mats n es).length > 60 := by have := of_decide_eq_false hb; omega
  unfold F16.B11 F16.L6
  refine ⟨fun x1 x4 x5 G => H.length = x1 ∧ q = x4 ∧ H3 = G ∧ ∃ i : Nat, x5 = i ∧ i ≤ es.length ∧ ∀ j : Nat, j < i → ∃ l ∈ mats n es, (j : Int) ∈ l, fun _ _ x5 _ => es.length - x5.toNat, ⟨rfl, rfl, rfl, 0, rfl, by omega, fun j hj => absurd hj (by omega)⟩, ?_⟩
  rintro x1 x4 x5 G ⟨rfl, rfl, rfl, i, rfl, hi, hall⟩
  unfold F16.B10
  refine ld1_own o3 rfl ((h.le l13).len (pif_cases (fun hb => ?_) fun hb => ?_))
  · have hil : i < es.length := by have := of_decide_eq_true hb; omega
    unfold F16.B9
    refine l04With_ok hR (by omega) (fun l hl => by have := (hrow l hl).2; omega) (asI_mk (pif_cases (fun hb => ?_) fun hb => ?_))
    · have h0 := beq_iff_eq.1 hb
      have hna : ¬ AllC n es := fun ha => by
        have := withN_pos.2 (ha i hil); omega
      have e : cvCode n es = 4 := by unfold cvCode; rw [if_pos hg, if_neg hgt, if_neg hna]
      unfold F16.B8
      have k := k _ l13
      unfold cvVal at k
      rw [e] at k
      exact k
    · have h0 : withN (mats n es) (i : Nat) ≠ 0 := fun e => by rw [e] at hb; simp at hb
      unfold F16.B7
      rw [wrap_id (by omega) (by omega)]
      refine ⟨⟨rfl, rfl, rfl, i + 1, by omega, by omega, fun j hj => ?_⟩, by show es.length - ((i : Int) + 1).toNat < es.length - (i : Int).toNat; omega⟩
      by_cases e : j = i
      · subst e; exact withN_pos.1 (by omega)
      · exact hall j (by omega)
  · have hil : i = es.length := by have := of_decide_eq_false hb; omega
    subst hil
    have ha : AllC n es := hall
    have e0 : cvCode n es = 0 := by unfold cvCode; rw [if_pos hg, if_neg hgt, if_pos ha]
    unfold cvVal at k
    rw [e0, if_pos rfl] at k
    unfold F16.B5 F16.L1
    refine ⟨fun x1 x4 x6 G => H.length = x1 ∧ q = x4 ∧ H3.le G ∧ ∃ c : Nat, x6 = c ∧ c ≤ 30 ∧ covN (mats n es) es.length (34 - c) c = covN (mats n es) es.length 31 3, fun _ _ x6 _ => 34 - x6.toNat, ⟨rfl, rfl, AHeap.le_refl _, 3, rfl, by omega, rfl⟩, ?_⟩
    rintro x1 x4 x6 G ⟨rfl, rfl, hG, c, rfl, hc, hcov⟩
    have lG := AHeap.le_trans l13 hG
    have oG := o3.le hG
    obtain ⟨st1, st2⟩ := cov_step hg ha hc
    unfold F16.B4
    refine ldI_own oG rfl (ld1_own oG rfl (ld1_own oG rfl ((h.le lG).len (mkR_int (by omega) (by omega) (by decide) fun G2 l4 n4 o4 => ?_))))
    rw [Int.toNat_natCast, rep_b] at o4
    rw [Int.toNat_natCast]
    refine l04Cover_ok (H0 := H3) (h.le l13) h3 h30 (by omega) hrow hR (Nat.le_refl _) c 0 _ G2 _ _ (by omega) (AHeap.le_trans hG l4) (covS_none _) (.inr ⟨_, es.length, Nat.zero_le _, rfl, o4, by simp⟩) fun G3 l5 => asB_mk (pif_cases (fun hb => ?_) fun hb => ?_)
    · unfold F16.B3
      have k := k _ (AHeap.le_trans lG (AHeap.le_trans l4 l5))
      rw [← hcov, st1 hb] at k
      exact k
    · obtain ⟨h1, h2⟩ := st2 hb
      unfold F16.B2
      rw [wrap_id (by omega) (by omega)]
      exact ⟨⟨rfl, rfl, AHeap.le_trans hG (AHeap.le_trans l4 l5), c + 1, by omega, by omega, by rw [← h2]; exact hcov⟩, by show 34 - ((c : Int) + 1).toNat < 34 - (c : Int).toNat; omega⟩

theorem implCvN_ok {n : Int} (hT : Tab H) (h : Edges H v es) (hl : es.length ≤ 1048576) (k : ∀ G, H.le G → K (.tuple ⟨[.int .i64 (cvVal n es), .int .i64 (cvCode n es)]⟩) G) : AC Tryd.prog T0 17 [.agg ⟨[.int .i64 n, v]⟩] H K := by
  apply F17.ac
  unfold F17.B23
  refine newK_f (all_iv (edges_one' h)) fun H1 l1 _ o1 => ?_
  unfold F17.B22
  refine ldI_own o1 rfl (ld1_own o1 rfl (graphCode_ok (b := true) (h.le l1) hl fun H2 l2 => asI_mk ?_))
  have l12 := AHeap.le_trans l1 l2
  have o2 := o1.le l2
  have e : (if IsG n es then (if true = true then 0 else 2) else 1 : Int) = grCode n es := by unfold grCode; simp
  rw [e]
  unfold F17.B21
  refine pif_cases (fun hs => ?_) fun hs => ?_
  · have hg : ¬ IsG n es := fun h => by unfold grCode at hs; rw [if_pos h] at hs; simp at hs
    have e0 : grCode n es = 1 := by unfold grCode; rw [if_neg hg]
    have e : cvCode n es = 1 := by unfold cvCode; rw [if_neg hg]
    unfold F17.B20
    have k := k _ l12
    unfold cvVal at k
    rw [e] at k
    rw [e0]
    exact k
  have hg : IsG n es := by
    unfold grCode at hs
    by_cases h : IsG n es
    · exact h
    · rw [if_neg h] at hs; simp at hs
  have hrow := mats_row hg
  have n0 := hg.ed.lo; have n1 := hg.ed.hi
  have h30 : es.length ≤ 30 := by have := hg.ed.len; omega
  unfold F17.B19
  refine ldI_own o2 rfl (ld1_own o2 rfl (listed_ok hg (hT.le l12) (h.le l12) fun w H3 l3 f3 => tup2_mk (asB_mk (newK_f rfl fun H4 l4 n4 o4 => ?_))))
  have l13 := AHeap.le_trans l12 l3
  have w1 : w.oneCell' = true := by
    rcases f3 with ⟨_, rfl | ⟨a, rfl⟩⟩ | ⟨b, n', _, rfl, _⟩ <;> rfl
  refine pif_t w1 (stK_f o4 (by simp) (by simpa using w1) rfl fun H5 b5 o5 => ?_)
  have l35 : H3.le H5 := b5.le l4 (Nat.le_refl _)
  have l15 := AHeap.le_trans l13 l35
  have o25 := (o2.le l3).le l35
  have f5 := f3.le l35
  have o5 : Own H5 H3.length 61 [w] := by simpa using o5
  unfold F17.B18
  refine pif_cases (fun hs => ?_) fun hs => ?_
  · have hgt : (mats n es).length > 60 := by simpa using hs
    have e : cvCode n es = 3 := by unfold cvCode; rw [if_pos hg, if_pos hgt]
    unfold F17.B17
    have k := k _ l15
    unfold cvVal at k
    rw [e] at k
    exact k
  have hgt : ¬ (mats n es).length > 60 := by simpa using hs
  have hup : upToD over60 [] (mats n es) = mats n es := upToD_all (by rw [over60_any _ _ (by simp)]; simp; omega)
  rw [hup] at f5
  obtain ⟨L, hL⟩ : ∃ L, L = mats n es := ⟨_, rfl⟩
  have hsn : ∀ l ∈ L, setN l < 2 ^ 64 := fun l hl => setN_lt fun x hx => by rw [hL] at hl; have := (hrow l hl).1.range x hx; omega
  rw [← hL] at f5
  have hLl : L.length ≤ 60 := by rw [hL]; omega
  have hor : ∀ t, orN (L.take t) < 2 ^ 64 := fun t => orN_lt fun l hl => hsn l (List.mem_of_mem_take hl)
  unfold F17.B16 F17.B15
  refine ld1_own o5 rfl (f5.sl.len (by decide) (n := L.length) (by simp) ?_)
  unfold F17.L10
  refine ⟨fun x1 x5 x7 x24 x25 x26 G => H.length = x1 ∧ H3.length = x5 ∧ w = x24 ∧ (L.length : Int) = x25 ∧ H5 = G ∧ ∃ t : Nat, x26 = t ∧ t ≤ L.length ∧ x7 = (orN (L.take t) : Nat), fun _ _ _ _ _ x26 _ => L.length - x26.toNat, ⟨rfl, rfl, rfl, rfl, rfl, 0, rfl, by omega, by simp [orN]⟩, ?_⟩
  rintro x1 x5 x7 x24 x25 x26 G ⟨rfl, rfl, rfl, rfl, rfl, t, rfl, ht, rfl⟩
  unfold F17.B14
  refine pif_cases (fun hb => ?_) fun hb => ?_
  · have htl : t < L.length := by have := of_decide_eq_true hb; omega
    unfold F17.B13
    refine Sl_rdI f5.sl (by omega) (by simp; omega) (by rw [Int.toNat_natCast]; exact LU_get (by simp; omega)) ?_
    have hz : (L.map setN).getD t 0 = setN L[t] := by rw [getD_of (by simpa using htl)]; simp
    rw [hz]
    unfold F17.B12 F17.B11
    rw [bits_or (hor t) (hsn _ (List.getElem_mem htl)), wrap_id (by omega) (by omega)]
    refine ⟨⟨rfl, rfl, rfl, rfl, rfl, t + 1, by omega, by omega, ?_⟩, by show L.length - ((t : Int) + 1).toNat < L.length - (t : Int).toNat; omega⟩
    rw [List.take_succ_eq_append_getElem htl, orN_snoc]
  · have htl : t = L.length := by have := of_decide_eq_false hb; omega
    subst htl
    rw [List.take_length]
    have hobits : ∀ j, (orN L).testBit j = true ↔ ∃ l ∈ mats n es, (j : Int) ∈ l := by
      intro j
      rw [orN_bit, hL]
      constructor <;> rintro ⟨l, h1, h2⟩
      · exact ⟨l, h1, (bitB_mem (hrow l h1).1 j).1 h2⟩
      · exact ⟨l, h1, (bitB_mem (hrow l h1).1 j).2 h2⟩
    have hall : orN L = 2 ^ es.length - 1 ↔ AllC n es := by
      constructor
      · intro he j hj
        rw [← hobits, he, Nat.testBit_two_pow_sub_one]; simpa using hj
      · intro ha
        apply Nat.eq_of_testBit_eq
        intro j
        rw [Nat.testBit_two_pow_sub_one, Bool.eq_iff_iff, hobits, decide_eq_true_iff]
        constructor
        · rintro ⟨l, h1, h2⟩
          have := (hrow l h1).1.range _ h2; omega
        · exact fun hj => ha j hj
    unfold F17.B9
    refine ldI_own o25 rfl (ld1_own o25 rfl (every_ok (h.le l15) (by omega) fun H6 l6 => asI_mk (pif_cases (fun hb => ?_) fun hb => ?_)))
    · have hne := bne_iff_ne.1 hb
      have hna : ¬ AllC n es := fun ha => by have := hall.2 ha; omega
      have e : cvCode n es = 4 := by unfold cvCode; rw [if_pos hg, if_neg hgt, if_neg hna]
      unfold F17.B8
      have k := k _ (AHeap.le_trans l15 l6)
      unfold cvVal at k
      rw [e] at k
      exact k
    · have heq := bne_eq_false_iff_eq.1 hb
      have ha : AllC n es := hall.1 (by omega)
      have e0 : cvCode n es = 0 := by unfold cvCode; rw [if_pos hg, if_neg hgt, if_pos ha]
      unfold cvVal at k
      rw [e0, if_pos rfl] at k
      have l16 := AHeap.le_trans l15 l6
      unfold F17.B7
      refine newK_f rfl fun H7 l7 n7 o7 => ?_
      unfold F17.B6
      refine stK_f o7 (by simp) (by simp [Value.oneCell']) rfl fun H8 b8 o8 => ?_
      have l68 : H6.le H8 := b8.le l7 (Nat.le_refl _)
      have l58 := AHeap.le_trans l6 l68
      have l18 := AHeap.le_trans l15 l58
      obtain ⟨tt, o8⟩ : ∃ tt, Own H8 H6.length tt [coversV H.length H3.length H6.length] := ⟨_, by simpa using o8⟩
      unfold F17.B5 F17.L2
      refine ⟨fun x10 x11 G => H6.length = x10 ∧ H8.le G ∧ ∃ c : Nat, x11 = c ∧ c ≤ 30 ∧ covN (mats n es) es.length (34 - c) c = covN (mats n es) es.length 31 3, fun _ x11 _ => 34 - x11.toNat, ⟨rfl, AHeap.le_refl _, 3, rfl, by omega, rfl⟩, ?_⟩
      rintro x10 x11 G ⟨rfl, hG, c, rfl, hc, hcov⟩
      obtain ⟨st1, st2⟩ := cov_step hg ha hc
      unfold F17.B4
      refine ld1_own (o8.le hG) rfl (callV_mk ?_)
      refine covers_ok (H0 := H) (B1 := H8) h (by omega) (L := mats n es) (fun l hl => (hrow l hl).1) (by rw [← hL]; omega) l18 (o25.le l58) (o5.le l58) (by rw [← hL]; exact (f5.le l58).sl) o8 c 0 G _ hG (Nat.two_pow_pos _) (by omega) fun G2 lG2 => asB_mk (pif_cases (fun hb => ?_) fun hb => ?_)
      · have hb' : covB (mats n es) es.length c 0 = false := by simpa using hb
        obtain ⟨h1, h2⟩ := st2 hb'
        unfold F17.B3
        rw [wrap_id (by omega) (by omega)]
        exact ⟨⟨rfl, AHeap.le_trans hG lG2, c + 1, by omega, by omega, by rw [← h2]; exact hcov⟩, by show 34 - ((c : Int) + 1).toNat < 34 - (c : Int).toNat; omega⟩
      · have hb' : covB (mats n es) es.length c 0 = true := by simpa using hb
        unfold F17.B1
        have k := k _ (AHeap.le_trans l18 (AHeap.le_trans hG lG2))
        rw [← hcov, st1 hb'] at k
        exact k
end Go.Proofs
