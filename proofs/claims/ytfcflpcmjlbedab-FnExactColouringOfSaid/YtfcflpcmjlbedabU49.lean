/- Contracts: colourings of matchings, both sides. -/
import Derived.Test.YtfcflpcmjlbedabU45
import Derived.Test.YtfcflpcmjlbedabU47
import Derived.Test.YtfcflpcmjlbedabU48
import Derived.Test.YtfcflpcmjlbedabU10
set_option linter.unusedVariables false
set_option linter.unusedSimpArgs false
set_option maxRecDepth 100000
namespace Go.Proofs
open Go.Abs

variable {H G : AHeap} {v u f : Value} {l m c D : List Int} {es fs : List (Int × Int)} {K : Value → AHeap → Prop} {A A' : Nat → Prop} {B : Nat} {ls ms cs : List (List Int)}

theorem isM_one {n : Int} (hg : IsG n es) (hm : IsM n es l) : OneAt n es l := by
  have hr : ∀ x ∈ l, 0 ≤ x ∧ x < es.length := hm.set.range
  have hend : ∀ x ∈ l, ∃ a b : Nat, es.getD x.toNat (0, 0) = ((a : Int), (b : Int)) ∧ a ≠ b ∧ (a : Int) < n ∧ (b : Int) < n := by
    intro x hx
    have h := hr x hx
    have hx' : x.toNat < es.length := by omega
    obtain ⟨d1, d2, d3, d4, d5⟩ := hg.ed.ends es[x.toNat] (List.getElem_mem hx')
    rw [← getD_of (d := (0, 0)) hx'] at d1 d2 d3 d4 d5
    refine ⟨(es.getD x.toNat (0, 0)).1.toNat, (es.getD x.toNat (0, 0)).2.toNat, ?_, by omega, by omega, by omega⟩
    rw [Int.toNat_of_nonneg d1, Int.toNat_of_nonneg d3]
  intro x hx
  have hcnt : ∀ L : List Int, (∀ i ∈ L, i ∈ l) → degC es L x = (ends es L).count (x : Int) := by
    intro L
    induction L with
    | nil => intro _; rfl
    | cons i L ih =>
      intro hL
      obtain ⟨a, b, e1, e2, _, _⟩ := hend i (hL i (by simp))
      have ih := ih fun j hj => hL j (by simp [hj])
      have hi := hr i (hL i (by simp))
      obtain ⟨k, rfl⟩ : ∃ k : Nat, i = k := ⟨i.toNat, by omega⟩
      rw [degC_cons, ih]
      rw [Int.toNat_natCast] at e1
      have : ends es ((k : Int) :: L) = (a : Int) :: (b : Int) :: ends es L := by
        unfold ends; rw [List.flatMap_cons, Int.toNat_natCast, e1]; rfl
      rw [this, List.count_cons, List.count_cons, e1]
      unfold on
      have hab : (a : Int) ≠ (b : Int) := by omega
      simp only [Bool.or_eq_true, beq_iff_eq]
      by_cases h1 : (a : Int) = (x : Int)
      · have h2 : ¬ (b : Int) = (x : Int) := by omega
        rw [if_pos (.inl h1), if_neg h2, if_pos h1]
      · by_cases h2 : (b : Int) = (x : Int)
        · rw [if_pos (.inr h2), if_pos h2, if_neg h1]
        · rw [if_neg (by omega), if_neg h2, if_neg h1]
  rw [hcnt l fun i hi => hi]
  have hmem : (x : Int) ∈ ends es l := by
    refine nodup_sup (m := upto n.toNat) hm.nd (fun y hy => ?_) ?_ _ ?_
    · unfold ends at hy
      obtain ⟨i, hi, hy⟩ := List.mem_flatMap.1 hy
      obtain ⟨a, b, e1, e2, e3, e4⟩ := hend i hi
      rw [e1] at hy
      simp only [List.mem_cons, List.not_mem_nil, or_false] at hy
      unfold upto
      rcases hy with rfl | rfl
      · exact List.mem_map.2 ⟨a, List.mem_range.2 (by omega), rfl⟩
      · exact List.mem_map.2 ⟨b, List.mem_range.2 (by omega), rfl⟩
    · have := hm.len
      rw [ends_length]
      unfold upto
      rw [List.length_map, List.length_range]; omega
    · unfold upto; exact List.mem_map.2 ⟨x, List.mem_range.2 (by omega), rfl⟩
  have h1 := List.nodup_iff_count.1 hm.nd (x : Int)
  have h2 := List.count_pos_iff.2 hmem
  omega

/-- The least edges of the cycles. -/
noncomputable def ldr (es : List (Int × Int)) (p : Nat → Bool) (k : Nat) : List Nat := (List.range k).filter fun i => p i && cLeadB es p i
theorem ldr_succ (p : Nat → Bool) (k : Nat) : ldr es p (k + 1) = ldr es p k ++ if p k = true ∧ cLeadB es p k = true then [k] else [] := by
  unfold ldr
  rw [List.range_succ, List.filter_append]
  congr 1
  cases h1 : p k <;> cases h2 : cLeadB es p k <;> simp [h1, h2]
theorem cycW_ldr (p : Nat → Bool) : ∀ k, cycW es p k = (ldr es p k).map fun e => wkL es p e (compL es p e).length
  | 0 => rfl
  | k + 1 => by
    rw [cycW, ldr_succ, List.map_append, cycW_ldr p k]
    split <;> simp
theorem cycN_ldr (p : Nat → Bool) : ∀ k, cycN es p (filtB p k) = (ldr es p k).map (compN es p)
  | 0 => rfl
  | k + 1 => by
    have ih := cycN_ldr p k
    unfold cycN at ih ⊢
    rw [filtB_succ, List.filter_append, List.map_append, ih, ldr_succ, List.map_append]
    congr 1
    cases h1 : p k with
    | false => simp
    | true => cases h2 : cLeadB es p k <;> simp [h2]
theorem cLeadB_congr {p p' : Nat → Bool} (h : ∀ j, j < es.length → p j = p' j) {k : Nat} (hk : k ≤ es.length) : cLeadB es p k = cLeadB es p' k := by
  rw [Bool.eq_iff_iff, cLeadB_iff, cLeadB_iff]
  unfold cLead
  rw [eAdj_congr h]
  constructor
  · intro g j h1 h2; exact g j h1 (by rw [h j (by omega)]; exact h2)
  · intro g j h1 h2; exact g j h1 (by rw [← h j (by omega)]; exact h2)
theorem ldr_congr {p p' : Nat → Bool} (h : ∀ j, j < es.length → p j = p' j) : ∀ k, k ≤ es.length → ldr es p k = ldr es p' k
  | 0, _ => rfl
  | k + 1, hk => by rw [ldr_succ, ldr_succ, ldr_congr h k (by omega), h k (by omega), cLeadB_congr h (by omega)]
theorem compN_congr {p p' : Nat → Bool} (h : ∀ j, j < es.length → p j = p' j) (e : Nat) : compN es p e = compN es p' e := by unfold compN compL; rw [eAdj_congr h]
theorem left2_ok {n : Int} (h : Edges H v es) (hg : IsG n es) (hS : IsS l es.length)
    (k : ∀ v' G, H.le G → Fresh H.length G v' 72 1 (LU ((ldr es (leftP l) es.length).map (compN es (leftP l)))) → K v' G) : AC Try.prog T0 79 [.agg ⟨[.int .i64 n, v]⟩, .int .u64 (setN l : Nat)] H K := by
  have h30 : es.length ≤ 30 := by have := hg.ed.len; have := hg.ed.hi; omega
  have hs : setN l < 2 ^ 64 := setN_lt fun x hx => by have := hS.range x hx; omega
  have hp : (2 : Nat) ^ es.length < 2 ^ 61 := Nat.pow_lt_pow_right (by decide) (by omega)
  have hp64 : (2 : Nat) ^ 61 < 2 ^ 64 := by decide
  have hmp := Nat.two_pow_pos es.length
  apply F79.ac
  unfold F79.B2
  refine newK_f (all_iv (edges_one' h)) fun H1 l1 _ o1 => ?_
  unfold F79.B1
  refine ldI_own o1 rfl (ld1_own o1 rfl (ldI_own o1 rfl (ld1_own o1 rfl (every_ok (h.le l1) (by omega) fun H2 l2 => asI_mk ⟨l2, ?_⟩))))
  rw [bits_andnot (by omega) hs]
  obtain ⟨X, hX⟩ : ∃ X, X = (2 ^ es.length - 1) &&& (2 ^ 64 - (setN l + 1)) := ⟨_, rfl⟩
  rw [← hX]
  have hXl : X < 2 ^ 64 := by rw [hX]; exact Nat.lt_of_le_of_lt Nat.and_le_left (by omega)
  have hXb : ∀ j, X.testBit j = (decide (j < es.length) && leftP l j) := fun j => by rw [hX, andnot_bit (by omega) hs, Nat.testBit_two_pow_sub_one]; rfl
  have hcg : ∀ j, j < es.length → (fun j => X.testBit j) j = leftP l j := fun j hj => by show X.testBit j = _; rw [hXb]; simp [hj]
  have l12 := AHeap.le_trans l1 l2
  refine cycles_ok (h.le l12) hg hXl (fun j hj => by rw [hXb, Bool.and_eq_true] at hj; exact of_decide_eq_true hj.1) fun v' G lG fG => ?_
  refine k v' G (AHeap.le_trans l12 lG) ?_
  rw [cycN_ldr, ldr_congr hcg _ (Nat.le_refl _), List.map_congr_left fun e _ => compN_congr hcg e] at fG
  exact fG.less l12.1
theorem mem_ldr {p : Nat → Bool} {k e : Nat} : e ∈ ldr es p k ↔ e < k ∧ p e = true ∧ cLeadB es p e = true := by
  unfold ldr; rw [List.mem_filter, List.mem_range, Bool.and_eq_true]

/-- Colours along a cycle. -/
def pnt (O : List Int) (c : List Int) : Nat → List Int
  | 0 => O
  | t + 1 => (pnt O c t).set (c.getD t 0).toNat (1 + ((t % 2 : Nat) : Int))
def pntAll (O : List Int) (cs : List (List Int)) : Nat → List Int
  | 0 => O
  | i + 1 => pnt (pntAll O cs i) (cs.getD i []) (cs.getD i []).length
theorem pnt_length (O c : List Int) : ∀ t, (pnt O c t).length = O.length
  | 0 => rfl
  | t + 1 => by rw [pnt, List.length_set, pnt_length O c t]
theorem pntAll_length (O : List Int) (cs : List (List Int)) : ∀ i, (pntAll O cs i).length = O.length
  | 0 => rfl
  | i + 1 => by rw [pntAll, pnt_length, pntAll_length O cs i]
noncomputable def coCode (n : Int) (es : List (Int × Int)) (l : List Int) : Int := if IsG n es then (if IsM n es l then (if 0 < oddN es l then 4 else 0) else 2) else 1
noncomputable def coList (n : Int) (es : List (Int × Int)) (l : List Int) : List Int := if coCode n es l = 0 then pntAll (List.replicate es.length 0) (cycW es (leftP l) es.length) (cycW es (leftP l) es.length).length else []
theorem coList_small {n : Int} (hl : es.length ≤ 1048576) : (coList n es l).length ≤ 1048576 := by
  unfold coList
  split
  · rw [pntAll_length, List.length_replicate]; exact hl
  · simp
theorem RowsF.monoB (h : RowsF A B H v ls) (ha : ∀ b, A b → b < B → A' b) : RowsF A' B H v ls := by
  obtain ⟨vs, h1, h2, h3, h4⟩ := h
  refine ⟨vs, h1, h2, fun b hbk => ⟨ha b (h3 b hbk).1 (h3 b hbk).2, (h3 b hbk).2⟩, fun i hi => ?_⟩
  obtain ⟨w, g1, g2, g3⟩ := h4 i hi
  exact ⟨w, g1, g2, fun b hbk => ⟨ha b (g3 b hbk).1 (g3 b hbk).2.1, (g3 b hbk).2⟩⟩
theorem cycW_row {n : Int} (hg : IsG n es) (h2 : ∀ x : Nat, (x : Int) < n → degB es (leftP l) x = 2) {i : Nat} (hi : i < (cycW es (leftP l) es.length).length) : ((cycW es (leftP l) es.length).getD i []).length ≤ es.length ∧ ∀ x ∈ (cycW es (leftP l) es.length).getD i [], 0 ≤ x ∧ x < es.length := by
  have hm := List.getElem_mem hi
  rw [getD_of hi]
  generalize (cycW es (leftP l) es.length)[i] = c at hm
  rw [cycW_ldr, List.mem_map] at hm
  obtain ⟨e, he, rfl⟩ := hm
  obtain ⟨h1, h3, h4⟩ := mem_ldr.1 he
  refine ⟨by rw [wkL_length]; exact filtB_length _ _, fun x hx => ?_⟩
  obtain ⟨a0, w, hW⟩ := wk_walk hg h2 h1 h3 _ (Nat.le_refl _)
  obtain ⟨j, rfl, h5, _⟩ := hW.mem x hx
  omega

theorem l04Code_ok {n : Int} (h : Edges H v es) (hl : es.length ≤ 1048576) (hc : Ints H u l) (hcl : l.length ≤ 1048576) (k : ∀ G, H.le G → K (.int .i64 (if IsG n es then (if IsM n es l then 0 else 2) else 1)) G) : AC Try.prog T0 74 [.agg ⟨[.int .i64 n, v]⟩, u] H K := by
  apply F74.ac
  unfold F74.B6
  refine newK_f (all_iv (edges_one' h)) fun H1 l1 _ o1 => ?_
  unfold F74.B5
  refine ldI_own o1 rfl (ld1_own o1 rfl (l01Is_ok (h.le l1) hl fun H2 l2 => asB_mk (pif_cases (fun hs => ?_) fun hs => ?_)))
  · have hg : ¬ IsG n es := by simpa using hs
    unfold F74.B2
    have k := k _ (AHeap.le_trans l1 l2)
    rw [if_neg hg] at k; exact k
  · have hg : IsG n es := by simpa using hs
    have l12 := AHeap.le_trans l1 l2
    unfold F74.B4
    refine ldI_own (o1.le l2) rfl (ld1_own (o1.le l2) rfl (l04Is_ok (h.le l12) hl hg (hc.le l12) hcl fun H3 l3 => asB_mk (pif_cases (fun hs => ?_) fun hs => ?_)))
    · have hm : ¬ IsM n es l := by simpa using hs
      unfold F74.B3
      have k := k _ (AHeap.le_trans l12 l3)
      rw [if_pos hg, if_neg hm] at k; exact k
    · have hm : IsM n es l := by simpa using hs
      unfold F74.B1
      have k := k _ (AHeap.le_trans l12 l3)
      rw [if_pos hg, if_pos hm] at k; exact k
theorem isMatching2_ok {n : Int} (h : Edges H v es) (hl : es.length ≤ 1048576) (hc : Ints H u l) (hcl : l.length ≤ 1048576) (k : ∀ b G, H.le G → (IsG n es → b = decide (IsM n es l)) → K (.bool b) G) :
    AC Try.prog T0 77 [.agg ⟨[.int .i64 n, v]⟩, u] H K := by
  by_cases hg : IsG n es
  · exact isMatching_ok h hl hg hc hcl fun G hG => k _ G hG fun _ => rfl
  · apply F77.ac
    unfold F77.B11
    refine newK_f (all_iv (edges_one' h)) fun H1 l1 n1' o1 => ?_
    unfold F77.B10
    refine ldI_own o1 rfl (ld1_own o1 rfl (IsGraph_ok (h.le l1) hl fun H2 l2 => asB_mk (pif_t (by rw [decide_eq_false hg]; rfl) ?_)))
    unfold F77.B9
    exact k _ _ (AHeap.le_trans l1 l2) fun h => absurd h hg
theorem tmod_col (x : Nat) (hx : x < 1000000) : IntKind.i64.wrap (1 + Int.tmod ((x : Nat) : Int) 2) = 1 + ((x % 2 : Nat) : Int) := by
  rw [tmod2, wrap_id (by omega) (by omega)]

theorem specColouring_ok {n : Int} (h : Edges H v es) (hl : es.length ≤ 1048576) (hc : Ints H u l) (hcl : l.length ≤ 1048576)
    (k : ∀ v' G, H.le G → Fresh H.length G v' 2 1 (LI (coList n es l)) → K (.tuple ⟨[v', .int .i64 (coCode n es l)]⟩) G) : AC Try.prog T0 35 [.agg ⟨[.int .i64 n, v]⟩, u] H K := by
  apply F35.ac
  unfold F35.B17
  refine newK_f (all_iv (edges_one' h)) fun H1 l1 _ o1 => ?_
  unfold F35.B16
  refine ldI_own o1 rfl (ld1_own o1 rfl (l04Code_ok (h.le l1) hl (hc.le l1) hcl fun H2 l2 => asI_mk ?_))
  have l12 := AHeap.le_trans l1 l2
  have o2 := o1.le l2
  unfold F35.B15
  by_cases hok : IsG n es ∧ IsM n es l
  rotate_left
  · have hne : (if IsG n es then (if IsM n es l then 0 else 2) else 1 : Int) = coCode n es l ∧ coCode n es l ≠ 0 := by
      unfold coCode
      by_cases hg : IsG n es
      · have hm : ¬ IsM n es l := fun hm => hok ⟨hg, hm⟩
        rw [if_pos hg, if_neg hm, if_pos hg, if_neg hm]; exact ⟨rfl, by decide⟩
      · rw [if_neg hg, if_neg hg]; exact ⟨rfl, by decide⟩
    rw [hne.1]
    refine pif_t (bne_iff_ne.2 hne.2) ?_
    unfold F35.B14
    have k := k (.slice none 0 0) _ l12
    unfold coList at k
    rw [if_neg hne.2] at k
    exact k (.inl ⟨rfl, .inl rfl⟩)
  obtain ⟨hg, hm⟩ := hok
  rw [if_pos hg, if_pos hm]
  refine pif_f rfl ?_
  have n0 := hg.ed.lo; have n1 := hg.ed.hi
  have h30 : es.length ≤ 30 := by have := hg.ed.len; omega
  have hS := hm.set
  have ho := isM_one hg hm
  have hdeg : ∀ x : Nat, (x : Int) < n → degB es (leftP l) x = 2 := fun x hx => left_deg hg hS ho hx
  have hb1 := l12.1
  obtain ⟨cs, hcs⟩ : ∃ cs, cs = cycW es (leftP l) es.length := ⟨_, rfl⟩
  have hcl2 : cs.length ≤ 30 := by rw [hcs]; exact Nat.le_trans (cycW_length _ _) h30
  have hrow : ∀ i, i < cs.length → (cs.getD i []).length ≤ es.length ∧ ∀ x ∈ cs.getD i [], 0 ≤ x ∧ x < es.length := fun i hi => by rw [hcs] at hi ⊢; exact cycW_row hg hdeg hi
  have hodd : oddSum (cs.map List.length) = oddN es l := by rw [hcs, cycW_lens]; rfl
  have main : ∀ G q b8, H.le G → b8 ≥ H.length → RowsF (fun b => b ≠ b8) G.length G q cs → Own G b8 2 (LI (List.replicate es.length 0)) → F35.B12 K q (.slice (some ⟨b8, 0, none⟩) es.length (es.length + 1)) G := by
    intro G q b8 hG hb8 hR oO
    unfold F35.B12
    refine l04Odd_ok hR (by omega) (asI_mk ?_)
    rw [hodd]
    refine pif_cases (fun hb => ?_) fun hb => ?_
    · have h0 : 0 < oddN es l := by have := of_decide_eq_true hb; omega
      have e : coCode n es l = 4 := by unfold coCode; rw [if_pos hg, if_pos hm, if_pos h0]
      unfold F35.B11
      have k := k (.slice none 0 0) _ hG
      unfold coList at k
      rw [e] at k
      exact k (.inl ⟨rfl, .inl rfl⟩)
    have h0 : ¬ 0 < oddN es l := by have := of_decide_eq_false hb; omega
    have e : coCode n es l = 0 := by unfold coCode; rw [if_pos hg, if_pos hm, if_neg h0]
    unfold F35.B10 F35.L2
    refine ⟨fun x7 x8 x9 G' => q = x7 ∧ .slice (some ⟨b8, 0, none⟩) es.length (es.length + 1) = x8 ∧ H.le G' ∧ ∃ i : Nat, x9 = i ∧ i ≤ cs.length ∧ ∃ B', RowsF (fun b => b ≠ b8) B' G' q cs ∧ Own G' b8 2 (LI (pntAll (List.replicate es.length 0) cs i)), fun _ _ x9 _ => cs.length - x9.toNat, ⟨rfl, rfl, hG, 0, rfl, by omega, _, hR, oO⟩, ?_⟩
    clear hR oO hG
    rintro x7 x8 x9 G1 ⟨rfl, rfl, hG1, i, rfl, hi, B', hR, oO⟩
    unfold F35.B9
    refine hR.len (pif_cases (fun hb => ?_) fun hb => ?_)
    · have hil : i < cs.length := by have := of_decide_eq_true hb; omega
      obtain ⟨hr1, hr2⟩ := hrow i hil
      unfold F35.B8 F35.L4
      refine ⟨fun x7 x8 x9 x10 G' => q = x7 ∧ .slice (some ⟨b8, 0, none⟩) es.length (es.length + 1) = x8 ∧ (i : Int) = x9 ∧ H.le G' ∧ ∃ t : Nat, x10 = t ∧ t ≤ (cs.getD i []).length ∧ RowsF (fun b => b ≠ b8) B' G' q cs ∧ Own G' b8 2 (LI (pnt (pntAll (List.replicate es.length 0) cs i) (cs.getD i []) t)), fun _ _ _ x10 _ => (cs.getD i []).length - x10.toNat, ⟨rfl, rfl, rfl, hG1, 0, rfl, by omega, hR, oO⟩, ?_⟩
      clear hR oO hG1
      rintro x7 x8 x9 x10 G2 ⟨rfl, rfl, rfl, hG2, t, rfl, ht, hR, oO⟩
      unfold F35.B7
      refine hR.row hil fun w hw => hw.ints.len (pif_cases (fun hb => ?_) fun hb => ?_)
      · have htl : t < (cs.getD i []).length := by have := of_decide_eq_true hb; omega
        have hx := hr2 _ (List.getElem_mem htl)
        rw [← getD_of (d := 0) htl] at hx
        have hpl : (pnt (pntAll (List.replicate es.length 0) cs i) (cs.getD i []) t).length = es.length := by rw [pnt_length, pntAll_length, List.length_replicate]
        unfold F35.B6
        refine hR.row hil fun w hw => hw.ints.rd (by omega) (by omega) ?_
        rw [Int.toNat_natCast]
        refine own_idx (by omega) (by omega) (stK_1 oO (by rw [List.length_map, hpl]; omega) rfl fun G3 b3 o3 => ?_)
        rw [tmod_col t (by omega), ← List.map_set] at o3
        unfold F35.B5
        rw [wrap_id (by omega) (by omega)]
        exact ⟨⟨rfl, rfl, rfl, b3.le hG2 hb8, t + 1, by omega, by omega, hR.but b3 (fun h => h rfl), o3⟩, by show (cs.getD i []).length - ((t : Int) + 1).toNat < (cs.getD i []).length - (t : Int).toNat; omega⟩
      · have htl : t = (cs.getD i []).length := by have := of_decide_eq_false hb; omega
        subst htl
        unfold F35.B3
        rw [wrap_id (by omega) (by omega)]
        exact ⟨⟨rfl, rfl, hG2, i + 1, by omega, by omega, B', hR, oO⟩, by show cs.length - ((i : Int) + 1).toNat < cs.length - (i : Int).toNat; omega⟩
    · have hil : i = cs.length := by have := of_decide_eq_false hb; omega
      subst hil
      unfold F35.B1
      have k := k (.slice (some ⟨b8, 0, none⟩) es.length (es.length + 1)) _ hG1
      unfold coList at k
      rw [e, if_pos rfl, ← hcs] at k
      exact k (.inr ⟨b8, es.length, hb8, rfl, oO, by rw [List.length_map, pntAll_length, List.length_replicate]; omega⟩)
  unfold F35.B13
  refine ldI_own o2 rfl (ld1_own o2 rfl (ld1_own o2 rfl ((h.le l12).len ⟨?_, ?_⟩)))
  · refine l04CyclesW_ok (h.le l12) hg (hc.le l12) hS ho fun q H3 l3 hR => ⟨ld1_own (o2.le l3) rfl ⟨rfl, rfl⟩, mkR_int (by omega) (by omega) (by decide) fun H4 l4 n4 o4 => ?_⟩
    rw [← hcs] at hR
    rw [Int.toNat_natCast, rep_one] at o4
    rw [Int.toNat_natCast]
    have hl3 := l3.1
    exact main H4 q _ (AHeap.le_trans l12 (AHeap.le_trans l3 l4)) (by omega) (((hR.le l4).monoB fun b _ hb => by omega).mono (fun _ h => h) l4.1) o4
  · refine mkR_int (by omega) (by omega) (by decide) fun H3 l3 n3 o3 => l04CyclesW_ok (h.le (AHeap.le_trans l12 l3)) hg (hc.le (AHeap.le_trans l12 l3)) hS ho fun q H4 l4 hR => ⟨ld1_own ((o2.le l3).le l4) rfl ⟨rfl, rfl⟩, ?_⟩
    rw [← hcs] at hR
    rw [Int.toNat_natCast, rep_one] at o3
    rw [Int.toNat_natCast]
    exact main H4 q _ (AHeap.le_trans l12 (AHeap.le_trans l3 l4)) (by omega) (hR.monoB fun b hb _ => by omega) (o3.le l4)
end Go.Proofs
