/- Contracts: whether a graph is one: the reference's way. -/
import Derived.Test.YtfcflpcmjlbedabU4
set_option linter.unusedVariables false
set_option linter.unusedSimpArgs false
set_option maxRecDepth 100000
namespace Go.Proofs
open Go.Abs

variable {H : AHeap} {v u f : Value} {l m : List Int} {es fs : List (Int × Int)} {K : Value → AHeap → Prop}

theorem l01Before_ok {a b : Int × Int} (k : ∀ G, H.le G → K (.bool (decide (ltE a b))) G) : AC Try.prog T0 96 [.agg ⟨[.int .i64 a.1, .int .i64 a.2]⟩, .agg ⟨[.int .i64 b.1, .int .i64 b.2]⟩] H K := by
  apply F96.ac
  unfold F96.B2
  refine newK_f rfl fun H1 l1 n1 o1 => newK_f rfl fun H2 l2 n2 o2 => ?_
  have o1 := l2.2 _ _ o1
  have k := k _ (AHeap.le_trans l1 l2)
  unfold F96.B1
  refine ldI_own o1 rfl (ldI_own o2 rfl (pif_cases (fun h => ?_) fun h => ?_))
  · rw [decide_eq_true (show ltE a b from .inl (of_decide_eq_true h))] at k; exact k
  · have h := of_decide_eq_false h
    refine ldI_own o1 rfl (ldI_own o2 rfl (pif_cases (fun g => ?_) fun g => ?_))
    · refine ldI_own o1 rfl (ldI_own o2 rfl ?_)
      have g : a.1 = b.1 := by simpa using g
      have e : decide (a.2 < b.2) = decide (ltE a b) := by rw [decide_eq_decide]; unfold ltE; omega
      rw [e]; exact k
    · have g : a.1 ≠ b.1 := by simpa using g
      rw [decide_eq_false (by unfold ltE; omega)] at k; exact k

theorem l01Ends_ok {n : Int} (h : Edges H v es) (hl : es.length ≤ 1048576) (k : K (.int .i64 (if IsEd n es then 0 else 2)) H) : AC Try.prog T0 94 [.int .i64 n, v] H K := by
  apply F94.ac
  unfold F94.B10 F94.B9
  have no : ¬ IsEd n es → F94.B8 K H := by
    intro hno
    unfold F94.B8; rw [if_neg hno] at k; exact k
  refine l01In_ok (asB_mk (pif_cases (fun hs => ?_) fun hs => ?_))
  · rw [Bool.not_eq_true'] at hs
    exact no fun hd => of_decide_eq_false hs ⟨hd.lo, hd.hi⟩
  · rw [Bool.not_eq_false'] at hs
    obtain ⟨s1, s2⟩ := of_decide_eq_true hs
    refine pif_cases (fun hs => ?_) fun hs => ?_
    · exact no fun hd => by have := hd.even; rw [Int.tmod_eq_emod_of_nonneg (by omega)] at hs; simp [this] at hs
    · have s3 : n % 2 = 0 := by rw [Int.tmod_eq_emod_of_nonneg (by omega)] at hs; simpa using hs
      refine h.len ?_
      rw [wrap_id (x := 3 * n) (by omega) (by omega), show Int.tdiv (3 * n) 2 = 3 * n / 2 from Int.tdiv_eq_ediv_of_nonneg (by omega), wrap_id (by omega) (by omega)]
      refine pif_cases (fun hs => ?_) fun hs => ?_
      · exact no fun hd => by have := hd.len; simp [this] at hs
      · have hlen : (es.length : Int) = 3 * n / 2 := by simpa using hs
        unfold F94.B7 F94.L2
        refine ⟨fun x0 x1 x5 G => x0 = n ∧ x1 = v ∧ 0 ≤ x5 ∧ x5 ≤ es.length ∧ G = H ∧ ∀ i : Nat, (i : Int) < x5 → 0 ≤ (es.getD i (0, 0)).1 ∧ (es.getD i (0, 0)).1 ≤ n - 1 ∧ 0 ≤ (es.getD i (0, 0)).2 ∧ (es.getD i (0, 0)).2 ≤ n - 1 ∧ (es.getD i (0, 0)).1 ≠ (es.getD i (0, 0)).2,
          fun _ _ x5 _ => es.length - x5.toNat, ⟨rfl, rfl, by omega, by omega, rfl, fun i hi => absurd hi (by omega)⟩, ?_⟩
        rintro x0 x1 x5 G ⟨rfl, rfl, h0, h1, rfl, hp⟩
        unfold F94.B6
        refine h.len (pif_cases (fun hb => ?_) fun hb => ?_)
        · have hlt : x5 < es.length := of_decide_eq_true hb
          obtain ⟨i, rfl⟩ : ∃ i : Nat, x5 = i := ⟨x5.toNat, by omega⟩
          have hi : i < es.length := by omega
          have no : ¬ (0 ≤ (es.getD i (0, 0)).1 ∧ (es.getD i (0, 0)).1 ≤ x0 - 1 ∧ 0 ≤ (es.getD i (0, 0)).2 ∧ (es.getD i (0, 0)).2 ≤ x0 - 1 ∧ (es.getD i (0, 0)).1 ≠ (es.getD i (0, 0)).2) → ∀ N, F94.B4 K N G := by
            intro hno N
            unfold F94.B4
            rw [if_neg (fun hd => hno (by have := hd.ends _ (List.getElem_mem hi); rw [getD_of hi]; exact this))] at k; exact k
          unfold F94.B5
          obtain ⟨b, o, hk, c1, c2⟩ := h.idx h0 hlt
          simp only [Int.toNat_natCast] at c1 c2
          refine hk _ (ldI_mk c1 (l01In_ok (asB_mk ?_)))
          rw [wrap_id (by omega) (by omega)]
          refine pif_cases (fun hs => ?_) fun hs => ?_
          · rw [Bool.not_eq_true'] at hs
            exact no (fun hy => of_decide_eq_false hs ⟨hy.1, hy.2.1⟩) _
          · rw [Bool.not_eq_false'] at hs
            obtain ⟨t1, t2⟩ := of_decide_eq_true hs
            refine hk _ (ldI_mk c2 (l01In_ok (asB_mk (pif_cases (fun hs => ?_) fun hs => ?_))))
            · rw [Bool.not_eq_true'] at hs
              exact no (fun hy => of_decide_eq_false hs ⟨hy.2.2.1, hy.2.2.2.1⟩) _
            · rw [Bool.not_eq_false'] at hs
              obtain ⟨t3, t4⟩ := of_decide_eq_true hs
              refine hk _ (ldI_mk c1 (hk _ (ldI_mk c2 (pif_cases (fun hs => ?_) fun hs => ?_))))
              · exact no (fun hy => hy.2.2.2.2 (by simpa using hs)) _
              · unfold F94.B3
                rw [wrap_id (x := (i : Int) + 1) (by omega) (by omega)]
                refine ⟨⟨rfl, rfl, by omega, by omega, rfl, fun j hj => ?_⟩, by simp; omega⟩
                by_cases he : j = i
                · subst he; exact ⟨t1, t2, t3, t4, by simpa using hs⟩
                · exact hp j (by omega)
        · have hge : ¬ x5 < es.length := of_decide_eq_false hb
          unfold F94.B1
          rw [if_pos (⟨s1, s2, s3, hlen, fun e he => by
            obtain ⟨i, hi, rfl⟩ := List.getElem_of_mem he
            have := hp i (by omega)
            rwa [getD_of hi] at this⟩ : IsEd x0 es)] at k
          exact k

theorem l01Cubic_ok {n : Int} (h : Edges H v es) (hd : IsEd n es) (k : ∀ G, H.le G → K (.bool (decide (Cub n es))) G) : AC Try.prog T0 95 [.int .i64 n, v] H K := by
  have := hd.lo; have := hd.hi; have hlen := hd.len
  apply F95.ac
  unfold F95.B15 F95.B14
  refine mkR_int (by omega) (by omega) (by decide) fun H1 l1 n1 o1 => ?_
  unfold F95.B13 F95.L8
  rw [rep_one] at o1
  refine ⟨fun x0 x1 x5 x6 G => x0 = n ∧ x1 = v ∧ x5 = .slice (some ⟨H.length, 0, none⟩) n.toNat (n.toNat + 1) ∧ 0 ≤ x6 ∧ x6 ≤ es.length ∧ H.le G ∧ Own G H.length 2 (LI (counts n (es.take x6.toNat))), fun _ _ _ x6 _ => es.length - x6.toNat, ⟨rfl, rfl, rfl, by omega, by omega, l1, by simpa [counts] using o1⟩, ?_⟩
  rintro x0 x1 x5 x6 G ⟨rfl, rfl, rfl, h0, h1, hG, ho⟩
  unfold F95.B12
  refine h.len (pif_cases (fun hb => ?_) fun hb => ?_)
  · have hlt : x6 < es.length := of_decide_eq_true hb
    obtain ⟨i, rfl⟩ : ∃ i : Nat, x6 = i := ⟨x6.toNat, by omega⟩
    have hi : i < es.length := by omega
    unfold F95.B11
    obtain ⟨b, o, hk, c1, c2⟩ := (h.le hG).idx h0 hlt
    obtain ⟨e1, e2, e3, e4, _⟩ := hd.ends es[i] (List.getElem_mem hi)
    simp only [Int.toNat_natCast, getD_of hi] at c1 c2 ho
    have cl : (counts x0 (es.take i)).length = x0.toNat := counts_length _ _
    have cb : ∀ c ∈ counts x0 (es.take i), 0 ≤ c ∧ c ≤ 1000 := fun c hc => by have := counts_le _ _ c hc; simp at this; omega
    have hs : ∀ cs : List Int, cs.length = x0.toNat → (.slice (some ⟨H.length, 0, none⟩) x0.toNat (x0.toNat + 1) : Value) = .slice (some ⟨H.length, 0, none⟩) cs.length (cs.length + 1) := fun cs h => by rw [h]
    refine hk _ (ldI_mk c1 ?_)
    rw [hs _ cl]
    refine bump_at ho e1 (by omega) (fun c hc => by have := cb c hc; omega) fun H4 b4 o4 => ?_
    rw [← hs _ cl]
    unfold F95.B10
    have l4 := b4.le hG (Nat.le_refl _)
    obtain ⟨b', o', hk', c1', c2'⟩ := (h.le l4).idx h0 hlt
    simp only [Int.toNat_natCast, getD_of hi] at c1' c2'
    refine hk' _ (ldI_mk c2' ?_)
    rw [hs _ ((bump1_length _ _).trans cl)]
    refine bump_at o4 e3 (by rw [bump1_length]; omega) (fun c hc => by have := bump1_le cb _ c hc; omega) fun H5 b5 o5 => ?_
    rw [← hs _ ((bump1_length _ _).trans cl)]
    unfold F95.B9
    rw [wrap_id (by omega) (by omega)]
    refine ⟨⟨rfl, rfl, rfl, by omega, by omega, b5.le l4 (Nat.le_refl _), ?_⟩, by simp; omega⟩
    rw [show ((i : Int) + 1).toNat = i + 1 by omega, counts_take x0 es hi]
    exact o5
  · have hge : ¬ x6 < es.length := of_decide_eq_false hb
    have : x6 = es.length := by omega
    subst this
    simp only [Int.toNat_natCast, List.take_length] at ho
    have cl : (counts x0 es).length = x0.toNat := counts_length _ _
    have hi := own_ints (c := x0.toNat + 1) ho
    rw [cl] at hi
    unfold F95.B7 F95.L2
    refine ⟨fun y0 y5 y7 G' => y0 = x0 ∧ y5 = .slice (some ⟨H.length, 0, none⟩) x0.toNat (x0.toNat + 1) ∧ 0 ≤ y7 ∧ y7 ≤ x0 ∧ G' = G ∧ ∀ i : Nat, (i : Int) < y7 → (counts x0 es).getD i 0 = 3, fun _ _ y7 _ => (x0 - y7).toNat, ⟨rfl, rfl, by omega, by omega, rfl, fun i hi => absurd hi (by omega)⟩, ?_⟩
    rintro y0 y5 y7 G' ⟨rfl, rfl, g0, g1, rfl, hp⟩
    unfold F95.B6
    have k := k _ hG
    refine pif_cases (fun hb => ?_) fun hb => ?_
    · have hlt : y7 < y0 := of_decide_eq_true hb
      obtain ⟨i, rfl⟩ : ∃ i : Nat, y7 = i := ⟨y7.toNat, by omega⟩
      unfold F95.B5
      refine hi.rd g0 (by omega) ?_
      simp only [Int.toNat_natCast]
      refine pif_cases (fun hs => ?_) fun hs => ?_
      · unfold F95.B4
        have hil : i < (counts y0 es).length := by omega
        rw [getD_of hil] at hs
        rw [decide_eq_false (fun hc : Cub y0 es => by have := hc _ (List.getElem_mem hil); simp [this] at hs)] at k; exact k
      · unfold F95.B3
        rw [wrap_id (by omega) (by omega)]
        refine ⟨⟨rfl, rfl, by omega, by omega, rfl, fun j hj => ?_⟩, show (y0 - ((i : Int) + 1)).toNat < (y0 - (i : Int)).toNat by omega⟩
        by_cases he : j = i
        · subst he; exact bne_eq_false_iff_eq.1 hs
        · exact hp j (by omega)
    · have hge : ¬ y7 < y0 := of_decide_eq_false hb
      unfold F95.B1
      rw [decide_eq_true (show Cub y0 es from fun c hc => by
        obtain ⟨i, hi, rfl⟩ := List.getElem_of_mem hc
        have := hp i (by omega)
        rwa [getD_of hi] at this)] at k
      exact k

theorem l01Is_ok {n : Int} (h : Edges H v es) (hl : es.length ≤ 1048576) (k : ∀ G, H.le G → K (.bool (decide (IsG n es))) G) : AC Try.prog T0 47 [.agg ⟨[.int .i64 n, v]⟩] H K := by
  apply F47.ac
  unfold F47.B10
  refine newK_f (all_iv (edges_one' h)) fun H1 l1 n1 o1 => ?_
  unfold F47.B9
  refine ldI_own o1 rfl (ld1_own o1 rfl (l01Ends_ok (h.le l1) hl (asI_mk ?_)))
  refine pif_cases (fun hb => ?_) fun hb => ?_
  · unfold F47.B8
    have k := k _ l1
    rw [decide_eq_false (fun hg => by rw [if_pos hg.ed] at hb; simp at hb)] at k; exact k
  · have hd : IsEd n es := by
      by_cases hd : IsEd n es
      · exact hd
      · rw [if_neg hd] at hb; simp at hb
    refine ldI_own o1 rfl (ld1_own o1 rfl (l01Cubic_ok (h.le l1) hd fun H2 l2 => asB_mk ?_))
    have l12 := AHeap.le_trans l1 l2
    have o2 := l2.2 _ _ o1
    refine pif_cases (fun hb => ?_) fun hb => ?_
    · unfold F47.B8
      rw [Bool.not_eq_true'] at hb
      have k := k _ l12
      rw [decide_eq_false (fun hg => of_decide_eq_false hb hg.cub)] at k; exact k
    · rw [Bool.not_eq_false'] at hb
      have hc : Cub n es := of_decide_eq_true hb
      unfold F47.B7 F47.L2
      refine ⟨fun x1 x3 G => x1 = H.length ∧ 0 ≤ x3 ∧ x3 ≤ es.length ∧ H.le G ∧ Own G H.length 32 [.int .i64 n, v] ∧ ∀ i : Nat, (i : Int) < x3 → ¬ (es.getD i (0, 0)).1 > (es.getD i (0, 0)).2 ∧ (0 < i → ¬ ltE (es.getD i (0, 0)) (es.getD (i - 1) (0, 0))),
        fun _ x3 _ => es.length - x3.toNat, ⟨rfl, by omega, by omega, l12, o2, fun i hi => absurd hi (by omega)⟩, ?_⟩
      rintro x1 x3 G ⟨rfl, h0, h1, hG, ho, hp⟩
      unfold F47.B6
      refine ld1_own ho rfl ((h.le hG).len (pif_cases (fun hb => ?_) fun hb => ?_))
      · have hlt : x3 < es.length := of_decide_eq_true hb
        obtain ⟨i, rfl⟩ : ∃ i : Nat, x3 = i := ⟨x3.toNat, by omega⟩
        have hi : i < es.length := by omega
        have no : ∀ G, H.le G → ¬ (¬ (es.getD i (0, 0)).1 > (es.getD i (0, 0)).2 ∧ (0 < i → ¬ ltE (es.getD i (0, 0)) (es.getD (i - 1) (0, 0)))) → ∀ N, F47.B4 K N G := by
          intro G hG hno N
          unfold F47.B4
          have k := k _ hG
          rw [decide_eq_false (fun hg : IsG n es => hno ⟨by have := hg.up _ (List.getElem_mem hi); rw [getD_of hi]; omega, fun hi0 => by
            have := hg.srt (i - 1) (by omega)
            rwa [show i - 1 + 1 = i by omega] at this⟩)] at k; exact k
        have yes : (¬ (es.getD i (0, 0)).1 > (es.getD i (0, 0)).2 ∧ (0 < i → ¬ ltE (es.getD i (0, 0)) (es.getD (i - 1) (0, 0)))) → ∀ j : Nat, (j : Int) < (i : Int) + 1 → ¬ (es.getD j (0, 0)).1 > (es.getD j (0, 0)).2 ∧ (0 < j → ¬ ltE (es.getD j (0, 0)) (es.getD (j - 1) (0, 0))) := by
          intro hy j hj
          by_cases he : j = i
          · subst he; exact hy
          · exact hp j (by omega)
        unfold F47.B5
        obtain ⟨b, o, hk, c1, c2⟩ := (h.le hG).idx h0 hlt
        simp only [Int.toNat_natCast] at c1 c2
        refine ld1_own ho rfl (hk _ (ldI_mk c1 (ld1_own ho rfl (hk _ (ldI_mk c2 (pif_cases (fun hs => ?_) fun hs => ?_))))))
        · exact no _ hG (fun hy => hy.1 (of_decide_eq_true hs)) _
        · have hs := of_decide_eq_false hs
          refine pif_cases (fun ht => ?_) fun ht => ?_
          · have hi0 : 0 < i := by have := of_decide_eq_true ht; omega
            rw [wrap_id (by omega) (by omega)]
            obtain ⟨b', o', hk', c1', c2'⟩ := (h.le hG).idx (show (0 : Int) ≤ (i : Int) - 1 by omega) (by omega)
            rw [show ((i : Int) - 1).toNat = i - 1 by omega] at c1' c2'
            refine ld1_own ho rfl (hk _ (ldI_mk c1 (ldI_mk c2 (ld1_own ho rfl (hk' _ (ldI_mk c1' (ldI_mk c2' (l01Before_ok fun G2 hG2 => asB_mk (pif_cases (fun hb => ?_) fun hb => ?_)))))))))
            · exact no _ (AHeap.le_trans hG hG2) (fun hy => hy.2 hi0 (of_decide_eq_true hb)) _
            · unfold F47.B3
              rw [wrap_id (by omega) (by omega)]
              exact ⟨⟨rfl, by omega, by omega, AHeap.le_trans hG hG2, hG2.2 _ _ ho, yes ⟨hs, fun _ => of_decide_eq_false hb⟩⟩, by simp; omega⟩
          · have := of_decide_eq_false ht
            unfold F47.B3
            rw [wrap_id (by omega) (by omega)]
            exact ⟨⟨rfl, by omega, by omega, hG, ho, yes ⟨hs, fun h => by omega⟩⟩, by simp; omega⟩
      · have hge : ¬ x3 < es.length := of_decide_eq_false hb
        unfold F47.B1
        have k := k _ hG
        rw [decide_eq_true (⟨hd, fun e he => by
          obtain ⟨i, hi, rfl⟩ := List.getElem_of_mem he
          have h1 := (hp i (by omega)).1
          have h2 := (hd.ends _ (List.getElem_mem hi)).2.2.2.2
          rw [getD_of hi] at h1; omega, fun i hi => by have := (hp (i + 1) (by omega)).2 (by omega); simpa using this, hc⟩ : IsG n es)] at k
        exact k

end Go.Proofs
