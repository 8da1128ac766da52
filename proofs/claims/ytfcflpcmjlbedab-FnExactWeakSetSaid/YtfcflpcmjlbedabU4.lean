/- Contracts: whether a graph is one: the program's way. -/
import Derived.Test.YtfcflpcmjlbedabU3
set_option linter.unusedVariables false
set_option linter.unusedSimpArgs false
set_option maxRecDepth 100000
namespace Go.Proofs
open Go.Abs

variable {H : AHeap} {v u f : Value} {l m : List Int} {es fs : List (Int × Int)} {K : Value → AHeap → Prop}

def cmpI (a b : Int) : Int := if a < b then -1 else if a > b then 1 else 0
def cmpE (a b : Int × Int) : Int := if cmpI a.1 b.1 ≠ 0 then cmpI a.1 b.1 else cmpI a.2 b.2
theorem cmpE_neg (a b : Int × Int) : cmpE a b < 0 ↔ ltE a b := by
  unfold cmpE cmpI ltE
  repeat' split
  all_goals omega

theorem edges_one' {H : AHeap} {v : Value} {l : List (Int × Int)} (h : Edges H v l) : v.oneCell' = true := by
  rcases h with ⟨rfl, _⟩ | ⟨a, c, rfl, _⟩ <;> rfl
theorem isNaN_ok {a : Int} (k : K (.bool false) H) : AC Try.prog T0 199 [.int .i64 a] H K := by
  apply F199.ac
  unfold F199.B2 F199.B1
  simpa using k
theorem cmpCompare_ok {a b : Int} (k : K (.int .i64 (cmpI a b)) H) : AC Try.prog T0 186 [.int .i64 a, .int .i64 b] H K := by
  apply F186.ac
  unfold F186.B14 F186.B13
  refine isNaN_ok (asB_mk ?_)
  unfold F186.B12
  refine isNaN_ok (asB_mk ?_)
  unfold F186.B11
  refine pif_f rfl ?_
  unfold F186.B7
  refine pif_f rfl ?_
  unfold F186.B5
  unfold cmpI at k
  refine pif_cases (fun h => ?_) fun h => ?_
  · unfold F186.B4; rw [if_pos (of_decide_eq_true h)] at k; exact k
  · rw [if_neg (of_decide_eq_false h)] at k
    unfold F186.B3
    refine pif_cases (fun h => ?_) fun h => ?_
    · unfold F186.B2; rw [if_pos (of_decide_eq_true h)] at k; exact k
    · unfold F186.B1; rw [if_neg (of_decide_eq_false h)] at k; exact k

theorem compare2_ok {a b c d : Int} (h : Ints H v [a, b]) (g : Ints H u [c, d]) (k : K (.int .i64 (cmpE (a, b) (c, d))) H) : AC Try.prog T0 173 [v, u] H K := by
  apply F173.ac
  unfold F173.B15 F173.B14
  refine h.len ?_
  unfold F173.L4
  refine ⟨fun x0 x1 x9 x10 x11 G => x0 = v ∧ x1 = u ∧ x9 = v ∧ x10 = 2 ∧ G = H ∧ (x11 = 0 ∨ (x11 = 1 ∧ cmpI a c = 0) ∨ (x11 = 2 ∧ cmpI a c = 0 ∧ cmpI b d = 0)), fun _ _ _ _ x11 _ => 2 - x11.toNat, ⟨rfl, rfl, rfl, rfl, rfl, .inl rfl⟩, ?_⟩
  rintro x0 x1 x9 x10 x11 G ⟨rfl, rfl, rfl, rfl, rfl, p⟩
  unfold F173.B13
  rcases p with rfl | ⟨rfl, p⟩ | ⟨rfl, p, q⟩
  · refine pif_t rfl ?_
    unfold F173.B12
    refine h.rd (by decide) (by simp) ?_
    unfold F173.B11
    refine g.len (pif_f rfl ?_)
    unfold F173.B9
    refine g.rd (by decide) (by simp) ?_
    unfold F173.B8
    refine cmpCompare_ok (asI_mk ?_)
    unfold F173.B7
    refine pif_cases (fun hb => ?_) fun hb => ?_
    · unfold F173.B6
      have hb : cmpI a c ≠ 0 := by simpa using hb
      unfold cmpE at k
      rw [if_pos hb] at k; exact k
    · unfold F173.B5
      exact ⟨⟨rfl, rfl, rfl, rfl, rfl, .inr (.inl ⟨rfl, by simpa using hb⟩)⟩, show 2 - (IntKind.i64.wrap (0 + 1)).toNat < 2 - (0 : Int).toNat by decide⟩
  · refine pif_t rfl ?_
    unfold F173.B12
    refine h.rd (by decide) (by simp) ?_
    unfold F173.B11
    refine g.len (pif_f rfl ?_)
    unfold F173.B9
    refine g.rd (by decide) (by simp) ?_
    unfold F173.B8
    refine cmpCompare_ok (asI_mk ?_)
    unfold cmpE at k
    rw [if_neg (by simpa using p)] at k
    unfold F173.B7
    refine pif_cases (fun hb => ?_) fun hb => ?_
    · unfold F173.B6
      exact k
    · unfold F173.B5
      exact ⟨⟨rfl, rfl, rfl, rfl, rfl, .inr (.inr ⟨rfl, p, by simpa using hb⟩)⟩, show 2 - (IntKind.i64.wrap (1 + 1)).toNat < 2 - (1 : Int).toNat by decide⟩
  · refine pif_f rfl ?_
    unfold F173.B3
    refine h.len (g.len (pif_f rfl ?_))
    unfold F173.B1
    unfold cmpE at k
    rw [if_neg (by simpa using p)] at k
    simp only [q] at k; exact k

theorem own_ints {b : Nat} {e : TypeId} {l : List Int} {c : Nat} (h : Own H b e (LI l)) : Ints H (.slice (some ⟨b, 0, none⟩) l.length c) l :=
  .inr ⟨_, _, rfl, .inr ⟨rfl, fun i x hx => by rw [h.cell]; simp [hx]⟩⟩
theorem compareEdges_ok {a b : Int × Int} (k : ∀ G, H.le G → K (.int .i64 (cmpE a b)) G) : AC Try.prog T0 148 [ve a, ve b] H K := by
  apply F148.ac
  unfold F148.B2
  refine newK_f rfl fun H1 l1 n1 o1 => newK_f rfl fun H2 l2 n2 o2 => ?_
  unfold F148.B1
  exact compare2_ok (own_ints (l := [a.1, a.2]) (l2.2 _ _ o1)) (own_ints (l := [b.1, b.2]) o2) (asI_mk (k _ (AHeap.le_trans l1 l2)))

theorem isSorted_ok (h : Edges H v es) (hl : es.length ≤ 4611686018427387904) [Decidable (Srt es)] (k : ∀ G, H.le G → K (.bool (decide (Srt es))) G) : AC Try.prog T0 147 [v, .func (.func 148) ⟨[]⟩ ⟨[]⟩] H K := by
  apply F147.ac
  unfold F147.B8 F147.B7
  refine h.len ?_
  rw [wrap_id (by omega) (by omega)]
  unfold F147.L2
  refine ⟨fun x0 x1 x5 G => x0 = v ∧ x1 = .func (.func 148) ⟨[]⟩ ⟨[]⟩ ∧ -1 ≤ x5 ∧ x5 < es.length ∧ H.le G ∧ ∀ i, x5 ≤ (i : Nat) → i + 1 < es.length → ¬ ltE (es.getD (i + 1) (0, 0)) (es.getD i (0, 0)), fun _ _ x5 _ => (x5 + 1).toNat, ⟨rfl, rfl, by omega, by omega, AHeap.le_refl _, fun i hi hi2 => absurd hi (by omega)⟩, ?_⟩
  rintro x0 x1 x5 G ⟨rfl, rfl, h0, h1, hG, hp⟩
  unfold F147.B6
  refine pif_cases (fun hb => ?_) fun hb => ?_
  · have hgt : x5 > 0 := of_decide_eq_true hb
    obtain ⟨n, rfl⟩ : ∃ n : Nat, x5 = (n : Int) + 1 := ⟨(x5 - 1).toNat, by omega⟩
    unfold F147.B5
    rw [wrap_id (by omega) (by omega)]
    obtain ⟨b, o, hk, c1, c2⟩ := (h.le hG).idx (show (0 : Int) ≤ (n : Int) + 1 by omega) h1
    obtain ⟨b', o', hk', c1', c2'⟩ := (h.le hG).idx (show (0 : Int) ≤ (n : Int) + 1 - 1 by omega) (by omega)
    refine hk _ (ldI_mk c1 (ldI_mk c2 (hk' _ (ldI_mk c1' (ldI_mk c2' (callV_mk (compareEdges_ok (a := es.getD (((n : Int) + 1).toNat) (0, 0)) (b := es.getD (((n : Int) + 1 - 1).toNat) (0, 0)) fun G2 hG2 => asI_mk ?_)))))))
    rw [show ((n : Int) + 1).toNat = n + 1 by omega, show ((n : Int) + 1 - 1).toNat = n by omega]
    refine pif_cases (fun hb => ?_) fun hb => ?_
    · unfold F147.B4
      have := k _ (AHeap.le_trans hG hG2)
      rw [decide_eq_false (fun hs => hs n (by omega) ((cmpE_neg _ _).1 (of_decide_eq_true hb)))] at this; exact this
    · unfold F147.B3
      rw [wrap_id (by omega) (by omega)]
      refine ⟨⟨rfl, rfl, by omega, by omega, AHeap.le_trans hG hG2, fun i hi hi2 => ?_⟩, show ((n : Int) + 1 - 1 + 1).toNat < ((n : Int) + 1 + 1).toNat by omega⟩
      by_cases he : i = n
      · subst he; exact fun hs => of_decide_eq_false hb ((cmpE_neg _ _).2 hs)
      · exact hp i (by omega) hi2
  · have hle : ¬ x5 > 0 := of_decide_eq_false hb
    unfold F147.B1
    have := k _ hG
    rw [decide_eq_true (show Srt es from fun i hi => hp i (by omega) hi)] at this; exact this

theorem mkR_int {bytes : Nat} {e : TypeId} {zs : List Value} {n : Int} {K : Value → AHeap → Prop} (h0 : 0 ≤ n) (h1 : n ≤ 4294967296) (h2 : bytes ≤ 1024)
    (h : ∀ G, H.le G → G.length = H.length + 1 → Own G H.length e (List.replicate n.toNat zs).flatten → K (.slice (some ⟨H.length, 0, none⟩) n.toNat (n.toNat + 1)) G) : mkR H bytes e zs n n K :=
  ⟨h0, Int.le_refl _, h1, h2, h _ (le_snoc _ _) (by simp) (by simp [Own])⟩
theorem rep_one (n : Nat) : (List.replicate n [Value.int .i64 0]).flatten = LI (List.replicate n 0) := by
  induction n with
  | zero => rfl
  | succ n ih => rw [List.replicate_succ, List.replicate_succ, List.flatten_cons, ih]; rfl

/-- A number of a row of one's own one more. -/
theorem bump_at {b : Nat} {e : TypeId} {cs : List Int} {x : Int} {K : AHeap → Prop} (ho : Own H b e (LI cs)) (h0 : 0 ≤ x) (h1 : x < cs.length) (hb : ∀ c ∈ cs, 0 ≤ c ∧ c ≤ 1000000000000) (k : ∀ G, But b H G → Own G b e (LI (bump1 cs x)) → K G) :
    idxK (.slice (some ⟨b, 0, none⟩) cs.length (cs.length + 1)) x 1 (fun b2 o3 => ldI .i64 H b2 o3 (fun v4 => idxK (.slice (some ⟨b, 0, none⟩) cs.length (cs.length + 1)) x 1 (fun b5 o6 => stK H b5 o6 [(Value.int .i64 (IntKind.i64.wrap (v4 + 1)))] K))) := by
  refine (own_ints (c := cs.length + 1) ho).rd h0 h1 ⟨h0, h1, stK_1 ho (by simp; omega) rfl fun G hG o => k G hG ?_⟩
  have hx : x.toNat < cs.length := by omega
  have := hb cs[x.toNat] (List.getElem_mem hx)
  rw [getD_of hx, wrap_id (by omega) (by omega), ← List.map_set, ← getD_of (d := 0) hx] at o
  simpa [bump1] using o

theorem isThree_cl : ∀ c : Int, Cl H (.func (.func 174) ⟨[]⟩ ⟨[]⟩) (.int .i64 c) (c == 3) := by
  intro c G hG K k
  refine callV_mk ?_
  apply F174.ac
  unfold F174.B2 F174.B1
  exact k _ (AHeap.le_refl _)

theorem isCubic_ok {n : Int} (h : Edges H v es) (hd : IsEd n es) (k : ∀ G, H.le G → K (.bool (decide (Cub n es))) G) : AC Try.prog T0 149 [.int .i64 n, v] H K := by
  have := hd.lo; have := hd.hi; have hlen := hd.len
  apply F149.ac
  unfold F149.B10 F149.B9
  refine mkR_int (by omega) (by omega) (by decide) fun H1 l1 n1 o1 => ?_
  unfold F149.B8
  refine h.len ?_
  unfold F149.L2
  rw [rep_one] at o1
  refine ⟨fun x5 x10 x11 x12 G => x5 = .slice (some ⟨H.length, 0, none⟩) n.toNat (n.toNat + 1) ∧ x10 = v ∧ x11 = es.length ∧ 0 ≤ x12 ∧ x12 ≤ es.length ∧ H.le G ∧ Own G H.length 3 (LI (counts n (es.take x12.toNat))), fun _ _ _ x12 _ => es.length - x12.toNat, ⟨rfl, rfl, rfl, by omega, by omega, l1, by simpa [counts] using o1⟩, ?_⟩
  rintro x5 x10 x11 x12 G ⟨rfl, rfl, rfl, h0, h1, hG, ho⟩
  unfold F149.B7
  refine pif_cases (fun hb => ?_) fun hb => ?_
  · have hlt : x12 < es.length := of_decide_eq_true hb
    obtain ⟨i, rfl⟩ : ∃ i : Nat, x12 = i := ⟨x12.toNat, by omega⟩
    have hi : i < es.length := by omega
    unfold F149.B6
    obtain ⟨b, o, hk, c1, c2⟩ := (h.le hG).idx h0 hlt
    refine hk _ (ldI_mk c1 (ldI_mk c2 (newK_f rfl fun H2 l2 n2 o2 => stK_f o2 (by simp) (by simp [Value.oneCell']) rfl fun H3 b3 o3 => ?_)))
    simp only [Int.toNat_natCast, getD_of hi] at o3
    have hGl := lt_of_get ho
    have ho3 := b3.own (l2.2 _ _ ho) (by omega)
    have l3 : H.le H3 := b3.le (AHeap.le_trans hG l2) hG.1
    obtain ⟨e1, e2, e3, e4, _⟩ := hd.ends es[i] (List.getElem_mem hi)
    have cl : (counts n (es.take i)).length = n.toNat := counts_length _ _
    have cb : ∀ c ∈ counts n (es.take i), 0 ≤ c ∧ c ≤ 1000 := fun c hc => by have := counts_le _ _ c hc; simp at this; omega
    unfold F149.B5
    refine ldI_own o3 rfl ?_
    have hs : ∀ cs : List Int, cs.length = n.toNat → (.slice (some ⟨H.length, 0, none⟩) n.toNat (n.toNat + 1) : Value) = .slice (some ⟨H.length, 0, none⟩) cs.length (cs.length + 1) := fun cs h => by rw [h]
    rw [hs _ cl]
    simp only [Int.toNat_natCast] at ho3
    refine bump_at ho3 e1 (by omega) (fun c hc => by have := cb c hc; omega) fun H4 b4 o4 => ?_
    rw [← hs _ cl]
    unfold F149.B4
    have o34 := b4.own o3 (by have := hG.1; omega)
    refine ldI_own o34 rfl ?_
    rw [hs _ ((bump1_length _ _).trans cl)]
    refine bump_at o4 e3 (by rw [bump1_length]; omega) (fun c hc => by have := bump1_le cb _ c hc; omega) fun H5 b5 o5 => ?_
    rw [← hs _ ((bump1_length _ _).trans cl)]
    unfold F149.B3
    rw [wrap_id (by omega) (by omega)]
    refine ⟨⟨rfl, rfl, rfl, by omega, by omega, b5.le (b4.le l3 (Nat.le_refl _)) (Nat.le_refl _), ?_⟩, by simp; omega⟩
    rw [show ((i : Int) + 1).toNat = i + 1 by omega, counts_take n es hi]
    exact o5
  · have hge : ¬ x12 < es.length := of_decide_eq_false hb
    have : x12 = es.length := by omega
    subst this
    simp only [Int.toNat_natCast, List.take_length] at ho
    unfold F149.B1
    have cl : (counts n es).length = n.toNat := counts_length _ _
    have hi := own_ints (c := n.toNat + 1) ho
    rw [cl] at hi
    refine areAllI_ok (p := fun c => c == 3) hi (by omega) rfl (fun c _ => isThree_cl c) fun G2 hG2 => asB_mk ?_
    have := k _ (AHeap.le_trans hG hG2)
    have e : (counts n es).all (fun c => c == 3) = decide (Cub n es) := by
      rw [Bool.eq_iff_iff, List.all_eq_true, decide_eq_true_iff]
      simp [Cub]
    rw [e]; exact this

theorem areEdges_ok {n : Int} (h : Edges H v es) (hl : es.length ≤ 1048576) (k : ∀ G, H.le G → K (.bool (decide (IsEd n es))) G) : AC Try.prog T0 144 [.int .i64 n, v] H K := by
  apply F144.ac
  unfold F144.B2
  refine newK_f rfl fun H1 l1 n1 o1 => ?_
  unfold F144.B1
  refine ldI_own o1 rfl (isSize_ok (asB_mk (pif_cases (fun hs => ?_) fun hs => ?_)))
  · obtain ⟨s1, s2, s3⟩ := of_decide_eq_true hs
    refine ldI_own o1 rfl (lengthE_ok (h.le l1) (asI_mk ⟨AHeap.le_refl _, ?_⟩))
    rw [wrap_id (x := 3 * n) (by omega) (by omega), show Int.tdiv (3 * n) 2 = 3 * n / 2 from Int.tdiv_eq_ediv_of_nonneg (by omega), wrap_id (by omega) (by omega)]
    refine pif_cases (fun hs => ?_) fun hs => ?_
    · have hlen : (es.length : Int) = 3 * n / 2 := by simpa using hs
      refine areAllE_ok (p := fun e => decide (0 ≤ e.1 ∧ e.1 ≤ n - 1) && (decide (0 ≤ e.2 ∧ e.2 ≤ n - 1) && (e.1 != e.2))) (h.le l1) (by omega) rfl (fun e he => ?_) fun G hG => asB_mk ?_
      · intro G hG K k
        refine callV_mk ?_
        apply F170.ac
        unfold F170.B2
        refine newK_f rfl fun H2 l2 n2 o2 => ?_
        have o1 := l2.2 _ _ (hG.2 _ _ o1)
        unfold F170.B1
        refine ldI_own o2 rfl (asP_mk (ldI_own o1 rfl (within_ok (asB_mk ?_))))
        rw [wrap_id (by omega) (by omega)]
        have k := k _ l2
        refine pif_cases (fun hb => ?_) fun hb => ?_
        · rw [hb, Bool.true_and] at k
          refine ldI_own o2 rfl (asP_mk (ldI_own o1 rfl (within_ok (asB_mk ?_))))
          rw [wrap_id (by omega) (by omega)]
          refine pif_cases (fun hb => ?_) fun hb => ?_
          · rw [hb, Bool.true_and] at k
            exact ldI_own o2 rfl (ldI_own o2 rfl k)
          · rw [hb, Bool.false_and] at k; exact k
        · rw [hb, Bool.false_and] at k; exact k
      · have := k _ (AHeap.le_trans l1 hG)
        have e : (es.all fun e => decide (0 ≤ e.1 ∧ e.1 ≤ n - 1) && (decide (0 ≤ e.2 ∧ e.2 ≤ n - 1) && (e.1 != e.2))) = decide (IsEd n es) := by
          rw [Bool.eq_iff_iff, List.all_eq_true, decide_eq_true_iff]
          constructor
          · intro h
            refine ⟨s1, s2, s3, hlen, fun e he => ?_⟩
            have := h e he
            simp only [Bool.and_eq_true, decide_eq_true_eq, bne_iff_ne] at this
            exact ⟨this.1.1, this.1.2, this.2.1.1, this.2.1.2, this.2.2⟩
          · intro h e he
            obtain ⟨h1, h2, h3, h4, h5⟩ := h.ends e he
            simp [h1, h2, h3, h4, h5]
        rw [e]; exact this
    · have := k _ l1
      rw [decide_eq_false (fun hd => by have := hd.len; simp at hs; omega)] at this; exact this
  · have := k _ l1
    rw [decide_eq_false (fun hd => of_decide_eq_false hs ⟨hd.lo, hd.hi, hd.even⟩)] at this; exact this

noncomputable instance (es : List (Int × Int)) : Decidable (Srt es) := Classical.propDecidable _
theorem IsGraph_ok {n : Int} (h : Edges H v es) (hl : es.length ≤ 1048576) (k : ∀ G, H.le G → K (.bool (decide (IsG n es))) G) : AC Try.prog T0 99 [.agg ⟨[.int .i64 n, v]⟩] H K := by
  apply F99.ac
  unfold F99.B2
  refine newK_f (all_iv (edges_one' h)) fun H1 l1 n1 o1 => ?_
  unfold F99.B1
  refine ldI_own o1 rfl (ld1_own o1 rfl (areEdges_ok (h.le l1) hl fun H2 l2 => asB_mk (pif_cases (fun hb => ?_) fun hb => ?_)))
  · have hd := of_decide_eq_true hb
    have o2 := l2.2 _ _ o1
    refine ld1_own o2 rfl (areAllE_ok (p := fun e => decide (e.1 < e.2)) (h.le (AHeap.le_trans l1 l2)) (by omega) rfl (fun e he => ?_) fun H3 l3 => asB_mk (pif_cases (fun hb => ?_) fun hb => ?_))
    · intro G hG K k
      refine callV_mk ?_
      apply F146.ac
      unfold F146.B2
      refine newK_f rfl fun H2 l2 n2 o2 => ?_
      unfold F146.B1
      exact ldI_own o2 rfl (ldI_own o2 rfl (k _ l2))
    · have hup : ∀ e ∈ es, e.1 < e.2 := fun e he => of_decide_eq_true (List.all_eq_true.1 hb e he)
      have o3 := l3.2 _ _ o2
      have l13 := AHeap.le_trans l1 (AHeap.le_trans l2 l3)
      refine ld1_own o3 rfl (isSorted_ok (h.le l13) (by omega) fun H4 l4 => asB_mk (pif_cases (fun hb => ?_) fun hb => ?_))
      · have o4 := l4.2 _ _ o3
        refine ldI_own o4 rfl (ld1_own o4 rfl (isCubic_ok (h.le (AHeap.le_trans l13 l4)) hd fun H5 l5 => asB_mk ?_))
        have := k _ (AHeap.le_trans l13 (AHeap.le_trans l4 l5))
        have e : decide (IsG n es) = decide (Cub n es) := by
          rw [decide_eq_decide]
          exact ⟨fun h => h.cub, fun h => ⟨hd, hup, of_decide_eq_true hb, h⟩⟩
        rw [e] at this; exact this
      · have := k _ (AHeap.le_trans l13 l4)
        rw [decide_eq_false (fun hg => of_decide_eq_false hb hg.srt)] at this; exact this
    · have := k _ (AHeap.le_trans l1 (AHeap.le_trans l2 l3))
      rw [decide_eq_false (fun hg => by
        have : es.all (fun e => decide (e.1 < e.2)) = true := List.all_eq_true.2 fun e he => decide_eq_true (hg.up e he)
        rw [this] at hb; cases hb)] at this; exact this
  · have := k _ (AHeap.le_trans l1 l2)
    rw [decide_eq_false (fun hg => of_decide_eq_false hb hg.ed)] at this; exact this

theorem graphCode_ok {n : Int} {b : Bool} (h : Edges H v es) (hl : es.length ≤ 1048576) (k : ∀ G, H.le G → K (.int .i64 (if IsG n es then (if b then 0 else 2) else 1)) G) : AC Try.prog T0 52 [.agg ⟨[.int .i64 n, v]⟩, .bool b] H K := by
  apply F52.ac
  unfold F52.B6
  refine newK_f (all_iv (edges_one' h)) fun H1 l1 n1 o1 => ?_
  unfold F52.B5
  refine ldI_own o1 rfl (ld1_own o1 rfl (IsGraph_ok (h.le l1) hl fun H2 l2 => asB_mk ?_))
  have k := k _ (AHeap.le_trans l1 l2)
  refine pif_cases (fun hb => ?_) fun hb => ?_
  · unfold F52.B2
    rw [if_neg (of_decide_eq_false (by simpa using hb))] at k; exact k
  · rw [if_pos (of_decide_eq_true (by simpa using hb))] at k
    unfold F52.B4
    cases b
    · exact pif_t rfl k
    · exact pif_f rfl k

end Go.Proofs
