/- Contracts of the laws' helpers. -/
import Derived.Test.YtfcflpcmjlbedabP3
import Derived.Test.YtfcflpcmjlbedabG
set_option linter.unusedVariables false
set_option linter.unusedSimpArgs false
set_option maxRecDepth 100000
namespace Go.Proofs
open Go.Abs

variable {H : AHeap} {v u : Value} {l m : List Int} {es fs : List (Int × Int)} {K : Value → AHeap → Prop}

/-- Parts of two lists that agree. -/
theorem take_eq_of {α : Type} {l m : List α} (hl : l.length = m.length) (h : ∀ i, i < l.length → l[i]? = m[i]?) : l = m := by
  apply List.ext_getElem?
  intro i
  by_cases hi : i < l.length
  · exact h i hi
  · rw [List.getElem?_eq_none (by omega), List.getElem?_eq_none (by omega)]

theorem eqInt64S_ok (h : Ints H v l) (g : Ints H u m) (hl : l.length ≤ 4294967296) (k : K (.bool (decide (l = m))) H) : AC Try.prog T0 19 [v, u] H K := by
  apply F19.ac
  unfold F19.B10 F19.B9
  refine h.len (g.len (pif_cases (fun hb => ?_) fun hb => ?_))
  · unfold F19.B8
    have : l ≠ m := by rintro rfl; simp at hb
    rw [decide_eq_false this] at k; exact k
  · have hlen : l.length = m.length := by simp at hb; omega
    unfold F19.B7 F19.L2
    refine ⟨fun x0 x1 x5 G => x0 = v ∧ x1 = u ∧ 0 ≤ x5 ∧ x5 ≤ l.length ∧ G = H ∧ ∀ i : Nat, (i : Int) < x5 → l[i]? = m[i]?, fun _ _ x5 _ => l.length - x5.toNat, ⟨rfl, rfl, by omega, by omega, rfl, fun i hi => absurd hi (by omega)⟩, ?_⟩
    rintro x0 x1 x5 G ⟨rfl, rfl, h0, h1, rfl, heq⟩
    unfold F19.B6
    refine h.len (pif_cases (fun hb => ?_) fun hb => ?_)
    · have hlt : x5 < l.length := of_decide_eq_true hb
      obtain ⟨n, rfl⟩ : ∃ n : Nat, x5 = n := ⟨x5.toNat, by omega⟩
      have hn : n < l.length := by omega
      unfold F19.B5
      refine h.rd h0 hlt (g.rd h0 (by omega) (pif_cases (fun hb => ?_) fun hb => ?_))
      · unfold F19.B4
        have : l ≠ m := by rintro rfl; simp at hb
        rw [decide_eq_false this] at k; exact k
      · unfold F19.B3
        rw [wrap_id (by omega) (by omega)]
        refine ⟨⟨rfl, rfl, by omega, by omega, rfl, fun i hi => ?_⟩, by simp; omega⟩
        by_cases he : i = n
        · subst he
          simp only [Int.toNat_natCast, getD_of hn, getD_of (show i < m.length by omega), bne_eq_false_iff_eq] at hb
          simp [hn, show i < m.length by omega, hb]
        · exact heq i (by omega)
    · have hge : ¬ x5 < l.length := of_decide_eq_false hb
      unfold F19.B1
      have : l = m := take_eq_of hlen fun i hi => heq i (by omega)
      rw [decide_eq_true this] at k; exact k

theorem szEdgeS_ok {n : Int} (h : Edges H v es) (hl : es.length ≤ 9223372036854775807) (h0 : 0 ≤ n) (h1 : n ≤ 4611686018427387904) (k : K (.int .i64 (if n - es.length < 0 then -1 else n - es.length)) H) : AC Try.prog T0 46 [v, .int .i64 n] H K := by
  apply F46.ac
  unfold F46.B5 F46.B4
  refine h.len ?_
  unfold F46.B3
  rw [wrap_id (by omega) (by omega)]
  refine pif_cases (fun hb => ?_) fun hb => ?_
  · unfold F46.B2; rw [if_pos (of_decide_eq_true hb)] at k; exact k
  · unfold F46.B1; rw [if_neg (of_decide_eq_false hb)] at k; exact k
theorem szGraph_ok {n z : Int} (h : Edges H v es) (hl : es.length ≤ 9223372036854775807) (h0 : 0 ≤ n) (h1 : n ≤ 4611686018427387904) (hv : v.oneCell' = true) (k : ∀ G, H.le G → K (.int .i64 (if n - es.length < 0 then -1 else n - es.length)) G) : AC Try.prog T0 12 [.agg ⟨[.int .i64 z, v]⟩, .int .i64 n] H K := by
  apply F12.ac
  unfold F12.B5
  refine newK_f (by simp [hv]; rfl) fun G hG _ ho => ?_
  unfold F12.B4
  refine ld1_own ho rfl (szEdgeS_ok (h.le hG) hl h0 h1 (asI_mk ?_))
  have := k G hG
  unfold F12.B3
  refine pif_cases (fun hb => ?_) fun hb => ?_
  · have hb := of_decide_eq_true hb
    unfold F12.B2
    split at this
    · exact this
    · rw [if_neg (by assumption)] at hb; omega
  · exact this

theorem toEdge_ok {a b : Int} (k : ∀ G, H.le G → K (.agg ⟨[.int .i64 a, .int .i64 b]⟩) G) : AC Try.prog T0 98 [.agg ⟨[.int .i64 a, .int .i64 b]⟩] H K := by
  apply F98.ac
  unfold F98.B8
  refine newK_f rfl fun H1 l1 n1 o1 => newK_f rfl fun H2 l2 n2 o2 => ?_
  unfold F98.B7
  refine newK_f rfl fun H3 l3 n3 o3 => ?_
  unfold F98.B6 F98.L2
  have o1 := l3.2 _ _ (l2.2 _ _ o1)
  have o2 := l3.2 _ _ o2
  refine ⟨fun x1 x2 x3 x4 G => x1 = H.length ∧ x2 = H1.length ∧ x3 = H2.length ∧ H.le G ∧ Own G x1 99 [.int .i64 a, .int .i64 b] ∧ Own G x2 100 [.int .i64 0, .int .i64 0] ∧
    ((x4 = 0 ∧ Own G x3 100 [.int .i64 0, .int .i64 0]) ∨ (x4 = 1 ∧ Own G x3 100 [.int .i64 a, .int .i64 0]) ∨ (x4 = 2 ∧ Own G x3 100 [.int .i64 a, .int .i64 b])), fun _ _ _ x4 _ => 2 - x4.toNat,
    ⟨rfl, rfl, rfl, AHeap.le_trans l1 (AHeap.le_trans l2 l3), o1, o2, .inl ⟨rfl, o3⟩⟩, ?_⟩
  rintro x1 x2 x3 x4 G ⟨rfl, rfl, rfl, hG, p1, p2, p3⟩
  unfold F98.B5
  rcases p3 with ⟨rfl, p3⟩ | ⟨rfl, p3⟩ | ⟨rfl, p3⟩
  · refine pif_t rfl ?_
    unfold F98.B4
    refine bndK_iff.2 ⟨by decide, by decide, ldI_own p1 rfl (bndK_iff.2 ⟨by decide, by decide, stK_1 p3 (by simp) rfl fun G' hb hc => ?_⟩)⟩
    unfold F98.B3
    exact ⟨⟨rfl, rfl, rfl, hb.le hG (by omega), hb.own p1 (by omega), hb.own p2 (by omega), .inr (.inl ⟨rfl, hc⟩)⟩, show 2 - (IntKind.i64.wrap (0 + 1)).toNat < 2 - (0 : Int).toNat by decide⟩
  · refine pif_t rfl ?_
    unfold F98.B4
    refine bndK_iff.2 ⟨by decide, by decide, ldI_own p1 rfl (bndK_iff.2 ⟨by decide, by decide, stK_1 p3 (by simp) rfl fun G' hb hc => ?_⟩)⟩
    unfold F98.B3
    exact ⟨⟨rfl, rfl, rfl, hb.le hG (by omega), hb.own p1 (by omega), hb.own p2 (by omega), .inr (.inr ⟨rfl, hc⟩)⟩, show 2 - (IntKind.i64.wrap (1 + 1)).toNat < 2 - (1 : Int).toNat by decide⟩
  · refine pif_f rfl ?_
    unfold F98.B1
    refine ldI_own p3 rfl (ldI_own p3 rfl (stK_f p2 (by simp) (by simp [Value.oneCell']) rfl fun G' hb hc => ldI_own hc rfl (ldI_own hc rfl (k _ (hb.le hG (by omega))))))

theorem LE_set (l : List (Int × Int)) {n : Nat} (x : Int × Int) (h : n < l.length) : (LE l).take (n * 2) ++ [.int .i64 x.1, .int .i64 x.2] ++ (LE l).drop (n * 2 + 2) = LE (l.set n x) := by
  induction l generalizing n with
  | nil => simp at h
  | cons y l ih =>
    cases n with
    | zero => simp [LE_cons]
    | succ n =>
      rw [List.set_cons_succ, LE_cons, LE_cons, ← ih (by simpa using h), show (n + 1) * 2 = n * 2 + 2 by omega]
      simp

theorem LE_rep : ∀ (n : Nat), (List.replicate n [Value.int .i64 0, Value.int .i64 0]).flatten = LE (List.replicate n (0, 0))
  | 0 => rfl
  | n + 1 => by rw [List.replicate_succ, List.replicate_succ, List.flatten_cons, LE_cons, LE_rep n]; rfl

theorem toEdgeS_ok (h : Edges H v es) (hl : es.length ≤ 4294967296) (k : ∀ v' H', H.le H' → Fresh H.length H' v' 100 2 (LE es) → K v' H') : AC Try.prog T0 51 [v] H K := by
  apply F51.ac
  unfold F51.B8 F51.B7
  refine h.len (mkR_mk hl (by decide) ?_)
  unfold F51.B6 F51.L2
  refine ⟨fun x0 x3 x4 G => x0 = v ∧ x3 = .slice (some ⟨H.length, 0, none⟩) es.length (es.length + 1) ∧ 0 ≤ x4 ∧ x4 ≤ es.length ∧ H.le G ∧ Own G H.length 100 (LE (es.take x4.toNat ++ List.replicate (es.length - x4.toNat) (0, 0))), fun _ _ x4 _ => es.length - x4.toNat, ⟨rfl, rfl, by omega, by omega, le_snoc _ _, by simp [Own, LE_rep]⟩, ?_⟩
  rintro x0 x3 x4 G ⟨rfl, rfl, h0, h1, hG, ho⟩
  unfold F51.B5
  refine h.len (pif_cases (fun hb => ?_) fun hb => ?_)
  · have hlt : x4 < es.length := of_decide_eq_true hb
    obtain ⟨n, rfl⟩ : ∃ n : Nat, x4 = n := ⟨x4.toNat, by omega⟩
    have hn : n < es.length := by omega
    unfold F51.B4
    obtain ⟨b, o, hk, c1, c2⟩ := (h.le hG).idx h0 hlt
    refine hk _ (ldI_mk c1 (ldI_mk c2 (toEdge_ok fun G2 hG2 => agg2_mk (asI_mk (asI_mk ⟨h0, hlt, ?_⟩)))))
    have ho2 := hG2.2 _ _ ho
    refine stK_f (new := LE (es.take (n + 1) ++ List.replicate (es.length - (n + 1)) (0, 0))) ho2 (by rw [LE_length]; simp; omega) (by simp [Value.oneCell']) ?_ fun G3 hb3 ho3 => ?_
    · rw [← fill_set es (0, 0) hn, ← LE_set _ _ (by simp; omega)]
      simp [hn]
    · unfold F51.B3
      rw [wrap_id (by omega) (by omega)]
      refine ⟨⟨rfl, rfl, by omega, by omega, hb3.le (AHeap.le_trans hG hG2) (by omega), by rw [show ((n : Int) + 1).toNat = n + 1 by omega]; exact ho3⟩, by simp; omega⟩
  · have hge : ¬ x4 < es.length := of_decide_eq_false hb
    have : x4 = es.length := by omega
    subst this
    unfold F51.B1
    refine k _ _ hG ?_
    simp only [Int.toNat_natCast, List.take_length, Nat.sub_self, List.replicate_zero, List.append_nil] at ho
    exact .inr ⟨_, _, Nat.le_refl _, rfl, ho, LE_length _⟩

theorem edges_one {H : AHeap} {v : Value} {l : List (Int × Int)} (h : Edges H v l) : v.oneCell' = true := by
  rcases h with ⟨rfl, _⟩ | ⟨a, c, rfl, _⟩ <;> rfl
theorem ints_one {H : AHeap} {v : Value} {l : List Int} (h : Ints H v l) : v.oneCell' = true := by
  rcases h with ⟨rfl, _⟩ | ⟨a, c, rfl, _⟩ <;> rfl

theorem toGraph_ok {z : Int} (h : Edges H v es) (hl : es.length ≤ 4294967296) (k : ∀ v' H', H.le H' → Fresh H.length H' v' 100 2 (LE es) → K (.agg ⟨[.int .i64 z, v']⟩) H') : AC Try.prog T0 14 [.agg ⟨[.int .i64 z, v]⟩] H K := by
  apply F14.ac
  unfold F14.B5
  refine newK_f (all_iv (edges_one h)) fun H1 l1 n1 o1 => newK_f rfl fun H2 l2 n2 o2 => ?_
  unfold F14.B4
  refine newK_f rfl fun H3 l3 n3 o3 => ?_
  unfold F14.B3
  refine ldI_own (l3.2 _ _ (l2.2 _ _ o1)) rfl (stK_1 o3 (by simp) rfl fun H4 b4 o4 => ?_)
  unfold F14.B2
  have o14 := b4.own (l3.2 _ _ (l2.2 _ _ o1)) (by omega)
  have o24 := b4.own (l3.2 _ _ o2) (by omega)
  have l4 : H.le H4 := b4.le (AHeap.le_trans l1 (AHeap.le_trans l2 l3)) (by omega)
  refine ld1_own o14 rfl (toEdgeS_ok (h.le l4) hl fun v' H5 l5 f5 => ?_)
  have hv : v'.oneCell' = true := edges_one f5.edges
  have hvb : ∀ b n, v' = .slice (some ⟨b, 0, none⟩) n (n + 1) → H4.length ≤ b ∨ es = [] := by
    rintro b n rfl
    rcases f5 with ⟨h1, h2⟩ | ⟨b', n', h1, h2, _⟩
    · right; cases es with | nil => rfl | cons x l => simp [LE_cons] at h1
    · left; cases h2; exact h1
  refine pif_t hv (stK_1 (l5.2 _ _ o4) (by simp) hv fun H6 b6 o6 => ?_)
  unfold F14.B1
  have o26 := b6.own (l5.2 _ _ o24) (by omega)
  refine ldI_own o6 rfl (ld1_own o6 rfl (stK_f o26 (by simp) (mem_iv hv) rfl fun H7 b7 o7 => ldI_own o7 rfl (ld1_own o7 rfl ?_)))
  have nl4 := b4.len; have nl6 := b6.len; have nl7 := b7.len
  have g : Fresh H.length H7 v' 100 2 (LE es) := by
    rcases f5 with f5 | ⟨b, n, q1, q2, q3, q4⟩
    · exact .inl f5
    · have := l1.1
      exact .inr ⟨b, n, by omega, q2, b7.own (b6.own q3 (by omega)) (by omega), q4⟩
  exact k _ _ (b7.le (b6.le (AHeap.le_trans l4 l5) (by omega)) (by omega)) g

theorem eqEdge_ok {a b c d : Int} (k : ∀ G, H.le G → K (.bool (decide (a = c) && decide (b = d))) G) : AC Try.prog T0 106 [.agg ⟨[.int .i64 a, .int .i64 b]⟩, .agg ⟨[.int .i64 c, .int .i64 d]⟩] H K := by
  apply F106.ac
  unfold F106.B8
  refine newK_f rfl fun H1 l1 n1 o1 => newK_f rfl fun H2 l2 n2 o2 => ?_
  unfold F106.B7 F106.L2
  refine ⟨fun x2 x3 x5 G => x2 = H.length ∧ x3 = H1.length ∧ G = H2 ∧ (x5 = 0 ∨ (x5 = 1 ∧ a = c) ∨ (x5 = 2 ∧ a = c ∧ b = d)), fun _ _ x5 _ => 2 - x5.toNat, ⟨rfl, rfl, rfl, .inl rfl⟩, ?_⟩
  rintro x2 x3 x5 G ⟨rfl, rfl, rfl, p⟩
  have o1 := l2.2 _ _ o1
  have hle := AHeap.le_trans l1 l2
  unfold F106.B6
  rcases p with rfl | ⟨rfl, rfl⟩ | ⟨rfl, rfl, rfl⟩
  · refine pif_t rfl ?_
    unfold F106.B5
    refine bndK_iff.2 ⟨by decide, by decide, ldI_own o1 rfl (bndK_iff.2 ⟨by decide, by decide, ldI_own o2 rfl (pif_cases (fun hb => ?_) fun hb => ?_)⟩)⟩
    · unfold F106.B4
      have := k _ hle
      rw [decide_eq_false (by simpa using hb)] at this
      simpa using this
    · unfold F106.B3
      exact ⟨⟨rfl, rfl, rfl, .inr (.inl ⟨rfl, by simpa using hb⟩)⟩, show 2 - (IntKind.i64.wrap (0 + 1)).toNat < 2 - (0 : Int).toNat by decide⟩
  · refine pif_t rfl ?_
    unfold F106.B5
    refine bndK_iff.2 ⟨by decide, by decide, ldI_own o1 rfl (bndK_iff.2 ⟨by decide, by decide, ldI_own o2 rfl (pif_cases (fun hb => ?_) fun hb => ?_)⟩)⟩
    · unfold F106.B4
      have := k _ hle
      rw [decide_eq_false (by simpa using hb : ¬ b = d)] at this
      simpa using this
    · unfold F106.B3
      exact ⟨⟨rfl, rfl, rfl, .inr (.inr ⟨rfl, rfl, by simpa using hb⟩)⟩, show 2 - (IntKind.i64.wrap (1 + 1)).toNat < 2 - (1 : Int).toNat by decide⟩
  · refine pif_f rfl ?_
    unfold F106.B1
    have := k _ hle
    simpa using this

theorem eqEdgeS_ok (h : Edges H v es) (g : Edges H u fs) (hl : es.length ≤ 4294967296) (k : ∀ G, H.le G → K (.bool (decide (es = fs))) G) : AC Try.prog T0 57 [v, u] H K := by
  apply F57.ac
  unfold F57.B10 F57.B9
  refine h.len (g.len (pif_cases (fun hb => ?_) fun hb => ?_))
  · unfold F57.B8
    have := k _ (AHeap.le_refl _)
    rw [decide_eq_false (by rintro rfl; simp at hb)] at this; exact this
  · have hlen : es.length = fs.length := by simp at hb; omega
    unfold F57.B7 F57.L2
    refine ⟨fun x0 x1 x5 G => x0 = v ∧ x1 = u ∧ 0 ≤ x5 ∧ x5 ≤ es.length ∧ H.le G ∧ ∀ i : Nat, (i : Int) < x5 → es[i]? = fs[i]?, fun _ _ x5 _ => es.length - x5.toNat, ⟨rfl, rfl, by omega, by omega, AHeap.le_refl _, fun i hi => absurd hi (by omega)⟩, ?_⟩
    rintro x0 x1 x5 G ⟨rfl, rfl, h0, h1, hG, heq⟩
    unfold F57.B6
    refine h.len (pif_cases (fun hb => ?_) fun hb => ?_)
    · have hlt : x5 < es.length := of_decide_eq_true hb
      obtain ⟨n, rfl⟩ : ∃ n : Nat, x5 = n := ⟨x5.toNat, by omega⟩
      have hn : n < es.length := by omega
      have hm : n < fs.length := by omega
      unfold F57.B5
      obtain ⟨b, o, hk, c1, c2⟩ := (h.le hG).idx h0 hlt
      obtain ⟨b', o', hk', c1', c2'⟩ := (g.le hG).idx h0 (show (n : Int) < fs.length by omega)
      refine hk _ (ldI_mk c1 (ldI_mk c2 (hk' _ (ldI_mk c1' (ldI_mk c2' (eqEdge_ok fun G2 hG2 => asB_mk ?_))))))
      simp only [Int.toNat_natCast, getD_of hn, getD_of hm]
      refine pif_cases (fun hb => ?_) fun hb => ?_
      · unfold F57.B4
        have := k _ (AHeap.le_trans hG hG2)
        rw [decide_eq_false (by rintro rfl; simp at hb)] at this; exact this
      · unfold F57.B3
        rw [wrap_id (by omega) (by omega)]
        refine ⟨⟨rfl, rfl, by omega, by omega, AHeap.le_trans hG hG2, fun i hi => ?_⟩, by simp; omega⟩
        by_cases he : i = n
        · subst he
          have : es[i] = fs[i] := by simp at hb; exact Prod.ext hb.1 hb.2
          simp [hn, hm, this]
        · exact heq i (by omega)
    · have hge : ¬ x5 < es.length := of_decide_eq_false hb
      unfold F57.B1
      have := k _ hG
      rw [decide_eq_true (take_eq_of hlen fun i hi => heq i (by omega))] at this; exact this

theorem eqGraph_ok {y z : Int} (h : Edges H v es) (g : Edges H u fs) (hl : es.length ≤ 4294967296) (k : ∀ G, H.le G → K (.bool (decide (y = z ∧ es = fs))) G) : AC Try.prog T0 18 [.agg ⟨[.int .i64 y, v]⟩, .agg ⟨[.int .i64 z, u]⟩] H K := by
  apply F18.ac
  unfold F18.B6
  refine newK_f (all_iv (edges_one h)) fun H1 l1 n1 o1 => newK_f (all_iv (edges_one g)) fun H2 l2 n2 o2 => ?_
  have o1 := l2.2 _ _ o1
  have hle := AHeap.le_trans l1 l2
  unfold F18.B5
  refine ldI_own o1 rfl (ldI_own o2 rfl (pif_cases (fun hb => ?_) fun hb => ?_))
  · unfold F18.B4
    have := k _ hle
    rw [decide_eq_false (by rintro ⟨rfl, _⟩; simp at hb)] at this; exact this
  · unfold F18.B3
    have hyz : y = z := by simpa using hb
    refine ld1_own o1 rfl (ld1_own o2 rfl (eqEdgeS_ok (h.le hle) (g.le hle) hl fun G hG => asB_mk (pif_cases (fun hb => ?_) fun hb => ?_)))
    · unfold F18.B2
      have := k _ (AHeap.le_trans hle hG)
      rw [decide_eq_false (by rintro ⟨_, rfl⟩; simp at hb)] at this; exact this
    · unfold F18.B1
      have := k _ (AHeap.le_trans hle hG)
      rw [decide_eq_true ⟨hyz, by simpa using hb⟩] at this; exact this
end Go.Proofs
