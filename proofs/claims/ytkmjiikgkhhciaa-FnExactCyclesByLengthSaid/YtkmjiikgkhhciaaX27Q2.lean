/- Contracts and plain mathematics for a law, merged. -/
import Derived.Test.YtkmjiikgkhhciaaX27Q1
/- Lists of lists of one's own. -/
set_option linter.unusedVariables false
set_option linter.unusedSimpArgs false
set_option maxRecDepth 100000
namespace Go.Proofs
open Go.Abs

variable {H G : AHeap} {v u f : Value} {l m c : List Int} {es fs : List (Int × Int)} {K : Value → AHeap → Prop} {A : Nat → Prop} {B : Nat} {ls : List (List Int)}

noncomputable def tiRow : TI := (T0 25).getD ⟨.bool, 0, 0, undef⟩
theorem E_row : Elem T0 25 1 := ⟨tiRow, by kernel_rfl, by kernel_rfl, of_decide_eq_true (by kernel_rfl), by kernel_rfl⟩
theorem Sl_rd1 {m0 : Nat} {t : TypeId} {cs : List Value} {i : Int} {K : Nat → Nat → Prop} (h : Sl m0 H v t 1 cs) (h0 : 0 ≤ i) (h1 : i < cs.length) (k : ∀ b o, H.cell b o = cs[i.toNat]? → K b o) : idxK v i 1 K := by
  rcases h with ⟨rfl, _⟩ | ⟨b, n, pre, post, _, rfl, ho, hn⟩
  · simp at h1; omega
  · refine ⟨h0, by omega, k _ _ ?_⟩
    rw [Nat.mul_one, Own.cell ho, List.append_assoc, List.getElem?_append_right (Nat.le_add_right _ _), Nat.add_sub_cancel_left, List.getElem?_append_left (by omega)]
theorem Sl_rd {m0 : Nat} {t : TypeId} {cs : List Value} {i : Int} {x : Value} {K : Value → Prop} (h : Sl m0 H v t 1 cs) (h0 : 0 ≤ i) (h1 : i < cs.length) (hx : cs[i.toNat]? = some x) (k : K x) : idxK v i 1 (fun b o => ld1 H b o K) :=
  Sl_rd1 h h0 h1 fun b o hc => ld1_mk (hc.trans hx) k
theorem Sl_rdI {m0 : Nat} {t : TypeId} {cs : List Value} {i : Int} {kk : IntKind} {x : Int} {K : Int → Prop} (h : Sl m0 H v t 1 cs) (h0 : 0 ≤ i) (h1 : i < cs.length) (hx : cs[i.toNat]? = some (.int kk x)) (k : K x) : idxK v i 1 (fun b o => ldI kk H b o K) :=
  Sl_rd1 h h0 h1 fun b o hc => ldI_mk (hc.trans hx) k

/-- A list of lists in rows of one's own, each in its own block, of a kind and older than B. -/
def RowsF (A : Nat → Prop) (B : Nat) (H : AHeap) (v : Value) (ls : List (List Int)) : Prop :=
  ∃ vs : List Value, Fresh 0 H v 25 1 vs ∧ vs.length = ls.length ∧ (∀ b, bk v = some b → A b ∧ b < B) ∧
    ∀ i, i < ls.length → ∃ w, vs[i]? = some w ∧ Fresh 0 H w 2 1 (LI (ls.getD i [])) ∧ ∀ b, bk w = some b → A b ∧ b < B ∧ bk v ≠ some b ∧ ∀ j w', j < i → vs[j]? = some w' → bk w' ≠ some b
theorem RowsF.nil : RowsF A B H (.slice none 0 0) [] := ⟨[], .inl ⟨rfl, .inl rfl⟩, rfl, (fun b h => by cases h), fun i h => absurd h (by simp)⟩
theorem RowsF.nil1 {b : Nat} (ho : Own H b 25 []) (ha : A b) (hb : b < B) : RowsF A B H (.slice (some ⟨b, 0, none⟩) 0 (0 + 1)) [] :=
  ⟨[], .inr ⟨b, 0, Nat.zero_le _, rfl, ho, rfl⟩, rfl, (fun b' h => by cases h; exact ⟨ha, hb⟩), fun i h => absurd h (by simp)⟩
theorem RowsF.mono {A' : Nat → Prop} {B' : Nat} (h : RowsF A B H v ls) (ha : ∀ b, A b → A' b) (hb : B ≤ B') : RowsF A' B' H v ls := by
  obtain ⟨vs, h1, h2, h3, h4⟩ := h
  refine ⟨vs, h1, h2, fun b hbk => ⟨ha b (h3 b hbk).1, by have := (h3 b hbk).2; omega⟩, fun i hi => ?_⟩
  obtain ⟨w, g1, g2, g3⟩ := h4 i hi
  exact ⟨w, g1, g2, fun b hbk => ⟨ha b (g3 b hbk).1, by have := (g3 b hbk).2.1; omega, (g3 b hbk).2.2⟩⟩
theorem fresh_oth {m0 : Nat} {t : TypeId} {z : Nat} {cs : List Value} (h : Fresh m0 H v t z cs) (k : ∀ b o, bk v = some b → H[b]? = some (some o) → G[b]? = some (some o)) : Fresh m0 G v t z cs := by
  rcases h with h | ⟨b, n, h1, rfl, h3, h4⟩
  · exact .inl h
  · exact .inr ⟨b, n, h1, rfl, k b _ rfl h3, h4⟩
theorem RowsF.move (h : RowsF A B H v ls) (k : ∀ b o, A b → b < B → H[b]? = some (some o) → G[b]? = some (some o)) : RowsF A B G v ls := by
  obtain ⟨vs, h1, h2, h3, h4⟩ := h
  refine ⟨vs, fresh_oth h1 fun b o hb ho => k b o (h3 b hb).1 (h3 b hb).2 ho, h2, h3, fun i hi => ?_⟩
  obtain ⟨w, g1, g2, g3⟩ := h4 i hi
  exact ⟨w, g1, fresh_oth g2 fun b o hb ho => k b o (g3 b hb).1 (g3 b hb).2.1 ho, g3⟩
theorem RowsF.le (h : RowsF A B H v ls) (hl : H.le G) : RowsF A B G v ls := h.move fun b o _ _ ho => hl.2 b o ho
theorem RowsF.keep (h : RowsF A B H v ls) (hk : Keep B H G) : RowsF A B G v ls := h.move fun b o _ hb ho => hk.old b o hb ho
theorem RowsF.but {b : Nat} (h : RowsF A B H v ls) (hb : But b H G) (hn : ¬ A b) : RowsF A B G v ls :=
  h.move fun c o ha _ ho => by rw [hb.same c (fun e => hn (e ▸ ha))]; exact ho
theorem RowsF.len (h : RowsF A B H v ls) {K : Nat → Prop} (k : K ls.length) : lenK v K := by
  obtain ⟨vs, h1, h2, _⟩ := h
  exact h1.sl.len (by decide) (n := ls.length) (by omega) k
theorem RowsF.push {w : Value} (h : RowsF A B H v ls) (hB : B ≤ H.length) (hA : ∀ b, B ≤ b → A b) (hw : Fresh B H w 2 1 (LI l)) (hs : ls.length < 4294967296)
    (k : ∀ v' G, Oth v H G → (∀ b, bk v' = some b → H.length ≤ b) → H.length ≤ G.length → RowsF A G.length G v' (ls ++ [l]) → K v' G) :
    pif w.oneCell' (newK H [w] 25 (fun b1 H2 => apK T0 25 H2 v (.slice (some ⟨b1, 0, none⟩) 1 (1 + 1)) K)) False := by
  have hw1 : w.oneCell' = true := ints_one hw.ints
  refine pif_t hw1 ?_
  obtain ⟨vs, h1, h2, h3, h4⟩ := h
  refine h1.sl.pushN E_row (by decide) (Nat.zero_le _) (n := 1) (ys := [w]) rfl (by simpa using hw1) (by simp; omega) (by simp) fun v' G k1 ot nb f' => k v' G ot nb k1.len ?_
  have hbw : ∀ b, bk w = some b → B ≤ b ∧ b < H.length := fun b hb => hw.bk_lt hb
  refine ⟨vs ++ [w], f', by simp [h2], fun b hb => ⟨hA b (by have := nb b hb; omega), (f'.bk_lt hb).2⟩, fun i hi => ?_⟩
  by_cases e : i < ls.length
  · obtain ⟨w', g1, g2, g3⟩ := h4 i e
    refine ⟨w', by rw [List.getElem?_append_left (by omega)]; exact g1, ?_, fun b hb => ?_⟩
    · rw [show (ls ++ [l]).getD i [] = ls.getD i [] by simp [List.getD, List.getElem?_append_left e]]
      exact fresh_oth g2 fun b o hb ho => ot b o (g3 b hb).2.2.1 ho
    · obtain ⟨q1, q2, q3, q4⟩ := g3 b hb
      refine ⟨q1, by have := k1.len; omega, fun hv => by have := nb b hv; omega, fun j w2 hj hw2 => q4 j w2 hj ?_⟩
      rwa [List.getElem?_append_left (by omega)] at hw2
  · have : i = ls.length := by simp at hi; omega
    subst this
    refine ⟨w, by rw [← h2]; simp, ?_, fun b hb => ?_⟩
    · rw [show (ls ++ [l]).getD ls.length [] = l by simp [List.getD]]
      exact fresh_oth (hw.less (Nat.zero_le _)) fun b o hb ho => ot b o (fun hv => by have := (h3 b hv).2; have := (hbw b hb).1; omega) ho
    · have hb' := hbw b hb
      refine ⟨hA b hb'.1, by have := k1.len; omega, fun hv => by have := nb b hv; omega, fun j w2 hj hw2 hw3 => ?_⟩
      rw [List.getElem?_append_left (by omega)] at hw2
      obtain ⟨w4, g1, _, g3⟩ := h4 j hj
      rw [hw2] at g1; cases g1
      have := (g3 b hw3).2.1; omega
theorem RowsF.row (h : RowsF A B H v ls) {i : Nat} (hi : i < ls.length) {K : Value → Prop} (k : ∀ w, Fresh 0 H w 2 1 (LI (ls.getD i [])) → K w) : idxK v i 1 (fun b o => ld1 H b o K) := by
  obtain ⟨vs, h1, h2, h3, h4⟩ := h
  obtain ⟨w, g1, g2, g3⟩ := h4 i hi
  exact Sl_rd h1.sl (by omega) (by omega) (by rw [Int.toNat_natCast]; exact g1) (k w g2)
end Go.Proofs
/- Contracts: the cycles of a set of edges, the program's way. -/
set_option linter.unusedVariables false
set_option linter.unusedSimpArgs false
set_option maxRecDepth 100000
namespace Go.Proofs
open Go.Abs

variable {H G : AHeap} {v u f : Value} {l m c : List Int} {es fs : List (Int × Int)} {K : Value → AHeap → Prop} {A : Nat → Prop} {B : Nat} {ls : List (List Int)}

noncomputable def tiSet : TI := (T0 82).getD ⟨.bool, 0, 0, undef⟩
theorem E_set : Elem T0 82 1 := ⟨tiSet, by kernel_rfl, by kernel_rfl, of_decide_eq_true (by kernel_rfl), by kernel_rfl⟩
theorem LU_get {Z : List Nat} {i : Nat} (h : i < Z.length) : (LU Z)[i]? = some (.int .u64 (Z.getD i 0 : Nat)) := by simp [h]

theorem indexU_ok {p : Nat → Bool} {Z : List Nat} {m0 : Nat} (h : Sl m0 H v 82 1 (LU Z)) (hl : Z.length ≤ 4611686018427387904) (hf : ∀ e ∈ Z, Cl H f (.int .u64 (e : Nat)) (p e)) (k : ∀ r G, H.le G → decide (r ≥ 0) = Z.any p → K (.int .i64 r) G) :
    AC Try.prog T0 167 [v, f] H K := by
  apply F167.ac
  unfold F167.B9 F167.B8
  refine h.len (by decide) (n := Z.length) (by simp) ?_
  unfold F167.L2
  refine ⟨fun x0 x1 x7 x8 G => v = x0 ∧ f = x1 ∧ (Z.length : Int) = x7 ∧ H.le G ∧ ∃ n : Nat, x8 = n ∧ n ≤ Z.length ∧ ∀ i : Nat, i < n → p (Z.getD i 0) = false, fun _ _ _ x8 _ => Z.length - x8.toNat, ⟨rfl, rfl, rfl, AHeap.le_refl _, 0, rfl, by omega, fun i hi => absurd hi (by omega)⟩, ?_⟩
  rintro x0 x1 x7 x8 G ⟨rfl, rfl, rfl, hG, n, rfl, hn', hp⟩
  unfold F167.B7
  refine pif_cases (fun hb => ?_) fun hb => ?_
  · have hn : n < Z.length := by have := of_decide_eq_true hb; omega
    unfold F167.B6 F167.B5
    refine Sl_rdI (h.le hG) (by omega) (by simp; omega) (by rw [Int.toNat_natCast]; exact LU_get hn) ?_
    rw [getD_of hn]
    refine hf Z[n] (List.getElem_mem hn) G hG _ fun G2 hG2 => asB_mk (pif_cases (fun hb => ?_) fun hb => ?_)
    · unfold F167.B4
      refine k _ _ (AHeap.le_trans hG hG2) ?_
      rw [List.any_eq_true.2 ⟨Z[n], List.getElem_mem hn, hb⟩]; simp
    · unfold F167.B3
      rw [wrap_id (by omega) (by omega)]
      refine ⟨⟨rfl, rfl, rfl, AHeap.le_trans hG hG2, n + 1, by omega, by omega, fun i hi => ?_⟩, by simp; omega⟩
      by_cases he : i = n
      · subst he; rw [getD_of hn]; exact hb
      · exact hp i (by omega)
  · have hge : n = Z.length := by have := of_decide_eq_false hb; omega
    unfold F167.B1
    refine k _ _ hG ?_
    have : Z.any p = false := by
      rw [List.any_eq_false]
      intro e he
      obtain ⟨i, hi, rfl⟩ := List.getElem_of_mem he
      have := hp i (by omega)
      rw [getD_of hi] at this; simp [this]
    rw [this]; simp
theorem containsU_ok {p : Nat → Bool} {Z : List Nat} {m0 : Nat} (h : Sl m0 H v 82 1 (LU Z)) (hl : Z.length ≤ 4611686018427387904) (hf : ∀ e ∈ Z, Cl H f (.int .u64 (e : Nat)) (p e)) (k : ∀ G, H.le G → K (.bool (Z.any p)) G) :
    AC Try.prog T0 152 [v, f] H K := by
  apply F152.ac
  unfold F152.B2 F152.B1
  refine indexU_ok h hl hf fun r G hG hr => asI_mk ?_
  rw [hr]; exact k G hG

/-- A part as a number. -/
noncomputable def compN (es : List (Int × Int)) (p : Nat → Bool) (i : Nat) : Nat := setN (compL es p i)
noncomputable def cycN (es : List (Int × Int)) (p : Nat → Bool) (l : List Int) : List Nat := (l.filter fun x => cLeadB es p x.toNat).map fun x => compN es p x.toNat
theorem cycN_take {es : List (Int × Int)} {p : Nat → Bool} {l : List Int} {t : Nat} (h : t < l.length) : cycN es p (l.take (t + 1)) = cycN es p (l.take t) ++ if cLeadB es p (l[t]).toNat then [compN es p (l[t]).toNat] else [] := by
  unfold cycN
  rw [List.take_succ_eq_append_getElem h, List.filter_append, List.map_append]
  congr 1
  cases hl : cLeadB es p (l[t]).toNat <;> simp [hl]
theorem compL_range {es : List (Int × Int)} {p : Nat → Bool} {i : Nat} {x : Int} (h : x ∈ compL es p i) : 0 ≤ x ∧ x < es.length := by
  obtain ⟨j, rfl, h1, _⟩ := mem_compL.1 h
  omega
theorem compN_bit {es : List (Int × Int)} {p : Nat → Bool} {i j : Nat} : (compN es p i).testBit j = true ↔ j < es.length ∧ Rch (eAdj es p) i j := by
  unfold compN
  rw [setN_bit fun x hx => (compL_range hx).1, decide_eq_true_iff, mem_compL]
  constructor
  · rintro ⟨j', h1, h2⟩
    obtain rfl : j = j' := by omega
    exact h2
  · rintro ⟨h1, h2⟩
    exact ⟨j, rfl, h1, h2⟩
theorem compN_of {es : List (Int × Int)} {p : Nat → Bool} {i s : Nat} (h1 : ∀ j, s.testBit j = true → j < es.length) (h2 : ∀ j, s.testBit j = true ↔ Rch (eAdj es p) i j) : s = compN es p i := by
  apply Nat.eq_of_testBit_eq
  intro j
  rw [Bool.eq_iff_iff, compN_bit, ← h2]
  exact ⟨fun h => ⟨h1 j h, h⟩, fun h => h.2⟩
theorem compN_lt {es : List (Int × Int)} {p : Nat → Bool} {i : Nat} (hm : es.length ≤ 64) : compN es p i < 2 ^ 64 := setN_lt fun x hx => by have := compL_range hx; omega
theorem cycN_any {es : List (Int × Int)} {p : Nat → Bool} {l : List Int} (hl : l = filtB p es.length) {t x : Nat} (ht : t < l.length) (hx : l[t] = (x : Int)) (hm : x < es.length) : (cycN es p (l.take t)).any (fun z => z.testBit x) = !cLeadB es p x := by
  have h := met_iff (n := 0) hl ht
  rw [hx, Int.toNat_natCast] at h
  have : (cycN es p (l.take t)).any (fun z => z.testBit x) = true ↔ cLeadB es p x = false := by
    rw [← h, List.any_eq_true]
    constructor
    · rintro ⟨z, hz, hb⟩
      unfold cycN at hz
      rw [List.mem_map] at hz
      obtain ⟨y, hy, rfl⟩ := hz
      rw [List.mem_filter] at hy
      exact ⟨y, hy.1, hy.2, (compN_bit.1 hb).2⟩
    · rintro ⟨y, h1, h2, h3⟩
      refine ⟨compN es p y.toNat, ?_, compN_bit.2 ⟨hm, h3⟩⟩
      unfold cycN
      exact List.mem_map.2 ⟨y, List.mem_filter.2 ⟨h1, h2⟩, rfl⟩
  rw [Bool.eq_iff_iff, this]; simp

theorem has_cl {x b : Nat} {s : Nat} (hs : s < 2 ^ 64) (ho : Own H b 2 [.int .i64 (x : Nat)]) : Cl H (.func (.func 153) ⟨[]⟩ ⟨[.pointer (some ⟨b, 0, none⟩)]⟩) (.int .u64 (s : Nat)) (s.testBit x) := by
  intro G hG K k
  refine callV_mk ?_
  apply F153.ac
  unfold F153.B2 F153.B1
  refine asP_mk (ldI_own (ho.le hG) rfl (has_ok hs (by omega) (asB_mk ?_)))
  rw [Int.toNat_natCast]
  exact k _ (AHeap.le_refl _)

theorem cycles_ok {n : Int} {s : Nat} (h : Edges H v es) (hg : IsG n es) (hs : s < 2 ^ 64) (hsb : ∀ j, s.testBit j = true → j < es.length)
    (k : ∀ v' G, H.le G → Fresh H.length G v' 82 1 (LU (cycN es (fun j => s.testBit j) (filtB (fun j => s.testBit j) es.length))) → K v' G) : AC Try.prog T0 113 [.agg ⟨[.int .i64 n, v]⟩, .int .u64 (s : Nat)] H K := by
  have h30 : es.length ≤ 30 := by have := hg.ed.len; have := hg.ed.hi; omega
  apply F113.ac
  unfold F113.B28
  refine newK_f (all_iv (edges_one' h)) fun H1 l1 n1 o1 => ?_
  unfold F113.B27 F113.B26
  refine list_ok hs fun w H2 l2 f2 => ?_
  obtain ⟨p, hp⟩ : ∃ p : Nat → Bool, p = fun j => s.testBit j := ⟨_, rfl⟩
  rw [bitsL_filt (by omega) hsb, ← hp] at f2
  rw [← hp] at k
  obtain ⟨L, hL⟩ : ∃ L, L = filtB p es.length := ⟨_, rfl⟩
  rw [← hL] at f2 k
  have hLl : L.length ≤ es.length := by rw [hL]; exact filtB_length _ _
  have l12 := AHeap.le_trans l1 l2
  refine f2.ints.len ?_
  unfold F113.L2
  refine ⟨fun x1 x2 x5 x15 x16 x17 G => ((s : Nat) : Int) = x1 ∧ H.length = x2 ∧ w = x15 ∧ (L.length : Int) = x16 ∧ H2.le G ∧ ∃ t : Nat, x17 = t ∧ t ≤ L.length ∧ Fresh H2.length G x5 82 1 (LU (cycN es p (L.take t))), fun _ _ _ _ _ x17 _ => L.length - x17.toNat, ⟨rfl, rfl, rfl, rfl, AHeap.le_refl _, 0, rfl, by omega, .inl ⟨rfl, .inl rfl⟩⟩, ?_⟩
  rintro x1 x2 x5 x15 x16 x17 G ⟨rfl, rfl, rfl, rfl, hG, t, rfl, ht, hF⟩
  have lG := AHeap.le_trans l12 hG
  have oG := (o1.le l2).le hG
  unfold F113.B25
  refine pif_cases (fun hb => ?_) fun hb => ?_
  · have htl : t < L.length := by have := of_decide_eq_true hb; omega
    obtain ⟨e, he1, he2, he3⟩ : ∃ e : Nat, L[t] = (e : Int) ∧ e < es.length ∧ p e = true := by
      have hm : L[t] ∈ L := List.getElem_mem htl
      obtain ⟨j, h1, h2⟩ := mem_filtB.1 (show L[t] ∈ filtB p es.length by rw [← hL]; exact hm)
      exact ⟨j, h1, h2⟩
    have hany := cycN_any hL htl he1 he2
    have hzl : (cycN es p (L.take t)).length ≤ 30 := by
      unfold cycN; rw [List.length_map]
      exact Nat.le_trans (List.length_filter_le _ _) (by rw [List.length_take]; omega)
    unfold F113.B24
    refine (f2.ints.le hG).rd (by omega) (by omega) (newK_f rfl fun H3 l3 n3 o3 => stK_f o3 (by simp) (by simp [Value.oneCell']) rfl fun H4 b4 o4 => ?_)
    rw [Int.toNat_natCast, getD_of htl, he1] at o4
    have l4 : G.le H4 := b4.le l3 (Nat.le_refl _)
    have skip : cLeadB es p e = false → ∀ N2 : Int → Nat → Value → Value → Int → Int → AHeap → Prop, ∀ G', H4.le G' → (∀ x5' G'', H2.le G'' → Fresh H2.length G'' x5' 82 1 (LU (cycN es p (L.take (t + 1)))) → N2 s H.length x5' w L.length ((t : Int) + 1) G'') → F113.B3 K N2 s H.length x5 w L.length t G' := by
      intro hl N2 G' hG' hN
      unfold F113.B3
      rw [wrap_id (by omega) (by omega)]
      refine hN x5 G' (AHeap.le_trans hG (AHeap.le_trans l4 hG')) ?_
      rw [cycN_take htl, he1, Int.toNat_natCast, hl]
      simpa using hF.le (AHeap.le_trans l4 hG')
    have fin : ∀ x5' G'', H2.le G'' → Fresh H2.length G'' x5' 82 1 (LU (cycN es p (L.take (t + 1)))) → (((s : Nat) : Int) = s ∧ H.length = H.length ∧ w = w ∧ (L.length : Int) = L.length ∧ H2.le G'' ∧ ∃ t' : Nat, (t : Int) + 1 = t' ∧ t' ≤ L.length ∧ Fresh H2.length G'' x5' 82 1 (LU (cycN es p (L.take t')))) ∧ L.length - ((t : Int) + 1).toNat < L.length - (t : Int).toNat :=
      fun x5' G'' h1 h2 => ⟨⟨rfl, rfl, rfl, rfl, h1, t + 1, by omega, by omega, h2⟩, by omega⟩
    have bfs : cLeadB es p e = true → ∀ N2 : Int → Nat → Value → Value → Int → Int → AHeap → Prop, ∀ G0, H4.le G0 → (∀ x5' G'', H2.le G'' → Fresh H2.length G'' x5' 82 1 (LU (cycN es p (L.take (t + 1)))) → N2 s H.length x5' w L.length ((t : Int) + 1) G'') → F113.B22 K N2 s H.length x5 G.length w L.length t G0 := by
      intro hlead N2 G0 hG0 hN
      have lG0 := AHeap.le_trans lG (AHeap.le_trans l4 hG0)
      have l20 := AHeap.le_trans hG (AHeap.le_trans l4 hG0)
      have hF := hF.le (AHeap.le_trans l4 hG0)
      have oG := oG.le (AHeap.le_trans l4 hG0)
      unfold F113.B22
      refine ldI_own (o4.le hG0) rfl ⟨by omega, ?_⟩
      rw [one_shl (by omega) (by omega), Int.toNat_natCast]
      have p64 : 2 ^ e < 2 ^ 64 := Nat.pow_lt_pow_right (by decide) (by omega)
      unfold F113.B21
      refine ldI_own (o4.le hG0) rfl (newK_f rfl fun H5 l5 n5 o5 => ?_)
      unfold F113.L5
      refine ⟨fun x1 x2 x5' x8 x9 x15 x16 x17 G => ((s : Nat) : Int) = x1 ∧ H.length = x2 ∧ x5 = x5' ∧ w = x15 ∧ (L.length : Int) = x16 ∧ (t : Int) = x17 ∧ G0.le G ∧ BitQ G0.length (fun S Q => Ex (eAdj es p) e S Q ∧ (∀ y, S y = true → y < es.length) ∧ 2 * unseen S es.length + Q.length ≤ 61) x8 x9 G,
        fun _ _ _ x8 x9 _ _ _ _ => 2 * unseen (fun j => x8.toNat.testBit j) es.length + lenV x9, ⟨rfl, rfl, rfl, rfl, rfl, rfl, l5, 2 ^ e, [e], rfl, p64, ⟨.init fun x => ?_, fun y hy => ?_, by have := unseen_le (fun j => (2 ^ e).testBit j) es.length; simp; omega⟩, (Fresh.sl (.inr ⟨_, 1, Nat.le_refl _, rfl, o5, rfl⟩))⟩, ?_⟩
      · rw [Nat.testBit_two_pow]; simp [eq_comm]
      · have hy : (2 ^ e).testBit y = true := hy
        rw [Nat.testBit_two_pow] at hy; have := of_decide_eq_true hy; omega
      rintro x1 x2 x5' x8 x9 x15 x16 x17 G1 ⟨rfl, rfl, rfl, rfl, rfl, rfl, hG1, z, Q, rfl, hz, ⟨hE, hB, hU⟩, hQ⟩
      have lG1 := AHeap.le_trans lG0 hG1
      have oG1 := oG.le hG1
      unfold F113.B20
      refine hQ.len (by decide) (n := Q.length) (by simp) (pif_cases (fun hb => ?_) fun hb => ?_)
      · have hpos : 0 < Q.length := by have := of_decide_eq_true hb; omega
        cases Q with
        | nil => simp at hpos
        | cons x Q =>
        have hxl : x < es.length := hB x (hE.q x (by simp))
        obtain ⟨d1, d2, d3, d4, d5⟩ := hg.ed.ends es[x] (List.getElem_mem hxl)
        rw [← getD_of (d := (0, 0)) hxl] at d1 d2 d3 d4 d5
        have hmu : 2 * unseen (fun j => (((z : Nat) : Int).toNat).testBit j) es.length + lenV x9 = 2 * unseen (fun j => z.testBit j) es.length + (Q.length + 1) := by
          rw [Sl_lenV hQ]; simp
        have hU : 2 * unseen (fun j => z.testBit j) es.length + (Q.length + 1) ≤ 61 := hU
        unfold F113.B19
        refine ld1_own oG1 rfl (hQ.ints.rd (by decide) (by simp) ?_)
        rw [show (NI (x :: Q)).getD (0 : Int).toNat 0 = (x : Int) from rfl]
        obtain ⟨bb, oo, hk, c1, c2⟩ := (h.le lG1).idx (show (0 : Int) ≤ x by omega) (by omega)
        simp only [Int.toNat_natCast] at c1 c2
        refine hk _ (ldI_mk c1 (ldI_mk c2 ?_))
        unfold F113.L7
        refine ⟨fun x1 x2 x5' x8 x9 x15 x16 x17 x44a x44b x45 G => ((s : Nat) : Int) = x1 ∧ H.length = x2 ∧ x5 = x5' ∧ w = x15 ∧ (L.length : Int) = x16 ∧ (t : Int) = x17 ∧ (es.getD x (0, 0)).1 = x44a ∧ (es.getD x (0, 0)).2 = x44b ∧ G0.le G ∧ ∃ m : Nat, x45 = m ∧ m ≤ 2 ∧ BitQ G0.length (fun S Q' => ∃ R, Q' = x :: R ∧ InX es p e x (2 * unseen (fun j => z.testBit j) es.length + (Q.length + 1)) (PastE es p x m) S R) x8 x9 G,
          fun _ _ _ _ _ _ _ _ _ _ x45 _ => 2 - x45.toNat, ⟨rfl, rfl, rfl, rfl, rfl, rfl, rfl, rfl, hG1, 0, rfl, by omega, z, x :: Q, rfl, hz, ⟨Q, rfl, hE, hB, Nat.le_refl _, fun j ⟨_, _, m', h, _⟩ => absurd h (by omega)⟩, hQ⟩, ?_⟩
        clear hQ hE hB hG1 oG1 lG1 hk c1 c2
        rintro x1 x2 x5' x8 x9' x15 x16 x17 x44a x44b x45 G1 ⟨rfl, rfl, rfl, rfl, rfl, rfl, rfl, rfl, hG1, m, rfl, hm, z', _, rfl, hz', ⟨R, rfl, hX⟩, hQ⟩
        have lG1 := AHeap.le_trans lG0 hG1
        have oG1 := oG.le hG1
        unfold F113.B18
        refine pif_cases (fun hb => ?_) fun hb => ?_
        · have hm2 : m < 2 := by have := of_decide_eq_true hb; omega
          unfold F113.B17
          have hat : ([.int .i64 (es.getD x (0, 0)).1, .int .i64 (es.getD x (0, 0)).2] : List Value)[(m : Int).toNat * 1]? = some (.int .i64 (en (es.getD x (0, 0)) m)) := by
            rcases (by omega : m = 0 ∨ m = 1) with rfl | rfl <;> rfl
          refine bndK_iff.2 ⟨by omega, by omega, ?_⟩
          unfold atK
          rw [hat]
          refine asI_mk ?_
          unfold F113.B16
          refine ldI_own oG1 rfl (ld1_own oG1 rfl (at_ok (h.le lG1) (by omega) fun q H6 l6 f6 => ?_))
          have hv : 0 ≤ en (es.getD x (0, 0)) m ∧ en (es.getD x (0, 0)) m < n := by unfold en; split <;> omega
          have h3 := hg.three hv.1 hv.2
          refine f6.len (by decide) (n := 3) (by rw [List.length_map, h3]) ?_
          have lG6 := AHeap.le_trans hG1 l6
          unfold F113.L9
          refine ⟨fun x1 x2 x5' x8 x9 x15 x16 x17 x44a x44b x45 x50 x51 x52 G => ((s : Nat) : Int) = x1 ∧ H.length = x2 ∧ x5 = x5' ∧ w = x15 ∧ (L.length : Int) = x16 ∧ (t : Int) = x17 ∧ (es.getD x (0, 0)).1 = x44a ∧ (es.getD x (0, 0)).2 = x44b ∧ (m : Int) = x45 ∧ q = x50 ∧ 3 = x51 ∧ G0.le G ∧ Sl 0 G q 2 1 (LI (atL es (en (es.getD x (0, 0)) m))) ∧ (∀ b, bk q = some b → bk x9 ≠ some b) ∧
              ∃ y : Nat, x52 = y ∧ y ≤ 3 ∧ BitQ G0.length (fun S Q' => ∃ R, Q' = x :: R ∧ InX es p e x (2 * unseen (fun j => z.testBit j) es.length + (Q.length + 1)) (PastT es p x m y) S R) x8 x9 G,
            fun _ _ _ _ _ _ _ _ _ _ _ _ _ x52 _ => 3 - x52.toNat, ⟨rfl, rfl, rfl, rfl, rfl, rfl, rfl, rfl, rfl, rfl, rfl, lG6, f6.less (Nat.zero_le _), (fun b hb hb' => by have := (f6.lt hb).1; have := (hQ.lt hb').2; omega), 0, rfl, by omega, z', x :: R, rfl, hz', ⟨R, rfl, hX.more fun j hj => .inl ?_⟩, hQ.le l6⟩, ?_⟩
          · rcases hj with hj | ⟨_, t', h, _⟩
            · exact hj
            · exact absurd h (by omega)
          clear hX hQ f6 l6 lG6 oG1 lG1 hG1
          rintro x1 x2 x5' x8 x9' x15 x16 x17 x44a x44b x45 x50 x51 x52 G3 ⟨rfl, rfl, rfl, rfl, rfl, rfl, rfl, rfl, rfl, rfl, rfl, hG3, hW, hA, y, rfl, hy, z3, _, rfl, hz3, ⟨R3, rfl, hX⟩, hQ⟩
          unfold F113.B15
          refine pif_cases (fun hb => ?_) fun hb => ?_
          · have ht3 : y < 3 := by have := of_decide_eq_true hb; omega
            obtain ⟨i, hi1, hi2, hi3⟩ := at_get (es := es) (w := en (es.getD x (0, 0)) m) (t := y) (by omega)
            have hxi : share (es.getD x (0, 0)) (es.getD i (0, 0)) := ⟨_, on_en, hi3⟩
            have hpast : ∀ j, PastT es p x m (y + 1) j → PastT es p x m y j ∨ (p j = true ∧ j = i) := fun j hj => (PastT.step hj).imp id fun ⟨h1, h2⟩ => ⟨h1, by omega⟩
            have pi' : p i = s.testBit i := by rw [hp]
            unfold F113.B14
            refine hW.ints.rd (by omega) (by omega) ?_
            simp only [Int.toNat_natCast, hi1]
            unfold F113.B13
            refine has_ok hs (by omega) (asB_mk ?_)
            simp only [Int.toNat_natCast]
            rw [← pi']
            refine pif_cases (fun hpi => ?_) fun hpi => ?_
            · refine has_ok hz3 (by omega) (asB_mk ?_)
              simp only [Int.toNat_natCast]
              refine pif_cases (fun hb => ?_) fun hb => ?_
              · have hn : z3.testBit i = false := by simpa using hb
                have pi : 2 ^ i < 2 ^ 64 := Nat.pow_lt_pow_right (by decide) (by omega)
                unfold F113.B12
                refine ⟨by omega, ?_⟩
                rw [one_shl (by omega) (by omega), Int.toNat_natCast, bits_or hz3 pi]
                unfold F113.B11
                refine hQ.pushN E_int (by decide) hG3.1 (n := 1) (ys := [.int .i64 i]) rfl rfl (by have := hX.mu; simp; omega) (by simp) fun v' G4 k4 ot4 nb4 f4 => ?_
                unfold F113.B10
                rw [wrap_id (by omega) (by omega)]
                refine ⟨⟨rfl, rfl, rfl, rfl, rfl, rfl, rfl, rfl, rfl, rfl, rfl, k4.le hG3 (Nat.le_refl _), hW.oth ot4 hA, (fun b hb hb' => by have := (hW.lt hb).2; have := nb4 b hb'; omega), y + 1, by omega, by omega, z3 ||| 2 ^ i, x :: (R3 ++ [i]), rfl, or_lt hz3 pi, ⟨R3 ++ [i], rfl, hX.push ⟨hi2, hpi, hxi⟩ hn or_bit fun j hj => ?_⟩, ?_⟩, by simp; omega⟩
                · exact (hpast j hj).imp id fun h => h.2
                · have := f4.sl
                  simpa using this
              · have hn : z3.testBit i = true := by simpa using hb
                unfold F113.B10
                rw [wrap_id (by omega) (by omega)]
                refine ⟨⟨rfl, rfl, rfl, rfl, rfl, rfl, rfl, rfl, rfl, rfl, rfl, hG3, hW, hA, y + 1, by omega, by omega, z3, x :: R3, rfl, hz3, ⟨R3, rfl, hX.more fun j hj => ?_⟩, hQ⟩, by simp; omega⟩
                rcases hpast j hj with h | ⟨h, rfl⟩
                · exact .inl h
                · exact .inr hn
            · unfold F113.B10
              rw [wrap_id (by omega) (by omega)]
              refine ⟨⟨rfl, rfl, rfl, rfl, rfl, rfl, rfl, rfl, rfl, rfl, rfl, hG3, hW, hA, y + 1, by omega, by omega, z3, x :: R3, rfl, hz3, ⟨R3, rfl, hX.more fun j hj => ?_⟩, hQ⟩, by simp; omega⟩
              rcases hpast j hj with h | ⟨h, rfl⟩
              · exact .inl h
              · rw [hpi] at h; cases h
          · have ht3 : y = 3 := by have := of_decide_eq_false hb; omega
            subst ht3
            unfold F113.B8
            rw [wrap_id (by omega) (by omega)]
            exact ⟨⟨rfl, rfl, rfl, rfl, rfl, rfl, rfl, rfl, hG3, m + 1, by omega, by omega, z3, x :: R3, rfl, hz3, ⟨R3, rfl, hX.more fun j hj => .inl (by rw [← h3]; exact PastT.fin hj)⟩, hQ⟩, by simp; omega⟩
        · have hm2 : m = 2 := by have := of_decide_eq_false hb; omega
          subst hm2
          unfold F113.B6
          obtain ⟨hE, hlt⟩ := hX.pop fun j h1 h2 h3 => ⟨h1, h2, h3.elim (fun h => ⟨0, by omega, h⟩) fun h => ⟨1, by omega, h⟩⟩
          refine hQ.drop (i := 1) (n := R.length + 1) (by simp) (by decide) (by omega) (by omega) fun v' hv' => ?_
          have hv' : Sl G0.length G1 v' 2 1 (LI (NI R)) := by simpa using hv'
          refine ⟨⟨rfl, rfl, rfl, rfl, rfl, rfl, hG1, z', R, rfl, hz', ⟨hE, hX.bnd, by omega⟩, hv'⟩, ?_⟩
          show 2 * unseen (fun j => (((z' : Nat) : Int).toNat).testBit j) es.length + lenV v' < 2 * unseen (fun j => (((z : Nat) : Int).toNat).testBit j) es.length + lenV x9
          rw [hmu, Sl_lenV hv']
          simpa using hlt
      · have hq0 : Q = [] := by
          have := of_decide_eq_false hb
          cases Q with
          | nil => rfl
          | cons x Q => simp at this
        subst hq0
        have hzc : z = compN es p e := compN_of hB hE.fin
        unfold F113.B4
        refine (hF.le hG1).sl.pushN E_set (by decide) (by have := l20.1; have := hG1.1; omega) (n := 1) (ys := [.int .u64 (z : Nat)]) rfl rfl (by simp; omega) (by simp) fun v' G6 k6 _ _ f6 => ?_
        unfold F113.B3
        rw [wrap_id (by omega) (by omega)]
        refine hN v' G6 (k6.le (AHeap.le_trans l20 hG1) (Nat.le_refl _)) ?_
        rw [cycN_take htl, he1, Int.toNat_natCast, hlead, ← hzc]
        simpa using f6
    have hFc : Sl H2.length H4 x5 82 1 (LU (cycN es p (L.take t))) := (hF.le l4).sl
    have hzb : ∀ z ∈ cycN es p (L.take t), z < 2 ^ 64 := by
      intro z hz
      unfold cycN at hz
      obtain ⟨y, _, rfl⟩ := List.mem_map.1 hz
      exact compN_lt (by omega)
    unfold F113.B23
    refine hFc.len (by decide) (n := (cycN es p (L.take t)).length) (by simp) (pif_cases (fun hb => ?_) fun hb => ?_)
    · refine containsU_ok (p := fun z => z.testBit e) hFc (by omega) (fun z hz => has_cl (hzb z hz) o4) fun G7 l7 => asB_mk ?_
      rw [hany]
      cases hl : cLeadB es p e with
      | true => exact pif_f rfl (bfs hl _ G7 l7 fin)
      | false => exact pif_t rfl (skip hl _ G7 l7 fin)
    · have hz0 : cycN es p (L.take t) = [] := by
        have := of_decide_eq_false hb
        exact List.length_eq_zero_iff.1 (by omega)
      rw [hz0] at hany
      refine bfs ?_ _ H4 (AHeap.le_refl _) fin
      simpa using hany
  · have hge : t = L.length := by have := of_decide_eq_false hb; omega
    subst hge
    rw [List.take_length] at hF
    unfold F113.B1
    exact k _ _ lG (hF.less l12.1)

theorem lists_ok {Z : List Nat} {m0 : Nat} (h : Sl m0 H v 82 1 (LU Z)) (hl : Z.length ≤ 1000000) (hz : ∀ z ∈ Z, z < 2 ^ 64)
    (k : ∀ v' G, H.le G → RowsF (fun b => H.length ≤ b) G.length G v' (Z.map bitsL) → K v' G) : AC Try.prog T0 126 [v] H K := by
  apply F126.ac
  unfold F126.B9 F126.B8 F126.B7
  refine h.len (by decide) (n := Z.length) (by simp) ?_
  unfold F126.L2
  refine ⟨fun x3 x6 x7 x8 G => v = x6 ∧ (Z.length : Int) = x7 ∧ H.le G ∧ ∃ t : Nat, x8 = t ∧ t ≤ Z.length ∧ RowsF (fun b => H.length ≤ b) G.length G x3 ((Z.take t).map bitsL), fun _ _ _ x8 _ => Z.length - x8.toNat, ⟨rfl, rfl, AHeap.le_refl _, 0, rfl, by omega, .nil⟩, ?_⟩
  rintro x3 x6 x7 x8 G ⟨rfl, rfl, hG, t, rfl, ht, hR⟩
  unfold F126.B6
  refine pif_cases (fun hb => ?_) fun hb => ?_
  · have htl : t < Z.length := by have := of_decide_eq_true hb; omega
    unfold F126.B5
    refine Sl_rdI (h.le hG) (by omega) (by simp; omega) (by rw [Int.toNat_natCast]; exact LU_get htl) ?_
    rw [getD_of htl]
    unfold F126.B4
    refine list_ok (hz _ (List.getElem_mem htl)) fun w H2 l2 f2 => ?_
    refine (hR.le l2).push l2.1 (fun b hb => Nat.le_trans hG.1 hb) f2 (by rw [List.length_map, List.length_take]; omega) fun v' G2 ot nb hlen hR2 => ?_
    unfold F126.B3
    rw [wrap_id (by omega) (by omega)]
    refine ⟨⟨rfl, rfl, ?_, t + 1, by omega, by omega, ?_⟩, by simp; omega⟩
    · refine ⟨by have := hG.1; have := l2.1; omega, fun b o ho => ot b o (fun hv => ?_) (l2.2 _ _ (hG.2 _ _ ho))⟩
      obtain ⟨vs, _, _, q3, _⟩ := hR
      have := (q3 b hv).1
      have := lt_of_get ho
      omega
    · rw [List.take_succ_eq_append_getElem htl, List.map_append]; exact hR2
  · have hge : t = Z.length := by have := of_decide_eq_false hb; omega
    subst hge
    rw [List.take_length] at hR
    unfold F126.B1
    exact k _ _ hG hR
end Go.Proofs
/- Contracts: the cycles of a set of edges, the reference's way. -/
set_option linter.unusedVariables false
set_option linter.unusedSimpArgs false
set_option maxRecDepth 100000
namespace Go.Proofs
open Go.Abs

variable {H G : AHeap} {v u f : Value} {l m c : List Int} {es fs : List (Int × Int)} {K : Value → AHeap → Prop} {A : Nat → Prop} {B : Nat} {ls : List (List Int)}

end Go.Proofs
/- Contracts of the laws' helpers over lists of lists. -/
set_option linter.unusedVariables false
set_option linter.unusedSimpArgs false
set_option maxRecDepth 100000
namespace Go.Proofs
open Go.Abs

variable {H G : AHeap} {v u f : Value} {l m c : List Int} {es fs : List (Int × Int)} {K : Value → AHeap → Prop} {A A' : Nat → Prop} {B B' : Nat} {ls ms : List (List Int)}

/-- All but rows of a kind lives on. -/
structure ModA (A : Nat → Prop) (H G : AHeap) : Prop where
  len : H.length ≤ G.length
  same : ∀ (c : Nat) (o : AObj), ¬ A c → H[c]? = some (some o) → G[c]? = some (some o)
theorem ModA.refl : ModA A H H := ⟨Nat.le_refl _, fun _ _ _ h => h⟩
theorem ModA.trans {G' : AHeap} (h : ModA A H G) (k : ModA A G G') : ModA A H G' := ⟨Nat.le_trans h.len k.len, fun c o hc ho => k.same c o hc (h.same c o hc ho)⟩
theorem ModA.le {X : AHeap} (h : ModA A H G) (hb : ∀ b, A b → X.length ≤ b) (hl : X.le H) : X.le G :=
  ⟨Nat.le_trans hl.1 h.len, fun c o hc => h.same c o (fun ha => by have := hb c ha; have := lt_of_get hc; omega) (hl.2 _ _ hc)⟩
end Go.Proofs
/- Contracts: cycles of a set, whether a set is a cycle, both sides. -/
set_option linter.unusedVariables false
set_option linter.unusedSimpArgs false
set_option maxRecDepth 100000
namespace Go.Proofs
open Go.Abs

variable {H G : AHeap} {v u f : Value} {l m c : List Int} {es fs : List (Int × Int)} {K : Value → AHeap → Prop} {A : Nat → Prop} {B : Nat} {ls : List (List Int)}

theorem set_bits {l : List Int} {n : Nat} (h : IsS l n) : filtB (fun j => (setN l).testBit j) n = l := h.filt.symm
theorem set_lt {l : List Int} {n : Nat} (h : IsS l n) (hn : n ≤ 64) : setN l < 2 ^ 64 := setN_lt fun x hx => by have := h.range x hx; omega
/-- Whether a set is a cycle. -/
noncomputable def cycB (n : Int) (es : List (Int × Int)) (l : List Int) : Bool := decide (EvenS n es (bitB l)) && (((cycOf es (bitB l) l).length : Int) == 1)
theorem isCycle_ok {n : Int} (h : Edges H v es) (hg : IsG n es) (hs : IsS l es.length) (k : ∀ G, H.le G → K (.bool (cycB n es l)) G) : AC Try.prog T0 91 [.agg ⟨[.int .i64 n, v]⟩, .int .u64 (setN l : Nat)] H K := by
  have h30 : es.length ≤ 30 := by have := hg.ed.len; have := hg.ed.hi; omega
  have hsl := set_lt hs (by omega)
  apply F91.ac
  unfold F91.B2
  refine newK_f (all_iv (edges_one' h)) fun H1 l1 n1 o1 => ?_
  unfold F91.B1
  unfold cycB at k
  refine ldI_own o1 rfl (ld1_own o1 rfl (isEven_ok (h.le l1) hg hsl fun H2 l2 => asB_mk ?_))
  rw [show (fun j => (setN l).testBit j) = bitB l from rfl]
  refine pif_cases (fun he => ?_) fun he => ?_
  · have l12 := AHeap.le_trans l1 l2
    refine ldI_own (o1.le l2) rfl (ld1_own (o1.le l2) rfl (cycles_ok (h.le l12) hg hsl (fun j hj => bitB_lt hs hj) fun w H4 l4 f4 => ?_))
    rw [set_bits hs, show (fun j => (setN l).testBit j) = bitB l from rfl] at f4
    refine f4.sl.len (by decide) (n := (cycOf es (bitB l) l).length) (by unfold cycN cycOf; simp) ?_
    have k := k _ (AHeap.le_trans l12 l4)
    rw [he, Bool.true_and] at k; exact k
  · have k := k _ (AHeap.le_trans l1 l2)
    rw [he, Bool.false_and] at k; exact k
end Go.Proofs
/- Plain mathematics: all cycles as ascending lists, once each. -/
set_option linter.unusedVariables false
set_option linter.unusedSimpArgs false
namespace Go.Proofs
open Go.Abs

variable {es : List (Int × Int)} {p q : Nat → Bool} {n : Int} {e en : Nat}

def rowOf (m : Nat) (l : List Int) : List Int := filtB (fun j => decide ((j : Int) ∈ l)) m
def eaN (es : List (Int × Int)) (e : Nat) : Nat := (es.getD e (0, 0)).1.toNat
def ebN (es : List (Int × Int)) (e : Nat) : Nat := (es.getD e (0, 0)).2.toNat
def metB (b : Nat) : Nat → Bool := fun j => decide (j = b)
def cyE (n : Int) (es : List (Int × Int)) (e : Nat) : List (List Int) := (pwL es e (eaN es e) (n.toNat + 1) (ebN es e) (metB (ebN es e))).map fun l => rowOf es.length ((e : Int) :: l)
def cyRows (n : Int) (es : List (Int × Int)) : List (List Int) := (List.range es.length).flatMap (cyE n es)

theorem mem_rowOf {m : Nat} {l : List Int} (h : ∀ i ∈ l, ∃ j : Nat, i = j ∧ j < m) {x : Int} : x ∈ rowOf m l ↔ x ∈ l := by
  unfold rowOf
  rw [mem_filtB]
  constructor
  · rintro ⟨j, rfl, _, h2⟩; exact of_decide_eq_true h2
  · intro hx
    obtain ⟨j, rfl, hj⟩ := h x hx
    exact ⟨j, rfl, hj, decide_eq_true hx⟩
theorem rowOf_isS {m : Nat} {l : List Int} : IsS (rowOf m l) m := asc_isS (filtB_asc _ _) fun x hx => by
  obtain ⟨j, rfl, h1, _⟩ := mem_filtB.1 hx
  omega
theorem ends_eq (he : EndsIn n es) (hi : e < es.length) : es.getD e (0, 0) = ((eaN es e : Int), (ebN es e : Int)) ∧ eaN es e ≠ ebN es e ∧ (eaN es e : Int) < n ∧ (ebN es e : Int) < n ∧ ∀ y : Nat, on (es.getD e (0, 0)) y = decide (y = eaN es e ∨ y = ebN es e) := by
  obtain ⟨a, b, hab, hne, ha, hb⟩ := he.get e hi
  unfold eaN ebN
  rw [hab]
  simp only [Int.toNat_natCast]
  refine ⟨trivial, hne, ha, hb, fun y => ?_⟩
  unfold on
  by_cases h1 : y = a
  · subst h1; simp
  · by_cases h2 : y = b
    · subst h2; simp
    · have g1 : ¬ (a : Int) = y := by omega
      have g2 : ¬ (b : Int) = y := by omega
      simp [h1, h2, g1, g2]
theorem on_nat (he : EndsIn n es) (hi : e < es.length) {v : Int} (h : on (es.getD e (0, 0)) v = true) : ∃ x : Nat, v = x ∧ (x : Int) < n := by
  obtain ⟨a, b, hab, hne, ha, hb⟩ := he.get e hi
  rw [hab] at h
  simp only [on, Bool.or_eq_true, beq_iff_eq] at h
  rcases h with h | h
  · exact ⟨a, h.symm, ha⟩
  · exact ⟨b, h.symm, hb⟩
theorem degB_list : ∀ {l : List Int}, l.Nodup → (∀ i ∈ l, ∃ j : Nat, i = j ∧ j < es.length) → ∀ x : Nat, degB es (fun j => decide ((j : Int) ∈ l)) x = degC es l x
  | [], _, _, x => by rw [degB_cn, cn_zero fun j hj => by simp]; rfl
  | a :: l, hn, hl, x => by
    rw [List.nodup_cons] at hn
    obtain ⟨i, rfl, hi⟩ := hl a (by simp)
    have ih := degB_list hn.2 (fun j hj => hl j (by simp [hj])) x
    rw [degC_cons, ← ih, ← deg_del (p := fun j => decide ((j : Int) ∈ (i : Int) :: l)) hi (by simp)]
    congr 1
    refine deg_congr fun j hj => ?_
    by_cases e : j = i
    · subst e; simp [hn.1]
    · have : ¬ (j : Int) = i := by omega
      simp [e, this]
theorem deg_out (he : EndsIn n es) {x : Nat} (hx : ¬ (x : Int) < n) : degB es p x = 0 := by
  apply Classical.byContradiction
  intro h
  obtain ⟨i, h1, _, h3⟩ := deg_some (Nat.pos_of_ne_zero h)
  obtain ⟨y, hy, hyn⟩ := on_nat he h1 h3
  omega
/-- What a way makes. -/
structure CyP (n : Int) (es : List (Int × Int)) (e : Nat) (x : List Int) : Prop where
  s : IsS x es.length
  ev : EvenS n es (bitB x)
  mem : (e : Int) ∈ x
  lo : ∀ i ∈ x, (e : Int) ≤ i
  con : ∀ j, bitB x j = true → Rch (eAdj es (bitB x)) e j
theorem cy_way (he : EndsIn n es) (hi : e < es.length) {l : List Int} (hl : l ∈ pwL es e (eaN es e) (n.toNat + 1) (ebN es e) (metB (ebN es e))) :
    CyP n es e (rowOf es.length ((e : Int) :: l)) ∧ (e : Int) ∉ l ∧ ∀ x, x ∈ rowOf es.length ((e : Int) :: l) ↔ x ∈ (e : Int) :: l := by
  obtain ⟨_, hne, han, hbn, hon⟩ := ends_eq he hi
  have P := wk_prop he hl (by simp [metB])
  have hr : ∀ i ∈ (e : Int) :: l, ∃ j : Nat, i = j ∧ j < es.length := fun i hi' => by
    rcases List.mem_cons.1 hi' with rfl | h
    · exact ⟨e, rfl, hi⟩
    · obtain ⟨j, h1, h2, _⟩ := P.rng i h; exact ⟨j, h1, h2⟩
  have hel : (e : Int) ∉ l := fun h => by
    obtain ⟨j, h1, _, h3⟩ := P.rng _ h
    omega
  have hs : IsS (rowOf es.length ((e : Int) :: l)) es.length := rowOf_isS
  have hb : ∀ j, bitB (rowOf es.length ((e : Int) :: l)) j = true ↔ (j : Int) ∈ (e : Int) :: l := fun j => (bitB_mem hs j).trans (mem_rowOf hr)
  refine ⟨⟨hs, fun x hx => ?_, (mem_rowOf hr).2 (by simp), fun i hi' => ?_, fun j hj => ?_⟩, hel, fun x => mem_rowOf hr⟩
  · rw [deg_congr (q := fun j => decide ((j : Int) ∈ (e : Int) :: l)) fun j hj => by
      rw [Bool.eq_iff_iff, hb, decide_eq_true_iff], degB_list (List.nodup_cons.2 ⟨hel, P.nd⟩) hr, degC_cons, hon x]
    have := P.par x
    by_cases e1 : x = eaN es e
    · have e2 : ¬ x = ebN es e := by omega
      simp only [e1, e2, if_true, if_false, true_or, decide_true] at this ⊢
      rw [if_neg hne] at this
      omega
    · by_cases e2 : x = ebN es e
      · simp only [e2, or_true, decide_true, if_true] at this ⊢
        rw [if_neg (Ne.symm hne)] at this
        omega
      · simp [e1, e2] at this ⊢; omega
  · rcases List.mem_cons.1 ((mem_rowOf hr).1 hi') with rfl | h
    · exact Int.le_refl _
    · obtain ⟨j, rfl, _, h3⟩ := P.rng i h; omega
  · rcases List.mem_cons.1 ((hb j).1 hj) with h | h
    · have : j = e := by omega
      rw [this]; exact .refl
    · have := P.con (bitB (rowOf es.length ((e : Int) :: l))) (fun i hi' => by
        obtain ⟨k, rfl, _⟩ := P.rng i hi'
        rw [Int.toNat_natCast]; exact (hb k).2 (by simp [hi'])) e (by rw [hon]; simp) (j : Int) h
      rwa [Int.toNat_natCast] at this
theorem cyB_of {x : List Int} (h : CyP n es e x) : cycB n es x = true := by
  unfold cycB
  rw [decide_eq_true h.ev, Bool.true_and]
  have hx : (cycOf es (bitB x) x).length = 1 := by
    unfold cycOf
    rw [List.length_map]
    have hlead : ∀ i ∈ x, cLeadB es (bitB x) i.toNat = decide (i = (e : Int)) := fun i hi => by
      have hr := h.s.range i hi
      have hp : bitB x i.toNat = true := (bitB_mem h.s _).2 (by rwa [Int.toNat_of_nonneg hr.1])
      have hpe : bitB x e = true := (bitB_mem h.s _).2 h.mem
      rw [Bool.eq_iff_iff, cLeadB_iff, decide_eq_true_iff]
      constructor
      · intro hc
        apply Classical.byContradiction
        intro hne
        have := h.lo i hi
        exact hc e (by omega) hpe (h.con _ hp)
      · rintro rfl j hj hpj
        have := h.lo j ((bitB_mem h.s j).1 hpj)
        omega
    rw [List.filter_congr hlead]
    have hnd := asc_nodup h.s.asc
    obtain ⟨A, B, hAB⟩ := List.append_of_mem h.mem
    rw [hAB] at hnd ⊢
    rw [List.nodup_append, List.nodup_cons] at hnd
    rw [List.filter_append, List.filter_cons, if_pos (by simp), List.filter_eq_nil_iff.2 (fun a ha => by
      have := hnd.2.2 a ha (e : Int) (by simp)
      simpa using this), List.filter_eq_nil_iff.2 (fun a ha => by
      have : a ≠ (e : Int) := by rintro rfl; exact hnd.2.1.1 ha
      simpa using this)]
    rfl
  rw [hx]; rfl
theorem cy_some (hg : IsG n es) {x : List Int} (hs : IsS x es.length) (hc : cycB n es x = true) : ∃ e, e < es.length ∧ x ∈ cyE n es e := by
  unfold cycB at hc
  rw [Bool.and_eq_true] at hc
  have hev := of_decide_eq_true hc.1
  have hone : (cycOf es (bitB x) x).length = 1 := by have := hc.2; simp only [beq_iff_eq] at this; omega
  obtain ⟨e, ⟨r, hxr⟩, he, hpe, hall, hlow⟩ := one_part hs hone
  have hE := hg.endsIn
  obtain ⟨_, hne, han, hbn, hon⟩ := ends_eq hE he
  have hdel := fun y : Nat => deg_del (es := es) (p := bitB x) (w := (y : Int)) he hpe
  have heven : ∀ y : Nat, degB es (bitB x) y % 2 = 0 := fun y => by
    by_cases hy : (y : Int) < n
    · exact hev y hy
    · rw [deg_out hE hy]
  have hle : ∀ y : Nat, degB es (bitB x) y ≤ 2 := fun y => by
    by_cases hy : (y : Int) < n
    · have := degB_le_three (p := bitB x) hg hy; have := heven y; omega
    · rw [deg_out hE hy]; omega
  obtain ⟨l, hl, hlp⟩ := wk_some hE (e := e) (en := eaN es e) (f := n.toNat + 1) (a := ebN es e) (M := metB (ebN es e)) (p := fun j => bitB x j && !decide (j = e)) (by have := unseen_le (metB (ebN es e)) n.toNat; omega)
    (by simp [metB]) hbn (fun j hj hpj => by
      simp only [Bool.and_eq_true, Bool.not_eq_true', decide_eq_false_iff_not] at hpj
      have := mt (hlow j) (by intro hn; exact hn ((hall j).1 hpj.1).2)
      omega) (fun y => by
      have h1 := hdel y
      have h2 := heven y
      rw [hon y] at h1
      by_cases e1 : y = eaN es e
      · have e2 : ¬ y = ebN es e := by omega
        simp only [e1, true_or, decide_true, if_true] at h1 h2 ⊢
        rw [if_neg hne]; omega
      · by_cases e2 : y = ebN es e
        · simp only [e2, or_true, decide_true, if_true] at h1 h2 ⊢
          rw [if_neg (Ne.symm hne)]; omega
        · simp [e1, e2] at h1 h2 ⊢; omega) (fun y => by have := hdel y; have := hle y; omega) (fun y hy hyn => absurd (by simpa [metB] using hy) hyn)
  obtain ⟨C, hel, hmem⟩ := cy_way hE he hl
  have hsub : ∀ j, bitB (rowOf es.length ((e : Int) :: l)) j = true → bitB x j = true := fun j hj => by
    rcases List.mem_cons.1 ((hmem _).1 ((bitB_mem C.s j).1 hj)) with h | h
    · have : j = e := by omega
      rw [this]; exact hpe
    · have := hlp _ h
      simp only [Int.toNat_natCast, Bool.and_eq_true] at this
      exact this.1
  have hsup : ∀ j, bitB x j = true → bitB (rowOf es.length ((e : Int) :: l)) j = true := fun j hj => by
    refine Rch.keep (P := fun j => bitB (rowOf es.length ((e : Int) :: l)) j = true) (fun a b hab ha => ?_) ((hall j).1 hj).2 ((bitB_mem C.s e).2 C.mem)
    obtain ⟨hb, hpb, v, hva, hvb⟩ := hab
    obtain ⟨y, rfl, hyn⟩ := on_nat hE hb hvb
    cases hq : bitB (rowOf es.length ((e : Int) :: l)) b with
    | true => rfl
    | false =>
      exfalso
      have h1 : 0 < degB es (bitB (rowOf es.length ((e : Int) :: l))) y := degB_pos (bitB_lt C.s ha) ha hva
      have h2 := C.ev y hyn
      have h3 := hle y
      have h4 : degB es (bitB (rowOf es.length ((e : Int) :: l))) y < degB es (bitB x) y := by
        rw [degB_cn, degB_cn]
        refine cn_lt (i := b) (fun j _ hj => ?_) (by rw [hvb, hpb]; rfl) (by rw [hq, Bool.and_false]) hb
        rw [Bool.and_eq_true] at hj ⊢
        exact ⟨hj.1, hsub j hj.2⟩
      omega
  refine ⟨e, he, List.mem_map.2 ⟨l, hl, ?_⟩⟩
  rw [hs.filt, C.s.filt]
  exact filtB_congr fun j hj => by
    rw [Bool.eq_iff_iff]; exact ⟨hsub j, hsup j⟩
theorem cyRows_mem (hg : IsG n es) {x : List Int} : x ∈ cyRows n es ↔ IsS x es.length ∧ cycB n es x = true := by
  unfold cyRows
  rw [List.mem_flatMap]
  constructor
  · rintro ⟨e, he, hx⟩
    obtain ⟨l, hl, rfl⟩ := List.mem_map.1 hx
    have C := (cy_way hg.endsIn (List.mem_range.1 he) hl).1
    exact ⟨C.s, cyB_of C⟩
  · rintro ⟨h1, h2⟩
    obtain ⟨e, h3, h4⟩ := cy_some hg h1 h2
    exact ⟨e, List.mem_range.2 h3, h4⟩
theorem cyRows_nodup (hg : IsG n es) : (cyRows n es).Nodup := by
  have hE := hg.endsIn
  refine nodup_flat List.nodup_range (fun e he => ?_) fun e he e' he' hne x hx hx' => ?_
  · refine nodup_map_inj wk_nodup fun l hl l' hl' h => ?_
    obtain ⟨_, h1, h2⟩ := cy_way hE (List.mem_range.1 he) hl
    obtain ⟨_, h1', h2'⟩ := cy_way hE (List.mem_range.1 he) hl'
    refine wk_same hE hl hl' (by simp [metB]) fun y => ?_
    have hy : y ∈ (e : Int) :: l ↔ y ∈ (e : Int) :: l' := by rw [← h2, ← h2', h]
    constructor
    · intro hm
      rcases List.mem_cons.1 (hy.1 (by simp [hm])) with rfl | h
      · exact absurd hm h1
      · exact h
    · intro hm
      rcases List.mem_cons.1 (hy.2 (by simp [hm])) with rfl | h
      · exact absurd hm h1'
      · exact h
  · obtain ⟨l, hl, rfl⟩ := List.mem_map.1 hx
    obtain ⟨l', hl', h⟩ := List.mem_map.1 hx'
    have C := (cy_way hE (List.mem_range.1 he) hl).1
    have C' := (cy_way hE (List.mem_range.1 he') hl').1
    rw [h] at C'
    have := C.lo _ C'.mem
    have := C'.lo _ C.mem
    omega
end Go.Proofs
/- Plain mathematics: lists by length, then as lists; all cycles out of a basis. -/
set_option linter.unusedVariables false
set_option linter.unusedSimpArgs false
namespace Go.Proofs
open Go.Abs

variable {es : List (Int × Int)} {n : Int}

def lexC : List Int → List Int → Int
  | [], [] => 0
  | [], _ :: _ => -1
  | _ :: _, [] => 1
  | a :: l, b :: m => if a < b then -1 else if b < a then 1 else lexC l m
theorem lexC_neg : ∀ l m, lexC m l = - lexC l m
  | [], [] => rfl
  | [], _ :: _ => rfl
  | _ :: _, [] => rfl
  | a :: l, b :: m => by
    have := lexC_neg l m
    unfold lexC
    by_cases h1 : a < b
    · have : ¬ b < a := by omega
      simp [h1, this]
    · by_cases h2 : b < a
      · simp [h1, h2]
      · simp [h1, h2, this]
theorem lexC_tr : ∀ {l m r}, lexC l m ≤ 0 → lexC m r ≤ 0 → lexC l r ≤ 0
  | [], m, [], _, _ => by decide
  | [], m, _ :: _, _, _ => by unfold lexC; omega
  | a :: l, [], r, h, _ => by unfold lexC at h; omega
  | a :: l, b :: m, [], _, h => by unfold lexC at h; omega
  | a :: l, b :: m, c :: r, h, k => by
    unfold lexC at h k ⊢
    by_cases h1 : a < b
    · by_cases k1 : b < c
      · simp [show a < c by omega]
      · by_cases k2 : c < b
        · simp [k1, k2] at k
        · simp [show a < c by omega]
    · by_cases h2 : b < a
      · simp [h1, h2] at h
      · simp [h1, h2] at h
        by_cases k1 : b < c
        · simp [show a < c by omega]
        · by_cases k2 : c < b
          · simp [k1, k2] at k
          · simp [k1, k2] at k
            simp [show ¬ a < c by omega, show ¬ c < a by omega]
            exact lexC_tr h k
/-- Shorter lists first. -/
def cmpR (a b : List Int) : Int := if a.length < b.length then -1 else if b.length < a.length then 1 else lexC a b
theorem cmpR_neg (a b : List Int) : cmpR b a = - cmpR a b := by
  unfold cmpR
  by_cases h1 : a.length < b.length
  · simp [h1, show ¬ b.length < a.length by omega]
  · by_cases h2 : b.length < a.length
    · simp [h1, h2]
    · simp [h1, h2]; exact lexC_neg a b
theorem cmpR_tr {a b c : List Int} (h : cmpR a b ≤ 0) (k : cmpR b c ≤ 0) : cmpR a c ≤ 0 := by
  unfold cmpR at *
  by_cases h1 : a.length < c.length
  · simp [h1]
  · by_cases h2 : c.length < a.length
    · exfalso
      by_cases g1 : b.length < a.length
      · simp [show ¬ a.length < b.length by omega, g1] at h
      · simp [show ¬ b.length < c.length by omega, show c.length < b.length by omega] at k
    · by_cases g1 : a.length < b.length
      · simp [show ¬ b.length < c.length by omega, show c.length < b.length by omega] at k
      · by_cases g2 : b.length < a.length
        · simp [g1, g2] at h
        · simp [g1, g2] at h
          simp [show ¬ b.length < c.length by omega, show ¬ c.length < b.length by omega] at k
          simp [h1, h2]
          exact lexC_tr h k
theorem cmpR_le {a b : List Int} : ¬ cmpR b a < 0 ↔ cmpR a b ≤ 0 := by rw [cmpR_neg a b]; omega
theorem cmpR_ord : Cmp cmpR := ⟨fun x y z h1 h2 => by rw [cmpR_le] at *; exact cmpR_tr h1 h2, fun x y h => by rw [cmpR_neg x y]; omega⟩
def cS (x y : Nat) : Int := cmpR (bitsL x) (bitsL y)
theorem cS_ord : Cmp cS := ⟨fun x y z h1 h2 => cmpR_ord.tr _ _ _ h1 h2, fun x y h => cmpR_ord.asy _ _ h⟩

theorem bits_isS {s m : Nat} (hm : m ≤ 64) (h : ∀ j, s.testBit j = true → j < m) : IsS (bitsL s) m := by
  rw [bitsL_filt hm h]
  exact asc_isS (filtB_asc _ _) fun x hx => by
    obtain ⟨j, rfl, h1, _⟩ := mem_filtB.1 hx
    omega
theorem setN_bits {s m : Nat} (hm : m ≤ 64) (h : ∀ j, s.testBit j = true → j < m) : setN (bitsL s) = s := by
  have hs := bits_isS hm h
  refine Nat.eq_of_testBit_eq fun j => ?_
  have : bitB (bitsL s) j = true ↔ s.testBit j = true := by
    rw [bitB_mem hs, bitsL_filt hm h, mem_filtB]
    constructor
    · rintro ⟨i, hi, _, h2⟩
      obtain rfl : j = i := by omega
      exact h2
    · intro hj; exact ⟨j, rfl, h j hj, hj⟩
  exact Bool.eq_iff_iff.2 this
theorem xL_lt {os : List Nat} (ho : ∀ o ∈ os, o < 2 ^ 64) : ∀ s ∈ xL os, s < 2 ^ 64 := by
  unfold xL
  have : ∀ (os A : List Nat), (∀ o ∈ os, o < 2 ^ 64) → (∀ s ∈ A, s < 2 ^ 64) → ∀ s ∈ os.foldl (fun A o => A ++ A.map (· ^^^ o)) A, s < 2 ^ 64 := by
    intro os
    induction os with
    | nil => intro A _ h; exact h
    | cons o os ih =>
      intro A ho hA
      refine ih _ (fun x hx => ho x (by simp [hx])) fun s hs => ?_
      rcases List.mem_append.1 hs with hs | hs
      · exact hA s hs
      · obtain ⟨c, hc, rfl⟩ := List.mem_map.1 hs
        exact Nat.xor_lt_two_pow (hA c hc) (ho o (by simp))
  exact this os [0] ho (by simp)
/-- All cycles, as lists, out of a basis. -/
theorem cyc_perm {t : Nat → Bool} {os S : List Nat} (hg : IsG n es) (hm : es.length ≤ 64) (ht : Forest es t) (hB : Bas n es t es.length os) (hS : S.Perm ((xL os).filter fun s => cycB n es (bitsL s))) : (S.map bitsL).Perm (cyRows n es) := by
  have hE := hg.endsIn
  obtain ⟨h1, h2⟩ := xL_all hE ht hB
  have hin : ∀ s ∈ S, (∀ j, s.testBit j = true → j < es.length) ∧ cycB n es (bitsL s) = true := fun s hs => by
    obtain ⟨g1, g2⟩ := List.mem_filter.1 (hS.mem_iff.1 hs)
    exact ⟨((h2 s).1 g1).1, g2⟩
  have hSn : S.Nodup := hS.nodup_iff.2 (h1.filter _)
  refine (List.perm_ext_iff_of_nodup (nodup_map_inj hSn fun a ha b hb hab => ?_) (cyRows_nodup hg)).2 fun x => ?_
  · rw [← setN_bits hm (hin a ha).1, ← setN_bits hm (hin b hb).1, hab]
  · rw [cyRows_mem hg, List.mem_map]
    constructor
    · rintro ⟨s, hs, rfl⟩
      exact ⟨bits_isS hm (hin s hs).1, (hin s hs).2⟩
    · rintro ⟨g1, g2⟩
      have hb : ∀ j, (setN x).testBit j = true → j < es.length := fun j hj => bitB_lt g1 hj
      have e : bitsL (setN x) = x := by rw [bitsL_filt hm hb]; exact g1.filt.symm
      refine ⟨setN x, hS.mem_iff.2 (List.mem_filter.2 ⟨(h2 _).2 ⟨hb, ?_, fun j hj hj' => absurd (hb j hj') (by omega)⟩, by rw [e]; exact g2⟩), e⟩
      have := of_decide_eq_true (Bool.and_eq_true _ _ ▸ g2 : _ ∧ _).1
      exact this
end Go.Proofs
/- Contracts: how many bits a number has, exactly. -/
set_option linter.unusedVariables false
set_option linter.unusedSimpArgs false
set_option maxRecDepth 100000
namespace Go.Proofs
open Go.Abs

variable {H G : AHeap} {K : Value → AHeap → Prop}

noncomputable def lenTab : ByteArray := (ByteArray.mk (List.toArray (List.append (List.append [0, 1, 2, 2, 3, 3, 3, 3, 4, 4, 4, 4, 4, 4, 4, 4, 5, 5, 5, 5, 5, 5, 5, 5, 5, 5, 5, 5, 5, 5, 5, 5, 6, 6, 6, 6, 6, 6, 6, 6, 6, 6, 6, 6, 6, 6, 6, 6, 6, 6, 6, 6, 6, 6, 6, 6, 6, 6, 6, 6, 6, 6, 6, 6] [7, 7, 7, 7, 7, 7, 7, 7, 7, 7, 7, 7, 7, 7, 7, 7, 7, 7, 7, 7, 7, 7, 7, 7, 7, 7, 7, 7, 7, 7, 7, 7, 7, 7, 7, 7, 7, 7, 7, 7, 7, 7, 7, 7, 7, 7, 7, 7, 7, 7, 7, 7, 7, 7, 7, 7, 7, 7, 7, 7, 7, 7, 7, 7]) (List.append [8, 8, 8, 8, 8, 8, 8, 8, 8, 8, 8, 8, 8, 8, 8, 8, 8, 8, 8, 8, 8, 8, 8, 8, 8, 8, 8, 8, 8, 8, 8, 8, 8, 8, 8, 8, 8, 8, 8, 8, 8, 8, 8, 8, 8, 8, 8, 8, 8, 8, 8, 8, 8, 8, 8, 8, 8, 8, 8, 8, 8, 8, 8, 8] [8, 8, 8, 8, 8, 8, 8, 8, 8, 8, 8, 8, 8, 8, 8, 8, 8, 8, 8, 8, 8, 8, 8, 8, 8, 8, 8, 8, 8, 8, 8, 8, 8, 8, 8, 8, 8, 8, 8, 8, 8, 8, 8, 8, 8, 8, 8, 8, 8, 8, 8, 8, 8, 8, 8, 8, 8, 8, 8, 8, 8, 8, 8, 8]))))
noncomputable def tabAt (z : Nat) : Nat := (lenTab.data.toList.getD z 0).toNat
theorem tab_all : ((List.range 256).all fun z => decide (z < 2 ^ tabAt z ∧ (z = 0 ∨ (0 < tabAt z ∧ 2 ^ (tabAt z - 1) ≤ z)) ∧ tabAt z ≤ 8)) = true := by decide +kernel
theorem tab_at {z : Nat} (hz : z < 256) : z < 2 ^ tabAt z ∧ (z = 0 ∨ (0 < tabAt z ∧ 2 ^ (tabAt z - 1) ≤ z)) ∧ tabAt z ≤ 8 := by
  have := List.all_eq_true.1 tab_all z (List.mem_range.2 hz)
  exact of_decide_eq_true this
theorem bitsLen_ok {n : Nat} (hn : n < 16777216) (k : ∀ x : Nat, x ≤ 40 → n < 2 ^ x → (n = 0 ∨ (0 < x ∧ 2 ^ (x - 1) ≤ n)) → K (.int .i64 (x : Nat)) H) : AC Try.prog T0 117 [.int .u64 (n : Nat)] H K := by
  apply F117.ac
  unfold F117.B2 F117.B1
  apply F164.ac
  unfold F164.B11 F164.B10
  have b1 : ∀ z q : Nat, z < 256 → q ≤ 16 → n / 2 ^ q = z → (z = 0 → n = 0) → F164.B1 (fun v1 H2 => asI .i64 v1 fun v3 => K (.int .i64 v3) H2) z q H := by
    intro z q hz hq hd h0
    unfold F164.B1
    have e : IntKind.u8.wrap (z : Int) = z := by simp [IntKind.wrap, IntKind.bits, IntKind.signed]; omega
    rw [e]
    obtain ⟨t1, t2, t3⟩ := tab_at hz
    refine bndK_iff.2 ⟨by omega, ?_, ?_⟩
    · show (z : Int) < ((256 : Nat) : Int)
      omega
    · show asI .i64 (.int .i64 (IntKind.i64.wrap ((q : Int) + IntKind.i64.wrap ((tabAt (Int.toNat (z : Int)) : Nat) : Int)))) _
      rw [Int.toNat_natCast, wrap_id (x := ((tabAt z : Nat) : Int)) (by omega) (by omega), wrap_id (by omega) (by omega)]
      refine asI_mk ?_
      rw [show ((q : Int) + ((tabAt z : Nat) : Int)) = ((q + tabAt z : Nat) : Int) by omega]
      have hq2 := Nat.two_pow_pos q
      have hdm := Nat.div_add_mod n (2 ^ q)
      have hmod := Nat.mod_lt n hq2
      rw [hd] at hdm
      refine k _ (by omega) ?_ ?_
      · rw [Nat.pow_add]
        have : 2 ^ q * (z + 1) ≤ 2 ^ q * 2 ^ tabAt z := Nat.mul_le_mul_left _ t1
        rw [Nat.mul_add, Nat.mul_one] at this
        omega
      · rcases t2 with t2 | ⟨t4, t5⟩
        · exact .inl (h0 t2)
        · refine .inr ⟨by omega, ?_⟩
          rw [show q + tabAt z - 1 = q + (tabAt z - 1) by omega, Nat.pow_add]
          have : 2 ^ q * 2 ^ (tabAt z - 1) ≤ 2 ^ q * z := Nat.mul_le_mul_left _ t5
          omega
  have hdiv : ∀ (x : Nat) (s : Nat), s ≤ 64 → Int.fdiv (x : Int) (2 ^ (min (Int.toNat (s : Int)) 64)) = ((x / 2 ^ s : Nat) : Int) := by
    intro x s hs
    rw [Int.toNat_natCast, Nat.min_eq_left hs, Int.fdiv_eq_ediv_of_nonneg _ (Int.le_of_lt (Int.pow_pos (by decide)))]
    norm_cast
  refine pif_f (decide_eq_false (by omega)) ?_
  unfold F164.B7
  refine pif_cases (fun hb => ?_) fun hb => ?_
  · have hb := of_decide_eq_true hb
    unfold F164.B6 F164.B5
    refine ⟨by decide, ?_⟩
    rw [show (16 : Int) = ((16 : Nat) : Int) from rfl, hdiv n 16 (by decide), wrap_id (by omega) (by omega), Int.zero_add]
    unfold F164.B4
    have hz : n / 2 ^ 16 < 256 := by omega
    refine pif_f (decide_eq_false (by omega)) (b1 _ 16 hz (by omega) rfl fun h => by omega)
  · have hb := of_decide_eq_false hb
    unfold F164.B4
    refine pif_cases (fun hb2 => ?_) fun hb2 => ?_
    · have hb2 := of_decide_eq_true hb2
      unfold F164.B3 F164.B2
      refine ⟨by decide, ?_⟩
      rw [show (8 : Int) = ((8 : Nat) : Int) from rfl, hdiv n 8 (by decide), wrap_id (by omega) (by omega), Int.zero_add]
      exact b1 _ 8 (by omega) (by omega) rfl fun h => by omega
    · have hb2 := of_decide_eq_false hb2
      exact b1 n 0 (by omega) (by omega) (by simp) fun h => h
end Go.Proofs
/- Contracts: sorting by a function that compares (sets): states, insertion sort, heap sort. -/
set_option linter.unusedVariables false
set_option linter.unusedSimpArgs false
set_option maxRecDepth 100000
namespace Go.Proofs
open Go.Abs

variable {B H G G' : AHeap} {b N : Nat} {L S M : List Nat} {R : List Value} {cmp : Value} {c : Nat → Nat → Int} {dom : Nat → Prop} {K : Value → AHeap → Prop}

theorem asTup_k {vs : List Value} {K : List Value → Prop} (h : K vs) : asTup (.tuple ⟨vs⟩) K := h
theorem wr {x : Int} {i : Nat} (h : x = i) (hi : i ≤ 1000000000000) : IntKind.i64.wrap x = (i : Int) := by rw [h]; exact wrap_id (by omega) (by omega)
/-- Comparing is done by a function's value. -/
def CmpV (B : AHeap) (cmp : Value) (c : Nat → Nat → Int) (dom : Nat → Prop) : Prop := ∀ x y : Nat, dom x → dom y → ∀ G, B.le G → ∀ K : Value → AHeap → Prop, (∀ G' r, G.le G' → (r < 0 ↔ c x y < 0) → K (.int .i64 r) G') → callV Try.prog T0 cmp [.int .u64 (x : Nat), .int .u64 (y : Nat)] G K
/-- All blocks but one live on. -/
structure Kb (b : Nat) (H G : AHeap) : Prop where
  len : H.length ≤ G.length
  old : ∀ q o, q ≠ b → H[q]? = some (some o) → G[q]? = some (some o)
theorem Kb.refl : Kb b H H := ⟨Nat.le_refl _, fun _ _ _ h => h⟩
theorem Kb.trans (h : Kb b H G) (k : Kb b G G') : Kb b H G' := ⟨Nat.le_trans h.len k.len, fun q o hq ho => k.old q o hq (h.old q o hq ho)⟩
theorem Kb.of_le (h : H.le G) : Kb b H G := ⟨h.1, fun q o _ ho => h.2 q o ho⟩
theorem _root_.Go.Abs.But.kb (h : But b H G) : Kb b H G := ⟨Nat.le_of_eq h.len.symm, fun q o hq ho => by rw [h.same q hq]; exact ho⟩
theorem Kb.le (h : Kb b H G) (h0 : B.le H) (hb : B.length ≤ b) : B.le G := ⟨Nat.le_trans h0.1 h.len, fun q o ho => h.old q o (by have := lt_of_get ho; omega) (h0.2 q o ho)⟩
structure SE (B : AHeap) (b N : Nat) (cmp : Value) (c : Nat → Nat → Int) (dom : Nat → Prop) : Prop where
  cv : CmpV B cmp c dom
  ord : Cmp c
  hb : B.length ≤ b
  hN : N ≤ 1048576
/-- What is to be sorted stands in the block. -/
structure Sq (R : List Value) (B G : AHeap) (b N : Nat) (dom : Nat → Prop) (L : List Nat) : Prop where
  base : B.le G
  own : Own G b 82 (LU L ++ R)
  dm : ∀ x ∈ L, dom x
  len : L.length = N
abbrev sv (b N : Nat) : Value := .slice (some ⟨b, 0, none⟩) N (N + 1)
theorem Sq.le (s : Sq R B H b N dom L) (h : H.le G) : Sq R B G b N dom L := ⟨AHeap.le_trans s.base h, h.2 _ _ s.own, s.dm, s.len⟩
theorem Sq.at (s : Sq R B G b N dom L) {i : Nat} (hi : i < N) : dom (L.getD i 0) := s.dm _ (by rw [getD_of (by rw [s.len]; exact hi)]; exact List.getElem_mem _)
theorem Sq.rd (s : Sq R B G b N dom L) {i : Nat} (hi : i < N) {x : Int} (hx : x = i) {K : Int → Prop} (k : K ((L.getD i 0 : Nat) : Int)) : idxK (sv b N) x 1 (fun b o => ldI .u64 G b o K) := by
  subst hx
  have hl := s.len
  exact own_idx (by omega) (by omega) (ldI_own s.own (by rw [Int.toNat_natCast, List.getElem?_append_left (by simp; omega)]; exact LU_get (by omega)) k)
theorem Sq.less (E : SE B b N cmp c dom) (s : Sq R B G b N dom L) {i j : Nat} (hi : i < N) (hj : j < N) {x y : Int} (hx : x = i) (hy : y = j) {K : Int → AHeap → Prop} (k : ∀ G' r, G.le G' → Sq R B G' b N dom L → (r < 0 ↔ c (L.getD i 0) (L.getD j 0) < 0) → K r G') :
    idxK (sv b N) x 1 (fun b1 o2 => ldI .u64 G b1 o2 fun v3 => idxK (sv b N) y 1 (fun b4 o5 => ldI .u64 G b4 o5 fun v6 => callV Try.prog T0 cmp [.int .u64 v3, .int .u64 v6] G (fun v7 H8 => asI .i64 v7 fun v9 => K v9 H8))) :=
  s.rd hi hx (s.rd hj hy (E.cv _ _ (s.at hi) (s.at hj) G s.base _ fun G' r hG hr => asI_mk (k G' r hG (s.le hG) hr)))
theorem Sq.swap (E : SE B b N cmp c dom) (s : Sq R B G b N dom L) {i j : Nat} (hi : i < N) (hj : j < N) {x y : Int} (hx : x = i) (hy : y = j) {K : AHeap → Prop} (k : ∀ G', Kb b G G' → Sq R B G' b N dom (swp 0 L i j) → K G') :
    idxK (sv b N) y 1 (fun b1 o2 => ldI .u64 G b1 o2 fun v3 => idxK (sv b N) x 1 (fun b4 o5 => ldI .u64 G b4 o5 fun v6 => idxK (sv b N) x 1 (fun b7 o8 => stK G b7 o8 [.int .u64 v3] fun H9 => idxK (sv b N) y 1 (fun b10 o11 => stK H9 b10 o11 [.int .u64 v6] K)))) := by
  have hl := s.len
  have hi' := s.at hi
  have hj' := s.at hj
  refine s.rd hj hy (s.rd hi hx ?_)
  subst hx hy
  refine own_idx (by omega) (by omega) (stK_1 s.own (by simp; omega) rfl fun G1 b1 o1 => own_idx (by omega) (by omega) (stK_1 o1 (by simp; omega) rfl fun G2 b2 o2 => ?_))
  have e : LU (swp 0 L i j) = ((LU L).set i (.int .u64 ((L.getD j 0 : Nat) : Int))).set j (.int .u64 ((L.getD i 0 : Nat) : Int)) := by
    unfold swp LU; rw [List.map_set, List.map_set]
  rw [Int.toNat_natCast, Int.toNat_natCast, List.set_append_left _ _ (by simp; omega), List.set_append_left _ _ (by simp; omega), ← e] at o2
  have kb : Kb b G G2 := b1.kb.trans b2.kb
  refine k G2 kb ⟨kb.le s.base E.hb, o2, fun x hx => ?_, by rw [swp_len, hl]⟩
  have hp := (swp_seg (d := 0) (L := L) (a := 0) (b := N) (i := i) (j := j) (by omega) hi (by omega) hj (by omega)).perm
  exact s.dm x (hp.mem_iff.1 hx)
/-- Two places' items are exchanged. -/
abbrev swK (b N : Nat) (x y : Int) (G : AHeap) (K : AHeap → Prop) : Prop :=
  idxK (sv b N) y 1 (fun b1 o2 => ldI .u64 G b1 o2 fun v3 => idxK (sv b N) x 1 (fun b4 o5 => ldI .u64 G b4 o5 fun v6 => idxK (sv b N) x 1 (fun b7 o8 => stK G b7 o8 [.int .u64 v3] fun H9 => idxK (sv b N) y 1 (fun b10 o11 => stK H9 b10 o11 [.int .u64 v6] K))))
theorem insC_ok (E : SE B b N cmp c dom) (h : Sq R B H b N dom L) {a e : Nat} (ha : a ≤ e) (he : e ≤ N) (k : ∀ G S, Kb b H G → Sq R B G b N dom S → Seg a e L S → SortedIn 0 c a e S → K (.tuple ⟨[]⟩) G) :
    AC Try.prog T0 191 [sv b N, .int .i64 a, .int .i64 e, cmp] H K := by
  have hN := E.hN
  have hLN := h.len
  apply F191.ac
  unfold F191.B9 F191.L1
  refine ⟨fun x0 x1 x2 x3 x8 G => sv b N = x0 ∧ (a : Int) = x1 ∧ (e : Int) = x2 ∧ cmp = x3 ∧ Kb b H G ∧ ∃ (i : Nat) (S : List Nat), x8 = i ∧ a + 1 ≤ i ∧ (i ≤ e ∨ i = a + 1) ∧ Sq R B G b N dom S ∧ Seg a e L S ∧ SortedIn 0 c a i S,
    fun _ _ _ _ x8 _ => e - x8.toNat, ⟨rfl, rfl, rfl, rfl, .refl, a + 1, L, by rw [wr (i := a + 1) (by omega) (by omega)], Nat.le_refl _, .inr rfl, h, .refl, fun i j h1 h2 h3 => by omega⟩, ?_⟩
  rintro x0 x1 x2 x3 x8 G ⟨rfl, rfl, rfl, rfl, bG, i, S, rfl, h1i, hi, sS, gS, hS⟩
  unfold F191.B8
  refine pif_cases (fun hb => ?_) fun hb => ?_
  · have hil : i < e := by have := of_decide_eq_true hb; omega
    unfold F191.B7 F191.L3
    refine ⟨fun x0 x1 x2 x3 x8 x9 G => sv b N = x0 ∧ (a : Int) = x1 ∧ (e : Int) = x2 ∧ cmp = x3 ∧ (i : Int) = x8 ∧ Kb b H G ∧ ∃ (j : Nat) (S : List Nat), x9 = j ∧ a ≤ j ∧ j ≤ i ∧ Sq R B G b N dom S ∧ Seg a e L S ∧ SortedTo 0 c S a i j,
      fun _ _ _ _ _ x9 _ => x9.toNat, ⟨rfl, rfl, rfl, rfl, rfl, bG, i, S, rfl, by omega, Nat.le_refl _, sS, gS, hS.to⟩, ?_⟩
    clear sS gS hS bG
    rintro x0 x1 x2 x3 x8 x9 G ⟨rfl, rfl, rfl, rfl, rfl, bG, j, S, rfl, haj, hj, sS, gS, hS⟩
    have hSl := sS.len
    have next : ∀ (N1 : Value → Int → Int → Value → Int → AHeap → Prop) G, Kb b H G → Sq R B G b N dom S → (∀ G S, Kb b H G → Sq R B G b N dom S → Seg a e L S → SortedIn 0 c a (i + 1) S → N1 (sv b N) a e cmp ((i : Int) + 1) G) → (j ≤ a ∨ LeC c (S.getD (j - 1) 0) (S.getD j 0)) → F191.B2 K N1 (sv b N) a e cmp i G := by
      intro N1 G bG sS hN hst
      unfold F191.B2
      rw [wrap_id (by omega) (by omega)]
      exact hN G S bG sS gS (hS.stop E.ord hst)
    have fin : ∀ G S, Kb b H G → Sq R B G b N dom S → Seg a e L S → SortedIn 0 c a (i + 1) S → (sv b N = sv b N ∧ (a : Int) = a ∧ (e : Int) = e ∧ cmp = cmp ∧ Kb b H G ∧ ∃ (i' : Nat) (S : List Nat), ((i : Int) + 1) = i' ∧ a + 1 ≤ i' ∧ (i' ≤ e ∨ i' = a + 1) ∧ Sq R B G b N dom S ∧ Seg a e L S ∧ SortedIn 0 c a i' S) ∧ e - ((i : Int) + 1).toNat < e - (i : Int).toNat :=
      fun G S h1 h2 h3 h4 => ⟨⟨rfl, rfl, rfl, rfl, h1, i + 1, S, by omega, by omega, by omega, h2, h3, h4⟩, by omega⟩
    unfold F191.B6
    refine pif_cases (fun hb => ?_) fun hb => ?_
    · have hj0 : a < j := by have := of_decide_eq_true hb; omega
      refine sS.less E (i := j) (j := j - 1) (by omega) (by omega) rfl (wr (by omega) (by omega)) fun G1 r l1 s1 hr => pif_cases (fun hq => ?_) fun hq => ?_
      · have hlt := hr.1 (of_decide_eq_true hq)
        unfold F191.B5
        refine s1.swap E (i := j) (j := j - 1) (by omega) (by omega) rfl (wr (by omega) (by omega)) fun G2 k2 s2 => ?_
        unfold F191.B4
        have hsg := gS.trans (swp_seg (d := 0) (L := S) (a := a) (b := e) (i := j) (j := j - 1) (by omega) (by omega) (by omega) (by omega) (by omega))
        have hst := hS.step E.ord hj0 (by omega) hj hlt
        rw [wr (i := j - 1) (by omega) (by omega)]
        refine ⟨⟨rfl, rfl, rfl, rfl, rfl, bG.trans ((Kb.of_le l1).trans k2), j - 1, _, rfl, by omega, by omega, s2, hsg, hst⟩, ?_⟩
        show ((j - 1 : Nat) : Int).toNat < ((j : Nat) : Int).toNat
        omega
      · exact next _ G1 (bG.trans (Kb.of_le l1)) s1 fin (.inr fun hlt => of_decide_eq_false hq (hr.2 hlt))
    · exact next _ G bG sS fin (.inl (by have := of_decide_eq_false hb; omega))
  · have hil : e ≤ i := by have := of_decide_eq_false hb; omega
    exact k G S bG sS gS fun p q h1 h2 h3 => hS p q h1 h2 (by omega)

theorem sift_ok (E : SE B b N cmp c dom) (h : Sq R B H b N dom L) {lo hi f : Nat} (hf : f + hi ≤ N) (hh : HeapIn 0 c L f (lo + 1) hi) (hlo : lo ≤ N) (k : ∀ G S, Kb b H G → Sq R B G b N dom S → Seg f (f + hi) L S → HeapIn 0 c S f lo hi → K (.tuple ⟨[]⟩) G) :
    AC Try.prog T0 209 [sv b N, .int .i64 lo, .int .i64 hi, .int .i64 f, cmp] H K := by
  have hN := E.hN
  apply F209.ac
  unfold F209.B9 F209.L1
  refine ⟨fun x0 x2 x3 x4 x10 G => sv b N = x0 ∧ (hi : Int) = x2 ∧ (f : Int) = x3 ∧ cmp = x4 ∧ Kb b H G ∧ ∃ (r : Nat) (S : List Nat), x10 = r ∧ lo ≤ r ∧ r ≤ N ∧ Sq R B G b N dom S ∧ Seg f (f + hi) L S ∧ Sift 0 c S f lo hi r,
    fun _ _ _ _ x10 _ => N + 1 - x10.toNat, ⟨rfl, rfl, rfl, rfl, .refl, lo, L, rfl, Nat.le_refl _, hlo, h, .refl, hh.sift⟩, ?_⟩
  rintro x0 x2 x3 x4 x10 G ⟨rfl, rfl, rfl, rfl, bG, r, S, rfl, hlr, hrN, sS, gS, hS⟩
  have hSl := sS.len
  unfold F209.B8
  rw [wr (x := 2 * (r : Int)) (i := 2 * r) (by omega) (by omega), wr (i := 2 * r + 1) (by omega) (by omega)]
  unfold F209.B7
  refine pif_cases (fun hb => ?_) fun hb => ?_
  · have hge := of_decide_eq_true hb
    exact k G S bG sS gS (hS.stop fun q h1 h2 h3 => by omega)
  have hlt := of_decide_eq_false hb
  have body : ∀ G1 ch, Kb b H G1 → Sq R B G1 b N dom S → (ch = 2 * r + 1 ∨ ch = 2 * r + 2) → ch < hi → (∀ q, 1 ≤ q → q < hi → (q - 1) / 2 = r → LeC c (S.getD (f + q) 0) (S.getD (f + ch) 0)) →
      F209.B4 K (fun x0 x2 x3 x4 x10 G' => (sv b N = x0 ∧ (hi : Int) = x2 ∧ (f : Int) = x3 ∧ cmp = x4 ∧ Kb b H G' ∧ ∃ (r : Nat) (S : List Nat), x10 = r ∧ lo ≤ r ∧ r ≤ N ∧ Sq R B G' b N dom S ∧ Seg f (f + hi) L S ∧ Sift 0 c S f lo hi r) ∧ N + 1 - x10.toNat < N + 1 - (r : Int).toNat) (sv b N) hi f cmp r ch G1 := by
    intro G1 ch kG1 s1 hch hchi hmax
    unfold F209.B4
    refine s1.less E (i := f + r) (j := f + ch) (by omega) (by omega) (wr (by omega) (by omega)) (wr (by omega) (by omega)) fun G2 q l2 s2 hq => pif_cases (fun hb => ?_) fun hb => ?_
    · have hn : ¬ c (S.getD (f + r) 0) (S.getD (f + ch) 0) < 0 := fun hc => by rw [decide_eq_true (hq.2 hc)] at hb; cases hb
      exact k G2 S (kG1.trans (Kb.of_le l2)) s2 gS (hS.stop fun q h1 h2 h3 => E.ord.tr _ _ _ (hmax q h1 h2 h3) hn)
    · have hc : c (S.getD (f + r) 0) (S.getD (f + ch) 0) < 0 := hq.1 (by simpa using hb)
      unfold F209.B3
      refine s2.swap E (i := f + r) (j := f + ch) (by omega) (by omega) (wr (by omega) (by omega)) (wr (by omega) (by omega)) fun G3 k3 s3 => ?_
      unfold F209.B2
      refine ⟨⟨rfl, rfl, rfl, rfl, kG1.trans ((Kb.of_le l2).trans k3), ch, _, rfl, by omega, by omega, s3, gS.trans (swp_seg (by omega) (by omega) (by omega) (by omega) (by omega)), hS.step E.ord (by omega) hlr (by omega) hchi (by omega) hc hmax⟩, ?_⟩
      show N + 1 - ((ch : Nat) : Int).toNat < N + 1 - ((r : Nat) : Int).toNat
      omega
  unfold F209.B6
  rw [wr (i := 2 * r + 2) (by omega) (by omega)]
  refine pif_cases (fun hb => ?_) fun hb => ?_
  · have h2 := of_decide_eq_true hb
    refine sS.less E (i := f + (2 * r + 1)) (j := f + (2 * r + 2)) (by omega) (by omega) (wr (by omega) (by omega)) (by rw [wr (x := (f : Int) + ((2 * r + 1 : Nat) : Int)) (i := f + (2 * r + 1)) (by omega) (by omega)]; exact wr (by omega) (by omega)) fun G1 q l1 s1 hq => pif_cases (fun hb => ?_) fun hb => ?_
    · have hc := hq.1 (of_decide_eq_true hb)
      unfold F209.B5
      rw [wr (i := 2 * r + 2) (by omega) (by omega)]
      refine body G1 (2 * r + 2) (bG.trans (Kb.of_le l1)) s1 (.inr rfl) (by omega) fun q h1 h2 h3 => ?_
      rcases (by omega : q = 2 * r + 1 ∨ q = 2 * r + 2) with rfl | rfl
      · exact E.ord.lt hc
      · exact E.ord.rfl _
    · have hn : ¬ c (S.getD (f + (2 * r + 1)) 0) (S.getD (f + (2 * r + 2)) 0) < 0 := fun hc => of_decide_eq_false hb (hq.2 hc)
      refine body G1 (2 * r + 1) (bG.trans (Kb.of_le l1)) s1 (.inl rfl) (by omega) fun q h1 h2 h3 => ?_
      rcases (by omega : q = 2 * r + 1 ∨ q = 2 * r + 2) with rfl | rfl
      · exact E.ord.rfl _
      · exact hn
  · have h2 := of_decide_eq_false hb
    refine body G (2 * r + 1) bG sS (.inl rfl) (by omega) fun q h1 h2 h3 => ?_
    obtain rfl : q = 2 * r + 1 := by omega
    exact E.ord.rfl _

theorem heapC_ok (E : SE B b N cmp c dom) (h : Sq R B H b N dom L) {a e : Nat} (ha : a ≤ e) (he : e ≤ N) (k : ∀ G S, Kb b H G → Sq R B G b N dom S → Seg a e L S → SortedIn 0 c a e S → K (.tuple ⟨[]⟩) G) :
    AC Try.prog T0 192 [sv b N, .int .i64 a, .int .i64 e, cmp] H K := by
  have hN := E.hN
  obtain ⟨n, hn⟩ : ∃ n, n = e - a := ⟨_, rfl⟩
  apply F192.ac
  unfold F192.B14 F192.B13 F192.B12
  rw [wr (i := n) (by omega) (by omega)]
  unfold F192.B11
  have hdiv : Int.tdiv ((n : Int) - 1) 2 = (if n = 0 then 0 else (((n - 1) / 2 : Nat) : Int)) := by
    by_cases h0 : n = 0
    · subst h0; rfl
    · rw [if_neg h0, Int.tdiv_eq_ediv_of_nonneg (by omega)]; omega
  obtain ⟨m0, hm0⟩ : ∃ m0 : Nat, m0 = (if n = 0 then 0 else (n - 1) / 2) := ⟨_, rfl⟩
  have hst : IntKind.i64.wrap (Int.tdiv (IntKind.i64.wrap ((n : Int) - 1)) 2) = ((m0 + 1 : Nat) : Int) - 1 := by
    rw [wrap_id (x := (n : Int) - 1) (by omega) (by omega), hdiv, hm0]
    by_cases h0 : n = 0
    · rw [if_pos h0, if_pos h0, wrap_id (by omega) (by omega)]; omega
    · rw [if_neg h0, if_neg h0, wrap_id (by omega) (by omega)]; omega
  rw [hst]
  have hm0n : n ≤ 2 * m0 + 2 := by rw [hm0]; split <;> omega
  have hm0N : m0 ≤ n := by rw [hm0]; split <;> omega
  unfold F192.L7
  refine ⟨fun x0 x3 x8 x9 x10 x11 G => sv b N = x0 ∧ cmp = x3 ∧ (a : Int) = x8 ∧ (0 : Int) = x9 ∧ (n : Int) = x10 ∧ Kb b H G ∧ ∃ (q : Nat) (S : List Nat), x11 = (q : Int) - 1 ∧ q ≤ m0 + 1 ∧ Sq R B G b N dom S ∧ Seg a (a + n) L S ∧ HeapIn 0 c S a q n,
    fun _ _ _ _ _ x11 _ => (x11 + 1).toNat, ⟨rfl, rfl, rfl, rfl, rfl, .refl, m0 + 1, L, rfl, Nat.le_refl _, h, .refl, fun q h1 h2 h3 => by omega⟩, ?_⟩
  rintro x0 x3 x8 x9 x10 x11 G ⟨rfl, rfl, rfl, rfl, rfl, bG, q, S, rfl, hq, sS, gS, hS⟩
  unfold F192.B10
  refine pif_cases (fun hb => ?_) fun hb => ?_
  · have hq1 : 1 ≤ q := by have := of_decide_eq_true hb; omega
    unfold F192.B9
    rw [show (q : Int) - 1 = ((q - 1 : Nat) : Int) by omega]
    refine sift_ok E sS (by omega) (by rw [show q - 1 + 1 = q by omega]; exact hS) (by omega) fun G2 S2 k2 s2 g2 h2 => asTup_k ?_
    unfold F192.B8
    rw [wrap_id (by omega) (by omega)]
    refine ⟨⟨rfl, rfl, rfl, rfl, rfl, bG.trans k2, q - 1, S2, rfl, by omega, s2, gS.trans g2, h2⟩, ?_⟩
    show (((q - 1 : Nat) : Int) - 1 + 1).toNat < (((q - 1 : Nat) : Int) + 1).toNat
    omega
  have hq0 : q = 0 := by have := of_decide_eq_false hb; omega
  subst hq0
  unfold F192.B6
  rw [wrap_id (by omega) (by omega)]
  unfold F192.L1
  refine ⟨fun x0 x3 x8 x9 x12 G => sv b N = x0 ∧ cmp = x3 ∧ (a : Int) = x8 ∧ (0 : Int) = x9 ∧ Kb b H G ∧ ∃ (q : Nat) (S : List Nat), x12 = (q : Int) - 1 ∧ q ≤ n ∧ Sq R B G b N dom S ∧ Seg a (a + n) L S ∧ HeapIn 0 c S a 0 q ∧ ∀ i j, i < j → j < n → q ≤ j → LeC c (S.getD (a + i) 0) (S.getD (a + j) 0),
    fun _ _ _ _ x12 _ => (x12 + 1).toNat, ⟨rfl, rfl, rfl, rfl, bG, n, S, rfl, Nat.le_refl _, sS, gS, hS, fun i j h1 h2 h3 => by omega⟩, ?_⟩
  clear sS gS hS bG hb
  rintro x0 x3 x8 x9 x12 G ⟨rfl, rfl, rfl, rfl, bG, q, S, rfl, hq, sS, gS, hS, hT⟩
  have hSl := sS.len
  unfold F192.B5
  refine pif_cases (fun hb => ?_) fun hb => ?_
  · have hq1 : 1 ≤ q := by have := of_decide_eq_true hb; omega
    unfold F192.B4
    refine sS.swap E (i := a) (j := a + (q - 1)) (by omega) (by omega) rfl (wr (by omega) (by omega)) fun G2 k2 s2 => ?_
    obtain ⟨p1, p2⟩ := heap_pop (d := 0) (f := a) (i := q - 1) (n := n) E.ord (by omega) (by omega) (by rw [show q - 1 + 1 = q by omega]; exact hS) (fun i j h1 h2 h3 => hT i j h1 h2 (by omega))
    have g2 := gS.trans (swp_seg (d := 0) (L := S) (a := a) (b := a + n) (i := a) (j := a + (q - 1)) (by omega) (by omega) (by omega) (by omega) (by omega))
    unfold F192.B3
    rw [show (q : Int) - 1 = ((q - 1 : Nat) : Int) by omega]
    refine sift_ok (lo := 0) E s2 (by omega) p1 (by omega) fun G3 S3 k3 s3 g3 h3 => asTup_k ?_
    unfold F192.B2
    rw [wrap_id (by omega) (by omega)]
    refine ⟨⟨rfl, rfl, rfl, rfl, bG.trans (k2.trans k3), q - 1, S3, rfl, by omega, s3, g2.trans (g3.mono (by omega) (by omega)), h3, fun i j h1 h2 h4 => ?_⟩, ?_⟩
    · rw [g3.outD (i := a + j) (.inr (by omega))]
      by_cases hi : i < q - 1
      · have := g3.all (d := 0) (Q := fun x => LeC c x ((swp 0 S a (a + (q - 1))).getD (a + j) 0)) (by rw [swp_len]; omega) (fun m hm1 hm2 => by
          have := p2 (m - a) j (by omega) h2 h4
          rw [show a + (m - a) = m by omega] at this; exact this) (a + i) (by omega) (by omega)
        exact this
      · rw [g3.outD (i := a + i) (.inr (by omega))]
        exact p2 i j h1 h2 h4
    · show (((q - 1 : Nat) : Int) - 1 + 1).toNat < (((q - 1 : Nat) : Int) + 1).toNat
      omega
  · have hq0 : q = 0 := by have := of_decide_eq_false hb; omega
    subst hq0
    rw [show a + n = e by omega] at gS
    refine k G S bG sS gS fun i j h1 h2 h3 => ?_
    have := hT (i - a) (j - a) (by omega) (by omega) (by omega)
    rw [show a + (i - a) = i by omega, show a + (j - a) = j by omega] at this
    exact this
end Go.Proofs
/- Contracts: sorting by a function that compares (sets): the parts of quicksort. -/
set_option linter.unusedVariables false
set_option linter.unusedSimpArgs false
set_option maxRecDepth 100000
namespace Go.Proofs
open Go.Abs

variable {B H G G' : AHeap} {b N : Nat} {L S M : List Nat} {R : List Value} {cmp : Value} {c : Nat → Nat → Int} {dom : Nat → Prop} {K : Value → AHeap → Prop}

theorem nilP_mk {b o : Nat} {K : Value → Prop} (h : K (.pointer (some ⟨b, o, none⟩))) : nilK (.pointer (some ⟨b, o, none⟩)) K := h
theorem w64id {p : Nat} (h : p < 18446744073709551616) : IntKind.u64.wrap (p : Int) = (p : Int) := by simp [IntKind.wrap, IntKind.bits, IntKind.signed]; omega
theorem revC_ok (E : SE B b N cmp c dom) (h : Sq R B H b N dom L) {a e : Nat} (ha : a < e) (he : e ≤ N) (k : ∀ G S, Kb b H G → Sq R B G b N dom S → Seg a e L S → K (.tuple ⟨[]⟩) G) :
    AC Try.prog T0 195 [sv b N, .int .i64 a, .int .i64 e, cmp] H K := by
  have hN := E.hN
  apply F195.ac
  unfold F195.B7 F195.B6
  rw [wr (i := e - 1) (by omega) (by omega)]
  unfold F195.L1
  refine ⟨fun x0 x8 x9 G => sv b N = x0 ∧ Kb b H G ∧ ∃ (i j : Nat) (S : List Nat), x8 = i ∧ x9 = j ∧ a ≤ i ∧ j < e ∧ Sq R B G b N dom S ∧ Seg a e L S,
    fun _ x8 x9 _ => x9.toNat + 1 - x8.toNat, ⟨rfl, .refl, a, e - 1, L, rfl, rfl, Nat.le_refl _, by omega, h, .refl⟩, ?_⟩
  rintro x0 x8 x9 G ⟨rfl, bG, i, j, S, rfl, rfl, hi, hj, sS, gS⟩
  have hSl := sS.len
  unfold F195.B5
  refine pif_cases (fun hb => ?_) fun hb => ?_
  · have hij : i < j := by have := of_decide_eq_true hb; omega
    unfold F195.B4
    refine sS.swap E (i := i) (j := j) (by omega) (by omega) rfl rfl fun G2 k2 s2 => ?_
    unfold F195.B3 F195.B2
    rw [wr (i := i + 1) (by omega) (by omega), wr (i := j - 1) (by omega) (by omega)]
    refine ⟨⟨rfl, bG.trans k2, i + 1, j - 1, _, rfl, rfl, by omega, by omega, s2, gS.trans (swp_seg (by omega) (by omega) (by omega) (by omega) (by omega))⟩, ?_⟩
    show ((j - 1 : Nat) : Int).toNat + 1 - ((i + 1 : Nat) : Int).toNat < ((j : Nat) : Int).toNat + 1 - ((i : Nat) : Int).toNat
    omega
  · exact k G S bG sS gS

theorem order2_ok (E : SE B b N cmp c dom) (h : Sq R B H b N dom L) {x y sb : Nat} {q : Int} (hx : x < N) (hy : y < N) (ho : Own H sb 3 [.int .i64 q]) (hsb : B.length ≤ sb) (hne : sb ≠ b)
    (k : ∀ G x' y' q', Kb sb H G → Sq R B G b N dom L → Own G sb 3 [.int .i64 q'] → (x' = x ∧ y' = y ∨ x' = y ∧ y' = x) → K (.tuple ⟨[.int .i64 (x' : Nat), .int .i64 (y' : Nat)]⟩) G) :
    AC Try.prog T0 217 [sv b N, .int .i64 x, .int .i64 y, .pointer (some ⟨sb, 0, none⟩), cmp] H K := by
  apply F217.ac
  unfold F217.B5 F217.B4
  refine h.less E hy hx rfl rfl fun G1 r l1 s1 hr => pif_cases (fun hb => ?_) fun hb => ?_
  · unfold F217.B3
    have o1 := ho.le l1
    refine nilP_mk (asP_mk (ldI_own o1 rfl (nilP_mk (asP_mk (stK_1 o1 (by simp) rfl fun G2 b2 o2 => ?_)))))
    unfold F217.B2
    have o2 : Own G2 sb 3 [.int .i64 (IntKind.i64.wrap (q + 1))] := by simpa using o2
    refine k G2 y x _ ((Kb.of_le l1).trans b2.kb) ⟨b2.kb.le s1.base hsb, b2.own s1.own (by omega), s1.dm, s1.len⟩ o2 (.inr ⟨rfl, rfl⟩)
  · unfold F217.B1
    exact k G1 x y q (Kb.of_le l1) s1 (ho.le l1) (.inl ⟨rfl, rfl⟩)
theorem median_ok (E : SE B b N cmp c dom) (h : Sq R B H b N dom L) {x y z sb : Nat} {q : Int} (hx : x < N) (hy : y < N) (hz : z < N) (ho : Own H sb 3 [.int .i64 q]) (hsb : B.length ≤ sb) (hne : sb ≠ b)
    (k : ∀ G w q', Kb sb H G → Sq R B G b N dom L → Own G sb 3 [.int .i64 q'] → (w = x ∨ w = y ∨ w = z) → K (.int .i64 (w : Nat)) G) :
    AC Try.prog T0 211 [sv b N, .int .i64 x, .int .i64 y, .int .i64 z, .pointer (some ⟨sb, 0, none⟩), cmp] H K := by
  apply F211.ac
  unfold F211.B5 F211.B4
  refine order2_ok E h hx hy ho hsb hne fun G1 x1 y1 q1 k1 s1 o1 h1 => tup2_mk (asI_mk (asI_mk ?_))
  unfold F211.B3
  refine order2_ok E s1 (by omega) hz o1 hsb hne fun G2 x2 y2 q2 k2 s2 o2 h2 => tup2_mk (asI_mk (asI_mk ?_))
  unfold F211.B2
  refine order2_ok E s2 (by omega) (by omega) o2 hsb hne fun G3 x3 y3 q3 k3 s3 o3 h3 => tup2_mk (asI_mk (asI_mk ?_))
  unfold F211.B1
  exact k G3 y3 q3 (k1.trans (k2.trans k3)) s3 o3 (by omega)
theorem medianAdj_ok (E : SE B b N cmp c dom) (h : Sq R B H b N dom L) {x sb : Nat} {q : Int} (h0 : 1 ≤ x) (hx : x + 1 < N) (ho : Own H sb 3 [.int .i64 q]) (hsb : B.length ≤ sb) (hne : sb ≠ b)
    (k : ∀ G w q', Kb sb H G → Sq R B G b N dom L → Own G sb 3 [.int .i64 q'] → (x - 1 ≤ w ∧ w ≤ x + 1) → K (.int .i64 (w : Nat)) G) :
    AC Try.prog T0 210 [sv b N, .int .i64 x, .pointer (some ⟨sb, 0, none⟩), cmp] H K := by
  have hN := E.hN
  apply F210.ac
  unfold F210.B2 F210.B1
  rw [wr (x := (x : Int) - 1) (i := x - 1) (by omega) (by omega), wr (x := (x : Int) + 1) (i := x + 1) (by omega) (by omega)]
  refine median_ok E h (by omega) (by omega) (by omega) ho hsb hne fun G w q' k1 s1 o1 h1 => asI_mk (k G w q' k1 s1 o1 (by omega))

theorem pivotC_ok (E : SE B b N cmp c dom) (h : Sq R B H b N dom L) {a e : Nat} (ha : a + 12 < e) (he : e ≤ N) (k : ∀ G p (q : Int), H.le G → a ≤ p → p < e → K (.tuple ⟨[.int .i64 (p : Nat), .int .i64 q]⟩) G) :
    AC Try.prog T0 194 [sv b N, .int .i64 a, .int .i64 e, cmp] H K := by
  have hN := E.hN
  have hbl := h.own.lt
  have hbase := h.base.1
  apply F194.ac
  unfold F194.B18 F194.B17
  obtain ⟨n, hn⟩ : ∃ n, n = e - a := ⟨_, rfl⟩
  rw [wr (i := n) (by omega) (by omega)]
  unfold F194.B16
  refine newK_f rfl fun H1 l1 n1 o1 => ?_
  obtain ⟨sb, hsb⟩ : ∃ sb, sb = H.length := ⟨_, rfl⟩
  rw [← hsb] at o1 ⊢
  have s1 := h.le l1
  obtain ⟨t, ht⟩ : ∃ t, t = n / 4 := ⟨_, rfl⟩
  have htd : Int.tdiv (n : Int) 4 = (t : Int) := by rw [Int.tdiv_eq_ediv_of_nonneg (by omega)]; omega
  have w0 : IntKind.i64.wrap (Int.tdiv (n : Int) 4) = (t : Int) := by rw [htd]; exact wr rfl (by omega)
  unfold F194.B15
  rw [w0, wr (x := (t : Int) * 1) (i := t) (by omega) (by omega), wr (x := (a : Int) + (t : Int)) (i := a + t) (by omega) (by omega)]
  unfold F194.B14
  rw [w0, wr (x := (t : Int) * 2) (i := t * 2) (by omega) (by omega), wr (x := (a : Int) + ((t * 2 : Nat) : Int)) (i := a + t * 2) (by omega) (by omega)]
  unfold F194.B13
  rw [w0, wr (x := (t : Int) * 3) (i := t * 3) (by omega) (by omega), wr (x := (a : Int) + ((t * 3 : Nat) : Int)) (i := a + t * 3) (by omega) (by omega)]
  have fin : ∀ G (p : Nat) (q : Int), Kb sb H1 G → Own G sb 3 [.int .i64 q] → a ≤ p → p < e → F194.B6 K sb p G := by
    intro G p q kG oG h1 h2
    have lG : H.le G := kG.le l1 (by omega)
    unfold F194.B6
    refine ldI_own oG rfl ?_
    unfold F194.B5
    refine pif_cases (fun hb => ?_) fun hb => ?_
    · unfold F194.B1
      exact k G p 1 lG h1 h2
    · unfold F194.B4
      refine pif_cases (fun hb => ?_) fun hb => ?_
      · unfold F194.B2
        exact k G p 2 lG h1 h2
      · unfold F194.B3
        exact k G p 0 lG h1 h2
  have med : ∀ G (x y z : Nat) (q : Int), Kb sb H1 G → Sq R B G b N dom L → Own G sb 3 [.int .i64 q] → (a ≤ x ∧ x < e) → (a ≤ y ∧ y < e) → (a ≤ z ∧ z < e) → F194.B7 K (sv b N) cmp sb x y z G := by
    intro G x y z q kG sG oG hx hy hz
    unfold F194.B7
    refine median_ok E sG (by omega) (by omega) (by omega) oG (by omega) (by omega) fun G2 w q' k2 s2 o2 hw => asI_mk (fin G2 w q' (kG.trans k2) o2 (by omega) (by omega))
  unfold F194.B12
  refine pif_t (decide_eq_true (by omega)) ?_
  unfold F194.B11
  refine pif_cases (fun hb => ?_) fun hb => ?_
  · have h50 := of_decide_eq_true hb
    unfold F194.B10
    refine medianAdj_ok E s1 (by omega) (by omega) o1 (by omega) (by omega) fun G2 x2 q2 k2 s2 o2 h2 => asI_mk ?_
    unfold F194.B9
    refine medianAdj_ok E s2 (by omega) (by omega) o2 (by omega) (by omega) fun G3 x3 q3 k3 s3 o3 h3 => asI_mk ?_
    unfold F194.B8
    refine medianAdj_ok E s3 (by omega) (by omega) o3 (by omega) (by omega) fun G4 x4 q4 k4 s4 o4 h4 => asI_mk ?_
    exact med G4 x2 x3 x4 q4 (k2.trans (k3.trans k4)) s4 o4 (by omega) (by omega) (by omega)
  · exact med H1 _ _ _ 0 .refl s1 o1 (by omega) (by omega) (by omega)

theorem xorNext_ok {sb : Nat} {t : TypeId} {q : Int} (ho : Own H sb t [.int .u64 q]) (k : ∀ G q', But sb H G → Own G sb t [.int .u64 q'] → 0 ≤ q' → q' < 18446744073709551616 → K (.int .u64 q') G) :
    AC Try.prog T0 185 [.pointer (some ⟨sb, 0, none⟩)] H K := by
  have w64 : ∀ z : Int, 0 ≤ IntKind.u64.wrap z ∧ IntKind.u64.wrap z < 18446744073709551616 := fun z => by simp [IntKind.wrap, IntKind.bits, IntKind.signed]; omega
  apply F185.ac
  unfold F185.B5 F185.B4
  refine nilP_mk (asP_mk (ldI_own ho rfl (nilP_mk (asP_mk (ldI_own ho rfl ⟨by decide, nilP_mk (asP_mk (stK_1 ho (by simp) rfl fun G1 b1 o1 => ?_))⟩)))))
  unfold F185.B3
  rw [show ∀ x : Value, [Value.int .u64 q].set 0 x = [x] from fun x => rfl] at o1
  refine nilP_mk (asP_mk (ldI_own o1 rfl (nilP_mk (asP_mk (ldI_own o1 rfl ⟨by decide, nilP_mk (asP_mk (stK_1 o1 (by simp) rfl fun G2 b2 o2 => ?_))⟩)))))
  rw [show ∀ x y : Value, [y].set 0 x = [x] from fun x y => rfl] at o2
  unfold F185.B2
  refine nilP_mk (asP_mk (ldI_own o2 rfl (nilP_mk (asP_mk (ldI_own o2 rfl ⟨by decide, nilP_mk (asP_mk (stK_1 o2 (by simp) rfl fun G3 b3 o3 => ?_))⟩)))))
  rw [show ∀ x y : Value, [y].set 0 x = [x] from fun x y => rfl] at o3
  unfold F185.B1
  refine nilP_mk (asP_mk (ldI_own o3 rfl ?_))
  exact k G3 _ (b1.trans (b2.trans b3)) o3 (w64 _).1 (w64 _).2
theorem breakC_ok (E : SE B b N cmp c dom) (h : Sq R B H b N dom L) {a e : Nat} (ha : a + 12 < e) (he : e ≤ N) (k : ∀ G S, Kb b H G → Sq R B G b N dom S → Seg a e L S → K (.tuple ⟨[]⟩) G) :
    AC Try.prog T0 193 [sv b N, .int .i64 a, .int .i64 e, cmp] H K := by
  have hN := E.hN
  have hbl := h.own.lt
  have hbase := h.base.1
  apply F193.ac
  unfold F193.B12
  obtain ⟨n, hn⟩ : ∃ n, n = e - a := ⟨_, rfl⟩
  rw [wr (i := n) (by omega) (by omega)]
  unfold F193.B11
  refine pif_t (decide_eq_true (by omega)) ?_
  unfold F193.B10
  refine newK_f rfl fun H1 l1 n1 o1 => stK_1 o1 (by simp) rfl fun H2 b2 o2 => ?_
  rw [show ∀ x y : Value, [y].set 0 x = [x] from fun x y => rfl] at o2
  obtain ⟨sb, hsb⟩ : ∃ sb, sb = H.length := ⟨_, rfl⟩
  rw [← hsb] at o2 b2 ⊢
  have l2 : H.le H2 := b2.le l1 (by omega)
  have wn : IntKind.u64.wrap (n : Int) = (n : Int) := by simp [IntKind.wrap, IntKind.bits, IntKind.signed]; omega
  unfold F193.B9
  apply F184.ac
  unfold F184.B2 F184.B1
  rw [wn]
  refine bitsLen_ok (by omega) fun x hx1 hx2 hx3 => asI_mk ⟨by omega, ?_⟩
  obtain ⟨hx4, hx5⟩ := hx3.resolve_left (by omega)
  have hpow : IntKind.u64.wrap (1 * 2 ^ (min (Int.toNat (x : Int)) 64)) = ((2 ^ x : Nat) : Int) := by
    have h40 : 2 ^ x ≤ 2 ^ 40 := Nat.pow_le_pow_right (by decide) hx1
    rw [Int.toNat_natCast, Nat.min_eq_left (by omega), Int.one_mul]
    have e1 : ((2 : Int) ^ x) = ((2 ^ x : Nat) : Int) := by norm_cast
    rw [e1]
    exact w64id (Nat.lt_of_le_of_lt h40 (by decide))
  rw [hpow]
  obtain ⟨m, hm⟩ : ∃ m, m = 2 ^ x := ⟨_, rfl⟩
  have hm2 : m ≤ 2 * n := by
    have : 2 ^ x = 2 * 2 ^ (x - 1) := by rw [← Nat.pow_succ']; congr 1; omega
    omega
  have hm0 : 0 < m := by rw [hm]; exact Nat.two_pow_pos _
  rw [← hm]
  refine asI_mk ?_
  obtain ⟨t, ht⟩ : ∃ t, t = n / 4 := ⟨_, rfl⟩
  have htd : Int.tdiv (n : Int) 4 = (t : Int) := by rw [Int.tdiv_eq_ediv_of_nonneg (by omega)]; omega
  have w0 : IntKind.i64.wrap (Int.tdiv (n : Int) 4) = (t : Int) := by rw [htd]; exact wr rfl (by omega)
  have ws : IntKind.i64.wrap ((a : Int) + IntKind.i64.wrap (IntKind.i64.wrap (Int.tdiv (n : Int) 4) * 2)) = ((a + t * 2 : Nat) : Int) := by
    rw [w0, wr (x := (t : Int) * 2) (i := t * 2) (by omega) (by omega)]; exact wr (by omega) (by omega)
  unfold F193.B8
  rw [ws, wr (x := ((a + t * 2 : Nat) : Int) - 1) (i := a + t * 2 - 1) (by omega) (by omega)]
  unfold F193.L1
  refine ⟨fun x0 x1 x8 x9 x10 x11 G => sv b N = x0 ∧ (a : Int) = x1 ∧ (n : Int) = x8 ∧ sb = x9 ∧ (m : Int) = x10 ∧ Kb b H G ∧ ∃ (i : Nat) (q : Int) (S : List Nat), x11 = i ∧ a ≤ i ∧ i ≤ a + t * 2 + 2 ∧ Own G sb 177 [.int .u64 q] ∧ Sq R B G b N dom S ∧ Seg a e L S,
    fun _ _ _ _ _ x11 _ => a + t * 2 + 2 - x11.toNat, ⟨rfl, rfl, rfl, rfl, rfl, Kb.of_le l2, a + t * 2 - 1, _, L, rfl, by omega, by omega, o2, h.le l2, .refl⟩, ?_⟩
  rintro x0 x1 x8 x9 x10 x11 G ⟨rfl, rfl, rfl, rfl, rfl, bG, i, q, S, rfl, hai, hi, oG, sS, gS⟩
  have hSl := sS.len
  unfold F193.B7
  rw [ws, wr (x := ((a + t * 2 : Nat) : Int) + 1) (i := a + t * 2 + 1) (by omega) (by omega)]
  refine pif_cases (fun hb => ?_) fun hb => ?_
  · have hil := of_decide_eq_true hb
    unfold F193.B6
    refine xorNext_ok oG fun G2 r b2' o2' hr0 hr1 => asI_mk ?_
    have s2 : Sq R B G2 b N dom S := ⟨b2'.kb.le sS.base (by omega), b2'.own sS.own (by omega), sS.dm, hSl⟩
    obtain ⟨rn, hrn⟩ : ∃ rn : Nat, r = rn := ⟨r.toNat, by omega⟩
    subst hrn
    have hand : IntKind.i64.wrap (IntKind.u64.wrap (BitVec.ofInt 64 (rn : Int) &&& BitVec.ofInt 64 (IntKind.u64.wrap ((m : Int) - 1))).toNat) = ((rn &&& (m - 1) : Nat) : Int) := by
      have hw : IntKind.u64.wrap ((m : Int) - 1) = ((m - 1 : Nat) : Int) := by rw [show (m : Int) - 1 = ((m - 1 : Nat) : Int) by omega]; exact w64id (by omega)
      rw [hw]
      have := bits_and (s := rn) (t := m - 1) (by omega) (by omega)
      rw [this]
      exact wr rfl (by have := Nat.and_le_right (n := rn) (m := m - 1); omega)
    rw [hand]
    obtain ⟨oth, hoth⟩ : ∃ oth, oth = rn &&& (m - 1) := ⟨_, rfl⟩
    have ho1 : oth ≤ m - 1 := by rw [hoth]; exact Nat.and_le_right
    rw [← hoth]
    have b3 : ∀ o : Nat, o < n → F193.B3 K (fun x0 x1 x8 x9 x10 x11 G' => (sv b N = x0 ∧ (a : Int) = x1 ∧ (n : Int) = x8 ∧ sb = x9 ∧ (m : Int) = x10 ∧ Kb b H G' ∧ ∃ (i : Nat) (q : Int) (S : List Nat), x11 = i ∧ a ≤ i ∧ i ≤ a + t * 2 + 2 ∧ Own G' sb 177 [.int .u64 q] ∧ Sq R B G' b N dom S ∧ Seg a e L S) ∧ a + t * 2 + 2 - x11.toNat < a + t * 2 + 2 - (i : Int).toNat) (sv b N) a n sb m i o G2 := by
      intro o hol
      unfold F193.B3
      refine s2.swap E (i := i) (j := a + o) (by omega) (by omega) rfl (wr (by omega) (by omega)) fun G3 k3 s3 => ?_
      unfold F193.B2
      rw [wr (i := i + 1) (by omega) (by omega)]
      have k2 : Kb b H G2 := ⟨Nat.le_trans bG.len (Nat.le_of_eq b2'.len.symm), fun q' o' hq ho' => by
        rw [b2'.same q' (by have := lt_of_get ho'; omega)]; exact bG.old q' o' hq ho'⟩
      refine ⟨⟨rfl, rfl, rfl, rfl, rfl, k2.trans k3, i + 1, _, _, rfl, by omega, by omega, k3.old _ _ (by omega) o2', s3, gS.trans (swp_seg (by omega) (by omega) (by omega) (by omega) (by omega))⟩, ?_⟩
      show a + t * 2 + 2 - ((i + 1 : Nat) : Int).toNat < a + t * 2 + 2 - ((i : Nat) : Int).toNat
      omega
    unfold F193.B5
    refine pif_cases (fun hb => ?_) fun hb => ?_
    · have := of_decide_eq_true hb
      unfold F193.B4
      rw [wr (i := oth - n) (by omega) (by omega)]
      exact b3 (oth - n) (by omega)
    · have := of_decide_eq_false hb
      exact b3 oth (by omega)
  · exact k G S bG sS gS
end Go.Proofs
/- Contracts: sorting by a function that compares (sets): partitions and quicksort. -/
set_option linter.unusedVariables false
set_option linter.unusedSimpArgs false
set_option maxRecDepth 100000
namespace Go.Proofs
open Go.Abs

variable {B H G G' : AHeap} {b N : Nat} {L S M : List Nat} {R : List Value} {cmp : Value} {c : Nat → Nat → Int} {dom : Nat → Prop} {K : Value → AHeap → Prop}

theorem swp_at1 {i j : Nat} (hi : i < L.length) (hj : j < L.length) : (swp 0 L i j).getD i 0 = L.getD j 0 := by
  rw [swp_get hi hj]
  by_cases e : i = j
  · rw [if_pos e, e]
  · rw [if_neg e, if_pos rfl]
theorem swp_at2 {i j : Nat} (hi : i < L.length) (hj : j < L.length) : (swp 0 L i j).getD j 0 = L.getD i 0 := by rw [swp_get hi hj, if_pos rfl]
theorem swp_off {i j k : Nat} (hi : i < L.length) (hj : j < L.length) (h1 : k ≠ i) (h2 : k ≠ j) : (swp 0 L i j).getD k 0 = L.getD k 0 := by rw [swp_get hi hj, if_neg h2, if_neg h1]

theorem partC_ok (E : SE B b N cmp c dom) (h : Sq R B H b N dom L) {a e p : Nat} (hap : a ≤ p) (hpe : p < e) (he : e ≤ N)
    (k : ∀ G S mid q, Kb b H G → Sq R B G b N dom S → Seg a e L S → a ≤ mid → mid < e → (∀ i, a ≤ i → i < mid → LeC c (S.getD i 0) (S.getD mid 0)) → (∀ i, mid < i → i < e → LeC c (S.getD mid 0) (S.getD i 0)) → K (.tuple ⟨[.int .i64 (mid : Nat), .bool q]⟩) G) :
    AC Try.prog T0 198 [sv b N, .int .i64 a, .int .i64 e, .int .i64 p, cmp] H K := by
  have hN := E.hN
  have hLl := h.len
  apply F198.ac
  unfold F198.B28 F198.B27
  refine h.swap E (i := a) (j := p) (by omega) (by omega) rfl rfl fun G1 k1 s1 => ?_
  obtain ⟨M, hM⟩ : ∃ M, M = swp 0 L a p := ⟨_, rfl⟩
  rw [← hM] at s1
  have g1 : Seg a e L M := by rw [hM]; exact swp_seg (by omega) (by omega) (by omega) (by omega) (by omega)
  obtain ⟨P, hP⟩ : ∃ P, P = M.getD a 0 := ⟨_, rfl⟩
  have hMl := s1.len
  -- the end: the pivot is put between
  have fin : ∀ (G : AHeap) (S : List Nat) (i j : Nat) (X : AHeap → Prop), Kb b H G → Sq R B G b N dom S → Seg a e L S → S.getD a 0 = P → a + 1 ≤ i → i = j + 1 → j < e → (∀ q, a < q → q < i → c (S.getD q 0) P < 0) → (∀ q, j < q → q < e → ¬ c (S.getD q 0) P < 0) →
      (∀ G', Kb b G G' → Sq R B G' b N dom (swp 0 S j a) → (∀ q, K (.tuple ⟨[.int .i64 (j : Nat), .bool q]⟩) G') → X G') →
      swK b N (j : Int) (a : Int) G X := by
    intro G S i j X bG sS gS hSa hi hij hj hlt hge hX
    have hSl := sS.len
    refine sS.swap E (i := j) (j := a) (by omega) (by omega) rfl rfl fun G2 k2 s2 => hX G2 k2 s2 fun q => ?_
    have e1 : (swp 0 S j a).getD j 0 = P := by rw [swp_at1 (by omega) (by omega), hSa]
    refine k G2 _ j q (bG.trans k2) s2 (gS.trans (swp_seg (by omega) (by omega) (by omega) (by omega) (by omega))) (by omega) hj (fun i' h1 h2 => ?_) fun i' h1 h2 => ?_
    · rw [e1]
      by_cases e2 : i' = a
      · subst e2
        rw [swp_at2 (by omega) (by omega)]
        exact E.ord.lt (hlt j (by omega) (by omega))
      · rw [swp_off (by omega) (by omega) (by omega) e2]
        exact E.ord.lt (hlt i' (by omega) (by omega))
    · rw [e1, swp_off (by omega) (by omega) (by omega) (by omega)]
      exact hge i' h1 h2
  unfold F198.B26
  rw [wr (i := a + 1) (by omega) (by omega), wr (i := e - 1) (by omega) (by omega)]
  unfold F198.L23
  refine ⟨fun x0 x1 x4 x12 x13 G => sv b N = x0 ∧ (a : Int) = x1 ∧ cmp = x4 ∧ ((e - 1 : Nat) : Int) = x13 ∧ Kb b H G ∧ Sq R B G b N dom M ∧ ∃ i : Nat, x12 = i ∧ a + 1 ≤ i ∧ i ≤ e ∧ ∀ q, a < q → q < i → c (M.getD q 0) P < 0,
    fun _ _ _ x12 _ _ => e - x12.toNat, ⟨rfl, rfl, rfl, rfl, k1, s1, a + 1, rfl, Nat.le_refl _, by omega, fun q h1 h2 => by omega⟩, ?_⟩
  rintro x0 x1 x4 x12 x13 G ⟨rfl, rfl, rfl, rfl, bG, sG, i, rfl, hi, hie, hlt⟩
  -- behind the first search from the left
  have part2 : ∀ G, Kb b H G → Sq R B G b N dom M → (i ≤ e - 1 → ¬ c (M.getD i 0) P < 0) → F198.L20 K (sv b N) a cmp i ((e - 1 : Nat) : Int) G := by
    intro G bG sG hstop
    unfold F198.L20
    refine ⟨fun x0 x1 x4 x12 x13 G => sv b N = x0 ∧ (a : Int) = x1 ∧ cmp = x4 ∧ (i : Int) = x12 ∧ Kb b H G ∧ Sq R B G b N dom M ∧ ∃ j : Nat, x13 = j ∧ a ≤ j ∧ i ≤ j + 1 ∧ j < e ∧ ∀ q, j < q → q < e → ¬ c (M.getD q 0) P < 0,
      fun _ _ _ _ x13 _ => x13.toNat, ⟨rfl, rfl, rfl, rfl, bG, sG, e - 1, rfl, by omega, by omega, by omega, fun q h1 h2 => by omega⟩, ?_⟩
    rintro x0 x1 x4 x12 x13 G ⟨rfl, rfl, rfl, rfl, bG, sG, j, rfl, haj, hij, hje, hge⟩
    have b19 : ∀ G, Kb b H G → Sq R B G b N dom M → (i ≤ j → c (M.getD j 0) P < 0) → F198.B19 K (sv b N) a cmp i j G := by
      intro G bG sG hj2
      unfold F198.B19
      refine pif_cases (fun hb => ?_) fun hb => ?_
      · have hgt := of_decide_eq_true hb
        unfold F198.B18
        refine fin G M i j _ bG sG g1 hP.symm hi (by omega) hje hlt hge fun G' k2 s2 hK => ?_
        unfold F198.B17
        exact hK true
      · have hle := of_decide_eq_false hb
        have hlij : i ≤ j := by omega
        have hjP := hj2 hlij
        have hiP := hstop (by omega)
        have hne : i ≠ j := fun h => by rw [h] at hiP; exact hiP hjP
        unfold F198.B16
        refine sG.swap E (i := i) (j := j) (by omega) (by omega) rfl rfl fun G2 k2 s2 => ?_
        unfold F198.B15
        rw [wr (i := i + 1) (by omega) (by omega)]
        unfold F198.B14
        rw [wr (i := j - 1) (by omega) (by omega)]
        -- the loop
        unfold F198.L3
        refine ⟨fun x0 x1 x4 x12 x13 G => sv b N = x0 ∧ (a : Int) = x1 ∧ cmp = x4 ∧ Kb b H G ∧ ∃ (i j : Nat) (S : List Nat), x12 = i ∧ x13 = j ∧ a + 1 ≤ i ∧ i ≤ j + 1 ∧ j < e ∧ Sq R B G b N dom S ∧ Seg a e L S ∧ S.getD a 0 = P ∧ (∀ q, a < q → q < i → c (S.getD q 0) P < 0) ∧ ∀ q, j < q → q < e → ¬ c (S.getD q 0) P < 0,
          fun _ _ _ x12 x13 _ => x13.toNat + 1 - x12.toNat, ⟨rfl, rfl, rfl, bG.trans k2, i + 1, j - 1, _, rfl, rfl, by omega, by omega, by omega, s2, g1.trans (swp_seg (by omega) (by omega) (by omega) (by omega) (by omega)), ?_, ?_, ?_⟩, ?_⟩
        · rw [swp_off (by omega) (by omega) (by omega) (by omega), hP]
        · intro q h1 h2
          by_cases e1 : q = i
          · subst e1; rw [swp_at1 (by omega) (by omega)]; exact hjP
          · rw [swp_off (by omega) (by omega) e1 (by omega)]; exact hlt q h1 (by omega)
        · intro q h1 h2
          by_cases e1 : q = j
          · subst e1; rw [swp_at2 (by omega) (by omega)]; exact hiP
          · rw [swp_off (by omega) (by omega) (by omega) e1]; exact hge q (by omega) h2
        clear hge hlt hjP hiP hj2 hstop bG sG k2 s2 hle hlij hne hb hij haj hje hi hie
        rintro x0 x1 x4 x12 x13 G ⟨rfl, rfl, rfl, bG, i, j, S, rfl, rfl, hi, hij, hje, sS, gS, hSa, hlt, hge⟩
        have hSl := sS.len
        unfold F198.L11
        refine ⟨fun x0 x1 x4 x12 x13 G => sv b N = x0 ∧ (a : Int) = x1 ∧ cmp = x4 ∧ (j : Int) = x13 ∧ Kb b H G ∧ Sq R B G b N dom S ∧ ∃ i' : Nat, x12 = i' ∧ i ≤ i' ∧ i' ≤ j + 1 ∧ ∀ q, a < q → q < i' → c (S.getD q 0) P < 0,
          fun _ _ _ x12 _ _ => j + 1 - x12.toNat, ⟨rfl, rfl, rfl, rfl, bG, sS, i, rfl, Nat.le_refl _, hij, hlt⟩, ?_⟩
        clear bG sS hlt
        rintro x0 x1 x4 x12 x13 G ⟨rfl, rfl, rfl, rfl, bG, sS, i', rfl, hii, hij', hlt⟩
        have inner : ∀ G, Kb b H G → Sq R B G b N dom S → (i' ≤ j → ¬ c (S.getD i' 0) P < 0) → ∀ N3 : Value → Int → Value → Int → Int → AHeap → Prop,
            (∀ G' i2 j2 S2, Kb b H G' → a + 1 ≤ i2 → i2 ≤ j2 + 1 → j2 < e → Sq R B G' b N dom S2 → Seg a e L S2 → S2.getD a 0 = P → (∀ q, a < q → q < i2 → c (S2.getD q 0) P < 0) → (∀ q, j2 < q → q < e → ¬ c (S2.getD q 0) P < 0) → j2 + 1 - i2 < j + 1 - i → N3 (sv b N) a cmp (i2 : Nat) (j2 : Nat) G') →
            F198.L8 K N3 (sv b N) a cmp i' j G := by
          intro G bG sS hstop N3 hN3
          unfold F198.L8
          refine ⟨fun x0 x1 x4 x12 x13 G => sv b N = x0 ∧ (a : Int) = x1 ∧ cmp = x4 ∧ (i' : Int) = x12 ∧ Kb b H G ∧ Sq R B G b N dom S ∧ ∃ j' : Nat, x13 = j' ∧ j' ≤ j ∧ i' ≤ j' + 1 ∧ ∀ q, j' < q → q < e → ¬ c (S.getD q 0) P < 0,
            fun _ _ _ _ x13 _ => x13.toNat, ⟨rfl, rfl, rfl, rfl, bG, sS, j, rfl, Nat.le_refl _, hij', hge⟩, ?_⟩
          clear bG sS hge
          rintro x0 x1 x4 x12 x13 G ⟨rfl, rfl, rfl, rfl, bG, sS, j', rfl, hjj, hij2, hge⟩
          have b7 : ∀ G, Kb b H G → Sq R B G b N dom S → (i' ≤ j' → c (S.getD j' 0) P < 0) → F198.B7 K N3 (sv b N) a cmp i' j' G := by
            intro G bG sS hj2
            unfold F198.B7
            refine pif_cases (fun hb => ?_) fun hb => ?_
            · have hgt := of_decide_eq_true hb
              unfold F198.B2
              refine fin G S i' j' _ bG sS gS hSa (by omega) (by omega) (by omega) hlt hge fun G' k2 s2 hK => ?_
              unfold F198.B1
              exact hK false
            · have hle := of_decide_eq_false hb
              have hlij : i' ≤ j' := by omega
              have hjP := hj2 hlij
              have hiP := hstop (by omega)
              have hne : i' ≠ j' := fun h => by rw [h] at hiP; exact hiP hjP
              unfold F198.B6
              refine sS.swap E (i := i') (j := j') (by omega) (by omega) rfl rfl fun G2 k2 s2 => ?_
              unfold F198.B5
              rw [wr (i := i' + 1) (by omega) (by omega)]
              unfold F198.B4
              rw [wr (i := j' - 1) (by omega) (by omega)]
              refine hN3 G2 (i' + 1) (j' - 1) _ (bG.trans k2) (by omega) (by omega) (by omega) s2 (gS.trans (swp_seg (by omega) (by omega) (by omega) (by omega) (by omega))) ?_ ?_ ?_ (by omega)
              · rw [swp_off (by omega) (by omega) (by omega) (by omega), hSa]
              · intro q h1 h2
                by_cases e1 : q = i'
                · subst e1; rw [swp_at1 (by omega) (by omega)]; exact hjP
                · rw [swp_off (by omega) (by omega) e1 (by omega)]; exact hlt q h1 (by omega)
              · intro q h1 h2
                by_cases e1 : q = j'
                · subst e1; rw [swp_at2 (by omega) (by omega)]; exact hiP
                · rw [swp_off (by omega) (by omega) (by omega) e1]; exact hge q (by omega) h2
          unfold F198.B10
          refine pif_cases (fun hb => ?_) fun hb => ?_
          · have hle := of_decide_eq_true hb
            refine sS.less E (i := j') (j := a) (by omega) (by omega) rfl rfl fun G1 r l1 s1 hr => ?_
            rw [hSa] at hr
            refine pif_cases (fun hq => ?_) fun hq => ?_
            · have hn : ¬ c (S.getD j' 0) P < 0 := fun hc => by rw [decide_eq_true (hr.2 hc)] at hq; cases hq
              unfold F198.B9
              rw [wr (i := j' - 1) (by omega) (by omega)]
              refine ⟨⟨rfl, rfl, rfl, rfl, bG.trans (Kb.of_le l1), s1, j' - 1, rfl, by omega, by omega, fun q h1 h2 => ?_⟩, ?_⟩
              · by_cases e1 : q = j'
                · subst e1; exact hn
                · exact hge q (by omega) h2
              · show ((j' - 1 : Nat) : Int).toNat < ((j' : Nat) : Int).toNat
                omega
            · exact b7 G1 (bG.trans (Kb.of_le l1)) s1 fun _ => hr.1 (by simpa using hq)
          · have hgt := of_decide_eq_false hb
            exact b7 G bG sS fun h => by omega
        have hN3 : ∀ G' i2 j2 S2, Kb b H G' → a + 1 ≤ i2 → i2 ≤ j2 + 1 → j2 < e → Sq R B G' b N dom S2 → Seg a e L S2 → S2.getD a 0 = P → (∀ q, a < q → q < i2 → c (S2.getD q 0) P < 0) → (∀ q, j2 < q → q < e → ¬ c (S2.getD q 0) P < 0) → j2 + 1 - i2 < j + 1 - i →
            (sv b N = sv b N ∧ (a : Int) = a ∧ cmp = cmp ∧ Kb b H G' ∧ ∃ (i j : Nat) (S : List Nat), (i2 : Int) = i ∧ (j2 : Int) = j ∧ a + 1 ≤ i ∧ i ≤ j + 1 ∧ j < e ∧ Sq R B G' b N dom S ∧ Seg a e L S ∧ S.getD a 0 = P ∧ (∀ q, a < q → q < i → c (S.getD q 0) P < 0) ∧ ∀ q, j < q → q < e → ¬ c (S.getD q 0) P < 0) ∧ (j2 : Int).toNat + 1 - (i2 : Int).toNat < (j : Int).toNat + 1 - (i : Int).toNat :=
          fun G' i2 j2 S2 h1 h2 h3 h4 h5 h6 h7 h8 h9 h10 => ⟨⟨rfl, rfl, rfl, h1, i2, j2, S2, rfl, rfl, h2, h3, h4, h5, h6, h7, h8, h9⟩, by omega⟩
        unfold F198.B13
        refine pif_cases (fun hb => ?_) fun hb => ?_
        · have hle := of_decide_eq_true hb
          refine sS.less E (i := i') (j := a) (by omega) (by omega) rfl rfl fun G1 r l1 s1 hr => ?_
          rw [hSa] at hr
          refine pif_cases (fun hq => ?_) fun hq => ?_
          · have hc := hr.1 (of_decide_eq_true hq)
            unfold F198.B12
            rw [wr (i := i' + 1) (by omega) (by omega)]
            refine ⟨⟨rfl, rfl, rfl, rfl, bG.trans (Kb.of_le l1), s1, i' + 1, rfl, by omega, by omega, fun q h1 h2 => ?_⟩, ?_⟩
            · by_cases e1 : q = i'
              · subst e1; exact hc
              · exact hlt q h1 (by omega)
            · show j + 1 - ((i' + 1 : Nat) : Int).toNat < j + 1 - ((i' : Nat) : Int).toNat
              omega
          · exact inner G1 (bG.trans (Kb.of_le l1)) s1 (fun _ hc => of_decide_eq_false hq (hr.2 hc)) _ hN3
        · have hgt := of_decide_eq_false hb
          exact inner G bG sS (fun h => by omega) _ hN3
    unfold F198.B22
    refine pif_cases (fun hb => ?_) fun hb => ?_
    · have hle := of_decide_eq_true hb
      refine sG.less E (i := j) (j := a) (by omega) (by omega) rfl rfl fun G1 r l1 s1 hr => ?_
      rw [← hP] at hr
      refine pif_cases (fun hq => ?_) fun hq => ?_
      · have hn : ¬ c (M.getD j 0) P < 0 := fun hc => by rw [decide_eq_true (hr.2 hc)] at hq; cases hq
        unfold F198.B21
        rw [wr (i := j - 1) (by omega) (by omega)]
        refine ⟨⟨rfl, rfl, rfl, rfl, bG.trans (Kb.of_le l1), s1, j - 1, rfl, by omega, by omega, by omega, fun q h1 h2 => ?_⟩, ?_⟩
        · by_cases e1 : q = j
          · subst e1; exact hn
          · exact hge q (by omega) h2
        · show ((j - 1 : Nat) : Int).toNat < ((j : Nat) : Int).toNat
          omega
      · exact b19 G1 (bG.trans (Kb.of_le l1)) s1 fun _ => hr.1 (by simpa using hq)
    · have hgt := of_decide_eq_false hb
      exact b19 G bG sG fun h => by omega
  unfold F198.B25
  refine pif_cases (fun hb => ?_) fun hb => ?_
  · have hle := of_decide_eq_true hb
    refine sG.less E (i := i) (j := a) (by omega) (by omega) rfl rfl fun G1 r l1 s1' hr => ?_
    rw [← hP] at hr
    refine pif_cases (fun hq => ?_) fun hq => ?_
    · have hc := hr.1 (of_decide_eq_true hq)
      unfold F198.B24
      rw [wr (i := i + 1) (by omega) (by omega)]
      refine ⟨⟨rfl, rfl, rfl, rfl, bG.trans (Kb.of_le l1), s1', i + 1, rfl, by omega, by omega, fun q h1 h2 => ?_⟩, ?_⟩
      · by_cases e1 : q = i
        · subst e1; exact hc
        · exact hlt q h1 (by omega)
      · show e - ((i + 1 : Nat) : Int).toNat < e - ((i : Nat) : Int).toNat
        omega
    · exact part2 G1 (bG.trans (Kb.of_le l1)) s1' fun _ hc => of_decide_eq_false hq (hr.2 hc)
  · have hgt := of_decide_eq_false hb
    exact part2 G bG sG fun h => by omega

theorem partEq_ok (E : SE B b N cmp c dom) (h : Sq R B H b N dom L) {a e p : Nat} (hap : a ≤ p) (hpe : p < e) (he : e ≤ N)
    (k : ∀ G S mid, Kb b H G → Sq R B G b N dom S → Seg a e L S → a < mid → mid ≤ e → (∀ i, a ≤ i → i < mid → LeC c (S.getD i 0) (L.getD p 0)) → K (.int .i64 (mid : Nat)) G) :
    AC Try.prog T0 197 [sv b N, .int .i64 a, .int .i64 e, .int .i64 p, cmp] H K := by
  have hN := E.hN
  have hLl := h.len
  apply F197.ac
  unfold F197.B15 F197.B14
  refine h.swap E (i := a) (j := p) (by omega) (by omega) rfl rfl fun G1 k1 s1 => ?_
  obtain ⟨P, hP⟩ : ∃ P, P = L.getD p 0 := ⟨_, rfl⟩
  rw [← hP] at k
  unfold F197.B13
  rw [wr (i := a + 1) (by omega) (by omega), wr (i := e - 1) (by omega) (by omega)]
  unfold F197.L2
  refine ⟨fun x0 x1 x4 x11 x12 G => sv b N = x0 ∧ (a : Int) = x1 ∧ cmp = x4 ∧ Kb b H G ∧ ∃ (i j : Nat) (S : List Nat), x11 = i ∧ x12 = j ∧ a + 1 ≤ i ∧ i ≤ j + 1 ∧ j < e ∧ Sq R B G b N dom S ∧ Seg a e L S ∧ S.getD a 0 = P ∧ ∀ q, a < q → q < i → LeC c (S.getD q 0) P,
    fun _ _ _ x11 x12 _ => x12.toNat + 1 - x11.toNat, ⟨rfl, rfl, rfl, k1, a + 1, e - 1, _, rfl, rfl, by omega, by omega, by omega, s1, swp_seg (by omega) (by omega) (by omega) (by omega) (by omega), by rw [swp_at1 (by omega) (by omega), hP], fun q h1 h2 => by omega⟩, ?_⟩
  rintro x0 x1 x4 x11 x12 G ⟨rfl, rfl, rfl, bG, i, j, S, rfl, rfl, hi, hij, hje, sS, gS, hSa, hlt⟩
  have hSl := sS.len
  unfold F197.L10
  refine ⟨fun x0 x1 x4 x11 x12 G => sv b N = x0 ∧ (a : Int) = x1 ∧ cmp = x4 ∧ (j : Int) = x12 ∧ Kb b H G ∧ Sq R B G b N dom S ∧ ∃ i' : Nat, x11 = i' ∧ i ≤ i' ∧ i' ≤ j + 1 ∧ ∀ q, a < q → q < i' → LeC c (S.getD q 0) P,
    fun _ _ _ x11 _ _ => j + 1 - x11.toNat, ⟨rfl, rfl, rfl, rfl, bG, sS, i, rfl, Nat.le_refl _, hij, hlt⟩, ?_⟩
  clear bG sS hlt
  rintro x0 x1 x4 x11 x12 G ⟨rfl, rfl, rfl, rfl, bG, sS, i', rfl, hii, hij', hlt⟩
  have inner : ∀ G, Kb b H G → Sq R B G b N dom S → (i' ≤ j → c P (S.getD i' 0) < 0) → ∀ N2 : Value → Int → Value → Int → Int → AHeap → Prop,
      (∀ G' i2 j2 S2, Kb b H G' → a + 1 ≤ i2 → i2 ≤ j2 + 1 → j2 < e → Sq R B G' b N dom S2 → Seg a e L S2 → S2.getD a 0 = P → (∀ q, a < q → q < i2 → LeC c (S2.getD q 0) P) → j2 + 1 - i2 < j + 1 - i → N2 (sv b N) a cmp (i2 : Nat) (j2 : Nat) G') →
      F197.L7 K N2 (sv b N) a cmp i' j G := by
    intro G bG sS hstop N2 hN2
    unfold F197.L7
    refine ⟨fun x0 x1 x4 x11 x12 G => sv b N = x0 ∧ (a : Int) = x1 ∧ cmp = x4 ∧ (i' : Int) = x11 ∧ Kb b H G ∧ Sq R B G b N dom S ∧ ∃ j' : Nat, x12 = j' ∧ j' ≤ j ∧ i' ≤ j' + 1,
      fun _ _ _ _ x12 _ => x12.toNat, ⟨rfl, rfl, rfl, rfl, bG, sS, j, rfl, Nat.le_refl _, hij'⟩, ?_⟩
    clear bG sS
    rintro x0 x1 x4 x11 x12 G ⟨rfl, rfl, rfl, rfl, bG, sS, j', rfl, hjj, hij2⟩
    have b6 : ∀ G, Kb b H G → Sq R B G b N dom S → (i' ≤ j' → LeC c (S.getD j' 0) P) → F197.B6 K N2 (sv b N) a cmp i' j' G := by
      intro G bG sS hj2
      unfold F197.B6
      refine pif_cases (fun hb => ?_) fun hb => ?_
      · have hgt := of_decide_eq_true hb
        unfold F197.B1
        refine k G S i' bG sS gS (by omega) (by omega) fun q h1 h2 => ?_
        by_cases e1 : q = a
        · rw [e1, hSa]; exact E.ord.rfl _
        · exact hlt q (by omega) h2
      · have hle := of_decide_eq_false hb
        have hlij : i' ≤ j' := by omega
        have hjP := hj2 hlij
        unfold F197.B5
        refine sS.swap E (i := i') (j := j') (by omega) (by omega) rfl rfl fun G2 k2 s2 => ?_
        unfold F197.B4
        rw [wr (i := i' + 1) (by omega) (by omega)]
        unfold F197.B3
        rw [wr (i := j' - 1) (by omega) (by omega)]
        have hne : i' ≠ j' := fun h => by rw [← h] at hjP; exact hjP (hstop (by omega))
        refine hN2 G2 (i' + 1) (j' - 1) _ (bG.trans k2) (by omega) (by omega) (by omega) s2 (gS.trans (swp_seg (by omega) (by omega) (by omega) (by omega) (by omega))) ?_ ?_ (by omega)
        · rw [swp_off (by omega) (by omega) (by omega) (by omega), hSa]
        · intro q h1 h2
          by_cases e1 : q = i'
          · subst e1; rw [swp_at1 (by omega) (by omega)]; exact hjP
          · rw [swp_off (by omega) (by omega) e1 (by omega)]; exact hlt q h1 (by omega)
    unfold F197.B9
    refine pif_cases (fun hb => ?_) fun hb => ?_
    · have hle := of_decide_eq_true hb
      refine sS.less E (i := a) (j := j') (by omega) (by omega) rfl rfl fun G1 r l1 s1 hr => ?_
      rw [hSa] at hr
      refine pif_cases (fun hq => ?_) fun hq => ?_
      · unfold F197.B8
        rw [wr (i := j' - 1) (by omega) (by omega)]
        refine ⟨⟨rfl, rfl, rfl, rfl, bG.trans (Kb.of_le l1), s1, j' - 1, rfl, by omega, by omega⟩, ?_⟩
        show ((j' - 1 : Nat) : Int).toNat < ((j' : Nat) : Int).toNat
        omega
      · exact b6 G1 (bG.trans (Kb.of_le l1)) s1 fun _ hc => of_decide_eq_false hq (hr.2 hc)
    · have hgt := of_decide_eq_false hb
      exact b6 G bG sS fun h => by omega
  have hN2 : ∀ G' i2 j2 S2, Kb b H G' → a + 1 ≤ i2 → i2 ≤ j2 + 1 → j2 < e → Sq R B G' b N dom S2 → Seg a e L S2 → S2.getD a 0 = P → (∀ q, a < q → q < i2 → LeC c (S2.getD q 0) P) → j2 + 1 - i2 < j + 1 - i →
      (sv b N = sv b N ∧ (a : Int) = a ∧ cmp = cmp ∧ Kb b H G' ∧ ∃ (i j : Nat) (S : List Nat), (i2 : Int) = i ∧ (j2 : Int) = j ∧ a + 1 ≤ i ∧ i ≤ j + 1 ∧ j < e ∧ Sq R B G' b N dom S ∧ Seg a e L S ∧ S.getD a 0 = P ∧ ∀ q, a < q → q < i → LeC c (S.getD q 0) P) ∧ (j2 : Int).toNat + 1 - (i2 : Int).toNat < (j : Int).toNat + 1 - (i : Int).toNat :=
    fun G' i2 j2 S2 h1 h2 h3 h4 h5 h6 h7 h8 h9 => ⟨⟨rfl, rfl, rfl, h1, i2, j2, S2, rfl, rfl, h2, h3, h4, h5, h6, h7, h8⟩, by omega⟩
  unfold F197.B12
  refine pif_cases (fun hb => ?_) fun hb => ?_
  · have hle := of_decide_eq_true hb
    refine sS.less E (i := a) (j := i') (by omega) (by omega) rfl rfl fun G1 r l1 s1 hr => ?_
    rw [hSa] at hr
    refine pif_cases (fun hq => ?_) fun hq => ?_
    · have hn : LeC c (S.getD i' 0) P := fun hc => by rw [decide_eq_true (hr.2 hc)] at hq; cases hq
      unfold F197.B11
      rw [wr (i := i' + 1) (by omega) (by omega)]
      refine ⟨⟨rfl, rfl, rfl, rfl, bG.trans (Kb.of_le l1), s1, i' + 1, rfl, by omega, by omega, fun q h1 h2 => ?_⟩, ?_⟩
      · by_cases e1 : q = i'
        · subst e1; exact hn
        · exact hlt q h1 (by omega)
      · show j + 1 - ((i' + 1 : Nat) : Int).toNat < j + 1 - ((i' : Nat) : Int).toNat
        omega
    · exact inner G1 (bG.trans (Kb.of_le l1)) s1 (fun _ => hr.1 (by simpa using hq)) _ hN2
  · have hgt := of_decide_eq_false hb
    exact inner G bG sS (fun h => by omega) _ hN2
end Go.Proofs
/- Contracts: sorting by a function that compares (sets): quicksort. -/
set_option linter.unusedVariables false
set_option linter.unusedSimpArgs false
set_option maxRecDepth 100000
namespace Go.Proofs
open Go.Abs

variable {B H G G' : AHeap} {b N : Nat} {L S M : List Nat} {R : List Value} {cmp : Value} {c : Nat → Nat → Int} {dom : Nat → Prop} {K : Value → AHeap → Prop}

/-- What stands ahead is not greater. -/
def PreA (c : Nat → Nat → Int) (a e : Nat) (L : List Nat) : Prop := 0 < a → ∀ q, a ≤ q → q < e → LeC c (L.getD (a - 1) 0) (L.getD q 0)
theorem PreA.seg {a e : Nat} (h : PreA c a e L) (hs : Seg a e L S) (he : e ≤ L.length) : PreA c a e S := fun h0 q h1 h2 => by
  rw [hs.outD (i := a - 1) (.inl (by omega))]
  exact hs.all (d := 0) (Q := fun x => LeC c (L.getD (a - 1) 0) x) he (h h0) q h1 h2
theorem sorted_ext {a i : Nat} (hc : Cmp c) (h : SortedIn 0 c a i S) (hn : a < i → LeC c (S.getD (i - 1) 0) (S.getD i 0)) : SortedIn 0 c a (i + 1) S := by
  intro p q h1 h2 h3
  by_cases e : q = i
  · subst e
    have hn := hn (by omega)
    by_cases e2 : p = q - 1
    · rw [e2]; exact hn
    · exact hc.tr _ _ _ (h p (q - 1) h1 (by omega) (by omega)) hn
  · exact h p q h1 h2 (by omega)
theorem sorted_keep {a i : Nat} (h : SortedIn 0 c a i S) (hs : ∀ q, q < i → M.getD q 0 = S.getD q 0) : SortedIn 0 c a i M := fun p q h1 h2 h3 => by
  rw [hs p (by omega), hs q h3]; exact h p q h1 h2 h3

theorem partIns_ok (E : SE B b N cmp c dom) (h : Sq R B H b N dom L) {a e : Nat} (ha : a < e) (he : e ≤ N) (hp : PreA c a e L)
    (k : ∀ G S q, Kb b H G → Sq R B G b N dom S → Seg a e L S → (q = true → SortedIn 0 c a e S) → K (.bool q) G) :
    AC Try.prog T0 196 [sv b N, .int .i64 a, .int .i64 e, cmp] H K := by
  have hN := E.hN
  have hLl := h.len
  apply F196.ac
  unfold F196.B29 F196.B28
  rw [wr (i := a + 1) (by omega) (by omega)]
  unfold F196.B27 F196.L2
  refine ⟨fun x0 x1 x2 x3 x9 x10 G => sv b N = x0 ∧ (a : Int) = x1 ∧ (e : Int) = x2 ∧ cmp = x3 ∧ Kb b H G ∧ ∃ (i m : Nat) (S : List Nat), x9 = i ∧ x10 = m ∧ m ≤ 5 ∧ a + 1 ≤ i ∧ i ≤ e ∧ Sq R B G b N dom S ∧ Seg a e L S ∧ SortedIn 0 c a i S,
    fun _ _ _ _ _ x10 _ => 5 - x10.toNat, ⟨rfl, rfl, rfl, rfl, .refl, a + 1, 0, L, rfl, rfl, by omega, by omega, by omega, h, .refl, fun p q h1 h2 h3 => by omega⟩, ?_⟩
  rintro x0 x1 x2 x3 x9 x10 G ⟨rfl, rfl, rfl, rfl, bG, i, m, S, rfl, rfl, hm, hi, hie, sS, gS, hS⟩
  unfold F196.B26
  refine pif_cases (fun hb => ?_) fun hb => ?_
  rotate_left
  · unfold F196.B1
    exact k G S false bG sS gS fun h => by cases h
  have hm5 : m < 5 := by have := of_decide_eq_true hb; omega
  unfold F196.L23
  refine ⟨fun x0 x1 x2 x3 x9 x10 G => sv b N = x0 ∧ (a : Int) = x1 ∧ (e : Int) = x2 ∧ cmp = x3 ∧ (m : Int) = x10 ∧ Kb b H G ∧ Sq R B G b N dom S ∧ ∃ i' : Nat, x9 = i' ∧ a + 1 ≤ i' ∧ i' ≤ e ∧ SortedIn 0 c a i' S,
    fun _ _ _ _ x9 _ _ => e - x9.toNat, ⟨rfl, rfl, rfl, rfl, rfl, bG, sS, i, rfl, hi, hie, hS⟩, ?_⟩
  clear hS bG sS hie hi hb
  rintro x0 x1 x2 x3 x9 x10 G ⟨rfl, rfl, rfl, rfl, rfl, bG, sS, i, rfl, hi, hie, hS⟩
  have hSl := sS.len
  have b22 : ∀ G, Kb b H G → Sq R B G b N dom S → F196.B22 K (fun x0 x1 x2 x3 x9 x10 G' => (sv b N = x0 ∧ (a : Int) = x1 ∧ (e : Int) = x2 ∧ cmp = x3 ∧ Kb b H G' ∧ ∃ (i m : Nat) (S : List Nat), x9 = i ∧ x10 = m ∧ m ≤ 5 ∧ a + 1 ≤ i ∧ i ≤ e ∧ Sq R B G' b N dom S ∧ Seg a e L S ∧ SortedIn 0 c a i S) ∧ 5 - x10.toNat < 5 - (m : Int).toNat) (sv b N) a e cmp i m G := by
    intro G bG sS
    unfold F196.B22
    refine pif_cases (fun hb => ?_) fun hb => ?_
    · have he2 : i = e := by have := beq_iff_eq.1 hb; omega
      unfold F196.B21
      exact k G S true bG sS gS fun _ => by rw [← he2]; exact hS
    have hlt : i < e := by have := beq_eq_false_iff_ne.1 hb; omega
    unfold F196.B20
    refine pif_cases (fun hb => ?_) fun hb => ?_
    · unfold F196.B19
      exact k G S false bG sS gS fun h => by cases h
    unfold F196.B18
    refine sS.swap E (i := i) (j := i - 1) (by omega) (by omega) rfl (wr (by omega) (by omega)) fun G2 k2 s2 => ?_
    obtain ⟨S2, hS2⟩ : ∃ S2, S2 = swp 0 S i (i - 1) := ⟨_, rfl⟩
    rw [← hS2] at s2
    have g2 : Seg a e L S2 := by rw [hS2]; exact gS.trans (swp_seg (by omega) (by omega) (by omega) (by omega) (by omega))
    have k3 : ∀ G S', Kb b H G → Sq R B G b N dom S' → Seg a e L S' → SortedIn 0 c a i S' → F196.B3 K (fun x0 x1 x2 x3 x9 x10 G' => (sv b N = x0 ∧ (a : Int) = x1 ∧ (e : Int) = x2 ∧ cmp = x3 ∧ Kb b H G' ∧ ∃ (i m : Nat) (S : List Nat), x9 = i ∧ x10 = m ∧ m ≤ 5 ∧ a + 1 ≤ i ∧ i ≤ e ∧ Sq R B G' b N dom S ∧ Seg a e L S ∧ SortedIn 0 c a i S) ∧ 5 - x10.toNat < 5 - (m : Int).toNat) (sv b N) a e cmp i m G := by
      intro G S' h1 h2 h3 h4
      unfold F196.B3
      rw [wr (i := m + 1) (by omega) (by omega)]
      refine ⟨⟨rfl, rfl, rfl, rfl, h1, i, m + 1, S', rfl, rfl, by omega, hi, hie, h2, h3, h4⟩, ?_⟩
      show 5 - ((m + 1 : Nat) : Int).toNat < 5 - ((m : Nat) : Int).toNat
      omega
    have k10 : ∀ G S', Kb b H G → Sq R B G b N dom S' → Seg a e L S' → SortedIn 0 c a i S' → F196.B10 K (fun x0 x1 x2 x3 x9 x10 G' => (sv b N = x0 ∧ (a : Int) = x1 ∧ (e : Int) = x2 ∧ cmp = x3 ∧ Kb b H G' ∧ ∃ (i m : Nat) (S : List Nat), x9 = i ∧ x10 = m ∧ m ≤ 5 ∧ a + 1 ≤ i ∧ i ≤ e ∧ Sq R B G' b N dom S ∧ Seg a e L S ∧ SortedIn 0 c a i S) ∧ 5 - x10.toNat < 5 - (m : Int).toNat) (sv b N) a e cmp i m G := by
      intro G S' h1 h2 h3 h4
      unfold F196.B10
      refine pif_cases (fun hb => ?_) fun hb => k3 G S' h1 h2 h3 h4
      unfold F196.B9
      rw [wr (i := i + 1) (by omega) (by omega)]
      unfold F196.L4
      refine ⟨fun x0 x1 x2 x3 x9 x10 x12 G => sv b N = x0 ∧ (a : Int) = x1 ∧ (e : Int) = x2 ∧ cmp = x3 ∧ (i : Int) = x9 ∧ (m : Int) = x10 ∧ Kb b H G ∧ ∃ (j : Nat) (S' : List Nat), x12 = j ∧ i + 1 ≤ j ∧ j ≤ e ∧ Sq R B G b N dom S' ∧ Seg a e L S' ∧ SortedIn 0 c a i S',
        fun _ _ _ _ _ _ x12 _ => e - x12.toNat, ⟨rfl, rfl, rfl, rfl, rfl, rfl, h1, i + 1, S', rfl, Nat.le_refl _, by omega, h2, h3, h4⟩, ?_⟩
      clear h1 h2 h3 h4
      rintro x0 x1 x2 x3 x9 x10 x12 G ⟨rfl, rfl, rfl, rfl, rfl, rfl, h1, j, S', rfl, hj, hje, h2, h3, h4⟩
      have hSl' := h2.len
      unfold F196.B8
      refine pif_cases (fun hb => ?_) fun hb => k3 G S' h1 h2 h3 h4
      have hjl : j < e := by have := of_decide_eq_true hb; omega
      unfold F196.B7
      refine h2.less E (i := j) (j := j - 1) (by omega) (by omega) rfl (wr (by omega) (by omega)) fun G3 r l3 s3 hr => pif_cases (fun hq => ?_) fun hq => ?_
      · exact k3 G3 S' (h1.trans (Kb.of_le l3)) s3 h3 h4
      · unfold F196.B6
        refine s3.swap E (i := j) (j := j - 1) (by omega) (by omega) rfl (wr (by omega) (by omega)) fun G4 k4 s4 => ?_
        unfold F196.B5
        rw [wr (i := j + 1) (by omega) (by omega)]
        refine ⟨⟨rfl, rfl, rfl, rfl, rfl, rfl, h1.trans ((Kb.of_le l3).trans k4), j + 1, _, rfl, by omega, by omega, s4, h3.trans (swp_seg (by omega) (by omega) (by omega) (by omega) (by omega)), sorted_keep h4 fun q hq => swp_off (by omega) (by omega) (by omega) (by omega)⟩, ?_⟩
        show e - ((j + 1 : Nat) : Int).toNat < e - ((j : Nat) : Int).toNat
        omega
    unfold F196.B17
    rw [wr (i := i - a) (by omega) (by omega)]
    refine pif_cases (fun hb => ?_) fun hb => ?_
    rotate_left
    · have hia : i = a + 1 := by have := of_decide_eq_false hb; omega
      exact k10 G2 S2 (bG.trans k2) s2 g2 fun p q h1 h2 h3 => by omega
    unfold F196.B16
    rw [wr (i := i - 1) (by omega) (by omega)]
    unfold F196.L11
    refine ⟨fun x0 x1 x2 x3 x9 x10 x11 G => sv b N = x0 ∧ (a : Int) = x1 ∧ (e : Int) = x2 ∧ cmp = x3 ∧ (i : Int) = x9 ∧ (m : Int) = x10 ∧ Kb b H G ∧ ∃ (j : Nat) (S' : List Nat), x11 = j ∧ a ≤ j ∧ j ≤ i - 1 ∧ Sq R B G b N dom S' ∧ Seg a e L S' ∧ SortedTo 0 c S' a (i - 1) j,
      fun _ _ _ _ _ _ x11 _ => x11.toNat, ⟨rfl, rfl, rfl, rfl, rfl, rfl, bG.trans k2, i - 1, S2, rfl, by omega, Nat.le_refl _, s2, g2, fun p q h1 h2 h3 h4 => ?_⟩, ?_⟩
    · rw [hS2, swp_off (by omega) (by omega) (by omega) (by omega), swp_off (by omega) (by omega) (by omega) (by omega)]
      exact hS p q h1 h2 (by omega)
    clear s2 g2 k2 hb
    rintro x0 x1 x2 x3 x9 x10 x11 G ⟨rfl, rfl, rfl, rfl, rfl, rfl, h1, j, S', rfl, haj, hj, h2, h3, h4⟩
    have hSl' := h2.len
    have stop : ∀ G, Kb b H G → Sq R B G b N dom S' → (j ≤ a ∨ LeC c (S'.getD (j - 1) 0) (S'.getD j 0)) → F196.B10 K (fun x0 x1 x2 x3 x9 x10 G' => (sv b N = x0 ∧ (a : Int) = x1 ∧ (e : Int) = x2 ∧ cmp = x3 ∧ Kb b H G' ∧ ∃ (i m : Nat) (S : List Nat), x9 = i ∧ x10 = m ∧ m ≤ 5 ∧ a + 1 ≤ i ∧ i ≤ e ∧ Sq R B G' b N dom S ∧ Seg a e L S ∧ SortedIn 0 c a i S) ∧ 5 - x10.toNat < 5 - (m : Int).toNat) (sv b N) a e cmp i m G := by
      intro G h1 h2 hst
      have := h4.stop E.ord hst
      rw [show i - 1 + 1 = i by omega] at this
      exact k10 G S' h1 h2 h3 this
    unfold F196.B15
    refine pif_cases (fun hb => ?_) fun hb => stop G h1 h2 (.inl (by have := of_decide_eq_false hb; omega))
    have hj1 : 1 ≤ j := by have := of_decide_eq_true hb; omega
    unfold F196.B14
    refine h2.less E (i := j) (j := j - 1) (by omega) (by omega) rfl (wr (by omega) (by omega)) fun G3 r l3 s3 hr => pif_cases (fun hq => ?_) fun hq => ?_
    · exact stop G3 (h1.trans (Kb.of_le l3)) s3 (.inr fun hc => by rw [decide_eq_true (hr.2 hc)] at hq; cases hq)
    · have hc := hr.1 (by simpa using hq)
      have hja : a < j := by
        rcases Nat.lt_or_ge a j with h | h
        · exact h
        · have hja : j = a := by omega
          have := (hp.seg h3 (by omega)) (by omega) a (Nat.le_refl _) (by omega)
          rw [← hja] at this
          exact absurd hc this
      unfold F196.B13
      refine s3.swap E (i := j) (j := j - 1) (by omega) (by omega) rfl (wr (by omega) (by omega)) fun G4 k4 s4 => ?_
      unfold F196.B12
      rw [wr (i := j - 1) (by omega) (by omega)]
      refine ⟨⟨rfl, rfl, rfl, rfl, rfl, rfl, h1.trans ((Kb.of_le l3).trans k4), j - 1, _, rfl, by omega, by omega, s4, h3.trans (swp_seg (by omega) (by omega) (by omega) (by omega) (by omega)), h4.step E.ord hja (by omega) hj hc⟩, ?_⟩
      show ((j - 1 : Nat) : Int).toNat < ((j : Nat) : Int).toNat
      omega
  unfold F196.B25
  refine pif_cases (fun hb => ?_) fun hb => b22 G bG sS
  have hil := of_decide_eq_true hb
  refine sS.less E (i := i) (j := i - 1) (by omega) (by omega) rfl (wr (by omega) (by omega)) fun G3 r l3 s3 hr => pif_cases (fun hq => ?_) fun hq => ?_
  · unfold F196.B24
    rw [wr (i := i + 1) (by omega) (by omega)]
    refine ⟨⟨rfl, rfl, rfl, rfl, rfl, bG.trans (Kb.of_le l3), s3, i + 1, rfl, by omega, by omega, sorted_ext E.ord hS fun _ hc => by rw [decide_eq_true (hr.2 hc)] at hq; cases hq⟩, ?_⟩
    show e - ((i + 1 : Nat) : Int).toNat < e - ((i : Nat) : Int).toNat
    omega
  · exact b22 G3 (bG.trans (Kb.of_le l3)) s3

theorem pdqC_ok (E : SE B b N cmp c dom) : ∀ (n : Nat) {H : AHeap} {L : List Nat} {a e : Nat} {lim : Int} {K : Value → AHeap → Prop}, e - a ≤ n → Sq R B H b N dom L → a ≤ e → e ≤ N → PreA c a e L →
    (∀ G S, Kb b H G → Sq R B G b N dom S → Seg a e L S → SortedIn 0 c a e S → K (.tuple ⟨[]⟩) G) →
    AC Try.prog T0 168 [sv b N, .int .i64 a, .int .i64 e, .int .i64 lim, cmp] H K := by
  intro n
  induction n with
  | zero =>
    intro H L a e lim K hn h ha he hp k
    have hN := E.hN
    apply F168.ac
    unfold F168.B32 F168.B31 F168.L1
    refine ⟨fun x0 x1 x2 x3 x4 x10 x11 G => sv b N = x0 ∧ (a : Int) = x1 ∧ (e : Int) = x2 ∧ cmp = x4 ∧ H = G, fun _ _ _ _ _ _ _ _ => 0, ⟨rfl, rfl, rfl, rfl, rfl⟩, ?_⟩
    rintro x0 x1 x2 x3 x4 x10 x11 G ⟨rfl, rfl, rfl, rfl, rfl⟩
    unfold F168.B30
    rw [wr (i := e - a) (by omega) (by omega)]
    unfold F168.B29
    refine pif_t (decide_eq_true (by omega)) ?_
    unfold F168.B28
    exact insC_ok E h ha he fun G S k1 s1 g1 h1 => asTup_k (k G S k1 s1 g1 h1)
  | succ n ih =>
    intro H L a e lim K hn h ha he hp k
    have hN := E.hN
    have hLl := h.len
    apply F168.ac
    unfold F168.B32 F168.B31 F168.L1
    refine ⟨fun x0 x1 x2 x3 x4 x10 x11 G => sv b N = x0 ∧ cmp = x4 ∧ Kb b H G ∧ ∃ (a' e' : Nat) (S : List Nat), x1 = a' ∧ x2 = e' ∧ a ≤ a' ∧ a' ≤ e' ∧ e' ≤ e ∧ Sq R B G b N dom S ∧ Seg a e L S ∧ SortedBut 0 c a e a' e' S,
      fun _ x1 x2 _ _ _ _ _ => x2.toNat - x1.toNat, ⟨rfl, rfl, .refl, a, e, L, rfl, rfl, Nat.le_refl _, ha, Nat.le_refl _, h, .refl, fun i j h1 h2 h3 h4 => by omega⟩, ?_⟩
    rintro x0 x1 x2 lm x4 x10 x11 G ⟨rfl, rfl, bG, a', e', S, rfl, rfl, haa, hae, hee, sS, gS, bS⟩
    have hSl := sS.len
    have step : ∀ {S S2 : List Nat}, SortedBut 0 c a e a' e' S → S.length = N → Seg a' e' S S2 → SortedBut 0 c a e a' e' S2 := fun h1 h2 h3 => h1.seg h3 haa hee (by omega)
    have preA : ∀ {S : List Nat}, Seg a e L S → SortedBut 0 c a e a' e' S → PreA c a' e' S := fun {S} g h h0 q h1 h2 => by
      by_cases e1 : a' = a
      · rw [e1] at h1 h0 ⊢
        exact (hp.seg g (by omega)) h0 q h1 (by omega)
      · exact h (a' - 1) q (by omega) (by omega) (by omega) (.inl (by omega))
    unfold F168.B30
    rw [wr (i := e' - a') (by omega) (by omega)]
    unfold F168.B29
    refine pif_cases (fun hb => ?_) fun hb => ?_
    · unfold F168.B28
      exact insC_ok E sS hae (by omega) fun G2 S2 k2 s2 g2 h2 => asTup_k (k G2 S2 (bG.trans k2) s2 (gS.trans (g2.mono haa hee)) ((step bS hSl g2).fin h2))
    have h12 := of_decide_eq_false hb
    unfold F168.B27
    refine pif_cases (fun hb => ?_) fun hb => ?_
    · unfold F168.B26
      exact heapC_ok E sS hae (by omega) fun G2 S2 k2 s2 g2 h2 => asTup_k (k G2 S2 (bG.trans k2) s2 (gS.trans (g2.mono haa hee)) ((step bS hSl g2).fin h2))
    have hN1 : ∀ (y1 y2 : Int) (lm : Int) (w1 w2 : Bool) G S (a2 e2 : Nat), y1 = a2 → y2 = e2 → a ≤ a2 → a2 ≤ e2 → e2 ≤ e → Kb b H G → Sq R B G b N dom S → Seg a e L S → SortedBut 0 c a e a2 e2 S → e2 - a2 < e' - a' →
        (sv b N = sv b N ∧ cmp = cmp ∧ Kb b H G ∧ ∃ (a' e' : Nat) (S : List Nat), y1 = a' ∧ y2 = e' ∧ a ≤ a' ∧ a' ≤ e' ∧ e' ≤ e ∧ Sq R B G b N dom S ∧ Seg a e L S ∧ SortedBut 0 c a e a' e' S) ∧ y2.toNat - y1.toNat < ((e' : Nat) : Int).toNat - ((a' : Nat) : Int).toNat := by
      intro y1 y2 lm w1 w2 G S a2 e2 h1 h2 h3 h4 h5 h6 h7 h8 h9 h10
      exact ⟨⟨rfl, rfl, h6, a2, e2, S, h1, h2, h3, h4, h5, h7, h8, h9⟩, by omega⟩
    have b12 : ∀ (lm : Int) (p : Nat) G S, a' ≤ p → p < e' → Kb b H G → Sq R B G b N dom S → Seg a e L S → SortedBut 0 c a e a' e' S → F168.B12 K (fun x0 x1 x2 x3 x4 x10 x11 G => (sv b N = x0 ∧ cmp = x4 ∧ Kb b H G ∧ ∃ (a' e' : Nat) (S : List Nat), x1 = a' ∧ x2 = e' ∧ a ≤ a' ∧ a' ≤ e' ∧ e' ≤ e ∧ Sq R B G b N dom S ∧ Seg a e L S ∧ SortedBut 0 c a e a' e' S) ∧ x2.toNat - x1.toNat < ((e' : Nat) : Int).toNat - ((a' : Nat) : Int).toNat) (sv b N) a' e' lm cmp ((e' - a' : Nat) : Int) p G := by
      intro lm p G S hp1 hp2 kG sS gS bS
      have hSl := sS.len
      unfold F168.B12
      refine partC_ok E sS hp1 hp2 (by omega) fun G2 S2 mid q k2 s2 g2 hm1 hm2 hlo hhi => tup2_mk (asI_mk (asB_mk ?_))
      have b2 := step bS hSl g2
      have gg2 := gS.trans (g2.mono haa hee)
      have hS2l := s2.len
      -- everything left of the pivot is at most it, everything right of it at least
      have hsplit : ∀ i j, a' ≤ i → i < j → j < e' → (i < mid ∧ mid ≤ j ∨ i ≤ mid ∧ mid < j) → LeC c (S2.getD i 0) (S2.getD j 0) := by
        intro i j h1 h2 h3 h4
        by_cases e1 : i = mid
        · rw [e1]; exact hhi j (by omega) h3
        · by_cases e2 : j = mid
          · rw [e2]; exact hlo i h1 (by omega)
          · exact E.ord.tr _ _ _ (hlo i h1 (by omega)) (hhi j (by omega) h3)
      unfold F168.B11 F168.B10
      rw [wr (i := mid - a') (by omega) (by omega), wr (i := e' - mid) (by omega) (by omega)]
      unfold F168.B9 F168.B8
      refine pif_cases (fun hb => ?_) fun hb => ?_
      · unfold F168.B4 F168.B3
        refine ih (L := S2) (by omega) s2 hm1 (by omega) (fun h0 q h1 h2 => preA gg2 b2 h0 q h1 (by omega)) fun G3 S3 k3 s3 g3 h3 => asTup_k ?_
        unfold F168.B2
        refine hN1 _ _ lm false false G3 S3 (mid + 1) e' (wr (by omega) (by omega)) rfl (by omega) (by omega) hee (kG.trans (k2.trans k3)) s3 (gg2.trans (g3.mono haa (by omega))) ?_ (by omega)
        have b3 := step b2 hS2l (g3.mono (Nat.le_refl _) (by omega))
        have hS3l := s3.len
        intro i j h1 h2 h4 h5
        by_cases hin : a' ≤ i ∧ j < e'
        · by_cases hj : j < mid
          · exact h3 i j hin.1 h2 hj
          · -- j at least the pivot's place
            have hj' : S3.getD j 0 = S2.getD j 0 := g3.outD (.inr (by omega))
            by_cases hi : i < mid
            · rw [hj']
              exact g3.all (d := 0) (Q := fun x => LeC c x (S2.getD j 0)) (by omega) (fun m hm1 hm2 => hsplit m j hm1 (by omega) hin.2 (.inl ⟨hm2, by omega⟩)) i hin.1 hi
            · rw [hj', g3.outD (i := i) (.inr (by omega))]
              exact hsplit i j hin.1 h2 hin.2 (.inr ⟨by omega, by omega⟩)
        · exact b3 i j h1 h2 h4 (by omega)
      · unfold F168.B7 F168.B6
        rw [wr (i := mid + 1) (by omega) (by omega)]
        refine ih (L := S2) (by omega) s2 (by omega) (by omega) (fun h0 q h1 h2 => by rw [show mid + 1 - 1 = mid by omega]; exact hhi q (by omega) h2) fun G3 S3 k3 s3 g3 h3 => asTup_k ?_
        unfold F168.B5
        refine hN1 _ _ lm false false G3 S3 a' mid rfl rfl haa hm1 (by omega) (kG.trans (k2.trans k3)) s3 (gg2.trans (g3.mono (by omega) hee)) ?_ (by omega)
        have b3 := step b2 hS2l (g3.mono (by omega) (Nat.le_refl _))
        have hS3l := s3.len
        intro i j h1 h2 h4 h5
        by_cases hin : a' ≤ i ∧ j < e'
        · by_cases hi : mid < i
          · exact h3 i j (by omega) h2 hin.2
          · have hi' : S3.getD i 0 = S2.getD i 0 := g3.outD (.inl (by omega))
            by_cases hj : mid < j
            · rw [hi']
              exact g3.all (d := 0) (Q := fun x => LeC c (S2.getD i 0) x) (by omega) (fun m hm1 hm2 => hsplit i m hin.1 (by omega) hm2 (.inr ⟨by omega, by omega⟩)) j (by omega) hin.2
            · rw [hi', g3.outD (i := j) (.inl (by omega))]
              exact hsplit i j hin.1 h2 hin.2 (.inl ⟨by omega, by omega⟩)
        · exact b3 i j h1 h2 h4 (by omega)
    have b15 : ∀ (lm : Int) (w1 w2 : Bool) (p : Nat) G S, a' ≤ p → p < e' → Kb b H G → Sq R B G b N dom S → Seg a e L S → SortedBut 0 c a e a' e' S → F168.B15 K (fun x0 x1 x2 x3 x4 x10 x11 G => (sv b N = x0 ∧ cmp = x4 ∧ Kb b H G ∧ ∃ (a' e' : Nat) (S : List Nat), x1 = a' ∧ x2 = e' ∧ a ≤ a' ∧ a' ≤ e' ∧ e' ≤ e ∧ Sq R B G b N dom S ∧ Seg a e L S ∧ SortedBut 0 c a e a' e' S) ∧ x2.toNat - x1.toNat < ((e' : Nat) : Int).toNat - ((a' : Nat) : Int).toNat) (sv b N) a' e' lm cmp w1 w2 ((e' - a' : Nat) : Int) p G := by
      intro lm w1 w2 p G S hp1 hp2 kG sS gS bS
      have hSl := sS.len
      unfold F168.B15
      refine pif_cases (fun hb => ?_) fun hb => b12 lm p G S hp1 hp2 kG sS gS bS
      have ha0 : 0 < a' := by have := of_decide_eq_true hb; omega
      have hpre := preA gS bS ha0
      refine sS.less E (i := a' - 1) (j := p) (by omega) (by omega) (wr (by omega) (by omega)) rfl fun G1 r l1 s1 hr => pif_cases (fun hq => ?_) fun hq => ?_
      · have hn : ¬ c (S.getD (a' - 1) 0) (S.getD p 0) < 0 := fun hc => by rw [decide_eq_true (hr.2 hc)] at hq; cases hq
        unfold F168.B14
        refine partEq_ok E s1 hp1 hp2 (by omega) fun G2 S2 mid k2 s2 g2 hm1 hm2 hlo => asI_mk ?_
        have b2 := step bS hSl g2
        have hS2l := s2.len
        unfold F168.B13
        refine hN1 _ _ lm w1 w2 G2 S2 mid e' rfl rfl (by omega) hm2 hee (kG.trans ((Kb.of_le l1).trans k2)) s2 (gS.trans (g2.mono haa hee)) (fun i j h1 h2 h4 h5 => ?_) (by omega)
        by_cases hin : a' ≤ i ∧ j < e'
        · have hj : LeC c (S.getD (a' - 1) 0) (S2.getD j 0) := g2.all (d := 0) (Q := fun x => LeC c (S.getD (a' - 1) 0) x) (by omega) hpre j (by omega) hin.2
          exact E.ord.tr _ _ _ (hlo i hin.1 (by omega)) (E.ord.tr _ _ _ hn hj)
        · exact b2 i j h1 h2 h4 (by omega)
      · exact b12 lm p G1 S hp1 hp2 (kG.trans (Kb.of_le l1)) s1 gS bS
    have b17 : ∀ (lm : Int) (w1 w2 : Bool) (p : Nat) (hint : Int) G S, a' ≤ p → p < e' → Kb b H G → Sq R B G b N dom S → Seg a e L S → SortedBut 0 c a e a' e' S → F168.B17 K (fun x0 x1 x2 x3 x4 x10 x11 G => (sv b N = x0 ∧ cmp = x4 ∧ Kb b H G ∧ ∃ (a' e' : Nat) (S : List Nat), x1 = a' ∧ x2 = e' ∧ a ≤ a' ∧ a' ≤ e' ∧ e' ≤ e ∧ Sq R B G b N dom S ∧ Seg a e L S ∧ SortedBut 0 c a e a' e' S) ∧ x2.toNat - x1.toNat < ((e' : Nat) : Int).toNat - ((a' : Nat) : Int).toNat) (sv b N) a' e' lm cmp w1 w2 ((e' - a' : Nat) : Int) p hint G := by
      intro lm w1 w2 p hint G S hp1 hp2 kG sS gS bS
      have hSl := sS.len
      have d := b15 lm w1 w2 p G S hp1 hp2 kG sS gS bS
      unfold F168.B17
      refine pif_cases (fun _ => pif_cases (fun _ => pif_cases (fun _ => ?_) fun _ => d) fun _ => d) fun _ => d
      unfold F168.B16
      refine partIns_ok E sS (by omega) (by omega) (preA gS bS) fun G2 S2 q k2 s2 g2 h2 => asB_mk (pif_cases (fun hq => ?_) fun hq => ?_)
      · exact k G2 S2 (kG.trans k2) s2 (gS.trans (g2.mono haa hee)) ((step bS hSl g2).fin (h2 hq))
      · exact b15 lm w1 w2 p G2 S2 hp1 hp2 (kG.trans k2) s2 (gS.trans (g2.mono haa hee)) (step bS hSl g2)
    have b22 : ∀ (lm : Int) (w1 w2 : Bool) G S, Kb b H G → Sq R B G b N dom S → Seg a e L S → SortedBut 0 c a e a' e' S → F168.B22 K (fun x0 x1 x2 x3 x4 x10 x11 G => (sv b N = x0 ∧ cmp = x4 ∧ Kb b H G ∧ ∃ (a' e' : Nat) (S : List Nat), x1 = a' ∧ x2 = e' ∧ a ≤ a' ∧ a' ≤ e' ∧ e' ≤ e ∧ Sq R B G b N dom S ∧ Seg a e L S ∧ SortedBut 0 c a e a' e' S) ∧ x2.toNat - x1.toNat < ((e' : Nat) : Int).toNat - ((a' : Nat) : Int).toNat) (sv b N) a' e' lm cmp w1 w2 ((e' - a' : Nat) : Int) G := by
      intro lm w1 w2 G S kG sS gS bS
      have hSl := sS.len
      unfold F168.B22
      refine pivotC_ok E sS (by omega) (by omega) fun G2 p hint l2 hp1 hp2 => tup2_mk (asI_mk (asI_mk ?_))
      unfold F168.B21
      refine pif_cases (fun hb => ?_) fun hb => b17 lm w1 w2 p hint G2 S hp1 hp2 (kG.trans (Kb.of_le l2)) (sS.le l2) gS bS
      unfold F168.B20
      refine revC_ok E (sS.le l2) (by omega) (by omega) fun G3 S3 k3 s3 g3 => asTup_k ?_
      unfold F168.B19
      rw [wr (x := ((e' : Nat) : Int) - 1) (i := e' - 1) (by omega) (by omega), wr (x := ((p : Nat) : Int) - (a' : Nat)) (i := p - a') (by omega) (by omega), wr (i := e' - 1 - (p - a')) (by omega) (by omega)]
      unfold F168.B18
      exact b17 lm w1 w2 _ 1 G3 S3 (by omega) (by omega) (kG.trans ((Kb.of_le l2).trans k3)) s3 (gS.trans (g3.mono haa hee)) (step bS hSl g3)
    unfold F168.B25
    refine pif_cases (fun hb => ?_) fun hb => b22 lm x10 x11 G S bG sS gS bS
    unfold F168.B24
    refine breakC_ok E sS (by omega) (by omega) fun G2 S2 k2 s2 g2 => asTup_k ?_
    unfold F168.B23
    exact b22 _ x10 x11 G2 S2 (bG.trans k2) s2 (gS.trans (g2.mono haa hee)) (step bS hSl g2)

/-- Sorting by a function that compares. -/
theorem sortFuncC_ok (E : SE B b N cmp c dom) (h : Sq R B H b N dom L) (k : ∀ G S, Kb b H G → Sq R B G b N dom S → S.Perm L → SortedIn 0 c 0 N S → K (.tuple ⟨[]⟩) G) :
    AC Try.prog T0 124 [sv b N, cmp] H K := by
  have hN := E.hN
  apply F124.ac
  unfold F124.B2
  refine lenK_of ?_
  unfold F124.B1
  rw [w64id (by omega)]
  refine bitsLen_ok (by omega) fun x _ _ _ => asI_mk ?_
  exact pdqC_ok E N (a := 0) (by omega) h (by omega) (Nat.le_refl _) (fun h => absurd h (by omega)) fun G S k1 s1 g1 h1 => asTup_k (k G S k1 s1 g1.perm h1)
end Go.Proofs
/- Contracts: products in two words, a value told again and again. -/
set_option linter.unusedVariables false
set_option linter.unusedSimpArgs false
set_option maxRecDepth 100000
namespace Go.Proofs
open Go.Abs

variable {H : AHeap} {v u f : Value} {l m c : List Int} {es fs : List (Int × Int)} {K : Value → AHeap → Prop}

theorem and32 {y : Int} (h0 : 0 ≤ y) (h1 : y < 4294967296) : IntKind.u64.wrap (((BitVec.ofInt 64 y &&& BitVec.ofInt 64 4294967295).toNat : Nat) : Int) = y := by
  obtain ⟨n, rfl⟩ := Int.eq_ofNat_of_zero_le h0
  have h : (BitVec.ofInt 64 ((n : Nat) : Int) &&& BitVec.ofInt 64 4294967295).toNat = n := by
    rw [BitVec.toNat_and, show (BitVec.ofInt 64 4294967295).toNat = 2 ^ 32 - 1 from by decide, Nat.and_two_pow_sub_one_eq_mod]
    simp only [BitVec.ofInt_natCast, BitVec.toNat_ofNat]
    omega
  rw [h]
  simp only [IntKind.wrap, IntKind.bits, IntKind.signed, Bool.false_and, Bool.false_eq_true, if_false]
  omega
theorem mul64_ok {y : Int} (h0 : 0 ≤ y) (h1 : y < 4294967296) (k : K (.tuple ⟨[.int .u64 0, .int .u64 y]⟩) H) : AC Try.prog T0 216 [.int .u64 1, .int .u64 y] H K := by
  apply F216.ac
  have e0 : Int.fdiv y (2 ^ (min (Int.toNat 32) 64)) = 0 := by
    rw [show (2 : Int) ^ (min (Int.toNat 32) 64) = 4294967296 from by decide, Int.fdiv_eq_ediv_of_nonneg _ (by decide)]; omega
  have w : ∀ z : Int, 0 ≤ z → z < 4294967296 → IntKind.u64.wrap z = z := by
    intro z a b; simp only [IntKind.wrap, IntKind.bits, IntKind.signed, Bool.false_and, Bool.false_eq_true, if_false]; omega
  unfold F216.B12 F216.B11 F216.B10
  rw [and32 (by decide) (by decide)]
  refine ⟨by decide, ?_⟩
  rw [show Int.fdiv 1 (2 ^ (min (Int.toNat 32) 64)) = 0 from by decide]
  unfold F216.B9 F216.B8
  rw [and32 h0 h1]
  refine ⟨by decide, ?_⟩
  rw [e0]
  unfold F216.B7 F216.B6
  refine ⟨by decide, ?_⟩
  rw [Int.one_mul, w y h0 h1, e0, Int.zero_mul, w 0 (by decide) (by decide), show (0 : Int) + 0 = 0 from rfl, w 0 (by decide) (by decide)]
  unfold F216.B5 F216.B4
  rw [and32 (by decide) (by decide)]
  refine ⟨by decide, ?_⟩
  rw [show Int.fdiv 0 (2 ^ (min (Int.toNat 32) 64)) = 0 from by decide]
  unfold F216.B3 F216.B2
  refine ⟨by decide, ?_⟩
  simp only [show (1 : Int) * 0 = 0 from rfl, show (0 : Int) * 0 = 0 from rfl, show (0 : Int) + 0 = 0 from rfl, w 0 (by decide) (by decide), show Int.fdiv 0 (2 ^ (min (Int.toNat 32) 64)) = 0 from by decide]
  unfold F216.B1
  rw [Int.one_mul, w y h0 h1]
  exact k
theorem mul_ok {y : Int} (h0 : 0 ≤ y) (h1 : y < 4294967296) (k : K (.tuple ⟨[.int .u64 0, .int .u64 y]⟩) H) : AC Try.prog T0 208 [.int .u64 1, .int .u64 y] H K := by
  apply F208.ac
  unfold F208.B3 F208.B2
  refine mul64_ok h0 h1 ?_
  exact k
end Go.Proofs
/- Contracts: copies into a row of one's own. -/
set_option linter.unusedVariables false
set_option linter.unusedSimpArgs false
set_option maxRecDepth 100000
namespace Go.Proofs
open Go.Abs

variable {H : AHeap} {l s : List Int}

theorem cp_own {b o n c2 sb so m c : Nat} {K : Nat → AHeap → Prop} (hb : Own H b 2 (LI l)) (hs : Own H sb 2 (LI s)) (hm : 0 < m) (hn : 0 < n) (h1 : so + m ≤ s.length) (h2 : o + n ≤ l.length)
    (k : ∀ G, But b H G → Own G b 2 (LI (l.take o ++ (s.drop so).take (Nat.min m n) ++ l.drop (o + Nat.min m n))) → K (Nat.min m n) G) :
    cpK T0 2 H (.slice (some ⟨b, o, none⟩) n c2) (.slice (some ⟨sb, so, none⟩) m c) K := by
  have hq : Nat.min m n ≤ m ∧ Nat.min m n ≤ n ∧ 0 < Nat.min m n := ⟨Nat.min_le_left _ _, Nat.min_le_right _ _, Nat.lt_min.2 ⟨hm, hn⟩⟩
  have hl : (LI ((s.drop so).take (Nat.min m n))).length = Nat.min m n := by simp only [LI, List.length_map, List.length_take, List.length_drop]; omega
  refine .inr ⟨sb, so, m, c, b, o, n, c2, LI l, LI ((s.drop so).take (Nat.min m n)), rfl, rfl, hb, hq.2.2, ?_, ?_, ?_, k _ But.set ?_⟩
  · rw [hl]; exact (Nat.mul_one _).symm
  · intro i u hu
    rw [hs.cell]
    have hi := lt_of_get hu
    rw [hl] at hi
    simp only [LI, List.getElem?_map] at hu ⊢
    rw [List.getElem?_take_of_lt hi, List.getElem?_drop] at hu
    exact hu
  · rw [hl]; simp only [LI, List.length_map]; omega
  · rw [hl]
    have : b < H.length := lt_of_get hb
    simp only [Own, LI, List.map_append, List.map_take, List.map_drop]
    rw [List.getElem?_set_self this]
end Go.Proofs
/- Contracts: a value told again and again. -/
set_option linter.unusedVariables false
set_option linter.unusedSimpArgs false
set_option maxRecDepth 100000
namespace Go.Proofs
open Go.Abs

variable {H : AHeap} {l s : List Int}

theorem repeat_ok {b1 : Nat} {t n : Int} {K : Value → AHeap → Prop} (o : Own H b1 2 (LI [t])) (h0 : 0 ≤ n) (h1 : n ≤ 1000000)
    (k : ∀ G, H.le G → Own G H.length 2 (LI (List.replicate n.toNat t)) → K (.slice (some ⟨H.length, 0, none⟩) n.toNat (n.toNat + 1)) G) :
    AC Try.prog T0 189 [.slice (some ⟨b1, 0, none⟩) 1 (1 + 1), .int .i64 n] H K := by
  obtain ⟨N, rfl⟩ := Int.eq_ofNat_of_zero_le h0
  have hu : IntKind.u64.wrap ((N : Nat) : Int) = N := by simp only [IntKind.wrap, IntKind.bits, IntKind.signed, Bool.false_and, Bool.false_eq_true, if_false]; omega
  have hb1 : b1 < H.length := lt_of_get o
  apply F189.ac
  unfold F189.B10 F189.B9
  refine pif_f (by simp) ?_
  unfold F189.B8
  refine lenK_of ?_
  rw [hu, show IntKind.u64.wrap ((1 : Nat) : Int) = 1 from by decide]
  refine mul_ok (by omega) (by omega) ?_
  show F189.B7 K _ 0 N H
  unfold F189.B7
  refine pif_f (by decide) (pif_f (by simp; omega) ?_)
  unfold F189.B6
  rw [wrap_id (by omega) (by omega)]
  refine mkR_int (by omega) (by omega) (by decide) fun H2 l2 n2 o2 => ?_
  rw [rep_one, Int.toNat_natCast] at o2
  simp only [Int.toNat_natCast] at k ⊢
  unfold F189.B5
  have main : ∀ (i : Nat) G, i ≤ N → (0 < i ∨ N = 0) → H.le G → Own G H.length 2 (LI (List.replicate i t ++ List.replicate (N - i) 0)) → F189.L2 K (.slice (some ⟨H.length, 0, none⟩) N (N + 1)) (i : Int) G := by
    intro i G hi hp hl ho
    unfold F189.L2
    refine ⟨fun x7 x8 G => x7 = .slice (some ⟨H.length, 0, none⟩) N (N + 1) ∧ ∃ i : Nat, x8 = i ∧ i ≤ N ∧ (0 < i ∨ N = 0) ∧ H.le G ∧ Own G H.length 2 (LI (List.replicate i t ++ List.replicate (N - i) 0)), fun _ x8 _ => N - x8.toNat, ⟨rfl, i, rfl, hi, hp, hl, ho⟩, ?_⟩
    rintro x7 x8 G ⟨rfl, i, rfl, hi, hp, hl, ho⟩
    unfold F189.B4
    refine lenK_of ?_
    by_cases h : i < N
    · refine pif_t (by simp; omega) ?_
      unfold F189.B3
      refine ⟨⟨_, _, ho, by simp [LI]; omega⟩, by omega, by omega, by omega, ?_⟩
      refine ⟨⟨_, _, ho, by simp [LI]; omega⟩, by omega, by omega, by omega, ?_⟩
      simp only [Int.toNat_natCast, Nat.zero_add, Nat.mul_one, Int.toNat_zero, Nat.zero_mul, Nat.sub_zero]
      refine cp_own ho ho (by omega) (by omega) (by first | (simp; done) | (simp; omega)) (by first | (simp; done) | (simp; omega)) fun G2 b2 o2 => ?_
      have hq : Nat.min i (N - i) ≤ i ∧ Nat.min i (N - i) ≤ N - i ∧ 0 < Nat.min i (N - i) := ⟨Nat.min_le_left _ _, Nat.min_le_right _ _, Nat.lt_min.2 ⟨by omega, by omega⟩⟩
      generalize Nat.min i (N - i) = q at hq o2 ⊢
      rw [wrap_id (by omega) (by omega)]
      refine ⟨⟨by first | trivial | rfl, i + q, by omega, by omega, by omega, b2.le hl (Nat.le_refl _), ?_⟩, by omega⟩
      have e : (List.replicate i t ++ List.replicate (N - i) 0).take i ++ ((List.replicate i t ++ List.replicate (N - i) 0).drop 0).take q ++ (List.replicate i t ++ List.replicate (N - i) 0).drop (i + q) = List.replicate (i + q) t ++ List.replicate (N - (i + q)) 0 := by
        rw [List.take_left' (by simp), List.drop_zero, List.take_append_of_le_length (by simp; omega), List.take_replicate, Nat.min_eq_left hq.1, List.replicate_append_replicate, List.drop_append, List.drop_eq_nil_of_le (by simp), List.nil_append, List.drop_replicate, List.length_replicate]
        congr 2; omega
      rw [e] at o2
      exact o2
    · refine pif_f (by simp; omega) ?_
      unfold F189.B1
      obtain rfl : i = N := by omega
      exact k _ hl (by simpa using ho)
  by_cases hN : N = 0
  · subst hN
    exact .inl ⟨_, _, _, _, _, _, rfl, rfl, .inr rfl, main 0 H2 (by omega) (.inr rfl) l2 (by simpa using o2)⟩
  · refine cp_own o2 (l2.2 _ _ o) (by omega) (by omega) (by simp) (by simp) fun G b2 o3 => ?_
    have hq : Nat.min 1 N = 1 := Nat.min_eq_left (by omega)
    rw [hq] at o3 ⊢
    refine main 1 G (by omega) (.inl (by omega)) (b2.le l2 (Nat.le_refl _)) ?_
    simpa using o3
end Go.Proofs
/- Contracts: other ends. -/
set_option linter.unusedVariables false
set_option linter.unusedSimpArgs false
set_option maxRecDepth 100000
namespace Go.Proofs
open Go.Abs

variable {H G : AHeap} {v u f : Value} {l m c D : List Int} {es fs : List (Int × Int)} {K : Value → AHeap → Prop} {A A' : Nat → Prop} {B : Nat} {ls ms : List (List Int)}

theorem other_ok {e : Int × Int} {x : Int} (h1 : 0 ≤ e.1 ∧ e.1 ≤ 1000000) (h2 : 0 ≤ e.2 ∧ e.2 ≤ 1000000) (h3 : 0 ≤ x ∧ x ≤ 1000000) (k : ∀ G, H.le G → K (.int .i64 (e.1 + e.2 - x)) G) : AC Try.prog T0 190 [ve e, .int .i64 x] H K := by
  apply F190.ac
  unfold F190.B2
  refine newK_f rfl fun H1 l1 n1 o1 => ?_
  unfold F190.B1
  have k := k _ l1
  refine ldI_own o1 rfl (ldI_own o1 rfl ?_)
  rw [wrap_id (x := e.1 + e.2) (by omega) (by omega), wrap_id (by omega) (by omega)]
  exact k

end Go.Proofs
/- Contracts: chains, the reference's way; lists of one's own. -/
set_option linter.unusedVariables false
set_option linter.unusedSimpArgs false
set_option maxRecDepth 100000
namespace Go.Proofs
open Go.Abs

variable {H : AHeap} {v u f : Value} {l m c : List Int} {es fs : List (Int × Int)} {K : Value → AHeap → Prop}

theorem ints_cells (h : Ints H v l) : cellsAt H v 1 l.length (LI l) := by
  refine ⟨by simp, ?_⟩
  rcases h with ⟨rfl, rfl⟩ | ⟨a, c, rfl, h⟩
  · exact ⟨none, 0, rfl, .inl rfl⟩
  · refine ⟨some a, c, rfl, ?_⟩
    rcases h with rfl | ⟨h1, h2⟩
    · exact .inl rfl
    · refine .inr ⟨a.block, a.off, ?_, fun i u hu => ?_⟩
      · cases a; cases h1; rfl
      · rw [List.getElem?_map] at hu
        cases hx : l[i]? with
        | none => rw [hx] at hu; cases hu
        | some x => rw [hx] at hu; cases hu; exact h2 i x hx
theorem own_app (h : Ints H v l) (hl : l.length ≤ 4294967296) (k : ∀ v' G, H.le G → Fresh H.length G v' 2 1 (LI l) → K v' G) :
    newK H [] 2 (fun b1 H2 => apK T0 2 H2 (.slice (some ⟨b1, 0, none⟩) 0 (0 + 1)) v K) := by
  refine newK_f rfl fun H2 l2 n2 o2 => ?_
  have f2 : Fresh H.length H2 (.slice (some ⟨H.length, 0, none⟩) 0 (0 + 1)) 2 1 [] := .inr ⟨_, 0, Nat.le_refl _, rfl, o2, rfl⟩
  refine f2.sl.app E_int (by decide) l2.1 (ints_cells (h.le l2)) (by simpa using hl) (fun h0 => ?_) fun v' G k3 _ _ f3 => ?_
  · exact k _ _ l2 (by rw [h0]; exact f2)
  · exact k _ _ (k3.le l2 (Nat.le_refl _)) f3
theorem l01Own_ok (h : Ints H v l) (hl : l.length ≤ 4294967296) (k : ∀ v' G, H.le G → Fresh H.length G v' 2 1 (LI l) → K v' G) : AC Try.prog T0 37 [v] H K := by
  apply F37.ac
  unfold F37.B2 F37.B1
  exact own_app h hl k
end Go.Proofs
/- Lists of lists, continued. -/
set_option linter.unusedVariables false
set_option linter.unusedSimpArgs false
set_option maxRecDepth 100000
namespace Go.Proofs
open Go.Abs

variable {H G : AHeap} {v u f : Value} {l m c D : List Int} {es fs : List (Int × Int)} {K : Value → AHeap → Prop} {A A' : Nat → Prop} {B : Nat} {ls ms : List (List Int)}

theorem fresh_cells {m0 : Nat} {t : TypeId} {z n : Nat} {cs : List Value} (h : Fresh m0 H v t z cs) (hz : 0 < z) (hn : cs.length = n * z) : cellsAt H v z n cs := by
  rcases h with ⟨rfl, h⟩ | ⟨b, k, _, rfl, ho, hk⟩
  · have : n = 0 := by
      cases n with
      | zero => rfl
      | succ n => simp [Nat.add_mul] at hn; omega
    subst this
    rcases h with rfl | ⟨a, rfl⟩
    · exact ⟨hn, _, _, rfl, .inl rfl⟩
    · exact ⟨hn, _, _, rfl, .inl rfl⟩
  · obtain rfl : k = n := Nat.eq_of_mul_eq_mul_right hz (hk.symm.trans hn)
    exact cellsAt_row ho hn
end Go.Proofs
/- Contracts: the place of the least bit, by a table. -/
set_option linter.unusedVariables false
set_option linter.unusedSimpArgs false
set_option maxRecDepth 100000
namespace Go.Proofs
open Go.Abs

variable {H G : AHeap} {K : Value → AHeap → Prop}

def dbj : List Int := [0, 1, 56, 2, 57, 49, 28, 3, 61, 58, 42, 50, 38, 29, 17, 4, 62, 47, 59, 36, 45, 43, 51, 22, 53, 39, 33, 30, 24, 18, 12, 5, 63, 55, 48, 27, 60, 41, 37, 16, 46, 35, 44, 21, 52, 32, 23, 11, 54, 26, 40, 15, 34, 20, 31, 10, 25, 14, 19, 9, 13, 8, 7, 6]
/-- The table is among the variables. -/
def Tab (H : AHeap) : Prop := ∃ e own, H[0]? = some (some (.row (dbj.map (Value.int .u8)) e own))
theorem Tab.le (h : Tab H) (hl : H.le G) : Tab G := by
  obtain ⟨e, o, h⟩ := h; exact ⟨e, o, hl.2 _ _ h⟩
end Go.Proofs
/- Contracts: a function called with all matchings, in order. -/
set_option linter.unusedVariables false
set_option linter.unusedSimpArgs false
set_option maxRecDepth 100000
namespace Go.Proofs
open Go.Abs

variable {H G : AHeap}

/-- What is nobody's own lives on; what becomes somebody's own is new. -/
structure Fr (P : Nat → Prop) (G : AHeap) (P' : Nat → Prop) (G' : AHeap) : Prop where
  len : G.length ≤ G'.length
  own : ∀ b, P' b → P b ∨ G.length ≤ b
  old : ∀ (b : Nat) (o : AObj), ¬ P b → G[b]? = some (some o) → G'[b]? = some (some o)
theorem Fr.le {P : Nat → Prop} {G G' : AHeap} (h : G.le G') : Fr P G P G' := ⟨h.1, fun b hb => .inl hb, fun b o _ ho => h.2 b o ho⟩
theorem Fr.refl {P : Nat → Prop} {G : AHeap} : Fr P G P G := Fr.le (AHeap.le_refl _)
theorem Fr.trans {P P1 P2 : Nat → Prop} {G G1 G2 : AHeap} (h : Fr P G P1 G1) (k : Fr P1 G1 P2 G2) : Fr P G P2 G2 := by
  refine ⟨Nat.le_trans h.len k.len, fun b hb => ?_, fun b o hn ho => k.old b o (fun h1 => ?_) (h.old b o hn ho)⟩
  · rcases k.own b hb with h1 | h1
    · exact h.own b h1
    · exact .inr (Nat.le_trans h.len h1)
  · rcases h.own b h1 with h2 | h2
    · exact hn h2
    · have := lt_of_get ho; omega
theorem Fr.base {P P' : Nat → Prop} {H0 G G' : AHeap} (h : Fr P G P' G') (h0 : H0.le G) (hp : ∀ b, P b → H0.length ≤ b) : H0.le G' ∧ ∀ b, P' b → H0.length ≤ b := by
  refine ⟨⟨Nat.le_trans h0.1 h.len, fun b o ho => h.old b o (fun hb => ?_) (h0.2 b o ho)⟩, fun b hb => ?_⟩
  · have := hp b hb; have := lt_of_get ho; omega
  · rcases h.own b hb with h1 | h1
    · exact hp b h1
    · exact Nat.le_trans h0.1 h1
theorem Fr.sl {P P' : Nat → Prop} {G G' : AHeap} {m : Nat} {v : Value} {t : TypeId} {z : Nat} {cs : List Value} (h : Fr P G P' G') (hs : Sl m G v t z cs) (hn : ∀ b, bk v = some b → ¬ P b) : Sl m G' v t z cs := by
  rcases hs with hs | ⟨b, n, pre, post, h1, rfl, h3, h4⟩
  · exact .inl hs
  · exact .inr ⟨b, n, pre, post, h1, rfl, h.old b _ (hn b rfl) h3, h4⟩

end Go.Proofs
/- Contracts: all matchings, the reference's way. -/
set_option linter.unusedVariables false
set_option linter.unusedSimpArgs false
set_option maxRecDepth 100000
namespace Go.Proofs
open Go.Abs

variable {H G : AHeap} {v u f : Value} {l m c D : List Int} {es fs : List (Int × Int)} {K : Value → AHeap → Prop} {A A' : Nat → Prop} {B : Nat} {ls ms : List (List Int)}

theorem l01Other_ok {n e x : Int} (h : Edges H v es) (h0 : 0 ≤ e) (h1 : e < es.length) (b1 : 0 ≤ (es.getD e.toNat (0, 0)).1 ∧ (es.getD e.toNat (0, 0)).1 ≤ 1000000) (b2 : 0 ≤ (es.getD e.toNat (0, 0)).2 ∧ (es.getD e.toNat (0, 0)).2 ≤ 1000000) (b3 : 0 ≤ x ∧ x ≤ 1000000)
    (k : ∀ G, H.le G → K (.int .i64 ((es.getD e.toNat (0, 0)).1 + (es.getD e.toNat (0, 0)).2 - x)) G) : AC Try.prog T0 111 [.agg ⟨[.int .i64 n, v]⟩, .int .i64 e, .int .i64 x] H K := by
  apply F111.ac
  unfold F111.B2
  refine newK_f (all_iv (edges_one' h)) fun H1 l1 _ o1 => ?_
  unfold F111.B1
  obtain ⟨bb, oo, hk, c1, c2⟩ := (h.le l1).idx h0 h1
  refine ld1_own o1 rfl (hk _ (ldI_mk c1 (ld1_own o1 rfl (hk _ (ldI_mk c2 ?_)))))
  rw [wrap_id (x := _ + _) (by omega) (by omega), wrap_id (by omega) (by omega)]
  exact k _ l1
end Go.Proofs
/- Contracts: free edges, both sides. -/
set_option linter.unusedVariables false
set_option linter.unusedSimpArgs false
set_option maxRecDepth 100000
namespace Go.Proofs
open Go.Abs

variable {H G : AHeap} {v u f : Value} {l m c D : List Int} {es fs : List (Int × Int)} {K : Value → AHeap → Prop} {A A' : Nat → Prop} {B : Nat} {ls ms : List (List Int)}

theorem every_ok {n : Int} (h : Edges H v es) (hl : es.length ≤ 60) (k : ∀ G, H.le G → K (.int .u64 ((2 ^ es.length - 1 : Nat) : Int)) G) : AC Try.prog T0 114 [.agg ⟨[.int .i64 n, v]⟩] H K := by
  apply F114.ac
  unfold F114.B2
  refine newK_f (all_iv (edges_one' h)) fun H1 l1 _ o1 => ?_
  unfold F114.B1
  refine ld1_own o1 rfl ((h.le l1).len ⟨by omega, ?_⟩)
  have e1 : IntKind.u64.wrap (1 * 2 ^ (min (Int.toNat ((es.length : Nat) : Int)) 64)) = ((2 ^ es.length : Nat) : Int) := by
    have := one_shl (i := ((es.length : Nat) : Int)) (by omega) (by omega)
    rw [this, Int.toNat_natCast]
  have hp : (2 : Nat) ^ es.length < 2 ^ 61 := Nat.pow_lt_pow_right (by decide) (by omega)
  have h0 := Nat.two_pow_pos es.length
  have e2 : IntKind.u64.wrap (((2 ^ es.length : Nat) : Int) - 1) = ((2 ^ es.length - 1 : Nat) : Int) := by
    generalize 2 ^ es.length = p at hp h0 ⊢
    rw [show ((p : Nat) : Int) - 1 = ((p - 1 : Nat) : Int) by omega, u64_nat (by omega)]
  rw [e1, e2]
  exact k _ l1
theorem bits_andnot {s t : Nat} (h : s < 2 ^ 64) (g : t < 2 ^ 64) : IntKind.u64.wrap ((BitVec.ofInt 64 (s : Int) &&& ~~~(BitVec.ofInt 64 (t : Int))).toNat : Int) = ((s &&& (2 ^ 64 - (t + 1)) : Nat) : Int) := by
  have hs : s &&& (2 ^ 64 - (t + 1)) < 2 ^ 64 := Nat.lt_of_le_of_lt Nat.and_le_left h
  rw [bv_nat, bv_nat, BitVec.toNat_and, BitVec.toNat_not, BitVec.toNat_ofNat, BitVec.toNat_ofNat, Nat.mod_eq_of_lt h, Nat.mod_eq_of_lt g, show 2 ^ 64 - 1 - t = 2 ^ 64 - (t + 1) by omega, u64_nat hs]
theorem andnot_bit {s t j : Nat} (h : s < 2 ^ 64) (g : t < 2 ^ 64) : (s &&& (2 ^ 64 - (t + 1))).testBit j = (s.testBit j && !t.testBit j) := by
  rw [Nat.testBit_and, Nat.testBit_two_pow_sub_succ g]
  by_cases hj : j < 64
  · simp [hj]
  · rw [testBit_big h (by omega)]; simp
end Go.Proofs
/- Contracts: all edges as a set; distances from a vertex. -/
set_option linter.unusedVariables false
set_option linter.unusedSimpArgs false
set_option maxRecDepth 100000
namespace Go.Proofs
open Go.Abs

variable {H G : AHeap} {v u f : Value} {l m c D : List Int} {es fs : List (Int × Int)} {K : Value → AHeap → Prop} {n : Int}

theorem LI_put (L : List Int) (i : Nat) (x : Int) : (LI L).set i (.int .i64 x) = LI (L.set i x) := List.map_set.symm
theorem rep_get (N x : Nat) : (List.replicate N (-1 : Int)).getD x (-1) = -1 := by
  rw [List.getD_eq_getElem?_getD, List.getElem?_replicate]
  split <;> rfl
/-- Vertices with a distance. -/
def sB (D : List Int) (x : Nat) : Bool := decide (0 ≤ D.getD x (-1))
theorem sB_set {D : List Int} {y : Nat} {d : Int} (hy : y < D.length) (hd : 0 ≤ d) (j : Nat) : sB (D.set y d) j = insB (sB D) y j := by
  unfold sB insB
  rw [getQ_set hy]
  by_cases e : j = y
  · subst e; simp [hd]
  · have : ¬ y = j := fun h => e h.symm
    simp [e, this]
/-- While a vertex is gone round. -/
structure InV (adj : Nat → Nat → Prop) (N e x M : Nat) (P : Nat → Prop) (S : Nat → Bool) (Q : List Nat) : Prop where
  ex : Ex adj e S (x :: Q)
  bnd : ∀ y, S y = true → y < N
  mu : 2 * unseen S N + (Q.length + 1) ≤ M
  past : ∀ j, P j → S j = true
theorem InV.more {adj : Nat → Nat → Prop} {N e x M : Nat} {P P' : Nat → Prop} {S : Nat → Bool} {Q : List Nat} (h : InV adj N e x M P S Q) (hd : ∀ j, P' j → P j ∨ S j = true) : InV adj N e x M P' S Q :=
  ⟨h.ex, h.bnd, h.mu, fun j hj => (hd j hj).elim (h.past j) id⟩
theorem InV.push {adj : Nat → Nat → Prop} {N e x M y : Nat} {P P' : Nat → Prop} {S S' : Nat → Bool} {Q : List Nat} (h : InV adj N e x M P S Q) (hy : adj x y) (hyN : y < N) (hn : S y = false) (hs : ∀ j, S' j = insB S y j) (hd : ∀ j, P' j → P j ∨ j = y) : InV adj N e x M P' S' (Q ++ [y]) := by
  obtain rfl : S' = insB S y := funext hs
  have hx : S x = true := h.ex.q x (by simp)
  refine ⟨h.ex.push hx hy, fun z hz => ?_, ?_, fun j hj => ?_⟩
  · by_cases e' : z = y
    · rw [e']; exact hyN
    · exact h.bnd z (insB_ne hz e')
  · have := unseen_ins (n := N) hyN hn
    have := h.mu
    simp; omega
  · rcases hd j hj with hj | rfl
    · exact insB_of (h.past j hj)
    · exact insB_self _ _
theorem InV.pop {adj : Nat → Nat → Prop} {N e x M : Nat} {P : Nat → Prop} {S : Nat → Bool} {Q : List Nat} (h : InV adj N e x M P S Q) (hd : ∀ y, adj x y → P y) : Ex adj e S Q ∧ 2 * unseen S N + Q.length < M :=
  ⟨h.ex.pop fun y hy => h.past y (hd y hy), by have := h.mu; omega⟩
/-- Other ends of the first t edges at a vertex that are not left out. -/
def PastV (es : List (Int × Int)) (p : Nat → Bool) (x t : Nat) (j : Nat) : Prop := ∃ t' i : Nat, t' < t ∧ t' < (atL es x).length ∧ (atL es x).getD t' 0 = i ∧ p i = true ∧ j = oe es i x
theorem PastV.step {p : Nat → Bool} {x t j i : Nat} (h : PastV es p x (t + 1) j) (hi : (atL es x).getD t 0 = i) : PastV es p x t j ∨ (p i = true ∧ j = oe es i x) := by
  obtain ⟨t', i', h1, h2, h3, h4, h5⟩ := h
  by_cases e : t' = t
  · subst e
    obtain rfl : i' = i := by omega
    exact .inr ⟨h4, h5⟩
  · exact .inl ⟨t', i', by omega, h2, h3, h4, h5⟩
theorem PastV.fin (hE : EndsIn n es) {p : Nat → Bool} {x y : Nat} (h : pAdj es p x y) : PastV es p x (atL es x).length y := by
  obtain ⟨j, h1, h2, h3⟩ := h
  have ho : on (es.getD j (0, 0)) x = true := by rcases h3 with h | h <;> rw [h] <;> simp [on]
  obtain ⟨t, ht, hte⟩ := List.getElem_of_mem (mem_atL.2 ⟨j, rfl, h1, ho⟩)
  refine ⟨t, j, ht, ht, by rw [getD_of ht, hte], h2, ?_⟩
  unfold oe
  rcases h3 with h | h <;> rw [h] <;> simp only <;> omega
/-- The marks of a row of distances. -/
def farB (G : AHeap) (b : Nat) (j : Nat) : Bool :=
  match G[b]? with
  | some (some (.row cs _ _)) => (match cs[j]? with | some (.int _ x) => decide (0 ≤ x) | _ => false)
  | _ => false
theorem farB_own {b : Nat} {t : TypeId} (h : Own G b t (LI D)) : farB G b = sB D := by
  funext j
  unfold farB sB
  rw [show G[b]? = _ from h]
  by_cases hj : j < D.length
  · simp [hj]
  · simp [hj]
/-- What the loop keeps. -/
structure DsT (bf : Nat) (N : Nat) (G : AHeap) (D : List Int) : Prop where
  own : Own G bf 2 (LI D)
  len : D.length = N
  lo : ∀ x, -1 ≤ D.getD x (-1)
  hi : ∀ x, D.getD x (-1) ≤ 1000 - (unseen (sB D) N : Int)
theorem DsT.set {bf N y x : Nat} (h : DsT bf N G D) (hy : y < N) (hn : sB D y = false) (hx : sB D x = true) {G' : AHeap} (ho : Own G' bf 2 (LI (D.set y (D.getD x (-1) + 1)))) : DsT bf N G' (D.set y (D.getD x (-1) + 1)) := by
  have hl := h.len
  have hx0 : 0 ≤ D.getD x (-1) := of_decide_eq_true hx
  have hs : sB (D.set y (D.getD x (-1) + 1)) = insB (sB D) y := funext fun j => sB_set (by omega) (by omega) j
  have hu := unseen_ins (S := sB D) (n := N) hy hn
  refine ⟨ho, by simp [hl], fun z => ?_, fun z => ?_⟩
  · rw [getQ_set (by omega)]
    split
    · omega
    · exact h.lo z
  · rw [hs, getQ_set (by omega)]
    have h1 := h.hi x
    have h2 := h.hi z
    split <;> omega
set_option maxHeartbeats 1000000 in
theorem distances_ok {s a : Nat} (h : Edges H v es) (hg : IsG n es) (hs : s < 2 ^ 64) (ha : (a : Int) < n)
    (k : ∀ v' D G, H.le G → Fresh H.length G v' 2 1 (LI D) → D.length = n.toNat → (∀ x : Nat, x < n.toNat → (0 ≤ D.getD x (-1) ↔ Rch (pAdj es fun j => !s.testBit j) a x)) → K v' G) :
    AC Try.prog T0 166 [.agg ⟨[.int .i64 n, v]⟩, .int .i64 (a : Nat), .int .u64 (s : Nat)] H K := by
  have h30 : es.length ≤ 30 := by have := hg.ed.len; have := hg.ed.hi; omega
  have hn20 := hg.ed.hi
  have hE := hg.endsIn
  obtain ⟨N, hN⟩ : ∃ N : Nat, n = N := ⟨n.toNat, by omega⟩
  apply F166.ac
  unfold F166.B17
  refine newK_f (all_iv (edges_one' h)) fun H1 l1 n1 o1 => ?_
  unfold F166.B16
  refine newK_f rfl fun H2 l2 n2 o2 => ldI_own (o1.le l2) rfl (repeat_ok (t := -1) o2 (by omega) (by omega) fun H3 l3 o3 => ?_)
  subst hN
  rw [Int.toNat_natCast] at o3 k ⊢
  have haN : a < N := by omega
  unfold F166.B15
  refine own_idx (by omega) (by omega) (stK_1 o3 (by simp; omega) rfl fun H4 b4 o4 => ?_)
  unfold F166.B14
  refine newK_f rfl fun H5 l5 n5 o5 => ?_
  have hbf := o4.lt
  have l24 : H2.le H4 := b4.le l3 (Nat.le_refl _)
  have l02 := AHeap.le_trans l1 l2
  have l05 : H.le H5 := AHeap.le_trans l02 (AHeap.le_trans l24 l5)
  have o15 : Own H5 H.length 31 _ := (o1.le l2).le (AHeap.le_trans l24 l5)
  have hb1 : H.length < H2.length := (o1.le l2).lt
  rw [Int.toNat_natCast, LI_put] at o4
  let p : Nat → Bool := fun j => !s.testBit j
  have hS0 : ∀ x, sB ((List.replicate N (-1)).set a 0) x = true ↔ x = a := fun x => by
    rw [sB_set (by rw [List.length_replicate]; exact haN) (Int.le_refl _)]
    unfold insB sB
    rw [rep_get, decide_eq_false (by omega), Bool.false_or, decide_eq_true_iff, eq_comm]
  have hu0 := unseen_le (sB ((List.replicate N (-1)).set a 0)) N
  have hv0 : ∀ x, -1 ≤ ((List.replicate N (-1 : Int)).set a 0).getD x (-1) ∧ ((List.replicate N (-1 : Int)).set a 0).getD x (-1) ≤ 0 := fun x => by
    rw [getQ_set (by rw [List.length_replicate]; exact haN), rep_get]
    split <;> omega
  unfold F166.L2
  refine ⟨fun x2 x3 x7 x8 G => (s : Int) = x2 ∧ H.length = x3 ∧ .slice (some ⟨H2.length, 0, none⟩) N (N + 1) = x7 ∧ H.le G ∧ Own G H.length 31 [.int .i64 (N : Int), v] ∧ H4.length ≤ G.length ∧ ∃ (D : List Int) (Q : List Nat), DsT H2.length N G D ∧ Ex (pAdj es p) a (sB D) Q ∧ (∀ y, sB D y = true → y < N) ∧ 2 * unseen (sB D) N + Q.length ≤ 100 ∧ Sl H4.length G x8 2 1 (LI (NI Q)),
    fun _ _ x7 x8 G => 2 * unseen (farB G H2.length) N + lenV x8, ⟨rfl, rfl, rfl, l05, o15, l5.1, _, [a], ⟨o4.le l5, by simp, fun x => (hv0 x).1, fun x => by have := (hv0 x).2; omega⟩, .init hS0, fun y hy => by rw [(hS0 y).1 hy]; exact haN, by simp; omega, Fresh.sl (.inr ⟨_, 1, Nat.le_refl _, rfl, o5, rfl⟩)⟩, ?_⟩
  clear o5 l5 n5 o15 l05 o4 b4 o3 l3 o2 n2
  rintro x2 x3 x7 x8 G ⟨rfl, rfl, rfl, lG, oG, hlG, D, Q, hD, hX, hB, hU, hQ⟩
  unfold F166.B13
  refine hQ.len (by decide) (n := Q.length) (by simp) (pif_cases (fun hb => ?_) fun hb => ?_)
  · cases Q with
    | nil => simp at hb
    | cons x Q =>
    have hxN : x < N := hB x (hX.q x (by simp))
    have hmu : 2 * unseen (farB G H2.length) N + lenV x8 = 2 * unseen (sB D) N + (Q.length + 1) := by
      rw [Sl_lenV hQ, farB_own hD.own]; simp
    have hU : 2 * unseen (sB D) N + (Q.length + 1) ≤ 100 := hU
    have hx0 : (0 : Int) ≤ (x : Int) ∧ (x : Int) < (N : Int) := by omega
    have h3 := hg.three hx0.1 hx0.2
    unfold F166.B12
    refine ldI_own oG rfl (ld1_own oG rfl (hQ.ints.rd (by decide) (by simp) ?_))
    rw [show (NI (x :: Q)).getD (0 : Int).toNat 0 = (x : Int) from rfl]
    refine at_ok (h.le lG) (by omega) fun w G2 hG2 hF => hF.len (by decide) (n := 3) (by rw [List.length_map, h3]) ?_
    have lG2 := AHeap.le_trans lG hG2
    obtain ⟨M0, hM0⟩ : ∃ M0, M0 = 2 * unseen (farB G H2.length) N + lenV x8 := ⟨_, rfl⟩
    rw [← hM0] at hmu
    have hM100 : M0 ≤ 100 := by omega
    unfold F166.L4
    refine ⟨fun x2 x3 x7 x8 x30 x31 x32 G => (s : Int) = x2 ∧ H.length = x3 ∧ .slice (some ⟨H2.length, 0, none⟩) N (N + 1) = x7 ∧ w = x30 ∧ 3 = x31 ∧ H.le G ∧ Own G H.length 31 [.int .i64 (N : Int), v] ∧ H4.length ≤ G.length ∧ Sl 0 G w 2 1 (LI (atL es x)) ∧ (∀ b, bk w = some b → bk x8 ≠ some b ∧ b ≠ H2.length) ∧
        ∃ (t : Nat) (D : List Int) (R : List Nat), x32 = t ∧ t ≤ 3 ∧ DsT H2.length N G D ∧ InV (pAdj es p) N a x M0 (PastV es p x t) (sB D) R ∧ Sl H4.length G x8 2 1 (LI (NI (x :: R))),
      fun _ _ _ _ _ _ x32 _ => 3 - x32.toNat, ⟨rfl, rfl, rfl, rfl, rfl, lG2, oG.le hG2, Nat.le_trans hlG hG2.1, hF.less (Nat.zero_le _), fun b hb => ?_, 0, D, Q, rfl, by omega, ⟨hD.own.le hG2, hD.len, hD.lo, hD.hi⟩, ⟨hX, hB, by omega, fun j ⟨t', _, h, _⟩ => absurd h (by omega)⟩, hQ.le hG2⟩, ?_⟩
    · have h1 := (hF.lt hb).1
      exact ⟨fun hb' => by have := (hQ.lt hb').2; omega, by omega⟩
    clear hX hQ hF hD hU hB hb hG2 lG2 lG oG hlG hmu
    rintro x2 x3 x7 x8' x30 x31 x32 G ⟨rfl, rfl, rfl, rfl, rfl, lG, oG, hlG, hW, hA, t, D, R, rfl, ht, hD, hX, hQ⟩
    have hDl := hD.len
    unfold F166.B11
    refine pif_cases (fun hb => ?_) fun hb => ?_
    · have ht3 : t < 3 := by have := of_decide_eq_true hb; omega
      obtain ⟨i, hi1, hi2, hi3⟩ := at_get (es := es) (w := (x : Int)) (t := t) (by omega)
      obtain ⟨q1, q2, q3, q4, q5⟩ := oe_of hE hi2 hi3
      have hwN : oe es i x < N := by omega
      have hadj : p i = true → pAdj es p x (oe es i x) := fun hp => by
        obtain ⟨c, d, hcd, hne, _⟩ := hE.get i hi2
        refine ⟨i, hi2, hp, ?_⟩
        have e1 := q5 c; have e2 := q5 d
        rw [hcd] at e1 e2 q1 hi3 ⊢
        simp only [on, Bool.or_eq_true, beq_iff_eq] at hi3
        simp only at q1
        rcases hi3 with h | h
        · left; rw [Prod.mk.injEq]; omega
        · right; rw [Prod.mk.injEq]; omega
      have hpast : ∀ j, PastV es p x (t + 1) j → PastV es p x t j ∨ (p i = true ∧ j = oe es i x) := fun j hj => hj.step hi1
      obtain ⟨d1, d2, d3, d4, d5⟩ := hg.ed.ends es[i] (List.getElem_mem hi2)
      rw [← getD_of (d := (0, 0)) hi2] at d1 d2 d3 d4 d5
      obtain ⟨bb, oo, hk, c1, c2⟩ := (h.le lG).idx (show (0 : Int) ≤ i by omega) (by omega)
      simp only [Int.toNat_natCast] at c1 c2
      unfold F166.B10
      refine hW.ints.rd (by omega) (by omega) ?_
      simp only [Int.toNat_natCast, hi1]
      unfold F166.B9
      refine ld1_own oG rfl (hk _ (ldI_mk c1 (ldI_mk c2 (hQ.ints.rd (by decide) (by simp) ?_))))
      rw [show (NI (x :: R)).getD (0 : Int).toNat 0 = (x : Int) from rfl]
      refine other_ok (by omega) (by omega) (by omega) fun G2 lG2 => asI_mk ?_
      rw [q1]
      have oG := oG.le lG2
      have hW := hW.le lG2
      have hQ := hQ.le lG2
      have hD : DsT H2.length N G2 D := ⟨hD.own.le lG2, hD.len, hD.lo, hD.hi⟩
      have lG := AHeap.le_trans lG lG2
      have hlG := Nat.le_trans hlG lG2.1
      have rdD : ∀ y : Nat, y < N → (LI D)[(y : Int).toNat]? = some (.int .i64 (D.getD y (-1))) := fun y hy => by
        have hy' : y < D.length := by omega
        rw [Int.toNat_natCast, List.getElem?_map, List.getElem?_eq_getElem hy', getD_of hy']; rfl
      unfold F166.B8
      refine own_idx (by omega) (by omega) (ldI_own hD.own (rdD _ hwN) (pif_cases (fun hb => ?_) fun hb => ?_))
      · have hn : sB D (oe es i x) = false := by unfold sB; have := of_decide_eq_true hb; exact decide_eq_false (by omega)
        refine has_ok hs (by omega) (asB_mk (pif_cases (fun hb => ?_) fun hb => ?_))
        · have hp : p i = true := by
            show (!s.testBit i) = true
            simpa using hb
          have hxs : sB D x = true := hX.ex.q x (by simp)
          have dx0 : 0 ≤ D.getD x (-1) := of_decide_eq_true hxs
          have dx1 := hD.hi x
          unfold F166.B7
          refine hQ.ints.rd (by decide) (by simp) ?_
          rw [show (NI (x :: R)).getD (0 : Int).toNat 0 = (x : Int) from rfl]
          refine own_idx (by omega) (by omega) (ldI_own hD.own (rdD _ hxN) (own_idx (by omega) (by omega) (stK_1 hD.own (by simp; omega) rfl fun G3 b3 o3 => ?_)))
          rw [wrap_id (by omega) (by omega)] at o3
          rw [Int.toNat_natCast, LI_put] at o3
          have hD3 := hD.set hwN hn hxs o3
          have hbQ : ∀ b, bk x8' = some b → b ≠ H2.length := fun b hb => by have := (hQ.lt hb).1; omega
          have hQ3 : Sl H4.length G3 x8' 2 1 (LI (NI (x :: R))) := hQ.oth (w := .slice (some ⟨H2.length, 0, none⟩) 0 (0 + 1)) (fun c o hc ho => by rw [b3.same c (fun h => hc (by rw [h]; rfl))]; exact ho) fun b hb hb' => hbQ b hb (by cases hb'; rfl)
          unfold F166.B6
          have hb3 := b3.len
          refine hQ3.pushN E_int (by decide) (by omega) (n := 1) (ys := [.int .i64 (oe es i x : Nat)]) rfl rfl (by have := hX.mu; simp; omega) (by simp) fun v' G4 k4 ot4 nb4 f4 => ?_
          have lH3 : H.le G3 := b3.le lG (by omega)
          unfold F166.B5
          rw [wrap_id (by omega) (by omega)]
          have hD4 : DsT H2.length N G4 (D.set (oe es i x) (D.getD x (-1) + 1)) := ⟨k4.old _ _ (by have := hD3.own.lt; omega) hD3.own, hD3.len, hD3.lo, hD3.hi⟩
          have hW3 : Sl 0 G3 w 2 1 (LI (atL es x)) := hW.oth (w := .slice (some ⟨H2.length, 0, none⟩) 0 (0 + 1)) (fun c o hc ho => by rw [b3.same c (fun h => hc (by rw [h]; rfl))]; exact ho) fun b hb hb' => (hA b hb).2 (by cases hb'; rfl)
          refine ⟨⟨rfl, rfl, rfl, rfl, rfl, k4.le lH3 (by omega), k4.old _ _ (by omega) (by rw [b3.same _ (by omega)]; exact oG), by have := k4.len; omega, hW3.oth ot4 fun b hb => (hA b hb).1, fun b hb => ⟨fun hb' => by have := (hW3.lt hb).2; have := nb4 b hb'; omega, (hA b hb).2⟩, t + 1, D.set (oe es i x) (D.getD x (-1) + 1), R ++ [oe es i x], by omega, by omega, hD4, hX.push (hadj hp) hwN hn (fun j => sB_set (by omega) (by omega) j) (fun j hj => (hpast j hj).imp id fun h => h.2), by simpa using f4.sl⟩, by simp; omega⟩
        · have hp : p i = false := by
            show (!s.testBit i) = false
            simpa using hb
          unfold F166.B5
          rw [wrap_id (by omega) (by omega)]
          refine ⟨⟨rfl, rfl, rfl, rfl, rfl, lG, oG, hlG, hW, hA, t + 1, D, R, by omega, by omega, hD, hX.more fun j hj => ?_, hQ⟩, by simp; omega⟩
          rcases hpast j hj with h | ⟨h, _⟩
          · exact .inl h
          · rw [hp] at h; cases h
      · have hn : sB D (oe es i x) = true := by unfold sB; have := of_decide_eq_false hb; exact decide_eq_true (by omega)
        unfold F166.B5
        rw [wrap_id (by omega) (by omega)]
        refine ⟨⟨rfl, rfl, rfl, rfl, rfl, lG, oG, hlG, hW, hA, t + 1, D, R, by omega, by omega, hD, hX.more fun j hj => ?_, hQ⟩, by simp; omega⟩
        rcases hpast j hj with h | ⟨_, rfl⟩
        · exact .inl h
        · exact .inr hn
    · have ht3 : t = 3 := by have := of_decide_eq_false hb; omega
      subst ht3
      unfold F166.B3
      obtain ⟨hE2, hlt⟩ := hX.pop fun y hy => by rw [← h3]; exact PastV.fin hE hy
      refine hQ.drop (i := 1) (n := R.length + 1) (by simp) (by decide) (by omega) (by omega) fun v' hv' => ?_
      have hv' : Sl H4.length G v' 2 1 (LI (NI R)) := by simpa using hv'
      refine ⟨⟨rfl, rfl, rfl, lG, oG, hlG, D, R, hD, hE2, hX.bnd, by omega, hv'⟩, ?_⟩
      show 2 * unseen (farB G H2.length) N + lenV v' < 2 * unseen (farB _ H2.length) N + lenV x8
      rw [farB_own hD.own, Sl_lenV hv', ← hM0]
      simpa using hlt
  · have hz : Q = [] := by
      have := of_decide_eq_false hb
      cases Q with
      | nil => rfl
      | cons x Q => simp at this
    subst hz
    unfold F166.B1
    have hDl := hD.len
    refine k _ D G lG (.inr ⟨_, N, by omega, rfl, hD.own, by simp [hDl]⟩) hDl fun x hx => ?_
    rw [← hX.fin x]
    exact decide_eq_true_iff.symm
end Go.Proofs
/- Contracts: cycles whose sums are all even sets. -/
set_option linter.unusedVariables false
set_option linter.unusedSimpArgs false
set_option maxRecDepth 100000
namespace Go.Proofs
open Go.Abs

variable {H G : AHeap} {v u f : Value} {l m c D : List Int} {es fs : List (Int × Int)} {K : Value → AHeap → Prop} {n : Int}

/-- The forest of the first edges. -/
structure ForTo (es : List (Int × Int)) (T i : Nat) : Prop where
  lt : ∀ j, T.testBit j = true → j < i
  is : ∀ j, j < i → j < es.length → ∀ a b : Nat, es.getD j (0, 0) = ((a : Int), (b : Int)) → (T.testBit j = true ↔ ¬ Rch (pAdj es fun k => T.testBit k && decide (k < j)) a b)
theorem ForTo.step {T T' i : Nat} (h : ForTo es T i) (hi : i < es.length) (ho : ∀ j, j ≠ i → T'.testBit j = T.testBit j)
    (hs : ∀ a b : Nat, es.getD i (0, 0) = ((a : Int), (b : Int)) → (T'.testBit i = true ↔ ¬ Rch (pAdj es fun k => T.testBit k) a b)) : ForTo es T' (i + 1) := by
  refine ⟨fun j hj => ?_, fun j hj hjm a b hab => ?_⟩
  · by_cases e : j = i
    · omega
    · rw [ho j e] at hj; have := h.lt j hj; omega
  · have e1 : ∀ j, j ≤ i → (fun k => T'.testBit k && decide (k < j)) = fun k => T.testBit k && decide (k < j) := fun j hj => by
      funext k
      by_cases e : k = i
      · have : ¬ k < j := by omega
        simp [this]
      · rw [ho k e]
    rw [e1 j (by omega)]
    by_cases e : j = i
    · subst e
      rw [hs a b hab]
      have e2 : (fun k => T.testBit k && decide (k < j)) = fun k => T.testBit k := by
        funext k
        cases hk : T.testBit k with
        | false => rfl
        | true => simp [h.lt k hk]
      rw [e2]
    · rw [ho j e]; exact h.is j (by omega) hjm a b hab
theorem ForTo.forest {T : Nat} (h : ForTo es T es.length) : Forest es fun j => T.testBit j := by
  refine ⟨fun j hj ht a b hab => (h.is j hj hj a b hab).1 ht, fun j hj ht a b hab => ?_⟩
  apply Classical.byContradiction
  intro hn
  have := (h.is j hj hj a b hab).2 hn
  rw [ht] at this; cases this
theorem pAdj_same {p q : Nat → Bool} (h : ∀ j, j < es.length → p j = q j) : pAdj es p = pAdj es q := by
  funext a b
  exact propext ⟨pAdj_mono (fun j hj hp => by rw [← h j hj]; exact hp) a b, pAdj_mono (fun j hj hp => by rw [h j hj]; exact hp) a b⟩

set_option maxHeartbeats 1000000 in
theorem basis_ok (h : Edges H v es) (hg : IsG n es)
    (k : ∀ v' os (t : Nat → Bool) G, H.le G → Fresh H.length G v' 82 1 (LU os) → Forest es t → Bas n es t es.length os → (∀ o ∈ os, o < 2 ^ 64) → K v' G) :
    AC Try.prog T0 120 [.agg ⟨[.int .i64 n, v]⟩] H K := by
  have h30 : es.length ≤ 30 := by have := hg.ed.len; have := hg.ed.hi; omega
  have hn20 := hg.ed.hi
  have hE := hg.endsIn
  have p30 : 2 ^ es.length ≤ 2 ^ 30 := Nat.pow_le_pow_right (by decide) h30
  have q30 := Nat.two_pow_pos es.length
  apply F120.ac
  unfold F120.B32
  refine newK_f (all_iv (edges_one' h)) fun H1 l1 n1 o1 => ?_
  unfold F120.B31 F120.B30 F120.B29
  refine ld1_own o1 rfl ((h.le l1).len ?_)
  unfold F120.L23
  refine ⟨fun x1 x3 x4 x13 x14 x15 G => H.length = x1 ∧ .slice none 0 0 = x4 ∧ v = x13 ∧ (es.length : Int) = x14 ∧ H1.le G ∧ ∃ i T : Nat, x15 = i ∧ x3 = (T : Int) ∧ i ≤ es.length ∧ ForTo es T i, fun _ _ _ _ _ x15 _ => es.length - x15.toNat, ⟨rfl, rfl, rfl, rfl, AHeap.le_refl _, 0, 0, rfl, rfl, by omega, ⟨fun j hj => by simp at hj, fun j hj => by omega⟩⟩, ?_⟩
  rintro x1 x3 x4 x13 x14 x15 G ⟨rfl, rfl, rfl, rfl, lG1, i, T, rfl, rfl, hi, hT⟩
  have lG := AHeap.le_trans l1 lG1
  have oG := o1.le lG1
  have hTm : ∀ {T : Nat}, ForTo es T es.length → T < 2 ^ es.length := fun hT => bits_lt fun j hj => hT.lt j hj
  have hT64 : T < 2 ^ 64 := by
    have : T < 2 ^ i := bits_lt fun j hj => hT.lt j hj
    have : 2 ^ i ≤ 2 ^ 30 := Nat.pow_le_pow_right (by decide) (by omega)
    omega
  unfold F120.B28
  refine pif_cases (fun hb => ?_) fun hb => ?_
  · have hlt : i < es.length := by have := of_decide_eq_true hb; omega
    obtain ⟨a, b, hab, hne, han, hbn⟩ := hE.get i hlt
    obtain ⟨bb, oo, hk, c1, c2⟩ := (h.le lG).idx (show (0 : Int) ≤ i by omega) (by omega)
    simp only [Int.toNat_natCast, hab] at c1 c2
    unfold F120.B27
    refine hk _ (ldI_mk c1 (ldI_mk c2 (newK_f rfl fun G1 g1 m1 p1 => stK_f (new := [.int .i64 (a : Int), .int .i64 (b : Int)]) p1 (by simp) (by intro v hv; simp at hv; rcases hv with rfl | rfl <;> rfl) rfl fun G2 b2 p2 => ?_)))
    have lG2 : G.le G2 := b2.le g1 (Nat.le_refl _)
    have oG2 := oG.le lG2
    have hG2 := h.le (AHeap.le_trans lG lG2)
    unfold F120.B26
    refine ldI_own oG2 rfl (ld1_own oG2 rfl (ldI_own p2 rfl (ldI_own oG2 rfl (ld1_own oG2 rfl (ldI_own p2 rfl (every_ok hG2 (by omega) fun G3 l3 => asI_mk ⟨l3, ?_⟩))))))
    have hev : 2 ^ es.length - 1 < 2 ^ 64 := by omega
    rw [bits_andnot hev hT64]
    obtain ⟨X, hX⟩ : ∃ X, X = (2 ^ es.length - 1) &&& (2 ^ 64 - (T + 1)) := ⟨_, rfl⟩
    have hXb : ∀ j, X.testBit j = (decide (j < es.length) && !T.testBit j) := fun j => by rw [hX, andnot_bit hev hT64, Nat.testBit_two_pow_sub_one]
    have hX64 : X < 2 ^ 64 := by rw [hX]; exact Nat.lt_of_le_of_lt Nat.and_le_left hev
    rw [← hX]
    refine distances_ok (hG2.le l3) hg hX64 han fun w D G4 l4 fD lD hD => ⟨l4, ?_⟩
    have hread := hD b (by omega)
    rw [pAdj_same (q := fun k => T.testBit k) fun j hj => by rw [hXb]; simp [hj]] at hread
    have hgd : D.getD b 0 = D.getD b (-1) := by
      have : b < D.length := by omega
      simp [List.getD, this]
    refine fD.ints.rd (by omega) (by omega) ?_
    rw [Int.toNat_natCast, hgd]
    have l24 := AHeap.le_trans lG1 (AHeap.le_trans lG2 (AHeap.le_trans l3 l4))
    refine pif_cases (fun hb => ?_) fun hb => ?_
    · have hno : ¬ Rch (pAdj es fun k => T.testBit k) a b := fun hr => by have := hread.2 hr; have := of_decide_eq_true hb; omega
      have pi : 2 ^ i < 2 ^ 64 := Nat.pow_lt_pow_right (by decide) (by omega)
      unfold F120.B25
      refine ⟨by omega, ?_⟩
      rw [one_shl (by omega) (by omega), Int.toNat_natCast, bits_or hT64 pi]
      unfold F120.B24
      rw [wrap_id (by omega) (by omega)]
      refine ⟨⟨rfl, rfl, rfl, rfl, l24, i + 1, T ||| 2 ^ i, by omega, rfl, by omega, hT.step hlt (fun j hj => ?_) fun a' b' hab' => ?_⟩, by simp; omega⟩
      · rw [or_bit]; unfold insB
        have : ¬ i = j := fun h => hj h.symm
        simp [this]
      · rw [hab] at hab'
        simp only [Prod.mk.injEq] at hab'
        obtain rfl : a = a' := by omega
        obtain rfl : b = b' := by omega
        rw [or_bit, insB_self]
        exact ⟨fun _ => hno, fun _ => rfl⟩
    · have hyes : Rch (pAdj es fun k => T.testBit k) a b := hread.1 (by have := of_decide_eq_false hb; omega)
      unfold F120.B24
      rw [wrap_id (by omega) (by omega)]
      refine ⟨⟨rfl, rfl, rfl, rfl, l24, i + 1, T, by omega, rfl, by omega, hT.step hlt (fun j hj => rfl) fun a' b' hab' => ?_⟩, by simp; omega⟩
      rw [hab] at hab'
      simp only [Prod.mk.injEq] at hab'
      obtain rfl : a = a' := by omega
      obtain rfl : b = b' := by omega
      exact ⟨fun ht => by have := hT.lt i ht; omega, fun hn => absurd hyes hn⟩
  · have hie : i = es.length := by have := of_decide_eq_false hb; omega
    subst hie
    have ht := hT.forest
    have hTl : T < 2 ^ es.length := hTm hT
    have hTlt := hT.lt
    unfold F120.B22
    refine ld1_own oG rfl ((h.le lG).len ?_)
    unfold F120.L2
    refine ⟨fun x1 x3 x4 x40 x41 G => H.length = x1 ∧ (T : Int) = x3 ∧ (es.length : Int) = x40 ∧ H1.le G ∧ ∃ (i : Nat) (os : List Nat), x41 = i ∧ i ≤ es.length ∧ Fresh H1.length G x4 82 1 (LU os) ∧ Bas n es (fun j => T.testBit j) i os ∧ ∀ o ∈ os, o < 2 ^ 64, fun _ _ _ _ x41 _ => es.length - x41.toNat, ⟨rfl, rfl, rfl, lG1, 0, [], rfl, by omega, .inl ⟨rfl, .inl rfl⟩, .nil, fun o ho => by cases ho⟩, ?_⟩
    clear lG1 lG oG hT hb
    rintro x1 x3 x4 x40 x41 G ⟨rfl, rfl, rfl, lG1, i, os, rfl, hi, hF, hB, ho64⟩
    have lG := AHeap.le_trans l1 lG1
    have oG := o1.le lG1
    unfold F120.B21
    refine pif_cases (fun hb => ?_) fun hb => ?_
    · have hlt : i < es.length := by have := of_decide_eq_true hb; omega
      have hol := hB.len
      unfold F120.B20 F120.B19
      refine has_ok hT64 (by omega) (asB_mk (pif_cases (fun hb => ?_) fun hb => ?_))
      · rw [Int.toNat_natCast] at hb
        unfold F120.B3
        rw [wrap_id (by omega) (by omega)]
        exact ⟨⟨rfl, rfl, rfl, lG1, i + 1, os, by omega, by omega, hF, .tree hB hb, ho64⟩, by simp; omega⟩
      · rw [Int.toNat_natCast] at hb
        obtain ⟨a, b, hab, hne, han, hbn⟩ := hE.get i hlt
        -- an even set with this edge
        obtain ⟨Y, y1, y2⟩ := joined_set hE (ht.in' i hlt hb a b hab)
        have hYi : Y i = false := by
          cases hy : Y i with
          | false => rfl
          | true => have := (y1 i hy).1; rw [hb] at this; simp at this
        let Z : Nat → Bool := fun j => Y j ^^ decide (j = i)
        have hZi : Z i = true := by simp [Z, hYi]
        have hZe : ∀ x : Nat, degB es Z x % 2 = 0 := fun x => by
          rw [deg_xor, deg_one hlt hab hne]
          have := y2 x
          omega
        have hZs : ∀ j, Z j = true → T.testBit j = true ∨ j = i := fun j hj => by
          by_cases e : j = i
          · exact .inr e
          · simp only [Z, e, decide_false, Bool.xor_false] at hj
            have := (y1 j hj).1
            rw [Bool.and_eq_true] at this
            exact .inl this.1
        have pi : 2 ^ i < 2 ^ 64 := Nat.pow_lt_pow_right (by decide) (by omega)
        unfold F120.B18
        refine ⟨by omega, ?_⟩
        rw [one_shl (by omega) (by omega), Int.toNat_natCast, bits_or hT64 pi]
        unfold F120.B17 F120.L5
        refine ⟨fun x1 x3 x4' x8 x9 x40 x41 G => H.length = x1 ∧ (T : Int) = x3 ∧ x4 = x4' ∧ (es.length : Int) = x40 ∧ (i : Int) = x41 ∧ H1.le G ∧ Fresh H1.length G x4 82 1 (LU os) ∧ ∃ o : Nat, x8 = (o : Int) ∧ o < 2 ^ 64 ∧ (∀ j, o.testBit j = true → j < es.length ∧ (T.testBit j = true ∨ j = i)) ∧ (∀ j, Z j = true → o.testBit j = true) ∧ (x9 = false → ∀ w : Nat, (w : Int) < n → degB es (fun j => o.testBit j) w ≠ 1),
          fun _ _ _ x8 x9 _ _ _ => 2 * cn (fun j => x8.toNat.testBit j) es.length + (if x9 then 1 else 0), ⟨rfl, rfl, rfl, rfl, rfl, lG1, hF, T ||| 2 ^ i, rfl, or_lt hT64 pi, fun j hj => ?_, fun j hj => ?_, fun h => by cases h⟩, ?_⟩
        · rw [or_bit] at hj
          by_cases e : j = i
          · exact ⟨by omega, .inr e⟩
          · have hj := insB_ne hj e
            exact ⟨hTlt j hj, .inl hj⟩
        · rw [or_bit]
          rcases hZs j hj with h | rfl
          · exact insB_of h
          · exact insB_self _ _
        clear lG1 lG oG hF
        rintro x1 x3 x4' x8 x9 x40 x41 G ⟨rfl, rfl, rfl, rfl, rfl, lG1, hF, o, rfl, ho, os1, os2, os3⟩
        have lG := AHeap.le_trans l1 lG1
        have oG := o1.le lG1
        unfold F120.B16
        refine pif_cases (fun hx => ?_) fun hx => ?_
        · subst hx
          unfold F120.B15 F120.B14
          refine ldI_own oG rfl ?_
          unfold F120.L6
          refine ⟨fun x1 x3 x4' x8 x9 x40 x41 x53 x54 G => H.length = x1 ∧ (T : Int) = x3 ∧ x4 = x4' ∧ (es.length : Int) = x40 ∧ (i : Int) = x41 ∧ n = x53 ∧ H1.le G ∧ Fresh H1.length G x4 82 1 (LU os) ∧ ∃ (w o' : Nat), x54 = w ∧ (w : Int) ≤ n ∧ x8 = (o' : Int) ∧ o' < 2 ^ 64 ∧ (∀ j, o'.testBit j = true → o.testBit j = true) ∧ (∀ j, Z j = true → o'.testBit j = true) ∧ ((x9 = false ∧ o' = o ∧ ∀ w' : Nat, w' < w → degB es (fun j => o.testBit j) w' ≠ 1) ∨ (x9 = true ∧ cn (fun j => o'.testBit j) es.length < cn (fun j => o.testBit j) es.length)),
            fun _ _ _ _ _ _ _ _ x54 _ => (n - x54).toNat, ⟨rfl, rfl, rfl, rfl, rfl, rfl, lG1, hF, 0, o, rfl, by omega, rfl, ho, fun _ h => h, os2, .inl ⟨rfl, rfl, fun w' h => absurd h (by omega)⟩⟩, ?_⟩
          clear lG1 lG oG hF
          rintro x1 x3 x4' x8 x9 x40 x41 x53 x54 G ⟨rfl, rfl, rfl, rfl, rfl, rfl, lG1, hF, w, o', rfl, hw, rfl, ho', hs1, hs2, hs3⟩
          have lG := AHeap.le_trans l1 lG1
          have oG := o1.le lG1
          unfold F120.B13
          refine pif_cases (fun hb' => ?_) fun hb' => ?_
          · have hlt' := of_decide_eq_true hb'
            unfold F120.B12 F120.B11
            refine ldI_own oG rfl (ld1_own oG rfl (at_ok (h.le lG) (by omega) fun q H2 l2 f2 => setOf_ok f2.ints (by have := hg.three (v := w) (by omega) hlt'; omega) (fun x hx => by have := at_range hx; omega) (asI_mk ?_)))
            have h64 : setN (atL es w) < 2 ^ 64 := setN_lt fun x hx => by have := at_range hx; omega
            rw [bits_and h64 ho']
            have hz : setN (atL es w) &&& o' < 2 ^ 64 := Nat.lt_of_le_of_lt Nat.and_le_left h64
            have lG2 := AHeap.le_trans lG1 l2
            unfold F120.B10
            refine size_ok hz (asI_mk ?_)
            rw [popc_deg (by omega)]
            refine pif_cases (fun hd => ?_) fun hd => ?_
            · have hd1 : degB es (fun j => o'.testBit j) w = 1 := by have := beq_iff_eq.1 hd; omega
              have hab' : ∀ j, (setN (atL es w) &&& o').testBit j = true ↔ (j < es.length ∧ on (es.getD j (0, 0)) w = true ∧ o'.testBit j = true) := fun j => by
                rw [Nat.testBit_and, setN_bit fun x hx => (at_range hx).1, Bool.and_eq_true, decide_eq_true_iff, mem_atL]
                constructor
                · rintro ⟨⟨i, hi, h1, h2⟩, h3⟩
                  obtain rfl : j = i := by omega
                  exact ⟨h1, h2, h3⟩
                · rintro ⟨h1, h2, h3⟩
                  exact ⟨⟨j, rfl, h1, h2⟩, h3⟩
              unfold F120.B9
              rw [bits_andnot ho' hz]
              obtain ⟨o2, ho2⟩ : ∃ o2, o2 = o' &&& (2 ^ 64 - ((setN (atL es w) &&& o') + 1)) := ⟨_, rfl⟩
              have hb2 : ∀ j, o2.testBit j = (o'.testBit j && !(setN (atL es w) &&& o').testBit j) := fun j => by rw [ho2, andnot_bit ho' hz]
              have ho2' : o2 < 2 ^ 64 := by rw [ho2]; exact Nat.lt_of_le_of_lt Nat.and_le_left ho'
              rw [← ho2]
              obtain ⟨j0, hj1, hj2, hj3⟩ := deg_some (es := es) (p := fun j => o'.testBit j) (w := (w : Int)) (by omega)
              have hsub2 : ∀ j, o2.testBit j = true → o'.testBit j = true := fun j hj => by rw [hb2, Bool.and_eq_true] at hj; exact hj.1
              have hcn : cn (fun j => o2.testBit j) es.length < cn (fun j => o'.testBit j) es.length := cn_lt (i := j0) (fun j _ hj => hsub2 j hj) hj2 (by
                have := (hab' j0).2 ⟨hj1, hj3, hj2⟩
                rw [hb2, this]; simp) hj1
              have hle : cn (fun j => o'.testBit j) es.length ≤ cn (fun j => o.testBit j) es.length := cn_le fun j _ hj => hs1 j hj
              unfold F120.B8 F120.B7
              rw [wrap_id (by omega) (by omega)]
              refine ⟨⟨rfl, rfl, rfl, rfl, rfl, rfl, lG2, hF.le l2, w + 1, o2, by omega, by omega, rfl, ho2', fun j hj => hs1 j (hsub2 j hj), fun j hj => ?_, .inr ⟨rfl, by omega⟩⟩, by show (n - ((w : Int) + 1)).toNat < (n - (w : Int)).toNat; omega⟩
              rw [hb2, hs2 j hj, Bool.true_and, Bool.not_eq_true', Bool.eq_false_iff]
              intro hbad
              obtain ⟨g1, g2, g3⟩ := (hab' j).1 hbad
              have e1 := degB_pos (es := es) (p := Z) (x := w) g1 hj g2
              have e2 := hZe w
              have e3 := deg_le (es := es) (p := Z) (q := fun j => o'.testBit j) (w := (w : Int)) fun j _ hj => hs2 j hj
              omega
            · have hd1 : degB es (fun j => o'.testBit j) w ≠ 1 := by
                intro h1; rw [h1] at hd; simp at hd
              unfold F120.B7
              rw [wrap_id (by omega) (by omega)]
              refine ⟨⟨rfl, rfl, rfl, rfl, rfl, rfl, lG2, hF.le l2, w + 1, o', by omega, by omega, rfl, ho', hs1, hs2, hs3.imp (fun ⟨h1, h2, h3⟩ => ⟨h1, h2, fun w' hw' => ?_⟩) id⟩, by show (n - ((w : Int) + 1)).toNat < (n - (w : Int)).toNat; omega⟩
              by_cases e : w' = w
              · subst e; rw [← h2]; exact hd1
              · exact h3 w' (by omega)
          · have hwn := of_decide_eq_false hb'
            refine ⟨⟨rfl, rfl, rfl, rfl, rfl, lG1, hF, o', rfl, ho', fun j hj => os1 j (hs1 j hj), hs2, fun hx w' hw' => ?_⟩, ?_⟩
            · rcases hs3 with ⟨_, h2, h3⟩ | ⟨h1, _⟩
              · rw [h2]; exact h3 w' (by omega)
              · rw [hx] at h1; cases h1
            · show 2 * cn (fun j => ((o' : Int).toNat).testBit j) es.length + (if x9 then 1 else 0) < 2 * cn (fun j => ((o : Int).toNat).testBit j) es.length + 1
              rw [Int.toNat_natCast, Int.toNat_natCast]
              rcases hs3 with ⟨h1, h2, _⟩ | ⟨h1, h2⟩
              · rw [h1, h2]; simp
              · rw [h1]; simp; omega
        · subst hx
          have h3le : ∀ w : Nat, degB es (fun j => o.testBit j) w ≤ 3 := fun w => by
            by_cases hw : (w : Int) < n
            · exact degB_le_three hg hw
            · rw [deg_out hE hw]; omega
          have hok : BasOk n es (fun j => T.testBit j) i o := ⟨os1, os2 i hZi, pruned_even hE ht h3le (i := i) (fun j _ hj => (os1 j hj).2) (os3 rfl)⟩
          unfold F120.B4
          refine hF.sl.pushN E_set (by decide) (by exact lG1.1) (n := 1) (ys := [.int .u64 (o : Nat)]) rfl rfl (by simp; omega) (by simp) fun v' G6 k6 _ _ f6 => ?_
          unfold F120.B3
          rw [wrap_id (by omega) (by omega)]
          refine ⟨⟨rfl, rfl, rfl, k6.le lG1 (Nat.le_refl _), i + 1, os ++ [o], by omega, by omega, by simpa using f6, .own hB hb hok, fun x hx => ?_⟩, by simp; omega⟩
          rcases List.mem_append.1 hx with hx | hx
          · exact ho64 x hx
          · rw [List.mem_singleton.1 hx]; exact ho
    · have hie : i = es.length := by have := of_decide_eq_false hb; omega
      subst hie
      unfold F120.B1
      exact k _ os _ G lG (hF.less l1.1) ht hB ho64
end Go.Proofs
/- Contracts: clones of sets, sets that are left out, comparing sets. -/
set_option linter.unusedVariables false
set_option linter.unusedSimpArgs false
set_option maxRecDepth 100000
namespace Go.Proofs
open Go.Abs

variable {H G B : AHeap} {v u f : Value} {l m : List Int} {es fs : List (Int × Int)} {K : Value → AHeap → Prop} {n : Int} {L A : List Nat}

theorem clr_own {b o k c : Nat} {cs : List Value} {K : AHeap → Prop} (ho : Own H b 82 cs) (hk : 0 < k) (hl : o + k ≤ cs.length) (h : ∀ G R, But b H G → o + R.length = cs.length → Own G b 82 (cs.take o ++ R) → K G) :
    clrK T0 82 H (.slice (some ⟨b, o, none⟩) k c) K := by
  have e : T0 82 = some tiSet := by kernel_rfl
  have hz : zeroK tiSet = fun K => K [.int .u64 0] := by kernel_rfl
  have hs : tiSet.size = 1 := by kernel_rfl
  have hb := ho.lt
  unfold clrK
  rw [e]
  refine .inr ⟨b, o, k, c, cs, rfl, hk, ho, by rw [hs]; omega, ?_⟩
  rw [hz]
  refine h _ ((List.replicate k [Value.int .u64 0]).flatten ++ cs.drop (o + k * tiSet.size)) ⟨by simp, fun q hq => by rw [List.getElem?_set_ne (fun h => hq h.symm)]⟩ ?_ ?_
  · rw [hs]; simp [List.length_flatten]; omega
  unfold Own
  rw [List.getElem?_set_self hb, List.append_assoc]
/-- The first set that a function takes. -/
theorem indexX_ok {p : Nat → Bool} {Z : List Nat} {m0 : Nat} (h : Sl m0 H v 82 1 (LU Z)) (hl : Z.length ≤ 4611686018427387904) (hf : ∀ e ∈ Z, Cl H f (.int .u64 (e : Nat)) (p e))
    (k0 : ∀ G, H.le G → (∀ e ∈ Z, p e = false) → K (.int .i64 (-1)) G) (k1 : ∀ (r : Nat) G, H.le G → r < Z.length → p (Z.getD r 0) = true → (∀ j, j < r → p (Z.getD j 0) = false) → K (.int .i64 r) G) :
    AC Try.prog T0 167 [v, f] H K := by
  apply F167.ac
  unfold F167.B9 F167.B8
  refine h.len (by decide) (n := Z.length) (by simp) ?_
  unfold F167.L2
  refine ⟨fun x0 x1 x7 x8 G => v = x0 ∧ f = x1 ∧ (Z.length : Int) = x7 ∧ H.le G ∧ ∃ n : Nat, x8 = n ∧ n ≤ Z.length ∧ ∀ i : Nat, i < n → p (Z.getD i 0) = false, fun _ _ _ x8 _ => Z.length - x8.toNat, ⟨rfl, rfl, rfl, AHeap.le_refl _, 0, rfl, by omega, fun i hi => absurd hi (by omega)⟩, ?_⟩
  rintro x0 x1 x7 x8 G ⟨rfl, rfl, rfl, hG, n, rfl, hn', hp⟩
  unfold F167.B7
  refine pif_cases (fun hb => ?_) fun hb => ?_
  · have hn : n < Z.length := by have := of_decide_eq_true hb; omega
    unfold F167.B6 F167.B5
    refine Sl_rdI (h.le hG) (by omega) (by simp; omega) (by rw [Int.toNat_natCast]; exact LU_get hn) ?_
    rw [getD_of hn]
    refine hf Z[n] (List.getElem_mem hn) G hG _ fun G2 hG2 => asB_mk (pif_cases (fun hb => ?_) fun hb => ?_)
    · unfold F167.B4
      exact k1 n _ (AHeap.le_trans hG hG2) hn (by rw [getD_of hn]; exact hb) hp
    · unfold F167.B3
      rw [wrap_id (by omega) (by omega)]
      refine ⟨⟨rfl, rfl, rfl, AHeap.le_trans hG hG2, n + 1, by omega, by omega, fun i hi => ?_⟩, by simp; omega⟩
      by_cases he : i = n
      · subst he; rw [getD_of hn]; exact hb
      · exact hp i (by omega)
  · have hge : n = Z.length := by have := of_decide_eq_false hb; omega
    unfold F167.B1
    refine k0 _ hG fun e he => ?_
    obtain ⟨i, hi, rfl⟩ := List.getElem_of_mem he
    have := hp i (by omega)
    rwa [getD_of hi] at this
theorem LU_put (L : List Nat) (i x : Nat) : (LU L).set i (.int .u64 (x : Nat)) = LU (L.set i x) := List.map_set.symm
theorem filter_take {p : Nat → Bool} {j : Nat} (hj : j < L.length) : (L.take (j + 1)).filter p = (L.take j).filter p ++ if p (L.getD j 0) then [L.getD j 0] else [] := by
  rw [List.take_succ_eq_append_getElem hj, List.filter_append, getD_of hj]
  cases h : p L[j] <;> simp [h]
theorem deleteU_ok {p : Nat → Bool} {b : Nat} (hB : B.le H) (hb : B.length ≤ b) (ho : Own H b 82 (LU L)) (hl : L.length ≤ 1048576) (hf : ∀ e ∈ L, Cl B f (.int .u64 (e : Nat)) (p e))
    (k : ∀ G R, Kb b H G → Own G b 82 (LU (L.filter fun x => !p x) ++ R) → K (sv b (L.filter fun x => !p x).length) G) :
    AC Try.prog T0 122 [sv b L.length, f] H K := by
  apply F122.ac
  unfold F122.B14 F122.B13
  have hS : Sl 0 H (sv b L.length) 82 1 (LU L) := Fresh.sl (.inr ⟨b, L.length, Nat.zero_le _, rfl, ho, by simp⟩)
  refine indexX_ok hS (by omega) (fun e he => (hf e he).le hB) (fun G lG hp => asI_mk ?_) fun r G lG hr hp hn => asI_mk ?_
  · have e : (L.filter fun x => !p x) = L := List.filter_eq_self.2 fun x hx => by rw [hp x hx]; rfl
    rw [e] at k
    unfold F122.B12
    refine pif_t (by decide) ?_
    unfold F122.B11
    exact k G [] (.of_le lG) (by simpa using ho.le lG)
  · unfold F122.B12
    refine pif_f (by simp) ?_
    unfold F122.B10
    rw [wrap_id (by omega) (by omega)]
    have hfr : (L.take r).filter (fun x => !p x) = L.take r := List.filter_eq_self.2 fun x hx => by
      obtain ⟨i, hi, rfl⟩ := List.getElem_of_mem hx
      rw [List.length_take] at hi
      have := hn i (by omega)
      rw [List.getElem_take]
      rw [getD_of (by omega)] at this
      rw [this]; rfl
    unfold F122.L3
    refine ⟨fun x0 x1 x5 x6 G => sv b L.length = x0 ∧ f = x1 ∧ Kb b H G ∧ ∃ (i j : Nat) (C : List Nat), x5 = i ∧ x6 = j ∧ i < j ∧ j ≤ L.length ∧ C.length = L.length ∧ C.take i = (L.take j).filter (fun x => !p x) ∧ C.drop j = L.drop j ∧ Own G b 82 (LU C), fun _ _ _ x6 _ => L.length - x6.toNat,
      ⟨rfl, rfl, .of_le lG, r, r + 1, L, rfl, by omega, by omega, by omega, rfl, by rw [filter_take hr, hfr, hp]; simp, rfl, ho.le lG⟩, ?_⟩
    rintro x0 x1 x5 x6 G2 ⟨rfl, rfl, kb, i, j, C, rfl, rfl, hij, hj, hC, h1, h2, ho2⟩
    have hBG := kb.le hB hb
    have hi' : i = ((L.take j).filter fun x => !p x).length := by rw [← h1, List.length_take]; omega
    unfold F122.B9
    refine lenK_of (pif_cases (fun hb' => ?_) fun hb' => ?_)
    · have hjl : j < L.length := by have := of_decide_eq_true hb'; omega
      have hCj : C.getD j 0 = L.getD j 0 := by
        rw [getD_of (by omega), getD_of hjl]
        have := congrArg (·[0]?) h2
        simp only [List.getElem?_drop, Nat.add_zero] at this
        rw [List.getElem?_eq_getElem (by omega), List.getElem?_eq_getElem hjl] at this
        exact Option.some.inj this
      unfold F122.B8
      refine own_idx (by omega) (by omega) (ldI_own ho2 (by rw [Int.toNat_natCast]; exact LU_get (by omega)) ?_)
      rw [hCj]
      unfold F122.B7
      have hm : L.getD j 0 ∈ L := by rw [getD_of hjl]; exact List.getElem_mem _
      refine hf _ hm G2 hBG _ fun G3 l3 => asB_mk (pif_cases (fun hq => ?_) fun hq => ?_)
      · have hpj : p (L.getD j 0) = false := by simpa using hq
        unfold F122.B6
        refine own_idx (by omega) (by omega) (stK_1 (ho2.le l3) (by simp; omega) rfl fun G4 b4 o4 => ?_)
        rw [Int.toNat_natCast, LU_put] at o4
        unfold F122.B5 F122.B4
        rw [wrap_id (by omega) (by omega), wrap_id (by omega) (by omega)]
        refine ⟨⟨rfl, rfl, (kb.trans (.of_le l3)).trans b4.kb, i + 1, j + 1, C.set i (L.getD j 0), by omega, by omega, by omega, by omega, by simpa using hC, ?_, ?_, o4⟩, by simp; omega⟩
        · rw [filter_take hjl, hpj, ← h1, List.take_set, List.take_succ_eq_append_getElem (show i < C.length by omega), List.set_append_right _ _ (by rw [List.length_take]; omega)]
          simp [Nat.min_eq_left (show i ≤ C.length by omega)]
        · rw [List.drop_set_of_lt (by omega)]
          have := congrArg (List.drop 1) h2
          simpa [List.drop_drop, Nat.add_comm] using this
      · have hpj : p (L.getD j 0) = true := by simpa using hq
        unfold F122.B4
        rw [wrap_id (by omega) (by omega)]
        refine ⟨⟨rfl, rfl, kb.trans (.of_le l3), i, j + 1, C, rfl, by omega, by omega, by omega, hC, ?_, ?_, ho2.le l3⟩, by simp; omega⟩
        · rw [filter_take hjl, hpj, ← h1]; simp
        · have := congrArg (List.drop 1) h2
          simpa [List.drop_drop, Nat.add_comm] using this
    · have hje : j = L.length := by have := of_decide_eq_false hb'; omega
      subst hje
      rw [List.take_length] at h1 hi'
      unfold F122.B2
      refine ⟨⟨_, _, ho2, by simp [hC]⟩, by simp, by simp; omega, by simp, ?_⟩
      simp only [Int.toNat_natCast, Nat.zero_add, Nat.mul_one]
      refine clr_own (o := i) (k := L.length - i) ho2 (by omega) (by simp; omega) fun G3 R b3 hR o3 => ?_
      unfold F122.B1
      have e3 : (LU C).take i = LU (L.filter fun x => !p x) := by rw [← h1]; exact List.map_take.symm
      rw [e3] at o3
      have hRl : i + R.length = L.length := by rw [hR]; simp [hC]
      refine ⟨⟨_, _, o3, by simp; omega⟩, by simp, by simp, by simp; omega, ?_⟩
      have := k G3 R (kb.trans b3.kb) o3
      rw [← hi'] at this
      simpa using this
end Go.Proofs
/- Contracts: comparing sets; clones of sets. -/
set_option linter.unusedVariables false
set_option linter.unusedSimpArgs false
set_option maxRecDepth 100000
namespace Go.Proofs
open Go.Abs

variable {H G B : AHeap} {v u f : Value} {l m : List Int} {es fs : List (Int × Int)} {K : Value → AHeap → Prop} {n : Int} {L A : List Nat}

theorem lexC_nil (l : List Int) : lexC l [] = if 0 < l.length then 1 else 0 := by cases l <;> rfl
theorem lexC_nil' (l : List Int) : lexC [] l = if 0 < l.length then -1 else 0 := by cases l <;> rfl
/-- Lists that begin alike are compared by their rests. -/
theorem lexC_drop : ∀ {l m : List Int} {i : Nat}, i ≤ l.length → i ≤ m.length → (∀ j, j < i → l.getD j 0 = m.getD j 0) → lexC l m = lexC (l.drop i) (m.drop i)
  | l, m, 0, _, _, _ => rfl
  | [], m, i + 1, h, _, _ => by simp at h
  | a :: l, [], i + 1, _, h, _ => by simp at h
  | a :: l, b :: m, i + 1, h1, h2, h3 => by
    have hab : a = b := by simpa using h3 0 (by omega)
    subst hab
    have e : lexC (a :: l) (a :: m) = lexC l m := by
      conv => lhs; unfold lexC
      simp
    rw [e]
    exact lexC_drop (by simpa using h1) (by simpa using h2) fun j hj => by simpa using h3 (j + 1) (by omega)
theorem compareI_ok (h : Ints H v l) (g : Ints H u m) (hl : l.length ≤ 1000000) (hm : m.length ≤ 1000000) (k : K (.int .i64 (lexC l m)) H) : AC Try.prog T0 171 [v, u] H K := by
  apply F171.ac
  unfold F171.B15 F171.B14
  refine h.len ?_
  unfold F171.L4
  refine ⟨fun x0 x1 x9 x10 x11 G => v = x0 ∧ u = x1 ∧ v = x9 ∧ (l.length : Int) = x10 ∧ H = G ∧ ∃ i : Nat, x11 = i ∧ i ≤ l.length ∧ i ≤ m.length ∧ ∀ j, j < i → l.getD j 0 = m.getD j 0, fun _ _ _ _ x11 _ => l.length - x11.toNat, ⟨rfl, rfl, rfl, rfl, rfl, 0, rfl, by omega, by omega, fun j hj => by omega⟩, ?_⟩
  rintro x0 x1 x9 x10 x11 G ⟨rfl, rfl, rfl, rfl, rfl, i, rfl, hi, him, hp⟩
  have hd := lexC_drop hi him hp
  unfold F171.B13
  refine pif_cases (fun hb => ?_) fun hb => ?_
  · have hlt : i < l.length := by have := of_decide_eq_true hb; omega
    unfold F171.B12
    refine h.rd (by omega) (by omega) ?_
    rw [Int.toNat_natCast]
    unfold F171.B11
    refine g.len (pif_cases (fun hc => ?_) fun hc => ?_)
    · have hge : i = m.length := by have := of_decide_eq_true hc; omega
      unfold F171.B10
      rw [hd, hge, List.drop_length, lexC_nil, if_pos (by simp; omega)] at k
      exact k
    · have hlm : i < m.length := by have := of_decide_eq_false hc; omega
      unfold F171.B9
      refine g.rd (by omega) (by omega) ?_
      rw [Int.toNat_natCast]
      unfold F171.B8
      refine cmpCompare_ok (asI_mk ?_)
      have e : lexC l m = if l.getD i 0 < m.getD i 0 then -1 else if m.getD i 0 < l.getD i 0 then 1 else lexC (l.drop (i + 1)) (m.drop (i + 1)) := by
        rw [hd, List.drop_eq_getElem_cons hlt, List.drop_eq_getElem_cons hlm, getD_of hlt, getD_of hlm]
        conv => lhs; unfold lexC
      unfold F171.B7
      refine pif_cases (fun hq => ?_) fun hq => ?_
      · unfold F171.B6
        have e2 : cmpI (l.getD i 0) (m.getD i 0) = lexC l m := by
          rw [e]; unfold cmpI at hq ⊢
          by_cases h1 : l.getD i 0 < m.getD i 0
          · rw [if_pos h1, if_pos h1]
          · by_cases h2 : m.getD i 0 < l.getD i 0
            · rw [if_neg h1, if_neg h1, if_pos h2, if_pos h2]
            · rw [if_neg h1, if_neg h2] at hq
              simp at hq
        rw [e2]; exact k
      · unfold F171.B5
        rw [wrap_id (by omega) (by omega)]
        refine ⟨⟨rfl, rfl, rfl, rfl, rfl, i + 1, by omega, by omega, by omega, fun j hj => ?_⟩, by simp; omega⟩
        by_cases ej : j = i
        · subst ej
          unfold cmpI at hq
          by_cases h1 : l.getD j 0 < m.getD j 0
          · rw [if_pos h1] at hq; simp at hq
          · by_cases h2 : m.getD j 0 < l.getD j 0
            · rw [if_neg h1, if_pos (by omega)] at hq; simp at hq
            · omega
        · exact hp j (by omega)
  · have hge : i = l.length := by have := of_decide_eq_false hb; omega
    unfold F171.B3
    rw [hd, hge, List.drop_length, lexC_nil', List.length_drop] at k
    refine h.len (g.len (pif_cases (fun hc => ?_) fun hc => ?_))
    · have := of_decide_eq_true hc
      unfold F171.B2
      rw [if_pos (by omega)] at k; exact k
    · have := of_decide_eq_false hc
      unfold F171.B1
      rw [if_neg (by omega)] at k; exact k
theorem or2_ok {a b : Int} {w : Value} (h : Ints H w [a, b]) (k : K (.int .i64 (if a ≠ 0 then a else b)) H) : AC Try.prog T0 169 [w] H K := by
  apply F169.ac
  unfold F169.B10 F169.B9 F169.B8
  refine h.len ?_
  unfold F169.L2
  refine ⟨fun x3 x6 x7 x8 G => 0 = x3 ∧ w = x6 ∧ 2 = x7 ∧ H = G ∧ (x8 = 0 ∨ (x8 = 1 ∧ a = 0) ∨ (x8 = 2 ∧ a = 0 ∧ b = 0)), fun _ _ _ x8 _ => 2 - x8.toNat, ⟨rfl, rfl, rfl, rfl, .inl rfl⟩, ?_⟩
  rintro x3 x6 x7 x8 G ⟨rfl, rfl, rfl, rfl, hx⟩
  unfold F169.B7
  rcases hx with rfl | ⟨rfl, rfl⟩ | ⟨rfl, rfl, rfl⟩
  · refine pif_t rfl ?_
    unfold F169.B6
    refine h.rd (by decide) (by simp) ?_
    unfold F169.B5
    refine pif_cases (fun hb => ?_) fun hb => ?_
    · unfold F169.B4
      have hb : a ≠ 0 := by simpa using hb
      rw [if_pos hb] at k; exact k
    · unfold F169.B3
      exact ⟨⟨rfl, rfl, rfl, rfl, .inr (.inl ⟨rfl, by simpa using hb⟩)⟩, by show 2 - (IntKind.i64.wrap (0 + 1)).toNat < 2 - (0 : Int).toNat; decide⟩
  · refine pif_t rfl ?_
    unfold F169.B6
    refine h.rd (by decide) (by simp) ?_
    rw [if_neg (by simp)] at k
    unfold F169.B5
    refine pif_cases (fun hb => ?_) fun hb => ?_
    · unfold F169.B4
      exact k
    · unfold F169.B3
      exact ⟨⟨rfl, rfl, rfl, rfl, .inr (.inr ⟨rfl, rfl, by simpa using hb⟩)⟩, by show 2 - (IntKind.i64.wrap (1 + 1)).toNat < 2 - (1 : Int).toNat; decide⟩
  · refine pif_f rfl ?_
    unfold F169.B1
    simpa using k
theorem bitsL_len (s : Nat) : (bitsL s).length = popc s 64 := rfl
theorem compareSets_ok {x y : Nat} (hx : x < 2 ^ 64) (hy : y < 2 ^ 64) (k : ∀ G, H.le G → K (.int .i64 (cS x y)) G) : AC Try.prog T0 125 [.int .u64 (x : Nat), .int .u64 (y : Nat)] H K := by
  have px : popc x 64 ≤ 64 := bitsTo_length _ _
  have py : popc y 64 ≤ 64 := bitsTo_length _ _
  apply F125.ac
  unfold F125.B2 F125.B1
  refine size_ok hx (asI_mk (size_ok hy (asI_mk (cmpCompare_ok (asI_mk (list_ok hx fun v1 G1 l1 f1 => list_ok hy fun v2 G2 l2 f2 => compareI_ok (f1.le l2).ints f2.ints (by rw [bitsL_len]; omega) (by rw [bitsL_len]; omega) (asI_mk (newK_f rfl fun G3 l3 n3 o3 => ?_))))))))
  have hi : Ints G3 (.slice (some ⟨G2.length, 0, none⟩) 2 (2 + 1)) [cmpI (popc x 64 : Nat) (popc y 64 : Nat), lexC (bitsL x) (bitsL y)] := .inr ⟨⟨G2.length, 0, none⟩, 3, rfl, .inr ⟨rfl, fun i z hz => by
    rw [cell_own o3]
    rcases i with _ | _ | i
    · simp at hz; subst hz; rfl
    · simp at hz; subst hz; rfl
    · simp at hz⟩⟩
  refine or2_ok hi (asI_mk ?_)
  have e : (if cmpI (popc x 64 : Nat) (popc y 64 : Nat) ≠ 0 then cmpI (popc x 64 : Nat) (popc y 64 : Nat) else lexC (bitsL x) (bitsL y)) = cS x y := by
    unfold cS cmpR cmpI
    rw [bitsL_len, bitsL_len]
    by_cases h1 : popc x 64 < popc y 64
    · simp [h1]
    · by_cases h2 : popc y 64 < popc x 64
      · simp [h1, h2]
      · simp [h1, h2]
  rw [e]
  exact k _ (AHeap.le_trans l1 (AHeap.le_trans l2 l3))
theorem cS_v (B : AHeap) : CmpV B (.func (.func 125) ⟨[]⟩ ⟨[]⟩) cS (fun x => x < 2 ^ 64) := fun x y hx hy G hG K k =>
  callV_mk (compareSets_ok hx hy fun G' hG' => k G' _ hG' Iff.rfl)
theorem cloneU_ok {m0 : Nat} (h : Fresh m0 H v 82 1 (LU L)) (h0 : 0 < L.length) (hl : L.length ≤ 1048576) (k : ∀ v' G, H.le G → Fresh H.length G v' 82 1 (LU L) → K v' G) : AC Try.prog T0 121 [v] H K := by
  apply F121.ac
  unfold F121.B4 F121.B3
  have hc := fun G (hG : H.le G) => fresh_cells (n := L.length) (h.le hG) (by decide) (by simp)
  rcases h with ⟨h1, _⟩ | ⟨b, c, _, rfl, ho, hc'⟩
  · have := congrArg List.length h1; rw [List.length_map, List.length_nil] at this; omega
  · show F121.B1 K _ H
    unfold F121.B1
    refine newK_f rfl fun G1 l1 n1 o1 => ?_
    have s1 : Sl H.length G1 (.slice (some ⟨H.length, 0, none⟩) 0 (0 + 1)) 82 1 (LU []) := Fresh.sl (.inr ⟨_, 0, Nat.le_refl _, rfl, o1, rfl⟩)
    refine s1.app E_set (by decide) l1.1 (hc G1 l1) (by simp; omega) (fun h => by simp at h; rw [h] at h0; simp at h0) fun v' G2 k2 _ _ f2 => ?_
    refine k v' G2 (k2.le l1 (Nat.le_refl _)) ?_
    simpa using f2
end Go.Proofs
/- Contracts: chains and exchanges, both sides. -/
set_option linter.unusedVariables false
set_option linter.unusedSimpArgs false
set_option maxRecDepth 100000
namespace Go.Proofs
open Go.Abs

variable {H : AHeap} {v u f : Value} {l m c : List Int} {es fs : List (Int × Int)} {K : Value → AHeap → Prop}

theorem IsC.get {es : List (Int × Int)} {c : List Int} (h : IsC es c) (i : Nat) : 0 ≤ c.getD i 0 ∧ c.getD i 0 ≤ 2 := by
  by_cases hi : i < c.length
  · rw [getD_of hi]; exact h.rng _ (List.getElem_mem hi)
  · simp [List.getD, List.getElem?_eq_none (show c.length ≤ i by omega)]

end Go.Proofs
/- Contracts: all cycles, the program's side. -/
set_option linter.unusedVariables false
set_option linter.unusedSimpArgs false
set_option maxRecDepth 100000
namespace Go.Proofs
open Go.Abs

variable {H G B : AHeap} {v u f : Value} {l m : List Int} {es fs : List (Int × Int)} {K : Value → AHeap → Prop} {n : Int} {L A : List Nat}

noncomputable def acCode (n : Int) (es : List (Int × Int)) : Int := if IsG n es then (if n > 12 then 3 else 0) else 1
theorem acCode_zero (h : acCode n es = 0) : IsG n es ∧ n ≤ 12 := by
  unfold acCode at h
  split at h
  · split at h
    · omega
    · rename_i h1 h2; exact ⟨h1, by omega⟩
  · omega
theorem del_cl {x b : Nat} (hE : Edges H v es) (hg : IsG n es) (ho : Own H b 31 [.int .i64 n, v]) (hx : ∀ j, x.testBit j = true → j < es.length) :
    Cl H (.func (.func 123) ⟨[]⟩ ⟨[.pointer (some ⟨b, 0, none⟩)]⟩) (.int .u64 (x : Nat)) (!cycB n es (bitsL x)) := by
  intro G hG K k
  have h30 : es.length ≤ 30 := by have := hg.ed.len; have := hg.ed.hi; omega
  refine callV_mk ?_
  apply F123.ac
  unfold F123.B2 F123.B1
  have e := setN_bits (m := es.length) (by omega) hx
  have hi := isCycle_ok (K := fun v5 H6 => asB v5 fun v7 => K (.bool (!v7)) H6) (hE.le hG) hg (bits_isS (by omega) hx) fun G2 l2 => asB_mk (k G2 l2)
  rw [e] at hi
  exact asP_mk (ldI_own (ho.le hG) rfl (ld1_own (ho.le hG) rfl hi))
theorem xL_pos (os : List Nat) : 0 < (xL os).length := by
  unfold xL; rw [xL_length]; simp; exact Nat.two_pow_pos _
theorem xL_short {os : List Nat} (h : os.length ≤ 18) : (xL os).length ≤ 262144 := by
  unfold xL; rw [xL_length]
  have : 2 ^ os.length ≤ 2 ^ 18 := Nat.pow_le_pow_right (by decide) h
  simp; omega
theorem implAll_ok (h : Edges H v es) (hl : es.length ≤ 1048576)
    (k : ∀ v' rows G, H.le G → (acCode n es = 0 → rows.Perm (cyRows n es) ∧ rows.Pairwise (LeC cmpR)) → (acCode n es ≠ 0 → rows = []) → RowsF (fun b => H.length ≤ b) G.length G v' rows → K (.tuple ⟨[v', .int .i64 (acCode n es)]⟩) G) :
    AC Try.prog T0 72 [.agg ⟨[.int .i64 n, v]⟩] H K := by
  apply F72.ac
  unfold F72.B21
  refine newK_f (all_iv (edges_one' h)) fun H1 l1 n1 o1 => ?_
  unfold F72.B20
  refine ldI_own o1 rfl (ld1_own o1 rfl (graphCode_ok (h.le l1) hl fun H2 l2 => asI_mk ?_))
  have l02 := AHeap.le_trans l1 l2
  have o2 := o1.le l2
  unfold F72.B19
  by_cases hg : IsG n es
  rotate_left
  · have hc : acCode n es = 1 := by unfold acCode; rw [if_neg hg]
    rw [if_neg hg]
    refine pif_t rfl ?_
    unfold F72.B18
    rw [hc] at k
    exact k _ [] H2 l02 (fun h => by cases h) (fun _ => rfl) .nil
  rw [if_pos hg]
  refine pif_f rfl ?_
  unfold F72.B17
  refine ldI_own o2 rfl (pif_cases (fun hb => ?_) fun hb => ?_)
  · have hc : acCode n es = 3 := by unfold acCode; rw [if_pos hg, if_pos (of_decide_eq_true hb)]
    unfold F72.B16
    rw [hc] at k
    exact k _ [] H2 l02 (fun h => by cases h) (fun _ => rfl) .nil
  have hn12 : n ≤ 12 := by have := of_decide_eq_false hb; omega
  have hc : acCode n es = 0 := by unfold acCode; rw [if_pos hg, if_neg (by omega)]
  rw [hc] at k
  have h18 : es.length ≤ 18 := by have := hg.ed.len; omega
  have hE2 := h.le l02
  unfold F72.B15
  refine newK_f rfl fun H3 l3 n3 o3 => ?_
  unfold F72.B14
  have o23 := o2.le l3
  refine ldI_own o23 rfl (ld1_own o23 rfl (basis_ok (hE2.le l3) hg fun w os t H4 l4 fw ht hB ho64 => ?_))
  have hol := hB.len
  refine fw.sl.len (by decide) (n := os.length) (by simp) ?_
  have hbw : ∀ b, bk w = some b → H3.length ≤ b := fun b hb => (fw.bk_lt hb).1
  unfold F72.L4
  refine ⟨fun x1 x5 x20 x21 x22 G => H.length = x1 ∧ w = x20 ∧ (os.length : Int) = x21 ∧ H2.le G ∧ Fresh 0 G w 82 1 (LU os) ∧ (∀ b, bk w = some b → bk x5 ≠ some b) ∧ ∃ i : Nat, x22 = i ∧ i ≤ os.length ∧ Fresh H2.length G x5 82 1 (LU (xL (os.take i))), fun _ _ _ _ x22 _ => os.length - x22.toNat,
    ⟨rfl, rfl, rfl, AHeap.le_trans l3 l4, fw.less (Nat.zero_le _), fun b hb hb' => ?_, 0, rfl, by omega, .inr ⟨_, 1, Nat.le_refl _, rfl, o3.le l4, rfl⟩⟩, ?_⟩
  · have h1 := hbw b hb
    have h2 := o3.lt
    have h3 : H2.length = b := Option.some.inj hb'
    omega
  rintro x1 x5 x20 x21 x22 G ⟨rfl, rfl, rfl, lG, fG, hsep, i, rfl, hi, hA⟩
  unfold F72.B13
  refine pif_cases (fun hb => ?_) fun hb => ?_
  · have hlt : i < os.length := by have := of_decide_eq_true hb; omega
    have hxl : (xL (os.take i)).length ≤ 262144 := xL_short (by rw [List.length_take]; omega)
    have hxp := xL_pos (os.take i)
    have hx64 : ∀ s ∈ xL (os.take i), s < 2 ^ 64 := xL_lt fun o ho => ho64 o (List.mem_of_mem_take ho)
    unfold F72.B12
    refine Sl_rdI fG.sl (by omega) (by simp; omega) (by rw [Int.toNat_natCast]; exact LU_get hlt) ?_
    have ho := ho64 (os.getD i 0) (by rw [getD_of hlt]; exact List.getElem_mem _)
    unfold F72.B11
    refine cloneU_ok hA hxp (by omega) fun c G1 g1 fc => fc.sl.len (by decide) (n := (xL (os.take i)).length) (by simp) ?_
    unfold F72.L6
    refine ⟨fun x1 x5 x7 x20 x21 x22 x27 x28 x29 G => H.length = x1 ∧ ((os.getD i 0 : Nat) : Int) = x7 ∧ w = x20 ∧ (os.length : Int) = x21 ∧ (i : Int) = x22 ∧ c = x27 ∧ ((xL (os.take i)).length : Int) = x28 ∧ H2.le G ∧ Fresh 0 G w 82 1 (LU os) ∧ (∀ b, bk w = some b → bk x5 ≠ some b) ∧ Fresh 0 G c 82 1 (LU (xL (os.take i))) ∧ (∀ b, bk c = some b → bk x5 ≠ some b) ∧ ∃ j : Nat, x29 = j ∧ j ≤ (xL (os.take i)).length ∧ Fresh H2.length G x5 82 1 (LU (xL (os.take i) ++ ((xL (os.take i)).take j).map (· ^^^ os.getD i 0))),
      fun _ _ _ _ _ _ _ _ x29 _ => (xL (os.take i)).length - x29.toNat, ⟨rfl, rfl, rfl, rfl, rfl, rfl, rfl, AHeap.le_trans lG g1, fG.le g1, hsep, fc.less (Nat.zero_le _), fun b hb hb' => ?_, 0, rfl, by omega, by simpa using hA.le g1⟩, ?_⟩
    · have h1 := (fc.bk_lt hb).1
      have h2 := (hA.bk_lt hb').2
      omega
    clear hA fG lG hsep fc g1
    rintro x1 x5 x7 x20 x21 x22 x27 x28 x29 G ⟨rfl, rfl, rfl, rfl, rfl, rfl, rfl, lG, fG, hsep, fc, hsc, j, rfl, hj, hA⟩
    unfold F72.B10
    refine pif_cases (fun hb => ?_) fun hb => ?_
    · have hjl : j < (xL (os.take i)).length := by have := of_decide_eq_true hb; omega
      unfold F72.B9
      refine Sl_rdI fc.sl (by omega) (by simp; omega) (by rw [Int.toNat_natCast]; exact LU_get hjl) ?_
      have hs := hx64 ((xL (os.take i)).getD j 0) (by rw [getD_of hjl]; exact List.getElem_mem _)
      unfold F72.B8
      rw [bits_xor hs ho]
      refine hA.sl.pushN E_set (by decide) lG.1 (n := 1) (ys := [.int .u64 (((xL (os.take i)).getD j 0 ^^^ os.getD i 0 : Nat) : Int)]) rfl rfl (by simp; omega) (by simp) fun v' G6 k6 ot nb f6 => ?_
      unfold F72.B7
      rw [wrap_id (by omega) (by omega)]
      refine ⟨⟨rfl, rfl, rfl, rfl, rfl, rfl, rfl, k6.le lG (Nat.le_refl _), fresh_oth fG fun b o hb ho => ot b o (fun h => hsep b hb h) ho, fun b hb hb' => by have := (fG.bk_lt hb).2; have := nb b hb'; omega, fresh_oth fc fun b o hb ho => ot b o (fun h => hsc b hb h) ho, fun b hb hb' => by have := (fc.bk_lt hb).2; have := nb b hb'; omega, j + 1, by omega, by omega, ?_⟩, by simp; omega⟩
      rw [List.take_succ_eq_append_getElem hjl, List.map_append, ← getD_of (d := 0) hjl, ← List.append_assoc]
      simpa using f6
    · have hje : j = (xL (os.take i)).length := by have := of_decide_eq_false hb; omega
      subst hje
      unfold F72.B5
      rw [wrap_id (by omega) (by omega)]
      refine ⟨⟨rfl, rfl, rfl, lG, fG, hsep, i + 1, by omega, by omega, ?_⟩, by simp; omega⟩
      rw [List.take_succ_eq_append_getElem hlt, xL_snoc, ← getD_of (d := 0) hlt]
      simpa using hA
  · have hie : i = os.length := by have := of_decide_eq_false hb; omega
    subst hie
    rw [List.take_length] at hA
    have hxl : (xL os).length ≤ 262144 := xL_short (by omega)
    have hxp := xL_pos os
    have hmem := (xL_all hg.endsIn ht hB).2
    obtain ⟨b, c, hb, rfl, ho, hcl⟩ : ∃ b c, H2.length ≤ b ∧ x5 = .slice (some ⟨b, 0, none⟩) c (c + 1) ∧ Own G b 82 (LU (xL os)) ∧ (LU (xL os)).length = c * 1 := by
      rcases hA with ⟨h1, _⟩ | h
      · have := congrArg List.length h1; rw [List.length_map, List.length_nil] at this; omega
      · exact h
    have hcx : c = (xL os).length := by simpa using hcl.symm
    subst hcx
    unfold F72.B3
    refine deleteU_ok (B := H2) (p := fun s => !cycB n es (bitsL s)) lG hb ho (by omega) (fun s hs => del_cl hE2 hg o2 ((hmem s).1 hs).1) fun G1 R k1 o1' => ?_
    have hfl : (xL os).filter (fun x => !(!cycB n es (bitsL x))) = (xL os).filter fun s => cycB n es (bitsL s) := by simp
    rw [hfl] at o1' ⊢
    obtain ⟨L, hL⟩ : ∃ L, L = (xL os).filter fun s => cycB n es (bitsL s) := ⟨_, rfl⟩
    have hLl : L.length ≤ 262144 := by rw [hL]; exact Nat.le_trans (List.length_filter_le _ _) hxl
    have hL64 : ∀ x ∈ L, x < 2 ^ 64 := fun x hx => by
      rw [hL] at hx; exact xL_lt ho64 x (List.mem_filter.1 hx).1
    rw [← hL] at o1' ⊢
    have lG1 := k1.le lG hb
    unfold F72.B2
    refine sortFuncC_ok (B := H2) (b := b) (N := L.length) (R := R) (c := cS) (dom := fun x => x < 2 ^ 64) ⟨cS_v H2, cS_ord, hb, by omega⟩ (L := L) ⟨lG1, o1', hL64, rfl⟩ fun G3 S k3 s3 hperm hsort => asTup_k ?_
    unfold F72.B1
    have hSl : S.length = L.length := s3.len
    have lG3 := s3.base
    refine lists_ok (Z := S) (m0 := 0) (.inr ⟨b, L.length, [], R, Nat.zero_le _, rfl, by simpa using s3.own, by simp [hSl]⟩) (by omega) (fun z hz => s3.dm z hz) fun v' G4 l4 hR => ?_
    have lG4 := AHeap.le_trans l02 (AHeap.le_trans lG3 l4)
    refine k v' (S.map bitsL) G4 lG4 (fun _ => ⟨cyc_perm hg (by omega) ht hB (by rw [← hL]; exact hperm), ?_⟩) (fun h => absurd rfl h) (hR.mono (fun b hb => Nat.le_trans (AHeap.le_trans l02 lG3).1 hb) (Nat.le_refl _))
    rw [← hSl] at hsort
    exact List.pairwise_map.2 (hsort.pairs.imp fun h => h)
end Go.Proofs
/- Contracts: the cycles that a matching leaves, the reference's way: their lengths. -/
set_option linter.unusedVariables false
set_option linter.unusedSimpArgs false
set_option maxRecDepth 100000
namespace Go.Proofs
open Go.Abs

variable {H G : AHeap} {v u f : Value} {l m c D : List Int} {es fs : List (Int × Int)} {K : Value → AHeap → Prop} {A A' : Nat → Prop} {B : Nat} {ls ms : List (List Int)}

/-- Edges of cycles with a least edge less than k. -/
def ETo (es : List (Int × Int)) (p : Nat → Bool) (k j : Nat) : Prop := p j = true ∧ ∃ a, a < k ∧ p a = true ∧ Rch (eAdj es p) a j
theorem ETo.lead {p : Nat → Bool} {k : Nat} (hp : p k = true) : ETo es p k k ↔ cLeadB es p k = false := by
  rw [← Bool.not_eq_true, cLeadB_iff]
  unfold cLead ETo
  constructor
  · rintro ⟨_, a, h1, h2, h3⟩ h
    exact h a h1 h2 h3
  · intro h
    refine ⟨hp, Classical.byContradiction fun hn => h fun j h1 h2 h3 => hn ⟨j, h1, h2, h3⟩⟩
theorem ETo.succ {p : Nat → Bool} {k j : Nat} : ETo es p (k + 1) j ↔ ETo es p k j ∨ (p k = true ∧ p j = true ∧ Rch (eAdj es p) k j) := by
  unfold ETo
  constructor
  · rintro ⟨h0, a, h1, h2, h3⟩
    by_cases e : a = k
    · subst e; exact .inr ⟨h2, h0, h3⟩
    · exact .inl ⟨h0, a, by omega, h2, h3⟩
  · rintro (⟨h0, a, h1, h2, h3⟩ | ⟨h1, h2, h3⟩)
    · exact ⟨h0, a, by omega, h2, h3⟩
    · exact ⟨h2, k, by omega, h1, h3⟩
theorem ETo.skip {p : Nat → Bool} {k j : Nat} (h : ETo es p k k ∨ p k = false) : ETo es p (k + 1) j ↔ ETo es p k j := by
  rw [ETo.succ]
  refine ⟨fun h' => h'.elim id fun ⟨h1, h2, h3⟩ => ?_, .inl⟩
  rcases h with ⟨_, a, g1, g2, g3⟩ | h
  · exact ⟨h2, a, g1, g2, g3.trans h3⟩
  · rw [h] at h1; cases h1
end Go.Proofs
/- Contracts: numbers of odd cycles; best matchings, both sides. -/
set_option linter.unusedVariables false
set_option linter.unusedSimpArgs false
set_option maxRecDepth 100000
namespace Go.Proofs
open Go.Abs

variable {H G : AHeap} {v u f : Value} {l m c D : List Int} {es fs : List (Int × Int)} {K : Value → AHeap → Prop} {A A' : Nat → Prop} {B : Nat} {ls ms cs : List (List Int)}

section
variable {p p' : Nat → Bool}
end
end Go.Proofs
/- Contracts: the cycles that a matching leaves, the reference's way, as lists. -/
set_option linter.unusedVariables false
set_option linter.unusedSimpArgs false
set_option maxRecDepth 100000
namespace Go.Proofs
open Go.Abs

variable {H G : AHeap} {v u f : Value} {l m c D : List Int} {es fs : List (Int × Int)} {K : Value → AHeap → Prop} {A A' : Nat → Prop} {B : Nat} {ls ms : List (List Int)}

end Go.Proofs
/- Contracts: going round a cycle, the program's way. -/
set_option linter.unusedVariables false
set_option linter.unusedSimpArgs false
set_option maxRecDepth 100000
namespace Go.Proofs
open Go.Abs

variable {H G : AHeap} {v u f : Value} {l m c D : List Int} {es fs : List (Int × Int)} {K : Value → AHeap → Prop} {p : Nat → Bool} {e : Nat}

end Go.Proofs
/- Contracts: matchings, both sides. -/
set_option linter.unusedVariables false
set_option linter.unusedSimpArgs false
set_option maxRecDepth 100000
namespace Go.Proofs
open Go.Abs

variable {H : AHeap} {v u f : Value} {l m c : List Int} {es fs : List (Int × Int)} {K : Value → AHeap → Prop}

end Go.Proofs
/- Contracts: colourings of matchings, both sides. -/
set_option linter.unusedVariables false
set_option linter.unusedSimpArgs false
set_option maxRecDepth 100000
namespace Go.Proofs
open Go.Abs

variable {H G : AHeap} {v u f : Value} {l m c D : List Int} {es fs : List (Int × Int)} {K : Value → AHeap → Prop} {A A' : Nat → Prop} {B : Nat} {ls ms cs : List (List Int)}

end Go.Proofs
/- Contracts: cycles left by a matching, both sides. -/
set_option linter.unusedVariables false
set_option linter.unusedSimpArgs false
set_option maxRecDepth 100000
namespace Go.Proofs
open Go.Abs

variable {H G : AHeap} {v u f : Value} {l m c D S : List Int} {es fs : List (Int × Int)} {K : Value → AHeap → Prop} {cs : List (List Int)}

/-- In ascending order. -/
def srtI (l : List Int) : List Int := l.mergeSort fun a b => decide (a ≤ b)
theorem srtI_eq (h1 : S.Pairwise fun a b => a ≤ b) (h2 : S.Perm l) : S = srtI l := by
  refine sorted_same (le := fun a b : Int => a ≤ b) (fun a b h1 h2 => Int.le_antisymm h1 h2) h1 ?_ (h2.trans (List.mergeSort_perm l _).symm)
  have := List.pairwise_mergeSort (le := fun a b : Int => decide (a ≤ b)) (fun a b c h1 h2 => by simp at *; omega) (fun a b => by simp; omega) l
  exact this.imp fun h => by simpa using h
theorem insI_sorted {j : Nat} {x : Int} (hS : S.Pairwise fun a b => a ≤ b) (hj : j ≤ S.length) (h1 : ∀ i, j ≤ i → i < S.length → x < S.getD i 0) (h2 : j = 0 ∨ S.getD (j - 1) 0 ≤ x) : (S.take j ++ ([x] ++ S.drop j)).Pairwise fun a b => a ≤ b := by
  have hS' := hS
  rw [← List.take_append_drop j S, List.pairwise_append] at hS'
  obtain ⟨p1, p2, p3⟩ := hS'
  rw [List.pairwise_append]
  refine ⟨p1, ?_, fun a ha b hb => ?_⟩
  · rw [List.singleton_append, List.pairwise_cons]
    refine ⟨fun b hb => ?_, p2⟩
    obtain ⟨i, hi, rfl⟩ := List.getElem_of_mem hb
    rw [List.length_drop] at hi
    have := h1 (j + i) (by omega) (by omega)
    rw [getD_of (by omega)] at this
    rw [List.getElem_drop]; omega
  · rw [List.singleton_append, List.mem_cons] at hb
    rcases hb with rfl | hb
    · obtain ⟨i, hi, rfl⟩ := List.getElem_of_mem ha
      rw [List.length_take] at hi
      rw [List.getElem_take]
      rcases h2 with h2 | h2
      · omega
      · rw [getD_of (by omega)] at h2
        by_cases e : i = j - 1
        · subst e; exact h2
        · exact Int.le_trans ((List.pairwise_iff_getElem.1 hS) i (j - 1) (by omega) (by omega) (by omega)) h2
    · exact p3 a ha b hb
theorem insI_perm {j : Nat} {x : Int} : (S.take j ++ ([x] ++ S.drop j)).Perm (S ++ [x]) := by
  have h1 : (S.take j ++ ([x] ++ S.drop j)).Perm (S.take j ++ (S.drop j ++ [x])) := List.Perm.append_left _ List.perm_append_comm
  have e : S.take j ++ (S.drop j ++ [x]) = S ++ [x] := by rw [← List.append_assoc, List.take_append_drop]
  rw [← e]; exact h1

end Go.Proofs
