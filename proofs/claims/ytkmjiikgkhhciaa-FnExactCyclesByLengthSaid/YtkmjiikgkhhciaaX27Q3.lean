/- Contracts and plain mathematics for a law, merged. -/
import Derived.Test.YtkmjiikgkhhciaaX27Q2
/- Contracts: sorting a list of numbers, the reference's side. -/
set_option linter.unusedVariables false
set_option linter.unusedSimpArgs false
set_option maxRecDepth 100000
namespace Go.Proofs
open Go.Abs

variable {H G B : AHeap} {v u f : Value} {l m S : List Int} {K : Value → AHeap → Prop}

theorem LI_putN (L : List Int) (i : Nat) (x : Int) : (LI L).set i (.int .i64 x) = LI (L.set i x) := List.map_set.symm
theorem l07Sort_ok (h : Ints H v l) (hl : l.length ≤ 1000000) (k : ∀ v' G, H.le G → Fresh H.length G v' 2 1 (LI (srtI l)) → K v' G) : AC Try.prog T0 165 [v] H K := by
  apply F165.ac
  unfold F165.B14 F165.B13
  refine newK_f rfl fun H1 l1 n1 o1 => ?_
  unfold F165.B12 F165.L2
  refine ⟨fun x0 x3 x4 G => v = x0 ∧ H.le G ∧ ∃ (i bo : Nat) (S : List Int), x4 = i ∧ i ≤ l.length ∧ H.length ≤ bo ∧ x3 = .slice (some ⟨bo, 0, none⟩) S.length (S.length + 1) ∧ Own G bo 2 (LI S) ∧ S.Pairwise (fun a b => a ≤ b) ∧ S.Perm (l.take i),
    fun _ _ x4 _ => l.length - x4.toNat, ⟨rfl, l1, 0, H.length, [], rfl, by omega, Nat.le_refl _, rfl, o1, List.Pairwise.nil, by simp⟩, ?_⟩
  rintro x0 x3 x4 G ⟨rfl, lG, i, bo, S, rfl, hi, hbo, rfl, oS, sS, pS⟩
  have hSl : S.length = i := by have := pS.length_eq; rw [List.length_take] at this; omega
  unfold F165.B11
  refine (h.le lG).len (pif_cases (fun hb => ?_) fun hb => ?_)
  rotate_left
  · have hil : i = l.length := by have := of_decide_eq_false hb; omega
    subst hil
    rw [List.take_length] at pS
    unfold F165.B1
    refine k _ G lG (.inr ⟨bo, S.length, hbo, rfl, ?_, ?_⟩)
    · rw [← srtI_eq sS pS]; exact oS
    · rw [← srtI_eq sS pS]; simp
  have hil : i < l.length := by have := of_decide_eq_true hb; omega
  have hbl := oS.lt
  obtain ⟨e, he⟩ : ∃ e, e = l.getD i 0 := ⟨_, rfl⟩
  unfold F165.B10
  refine lenK_of ?_
  unfold F165.B9
  refine (h.le lG).rd (by omega) (by omega) ?_
  rw [Int.toNat_natCast, ← he]
  refine Sl.pushN (m := H.length) E_int (by decide) (Fresh.sl (.inr ⟨bo, S.length, hbo, rfl, oS, by simp⟩)) lG.1 (n := 1) (ys := [.int .i64 e]) rfl rfl (by simp; omega) (by simp) fun v' G3 k3 ot3 nb3 f3 => ?_
  have f3 : Fresh H.length G3 v' 2 1 (LI (S ++ [e])) := by simpa using f3
  obtain ⟨b3, hb3, rfl, o3⟩ : ∃ b, H.length ≤ b ∧ v' = .slice (some ⟨b, 0, none⟩) (S.length + 1) (S.length + 1 + 1) ∧ Own G3 b 2 (LI (S ++ [e])) := by
    rcases f3 with ⟨h0, _⟩ | ⟨b, n, hb, rfl, g3, g4⟩
    · simp at h0
    · have hn : n = S.length + 1 := by simpa using g4.symm
      subst hn
      exact ⟨b, hb, rfl, g3⟩
  have lG3 : H.le G3 := k3.le lG (Nat.le_refl _)
  unfold F165.L5
  refine ⟨fun x0 x3 x4 x5 G' => v = x0 ∧ .slice (some ⟨b3, 0, none⟩) (S.length + 1) (S.length + 1 + 1) = x3 ∧ (i : Int) = x4 ∧ H.le G' ∧ ∃ (j : Nat) (g : Int), x5 = j ∧ j ≤ S.length ∧ Own G' b3 2 (LI (S.take j ++ ([g] ++ S.drop j))) ∧ ∀ q, j ≤ q → q < S.length → e < S.getD q 0,
    fun _ _ _ x5 _ => x5.toNat, ⟨rfl, rfl, rfl, lG3, S.length, e, rfl, Nat.le_refl _, by rw [List.take_length, List.drop_length, List.append_nil]; exact o3, fun q h1 h2 => by omega⟩, ?_⟩
  clear o3 f3 ot3 nb3 lG3 k3
  rintro x0 x3 x4 x5 G' ⟨rfl, rfl, rfl, lG', j, g, rfl, hj, oj, hgt⟩
  obtain ⟨T, hT⟩ : ∃ T, T = S.take j ++ ([g] ++ S.drop j) := ⟨_, rfl⟩
  have hTl : T.length = S.length + 1 := by rw [hT]; simp [Nat.min_eq_left hj]; omega
  have hTj : ∀ x, T.set j x = S.take j ++ ([x] ++ S.drop j) := fun x => by
    rw [hT, List.set_append_right _ _ (by simp; omega)]
    simp [Nat.min_eq_left hj]
  rw [← hT] at oj
  have next : (j = 0 ∨ S.getD (j - 1) 0 ≤ e) → F165.B4 K (fun z0 z3 z4 G'' => (v = z0 ∧ H.le G'' ∧ ∃ (i bo : Nat) (S : List Int), z4 = i ∧ i ≤ l.length ∧ H.length ≤ bo ∧ z3 = .slice (some ⟨bo, 0, none⟩) S.length (S.length + 1) ∧ Own G'' bo 2 (LI S) ∧ S.Pairwise (fun a b => a ≤ b) ∧ S.Perm (l.take i)) ∧ l.length - z4.toNat < l.length - (i : Int).toNat) v (.slice (some ⟨b3, 0, none⟩) (S.length + 1) (S.length + 1 + 1)) i j G' := by
    intro hst
    unfold F165.B4
    refine (h.le lG').rd (by omega) (by omega) ?_
    rw [Int.toNat_natCast, ← he]
    refine own_idx (by omega) (by omega) (stK_1 oj (by simp; omega) rfl fun G5 b5 o5 => ?_)
    rw [Int.toNat_natCast, LI_putN, hTj] at o5
    unfold F165.B3
    rw [wrap_id (by omega) (by omega)]
    have hlen : (S.take j ++ ([e] ++ S.drop j)).length = S.length + 1 := by simp [Nat.min_eq_left hj]; omega
    refine ⟨⟨rfl, b5.le lG' hb3, i + 1, b3, _, by omega, by omega, hb3, by rw [hlen], o5, insI_sorted sS hj hgt hst, insI_perm.trans ?_⟩, by omega⟩
    rw [List.take_succ_eq_append_getElem hil, he, getD_of hil]
    exact pS.append_right _
  unfold F165.B8
  refine pif_cases (fun hb => ?_) fun hb => next (.inl (by have := of_decide_eq_false hb; omega))
  have hj0 : 0 < j := by have := of_decide_eq_true hb; omega
  have hT1 : T.getD (j - 1) 0 = S.getD (j - 1) 0 := by
    rw [hT]
    simp [List.getD, List.getElem?_append_left (show j - 1 < (S.take j).length by simp; omega), List.getElem?_take_of_lt (show j - 1 < j by omega)]
  have w1 : IntKind.i64.wrap ((j : Int) - 1) = ((j - 1 : Nat) : Int) := by rw [wrap_id (by omega) (by omega)]; omega
  have rdT : (LI T)[((j - 1 : Nat) : Int).toNat]? = some (.int .i64 (S.getD (j - 1) 0)) := by
    rw [Int.toNat_natCast, List.getElem?_map, List.getElem?_eq_getElem (by omega), ← hT1, getD_of (by omega)]; rfl
  rw [w1]
  refine own_idx (by omega) (by omega) (ldI_own oj rdT ((h.le lG').rd (by omega) (by omega) ?_))
  rw [Int.toNat_natCast, ← he]
  refine pif_cases (fun hq => ?_) fun hq => next (.inr (by have := of_decide_eq_false hq; omega))
  have hlt : e < S.getD (j - 1) 0 := by have := of_decide_eq_true hq; omega
  unfold F165.B7
  rw [w1]
  refine own_idx (by omega) (by omega) (ldI_own oj rdT (own_idx (by omega) (by omega) (stK_1 oj (by simp; omega) rfl fun G6 b6 o6 => ?_)))
  rw [Int.toNat_natCast, LI_putN, hTj] at o6
  unfold F165.B6
  rw [w1]
  refine ⟨⟨rfl, rfl, rfl, b6.le lG' hb3, j - 1, S.getD (j - 1) 0, rfl, by omega, ?_, fun q h1 h2 => ?_⟩, ?_⟩
  · have e1 : S.take (j - 1) ++ ([S.getD (j - 1) 0] ++ S.drop (j - 1)) = S.take j ++ ([S.getD (j - 1) 0] ++ S.drop j) := by
      obtain ⟨j', rfl⟩ : ∃ j', j = j' + 1 := ⟨j - 1, by omega⟩
      rw [Nat.add_sub_cancel, getD_of (show j' < S.length by omega), List.drop_eq_getElem_cons (show j' < S.length by omega), List.take_succ_eq_append_getElem (show j' < S.length by omega), List.append_assoc]
      rfl
    rw [e1]; exact o6
  · by_cases e2 : q = j - 1
    · subst e2; exact hlt
    · exact hgt q (by omega) h2
  · show ((j - 1 : Nat) : Int).toNat < ((j : Nat) : Int).toNat
    omega
end Go.Proofs
/- Contracts: covers of colourings, both sides. -/
set_option linter.unusedVariables false
set_option linter.unusedSimpArgs false
set_option maxRecDepth 100000
namespace Go.Proofs
open Go.Abs

variable {H G : AHeap} {v u f w : Value} {l m c : List Int} {es fs : List (Int × Int)} {K : Value → AHeap → Prop} {A : Nat → Prop} {B C : Nat} {ls ms : List (List Int)}

theorem RowsF.app (h : RowsF A B H v ls) (g : RowsF (fun b => B ≤ b) C H w ms) (hB : B ≤ H.length) (hC : C ≤ H.length) (hA : ∀ b, B ≤ b → A b) (hs : ls.length + ms.length ≤ 4294967296)
    (k : ∀ v' G, Oth v H G → H.length ≤ G.length → RowsF A G.length G v' (ls ++ ms) → K v' G) : apK T0 25 H v w K := by
  obtain ⟨vs, h1, h2, h3, h4⟩ := h
  obtain ⟨ws, g1, g2, g3, g4⟩ := g
  refine h1.sl.app E_row (by decide) (Nat.zero_le _) (fresh_cells g1 (by decide) (n := ms.length) (by omega)) (by omega) (fun h0 => ?_) fun v' G k1 ot nb f' => k v' G ot k1.len ?_
  · have : ms = [] := List.length_eq_zero_iff.1 (by rw [← g2, h0]; rfl)
    subst this
    rw [List.append_nil] at k
    exact k v H (fun _ _ _ h => h) (Nat.le_refl _) ((show RowsF A B H v ls from ⟨vs, h1, h2, h3, h4⟩).mono (fun _ h => h) hB)
  · refine ⟨vs ++ ws, f', by simp [h2, g2], fun b hb => ⟨hA b (by have := nb b hb; omega), (f'.bk_lt hb).2⟩, fun i hi => ?_⟩
    rw [List.length_append] at hi
    by_cases e : i < ls.length
    · obtain ⟨w', q1, q2, q3⟩ := h4 i e
      refine ⟨w', by rw [List.getElem?_append_left (by omega)]; exact q1, ?_, fun b hb => ?_⟩
      · rw [show (ls ++ ms).getD i [] = ls.getD i [] by simp [List.getD, List.getElem?_append_left e]]
        exact fresh_oth q2 fun b o hb ho => ot b o (q3 b hb).2.2.1 ho
      · obtain ⟨r1, r2, r3, r4⟩ := q3 b hb
        refine ⟨r1, by have := k1.len; omega, fun hv => by have := nb b hv; omega, fun j w2 hj hw2 => r4 j w2 hj ?_⟩
        rwa [List.getElem?_append_left (by omega)] at hw2
    · obtain ⟨j, rfl⟩ : ∃ j, i = ls.length + j := ⟨i - ls.length, by omega⟩
      obtain ⟨w', q1, q2, q3⟩ := g4 j (by omega)
      refine ⟨w', by rw [List.getElem?_append_right (by omega), h2, Nat.add_sub_cancel_left]; exact q1, ?_, fun b hb => ?_⟩
      · rw [show (ls ++ ms).getD (ls.length + j) [] = ms.getD j [] by simp [List.getD, List.getElem?_append_right]]
        exact fresh_oth q2 fun b o hb ho => ot b o (fun hv => by have := (h3 b hv).2; have : B ≤ b := (q3 b hb).1; omega) ho
      · obtain ⟨r1, r2, r3, r4⟩ := q3 b hb
        refine ⟨hA b r1, by have := k1.len; omega, fun hv => by have := nb b hv; omega, fun j' w2 hj hw2 hw3 => ?_⟩
        by_cases e2 : j' < ls.length
        · rw [List.getElem?_append_left (by omega)] at hw2
          obtain ⟨w4, s1, _, s3⟩ := h4 j' e2
          rw [hw2] at s1; cases s1
          have := (s3 b hw3).2.1
          have : B ≤ b := r1
          omega
        · rw [List.getElem?_append_right (by omega)] at hw2
          exact r4 (j' - vs.length) w2 (by omega) hw2 hw3

end Go.Proofs
/- Contracts: the cycles that go on from a list of edges, the reference's side. -/
set_option linter.unusedVariables false
set_option linter.unusedSimpArgs false
set_option maxRecDepth 100000
namespace Go.Proofs
open Go.Abs

variable {H G : AHeap} {v u f w : Value} {l m : List Int} {es fs : List (Int × Int)} {K : Value → AHeap → Prop} {n : Int} {e en : Nat}

theorem flat_len {α β : Type} {g : α → List β} {k : Nat} : ∀ {l : List α}, (∀ a ∈ l, (g a).length ≤ k) → (l.flatMap g).length ≤ l.length * k
  | [], _ => by simp
  | a :: l, h => by
    have h1 := h a (by simp)
    have h2 := flat_len (l := l) fun b hb => h b (by simp [hb])
    rw [List.flatMap_cons, List.length_append, List.length_cons, Nat.add_mul]; omega
/-- What an edge adds. -/
def stepW (es : List (Int × Int)) (e en f a : Nat) (M : Nat → Bool) (i : Int) : List (List Int) := if i ≤ (e : Int) ∨ M (oe es i.toNat a) = true then [] else (pwL es e en f (oe es i.toNat a) (insB M (oe es i.toNat a))).map (i :: ·)
theorem pwL_step {f a : Nat} {M : Nat → Bool} (ha : a ≠ en) : pwL es e en (f + 1) a M = (atL es a).flatMap (stepW es e en f a M) := by rw [pwL, if_neg ha]; rfl
theorem atL_short (hg : IsG n es) (a : Nat) : (atL es a).length ≤ 3 := by
  by_cases h : (a : Int) < n
  · rw [hg.three (by omega) h]; exact Nat.le_refl _
  · have : degB es (fun _ => true) a = 0 := deg_out hg.endsIn h
    have e : (atL es (a : Int)).length = degB es (fun _ => true) a := by unfold atL atTo degB filtB; simp
    omega
theorem pw_len (hg : IsG n es) : ∀ {f a : Nat} {M : Nat → Bool}, (pwL es e en f a M).length ≤ 3 ^ f
  | 0, a, M => by simp [pwL]
  | f + 1, a, M => by
    by_cases ha : a = en
    · rw [pwL, if_pos ha]; have := Nat.pow_le_pow_right (n := 3) (by decide) (Nat.zero_le (f + 1)); simp at this ⊢; omega
    · rw [pwL_step ha]
      have h1 := flat_len (l := atL es a) (g := stepW es e en f a M) (k := 3 ^ f) fun i _ => by
        unfold stepW
        split
        · simp
        · rw [List.length_map]; exact pw_len hg
      have h2 := Nat.mul_le_mul_right (3 ^ f) (atL_short hg a)
      rw [Nat.pow_succ]; omega
theorem rows_one {m0 : Nat} {x : Value} (h : Fresh m0 H x 2 1 (LI l)) (hm : m0 ≤ H.length) (k : ∀ G, H.le G → RowsF (fun b => m0 ≤ b) G.length G (.slice (some ⟨H.length, 0, none⟩) 1 (1 + 1)) [l] → K (.slice (some ⟨H.length, 0, none⟩) 1 (1 + 1)) G) :
    pif x.oneCell' (newK H [x] 25 (fun b4 H5 => K (.slice (some ⟨b4, 0, none⟩) 1 (1 + 1)) H5)) False := by
  have hx := ints_one h.ints
  refine pif_t hx (newK_f (by simp [hx]) fun G lG nG o => k G lG ⟨[x], .inr ⟨_, 1, Nat.zero_le _, rfl, o, rfl⟩, rfl, fun b hb => ?_, fun i hi => ?_⟩)
  · have : H.length = b := Option.some.inj hb
    omega
  · have hi0 : i = 0 := by simp at hi; exact hi
    subst hi0
    refine ⟨x, rfl, (h.le lG).less (Nat.zero_le _), fun b hb => ?_⟩
    have := h.bk_lt hb
    refine ⟨this.1, by omega, fun hv => ?_, fun j _ hj => by omega⟩
    have : H.length = b := Option.some.inj hv
    omega
/-- What the walk does with some fuel. -/
def WkC (n : Int) (es : List (Int × Int)) (e en f : Nat) : Prop := ∀ (H : AHeap) (v u : Value) (L : List Int) (a bm : Nat) (S : List Bool) (K : Value → AHeap → Prop), Edges H v es → Ints H u L → L.getD 0 0 = (e : Int) → 0 < L.length → L.length + f ≤ 100 → (∀ x ∈ L, 0 ≤ x ∧ x < es.length) → (a : Int) < n → Own H bm 4 (LB S) → S.length = n.toNat → unseen (fun j => S.getD j false) n.toNat < f →
  (∀ v' G, H.le G → RowsF (fun b => H.length ≤ b) G.length G v' ((pwL es e en f a (fun j => S.getD j false)).map fun p => srtI (L ++ p)) → K v' G) →
  AC Try.prog T0 118 [.agg ⟨[.int .i64 n, v]⟩, u, .int .i64 (a : Nat), .int .i64 (en : Nat), .slice (some ⟨bm, 0, none⟩) n.toNat (n.toNat + 1)] H K
theorem insB_set {S : List Bool} {y : Nat} (hy : y < S.length) : (fun j => (S.set y true).getD j false) = insB (fun j => S.getD j false) y := funext fun j => setB hy j

theorem cell_but {b : Nat} {S : List Bool} (hb : But b H G) (ho : Own H b 4 (LB S)) {c o : Nat} {x : Int} (hc : H.cell c o = some (.int .i64 x)) : G.cell c o = some (.int .i64 x) := by
  by_cases e : c = b
  · subst e
    rw [ho.cell, List.getElem?_map] at hc
    cases h : S[o]? with
    | none => rw [h] at hc; cases hc
    | some y => rw [h] at hc; cases hc
  · unfold AHeap.cell at hc ⊢
    rw [hb.same c e]; exact hc
theorem edges_but {b : Nat} {S : List Bool} (h : Edges H v es) (hb : But b H G) (ho : Own H b 4 (LB S)) : Edges G v es := by
  rcases h with h | ⟨a, c, h1, h2 | ⟨h2, h3⟩⟩
  · exact .inl h
  · exact .inr ⟨a, c, h1, .inl h2⟩
  · exact .inr ⟨a, c, h1, .inr ⟨h2, fun i x hx => ⟨cell_but hb ho (h3 i x hx).1, cell_but hb ho (h3 i x hx).2⟩⟩⟩
theorem ints_but {b : Nat} {S : List Bool} (h : Ints H v l) (hb : But b H G) (ho : Own H b 4 (LB S)) : Ints G v l := by
  rcases h with h | ⟨a, c, h1, h2 | ⟨h2, h3⟩⟩
  · exact .inl h
  · exact .inr ⟨a, c, h1, .inl h2⟩
  · exact .inr ⟨a, c, h1, .inr ⟨h2, fun i x hx => cell_but hb ho (h3 i x hx)⟩⟩
theorem set_back {S : List Bool} {w : Nat} (h : S.getD w false = false) (hw : w < S.length) : (S.set w true).set w false = S := by
  rw [List.set_set]
  have : false = S[w] := by rw [getD_of hw] at h; exact h.symm
  rw [this, List.set_getElem_self]

set_option maxHeartbeats 1000000 in
theorem walk_body {f a bm bx : Nat} {Hb : AHeap} {S : List Bool} {L : List Int} {ls : List (List Int)} {c o : Value} {t : Nat} {N2 : Value → Int → Int → Value → Nat → Value → Value → Int → AHeap → Prop} (hg : IsG n es) (hf : f ≤ 13) (IH : WkC n es e en f) {A : Nat → Prop}
    (h : Edges Hb v es) (hu : Ints Hb u L) (hLe : L.getD 0 0 = (e : Int)) (hL0 : 0 < L.length) (hLl : L.length + (f + 1) ≤ 100) (hLr : ∀ x ∈ L, 0 ≤ x ∧ x < es.length) (han : (a : Int) < n) (oS : Own Hb bm 4 (LB S)) (hSl : S.length = n.toNat) (hun : unseen (fun j => S.getD j false) n.toNat < f + 1)
    (ob : Own Hb bx 31 [.int .i64 n, v]) (lH : Hb.le H) (hc : Fresh 0 H c 2 1 (LI (atL es a))) (ht : t < (atL es a).length)
    (hR : RowsF A H.length H o ls) (hA : ∀ b, H.length ≤ b → A b) (hAs : ∀ b, A b → bk c ≠ some b ∧ Hb.length ≤ b) (hls : ls.length ≤ 3 * 3 ^ 13)
    (hN : ∀ o' G, Hb.le G → H.length ≤ G.length → Fresh 0 G c 2 1 (LI (atL es a)) → RowsF A G.length G o' (ls ++ (stepW es e en f a (fun j => S.getD j false) ((atL es a).getD t 0)).map fun p => srtI (L ++ p)) →
      N2 u (a : Nat) (en : Nat) (.slice (some ⟨bm, 0, none⟩) n.toNat (n.toNat + 1)) bx o' c (t + 1 : Nat) G) :
    F118.B8 K N2 u (a : Nat) (en : Nat) (.slice (some ⟨bm, 0, none⟩) n.toNat (n.toNat + 1)) bx o c (t : Nat) H := by
  have h30 : es.length ≤ 30 := by have := hg.ed.len; have := hg.ed.hi; omega
  have hn20 := hg.ed.hi
  have hE := hg.endsIn
  obtain ⟨i, hi1, hi2, hi3⟩ := at_get (es := es) (w := (a : Int)) ht
  obtain ⟨q1, q2, q3, q4, q5⟩ := oe_of hE hi2 hi3
  rw [hi1] at hN
  obtain ⟨d1, d2, d3, d4, d5⟩ := hg.ed.ends es[i] (List.getElem_mem hi2)
  rw [← getD_of (d := (0, 0)) hi2] at d1 d2 d3 d4 d5
  have hat := atL_short (es := es) hg a
  have rdc : ∀ {G : AHeap} {K : Int → Prop}, Fresh 0 G c 2 1 (LI (atL es a)) → K (i : Int) → idxK c (t : Nat) 1 (fun b o => ldI .i64 G b o K) := fun hc k => by
    refine hc.ints.rd (by omega) (by omega) ?_
    rwa [Int.toNat_natCast, hi1]
  unfold F118.B8
  refine ldI_own (ob.le lH) rfl (ld1_own (ob.le lH) rfl (rdc hc (l01Other_ok (h.le lH) (by omega) (by omega) (by rw [Int.toNat_natCast]; omega) (by rw [Int.toNat_natCast]; omega) (by omega) fun G lG => asI_mk ?_)))
  rw [Int.toNat_natCast, q1]
  have lHG := AHeap.le_trans lH lG
  have hc := hc.le lG; have hR := hR.le lG
  have hlen := lG.1
  have huG := hu.le lHG
  unfold F118.B7
  refine rdc hc (huG.rd (by decide) (by omega) ?_)
  rw [show L.getD (0 : Int).toNat 0 = (e : Int) from hLe]
  have skip : i ≤ e ∨ (fun j => S.getD j false) (oe es i a) = true → F118.B3 K N2 u (a : Nat) (en : Nat) (.slice (some ⟨bm, 0, none⟩) n.toNat (n.toNat + 1)) bx o c (t : Nat) G := fun hs => by
    unfold F118.B3
    rw [wrap_id (by omega) (by omega)]
    have e0 : stepW es e en f a (fun j => S.getD j false) (i : Int) = [] := by
      unfold stepW
      rw [if_pos]
      rw [Int.toNat_natCast]
      exact hs.imp (fun h => by omega) id
    have := hN o G lHG hlen hc (by rw [e0]; simpa using hR.mono (fun _ h => h) hlen)
    simpa using this
  refine pif_cases (fun hb => skip (.inl (by have := of_decide_eq_true hb; omega))) fun hb => ?_
  have hei : e < i := by have := of_decide_eq_false hb; omega
  have hwl : oe es i a < S.length := by omega
  refine own_idx (by omega) (by omega) (ld1_own (oS.le lHG) (by rw [Int.toNat_natCast]; exact LB_get hwl) (asB_mk (pif_cases (fun hb => skip (.inr hb)) fun hb => ?_)))
  have hM : S.getD (oe es i a) false = false := hb
  -- a new vertex
  unfold F118.B6
  refine own_idx (by omega) (by omega) (stK_1 (oS.le lHG) (by simp; omega) rfl fun G1 b1 o1 => ?_)
  rw [Int.toNat_natCast, show (LB S).set (oe es i a) (.bool true) = LB (S.set (oe es i a) true) from List.map_set.symm] at o1
  have hu1 := unseen_ins (S := fun j => S.getD j false) (y := oe es i a) (n := n.toNat) (by omega) hM
  have un1 : unseen (fun j => (S.set (oe es i a) true).getD j false) n.toNat < f := by rw [insB_set hwl]; omega
  have bmb := oS.lt
  have hbxm : bx ≠ bm := by
    rintro rfl
    have := ob.symm.trans oS
    simp at this
  have hE1 : Edges G1 v es := edges_but (h.le lHG) b1 (oS.le lHG)
  have hu1' : Ints G1 u L := ints_but huG b1 (oS.le lHG)
  have ob1 : Own G1 bx 31 [.int .i64 n, v] := b1.own (ob.le lHG) hbxm
  have hcm : bk c ≠ some bm := by
    intro hcb
    rcases hc with ⟨h0, h1 | ⟨a', h1⟩⟩ | ⟨b, n', _, rfl, g3, _⟩
    · subst h1; cases hcb
    · subst h1; cases hcb
    · obtain rfl : b = bm := Option.some.inj hcb
      have := (oS.le lHG).symm.trans g3
      simp at this
  have hc1 : Fresh 0 G1 c 2 1 (LI (atL es a)) := fresh_oth hc fun b x hb hx => by
    rw [b1.same b (fun e => hcm (by rw [hb, e]))]; exact hx
  have hR1 : RowsF A H.length G1 o ls := hR.but b1 fun hbad => by have := (hAs bm hbad).2; omega
  have h1len := b1.len
  unfold F118.B5
  refine ldI_own ob1 rfl (ld1_own ob1 rfl (Sl_rd1 hc1.sl (by omega) (by simp; omega) fun b3 o4 hcell => ?_))
  have hcell : G1.cell b3 o4 = some (.int .i64 (i : Nat)) := by
    rw [hcell, Int.toNat_natCast, List.getElem?_map, List.getElem?_eq_getElem ht, ← getD_of (d := 0) ht, hi1]; rfl
  refine ldI_mk hcell ?_
  have chk : ∀ G2, G1.le G2 → (ldI .i64 G2 bx 0 fun v9 => ld1 G2 bx 1 fun v10 => Value.agg ⟨[.int .i64 v9, v10]⟩ = .agg ⟨[.int .i64 n, v]⟩ ∧ G2 = G2) := fun G2 l2 => ldI_own (ob1.le l2) rfl (ld1_own (ob1.le l2) rfl ⟨rfl, rfl⟩)
  have chk2 : ∀ G2, G1.le G2 → (ldI .i64 G2 b3 o4 fun v11 => Value.int .i64 v11 = .int .i64 (i : Nat) ∧ G2 = G2) := fun G2 l2 => ldI_mk (AHeap.cell_le l2 hcell) ⟨rfl, rfl⟩
  have fin : ∀ G15 v14, G1.le G15 → Ints G15 v14 (L ++ [(i : Int)]) → AC Try.prog T0 118 [.agg ⟨[.int .i64 n, v]⟩, v14, .int .i64 (oe es i a : Nat), .int .i64 (en : Nat), .slice (some ⟨bm, 0, none⟩) n.toNat (n.toNat + 1)] G15 (fun v18 H19 => apK T0 25 H19 o v18 (fun v21 H22 => F118.B4 K N2 u (a : Nat) (en : Nat) (.slice (some ⟨bm, 0, none⟩) n.toNat (n.toNat + 1)) bx v21 c (t : Nat) (oe es i a : Nat) H22)) := by
    intro G15 v14 l15 hi14
    refine IH G15 v v14 (L ++ [(i : Int)]) (oe es i a) bm (S.set (oe es i a) true) _ (hE1.le l15) hi14 ?_ (by simp) (by simp; omega) (fun x hx => ?_) q3 (o1.le l15) (by simpa using hSl) un1 fun v18 G19 l19 R19 => ?_
    · cases L with
      | nil => simp at hL0
      | cons y L => simpa using hLe
    · rcases List.mem_append.1 hx with hx | hx
      · exact hLr x hx
      · rw [List.mem_singleton.1 hx]; omega
    have l119 := AHeap.le_trans l15 l19
    have h15 := l15.1
    rw [insB_set hwl] at R19
    have hrl : ((pwL es e en f (oe es i a) (insB (fun j => S.getD j false) (oe es i a))).map fun p => srtI (L ++ [(i : Int)] ++ p)).length ≤ 3 ^ 13 := by
      rw [List.length_map]
      exact Nat.le_trans (pw_len hg) (Nat.pow_le_pow_right (by decide) hf)
    have hbo := hR1
    obtain ⟨vs, _, _, hob, _⟩ := hbo
    refine ((hR1.le l119).mono (B' := G15.length) (fun _ h => h) (by omega)).app R19 l19.1 (Nat.le_refl _) (fun b hb => hA b (by omega)) (by omega) fun o' G22 ot len22 R22 => ?_
    have oth : ∀ b x, b ≠ bm → b < Hb.length → Hb[b]? = some (some x) → G22[b]? = some (some x) := fun b x hne hb hx => ot b x (fun hob' => by have := (hAs b (hob b hob').1).2; omega) (l119.2 _ _ (by rw [b1.same b hne]; exact lHG.2 _ _ hx))
    have obm : Own G22 bm 4 (LB (S.set (oe es i a) true)) := ot _ _ (fun hob' => by have := (hAs bm (hob bm hob').1).2; omega) (o1.le l119)
    unfold F118.B4
    refine own_idx (by omega) (by omega) (stK_1 obm (by simp; omega) rfl fun G23 b23 o23 => ?_)
    rw [Int.toNat_natCast, show (LB (S.set (oe es i a) true)).set (oe es i a) (.bool false) = LB ((S.set (oe es i a) true).set (oe es i a) false) from List.map_set.symm, set_back hM hwl] at o23
    have h23 := b23.len
    unfold F118.B3
    rw [wrap_id (by omega) (by omega)]
    have hst : (stepW es e en f a (fun j => S.getD j false) (i : Int)).map (fun p => srtI (L ++ p)) = (pwL es e en f (oe es i a) (insB (fun j => S.getD j false) (oe es i a))).map fun p => srtI (L ++ [(i : Int)] ++ p) := by
      unfold stepW
      have hno : ¬ ((i : Int) ≤ (e : Int) ∨ (fun j => S.getD j false) (oe es (i : Int).toNat a) = true) := by
        rintro (hx | hx)
        · omega
        · have hx : S.getD (oe es i a) false = true := hx
          rw [hM] at hx; cases hx
      rw [if_neg hno, Int.toNat_natCast, List.map_map]
      refine List.map_congr_left fun p _ => ?_
      simp
    have := hN o' G23 ⟨by have := lHG.1; have := l119.1; omega, fun b x hx => ?_⟩ (by have := l119.1; omega) ?_ ?_
    · simpa using this
    · have hb := lt_of_get hx
      by_cases e : b = bm
      · subst e
        have : some x = some (AObj.row (LB S) 4 true) := by have := hx.symm.trans oS; simpa using this
        rw [show x = _ from Option.some.inj this]; exact o23
      · rw [b23.same b e]; exact oth b x e hb hx
    · refine fresh_oth (fresh_oth (hc1.le l119) fun b x hb hx => ot b x (fun hob' => (hAs b (hob b hob').1).1 hb) hx) fun b x hb hx => ?_
      rw [b23.same b (fun e => hcm (by rw [hb, e]))]; exact hx
    · rw [hst]
      exact (R22.but b23 fun hbad => by have := (hAs bm hbad).2; omega).mono (fun _ h => h) (by omega)
  refine ⟨l01Own_ok hu1' (by omega) fun v6 G7 l7 f6 => ⟨chk G7 l7, chk2 G7 l7, ?_⟩, newK_f rfl fun G24 l24 n24 o24 => l01Own_ok (hu1'.le l24) (by omega) fun v25 G26 l26 f26 => ⟨chk _ (AHeap.le_trans l24 l26), chk2 _ (AHeap.le_trans l24 l26), ?_⟩⟩
  · refine f6.sl.pushN E_int (by decide) l7.1 (n := 1) (ys := [.int .i64 (i : Nat)]) rfl rfl (by simp; omega) (by simp) fun v14 G15 k15 _ _ f15 => ?_
    have l15 := k15.le l7 (Nat.le_refl _)
    have f15 : Fresh G1.length G15 v14 2 1 (LI (L ++ [(i : Int)])) := by simpa using f15
    exact ⟨chk _ l15, fin G15 v14 l15 f15.ints⟩
  · have hcs : cellsAt G26 (.slice (some ⟨G1.length, 0, none⟩) 1 (1 + 1)) 1 1 [.int .i64 (i : Nat)] := cellsAt_row (o24.le l26) rfl
    refine f26.sl.app E_int (by decide) l26.1 hcs (by simp; omega) (fun h => by cases h) fun v14 G15 k15 _ _ f15 => ?_
    have l15 := AHeap.le_trans l24 (k15.le l26 (Nat.le_refl _))
    have f15 : Fresh G24.length G15 v14 2 1 (LI (L ++ [(i : Int)])) := by simpa using f15
    exact ⟨chk _ l15, fin G15 v14 l15 f15.ints⟩

theorem walk_ok (hg : IsG n es) : ∀ {f : Nat}, f ≤ 14 → WkC n es e en f
  | 0, _ => fun H v u L a bm S K h hu hLe hL0 hLl hLr han oS hSl hun k => by omega
  | f + 1, hf => fun H v u L a bm S K h hu hLe hL0 hLl hLr han oS hSl hun k => by
    have IH : WkC n es e en f := walk_ok hg (by omega)
    have h30 : es.length ≤ 30 := by have := hg.ed.len; have := hg.ed.hi; omega
    apply F118.ac
    unfold F118.B14
    refine newK_f (all_iv (edges_one' h)) fun H1 l1 n1 o1 => ?_
    unfold F118.B13
    by_cases ha : a = en
    · refine pif_t (by simp [ha]) ?_
      unfold F118.B12
      refine l07Sort_ok (hu.le l1) (by omega) fun v1 H2 l2 f2 => rows_one f2 l2.1 fun G lG hR => ?_
      refine k _ G (AHeap.le_trans l1 (AHeap.le_trans l2 lG)) ?_
      rw [pwL, if_pos ha]
      simpa using hR.mono (fun b hb => by omega) (Nat.le_refl _)
    · refine pif_f (by simp; omega) ?_
      unfold F118.B11
      refine newK_f rfl fun H2 l2 n2 o2 => ?_
      refine ldI_own (o1.le l2) rfl (ld1_own (o1.le l2) rfl (l01At_ok (h.le (AHeap.le_trans l1 l2)) (by omega) fun c H3 l3 fc => ?_))
      have hcl : ∀ b, bk c = some b → H2.length ≤ b := fun b hb => (fc.bk_lt hb).1
      have hcl' : ∀ b, bk c = some b → b < H3.length := fun b hb => (fc.bk_lt hb).2
      have hat := atL_short (es := es) hg a
      have e2 : H2.length = H1.length + 1 := n2
      unfold F118.B10 F118.L2
      refine ⟨fun x1 x2 x3 x4 x5 x11 x12 x13 G => u = x1 ∧ (a : Int) = x2 ∧ (en : Int) = x3 ∧ .slice (some ⟨bm, 0, none⟩) n.toNat (n.toNat + 1) = x4 ∧ H.length = x5 ∧ c = x12 ∧ H1.le G ∧ H3.length ≤ G.length ∧ Fresh 0 G c 2 1 (LI (atL es a)) ∧ ∃ t : Nat, x13 = t ∧ t ≤ (atL es a).length ∧ RowsF (fun b => H1.length ≤ b ∧ bk c ≠ some b) G.length G x11 ((((atL es a).take t).flatMap (stepW es e en f a (fun j => S.getD j false))).map fun p => srtI (L ++ p)),
        fun _ _ _ _ _ _ _ x13 _ => (atL es a).length - x13.toNat, ⟨rfl, rfl, rfl, rfl, rfl, rfl, AHeap.le_trans l2 l3, Nat.le_refl _, fc.less (Nat.zero_le _), 0, rfl, by omega, ?_⟩, ?_⟩
      · have hb1 := o2.lt
        exact (RowsF.nil1 (A := fun b => H1.length ≤ b ∧ bk c ≠ some b) (o2.le l3) ⟨Nat.le_refl _, fun hb => by have := hcl _ hb; omega⟩ (by have := l3.1; omega))
      rintro x1 x2 x3 x4 x5 x11 x12 x13 G ⟨rfl, rfl, rfl, rfl, rfl, rfl, lG, hG3, hcG, t, rfl, ht, hR⟩
      unfold F118.B9
      refine hcG.sl.len (by decide) (n := (atL es a).length) (by simp) (pif_cases (fun hb => ?_) fun hb => ?_)
      · have htl : t < (atL es a).length := by have := of_decide_eq_true hb; omega
        refine walk_body hg (by omega) IH (Hb := H1) (h.le l1) (hu.le l1) hLe hL0 hLl hLr han (oS.le l1) hSl hun o1 lG hcG htl hR (fun b hb => ⟨by have := lG.1; omega, fun hcb => by have := hcl' b hcb; omega⟩) (fun b hb => ⟨hb.2, hb.1⟩) ?_ fun o' G2 l2' hlen hc2 hR2 => ?_
        · rw [List.length_map]
          have h1 := flat_len (l := (atL es a).take t) (g := stepW es e en f a (fun j => S.getD j false)) (k := 3 ^ 13) fun i _ => by
            unfold stepW
            split
            · simp
            · rw [List.length_map]; exact Nat.le_trans (pw_len hg) (Nat.pow_le_pow_right (by decide) (by omega))
          have h2 := Nat.mul_le_mul_right (3 ^ 13) (show ((atL es a).take t).length ≤ 3 by rw [List.length_take]; omega)
          exact Nat.le_trans h1 h2
        · refine ⟨⟨rfl, rfl, rfl, rfl, rfl, rfl, l2', by omega, hc2, t + 1, rfl, by omega, ?_⟩, by simp; omega⟩
          rw [List.take_succ_eq_append_getElem htl, List.flatMap_append, List.map_append, ← getD_of (d := 0) htl]
          simpa using hR2
      · have hte : t = (atL es a).length := by have := of_decide_eq_false hb; omega
        subst hte
        rw [List.take_length, ← pwL_step ha] at hR
        unfold F118.B1
        exact k _ G (AHeap.le_trans l1 lG) (hR.mono (fun b hb => Nat.le_trans l1.1 hb.1) (Nat.le_refl _))
end Go.Proofs
/- Contracts: all cycles by their least edges, the reference's side. -/
set_option linter.unusedVariables false
set_option linter.unusedSimpArgs false
set_option maxRecDepth 100000
namespace Go.Proofs
open Go.Abs

variable {H G : AHeap} {v u f w : Value} {l m : List Int} {es fs : List (Int × Int)} {K : Value → AHeap → Prop} {n : Int} {e en : Nat}

theorem srt_row (hE : EndsIn n es) (he : e < es.length) {l : List Int} (hl : l ∈ pwL es e (eaN es e) (n.toNat + 1) (ebN es e) (metB (ebN es e))) : srtI ((e : Int) :: l) = rowOf es.length ((e : Int) :: l) := by
  obtain ⟨C, h1, h2⟩ := cy_way hE he hl
  have P := wk_prop hE hl (by simp [metB])
  symm
  refine srtI_eq (C.s.asc.imp fun h => Int.le_of_lt h) ?_
  exact (List.perm_ext_iff_of_nodup (asc_nodup C.s.asc) (List.nodup_cons.2 ⟨h1, P.nd⟩)).2 h2
theorem cyE_len (hg : IsG n es) (hn : n ≤ 12) : (cyE n es e).length ≤ 3 ^ 13 := by
  unfold cyE
  rw [List.length_map]
  exact Nat.le_trans (pw_len hg) (Nat.pow_le_pow_right (by decide) (by omega))
theorem cyRows_len (hg : IsG n es) (hn : n ≤ 12) (k : Nat) (hk : k ≤ es.length) : ((List.range k).flatMap (cyE n es)).length ≤ 18 * 3 ^ 13 := by
  have h1 := flat_len (l := List.range k) (g := cyE n es) (k := 3 ^ 13) fun a _ => cyE_len hg hn
  have h18 : es.length ≤ 18 := by have := hg.ed.len; omega
  have h2 := Nat.mul_le_mul_right (3 ^ 13) (show (List.range k).length ≤ 18 by simp; omega)
  exact Nat.le_trans h1 h2
theorem l07All_ok (h : Edges H v es) (hg : IsG n es) (hn : n ≤ 12) (k : ∀ v' G, H.le G → RowsF (fun b => H.length ≤ b) G.length G v' (cyRows n es) → K v' G) : AC Try.prog T0 70 [.agg ⟨[.int .i64 n, v]⟩] H K := by
  have h30 : es.length ≤ 30 := by have := hg.ed.len; have := hg.ed.hi; omega
  have hn0 := hg.ed.lo
  have hE := hg.endsIn
  apply F70.ac
  unfold F70.B10
  refine newK_f (all_iv (edges_one' h)) fun H1 l1 n1 o1 => ?_
  unfold F70.B9
  refine newK_f rfl fun H2 l2 n2 o2 => ?_
  unfold F70.B8 F70.L2
  refine ⟨fun x1 x3 x4 G => H.length = x1 ∧ H1.le G ∧ ∃ i : Nat, x4 = i ∧ i ≤ es.length ∧ RowsF (fun b => H1.length ≤ b) G.length G x3 ((List.range i).flatMap (cyE n es)), fun _ _ x4 _ => es.length - x4.toNat, ⟨rfl, l2, 0, rfl, by omega, RowsF.nil1 o2 (Nat.le_refl _) o2.lt⟩, ?_⟩
  rintro x1 x3 x4 G ⟨rfl, lG1, i, rfl, hi, hR⟩
  have lG := AHeap.le_trans l1 lG1
  have oG := o1.le lG1
  unfold F70.B7
  refine ld1_own oG rfl ((h.le lG).len (pif_cases (fun hb => ?_) fun hb => ?_))
  · have hlt : i < es.length := by have := of_decide_eq_true hb; omega
    obtain ⟨hab, hne, han, hbn, hon⟩ := ends_eq hE hlt
    unfold F70.B6
    refine ldI_own oG rfl (mkR_int (by omega) (by omega) (by decide) fun G2 g2 m2 q2 => ?_)
    rw [rep_b] at q2
    have lG2 := AHeap.le_trans lG g2
    obtain ⟨bb, oo, hk, c1, c2⟩ := (h.le lG2).idx (show (0 : Int) ≤ i by omega) (by omega)
    simp only [Int.toNat_natCast, hab] at c1 c2
    unfold F70.B5
    refine ld1_own (oG.le g2) rfl (hk _ (ldI_mk c2 (own_idx (by omega) (by omega) (stK_1 q2 (by simp; omega) rfl fun G3 b3 q3 => ?_))))
    rw [Int.toNat_natCast, show (LB (List.replicate n.toNat false)).set (ebN es i) (.bool true) = LB ((List.replicate n.toNat false).set (ebN es i) true) from List.map_set.symm] at q3
    have l3 : G.le G3 := b3.le g2 (Nat.le_refl _)
    have lG3 := AHeap.le_trans lG l3
    have oG3 := oG.le l3
    obtain ⟨bb', oo', hk', c1', c2'⟩ := (h.le lG3).idx (show (0 : Int) ≤ i by omega) (by omega)
    simp only [Int.toNat_natCast, hab] at c1' c2'
    unfold F70.B4
    refine ldI_own oG3 rfl (ld1_own oG3 rfl (ld1_own oG3 rfl (hk' _ (ldI_mk c2' (ld1_own oG3 rfl (hk' _ (ldI_mk c1' (newK_f rfl fun G4 l4 m4 q4 => ?_))))))))
    have hl4 : Ints G4 (.slice (some ⟨G3.length, 0, none⟩) 1 (1 + 1)) [(i : Int)] := own_ints (l := [(i : Int)]) q4
    have hM : (fun j => ((List.replicate n.toNat false).set (ebN es i) true).getD j false) = metB (ebN es i) := by
      rw [insB_set (by simp; omega)]
      funext j
      unfold insB metB
      have : (List.replicate n.toNat false).getD j false = false := by
        rw [List.getD_eq_getElem?_getD, List.getElem?_replicate]; split <;> rfl
      show ((List.replicate n.toNat false).getD j false || decide (ebN es i = j)) = decide (j = ebN es i)
      rw [this, Bool.false_or]
      exact decide_eq_decide.2 eq_comm
    have hw := walk_ok (e := i) (en := eaN es i) hg (f := n.toNat + 1) (by omega)
    refine hw G4 v _ [(i : Int)] (ebN es i) G.length ((List.replicate n.toNat false).set (ebN es i) true) _ (h.le (AHeap.le_trans lG3 l4)) hl4 rfl (by simp) (by simp; omega) (fun x hx => ?_) hbn (q3.le l4) (by simp) (by rw [hM]; have := unseen_le (metB (ebN es i)) n.toNat; omega) fun v13 G5 l5 R5 => ?_
    · rw [List.mem_singleton.1 hx]; omega
    rw [hM] at R5
    have hrow : ((pwL es i (eaN es i) (n.toNat + 1) (ebN es i) (metB (ebN es i))).map fun p => srtI ([(i : Int)] ++ p)) = cyE n es i := List.map_congr_left fun p hp => srt_row hE hlt hp
    rw [hrow] at R5
    have l45 := AHeap.le_trans l3 (AHeap.le_trans l4 l5)
    have hc1 := cyRows_len hg hn i hi
    have hc2 := cyE_len (e := i) hg hn
    refine ((hR.le l45).mono (B' := G4.length) (fun _ h => h) (AHeap.le_trans l3 l4).1).app R5 l5.1 (Nat.le_refl _) (fun b hb => by have := (AHeap.le_trans lG1 (AHeap.le_trans l3 l4)).1; omega) ?_ fun v' G6 ot len6 R6 => ?_
    · exact Nat.le_trans (Nat.add_le_add hc1 hc2) (by decide)
    unfold F70.B3
    rw [wrap_id (by omega) (by omega)]
    obtain ⟨vs, _, _, hob, _⟩ := hR
    refine ⟨⟨rfl, ⟨by have := lG1.1; have := l45.1; omega, fun b o ho => ot b o (fun hb' => ?_) (l45.2 _ _ (lG1.2 _ _ ho))⟩, i + 1, by omega, by omega, ?_⟩, by simp; omega⟩
    · have := (hob b hb').1; have := lt_of_get ho; omega
    · rw [List.range_succ, List.flatMap_append]
      simpa using R6
  · have hie : i = es.length := by have := of_decide_eq_false hb; omega
    subst hie
    unfold F70.B1
    exact k _ G lG (hR.mono (fun b hb => Nat.le_trans l1.1 hb) (Nat.le_refl _))
end Go.Proofs
/- Contracts: numbers of cycles by length, both sides. -/
set_option linter.unusedVariables false
set_option linter.unusedSimpArgs false
set_option maxRecDepth 100000
namespace Go.Proofs
open Go.Abs

variable {H G : AHeap} {v u f w : Value} {l m : List Int} {es fs : List (Int × Int)} {K : Value → AHeap → Prop} {n : Int} {A : Nat → Prop} {B : Nat} {ls : List (List Int)}

theorem RowsF.monoC {A' : Nat → Prop} (h : RowsF A B H v ls) (ha : ∀ b, A b → b < B → A' b) : RowsF A' B H v ls := by
  obtain ⟨vs, h1, h2, h3, h4⟩ := h
  refine ⟨vs, h1, h2, fun b hbk => ⟨ha b (h3 b hbk).1 (h3 b hbk).2, (h3 b hbk).2⟩, fun i hi => ?_⟩
  obtain ⟨w, g1, g2, g3⟩ := h4 i hi
  exact ⟨w, g1, g2, fun b hbk => ⟨ha b (g3 b hbk).1 (g3 b hbk).2.1, (g3 b hbk).2⟩⟩
/-- How many lists have each length. -/
def cblL (N : Nat) (rows : List (List Int)) : List Int := (List.range (N + 1)).map fun k => (((rows.filter fun r => decide (r.length = k)).length : Nat) : Int)
theorem cblL_length (N : Nat) (rows : List (List Int)) : (cblL N rows).length = N + 1 := by simp [cblL]
theorem cblL_get {N k : Nat} {rows : List (List Int)} (h : k ≤ N) (d : Int) : (cblL N rows).getD k d = (((rows.filter fun r => decide (r.length = k)).length : Nat) : Int) := by
  unfold cblL
  rw [getD_of (by simp; omega)]
  simp
theorem cblL_perm {N : Nat} {rows rows' : List (List Int)} (h : rows.Perm rows') : cblL N rows = cblL N rows' := by
  unfold cblL
  exact List.map_congr_left fun k _ => by rw [(h.filter _).length_eq]
theorem cblL_nil (N : Nat) : cblL N [] = List.replicate (N + 1) 0 := by
  refine List.ext_getElem (by simp [cblL]) fun i h1 h2 => ?_
  simp [cblL]
theorem cblL_step {N : Nat} {rows : List (List Int)} {r : List Int} (h : r.length ≤ N) : cblL N (rows ++ [r]) = (cblL N rows).set r.length ((cblL N rows).getD r.length 0 + 1) := by
  rw [cblL_get h]
  refine List.ext_getElem (by simp [cblL]) fun i h1 h2 => ?_
  rw [cblL_length] at h1
  rw [List.getElem_set]
  simp only [cblL, List.getElem_map, List.getElem_range, List.filter_append, List.length_append]
  by_cases e : r.length = i
  · subst e; simp
  · simp [e]
/-- A cycle has no more edges than there are vertices. -/
theorem cyc_short (hg : IsG n es) {x : List Int} (h : x ∈ cyRows n es) : x.length ≤ n.toNat := by
  obtain ⟨hs, hc⟩ := (cyRows_mem hg).1 h
  have hev : EvenS n es (bitB x) := of_decide_eq_true (Bool.and_eq_true _ _ ▸ hc : _ ∧ _).1
  have h1 := hands_all hg.endsIn (bitB x)
  have h2 : sm (fun w => degB es (bitB x) w) n.toNat ≤ sm (fun _ => 2) n.toNat := sm_le fun w hw => by
    have := degB_le_three (p := bitB x) hg (x := w) (by omega)
    have := hev w (by omega)
    omega
  have h3 : ∀ k, sm (fun _ => 2) k = 2 * k := fun k => by
    induction k with
    | zero => rfl
    | succ k ih => rw [sm, ih]; omega
  have h4 : x.length = cn (bitB x) es.length := by
    rw [← cn_filt]; exact congrArg List.length hs.filt
  rw [h3] at h2
  omega
noncomputable def cbL (n : Int) (es : List (Int × Int)) : List Int := if acCode n es = 0 then cblL n.toNat (cyRows n es) else []
theorem cbL_short : (cbL n es).length ≤ 1048576 := by
  unfold cbL
  split
  · rename_i h
    obtain ⟨hg, hn⟩ := acCode_zero h
    rw [cblL_length]; omega
  · simp
theorem l09Small_ok (h : Edges H v es) (hl : es.length ≤ 1048576) (k : ∀ G, H.le G → K (.int .i64 (acCode n es)) G) : AC Try.prog T0 69 [.agg ⟨[.int .i64 n, v]⟩] H K := by
  apply F69.ac
  unfold F69.B6
  refine newK_f (all_iv (edges_one' h)) fun H1 l1 n1' o1 => ?_
  unfold F69.B5
  refine ldI_own o1 rfl (ld1_own o1 rfl (l01Is_ok (h.le l1) hl fun H2 l2 => asB_mk ?_))
  have k := k H2 (AHeap.le_trans l1 l2)
  unfold acCode at k
  by_cases hg : IsG n es
  · rw [if_pos hg] at k
    rw [decide_eq_true hg]
    refine pif_f rfl ?_
    unfold F69.B4
    refine ldI_own (o1.le l2) rfl (pif_cases (fun hb => ?_) fun hb => ?_)
    · unfold F69.B3
      rw [if_pos (of_decide_eq_true hb)] at k; exact k
    · unfold F69.B1
      rw [if_neg (of_decide_eq_false hb)] at k; exact k
  · rw [if_neg hg] at k
    rw [decide_eq_false hg]
    refine pif_t rfl ?_
    unfold F69.B2
    exact k
theorem smallC_ok (h : Edges H v es) (hl : es.length ≤ 1048576) (k : ∀ G, H.le G → K (.int .i64 (acCode n es)) G) : AC Try.prog T0 119 [.agg ⟨[.int .i64 n, v]⟩, .bool true, .int .i64 12] H K := by
  apply F119.ac
  unfold F119.B7
  refine newK_f (all_iv (edges_one' h)) fun H1 l1 n1' o1 => ?_
  unfold F119.B6
  refine ldI_own o1 rfl (ld1_own o1 rfl (graphCode_ok (b := true) (h.le l1) hl fun H2 l2 => asI_mk ?_))
  have k := k H2 (AHeap.le_trans l1 l2)
  unfold acCode at k
  unfold F119.B5
  by_cases hg : IsG n es
  · rw [if_pos hg] at k ⊢
    rw [if_pos rfl]
    refine pif_f rfl ?_
    unfold F119.B3
    refine ldI_own (o1.le l2) rfl (pif_cases (fun hb => ?_) fun hb => ?_)
    · unfold F119.B2
      rw [if_pos (of_decide_eq_true hb)] at k
      exact k
    · unfold F119.B1
      rw [if_neg (of_decide_eq_false hb)] at k
      exact k
  · rw [if_neg hg] at k ⊢
    refine pif_t rfl ?_
    unfold F119.B4
    exact k
theorem expandedCode_ok (h : Edges H v es) (hl : es.length ≤ 1048576) (k : ∀ G, H.le G → K (.int .i64 (acCode n es)) G) : AC Try.prog T0 71 [.agg ⟨[.int .i64 n, v]⟩, .bool true] H K := by
  apply F71.ac
  unfold F71.B2
  refine newK_f (all_iv (edges_one' h)) fun H1 l1 n1' o1 => ?_
  unfold F71.B1
  exact ldI_own o1 rfl (ld1_own o1 rfl (smallC_ok (h.le l1) hl fun H2 l2 => asI_mk (k H2 (AHeap.le_trans l1 l2))))

theorem specCbl_ok (h : Edges H v es) (hl : es.length ≤ 1048576) (k : ∀ v' G, H.le G → Fresh H.length G v' 2 1 (LI (cbL n es)) → K (.tuple ⟨[v', .int .i64 (acCode n es)]⟩) G) : AC Try.prog T0 33 [.agg ⟨[.int .i64 n, v]⟩] H K := by
  apply F33.ac
  unfold F33.B11
  refine newK_f (all_iv (edges_one' h)) fun H1 l1 n1 o1 => ?_
  unfold F33.B10
  refine ldI_own o1 rfl (ld1_own o1 rfl (l09Small_ok (h.le l1) hl fun H2 l2 => asI_mk ?_))
  have l02 := AHeap.le_trans l1 l2
  have o2 := o1.le l2
  unfold F33.B9
  by_cases hc : acCode n es = 0
  rotate_left
  · refine pif_t (by simpa using hc) ?_
    unfold F33.B8
    exact k _ H2 l02 (by unfold cbL; rw [if_neg hc]; exact .inl ⟨rfl, .inl rfl⟩)
  refine pif_f (by simpa using hc) ?_
  obtain ⟨hg, hn⟩ := acCode_zero hc
  have hn0 := hg.ed.lo
  have hE := h.le l02
  have hN : (n + 1).toNat = n.toNat + 1 := by omega
  have fin : ∀ x5 bo G, H2.le G → H.length ≤ bo → RowsF (fun b => b ≠ bo) G.length G x5 (cyRows n es) → Own G bo 2 (LI (List.replicate (n.toNat + 1) 0)) → F33.B6 K x5 (.slice (some ⟨bo, 0, none⟩) (n.toNat + 1) (n.toNat + 1 + 1)) G := by
    intro x5 bo G0 lG0 hbo hR0 oo
    unfold F33.B6 F33.L2
    refine ⟨fun y5 x6 x7 G => x5 = y5 ∧ .slice (some ⟨bo, 0, none⟩) (n.toNat + 1) (n.toNat + 1 + 1) = x6 ∧ H.le G ∧ ∃ i : Nat, x7 = i ∧ i ≤ (cyRows n es).length ∧ RowsF (fun b => b ≠ bo) G0.length G x5 (cyRows n es) ∧ Own G bo 2 (LI (cblL n.toNat ((cyRows n es).take i))), fun _ _ x7 _ => (cyRows n es).length - x7.toNat,
      ⟨rfl, rfl, AHeap.le_trans l02 lG0, 0, rfl, by omega, hR0, by rw [List.take_zero, cblL_nil]; exact oo⟩, ?_⟩
    rintro y5 x6 x7 G ⟨rfl, rfl, lG, i, rfl, hi, hR, ho⟩
    have hcl := cyRows_len hg hn es.length (Nat.le_refl _)
    have hcl : (cyRows n es).length ≤ 18 * 3 ^ 13 := hcl
    have hcl : (cyRows n es).length ≤ 28697814 := Nat.le_trans hcl (by decide)
    unfold F33.B5
    refine hR.len (pif_cases (fun hb => ?_) fun hb => ?_)
    · have hlt : i < (cyRows n es).length := by have := of_decide_eq_true hb; omega
      have hsh : ((cyRows n es).getD i []).length ≤ n.toNat := by rw [getD_of hlt]; exact cyc_short hg (List.getElem_mem _)
      unfold F33.B4
      refine hR.row hlt fun w fw => fw.sl.len (by decide) (n := ((cyRows n es).getD i []).length) (by simp) ?_
      have hrd : (LI (cblL n.toNat ((cyRows n es).take i)))[(((cyRows n es).getD i []).length : Int).toNat]? = some (.int .i64 ((cblL n.toNat ((cyRows n es).take i)).getD ((cyRows n es).getD i []).length 0)) := by
        have : ((cyRows n es).getD i []).length < (cblL n.toNat ((cyRows n es).take i)).length := by rw [cblL_length]; omega
        rw [Int.toNat_natCast, List.getElem?_map, List.getElem?_eq_getElem this, getD_of this]; rfl
      have hval := cblL_get (rows := (cyRows n es).take i) hsh 0
      have hfl := List.length_filter_le (fun r : List Int => decide (r.length = ((cyRows n es).getD i []).length)) ((cyRows n es).take i)
      rw [List.length_take] at hfl
      refine own_idx (by omega) (by omega) (ldI_own ho hrd (own_idx (by omega) (by omega) (stK_1 ho (by rw [List.length_map, cblL_length]; omega) rfl fun G2 b2 o2 => ?_)))
      rw [wrap_id (by omega) (by omega), Int.toNat_natCast, LI_put, ← cblL_step hsh] at o2
      unfold F33.B3
      rw [wrap_id (by omega) (by omega)]
      refine ⟨⟨rfl, rfl, b2.le lG hbo, i + 1, by omega, by omega, hR.but b2 (fun h => h rfl), ?_⟩, by simp; omega⟩
      rw [List.take_succ_eq_append_getElem hlt, ← getD_of (d := []) hlt]
      exact o2
    · have hie : i = (cyRows n es).length := by have := of_decide_eq_false hb; omega
      subst hie
      rw [List.take_length] at ho
      unfold F33.B1
      rw [hc] at k
      refine k _ G lG (.inr ⟨bo, n.toNat + 1, hbo, rfl, ?_, ?_⟩)
      · unfold cbL; rw [if_pos hc]; exact ho
      · unfold cbL; rw [if_pos hc, List.length_map, cblL_length]; omega
  have hl2 := l02.1
  unfold F33.B7
  refine ldI_own o2 rfl (ld1_own o2 rfl (ldI_own o2 rfl ?_))
  rw [wrap_id (by omega) (by omega)]
  refine ⟨l07All_ok hE hg hn fun v4 H5 l5 R5 => ⟨ldI_own (o2.le l5) rfl ⟨rfl, rfl⟩, mkR_int (by omega) (by omega) (by decide) fun H8 l8 n8 o8 => ?_⟩, mkR_int (by omega) (by omega) (by decide) fun H10 l10 n10 o10 => l07All_ok (hE.le l10) hg hn fun v12 H13 l13 R13 => ⟨ldI_own (o2.le (AHeap.le_trans l10 l13)) rfl ⟨rfl, rfl⟩, ?_⟩⟩
  · rw [rep_one, hN] at o8
    rw [hN]
    exact fin _ _ _ (AHeap.le_trans l5 l8) (by have := l5.1; omega) (((R5.monoC (A' := fun b => b ≠ H5.length) fun b _ hb => by omega).le l8).mono (fun _ h => h) l8.1) o8
  · rw [rep_one, hN] at o10
    rw [hN]
    exact fin _ _ _ (AHeap.le_trans l10 l13) (by omega) (R13.monoC (A' := fun b => b ≠ H2.length) fun b hb _ => by have := o10.lt; omega) (o10.le l13)
theorem implCbl_ok (h : Edges H v es) (hl : es.length ≤ 1048576) (k : ∀ v' G, H.le G → Fresh H.length G v' 2 1 (LI (cbL n es)) → K (.tuple ⟨[v', .int .i64 (acCode n es)]⟩) G) : AC Try.prog T0 34 [.agg ⟨[.int .i64 n, v]⟩] H K := by
  apply F34.ac
  unfold F34.B13
  refine newK_f (all_iv (edges_one' h)) fun H1 l1 n1 o1 => ?_
  unfold F34.B12
  refine ldI_own o1 rfl (ld1_own o1 rfl (expandedCode_ok (h.le l1) hl fun H2 l2 => asI_mk ?_))
  have l02 := AHeap.le_trans l1 l2
  have o2 := o1.le l2
  unfold F34.B11
  by_cases hc : acCode n es = 0
  rotate_left
  · refine pif_t (by simpa using hc) ?_
    unfold F34.B10
    exact k _ H2 l02 (by unfold cbL; rw [if_neg hc]; exact .inl ⟨rfl, .inl rfl⟩)
  refine pif_f (by simpa using hc) ?_
  obtain ⟨hg, hn⟩ := acCode_zero hc
  have hn0 := hg.ed.lo
  have hN : (n + 1).toNat = n.toNat + 1 := by omega
  have hl2 := l02.1
  unfold F34.B9
  refine ldI_own o2 rfl (ld1_own o2 rfl (implAll_ok (h.le l02) hl fun x5 rows H5 l5 hrows _ R5 => tup2_mk (asI_mk ?_)))
  obtain ⟨hperm, _⟩ := hrows hc
  have hrl := hperm.length_eq
  have hsh : ∀ r ∈ rows, r.length ≤ n.toNat := fun r hr => cyc_short hg (hperm.mem_iff.1 hr)
  have hcl : (cyRows n es).length ≤ 28697814 := Nat.le_trans (cyRows_len hg hn es.length (Nat.le_refl _)) (by decide)
  unfold F34.B8
  refine ldI_own (o2.le l5) rfl ?_
  rw [wrap_id (by omega) (by omega)]
  refine mkR_int (by omega) (by omega) (by decide) fun H8 l8 n8 o8 => ?_
  rw [rep_one, hN] at o8
  rw [hN]
  have hbo : H.length ≤ H5.length := by have := l5.1; omega
  have R8 : RowsF (fun b => b ≠ H5.length) H5.length H8 x5 rows := (R5.monoC (A' := fun b => b ≠ H5.length) fun b _ hb => by omega).le l8
  unfold F34.B7
  refine R8.len ?_
  unfold F34.L2
  refine ⟨fun x6 y5 x25 x7 G => x5 = y5 ∧ .slice (some ⟨H5.length, 0, none⟩) (n.toNat + 1) (n.toNat + 1 + 1) = x6 ∧ (rows.length : Int) = x25 ∧ H.le G ∧ ∃ i : Nat, x7 = i ∧ i ≤ rows.length ∧ RowsF (fun b => b ≠ H5.length) H5.length G x5 rows ∧ Own G H5.length 2 (LI (cblL n.toNat (rows.take i))), fun _ _ _ x7 _ => rows.length - x7.toNat,
    ⟨rfl, rfl, rfl, AHeap.le_trans l02 (AHeap.le_trans l5 l8), 0, rfl, by omega, R8, by rw [List.take_zero, cblL_nil]; exact o8⟩, ?_⟩
  rintro x6 y5 x25 x7 G ⟨rfl, rfl, rfl, lG, i, rfl, hi, hR, ho⟩
  unfold F34.B6
  refine pif_cases (fun hb => ?_) fun hb => ?_
  · have hlt : i < rows.length := by have := of_decide_eq_true hb; omega
    have hsh1 : (rows.getD i []).length ≤ n.toNat := by rw [getD_of hlt]; exact hsh _ (List.getElem_mem _)
    unfold F34.B5
    refine hR.row hlt fun w fw => ?_
    unfold F34.B4
    refine fw.sl.len (by decide) (n := (rows.getD i []).length) (by simp) ?_
    have hrd : (LI (cblL n.toNat (rows.take i)))[((rows.getD i []).length : Int).toNat]? = some (.int .i64 ((cblL n.toNat (rows.take i)).getD (rows.getD i []).length 0)) := by
      have : (rows.getD i []).length < (cblL n.toNat (rows.take i)).length := by rw [cblL_length]; omega
      rw [Int.toNat_natCast, List.getElem?_map, List.getElem?_eq_getElem this, getD_of this]; rfl
    have hval := cblL_get (rows := rows.take i) hsh1 0
    have hfl := List.length_filter_le (fun r : List Int => decide (r.length = (rows.getD i []).length)) (rows.take i)
    rw [List.length_take] at hfl
    refine own_idx (by omega) (by omega) (ldI_own ho hrd (own_idx (by omega) (by omega) (stK_1 ho (by rw [List.length_map, cblL_length]; omega) rfl fun G2 b2 o2 => ?_)))
    rw [wrap_id (by omega) (by omega), Int.toNat_natCast, LI_put, ← cblL_step hsh1] at o2
    unfold F34.B3
    rw [wrap_id (by omega) (by omega)]
    refine ⟨⟨rfl, rfl, rfl, b2.le lG hbo, i + 1, by omega, by omega, hR.but b2 (fun h => h rfl), ?_⟩, by simp; omega⟩
    rw [List.take_succ_eq_append_getElem hlt, ← getD_of (d := []) hlt]
    exact o2
  · have hie : i = rows.length := by have := of_decide_eq_false hb; omega
    subst hie
    rw [List.take_length, cblL_perm hperm] at ho
    unfold F34.B1
    rw [hc] at k
    refine k _ G lG (.inr ⟨H5.length, n.toNat + 1, hbo, rfl, ?_, ?_⟩)
    · unfold cbL; rw [if_pos hc]; exact ho
    · unfold cbL; rw [if_pos hc, List.length_map, cblL_length]; omega
end Go.Proofs
/- The law of CyclesByLength. -/
set_option linter.unusedVariables false
set_option linter.unusedSimpArgs false
set_option maxRecDepth 100000
namespace Go.Proofs
open Go.Abs

theorem cyclesByLength_law (H : AHeap) (vs : List Value) (hv : AVs T0 H [24] vs) : AC Try.prog T0 8 vs H (fun v _ => v = .bool true) := by
  obtain ⟨v0, vs, rfl, a0, rfl⟩ := hv
  obtain ⟨n0, ve0, es0, rfl, he0, hel0⟩ := av_graph a0
  apply F8.ac
  unfold F8.B34
  refine newK_f (all_iv (edges_one' he0)) fun H1 l1 n1 o1 => ?_
  have he0 := he0.le l1
  unfold F8.B33 F8.B32
  refine ldI_own o1 rfl (ld1_own o1 rfl (szGraph_ok he0 hel0 (by decide) (by decide) (edges_one' he0) fun H2 l2 => asI_mk ?_))
  have he0 := he0.le l2; have o1 := o1.le l2
  unfold F8.B31
  refine pif_cases (fun _ => by unfold F8.B30; rfl) fun hs => ?_
  have s0 : es0.length ≤ 1048576 := by
    have := of_decide_eq_false hs
    split at this <;> omega
  -- the reference
  unfold F8.B29
  refine ldI_own o1 rfl (ld1_own o1 rfl (toGraph_ok he0 (by omega) fun p0 H3 l3 fp0 => agg2_mk (asI_mk ?_)))
  have he0 := he0.le l3; have o1 := o1.le l3
  refine specCbl_ok fp0.edges s0 fun w H4 l4 fw => tup2_mk (asI_mk ?_)
  have he0 := he0.le l4; have o1 := o1.le l4; have fp0 := fp0.le l4
  have he0_ := he0
  have o1_ := o1
  have hw := fw.ints
  have hw_ := hw
  have hwl : (cbL n0 es0).length ≤ 1048576 := by exact cbL_short
  have cw := AHeap.le_refl H4
  -- the program
  unfold F8.B28
  refine ldI_own o1 rfl (ld1_own o1 rfl (toGraph_ok he0 (by omega) fun x0 H5 l5 f0 => agg2_mk (asI_mk ?_)))
  have e7 : x0.oneCell' = true := edges_one' f0.edges
  refine newK_f rfl fun H6 l6 n6 o0 => stK_f o0 (by simp) (mem_iv e7) rfl fun H7 b0 o9 => ?_
  have l7 : H4.le H7 := b0.le (AHeap.le_trans l5 l6) l5.1
  have fx0 : Fresh H4.length H7 x0 67 2 (LE es0) := by
    rcases f0 with f0 | ⟨c, k, q1, q2, q3, q4⟩
    · exact .inl f0
    · exact .inr ⟨c, k, q1, q2, b0.own (l6.2 _ _ q3) (by have := lt_of_get q3; omega), q4⟩
  have g0 : ∀ c k, x0 = .slice (some ⟨c, 0, none⟩) k (k + 1) → c < H7.length := fun c k e => (fx0.lt e).2
  have d0 := l7.1
  have he0 := he0.le l7; have o1 := o1.le l7; have hw := hw.le l7
  have cw := AHeap.le_trans cw l7
  unfold F8.B27
  refine ldI_own o9 rfl (ld1_own o9 rfl (implCbl_ok fx0.edges s0 fun g H8 l8 fg => tup2_mk (asI_mk ?_)))
  have dg := l8.1
  have he0 := he0.le l8; have o1 := o1.le l8; have hw := hw.le l8; have o9 := o9.le l8; have fx0 := fx0.le l8
  have cw := AHeap.le_trans cw l8
  -- the same answer
  unfold F8.B26
  refine eqInt64S_ok fg.ints hw (by omega) (asB_mk (pif_f (by simp) (pif_f (by simp) ?_)))
  unfold F8.B24
  refine ldI_own o9 rfl (ld1_own o9 rfl (ldI_own o1 rfl (ld1_own o1 rfl (toGraph_ok he0 (by omega) fun y0 H9 l9 fy => agg2_mk (asI_mk ⟨l9, eqGraph_ok (fx0.edges.le l9) fy.edges (by omega) fun H10 l10 => asB_mk (pif_f (by simp) ?_)⟩)))))
  have l10 := AHeap.le_trans l9 l10
  have he0 := he0.le l10; have o1 := o1.le l10; have hw := hw.le l10; have o9 := o9.le l10; have fx0 := fx0.le l10; have fg := fg.le l10
  have cw := AHeap.le_trans cw l10
  -- the marks
  unfold F8.B22 F8.B21
  refine ldI_own o9 rfl (ld1_own o9 rfl (markGraph_ok (by decide) (by omega) fx0 fun M0 m0 => asI_mk ?_))
  have lm0 := m0.le fx0 (by omega) cw
  have fg := m0.keep (m := H7.length) (fun c k e => by have := g0 c k e; omega) fg
  unfold F8.B20
  refine pif_f (decide_eq_false (by omega)) (eqInt64S_ok fg.ints (hw_.le lm0) (by omega) (asB_mk (pif_f (by simp) (pif_f (by simp) ?_))))
  -- the second answer
  unfold F8.B18 F8.B17
  refine markInt64S_ok (by decide) (by omega) fg fun M m fg' => asI_mk ?_
  have lm := m.le fg (by omega) lm0
  have fg := fg'
  have hm := marks_length 1 (cbL n0 es0).length
  unfold F8.B16 F8.B15
  refine heldInt64S_ok (by decide) (by omega) fg.ints (by rw [hm]) (asI_mk ?_)
  unfold F8.B14
  refine pif_f (decide_eq_false (by omega)) ?_
  unfold F8.B12
  refine pif_f (by rw [hm]; simp) ?_
  unfold F8.B10
  have he0 := he0_.le lm
  have o1 := o1_.le lm
  have hw := hw_.le lm
  refine ldI_own o1 rfl (ld1_own o1 rfl (toGraph_ok he0 (by omega) fun z0 H11 l11 fz0 => agg2_mk (asI_mk ?_)))
  have he0 := he0.le l11; have o1 := o1.le l11; have fg := fg.le l11; have hw := hw.le l11
  refine implCbl_ok fz0.edges s0 fun h H12 l12 fh => tup2_mk (asI_mk ?_)
  have fg := fg.le l12; have hw := hw.le l12
  unfold F8.B9
  refine eqInt64S_ok fh.ints hw (by omega) (asB_mk (pif_f (by simp) (pif_f (by simp) ?_)))
  unfold F8.B7 F8.B6
  refine heldInt64S_ok (by decide) (by omega) fg.ints (by rw [hm]) (asI_mk ?_)
  unfold F8.B5
  refine pif_f (decide_eq_false (by omega)) ?_
  unfold F8.B3
  refine pif_f (by rw [hm]; simp) ?_
  unfold F8.B1
  rfl
end Go.Proofs
