/- Contracts: going round a cycle, the program's way. -/
import Derived.Test.YtfcflpcmjlbedabU6
import Derived.Test.YtfcflpcmjlbedabU12b
import Derived.Test.YtfcflpcmjlbedabK3
import Derived.Test.YtfcflpcmjlbedabU5
import Derived.Test.YtfcflpcmjlbedabM13
set_option linter.unusedVariables false
set_option linter.unusedSimpArgs false
set_option maxRecDepth 100000
namespace Go.Proofs
open Go.Abs

variable {H G : AHeap} {v u f : Value} {l m c D : List Int} {es fs : List (Int × Int)} {K : Value → AHeap → Prop} {p : Nat → Bool} {e : Nat}

noncomputable def tiDir : TI := (T0 95).getD ⟨.bool, 0, 0, undef⟩
theorem E_dir : Elem T0 95 2 := ⟨tiDir, by kernel_rfl, by kernel_rfl, of_decide_eq_true (by kernel_rfl), by kernel_rfl⟩
def LD (ds : List (Nat × Bool)) : List Value := ds.flatMap fun d => [.int .i64 (d.1 : Nat), .bool d.2]
theorem LD_snoc (ds : List (Nat × Bool)) (d : Nat × Bool) : LD (ds ++ [d]) = LD ds ++ [.int .i64 (d.1 : Nat), .bool d.2] := by simp [LD]
theorem LD_length : ∀ (ds : List (Nat × Bool)), (LD ds).length = ds.length * 2
  | [] => rfl
  | d :: ds => by have := LD_length ds; simp [LD] at this ⊢; omega
noncomputable def dirT (es : List (Int × Int)) (p : Nat → Bool) (e : Nat) : Nat → Nat × Bool
  | 0 => ((wk es p e 0).1, false)
  | t + 1 => ((wk es p e (t + 1)).1, (es.getD (wk es p e (t + 1)).1 (0, 0)).2 == ((wk es p e t).2 : Int))
theorem dirT_fst (es : List (Int × Int)) (p : Nat → Bool) (e t : Nat) : (dirT es p e t).1 = (wk es p e t).1 := by cases t <;> rfl
noncomputable def dirL (es : List (Int × Int)) (p : Nat → Bool) (e T : Nat) : List (Nat × Bool) := (List.range T).map (dirT es p e)
theorem dirL_succ (es : List (Int × Int)) (p : Nat → Bool) (e T : Nat) : dirL es p e (T + 1) = dirL es p e T ++ [dirT es p e T] := by
  unfold dirL; rw [List.range_succ, List.map_append]; rfl
theorem dirL_length (es : List (Int × Int)) (p : Nat → Bool) (e T : Nat) : (dirL es p e T).length = T := by simp [dirL]
theorem end_ok {n : Int} {i : Nat} {b : Bool} (h : Edges H v es) (hi : i < es.length) (k : ∀ G, H.le G → K (.int .i64 (if b then (es.getD i (0, 0)).1 else (es.getD i (0, 0)).2)) G) : AC Try.prog T0 124 [.agg ⟨[.int .i64 n, v]⟩, .agg ⟨[.int .i64 (i : Nat), .bool b]⟩] H K := by
  apply F124.ac
  unfold F124.B4
  refine newK_f (all_iv (edges_one' h)) fun H1 l1 _ o1 => newK_f rfl fun H2 l2 _ o2 => ?_
  have l12 := AHeap.le_trans l1 l2
  have o12 := o1.le l2
  have k := k _ l12
  obtain ⟨bb, oo, hk, c1, c2⟩ := (h.le l12).idx (show (0 : Int) ≤ i by omega) (by omega)
  simp only [Int.toNat_natCast] at c1 c2
  unfold F124.B3
  refine ld1_own o2 rfl (asB_mk ?_)
  cases b with
  | true =>
    refine pif_t rfl ?_
    unfold F124.B2
    exact ld1_own o12 rfl (ldI_own o2 rfl (hk _ (ldI_mk c1 k)))
  | false =>
    refine pif_f rfl ?_
    unfold F124.B1
    exact ld1_own o12 rfl (ldI_own o2 rfl (hk _ (ldI_mk c2 k)))
theorem fresh_lenV {m : Nat} {t : TypeId} {ds : List (Nat × Bool)} (h : Fresh m H v t 2 (LD ds)) : lenV v = ds.length := by
  have hl := LD_length ds
  rcases h with ⟨h0, rfl | ⟨a, rfl⟩⟩ | ⟨b, n, _, rfl, _, h4⟩
  · rw [h0] at hl; simp [lenV] at hl ⊢; omega
  · rw [h0] at hl; simp [lenV] at hl ⊢; omega
  · simp only [lenV]; omega
/-- Where one goes. -/
theorem dir_end {n : Int} (hg : IsG n es) (h2 : ∀ x : Nat, (x : Int) < n → degB es p x = 2) (he : e < es.length) (hpe : p e = true) {t : Nat} (ht : t < (compL es p e).length) :
    (if (dirT es p e t).2 then (es.getD (wk es p e t).1 (0, 0)).1 else (es.getD (wk es p e t).1 (0, 0)).2) = ((wk es p e t).2 : Int) := by
  cases t with
  | zero =>
    obtain ⟨d1, d2, d3, d4, d5⟩ := hg.ed.ends es[e] (List.getElem_mem he)
    rw [← getD_of (d := (0, 0)) he] at d1 d2 d3 d4 d5
    show (es.getD e (0, 0)).2 = (((es.getD e (0, 0)).2.toNat : Nat) : Int)
    omega
  | succ t =>
    obtain ⟨a0, w, hW⟩ := wk_walk hg h2 he hpe (t + 1) (by omega)
    obtain ⟨a1, w1, hW1⟩ := wk_walk hg h2 he hpe t (by omega)
    have hwl := hW.lt
    obtain ⟨d1, d2, d3, d4, d5⟩ := hg.ed.ends es[(wk es p e (t + 1)).1] (List.getElem_mem hwl)
    rw [← getD_of (d := (0, 0)) hwl] at d1 d2 d3 d4 d5
    have hvn := hW1.vn
    obtain ⟨q, q1, q2, q3, q4⟩ := other_left (now := (wk es p e t).1) (h2 (wk es p e t).2 hvn) hW1.lt
    have hnx := nx_eq (h2 _ hvn) hW1.lt hW1.pn hW1.onv q1 q2 q3 q4
    have e1 : (wk es p e (t + 1)).1 = q := by rw [wk, hnx]
    have e2 : (wk es p e (t + 1)).2 = othN es (q : Int) (wk es p e t).2 := by rw [wk, hnx]
    have hb : (dirT es p e (t + 1)).2 = ((es.getD (wk es p e (t + 1)).1 (0, 0)).2 == ((wk es p e t).2 : Int)) := rfl
    rw [hb, e2]
    rw [e1] at d1 d2 d3 d4 d5 ⊢
    unfold on at q4
    simp only [Bool.or_eq_true, beq_iff_eq] at q4
    unfold othN
    rw [Int.toNat_natCast]
    by_cases hx : (es.getD q (0, 0)).2 = ((wk es p e t).2 : Int)
    · rw [if_pos (by rw [hx]; simp)]; omega
    · rw [if_neg (by simpa using hx)]; omega

theorem around_ok {n : Int} {s : Nat} (h : Edges H v es) (hg : IsG n es) (h2 : ∀ x : Nat, (x : Int) < n → degB es p x = 2) (he : e < es.length) (hpe : p e = true) (hs : ∀ j, s.testBit j = true ↔ j < es.length ∧ Rch (eAdj es p) e j) (hlow : ∀ j, j < e → ¬ Rch (eAdj es p) e j)
    (k : ∀ w G, H.le G → Fresh H.length G w 95 2 (LD (dirL es p e (compL es p e).length)) → K w G) : AC Try.prog T0 80 [.agg ⟨[.int .i64 n, v]⟩, .int .u64 (s : Nat)] H K := by
  have n0 := hg.ed.lo; have n1 := hg.ed.hi
  have h30 : es.length ≤ 30 := by have := hg.ed.len; omega
  have hsl : s < 2 ^ 64 := Nat.lt_of_lt_of_le (bits_lt fun j hj => ((hs j).1 hj).1) (Nat.pow_le_pow_right (by decide) (by omega))
  obtain ⟨T, hT⟩ : ∃ T, T = (compL es p e).length := ⟨_, rfl⟩
  have hTl : T ≤ es.length := by rw [hT]; exact filtB_length _ _
  have hTp : 0 < T := by rw [hT]; exact List.length_pos_of_mem (mem_compL.2 ⟨e, rfl, he, .refl⟩)
  rw [← hT] at k
  apply F80.ac
  unfold F80.B12
  refine newK_f (all_iv (edges_one' h)) fun H1 l1 _ o1 => ?_
  unfold F80.B11
  refine list_ok hsl fun w0 H2 l2 f2 => ?_
  have hbl : bitsL s = filtB (fun j => s.testBit j) es.length := bitsL_filt (by omega) fun j hj => ((hs j).1 hj).1
  have hfirst : (bitsL s).getD 0 0 = (e : Int) ∧ 0 < (bitsL s).length := by
    have hm : (e : Int) ∈ bitsL s := by rw [hbl]; exact mem_filtB.2 ⟨e, rfl, he, (hs e).2 ⟨he, .refl⟩⟩
    have ha : Asc (bitsL s) := by rw [hbl]; exact filtB_asc _ _
    cases hl : bitsL s with
    | nil => rw [hl] at hm; cases hm
    | cons a r =>
      refine ⟨?_, by simp⟩
      rw [hl] at hm ha
      have hma : a ∈ filtB (fun j => s.testBit j) es.length := by rw [← hbl, hl]; simp
      obtain ⟨j, rfl, _, hj⟩ := mem_filtB.1 hma
      show ((j : Nat) : Int) = e
      rcases List.mem_cons.1 hm with h | h
      · omega
      · unfold Asc at ha
        have := (List.pairwise_cons.1 ha).1 _ h
        exact absurd ((hs j).1 hj).2 (hlow j (by omega))
  refine f2.ints.rd (by decide) (by omega) ?_
  rw [show (0 : Int).toNat = 0 from rfl, hfirst.1]
  have l12 := AHeap.le_trans l1 l2
  have o2 := o1.le l2
  refine newK_f rfl fun H3 l3 n3 o3 => stK_f o3 (by simp) (by simp [Value.oneCell']) rfl fun H4 b4 o4 => ?_
  obtain ⟨x5, hx5⟩ : ∃ x5, x5 = H2.length := ⟨_, rfl⟩
  rw [← hx5] at o4 ⊢
  have o4 : Own H4 x5 95 [.int .i64 (e : Nat), .bool false] := by simpa using o4
  have l24 : H2.le H4 := b4.le l3 (Nat.le_refl _)
  have hl4 : H4.length = H2.length + 1 := by rw [b4.len]; omega
  unfold F80.B10 F80.L1
  refine ⟨fun x1 x2 x5' x6 G => H.length = x2 ∧ x5 = x5' ∧ H2.le G ∧ x5 + 1 ≤ G.length ∧ ∃ t : Nat, t < T ∧ ∃ st : Nat, x1 = ((st : Nat) : Int) ∧ (∀ j, st.testBit j = true ↔ s.testBit j = true ∧ (j : Int) ∉ wkL es p e t) ∧ Own G x5 95 [.int .i64 ((wk es p e t).1 : Nat), .bool (dirT es p e t).2] ∧ Fresh (x5 + 1) G x6 95 2 (LD (dirL es p e t)),
    fun _ _ _ x6 _ => 31 - lenV x6, ⟨rfl, rfl, l24, by omega, 0, hTp, s, rfl, fun j => by simp [wkL], o4, .inl ⟨rfl, .inl rfl⟩⟩, ?_⟩
  clear o4 o3 b4 l24 l3 f2
  rintro x1 x2 x5' x6 G ⟨rfl, rfl, hG, hGl, t, ht, st, rfl, hst, oD, hF⟩
  have lG := AHeap.le_trans l12 hG
  have oG := o2.le hG
  obtain ⟨a0, w, hW⟩ := wk_walk hg h2 he hpe t (by omega)
  have hwl := hW.lt
  have hstl : st < 2 ^ 64 := Nat.lt_of_lt_of_le (bits_lt fun j hj => ((hs j).1 ((hst j).1 hj).1).1) (Nat.pow_le_pow_right (by decide) (by omega))
  unfold F80.B9
  refine ldI_own oD rfl (ld1_own oD rfl (asB_mk ?_))
  refine hF.sl.pushN E_dir (by decide) hGl (n := 1) (ys := [.int .i64 ((wk es p e t).1 : Nat), .bool (dirT es p e t).2]) rfl rfl (by rw [LD_length, dirL_length]; simp; omega) (by simp) fun x6' G2 k2 ot2 nb2 f2 => ?_
  have f2 : Fresh (x5 + 1) G2 x6' 95 2 (LD (dirL es p e (t + 1))) := by
    rw [dirL_succ, LD_snoc, dirT_fst]; exact f2
  have hk2 := k2.len
  have oD2 := k2.own oD (by omega)
  have hG2 : H2.le G2 := k2.le hG (by omega)
  have lG2 := AHeap.le_trans l12 hG2
  have oG2 := o2.le hG2
  unfold F80.B8
  refine ldI_own oD2 rfl ⟨by omega, ?_⟩
  have pw : 2 ^ (wk es p e t).1 < 2 ^ 64 := Nat.pow_lt_pow_right (by decide) (by omega)
  rw [one_shl (by omega) (by omega), Int.toNat_natCast]
  have band : IntKind.u64.wrap ((BitVec.ofInt 64 ((st : Nat) : Int) &&& ~~~(BitVec.ofInt 64 ((2 ^ (wk es p e t).1 : Nat) : Int))).toNat : Int) = ((st &&& (2 ^ 64 - (2 ^ (wk es p e t).1 + 1)) : Nat) : Int) := by
    have hs' : st &&& (2 ^ 64 - (2 ^ (wk es p e t).1 + 1)) < 2 ^ 64 := Nat.lt_of_le_of_lt Nat.and_le_left hstl
    rw [bv_nat, bv_nat, BitVec.toNat_and, BitVec.toNat_not, BitVec.toNat_ofNat, BitVec.toNat_ofNat, Nat.mod_eq_of_lt hstl, Nat.mod_eq_of_lt pw, show 2 ^ 64 - 1 - 2 ^ (wk es p e t).1 = 2 ^ 64 - (2 ^ (wk es p e t).1 + 1) by omega, u64_nat hs']
  rw [band]
  obtain ⟨s2, hs2⟩ : ∃ s2, s2 = st &&& (2 ^ 64 - (2 ^ (wk es p e t).1 + 1)) := ⟨_, rfl⟩
  rw [← hs2]
  have hs2l : s2 < 2 ^ 64 := by rw [hs2]; exact Nat.lt_of_le_of_lt Nat.and_le_left hstl
  have hs2b : ∀ j, s2.testBit j = true ↔ s.testBit j = true ∧ (j : Int) ∉ wkL es p e (t + 1) := by
    intro j
    rw [hs2, Nat.testBit_and, Nat.testBit_two_pow_sub_succ pw, Nat.testBit_two_pow, wkL_succ, List.mem_append, List.mem_singleton]
    simp only [Bool.and_eq_true, decide_eq_true_eq, Bool.not_eq_true', decide_eq_false_iff_not, hst j]
    constructor
    · rintro ⟨⟨a1, a2⟩, a3, a4⟩
      exact ⟨a1, fun h => h.elim a2 fun h => a4 (by omega)⟩
    · rintro ⟨a1, a2⟩
      refine ⟨⟨a1, fun h => a2 (.inl h)⟩, ?_, fun h => a2 (.inr (by omega))⟩
      have := ((hs j).1 a1).1; omega
  unfold F80.B7
  refine ldI_own oG2 rfl (ld1_own oG2 rfl (ldI_own oD2 rfl (ld1_own oD2 rfl (asB_mk (end_ok (h.le lG2) hwl fun G3 l3 => asI_mk ?_)))))
  rw [dir_end hg h2 he hpe (by omega)]
  have hvn := hW.vn
  unfold F80.B6
  have lG3 := AHeap.le_trans lG2 l3
  refine ldI_own (oG2.le l3) rfl (ld1_own (oG2.le l3) rfl (at_ok (h.le lG3) (by omega) fun q G4 l4 f4 => ?_))
  have har : ∀ x ∈ atL es ((wk es p e t).2 : Int), 0 ≤ x ∧ x < 64 := fun x hx => by
    obtain ⟨i, rfl, hi, _⟩ := mem_atL.1 hx
    omega
  refine setOf_ok f4.ints (by have := atTo_length es ((wk es p e t).2 : Int) es.length; unfold atL; omega) har (asI_mk ?_)
  rw [bits_and (setN_lt fun x hx => (har x hx).2) hs2l]
  obtain ⟨X, hX⟩ : ∃ X, X = setN (atL es ((wk es p e t).2 : Int)) &&& s2 := ⟨_, rfl⟩
  rw [← hX]
  have hXl : X < 2 ^ 64 := by rw [hX]; exact Nat.lt_of_le_of_lt Nat.and_le_right hs2l
  have hXb : ∀ j, X.testBit j = true ↔ (j : Int) ∈ atL es ((wk es p e t).2 : Int) ∧ s.testBit j = true ∧ (j : Int) ∉ wkL es p e (t + 1) := fun j => by
    rw [hX, Nat.testBit_and, Bool.and_eq_true, hs2b j, setN_bit fun x hx => (har x hx).1]
    simp
  have lG4 := AHeap.le_trans l3 l4
  have hG4 := AHeap.le_trans hG2 lG4
  have lH4 := AHeap.le_trans l12 hG4
  have nextq : t + 1 < T → X.testBit (wk es p e (t + 1)).1 = true := by
    intro h1
    obtain ⟨a1, w1, hW1⟩ := wk_walk hg h2 he hpe (t + 1) (by omega)
    rw [hXb]
    refine ⟨mem_atL.2 ⟨_, rfl, hW1.lt, ?_⟩, (hs _).2 ⟨hW1.lt, hW1.rch⟩, wk_not hg h2 he hpe (by omega)⟩
    obtain ⟨q, q1, q2, q3, q4⟩ := other_left (now := (wk es p e t).1) (h2 (wk es p e t).2 hvn) hW.lt
    have hnx := nx_eq (h2 _ hvn) hW.lt hW.pn hW.onv q1 q2 q3 q4
    have e1 : (wk es p e (t + 1)).1 = q := by rw [wk, hnx]
    rw [e1]; exact q4
  unfold F80.B5
  refine pif_cases (fun hb => ?_) fun hb => ?_
  · have hX0 : X = 0 := by have := beq_iff_eq.1 hb; omega
    have hT1 : T = t + 1 := by
      rcases Nat.lt_or_ge (t + 1) T with h1 | h1
      · have := nextq h1
        rw [hX0] at this; simp at this
      · omega
    unfold F80.B4
    rw [hT1] at k
    have := l12.1
    exact k _ _ lH4 ((f2.le lG4).less (by omega))
  · have hX0 : X ≠ 0 := fun h => by rw [h] at hb; simp at hb
    have hT1 : t + 1 < T := by
      rcases Nat.lt_or_ge (t + 1) T with h1 | h1
      · exact h1
      · exfalso
        apply hX0
        apply Nat.eq_of_testBit_eq
        intro j
        rw [Nat.zero_testBit]
        cases hx : X.testBit j with
        | false => rfl
        | true =>
          obtain ⟨_, a2, a3⟩ := (hXb j).1 hx
          have hT1 : t + 1 = (compL es p e).length := by omega
          rw [hT1, wkL_all hg h2 he hpe] at a3
          exact absurd ((hs j).1 a2).2 a3
    obtain ⟨a1, w1, hW1⟩ := wk_walk hg h2 he hpe (t + 1) (by omega)
    have huniq : ∀ j, X.testBit j = true → j = (wk es p e (t + 1)).1 := by
      intro j hj
      obtain ⟨a1, a2, a3⟩ := (hXb j).1 hj
      obtain ⟨j', e1, j1, j2⟩ := mem_atL.1 a1
      obtain rfl : j = j' := by omega
      have hpj := (eRch_in ((hs j).1 a2).2 ⟨he, hpe⟩).2
      have hne : j ≠ (wk es p e t).1 := fun e => a3 (by rw [e, wkL_succ]; simp)
      rw [wk, nx_eq (h2 _ hvn) hW.lt hW.pn hW.onv j1 hpj hne j2]
    unfold F80.B3
    refine list_ok hXl fun q2 G5 l5 f5 => ?_
    have hXbl : bitsL X = filtB (fun j => X.testBit j) es.length := bitsL_filt (by omega) fun j hj => ((hs j).1 ((hXb j).1 hj).2.1).1
    have hm : (((wk es p e (t + 1)).1 : Nat) : Int) ∈ bitsL X := by rw [hXbl]; exact mem_filtB.2 ⟨_, rfl, hW1.lt, nextq hT1⟩
    have hpos := List.length_pos_of_mem hm
    have hget : (bitsL X).getD 0 0 = ((wk es p e (t + 1)).1 : Int) := by
      rw [getD_of hpos]
      have hmem : (bitsL X)[0] ∈ filtB (fun j => X.testBit j) es.length := by rw [← hXbl]; exact List.getElem_mem hpos
      obtain ⟨j, e1, _, hj⟩ := mem_filtB.1 hmem
      rw [e1, huniq j hj]
    refine f5.ints.rd (by decide) (by omega) ?_
    rw [show (0 : Int).toNat = 0 from rfl, hget]
    have hG5 := AHeap.le_trans hG4 l5
    have lH5 := AHeap.le_trans l12 hG5
    have lG5 := AHeap.le_trans lG4 l5
    have oD5 := oD2.le lG5
    have hl5 := lG5.1
    unfold F80.B2
    have hwl1 := hW1.lt
    obtain ⟨bb, oo, hk, c1, c2⟩ := (h.le lH5).idx (show (0 : Int) ≤ ((wk es p e (t + 1)).1 : Nat) by omega) (by omega)
    simp only [Int.toNat_natCast] at c1 c2
    refine ld1_own (o2.le hG5) rfl (hk _ (ldI_mk c2 (stK_f oD5 (by simp) (by simp [Value.oneCell']) rfl fun G6 b6 o6 => ?_)))
    have o6 : Own G6 x5 95 [.int .i64 ((wk es p e (t + 1)).1 : Nat), .bool (dirT es p e (t + 1)).2] := by
      rw [show (dirT es p e (t + 1)).2 = ((es.getD (wk es p e (t + 1)).1 (0, 0)).2 == ((wk es p e t).2 : Int)) from rfl]
      simpa using o6
    have f6 := (f2.le lG5).but b6 (by omega)
    refine ⟨⟨rfl, rfl, b6.le hG5 (by omega), by rw [b6.len]; omega, t + 1, hT1, s2, rfl, hs2b, o6, f6⟩, ?_⟩
    show 31 - lenV x6' < 31 - lenV x6
    rw [fresh_lenV f2, fresh_lenV hF, dirL_length, dirL_length]
    omega
end Go.Proofs
