/- Contracts and plain mathematics for a law, merged. -/
import Derived.Test.YtkmjiikgkhhciaaX24Q1
/- Plain mathematics: the way round a cycle, as a list. -/
set_option linter.unusedVariables false
set_option linter.unusedSimpArgs false
namespace Go.Proofs
open Go.Abs

/-- The other edge left at a vertex. -/
noncomputable def nxE (es : List (Int × Int)) (p : Nat → Bool) (now v : Nat) : Nat := @dite Nat (∃ q, q < es.length ∧ p q = true ∧ q ≠ now ∧ on (es.getD q (0, 0)) v = true) (Classical.propDecidable _) (fun h => Classical.choose h) fun _ => 0
/-- The edge that one is at behind so many steps, and the vertex that one goes to. -/
noncomputable def wk (es : List (Int × Int)) (p : Nat → Bool) (e : Nat) : Nat → Nat × Nat
  | 0 => (e, (es.getD e (0, 0)).2.toNat)
  | t + 1 => (nxE es p (wk es p e t).1 (wk es p e t).2, othN es (nxE es p (wk es p e t).1 (wk es p e t).2 : Nat) (wk es p e t).2)
noncomputable def wkL (es : List (Int × Int)) (p : Nat → Bool) (e T : Nat) : List Int := (List.range T).map fun t => ((wk es p e t).1 : Int)
theorem wkL_succ (es : List (Int × Int)) (p : Nat → Bool) (e T : Nat) : wkL es p e (T + 1) = wkL es p e T ++ [((wk es p e T).1 : Int)] := by
  unfold wkL; rw [List.range_succ, List.map_append]; rfl
theorem wkL_length (es : List (Int × Int)) (p : Nat → Bool) (e T : Nat) : (wkL es p e T).length = T := by simp [wkL]
section
variable {es : List (Int × Int)} {p : Nat → Bool} {n : Int} {e now v q : Nat}
theorem nx_eq (h2 : degB es p v = 2) (hn1 : now < es.length) (hn2 : p now = true) (hn3 : on (es.getD now (0, 0)) v = true) (h1 : q < es.length) (h3 : p q = true) (h4 : q ≠ now) (h5 : on (es.getD q (0, 0)) v = true) : nxE es p now v = q := by
  have hex : ∃ q, q < es.length ∧ p q = true ∧ q ≠ now ∧ on (es.getD q (0, 0)) v = true := ⟨q, h1, h3, h4, h5⟩
  have e : nxE es p now v = Classical.choose hex := by unfold nxE; rw [dif_pos hex]
  obtain ⟨g1, g2, g3, g4⟩ := Classical.choose_spec hex
  rw [e]
  generalize Classical.choose hex = r at g1 g2 g3 g4
  apply Classical.byContradiction
  intro hne
  have := nodup_sub (l := [((now : Nat) : Int), ((q : Nat) : Int), ((r : Nat) : Int)]) (m := filtB (fun j => on (es.getD j (0, 0)) v && p j) es.length) (by
    simp only [List.nodup_cons, List.mem_cons, List.not_mem_nil, or_false, not_or, List.nodup_nil, not_false_eq_true, and_true]
    omega) fun x hx => by
      simp only [List.mem_cons, List.not_mem_nil, or_false] at hx
      rcases hx with rfl | rfl | rfl
      · exact mem_filtB.2 ⟨_, rfl, hn1, by rw [hn3, hn2]; rfl⟩
      · exact mem_filtB.2 ⟨_, rfl, h1, by rw [h5, h3]; rfl⟩
      · exact mem_filtB.2 ⟨_, rfl, g1, by rw [g4, g2]; rfl⟩
  unfold degB at h2
  rw [h2] at this
  simp at this
/-- The vertex that one comes from. -/
noncomputable def wkW (es : List (Int × Int)) (p : Nat → Bool) (e : Nat) : Nat → Nat
  | 0 => (es.getD e (0, 0)).1.toNat
  | t + 1 => (wk es p e t).2
/-- The walk along the list. -/
theorem wk_walk2 (hg : IsG n es) (h2 : Deg2 n es p) (he : e < es.length) (hpe : p e = true) : ∀ t, t ≤ (compL es p e).length → Walk n es p e (es.getD e (0, 0)).1.toNat (fun _ => False) (wkL es p e t) (wk es p e t).1 (wkW es p e t) (wk es p e t).2
  | 0, _ => by
    obtain ⟨d1, d2, d3, d4, d5⟩ := hg.ed.ends es[e] (List.getElem_mem he)
    rw [← getD_of (d := (0, 0)) he] at d1 d2 d3 d4 d5
    show Walk n es p e _ _ [] e (es.getD e (0, 0)).1.toNat (es.getD e (0, 0)).2.toNat
    refine ⟨(fun i hi => by cases hi), List.nodup_nil, fun x => by simp [degC], he, hpe, .refl, ?_, ?_, by omega, by omega, by omega, .inl ⟨rfl, rfl, rfl⟩⟩
    · unfold on; simp only [Bool.or_eq_true, beq_iff_eq]; left; omega
    · unfold on; simp only [Bool.or_eq_true, beq_iff_eq]; right; omega
  | t + 1, ht => by
    have hW := wk_walk2 hg h2 he hpe t (by omega)
    have hend : ∀ i, i < es.length → ∀ x : Int, on (es.getD i (0, 0)) x = true → 0 ≤ x ∧ x < n := fun i hi x hx => by
      obtain ⟨d1, d2, d3, d4, d5⟩ := hg.ed.ends es[i] (List.getElem_mem hi)
      rw [← getD_of (d := (0, 0)) hi] at d1 d2 d3 d4 d5
      unfold on at hx
      simp only [Bool.or_eq_true, beq_iff_eq] at hx
      omega
    have hnot : ((wk es p e t).1 : Int) ∉ wkL es p e t := fun hm => by
      have := (hW.comp (hW.stop h2 hend (fun h => h) (fun _ _ _ h _ => h) (.inl hm))).1
      rw [wkL_length] at this; omega
    have hvn := hW.vn
    obtain ⟨q, q1, q2, q3, q4⟩ := other_left (now := (wk es p e t).1) (h2 (wk es p e t).2 hvn (degB_pos hW.lt hW.pn hW.onv)) hW.lt
    have hnx := nx_eq (h2 _ hvn (degB_pos hW.lt hW.pn hW.onv)) hW.lt hW.pn hW.onv q1 q2 q3 q4
    obtain ⟨d1, d2, d3, d4, d5⟩ := hg.ed.ends es[q] (List.getElem_mem q1)
    rw [← getD_of (d := (0, 0)) q1] at d1 d2 d3 d4 d5
    have hon := q4
    unfold on at hon
    simp only [Bool.or_eq_true, beq_iff_eq] at hon
    have ho : (othN es (q : Int) (wk es p e t).2 : Int) = (es.getD q (0, 0)).1 + (es.getD q (0, 0)).2 - (wk es p e t).2 := by unfold othN; rw [Int.toNat_natCast]; omega
    rw [wkL_succ]
    have e1 : (wk es p e (t + 1)).1 = q := by rw [wk, hnx]
    have e2 : (wk es p e (t + 1)).2 = othN es (q : Int) (wk es p e t).2 := by rw [wk, hnx]
    rw [e1, e2]
    show Walk n es p e _ _ _ q (wk es p e t).2 _
    refine hW.step hnot (fun h => h) q1 q2 q3 q4 ?_ (by omega) (by omega)
    unfold on
    simp only [Bool.or_eq_true, beq_iff_eq]
    omega
end
end Go.Proofs
/- Contracts: the cycles that a matching leaves, the reference's way, as lists. -/
set_option linter.unusedVariables false
set_option linter.unusedSimpArgs false
set_option maxRecDepth 100000
namespace Go.Proofs
open Go.Abs

variable {H G : AHeap} {v u f : Value} {l m c D : List Int} {es fs : List (Int × Int)} {K : Value → AHeap → Prop} {A A' : Nat → Prop} {B : Nat} {ls ms : List (List Int)}

end Go.Proofs
/- Contracts: going round a cycle, the program's way. -/
set_option linter.unusedVariables false
set_option linter.unusedSimpArgs false
set_option maxRecDepth 100000
namespace Go.Proofs
open Go.Abs

variable {H G : AHeap} {v u f : Value} {l m c D : List Int} {es fs : List (Int × Int)} {K : Value → AHeap → Prop} {p : Nat → Bool} {e : Nat}

end Go.Proofs
/- Contracts: matchings, both sides. -/
set_option linter.unusedVariables false
set_option linter.unusedSimpArgs false
set_option maxRecDepth 100000
namespace Go.Proofs
open Go.Abs

variable {H : AHeap} {v u f : Value} {l m c : List Int} {es fs : List (Int × Int)} {K : Value → AHeap → Prop}

theorem ends_range {n : Int} (hd : IsEd n es) (hs : ∀ x ∈ l, 0 ≤ x ∧ x < es.length) : ∀ x ∈ ends es l, 0 ≤ x ∧ x < n := by
  intro x hx
  unfold ends at hx
  rw [List.mem_flatMap] at hx
  obtain ⟨i, hi, hx⟩ := hx
  have hr := hs i hi
  have hil : i.toNat < es.length := by omega
  obtain ⟨d1, d2, d3, d4, d5⟩ := hd.ends es[i.toNat] (List.getElem_mem hil)
  rw [getD_of hil] at hx
  simp at hx
  rcases hx with rfl | rfl <;> omega
theorem setN_append (l m : List Int) : setN (l ++ m) = m.foldl (fun s i => s ||| 2 ^ i.toNat) (setN l) := by unfold setN; rw [List.foldl_append]

theorem isMatching_ok {n : Int} (h : Edges H v es) (hl : es.length ≤ 1048576) (hg : IsG n es) (hc : Ints H u l) (hcl : l.length ≤ 1048576) (k : ∀ G, H.le G → K (.bool (decide (IsM n es l))) G) :
    AC Try.prog T0 64 [.agg ⟨[.int .i64 n, v]⟩, u] H K := by
  have n0 := hg.ed.lo; have n1 := hg.ed.hi; have n2 := hg.ed.even
  apply F64.ac
  unfold F64.B11
  refine newK_f (all_iv (edges_one' h)) fun H1 l1 n1' o1 => ?_
  unfold F64.B10
  have no : ∀ G, H.le G → ¬ IsM n es l → F64.B9 K G := by
    intro G hG hno
    unfold F64.B9
    have k := k _ hG
    rw [decide_eq_false hno] at k; exact k
  refine ldI_own o1 rfl (ld1_own o1 rfl (IsGraph_ok (h.le l1) hl fun H2 l2 => asB_mk (pif_f (by rw [decide_eq_true hg]; rfl) ?_)))
  have l12 := AHeap.le_trans l1 l2
  have o2 := l2.2 _ _ o1
  refine ld1_own o2 rfl (lengthE_ok (h.le l12) (asI_mk (isSet_ok (hc.le l12) (by omega) (by omega) (by omega) (asB_mk (pif_cases (fun hb => ?_) fun hb => ?_)))))
  · rw [Bool.not_eq_true'] at hb
    exact no _ l12 fun hi => of_decide_eq_false hb hi.set
  · rw [Bool.not_eq_false'] at hb
    have hs : IsS l es.length := of_decide_eq_true hb
    refine ldI_own o2 rfl (lengthL_ok (hc.le l12) (asI_mk ⟨AHeap.le_refl _, ?_⟩))
    rw [show Int.tdiv n 2 = n / 2 from Int.tdiv_eq_ediv_of_nonneg (by omega), wrap_id (by omega) (by omega)]
    refine pif_cases (fun hb => ?_) fun hb => ?_
    · exact no _ l12 fun hi => by have := hi.len; have := bne_iff_ne.1 hb; omega
    · have hlen : (l.length : Int) = n / 2 := bne_eq_false_iff_eq.1 hb
      have hsr : ∀ x ∈ l, 0 ≤ x ∧ x < es.length := hs.range
      have her := ends_range hg.ed hsr
      have he64 : ∀ k, ∀ x ∈ ends es (l.take k), x < 64 := fun k x hx => by
        have := ends_range hg.ed (l := l.take k) (fun y hy => hsr y (List.mem_of_mem_take hy)) x hx
        omega
      unfold F64.B8 F64.B7
      refine (hc.le l12).len ?_
      unfold F64.L2
      refine ⟨fun x2 x5 x27 x28 x29 G => x2 = H.length ∧ x27 = u ∧ x28 = l.length ∧ G = H2 ∧ ∃ i : Nat, x29 = i ∧ i ≤ l.length ∧ x5 = (setN (ends es (l.take i)) : Nat), fun _ _ _ _ x29 _ => l.length - x29.toNat, ⟨rfl, rfl, rfl, rfl, 0, rfl, by omega, rfl⟩, ?_⟩
      rintro x2 x5 x27 x28 x29 G ⟨rfl, rfl, rfl, rfl, i, rfl, hi, rfl⟩
      unfold F64.B6
      refine pif_cases (fun hb => ?_) fun hb => ?_
      · have hil : i < l.length := by have := of_decide_eq_true hb; omega
        have hx := hsr l[i] (List.getElem_mem hil)
        have hxl : (l[i]).toNat < es.length := by omega
        obtain ⟨d1, d2, d3, d4, d5⟩ := hg.ed.ends es[(l[i]).toNat] (List.getElem_mem hxl)
        rw [← getD_of (d := (0, 0)) hxl] at d1 d2 d3 d4 d5
        unfold F64.B5
        refine (hc.le l12).rd (by omega) (by omega) ?_
        simp only [Int.toNat_natCast, getD_of hil]
        unfold F64.B4
        obtain ⟨b, o, hk, c1, c2⟩ := (h.le l12).idx hx.1 hx.2
        refine ld1_own o2 rfl (hk _ (ldI_mk c1 ⟨d1, ld1_own o2 rfl (hk _ (ldI_mk c2 ⟨d3, ?_⟩))⟩))
        have pa : 2 ^ ((es.getD (l[i]).toNat (0, 0)).1).toNat < 2 ^ 64 := Nat.pow_lt_pow_right (by decide) (by omega)
        have pb : 2 ^ ((es.getD (l[i]).toNat (0, 0)).2).toNat < 2 ^ 64 := Nat.pow_lt_pow_right (by decide) (by omega)
        rw [one_shl d1 (by omega), one_shl d3 (by omega), bits_or pa pb, bits_or (setN_lt (he64 i)) (or_lt pa pb)]
        unfold F64.B3
        rw [wrap_id (by omega) (by omega)]
        refine ⟨⟨rfl, rfl, rfl, rfl, i + 1, by omega, by omega, ?_⟩, by simp; omega⟩
        rw [ends_take es hil, setN_append]
        simp only [List.foldl_cons, List.foldl_nil, Nat.or_assoc]
      · have hil : i = l.length := by have := of_decide_eq_false hb; omega
        subst hil
        unfold F64.B1
        refine ldI_own o2 rfl ⟨by omega, ?_⟩
        have k := k _ l12
        rw [List.take_length]
        have pn : 2 ^ n.toNat < 2 ^ 64 := Nat.pow_lt_pow_right (by decide) (by omega)
        have p1 : 1 ≤ 2 ^ n.toNat := Nat.one_le_two_pow
        rw [one_shl (by omega) (by omega), show ((2 ^ n.toNat : Nat) : Int) - 1 = ((2 ^ n.toNat - 1 : Nat) : Int) by omega, u64_nat (by omega)]
        have key : (((setN (ends es l) : Nat) : Int) == ((2 ^ n.toNat - 1 : Nat) : Int)) = decide (IsM n es l) := by
          rw [Bool.eq_iff_iff, beq_iff_eq, decide_eq_true_iff]
          have hel : (ends es l).length = n.toNat := by rw [ends_length]; omega
          have on := once_all hel (fun x hx => by have := her x hx; omega)
          constructor
          · intro h
            have h : setN (ends es l) = 2 ^ n.toNat - 1 := by omega
            refine ⟨hs, on.2 fun i hi => ?_, by omega⟩
            have := setN_bit (fun x hx => (her x hx).1) i
            rw [h, Nat.testBit_two_pow_sub_one, decide_eq_true hi] at this
            exact of_decide_eq_true this.symm
          · intro h
            have : setN (ends es l) = 2 ^ n.toNat - 1 := by
              apply Nat.eq_of_testBit_eq
              intro i
              rw [setN_bit (fun x hx => (her x hx).1), Nat.testBit_two_pow_sub_one, decide_eq_decide]
              exact ⟨fun hm => by have := her _ hm; omega, fun hi => on.1 h.nd i hi⟩
            rw [this]
        rw [key]; exact k

theorem l04Is_ok {n : Int} (h : Edges H v es) (hl : es.length ≤ 1048576) (hg : IsG n es) (hc : Ints H u l) (hcl : l.length ≤ 1048576) (k : ∀ G, H.le G → K (.bool (decide (IsM n es l))) G) :
    AC Try.prog T0 108 [.agg ⟨[.int .i64 n, v]⟩, u] H K := by
  have n0 := hg.ed.lo; have n1 := hg.ed.hi; have n2 := hg.ed.even
  apply F108.ac
  unfold F108.B17
  refine newK_f (all_iv (edges_one' h)) fun H1 l1 n1' o1 => ?_
  unfold F108.B16
  refine ldI_own o1 rfl (mkR_int (by omega) (by omega) (by decide) fun H2 l2 n2' o2 => ?_)
  rw [rep_b] at o2
  unfold F108.B15 F108.L2
  refine ⟨fun x1 x2 x5 x6 G => x1 = u ∧ x2 = H.length ∧ x5 = .slice (some ⟨H1.length, 0, none⟩) n.toNat (n.toNat + 1) ∧ H1.le G ∧ ∃ i : Nat, x6 = i ∧ i ≤ l.length ∧ (∀ j, j < i → 0 ≤ l.getD j 0 ∧ l.getD j 0 ≤ es.length - 1 ∧ (0 < j → l.getD (j - 1) 0 < l.getD j 0)) ∧ (ends es (l.take i)).Nodup ∧
      ∃ S : List Bool, S.length = n.toNat ∧ Own G H1.length 4 (LB S) ∧ ∀ w, w < S.length → (S.getD w false = true ↔ (w : Int) ∈ ends es (l.take i)),
    fun _ _ _ x6 _ => l.length - x6.toNat, ⟨rfl, rfl, rfl, l2, 0, rfl, by omega, fun j hj => absurd hj (by omega), by simp [ends], _, by simp, o2, fun w hw => ?_⟩, ?_⟩
  · have : (List.replicate n.toNat false).getD w false = false := by simp only [List.getD, List.getElem?_replicate]; split <;> rfl
    rw [this]; simp [ends]
  · rintro x1 x2 x5 x6 G ⟨rfl, rfl, rfl, hG, i, rfl, hi, hp, hnd, S, hS, oS, hm⟩
    have oG := hG.2 _ _ o1
    have lG := AHeap.le_trans l1 hG
    have hsr : ∀ x ∈ l.take i, 0 ≤ x ∧ x < es.length := fun x hx => by
      obtain ⟨j, hj, rfl⟩ := List.getElem_of_mem hx
      rw [List.length_take] at hj
      have := hp j (by omega)
      rw [getD_of (by omega : j < l.length)] at this
      rw [List.getElem_take]; omega
    unfold F108.B14
    refine (hc.le lG).len (pif_cases (fun hb => ?_) fun hb => ?_)
    · have hil : i < l.length := by have := of_decide_eq_true hb; omega
      have no : ¬ (0 ≤ l.getD i 0 ∧ l.getD i 0 ≤ es.length - 1 ∧ (0 < i → l.getD (i - 1) 0 < l.getD i 0)) → ∀ N, F108.B12 K N G := by
        intro hno N
        unfold F108.B12
        have k := k _ lG
        rw [decide_eq_false (fun hi' : IsM n es l => hno (hi'.set i hil))] at k; exact k
      have go : (0 ≤ l.getD i 0 ∧ l.getD i 0 ≤ es.length - 1 ∧ (0 < i → l.getD (i - 1) 0 < l.getD i 0)) → F108.B11 K (fun x1'' x2'' x5'' x6'' H'' =>
          (x1'' = x1 ∧ x2'' = H.length ∧ x5'' = .slice (some ⟨H1.length, 0, none⟩) n.toNat (n.toNat + 1) ∧ H1.le H'' ∧ ∃ i : Nat, x6'' = i ∧ i ≤ l.length ∧ (∀ j, j < i → 0 ≤ l.getD j 0 ∧ l.getD j 0 ≤ es.length - 1 ∧ (0 < j → l.getD (j - 1) 0 < l.getD j 0)) ∧ (ends es (l.take i)).Nodup ∧
            ∃ S : List Bool, S.length = n.toNat ∧ Own H'' H1.length 4 (LB S) ∧ ∀ w, w < S.length → (S.getD w false = true ↔ (w : Int) ∈ ends es (l.take i))) ∧ l.length - x6''.toNat < l.length - (i : Int).toNat) x1 H.length (.slice (some ⟨H1.length, 0, none⟩) n.toNat (n.toNat + 1)) i G := by
        intro hy
        have hxl : (l.getD i 0).toNat < es.length := by omega
        obtain ⟨d1, d2, d3, d4, d5⟩ := hg.ed.ends es[(l.getD i 0).toNat] (List.getElem_mem hxl)
        rw [← getD_of (d := (0, 0)) hxl] at d1 d2 d3 d4 d5
        unfold F108.B11 F108.L4
        let P : Nat → List Int := fun m => ends es (l.take i) ++ (if m = 0 then [] else if m = 1 then [en (es.getD (l.getD i 0).toNat (0, 0)) 0] else [en (es.getD (l.getD i 0).toNat (0, 0)) 0, en (es.getD (l.getD i 0).toNat (0, 0)) 1])
        have PS : ∀ m, m < 2 → P (m + 1) = P m ++ [en (es.getD (l.getD i 0).toNat (0, 0)) m] := by
          intro m hm
          rcases (by omega : m = 0 ∨ m = 1) with rfl | rfl <;> simp [P]
        have P2 : P 2 = ends es (l.take (i + 1)) := by
          rw [ends_take es hil, ← getD_of (d := 0) hil]
          simp [P, en]
        refine ⟨fun y1 y2 y5 y6 y7 G' => y1 = x1 ∧ y2 = H.length ∧ y5 = .slice (some ⟨H1.length, 0, none⟩) n.toNat (n.toNat + 1) ∧ y6 = i ∧ H1.le G' ∧ ∃ m : Nat, y7 = m ∧ m ≤ 2 ∧ (P m).Nodup ∧ ∃ S : List Bool, S.length = n.toNat ∧ Own G' H1.length 4 (LB S) ∧ ∀ w, w < S.length → (S.getD w false = true ↔ (w : Int) ∈ P m),
          fun _ _ _ _ y7 _ => 2 - y7.toNat, ⟨rfl, rfl, rfl, rfl, hG, 0, rfl, by omega, by simpa [P] using hnd, S, hS, oS, by simpa [P] using hm⟩, ?_⟩
        rintro y1 y2 y5 y6 y7 G' ⟨rfl, rfl, rfl, rfl, hG', m, rfl, hm2, hnd, S, hS, oS, hm⟩
        have oG' := hG'.2 _ _ o1
        have lG' := AHeap.le_trans l1 hG'
        unfold F108.B10
        refine pif_cases (fun hb => ?_) fun hb => ?_
        · have hm3 : m < 2 := by have := of_decide_eq_true hb; omega
          unfold F108.B9
          refine ld1_own oG' rfl ((hc.le lG').rd (by omega) (by omega) ?_)
          simp only [Int.toNat_natCast]
          obtain ⟨b, o, hk, c1, c2⟩ := (h.le lG').idx hy.1 (by omega)
          refine hk _ (bndK_iff.2 ⟨by omega, by omega, ldI_mk (cell_en c1 c2 hm3) ?_⟩)
          have hv : 0 ≤ en (es.getD (l.getD i 0).toNat (0, 0)) m ∧ en (es.getD (l.getD i 0).toNat (0, 0)) m < n := by unfold en; split <;> omega
          obtain ⟨w, hw⟩ : ∃ w : Nat, en (es.getD (l.getD i 0).toNat (0, 0)) m = w := ⟨(en (es.getD (l.getD i 0).toNat (0, 0)) m).toNat, by omega⟩
          rw [hw]
          have hwS : w < S.length := by omega
          have rdS : (LB S)[w]? = some (.bool (S.getD w false)) := by rw [getD_of hwS]; simp [hwS]
          unfold F108.B8
          refine own_idx (by omega) (by omega) (ld1_own oS rdS (asB_mk (pif_cases (fun hbit => ?_) fun hbit => ?_)))
          · unfold F108.B7
            have k := k _ lG'
            rw [decide_eq_false (fun hi' : IsM n es l => by
              have hin := (hm w hwS).1 hbit
              have hsub : (ends es (l.take (i + 1))).Nodup := by
                have := hi'.nd
                rw [← List.take_append_drop (i + 1) l] at this
                unfold ends at this ⊢
                rw [List.flatMap_append] at this
                exact (List.nodup_append.1 this).1
              rw [← P2] at hsub
              have h3 : (P (m + 1)).Nodup := by
                rcases (by omega : m = 0 ∨ m = 1) with rfl | rfl
                · rw [PS 1 (by omega)] at hsub; exact (List.nodup_append.1 hsub).1
                · exact hsub
              rw [PS m hm3, hw] at h3
              exact (List.nodup_append.1 h3).2.2 _ hin _ (by simp) rfl)] at k
            exact k
          · unfold F108.B6
            refine own_idx (by omega) (by omega) (stK_1 oS (by simpa using hwS) rfl fun G2 b2 o2 => ?_)
            have o2 : Own G2 H1.length 4 (LB (S.set w true)) := by simpa using o2
            unfold F108.B5
            rw [wrap_id (by omega) (by omega)]
            have hnin : ¬ (w : Int) ∈ P m := fun hin => by rw [(hm w hwS).2 hin] at hbit; cases hbit
            refine ⟨⟨rfl, rfl, rfl, rfl, b2.le hG' (Nat.le_refl _), m + 1, by omega, by omega, ?_, _, by simpa using hS, o2, fun w' hw' => ?_⟩, by simp; omega⟩
            · rw [PS m hm3, hw]
              exact List.nodup_append.2 ⟨hnd, by simp, fun a ha b hb => by simp at hb; rintro rfl; subst hb; exact hnin ha⟩
            · rw [List.length_set] at hw'
              rw [PS m hm3, hw, List.mem_append, List.mem_singleton]
              by_cases he : w = w'
              · subst he
                simp [List.getD, hwS]
              · have e1 : (S.set w true).getD w' false = S.getD w' false := by simp [List.getD, List.getElem?_set, he]
                rw [e1, hm w' hw']
                exact ⟨fun h => .inl h, fun h => h.elim id fun h => absurd h (by omega)⟩
        · have hm3 : m = 2 := by have := of_decide_eq_false hb; omega
          subst hm3
          unfold F108.B3
          rw [wrap_id (by omega) (by omega)]
          rw [P2] at hnd hm
          refine ⟨⟨rfl, rfl, rfl, hG', i + 1, by omega, by omega, fun j hj => ?_, hnd, S, hS, oS, hm⟩, by simp; omega⟩
          by_cases he : j = i
          · subst he; exact hy
          · exact hp j (by omega)
      unfold F108.B13
      refine (hc.le lG).rd (by omega) (by omega) (ld1_own oG rfl ((h.le lG).len (l01In_ok (asB_mk ?_))))
      simp only [Int.toNat_natCast]
      rw [wrap_id (x := (es.length : Int) - 1) (by omega) (by omega)]
      refine pif_cases (fun hs => ?_) fun hs => ?_
      · rw [Bool.not_eq_true'] at hs
        exact no (fun hy => of_decide_eq_false hs ⟨hy.1, hy.2.1⟩) _
      · rw [Bool.not_eq_false'] at hs
        have hs := of_decide_eq_true hs
        refine pif_cases (fun ht => ?_) fun ht => ?_
        · have hi0 : 0 < i := by have := of_decide_eq_true ht; omega
          rw [wrap_id (x := (i : Int) - 1) (by omega) (by omega)]
          refine (hc.le lG).rd (by omega) (by omega) ((hc.le lG).rd (by omega) (by omega) ?_)
          rw [show ((i : Int) - 1).toNat = i - 1 by omega]
          simp only [Int.toNat_natCast]
          refine pif_cases (fun hd => ?_) fun hd => ?_
          · have := of_decide_eq_true hd
            exact no (fun hy => by have := hy.2.2 hi0; omega) _
          · have := of_decide_eq_false hd
            exact go ⟨hs.1, hs.2, fun _ => by omega⟩
        · have := of_decide_eq_false ht
          exact go ⟨hs.1, hs.2, fun h => by omega⟩
    · have hil : i = l.length := by have := of_decide_eq_false hb; omega
      subst hil
      rw [List.take_length] at hnd hsr
      unfold F108.B1
      refine (hc.le lG).len (ldI_own oG rfl ?_)
      have k := k _ lG
      rw [wrap_id (by omega) (by omega)]
      have e : ((2 * (l.length : Int)) == n) = decide (IsM n es l) := by
        rw [Bool.eq_iff_iff, beq_iff_eq, decide_eq_true_iff]
        exact ⟨fun h => ⟨fun j hj => hp j hj, hnd, h⟩, fun h => h.len⟩
      rw [e]; exact k
end Go.Proofs
/- Contracts: colourings of matchings, both sides. -/
set_option linter.unusedVariables false
set_option linter.unusedSimpArgs false
set_option maxRecDepth 100000
namespace Go.Proofs
open Go.Abs

variable {H G : AHeap} {v u f : Value} {l m c D : List Int} {es fs : List (Int × Int)} {K : Value → AHeap → Prop} {A A' : Nat → Prop} {B : Nat} {ls ms cs : List (List Int)}

theorem isM_one {n : Int} (hg : IsG n es) (hm : IsM n es l) : OneAt n es l := by
  have hr : ∀ x ∈ l, 0 ≤ x ∧ x < es.length := hm.set.range
  have hend : ∀ x ∈ l, ∃ a b : Nat, es.getD x.toNat (0, 0) = ((a : Int), (b : Int)) ∧ a ≠ b ∧ (a : Int) < n ∧ (b : Int) < n := by
    intro x hx
    have h := hr x hx
    have hx' : x.toNat < es.length := by omega
    obtain ⟨d1, d2, d3, d4, d5⟩ := hg.ed.ends es[x.toNat] (List.getElem_mem hx')
    rw [← getD_of (d := (0, 0)) hx'] at d1 d2 d3 d4 d5
    refine ⟨(es.getD x.toNat (0, 0)).1.toNat, (es.getD x.toNat (0, 0)).2.toNat, ?_, by omega, by omega, by omega⟩
    rw [Int.toNat_of_nonneg d1, Int.toNat_of_nonneg d3]
  intro x hx
  have hcnt : ∀ L : List Int, (∀ i ∈ L, i ∈ l) → degC es L x = (ends es L).count (x : Int) := by
    intro L
    induction L with
    | nil => intro _; rfl
    | cons i L ih =>
      intro hL
      obtain ⟨a, b, e1, e2, _, _⟩ := hend i (hL i (by simp))
      have ih := ih fun j hj => hL j (by simp [hj])
      have hi := hr i (hL i (by simp))
      obtain ⟨k, rfl⟩ : ∃ k : Nat, i = k := ⟨i.toNat, by omega⟩
      rw [degC_cons, ih]
      rw [Int.toNat_natCast] at e1
      have : ends es ((k : Int) :: L) = (a : Int) :: (b : Int) :: ends es L := by
        unfold ends; rw [List.flatMap_cons, Int.toNat_natCast, e1]; rfl
      rw [this, List.count_cons, List.count_cons, e1]
      unfold on
      have hab : (a : Int) ≠ (b : Int) := by omega
      simp only [Bool.or_eq_true, beq_iff_eq]
      by_cases h1 : (a : Int) = (x : Int)
      · have h2 : ¬ (b : Int) = (x : Int) := by omega
        rw [if_pos (.inl h1), if_neg h2, if_pos h1]
      · by_cases h2 : (b : Int) = (x : Int)
        · rw [if_pos (.inr h2), if_pos h2, if_neg h1]
        · rw [if_neg (by omega), if_neg h2, if_neg h1]
  rw [hcnt l fun i hi => hi]
  have hmem : (x : Int) ∈ ends es l := by
    refine nodup_sup (m := upto n.toNat) hm.nd (fun y hy => ?_) ?_ _ ?_
    · unfold ends at hy
      obtain ⟨i, hi, hy⟩ := List.mem_flatMap.1 hy
      obtain ⟨a, b, e1, e2, e3, e4⟩ := hend i hi
      rw [e1] at hy
      simp only [List.mem_cons, List.not_mem_nil, or_false] at hy
      unfold upto
      rcases hy with rfl | rfl
      · exact List.mem_map.2 ⟨a, List.mem_range.2 (by omega), rfl⟩
      · exact List.mem_map.2 ⟨b, List.mem_range.2 (by omega), rfl⟩
    · have := hm.len
      rw [ends_length]
      unfold upto
      rw [List.length_map, List.length_range]; omega
    · unfold upto; exact List.mem_map.2 ⟨x, List.mem_range.2 (by omega), rfl⟩
  have h1 := List.nodup_iff_count.1 hm.nd (x : Int)
  have h2 := List.count_pos_iff.2 hmem
  omega

theorem l04Code_ok {n : Int} (h : Edges H v es) (hl : es.length ≤ 1048576) (hc : Ints H u l) (hcl : l.length ≤ 1048576) (k : ∀ G, H.le G → K (.int .i64 (if IsG n es then (if IsM n es l then 0 else 2) else 1)) G) : AC Try.prog T0 62 [.agg ⟨[.int .i64 n, v]⟩, u] H K := by
  apply F62.ac
  unfold F62.B6
  refine newK_f (all_iv (edges_one' h)) fun H1 l1 _ o1 => ?_
  unfold F62.B5
  refine ldI_own o1 rfl (ld1_own o1 rfl (l01Is_ok (h.le l1) hl fun H2 l2 => asB_mk (pif_cases (fun hs => ?_) fun hs => ?_)))
  · have hg : ¬ IsG n es := by simpa using hs
    unfold F62.B2
    have k := k _ (AHeap.le_trans l1 l2)
    rw [if_neg hg] at k; exact k
  · have hg : IsG n es := by simpa using hs
    have l12 := AHeap.le_trans l1 l2
    unfold F62.B4
    refine ldI_own (o1.le l2) rfl (ld1_own (o1.le l2) rfl (l04Is_ok (h.le l12) hl hg (hc.le l12) hcl fun H3 l3 => asB_mk (pif_cases (fun hs => ?_) fun hs => ?_)))
    · have hm : ¬ IsM n es l := by simpa using hs
      unfold F62.B3
      have k := k _ (AHeap.le_trans l12 l3)
      rw [if_pos hg, if_neg hm] at k; exact k
    · have hm : IsM n es l := by simpa using hs
      unfold F62.B1
      have k := k _ (AHeap.le_trans l12 l3)
      rw [if_pos hg, if_pos hm] at k; exact k
theorem isMatching2_ok {n : Int} (h : Edges H v es) (hl : es.length ≤ 1048576) (hc : Ints H u l) (hcl : l.length ≤ 1048576) (k : ∀ b G, H.le G → (IsG n es → b = decide (IsM n es l)) → K (.bool b) G) :
    AC Try.prog T0 64 [.agg ⟨[.int .i64 n, v]⟩, u] H K := by
  by_cases hg : IsG n es
  · exact isMatching_ok h hl hg hc hcl fun G hG => k _ G hG fun _ => rfl
  · apply F64.ac
    unfold F64.B11
    refine newK_f (all_iv (edges_one' h)) fun H1 l1 n1' o1 => ?_
    unfold F64.B10
    refine ldI_own o1 rfl (ld1_own o1 rfl (IsGraph_ok (h.le l1) hl fun H2 l2 => asB_mk (pif_t (by rw [decide_eq_false hg]; rfl) ?_)))
    unfold F64.B9
    exact k _ _ (AHeap.le_trans l1 l2) fun h => absurd h hg
end Go.Proofs
/- Plain mathematics: parts of lists put in order. -/
set_option linter.unusedVariables false
set_option linter.unusedSimpArgs false
namespace Go.Proofs

section
variable {α : Type} {d : α} {L L' L'' : List α} {a b a' b' i j k : Nat}
/-- The same items between a and b, in another order. -/
structure Seg (a b : Nat) (L L' : List α) : Prop where
  perm : L'.Perm L
  out : ∀ i, i < a ∨ b ≤ i → L'[i]? = L[i]?
theorem Seg.len (h : Seg a b L L') : L'.length = L.length := h.perm.length_eq
theorem Seg.refl : Seg a b L L := ⟨List.Perm.refl _, fun _ _ => rfl⟩
theorem Seg.trans (h : Seg a b L L') (k : Seg a b L' L'') : Seg a b L L'' := ⟨k.perm.trans h.perm, fun i hi => (k.out i hi).trans (h.out i hi)⟩
theorem Seg.mono (h : Seg a b L L') (ha : a' ≤ a) (hb : b ≤ b') : Seg a' b' L L' := ⟨h.perm, fun i hi => h.out i (by omega)⟩
theorem Seg.all (h : Seg a b L L') (hb : b ≤ L.length) {Q : α → Prop} (hq : ∀ i, a ≤ i → i < b → Q (L.getD i d)) : ∀ i, a ≤ i → i < b → Q (L'.getD i d) := by
  intro i hai hib
  have hl := h.len
  have cut : ∀ M : List α, M.length = L.length → M = M.take a ++ ((M.drop a).take (b - a) ++ M.drop b) := fun M hM => by
    have e : M.drop b = (M.drop a).drop (b - a) := by rw [List.drop_drop]; congr 1; omega
    rw [e, List.take_append_drop, List.take_append_drop]
  have e1 : L'.take a = L.take a := by
    apply List.ext_getElem?
    intro m
    by_cases hm : m < a
    · rw [List.getElem?_take_of_lt hm, List.getElem?_take_of_lt hm, h.out m (.inl hm)]
    · rw [List.getElem?_take, List.getElem?_take, if_neg hm, if_neg hm]
  have e2 : L'.drop b = L.drop b := by
    apply List.ext_getElem?
    intro m
    rw [List.getElem?_drop, List.getElem?_drop, h.out _ (.inr (by omega))]
  have hp := h.perm
  rw [cut L' hl, cut L rfl, e1, e2, List.perm_append_left_iff, List.perm_append_right_iff] at hp
  have hin : L'.getD i d ∈ (L'.drop a).take (b - a) := by
    rw [List.getD_eq_getElem?_getD, List.getElem?_eq_getElem (by omega), Option.getD_some]
    rw [List.mem_iff_getElem]
    refine ⟨i - a, by rw [List.length_take, List.length_drop]; omega, ?_⟩
    rw [List.getElem_take, List.getElem_drop]
    congr 1; omega
  have hin := hp.mem_iff.1 hin
  rw [List.mem_iff_getElem] at hin
  obtain ⟨m, hm, he⟩ := hin
  rw [List.length_take, List.length_drop] at hm
  rw [List.getElem_take, List.getElem_drop] at he
  have := hq (a + m) (by omega) (by omega)
  rw [List.getD_eq_getElem?_getD, List.getElem?_eq_getElem (by omega), Option.getD_some, he] at this
  exact this
def swp (d : α) (L : List α) (i j : Nat) : List α := (L.set i (L.getD j d)).set j (L.getD i d)
theorem getQ_set {x : α} (h : i < L.length) : (L.set i x).getD j d = if j = i then x else L.getD j d := by
  by_cases e : i = j
  · subst e; simp [List.getD, h]
  · simp [List.getD, List.getElem?_set, e]
    intro h; omega
theorem swp_get (hi : i < L.length) (hj : j < L.length) (k : Nat) : (swp d L i j).getD k d = if k = j then L.getD i d else if k = i then L.getD j d else L.getD k d := by
  unfold swp
  rw [getQ_set (by simp; omega), getQ_set hi]
theorem swp_seg (hai : a ≤ i) (hib : i < b) (haj : a ≤ j) (hjb : j < b) (hb : b ≤ L.length) : Seg a b L (swp d L i j) := by
  have hi : i < L.toArray.size := by simp; omega
  have hj : j < L.toArray.size := by simp; omega
  have hp := Array.swap_perm (xs := L.toArray) hi hj
  have e : (L.toArray.swap i j hi hj).toList = swp d L i j := by
    unfold swp
    have h1 : L.getD j d = L[j]'(by omega) := by rw [List.getD_eq_getElem?_getD, List.getElem?_eq_getElem (by omega), Option.getD_some]
    have h2 : L.getD i d = L[i]'(by omega) := by rw [List.getD_eq_getElem?_getD, List.getElem?_eq_getElem (by omega), Option.getD_some]
    rw [h1, h2]
    simp [Array.swap]
  refine ⟨?_, fun m hm => ?_⟩
  · have := Array.perm_iff_toList_perm.1 hp
    rw [e] at this; exact this
  · unfold swp
    rw [List.getElem?_set_ne (by omega), List.getElem?_set_ne (by omega)]

/-- A way of comparing. -/
structure Cmp (c : α → α → Int) : Prop where
  tr : ∀ x y z, ¬ c y x < 0 → ¬ c z y < 0 → ¬ c z x < 0
  asy : ∀ x y, c x y < 0 → ¬ c y x < 0
/-- At most. -/
abbrev LeC (c : α → α → Int) (x y : α) : Prop := ¬ c y x < 0
variable {c : α → α → Int}
theorem Cmp.rfl (h : Cmp c) (x : α) : LeC c x x := fun hx => h.asy _ _ hx hx
theorem Cmp.lt (h : Cmp c) {x y : α} (hx : c x y < 0) : LeC c x y := h.asy _ _ hx
/-- In order between a and b. -/
def SortedIn (d : α) (c : α → α → Int) (a b : Nat) (L : List α) : Prop := ∀ i j, a ≤ i → i < j → j < b → LeC c (L.getD i d) (L.getD j d)
/-- In order but between a and b. -/
def SortedBut (d : α) (c : α → α → Int) (a0 b0 a b : Nat) (L : List α) : Prop := ∀ i j, a0 ≤ i → i < j → j < b0 → (i < a ∨ b ≤ j) → LeC c (L.getD i d) (L.getD j d)
theorem SortedBut.fin {a0 b0 : Nat} (h : SortedBut d c a0 b0 a b L) (hs : SortedIn d c a b L) : SortedIn d c a0 b0 L := by
  intro i j h0 hij hj
  by_cases hi : i < a ∨ b ≤ j
  · exact h i j h0 hij hj hi
  · exact hs i j (by omega) hij (by omega)
theorem SortedIn.pairs (h : SortedIn d c 0 L.length L) : L.Pairwise (LeC c) := by
  rw [List.pairwise_iff_getElem]
  intro p q hp hq hpq
  have := h p q (by omega) hpq hq
  rw [List.getD_eq_getElem?_getD, List.getD_eq_getElem?_getD, List.getElem?_eq_getElem hp, List.getElem?_eq_getElem hq] at this
  exact this

/-- Above lo all items are at most their parents. -/
def HeapIn (d : α) (c : α → α → Int) (L : List α) (f lo hi : Nat) : Prop := ∀ k, 1 ≤ k → k < hi → lo ≤ (k - 1) / 2 → LeC c (L.getD (f + k) d) (L.getD (f + (k - 1) / 2) d)
/-- While an item sinks. -/
structure Sift (d : α) (c : α → α → Int) (L : List α) (f lo hi r : Nat) : Prop where
  heap : ∀ k, 1 ≤ k → k < hi → lo ≤ (k - 1) / 2 → (k - 1) / 2 ≠ r → LeC c (L.getD (f + k) d) (L.getD (f + (k - 1) / 2) d)
  up : ∀ k, 1 ≤ k → k < hi → (k - 1) / 2 = r → lo < r → lo ≤ (r - 1) / 2 → LeC c (L.getD (f + k) d) (L.getD (f + (r - 1) / 2) d)
theorem Sift.stop {f lo hi r : Nat} (h : Sift d c L f lo hi r) (hk : ∀ k, 1 ≤ k → k < hi → (k - 1) / 2 = r → LeC c (L.getD (f + k) d) (L.getD (f + r) d)) : HeapIn d c L f lo hi := by
  intro k h1 h2 h3
  by_cases e : (k - 1) / 2 = r
  · rw [e]; exact hk k h1 h2 e
  · exact h.heap k h1 h2 h3 e
theorem Sift.step {f lo hi r ch : Nat} (hc : Cmp c) (h : Sift d c L f lo hi r) (hl : f + hi ≤ L.length) (hr : lo ≤ r) (h1 : 1 ≤ ch) (h2 : ch < hi) (h3 : (ch - 1) / 2 = r)
    (h4 : c (L.getD (f + r) d) (L.getD (f + ch) d) < 0) (h5 : ∀ k, 1 ≤ k → k < hi → (k - 1) / 2 = r → LeC c (L.getD (f + k) d) (L.getD (f + ch) d)) : Sift d c (swp d L (f + r) (f + ch)) f lo hi ch := by
  have hrc : r < ch := by omega
  have g := fun k => swp_get (d := d) (L := L) (i := f + r) (j := f + ch) (by omega) (by omega) k
  refine ⟨fun k k1 k2 k3 k4 => ?_, fun k k1 k2 k3 k4 k5 => ?_⟩
  · rw [g, g]
    by_cases e1 : k = ch
    · subst e1
      rw [if_pos rfl, if_neg (by omega), if_pos (by omega)]
      exact hc.lt h4
    · rw [if_neg (by omega)]
      by_cases e2 : k = r
      · subst e2
        rw [if_pos rfl, if_neg (by omega), if_neg (by omega)]
        exact h.up ch h1 h2 h3 (by omega) k3
      · rw [if_neg (by omega), if_neg (by omega)]
        by_cases e3 : (k - 1) / 2 = r
        · rw [if_pos (by omega)]; exact h5 k k1 k2 e3
        · rw [if_neg (by omega)]; exact h.heap k k1 k2 k3 e3
  · rw [g, g, if_neg (by omega), if_neg (by omega), if_neg (by omega), if_pos (by omega)]
    have := h.heap k k1 k2 (by omega) (by omega)
    rw [k3] at this; exact this
/-- In order between a and i, but that the item at j may be less than those ahead of it. -/
def SortedTo (d : α) (c : α → α → Int) (L : List α) (a i j : Nat) : Prop := ∀ p q, a ≤ p → p < q → q ≤ i → q ≠ j → LeC c (L.getD p d) (L.getD q d)
theorem SortedTo.step {a i j : Nat} (hc : Cmp c) (h : SortedTo d c L a i j) (h0 : a < j) (hj : j < L.length) (hji : j ≤ i) (hlt : c (L.getD j d) (L.getD (j - 1) d) < 0) : SortedTo d c (swp d L j (j - 1)) a i (j - 1) := by
  intro p q hap hpq hqi hqj
  rw [swp_get hj (by omega), swp_get hj (by omega), if_neg hqj]
  by_cases e1 : q = j
  · subst e1
    rw [if_pos rfl]
    by_cases e2 : p = q - 1
    · rw [if_pos e2]; exact hc.lt hlt
    · rw [if_neg e2, if_neg (by omega)]; exact h p (q - 1) hap (by omega) (by omega) (by omega)
  · rw [if_neg e1]
    by_cases e2 : p = j - 1
    · rw [if_pos e2]
      exact h j q (by omega) (by omega) hqi e1
    · rw [if_neg e2]
      by_cases e3 : p = j
      · rw [if_pos e3]; exact h (j - 1) q (by omega) (by omega) hqi e1
      · rw [if_neg e3]; exact h p q hap hpq hqi e1
theorem SortedTo.stop {a i j : Nat} (hc : Cmp c) (h : SortedTo d c L a i j) (hj : j ≤ a ∨ LeC c (L.getD (j - 1) d) (L.getD j d)) : SortedIn d c a (i + 1) L := by
  intro p q hap hpq hqi
  by_cases e : q = j
  · subst e
    rcases hj with hj | hj
    · omega
    · by_cases e2 : p = q - 1
      · rw [e2]; exact hj
      · exact hc.tr _ _ _ (h p (q - 1) hap (by omega) (by omega) (by omega)) hj
  · exact h p q hap hpq (by omega) e
theorem SortedIn.to {a i : Nat} (h : SortedIn d c a i L) : SortedTo d c L a i i := fun p q h1 h2 h3 h4 => h p q h1 h2 (by omega)
end
section
variable {α : Type} {le : α → α → Prop}
/-- Two lists in order with the same items. -/
theorem sorted_same (anti : ∀ a b, le a b → le b a → a = b) : ∀ {A B : List α}, A.Pairwise le → B.Pairwise le → A.Perm B → A = B
  | [], B, _, _, h => (List.nil_perm.1 h).symm ▸ rfl
  | a :: A, [], _, _, h => absurd h.length_eq (by simp)
  | a :: A, b :: B, hA, hB, h => by
    obtain ⟨a1, a2⟩ := List.pairwise_cons.1 hA
    obtain ⟨b1, b2⟩ := List.pairwise_cons.1 hB
    have hab : a = b := by
      apply Classical.byContradiction
      intro hne
      have h1 : a ∈ B := by
        rcases List.mem_cons.1 (h.mem_iff.1 (List.mem_cons_self (a := a) (l := A))) with h | h
        · exact absurd h hne
        · exact h
      have h2 : b ∈ A := by
        rcases List.mem_cons.1 (h.mem_iff.2 (List.mem_cons_self (a := b) (l := B))) with h | h
        · exact absurd h.symm hne
        · exact h
      exact hne (anti _ _ (a1 _ h2) (b1 _ h1))
    subst hab
    rw [sorted_same anti a2 b2 (List.Perm.cons_inv h)]
end
end Go.Proofs
/- Contracts: cycles left by a matching, both sides. -/
set_option linter.unusedVariables false
set_option linter.unusedSimpArgs false
set_option maxRecDepth 100000
namespace Go.Proofs
open Go.Abs

variable {H G : AHeap} {v u f : Value} {l m c D S : List Int} {es fs : List (Int × Int)} {K : Value → AHeap → Prop} {cs : List (List Int)}

abbrev cI (x y : Int) : Int := x - y
theorem cmpI_ord : Cmp cI := ⟨fun x y z h1 h2 => by unfold cI at *; omega, fun x y h => by unfold cI at *; omega⟩
/-- In ascending order. -/
def srtI (l : List Int) : List Int := l.mergeSort fun a b => decide (a ≤ b)
theorem srtI_eq (h1 : S.Pairwise fun a b => a ≤ b) (h2 : S.Perm l) : S = srtI l := by
  refine sorted_same (le := fun a b : Int => a ≤ b) (fun a b h1 h2 => Int.le_antisymm h1 h2) h1 ?_ (h2.trans (List.mergeSort_perm l _).symm)
  have := List.pairwise_mergeSort (le := fun a b : Int => decide (a ≤ b)) (fun a b c h1 h2 => by simp at *; omega) (fun a b => by simp; omega) l
  exact this.imp fun h => by simpa using h
theorem insI_sorted {j : Nat} {x : Int} (hS : S.Pairwise fun a b => a ≤ b) (hj : j ≤ S.length) (h1 : ∀ i, j ≤ i → i < S.length → x < S.getD i 0) (h2 : j = 0 ∨ S.getD (j - 1) 0 ≤ x) : (S.take j ++ ([x] ++ S.drop j)).Pairwise fun a b => a ≤ b := by
  have hS' := hS
  rw [← List.take_append_drop j S, List.pairwise_append] at hS'
  obtain ⟨p1, p2, p3⟩ := hS'
  rw [List.pairwise_append]
  refine ⟨p1, ?_, fun a ha b hb => ?_⟩
  · rw [List.singleton_append, List.pairwise_cons]
    refine ⟨fun b hb => ?_, p2⟩
    obtain ⟨i, hi, rfl⟩ := List.getElem_of_mem hb
    rw [List.length_drop] at hi
    have := h1 (j + i) (by omega) (by omega)
    rw [getD_of (by omega)] at this
    rw [List.getElem_drop]; omega
  · rw [List.singleton_append, List.mem_cons] at hb
    rcases hb with rfl | hb
    · obtain ⟨i, hi, rfl⟩ := List.getElem_of_mem ha
      rw [List.length_take] at hi
      rw [List.getElem_take]
      rcases h2 with h2 | h2
      · omega
      · rw [getD_of (by omega)] at h2
        by_cases e : i = j - 1
        · subst e; exact h2
        · exact Int.le_trans ((List.pairwise_iff_getElem.1 hS) i (j - 1) (by omega) (by omega) (by omega)) h2
    · exact p3 a ha b hb
theorem insI_perm {j : Nat} {x : Int} : (S.take j ++ ([x] ++ S.drop j)).Perm (S ++ [x]) := by
  have h1 : (S.take j ++ ([x] ++ S.drop j)).Perm (S.take j ++ (S.drop j ++ [x])) := List.Perm.append_left _ List.perm_append_comm
  have e : S.take j ++ (S.drop j ++ [x]) = S ++ [x] := by rw [← List.append_assoc, List.take_append_drop]
  rw [← e]; exact h1

theorem asTup_mk {vs : List Value} {K : List Value → Prop} (h : K vs) : asTup (.tuple ⟨vs⟩) K := h
theorem less_ok {x y : Int} (k : K (.bool (decide (x < y))) H) : AC Try.prog T0 160 [.int .i64 x, .int .i64 y] H K := by
  apply F160.ac
  unfold F160.B2 F160.B1
  exact isNaN_ok (asB_mk (pif_f rfl k))
theorem insSortI_ok {b : Nat} {L : List Int} (o : Own H b 2 (LI L)) (hl : L.length ≤ 1000000) (k : ∀ G S, But b H G → Own G b 2 (LI S) → Seg 0 L.length L S → SortedIn 0 cI 0 L.length S → K (.tuple ⟨[]⟩) G) :
    AC Try.prog T0 154 [.slice (some ⟨b, 0, none⟩) L.length (L.length + 1), .int .i64 0, .int .i64 L.length] H K := by
  apply F154.ac
  unfold F154.B9 F154.L1
  refine ⟨fun x0 x1 x2 x6 G => .slice (some ⟨b, 0, none⟩) L.length (L.length + 1) = x0 ∧ (0 : Int) = x1 ∧ (L.length : Int) = x2 ∧ But b H G ∧ ∃ (i : Nat) (S : List Int), x6 = i ∧ 1 ≤ i ∧ (i ≤ L.length ∨ L.length = 0) ∧ Own G b 2 (LI S) ∧ Seg 0 L.length L S ∧ SortedIn 0 cI 0 i S,
    fun _ _ _ x6 _ => L.length - x6.toNat, ⟨rfl, rfl, rfl, .refl, 1, L, by rw [wrap_id (by omega) (by omega)]; rfl, Nat.le_refl _, by omega, o, .refl, fun i j h1 h2 h3 => by omega⟩, ?_⟩
  rintro x0 x1 x2 x6 G ⟨rfl, rfl, rfl, bG, i, S, rfl, h1i, hi, oS, sS, hS⟩
  unfold F154.B8
  refine pif_cases (fun hb => ?_) fun hb => ?_
  · have hil : i < L.length := by have := of_decide_eq_true hb; omega
    unfold F154.B7 F154.L3
    refine ⟨fun x0 x1 x2 x6 x7 G => .slice (some ⟨b, 0, none⟩) L.length (L.length + 1) = x0 ∧ (0 : Int) = x1 ∧ (L.length : Int) = x2 ∧ (i : Int) = x6 ∧ But b H G ∧ ∃ (j : Nat) (S : List Int), x7 = j ∧ j ≤ i ∧ Own G b 2 (LI S) ∧ Seg 0 L.length L S ∧ SortedTo 0 cI S 0 i j,
      fun _ _ _ _ x7 _ => x7.toNat, ⟨rfl, rfl, rfl, rfl, bG, i, S, rfl, Nat.le_refl _, oS, sS, hS.to⟩, ?_⟩
    clear sS oS hS bG
    rintro x0 x1 x2 x6 x7 G ⟨rfl, rfl, rfl, rfl, bG, j, S, rfl, hj, oS, sS, hS⟩
    have hSl := sS.len
    have next : ∀ N1 : Value → Int → Int → Int → AHeap → Prop, (∀ G S, But b H G → Own G b 2 (LI S) → Seg 0 L.length L S → SortedIn 0 cI 0 (i + 1) S → N1 (.slice (some ⟨b, 0, none⟩) L.length (L.length + 1)) 0 L.length ((i : Int) + 1) G) → (j ≤ 0 ∨ LeC cI (S.getD (j - 1) 0) (S.getD j 0)) → F154.B2 K N1 (.slice (some ⟨b, 0, none⟩) L.length (L.length + 1)) 0 L.length i G := by
      intro N1 hN hst
      unfold F154.B2
      rw [wrap_id (by omega) (by omega)]
      exact hN G S bG oS sS (hS.stop cmpI_ord hst)
    have fin : ∀ G S, But b H G → Own G b 2 (LI S) → Seg 0 L.length L S → SortedIn 0 cI 0 (i + 1) S → (.slice (some ⟨b, 0, none⟩) L.length (L.length + 1) = (.slice (some ⟨b, 0, none⟩) L.length (L.length + 1) : Value) ∧ (0 : Int) = 0 ∧ (L.length : Int) = L.length ∧ But b H G ∧ ∃ (i' : Nat) (S : List Int), ((i : Int) + 1) = i' ∧ 1 ≤ i' ∧ (i' ≤ L.length ∨ L.length = 0) ∧ Own G b 2 (LI S) ∧ Seg 0 L.length L S ∧ SortedIn 0 cI 0 i' S) ∧ L.length - ((i : Int) + 1).toNat < L.length - (i : Int).toNat :=
      fun G S h1 h2 h3 h4 => ⟨⟨rfl, rfl, rfl, h1, i + 1, S, by omega, by omega, by omega, h2, h3, h4⟩, by omega⟩
    unfold F154.B6
    refine pif_cases (fun hb => ?_) fun hb => ?_
    · have hj0 : 0 < j := by have := of_decide_eq_true hb; omega
      have r1 : ∀ {G : AHeap} {S : List Int} {x : Nat}, S.length = L.length → Own G b 2 (LI S) → x < L.length → ∀ {K : Int → Prop}, K (S.getD x 0) → idxK (.slice (some ⟨b, 0, none⟩) L.length (L.length + 1)) (x : Int) 1 (fun b o => ldI .i64 G b o K) := fun {G S x} hl o hx {K} k => by
        have hi := own_ints (c := L.length + 1) o
        rw [hl] at hi
        refine hi.rd (by omega) (by omega) ?_
        rw [Int.toNat_natCast]; exact k
      rw [show ((j : Int) - 1) = ((j - 1 : Nat) : Int) by omega, wrap_id (by omega) (by omega)]
      refine r1 hSl oS (by omega) (r1 hSl oS (by omega) (less_ok (asB_mk (pif_cases (fun hb => ?_) fun hb => ?_))))
      · have hlt : S.getD j 0 < S.getD (j - 1) 0 := of_decide_eq_true hb
        have hst := hS.step cmpI_ord hj0 (by omega) hj (by unfold cI; omega)
        have hsg := sS.trans (swp_seg (d := 0) (L := S) (a := 0) (b := L.length) (i := j) (j := j - 1) (by omega) (by omega) (by omega) (by omega) (by omega))
        unfold F154.B5
        rw [show ((j : Int) - 1) = ((j - 1 : Nat) : Int) by omega, wrap_id (by omega) (by omega)]
        refine r1 hSl oS (by omega) (r1 hSl oS (by omega) (own_idx (by omega) (by omega) (stK_1 oS (by simp; omega) rfl fun G1 b1 o1 => own_idx (by omega) (by omega) (stK_1 o1 (by simp; omega) rfl fun G2 b2 o2 => ?_))))
        rw [Int.toNat_natCast, Int.toNat_natCast, ← List.map_set, ← List.map_set] at o2
        have o2 : Own G2 b 2 (LI (swp 0 S j (j - 1))) := o2
        unfold F154.B4
        rw [show ((j : Int) - 1) = ((j - 1 : Nat) : Int) by omega, wrap_id (by omega) (by omega)]
        refine ⟨⟨rfl, rfl, rfl, rfl, bG.trans (b1.trans b2), j - 1, _, rfl, by omega, o2, hsg, hst⟩, ?_⟩
        show ((j - 1 : Nat) : Int).toNat < ((j : Nat) : Int).toNat
        omega
      · have hge := of_decide_eq_false hb
        exact next _ fin (.inr (by show ¬ (S.getD j 0 - S.getD (j - 1) 0 < 0); omega))
    · have hj0 : j ≤ 0 := by have := of_decide_eq_false hb; omega
      exact next _ fin (.inl hj0)
  · have hil : L.length ≤ i := by have := of_decide_eq_false hb; omega
    exact k G S bG oS sS fun p q h1 h2 h3 => hS p q h1 h2 (by omega)
theorem bitsLen_any {x : Int} (h0 : 0 ≤ x) (hx : x < 4294967296) (k : ∀ y : Int, K (.int .i64 y) H) : AC Try.prog T0 117 [.int .u64 x] H K := by
  have w8 : ∀ z : Int, 0 ≤ IntKind.u8.wrap z ∧ IntKind.u8.wrap z < 256 := fun z => by simp [IntKind.wrap, IntKind.bits, IntKind.signed]; omega
  apply F117.ac
  unfold F117.B2 F117.B1
  apply F164.ac
  unfold F164.B11 F164.B10
  have b1 : ∀ z q, F164.B1 (fun v1 H2 => asI .i64 v1 fun v3 => K (.int .i64 v3) H2) z q H := fun z q => by
    unfold F164.B1
    refine bndK_iff.2 ⟨(w8 z).1, (w8 z).2, asI_mk (k _)⟩
  have b4 : ∀ z q, F164.B4 (fun v1 H2 => asI .i64 v1 fun v3 => K (.int .i64 v3) H2) z q H := fun z q => by
    unfold F164.B4 F164.B3 F164.B2
    exact pif_cases (fun _ => ⟨by decide, b1 _ _⟩) fun _ => b1 _ _
  have b7 : ∀ z q, F164.B7 (fun v1 H2 => asI .i64 v1 fun v3 => K (.int .i64 v3) H2) z q H := fun z q => by
    unfold F164.B7 F164.B6 F164.B5
    exact pif_cases (fun _ => ⟨by decide, b4 _ _⟩) fun _ => b4 _ _
  unfold F164.B9 F164.B8
  exact pif_cases (fun _ => ⟨by decide, b7 _ _⟩) fun _ => b7 _ _
theorem pdqI_ok {b : Nat} {L : List Int} {y : Int} (o : Own H b 2 (LI L)) (hl : L.length ≤ 12) (k : ∀ G S, But b H G → Own G b 2 (LI S) → Seg 0 L.length L S → SortedIn 0 cI 0 L.length S → K (.tuple ⟨[]⟩) G) :
    AC Try.prog T0 116 [.slice (some ⟨b, 0, none⟩) L.length (L.length + 1), .int .i64 0, .int .i64 L.length, .int .i64 y] H K := by
  apply F116.ac
  unfold F116.B32 F116.B31 F116.L1
  refine ⟨fun x0 x1 x2 x3 x8 x9 G => .slice (some ⟨b, 0, none⟩) L.length (L.length + 1) = x0 ∧ (0 : Int) = x1 ∧ (L.length : Int) = x2 ∧ H = G, fun _ _ _ _ _ _ _ => 0, ⟨rfl, rfl, rfl, rfl⟩, ?_⟩
  rintro x0 x1 x2 x3 x8 x9 G ⟨rfl, rfl, rfl, rfl⟩
  unfold F116.B30
  rw [wrap_id (by omega) (by omega)]
  unfold F116.B29
  refine pif_t (decide_eq_true (by omega)) ?_
  unfold F116.B28
  exact insSortI_ok o (by omega) fun G S h1 h2 h3 h4 => asTup_mk (k G S h1 h2 h3 h4)
theorem pdqI_nil {y : Int} (k : K (.tuple ⟨[]⟩) H) : AC Try.prog T0 116 [v, .int .i64 0, .int .i64 0, .int .i64 y] H K := by
  apply F116.ac
  unfold F116.B32 F116.B31 F116.L1
  refine ⟨fun x0 x1 x2 x3 x8 x9 G => v = x0 ∧ (0 : Int) = x1 ∧ (0 : Int) = x2 ∧ H = G, fun _ _ _ _ _ _ _ => 0, ⟨rfl, rfl, rfl, rfl⟩, ?_⟩
  rintro x0 x1 x2 x3 x8 x9 G ⟨rfl, rfl, rfl, rfl⟩
  unfold F116.B30
  rw [wrap_id (by omega) (by omega)]
  unfold F116.B29
  refine pif_t (decide_eq_true (by omega)) ?_
  unfold F116.B28
  apply F154.ac
  unfold F154.B9 F154.L1
  refine ⟨fun x0 x1 x2 x6 G => (0 : Int) = x2 ∧ H = G ∧ x6 = 1, fun _ _ _ _ _ => 0, ⟨rfl, rfl, by rw [wrap_id (by omega) (by omega)]; rfl⟩, ?_⟩
  rintro x0 x1 x2 x6 G ⟨rfl, rfl, rfl⟩
  unfold F154.B8
  exact pif_f (decide_eq_false (by omega)) (asTup_mk k)
theorem sortI_ok {m0 : Nat} (h : Fresh m0 H v 2 1 (LI l)) (hl : l.length ≤ 12) (k : ∀ G, Mod v H G → Fresh m0 G v 2 1 (LI (srtI l)) → K (.tuple ⟨[]⟩) G) : AC Try.prog T0 67 [v] H K := by
  apply F67.ac
  unfold F67.B2
  refine h.ints.len ?_
  unfold F67.B1
  rw [show IntKind.u64.wrap (l.length : Int) = l.length by simp [IntKind.wrap, IntKind.bits, IntKind.signed]; omega]
  refine bitsLen_any (by omega) (by omega) fun y => asI_mk ?_
  rcases h with ⟨h0, h1⟩ | ⟨b, n, hb, rfl, h3, h4⟩
  · have hl0 : l = [] := List.map_eq_nil_iff.1 h0
    subst hl0
    refine pdqI_nil (asTup_mk (k H .refl ?_))
    rw [show srtI [] = [] from List.mergeSort_nil]
    exact .inl ⟨rfl, h1⟩
  · have hn : n = l.length := by simpa using h4.symm
    subst hn
    refine pdqI_ok h3 hl fun G S b1 oS sS hS => asTup_mk ?_
    have e : S = srtI l := srtI_eq ((SortedIn.pairs (by rw [sS.len]; exact hS)).imp fun h => by unfold LeC cI at h; omega) sS.perm
    rw [e] at oS
    refine k G b1.mod (.inr ⟨b, l.length, hb, rfl, oS, by simp [← e, sS.len]⟩)
/- Contracts: colourings of matchings, the program's way. -/
set_option linter.unusedVariables false
set_option linter.unusedSimpArgs false
set_option maxRecDepth 100000
namespace Go.Proofs
open Go.Abs

variable {H G : AHeap} {v u f : Value} {l m c D : List Int} {es fs : List (Int × Int)} {K : Value → AHeap → Prop} {cs : List (List Int)}

end Go.Proofs
/- Contracts: CyclesLeft, both sides. -/
set_option linter.unusedVariables false
set_option linter.unusedSimpArgs false
set_option maxRecDepth 100000
namespace Go.Proofs
open Go.Abs

variable {H G : AHeap} {v u f : Value} {l m c D S : List Int} {es fs : List (Int × Int)} {K : Value → AHeap → Prop} {cs : List (List Int)}

theorem cut_hi {b i : Nat} {K : Value → Prop} (o : Own H b 2 (LI S)) (hi : i ≤ S.length) (k : ∀ v', Ints H v' (S.take i) → K v') : sliceK H 2 (.slice (some ⟨b, 0, none⟩) S.length (S.length + 1)) none (some (.int .i64 (i : Int))) 1 K := by
  refine ⟨⟨_, _, o, by simp⟩, by simp, by simp, by simp; omega, ?_⟩
  refine k _ (.inr ⟨_, _, by simp [Nat.min_eq_left hi]; exact ⟨rfl, rfl⟩, .inr ⟨rfl, fun q x hx => ?_⟩⟩)
  rw [cell_own o]
  have := List.getElem?_eq_some_iff.1 hx
  obtain ⟨hq, he⟩ := this
  rw [List.length_take] at hq
  rw [List.getElem_take] at he
  show (LI S)[0 + 0 * 1 + q]? = _
  rw [show 0 + 0 * 1 + q = q by omega, LI_get, List.getElem?_eq_getElem (by omega), he]; rfl
theorem cut_lo {b i : Nat} {K : Value → Prop} (o : Own H b 2 (LI S)) (hi : i ≤ S.length) (k : ∀ v', Ints H v' (S.drop i) → K v') : sliceK H 2 (.slice (some ⟨b, 0, none⟩) S.length (S.length + 1)) (some (.int .i64 (i : Int))) none 1 K := by
  refine ⟨⟨_, _, o, by simp⟩, by simp, by simp; omega, by simp, ?_⟩
  refine k _ (.inr ⟨_, _, by simp; exact ⟨rfl, rfl⟩, .inr ⟨rfl, fun q x hx => ?_⟩⟩)
  rw [cell_own o]
  have := List.getElem?_eq_some_iff.1 hx
  obtain ⟨hq, he⟩ := this
  rw [List.length_drop] at hq
  rw [List.getElem_drop] at he
  show (LI S)[i + q]? = _
  rw [LI_get, List.getElem?_eq_getElem (by omega), he]; rfl
noncomputable def clCode (n : Int) (es : List (Int × Int)) (l : List Int) : Int := if IsG n es then (if IsM n es l then 0 else 2) else 1
noncomputable def clList (n : Int) (es : List (Int × Int)) (l : List Int) : List Int := if clCode n es l = 0 then srtI ((lensTo es (leftP l) es.length).map Int.ofNat) else []
theorem clList_small {n : Int} (hl : es.length ≤ 1048576) : (clList n es l).length ≤ 1048576 := by
  unfold clList
  split
  · unfold srtI
    rw [(List.mergeSort_perm _ _).length_eq, List.length_map]
    exact Nat.le_trans (lensTo_length _ _ _) hl
  · simp
theorem fresh_ne {m0 : Nat} {x : Int} {l1 l2 : List Int} (h : Fresh m0 H v 2 1 (LI l)) (hl : 0 < l.length) : ∃ b, m0 ≤ b ∧ v = .slice (some ⟨b, 0, none⟩) l.length (l.length + 1) ∧ Own H b 2 (LI l) := by
  rcases h with ⟨h0, _⟩ | ⟨b, n, hb, rfl, h3, h4⟩
  · have := congrArg List.length h0; simp at this; subst this; simp at hl
  · have hn : n = l.length := by simpa using h4.symm
    subst hn
    exact ⟨b, hb, rfl, h3⟩

/-- The cycles' edges, one cycle behind the other. -/
noncomputable def flatC (es : List (Int × Int)) (p : Nat → Bool) : Nat → List Int
  | 0 => []
  | k + 1 => flatC es p k ++ if p k = true ∧ cLeadB es p k = true then compL es p k else []
theorem flatC_length {p : Nat → Bool} : ∀ k, (flatC es p k).length = (lensTo es p k).sum
  | 0 => rfl
  | k + 1 => by
    rw [flatC, lensTo, List.length_append, flatC_length k, List.sum_append]
    split <;> simp
theorem flatC_all {p : Nat → Bool} : ∀ k, k ≤ es.length → (flatC es p k).Nodup ∧ ∀ x ∈ flatC es p k, ∃ j : Nat, x = j ∧ j < es.length ∧ ETo es p k j
  | 0, _ => ⟨List.nodup_nil, fun x hx => by cases hx⟩
  | k + 1, hk => by
    obtain ⟨h1, h2⟩ := flatC_all (p := p) k (by omega)
    rw [flatC]
    by_cases h : p k = true ∧ cLeadB es p k = true
    · rw [if_pos h]
      have hin : ∀ {j : Nat}, Rch (eAdj es p) k j → p j = true := fun hr => (eRch_in hr ⟨by omega, h.1⟩).2
      refine ⟨List.nodup_append.2 ⟨h1, filtB_nodup _ _, fun a ha b hb hab => ?_⟩, fun x hx => ?_⟩
      · subst hab
        obtain ⟨j, rfl, j1, j2, i, i1, i2, i3⟩ := h2 a ha
        obtain ⟨j', e, _, hr⟩ := mem_compL.1 hb
        obtain rfl : j = j' := by omega
        exact (cLeadB_iff.1 h.2) i i1 i2 (i3.trans (eRch_symm hr ⟨by omega, h.1⟩))
      · rcases List.mem_append.1 hx with hx | hx
        · obtain ⟨j, e, j1, j2⟩ := h2 x hx
          exact ⟨j, e, j1, ETo.succ.2 (.inl j2)⟩
        · obtain ⟨j, e, j1, hr⟩ := mem_compL.1 hx
          exact ⟨j, e, j1, ETo.succ.2 (.inr ⟨h.1, hin hr, hr⟩)⟩
    · rw [if_neg h, List.append_nil]
      exact ⟨h1, fun x hx => by obtain ⟨j, e, j1, j2⟩ := h2 x hx; exact ⟨j, e, j1, ETo.succ.2 (.inl j2)⟩⟩
theorem filtB_both (S : Nat → Bool) : ∀ k, (filtB S k).length + (filtB (fun j => !S j) k).length = k
  | 0 => rfl
  | k + 1 => by
    have ih := filtB_both S k
    rw [filtB_succ, filtB_succ, List.length_append, List.length_append]
    cases S k <;> simp <;> omega
theorem two_each {L : List Nat} (h : ∀ x ∈ L, 2 ≤ x) : 2 * L.length ≤ L.sum := by
  induction L with
  | nil => simp
  | cons a L ih =>
    have := ih fun x hx => h x (by simp [hx])
    have := h a (by simp)
    simp; omega
theorem comp_two {n : Int} {p : Nat → Bool} {e : Nat} (hg : IsG n es) (h2 : Deg2 n es p) (he : e < es.length) (hpe : p e = true) : 2 ≤ (compL es p e).length := by
  have hW0 := wk_walk2 hg h2 he hpe 0 (by omega)
  obtain ⟨q, q1, q2, q3, q4⟩ := other_left (now := (wk es p e 0).1) (h2 _ hW0.vn (degB_pos hW0.lt hW0.pn hW0.onv)) hW0.lt
  have q3 : q ≠ e := q3
  have := nodup_sub (l := [((e : Nat) : Int), (q : Int)]) (m := compL es p e) (by simp; omega) fun x hx => by
    simp only [List.mem_cons, List.not_mem_nil, or_false] at hx
    rcases hx with rfl | rfl
    · exact mem_compL.2 ⟨e, rfl, he, .refl⟩
    · exact mem_compL.2 ⟨q, rfl, q1, .step .refl ⟨q1, q2, _, hW0.onv, q4⟩⟩
  simpa using this
theorem lensTo_two {n : Int} {p : Nat → Bool} (hg : IsG n es) (h2 : Deg2 n es p) : ∀ k, k ≤ es.length → ∀ x ∈ lensTo es p k, 2 ≤ x
  | 0, _, x, hx => by cases hx
  | k + 1, hk, x, hx => by
    rw [lensTo, List.mem_append] at hx
    rcases hx with hx | hx
    · exact lensTo_two hg h2 k (by omega) x hx
    · by_cases h : p k = true ∧ cLeadB es p k = true
      · rw [if_pos h, List.mem_singleton] at hx
        rw [hx]; exact comp_two hg h2 (by omega) h.1
      · rw [if_neg h] at hx; cases hx
theorem lens_few {n : Int} (hg : IsG n es) (hS : IsS l es.length) (ho : OneAt n es l) (hl : 2 * (l.length : Int) = n) : (lensTo es (leftP l) es.length).length ≤ 12 := by
  have n1 := hg.ed.hi
  have hlen := hg.ed.len
  obtain ⟨h1, h2⟩ := flatC_all (es := es) (p := leftP l) es.length (Nat.le_refl _)
  have h3 := two_each (lensTo_two hg (fun x hx _ => left_deg hg hS ho hx) es.length (Nat.le_refl _))
  rw [← flatC_length] at h3
  have h4 := nodup_sub h1 (m := filtB (leftP l) es.length) fun x hx => by
    obtain ⟨j, e, j1, j2, _⟩ := h2 x hx
    exact mem_filtB.2 ⟨j, e, j1, j2⟩
  have h5 := filtB_both (bitB l) es.length
  rw [← hS.filt] at h5
  have h6 : (filtB (leftP l) es.length).length = (filtB (fun j => !bitB l j) es.length).length := rfl
  omega
theorem specLeft_ok {n : Int} (h : Edges H v es) (hl : es.length ≤ 1048576) (hc : Ints H u l) (hcl : l.length ≤ 1048576)
    (k : ∀ v' G, H.le G → Fresh H.length G v' 2 1 (LI (clList n es l)) → K (.tuple ⟨[v', .int .i64 (clCode n es l)]⟩) G) : AC Try.prog T0 26 [.agg ⟨[.int .i64 n, v]⟩, u] H K := by
  apply F26.ac
  unfold F26.B16
  refine newK_f (all_iv (edges_one' h)) fun H1 l1 _ o1 => ?_
  unfold F26.B15
  refine ldI_own o1 rfl (ld1_own o1 rfl (l04Code_ok (h.le l1) hl (hc.le l1) hcl fun H2 l2 => asI_mk ?_))
  have l12 := AHeap.le_trans l1 l2
  have o2 := o1.le l2
  unfold F26.B14
  by_cases hok : IsG n es ∧ IsM n es l
  rotate_left
  · have hne : (if IsG n es then (if IsM n es l then 0 else 2) else 1 : Int) = clCode n es l ∧ clCode n es l ≠ 0 := by
      unfold clCode
      by_cases hg : IsG n es
      · have hm : ¬ IsM n es l := fun hm => hok ⟨hg, hm⟩
        rw [if_pos hg, if_neg hm]; exact ⟨rfl, by decide⟩
      · rw [if_neg hg]; exact ⟨rfl, by decide⟩
    rw [hne.1]
    refine pif_t (bne_iff_ne.2 hne.2) ?_
    unfold F26.B13
    have k := k (.slice none 0 0) _ l12
    unfold clList at k
    rw [if_neg hne.2] at k
    exact k (.inl ⟨rfl, .inl rfl⟩)
  obtain ⟨hg, hm⟩ := hok
  rw [if_pos hg, if_pos hm]
  refine pif_f rfl ?_
  have e0 : clCode n es l = 0 := by unfold clCode; rw [if_pos hg, if_pos hm]
  have n0 := hg.ed.lo; have n1 := hg.ed.hi
  have h30 : es.length ≤ 30 := by have := hg.ed.len; omega
  have hS := hm.set
  have ho := isM_one hg hm
  unfold F26.B12
  refine ldI_own o2 rfl (ld1_own o2 rfl (l04Cycles_ok (h.le l12) hg (hc.le l12) hS ho fun w G0 cs lG0 hR hcs => newK_f rfl fun G1 l1' n1' o1' => ?_))
  have hcl2 : cs.length ≤ 30 := by
    have := congrArg List.length hcs
    rw [List.length_map] at this
    have := lensTo_length es (leftP l) es.length
    omega
  have lG1 := AHeap.le_trans lG0 l1'
  have hR1 := hR.le l1'
  unfold F26.B11 F26.L2
  refine ⟨fun x7 x8 x9 G => w = x7 ∧ G0.le G ∧ ∃ (i bo : Nat) (S : List Int), x9 = i ∧ i ≤ cs.length ∧ G0.length ≤ bo ∧ x8 = .slice (some ⟨bo, 0, none⟩) S.length (S.length + 1) ∧ Own G bo 2 (LI S) ∧ (S.Pairwise fun a b => a ≤ b) ∧ S.Perm ((cs.take i).map fun c => (c.length : Int)),
    fun _ _ x9 _ => cs.length - x9.toNat, ⟨rfl, l1', 0, G0.length, [], rfl, by omega, Nat.le_refl _, rfl, o1', List.Pairwise.nil, by simp⟩, ?_⟩
  clear l1' n1' o1' lG1 hR1
  rintro x7 x8 x9 G ⟨rfl, lG, i, bo, S, rfl, hi, hbo, rfl, oS, sS, pS⟩
  have hRG := hR.le lG
  have hSl : S.length = i := by have := pS.length_eq; rw [List.length_map, List.length_take] at this; omega
  unfold F26.B10
  refine hRG.len (pif_cases (fun hb => ?_) fun hb => ?_)
  · have hil : i < cs.length := by have := of_decide_eq_true hb; omega
    unfold F26.B9
    refine hRG.row hil fun q hq => hq.ints.len (lenK_of ?_)
    obtain ⟨x, hx⟩ : ∃ x : Nat, x = (cs.getD i []).length := ⟨_, rfl⟩
    rw [← hx]
    unfold F26.L6
    refine ⟨fun x7 x8 x9 x10 x11 G' => w = x7 ∧ .slice (some ⟨bo, 0, none⟩) S.length (S.length + 1) = x8 ∧ (i : Int) = x9 ∧ (x : Int) = x10 ∧ G = G' ∧ ∃ j : Nat, x11 = j ∧ j ≤ S.length ∧ ∀ q, j ≤ q → q < S.length → (x : Int) < S.getD q 0,
      fun _ _ _ _ x11 _ => x11.toNat, ⟨rfl, rfl, rfl, rfl, rfl, S.length, rfl, Nat.le_refl _, fun q h1 h2 => by omega⟩, ?_⟩
    rintro x7 x8 x9 x10 x11 G' ⟨rfl, rfl, rfl, rfl, rfl, j, rfl, hj, hgt⟩
    have next : (j = 0 ∨ S.getD (j - 1) 0 ≤ (x : Int)) → ∀ N2 : Value → Value → Int → AHeap → Prop, (∀ x8 G', G0.le G' → (∃ (bo : Nat) (S' : List Int), G0.length ≤ bo ∧ x8 = (.slice (some ⟨bo, 0, none⟩) S'.length (S'.length + 1) : Value) ∧ Own G' bo 2 (LI S') ∧ (S'.Pairwise fun a b => a ≤ b) ∧ S'.Perm ((cs.take (i + 1)).map fun c => (c.length : Int))) → N2 w x8 ((i : Int) + 1) G') → F26.B5 K N2 w (.slice (some ⟨bo, 0, none⟩) S.length (S.length + 1)) i x j G := by
      intro hst N2 hN
      unfold F26.B5
      refine newK_f rfl fun G1 l1' n1' o1' => cut_lo (oS.le l1') hj fun q1 hq1 => ?_
      have big : ∀ v4 G2, G.le G2 → Fresh G.length G2 v4 2 1 (LI ([(x : Int)] ++ S.drop j)) → F26.B4 K N2 w (.slice (some ⟨bo, 0, none⟩) S.length (S.length + 1)) i j v4 G2 := by
        intro v4 G2 l2' f2
        unfold F26.B4
        refine cut_hi (oS.le l2') hj fun q2 hq2 => l01Own_ok hq2 (by rw [List.length_take]; omega) fun v5 G3 l3' f3 => ?_
        have f2' := f2.le l3'
        refine Sl.app (m := G2.length) E_int (by decide) f3.sl l3'.1 (ints_cells f2'.ints) (by simp; omega) (fun h0 => by simp at h0) fun v6 G4 k4 _ _ f4 => ?_
        unfold F26.B3
        rw [wrap_id (by omega) (by omega)]
        have l24 := k4.le l3' (Nat.le_refl _)
        have lG4 := AHeap.le_trans (AHeap.le_trans lG l2') l24
        have f4 : Fresh G2.length G4 v6 2 1 (LI (S.take j ++ ([(x : Int)] ++ S.drop j))) := by
          have e : LI (S.take j ++ ([(x : Int)] ++ S.drop j)) = LI (S.take j) ++ LI ([(x : Int)] ++ S.drop j) := List.map_append
          rw [e]; exact f4
        obtain ⟨b4, hb4, rfl, o4⟩ := fresh_ne (x := 0) (l1 := []) (l2 := []) f4 (by simp; omega)
        refine hN _ G4 lG4 ⟨b4, _, by have := (AHeap.le_trans lG l2').1; omega, rfl, o4, insI_sorted sS hj hgt hst, insI_perm.trans ?_⟩
        rw [List.take_succ_eq_append_getElem hil, List.map_append, List.map_singleton]
        have : ((cs[i].length : Nat) : Int) = x := by rw [hx, getD_of hil]
        rw [this]
        exact pS.append_right _
      have ob : Sl G.length G1 (.slice (some ⟨G.length, 0, none⟩) 1 (1 + 1)) 2 1 (LI [(x : Int)]) := Fresh.sl (.inr ⟨_, 1, Nat.le_refl _, rfl, o1', rfl⟩)
      refine Sl.app E_int (by decide) ob l1'.1 (ints_cells hq1) (by simp; omega) (fun h0 => ?_) fun v4 G2 k2 _ _ f2 => ?_
      · have hd : S.drop j = [] := List.map_eq_nil_iff.1 h0
        refine big _ G1 l1' ?_
        rw [hd]
        exact .inr ⟨_, 1, Nat.le_refl _, rfl, o1', rfl⟩
      · refine big _ G2 (k2.le l1' (Nat.le_refl _)) ?_
        have e : LI ([(x : Int)] ++ S.drop j) = LI [(x : Int)] ++ LI (S.drop j) := List.map_append
        rw [e]; exact f2
    have fin : ∀ x8 G', G0.le G' → (∃ (bo : Nat) (S' : List Int), G0.length ≤ bo ∧ x8 = (.slice (some ⟨bo, 0, none⟩) S'.length (S'.length + 1) : Value) ∧ Own G' bo 2 (LI S') ∧ (S'.Pairwise fun a b => a ≤ b) ∧ S'.Perm ((cs.take (i + 1)).map fun c => (c.length : Int))) →
        (w = w ∧ G0.le G' ∧ ∃ (i' bo : Nat) (S : List Int), ((i : Int) + 1) = i' ∧ i' ≤ cs.length ∧ G0.length ≤ bo ∧ x8 = (.slice (some ⟨bo, 0, none⟩) S.length (S.length + 1) : Value) ∧ Own G' bo 2 (LI S) ∧ (S.Pairwise fun a b => a ≤ b) ∧ S.Perm ((cs.take i').map fun c => (c.length : Int))) ∧ cs.length - ((i : Int) + 1).toNat < cs.length - (i : Int).toNat := by
      rintro x8 G' lG' ⟨bo, S', h1, h2, h3, h4, h5⟩
      exact ⟨⟨rfl, lG', i + 1, bo, S', by omega, by omega, h1, h2, h3, h4, h5⟩, by omega⟩
    unfold F26.B8
    refine pif_cases (fun hb => ?_) fun hb => ?_
    · have hj0 : 0 < j := by have := of_decide_eq_true hb; omega
      rw [show ((j : Int) - 1) = ((j - 1 : Nat) : Int) by omega, wrap_id (by omega) (by omega)]
      refine (own_ints oS).rd (by omega) (by omega) (pif_cases (fun hb => ?_) fun hb => ?_)
      · have hb := of_decide_eq_true hb
        rw [Int.toNat_natCast] at hb
        unfold F26.B7
        rw [show ((j : Int) - 1) = ((j - 1 : Nat) : Int) by omega, wrap_id (by omega) (by omega)]
        refine ⟨⟨rfl, rfl, rfl, rfl, rfl, j - 1, rfl, by omega, fun q h1 h2 => ?_⟩, ?_⟩
        · by_cases e : q = j - 1
          · subst e; exact hb
          · exact hgt q (by omega) h2
        · show ((j - 1 : Nat) : Int).toNat < ((j : Nat) : Int).toNat
          omega
      · have hb := of_decide_eq_false hb
        rw [Int.toNat_natCast] at hb
        exact next (.inr (by omega)) _ fin
    · exact next (.inl (by have := of_decide_eq_false hb; omega)) _ fin
  · have hil : i = cs.length := by have := of_decide_eq_false hb; omega
    subst hil
    unfold F26.B1
    have hl12 := l12.1
    have k := k (.slice (some ⟨bo, 0, none⟩) S.length (S.length + 1)) G (AHeap.le_trans (AHeap.le_trans l12 lG0) lG)
    unfold clList at k
    rw [e0, if_pos rfl] at k
    refine k (.inr ⟨bo, S.length, by have := (AHeap.le_trans l12 lG0).1; omega, rfl, ?_, ?_⟩)
    all_goals
      have hcs2 : (lensTo es (leftP l) es.length).map Int.ofNat = cs.map fun c => (c.length : Int) := by rw [← hcs, List.map_map]; rfl
      have e : S = srtI ((lensTo es (leftP l) es.length).map Int.ofNat) := srtI_eq sS (by rw [hcs2]; rw [List.take_length] at pS; exact pS)
      rw [← e]
    · exact oS
    · simp
theorem implLeft_ok {n : Int} (h : Edges H v es) (hl : es.length ≤ 1048576) (hc : Ints H u l) (hcl : l.length ≤ 1048576)
    (k : ∀ v' G, H.le G → Fresh H.length G v' 2 1 (LI (clList n es l)) → K (.tuple ⟨[v', .int .i64 (clCode n es l)]⟩) G) : AC Try.prog T0 27 [.agg ⟨[.int .i64 n, v]⟩, u] H K := by
  apply F27.ac
  unfold F27.B13
  refine newK_f (all_iv (edges_one' h)) fun H1 l1 _ o1 => ?_
  unfold F27.B12
  refine ldI_own o1 rfl (ld1_own o1 rfl (ldI_own o1 rfl (ld1_own o1 rfl (isMatching2_ok (h.le l1) hl (hc.le l1) hcl fun b H2 l2 hb => asB_mk ⟨l2, graphCode_ok (b := b) (h.le (AHeap.le_trans l1 l2)) hl fun H3 l3 => asI_mk ?_⟩))))
  have l13 := AHeap.le_trans (AHeap.le_trans l1 l2) l3
  have o3 := (o1.le l2).le l3
  unfold F27.B11
  by_cases hok : IsG n es ∧ IsM n es l
  rotate_left
  · have hne : (if IsG n es then (if b then 0 else 2) else 1 : Int) = clCode n es l ∧ clCode n es l ≠ 0 := by
      unfold clCode
      by_cases hg : IsG n es
      · have hm : ¬ IsM n es l := fun hm => hok ⟨hg, hm⟩
        have hbf : b = false := by rw [hb hg]; exact decide_eq_false hm
        rw [if_pos hg, if_pos hg, if_neg hm, hbf]; exact ⟨rfl, by decide⟩
      · rw [if_neg hg, if_neg hg]; exact ⟨rfl, by decide⟩
    rw [hne.1]
    refine pif_t (bne_iff_ne.2 hne.2) ?_
    unfold F27.B10
    have k := k (.slice none 0 0) _ l13
    unfold clList at k
    rw [if_neg hne.2] at k
    exact k (.inl ⟨rfl, .inl rfl⟩)
  obtain ⟨hg, hm⟩ := hok
  have hbt : b = true := by rw [hb hg]; exact decide_eq_true hm
  rw [if_pos hg, hbt]
  refine pif_f rfl ?_
  have n0 := hg.ed.lo; have n1 := hg.ed.hi
  have h30 : es.length ≤ 30 := by have := hg.ed.len; omega
  have hS := hm.set
  have ho := isM_one hg hm
  have e0 : clCode n es l = 0 := by unfold clCode; rw [if_pos hg, if_pos hm]
  unfold F27.B9 F27.B8
  refine ldI_own o3 rfl (ld1_own o3 rfl (setOf_ok (hc.le l13) (by omega) (fun x hx => by have := hS.range x hx; omega) (asI_mk ⟨AHeap.le_refl _, ?_⟩)))
  refine left_ok (h.le l13) hg hS fun w G0 Z lG0 fZ hZ hz64 => ?_
  have hZl : Z.length ≤ 12 := by
    have := lens_few hg hS ho hm.len
    rw [← hZ, List.length_map] at this; exact this
  refine fZ.sl.len (by decide) (n := Z.length) (by simp) ?_
  have lG := AHeap.le_trans l13 lG0
  unfold F27.L3
  refine ⟨fun x7 x21 x22 x23 G => w = x21 ∧ (Z.length : Int) = x22 ∧ G0.le G ∧ ∃ i : Nat, x23 = i ∧ i ≤ Z.length ∧ Fresh G0.length G x7 2 1 (LI ((Z.take i).map fun z => ((popc z 64 : Nat) : Int))), fun _ _ _ x23 _ => Z.length - x23.toNat, ⟨rfl, rfl, AHeap.le_refl _, 0, rfl, by omega, .inl ⟨rfl, .inl rfl⟩⟩, ?_⟩
  rintro x7 x21 x22 x23 G ⟨rfl, rfl, lG', i, rfl, hi, f7⟩
  have fZ := fZ.le lG'
  unfold F27.B7
  refine pif_cases (fun hb => ?_) fun hb => ?_
  · have hil : i < Z.length := by have := of_decide_eq_true hb; omega
    unfold F27.B6
    refine Sl_rdI fZ.sl (by omega) (by simp; omega) (by rw [Int.toNat_natCast]; exact LU_get hil) ?_
    rw [getD_of hil]
    unfold F27.B5
    refine size_ok (hz64 _ (List.getElem_mem hil)) (asI_mk ?_)
    refine push_int f7 lG' (by simp; omega) fun v' G2 l2' f2 _ => ?_
    unfold F27.B4
    rw [wrap_id (by omega) (by omega)]
    refine ⟨⟨rfl, rfl, l2', i + 1, by omega, by omega, ?_⟩, by show Z.length - ((i : Int) + 1).toNat < Z.length - (i : Int).toNat; omega⟩
    rw [List.take_succ_eq_append_getElem hil, List.map_append, List.map_singleton]; exact f2
  · have hil : i = Z.length := by have := of_decide_eq_false hb; omega
    subst hil
    rw [List.take_length] at f7
    unfold F27.B2
    refine sortI_ok f7 (by simp; omega) fun G2 m2 f2 => asTup_mk ?_
    unfold F27.B1
    have hl0 := lG.1
    have k := k x7 G2 (m2.le f7 hl0 (AHeap.le_trans lG lG'))
    unfold clList at k
    rw [e0, if_pos rfl, ← hZ, List.map_map] at k
    exact k (f2.less hl0)
end Go.Proofs
/- The law of CyclesLeft. -/
set_option linter.unusedVariables false
set_option linter.unusedSimpArgs false
set_option maxRecDepth 100000
namespace Go.Proofs
open Go.Abs

theorem cyclesLeft_law (H : AHeap) (vs : List Value) (hv : AVs T0 H [24, 25] vs) : AC Try.prog T0 6 vs H (fun v _ => v = .bool true) := by
  obtain ⟨v0, vs, rfl, a0, v1, vs, rfl, a1, rfl⟩ := hv
  obtain ⟨n0, ve0, es0, rfl, he0, hel0⟩ := av_graph a0
  obtain ⟨ls1, he1, hel1, _⟩ := av_ints a1
  apply F6.ac
  unfold F6.B40
  refine newK_f (all_iv (edges_one' he0)) fun H1 l1 n1 o1 => ?_
  have he0 := he0.le l1; have he1 := he1.le l1
  unfold F6.B39
  refine he1.len (pif_cases (fun _ => by unfold F6.B38; rfl) fun hs => ?_)
  have s1 : ls1.length ≤ 1048576 := by have := of_decide_eq_false hs; omega
  unfold F6.B37 F6.B36
  refine ldI_own o1 rfl (ld1_own o1 rfl (szGraph_ok he0 hel0 (by decide) (by decide) (edges_one' he0) fun H2 l2 => asI_mk ?_))
  have he0 := he0.le l2; have he1 := he1.le l2; have o1 := o1.le l2
  unfold F6.B35
  refine pif_cases (fun _ => by unfold F6.B34; rfl) fun hs => ?_
  have s0 : es0.length ≤ 1048576 := by
    have := of_decide_eq_false hs
    split at this <;> omega
  -- the reference
  unfold F6.B33
  refine ldI_own o1 rfl (ld1_own o1 rfl (toGraph_ok he0 (by omega) fun p0 H3 l3 fp0 => agg2_mk (asI_mk ?_)))
  have he0 := he0.le l3; have he1 := he1.le l3; have o1 := o1.le l3
  refine toInt64S_ok he1 (by omega) fun p1 H4 l4 fp1 => ?_
  have he0 := he0.le l4; have he1 := he1.le l4; have o1 := o1.le l4; have fp0 := fp0.le l4
  refine specLeft_ok fp0.edges s0 fp1.ints s1 fun w H5 l5 fw => tup2_mk (asI_mk ?_)
  have he0 := he0.le l5; have he1 := he1.le l5; have o1 := o1.le l5; have fp0 := fp0.le l5; have fp1 := fp1.le l5
  have he0_ := he0
  have he1_ := he1
  have o1_ := o1
  have hw := fw.ints
  have hw_ := hw
  have hwl : (clList n0 es0 ls1).length ≤ 1048576 := by exact clList_small s0
  have cw := AHeap.le_refl H5
  -- the program
  unfold F6.B32
  refine ldI_own o1 rfl (ld1_own o1 rfl (toGraph_ok he0 (by omega) fun x0 H6 l6 f0 => agg2_mk (asI_mk ?_)))
  have e7 : x0.oneCell' = true := edges_one' f0.edges
  refine newK_f rfl fun H7 l7 n7 o0 => stK_f o0 (by simp) (mem_iv e7) rfl fun H8 b0 o9 => ?_
  have l8 : H5.le H8 := b0.le (AHeap.le_trans l6 l7) l6.1
  have fx0 : Fresh H5.length H8 x0 67 2 (LE es0) := by
    rcases f0 with f0 | ⟨c, k, q1, q2, q3, q4⟩
    · exact .inl f0
    · exact .inr ⟨c, k, q1, q2, b0.own (l7.2 _ _ q3) (by have := lt_of_get q3; omega), q4⟩
  have g0 : ∀ c k, x0 = .slice (some ⟨c, 0, none⟩) k (k + 1) → c < H8.length := fun c k e => (fx0.lt e).2
  have d0 := l8.1
  have he0 := he0.le l8; have he1 := he1.le l8; have o1 := o1.le l8; have hw := hw.le l8
  have cw := AHeap.le_trans cw l8
  unfold F6.B31
  refine toInt64S_ok he1 (by omega) fun x1 H9 l9 fx1 => ?_
  have g1 : ∀ c k, x1 = .slice (some ⟨c, 0, none⟩) k (k + 1) → c < H9.length := fun c k e => (fx1.lt e).2
  have d1 := l9.1
  have he0 := he0.le l9; have he1 := he1.le l9; have o1 := o1.le l9; have hw := hw.le l9; have o9 := o9.le l9; have fx0 := fx0.le l9
  have cw := AHeap.le_trans cw l9
  unfold F6.B30
  refine ldI_own o9 rfl (ld1_own o9 rfl (implLeft_ok fx0.edges s0 fx1.ints s1 fun g H10 l10 fg => tup2_mk (asI_mk ?_)))
  have dg := l10.1
  have he0 := he0.le l10; have he1 := he1.le l10; have o1 := o1.le l10; have hw := hw.le l10; have o9 := o9.le l10; have fx0 := fx0.le l10; have fx1 := fx1.le l10
  have cw := AHeap.le_trans cw l10
  -- the same answer
  unfold F6.B29
  refine eqInt64S_ok fg.ints hw (by omega) (asB_mk (pif_f (by simp) (pif_f (by simp) ?_)))
  unfold F6.B27
  refine ldI_own o9 rfl (ld1_own o9 rfl (ldI_own o1 rfl (ld1_own o1 rfl (toGraph_ok he0 (by omega) fun y0 H11 l11 fy => agg2_mk (asI_mk ⟨l11, eqGraph_ok (fx0.edges.le l11) fy.edges (by omega) fun H12 l12 => asB_mk (pif_f (by simp) ?_)⟩)))))
  have l12 := AHeap.le_trans l11 l12
  have he0 := he0.le l12; have he1 := he1.le l12; have o1 := o1.le l12; have hw := hw.le l12; have o9 := o9.le l12; have fx0 := fx0.le l12; have fx1 := fx1.le l12; have fg := fg.le l12
  have cw := AHeap.le_trans cw l12
  unfold F6.B25
  refine toInt64S_ok he1 (by omega) fun y1 H13 l13 fy => eqInt64S_ok (fx1.ints.le l13) fy.ints (by omega) (asB_mk (pif_f (by simp) ?_))
  have he0 := he0.le l13; have he1 := he1.le l13; have o1 := o1.le l13; have hw := hw.le l13; have o9 := o9.le l13; have fx0 := fx0.le l13; have fx1 := fx1.le l13; have fg := fg.le l13
  have cw := AHeap.le_trans cw l13
  -- the marks
  unfold F6.B23 F6.B22
  refine ldI_own o9 rfl (ld1_own o9 rfl (markGraph_ok (by decide) (by omega) fx0 fun M0 m0 => asI_mk ?_))
  have lm0 := m0.le fx0 (by omega) cw
  have fx1 := m0.keep (m := H8.length) (fun c k e => by have := g0 c k e; omega) fx1
  have fg := m0.keep (m := H9.length) (fun c k e => by have := g0 c k e; omega) fg
  unfold F6.B21
  refine markInt64S_ok (by omega) (by omega) fx1 fun M1 m1 _ => asI_mk ?_
  have lm1 := m1.le fx1 (by omega) lm0
  have fg := m1.keep (m := H9.length) (fun c k e => by have := g1 c k e; omega) fg
  unfold F6.B20
  refine pif_f (decide_eq_false (by omega)) (eqInt64S_ok fg.ints (hw_.le lm1) (by omega) (asB_mk (pif_f (by simp) (pif_f (by simp) ?_))))
  -- the second answer
  unfold F6.B18 F6.B17
  refine markInt64S_ok (by decide) (by omega) fg fun M m fg' => asI_mk ?_
  have lm := m.le fg (by omega) lm1
  have fg := fg'
  have hm := marks_length 1 (clList n0 es0 ls1).length
  unfold F6.B16 F6.B15
  refine heldInt64S_ok (by decide) (by omega) fg.ints (by rw [hm]) (asI_mk ?_)
  unfold F6.B14
  refine pif_f (decide_eq_false (by omega)) ?_
  unfold F6.B12
  refine pif_f (by rw [hm]; simp) ?_
  unfold F6.B10
  have he0 := he0_.le lm
  have he1 := he1_.le lm
  have o1 := o1_.le lm
  have hw := hw_.le lm
  refine ldI_own o1 rfl (ld1_own o1 rfl (toGraph_ok he0 (by omega) fun z0 H15 l15 fz0 => agg2_mk (asI_mk ?_)))
  have he0 := he0.le l15; have he1 := he1.le l15; have o1 := o1.le l15; have fg := fg.le l15; have hw := hw.le l15
  refine toInt64S_ok he1 (by omega) fun z1 H16 l16 fz1 => ?_
  have he0 := he0.le l16; have he1 := he1.le l16; have o1 := o1.le l16; have fg := fg.le l16; have hw := hw.le l16; have fz0 := fz0.le l16
  refine implLeft_ok fz0.edges s0 fz1.ints s1 fun h H17 l17 fh => tup2_mk (asI_mk ?_)
  have fg := fg.le l17; have hw := hw.le l17
  unfold F6.B9
  refine eqInt64S_ok fh.ints hw (by omega) (asB_mk (pif_f (by simp) (pif_f (by simp) ?_)))
  unfold F6.B7 F6.B6
  refine heldInt64S_ok (by decide) (by omega) fg.ints (by rw [hm]) (asI_mk ?_)
  unfold F6.B5
  refine pif_f (decide_eq_false (by omega)) ?_
  unfold F6.B3
  refine pif_f (by rw [hm]; simp) ?_
  unfold F6.B1
  rfl
end Go.Proofs
