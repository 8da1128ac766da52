/- Contracts: whether the rest can have colours, the reference's way. -/
import Derived.Test.YtfcflpcmjlbedabU8
import Derived.Test.YtfcflpcmjlbedabU12
import Derived.Test.YtfcflpcmjlbedabU13
import Derived.Test.YtfcflpcmjlbedabM14
set_option linter.unusedVariables false
set_option linter.unusedSimpArgs false
set_option maxRecDepth 100000
namespace Go.Proofs
open Go.Abs

variable {H G : AHeap} {v u f : Value} {l m c D : List Int} {es fs : List (Int × Int)} {K : Value → AHeap → Prop}

theorem push_row {H0 : AHeap} {b1 : Nat} {x : Int} (hF : Fresh H0.length H v 2 1 (LI l)) (h0 : H0.le H) (o : Own H b1 2 [.int .i64 x]) (hs : l.length < 4294967296)
    (k : ∀ v' G, H0.le G → Fresh H0.length G v' 2 1 (LI (l ++ [x])) → K v' G) : apK T0 2 H v (Value.slice (some ⟨b1, 0, none⟩) 1 (1 + 1)) K := by
  obtain ⟨t1, t2, t3, t4⟩ := T0_int
  rw [← t2] at hF
  refine Fresh.push (n := 1) (ys := [.int .i64 x]) t1 (by omega) (by omega) t4 hF h0 ?_ (by decide) (by simp; omega) ?_
  · rw [t2]; exact cellsAt_row o (by simp)
  · intro v' G hG hf hk
    rw [t2] at hf
    exact k v' G hG (by simpa using hf)
theorem fits_clash {x : Int} : decide (Fits es (c ++ [x]) c.length x) = !clashB es c c.length x := by
  rw [Bool.eq_iff_iff, decide_eq_true_iff, Bool.not_eq_true', ← Bool.not_eq_true, clashB_iff]
  unfold Fits
  have hg : ∀ j, j < c.length → (c ++ [x]).getD j 0 = c.getD j 0 := fun j hj => by simp [List.getD, List.getElem?_append, hj]
  constructor
  · rintro h ⟨j, h1, h2, h3⟩
    exact h j h1 h3 (by rw [hg j h1]; exact h2)
  · intro h j h1 h3 h2
    rw [hg j h1] at h2
    exact h ⟨j, h1, h2, h3⟩
theorem spB_in {out : Nat → Bool} {r : Nat} (h : out c.length = false) : spB es out (r + 1) c = true ↔ ∃ x : Nat, x < 3 ∧ clashB es c c.length (x : Int) = false ∧ spB es out r (c ++ [(x : Int)]) = true := by
  rw [spB, h]
  simp only [Bool.or_eq_true, Bool.and_eq_true, Bool.not_eq_true', Bool.false_eq_true, if_false]
  constructor
  · rintro ((h | h) | h)
    · exact ⟨0, by omega, h⟩
    · exact ⟨1, by omega, h⟩
    · exact ⟨2, by omega, h⟩
  · rintro ⟨x, hx, h⟩
    rcases (by omega : x = 0 ∨ x = 1 ∨ x = 2) with rfl | rfl | rfl
    · exact .inl (.inl h)
    · exact .inl (.inr h)
    · exact .inr h
theorem l08Partial_ok {n : Int} {bo : Nat} {tb : TypeId} {S : List Bool} {H0 : AHeap} (hg : IsG n es) (he : Edges H0 v es) (hS : S.length = es.length) (oB : Own H0 bo tb (LB S)) :
    ∀ (r : Nat) (c : List Int) (H : AHeap) (K : Value → AHeap → Prop) (u : Value), c.length + r = es.length → H0.le H → Ints H u c → (∀ G, H.le G → K (.bool (spB es (fun j => S.getD j false) r c)) G) →
      AC Try.prog T0 152 [.agg ⟨[.int .i64 n, v]⟩, .slice (some ⟨bo, 0, none⟩) es.length (es.length + 1), u] H K := by
  have n0 := hg.ed.lo; have n1 := hg.ed.hi
  have h30 : es.length ≤ 30 := by have := hg.ed.len; omega
  intro r
  induction r with
  | zero =>
    intro c H K u hc h0 hu kk
    apply F152.ac
    unfold F152.B13
    refine newK_f (all_iv (edges_one' (he.le h0))) fun H1 l1 n1' o1 => ?_
    unfold F152.B12
    refine (hu.le l1).len ?_
    unfold F152.B11
    refine (hu.le l1).len (ld1_own o1 rfl ((he.le (AHeap.le_trans h0 l1)).len (pif_t (by simp; omega) ?_)))
    unfold F152.B10
    exact kk H1 l1
  | succ r ih =>
    intro c H K u hc h0 hu kk
    apply F152.ac
    unfold F152.B13
    refine newK_f (all_iv (edges_one' (he.le h0))) fun H1 l1 n1' o1 => ?_
    have h01 := AHeap.le_trans h0 l1
    unfold F152.B12
    refine (hu.le l1).len ?_
    unfold F152.B11
    refine (hu.le l1).len (ld1_own o1 rfl ((he.le h01).len (pif_f (by rw [beq_eq_false_iff_ne]; omega) ?_)))
    unfold F152.B9
    refine own_idx (by omega) (by omega) (ld1_own (oB.le h01) (by rw [Int.toNat_natCast]; exact LB_get (by omega)) (asB_mk ?_))
    refine pif_cases (fun hb => ?_) fun hb => ?_
    · unfold F152.B8
      refine ldI_own o1 rfl (ld1_own o1 rfl ⟨?_, ?_⟩)
      all_goals first
        | refine l01Own_ok (hu.le l1) (by omega) fun w G1 l2 f1 => ⟨ldI_own (o1.le l2) rfl (ld1_own (o1.le l2) rfl ⟨rfl, rfl⟩), push_int (H0 := H1) f1 l2 (by omega) fun v' G2 l3 f2 _ => ⟨ldI_own (o1.le l3) rfl (ld1_own (o1.le l3) rfl ⟨rfl, rfl⟩), ?_⟩⟩
        | refine newK_f rfl fun G0 l0 n0' o0 => l01Own_ok (hu.le (AHeap.le_trans l1 l0)) (by omega) fun w G1 l2 f1 => ⟨ldI_own (o1.le (AHeap.le_trans l0 l2)) rfl (ld1_own (o1.le (AHeap.le_trans l0 l2)) rfl ⟨rfl, rfl⟩), push_row (H0 := H1) (f1.less l0.1) (AHeap.le_trans l0 l2) (o0.le l2) (by omega) fun v' G2 l3 f2 => ⟨ldI_own (o1.le l3) rfl (ld1_own (o1.le l3) rfl ⟨rfl, rfl⟩), ?_⟩⟩
      all_goals
        refine ih (c ++ [-1]) G2 _ v' (by simp; omega) (AHeap.le_trans h01 l3) f2.ints fun G3 l4 => asB_mk ?_
        have kk := kk G3 (AHeap.le_trans l1 (AHeap.le_trans l3 l4))
        rw [spB, if_pos hb] at kk
        exact kk
    · unfold F152.B7 F152.L2
      refine ⟨fun x1 x2 x3 x7 x8 G => .slice (some ⟨bo, 0, none⟩) es.length (es.length + 1) = x1 ∧ u = x2 ∧ H.length = x3 ∧ ((c.length : Nat) : Int) = x7 ∧ H1.le G ∧ ∃ t : Nat, x8 = t ∧ t ≤ 3 ∧ ∀ x : Nat, x < t → ¬ (clashB es c c.length (x : Int) = false ∧ spB es (fun j => S.getD j false) r (c ++ [(x : Int)]) = true),
        fun _ _ _ _ x8 _ => 3 - x8.toNat, ⟨rfl, rfl, rfl, rfl, AHeap.le_refl _, 0, rfl, by omega, fun x hx => absurd hx (by omega)⟩, ?_⟩
      rintro x1 x2 x3 x7 x8 G ⟨rfl, rfl, rfl, rfl, lG, t, rfl, ht, hno⟩
      have oG := o1.le lG
      have h0G := AHeap.le_trans h01 lG
      have huG := hu.le (AHeap.le_trans l1 lG)
      unfold F152.B6
      refine pif_cases (fun hb3 => ?_) fun hb3 => ?_
      · have ht3 : t < 3 := by have := of_decide_eq_true hb3; omega
        unfold F152.B5
        refine ldI_own oG rfl (ld1_own oG rfl ⟨?_, ?_⟩)
        all_goals first
          | refine l01Own_ok huG (by omega) fun w G1 l2 f1 => ⟨ldI_own (oG.le l2) rfl (ld1_own (oG.le l2) rfl ⟨rfl, rfl⟩), push_int (H0 := G) f1 l2 (by omega) fun v' G2 l3 f2 _ => ⟨ldI_own (oG.le l3) rfl (ld1_own (oG.le l3) rfl ⟨rfl, rfl⟩), ?_⟩⟩
          | refine newK_f rfl fun G0 l0 n0' o0 => l01Own_ok (huG.le l0) (by omega) fun w G1 l2 f1 => ⟨ldI_own (oG.le (AHeap.le_trans l0 l2)) rfl (ld1_own (oG.le (AHeap.le_trans l0 l2)) rfl ⟨rfl, rfl⟩), push_row (H0 := G) (f1.less l0.1) (AHeap.le_trans l0 l2) (o0.le l2) (by omega) fun v' G2 l3 f2 => ⟨ldI_own (oG.le l3) rfl (ld1_own (oG.le l3) rfl ⟨rfl, rfl⟩), ?_⟩⟩
        all_goals
          refine l02Fits2_ok (e := c.length) (he.le (AHeap.le_trans h0G l3)) (by omega) hg f2.ints (by simp) (by omega) fun G3 l4 => asB_mk ?_
          rw [fits_clash]
          have l34 := AHeap.le_trans l3 l4
          have o3 := oG.le l34
          have hu3 := huG.le l34
          refine pif_cases (fun hf => ?_) fun hf => ?_
          · rw [Bool.not_eq_true'] at hf
            refine ldI_own o3 rfl (ld1_own o3 rfl ⟨?_, ?_⟩)
            all_goals first
              | refine l01Own_ok hu3 (by omega) fun w G4 l5 f4 => ⟨ldI_own (o3.le l5) rfl (ld1_own (o3.le l5) rfl ⟨rfl, rfl⟩), push_int (H0 := G3) f4 l5 (by omega) fun v5 G5 l6 f5 _ => ⟨ldI_own (o3.le l6) rfl (ld1_own (o3.le l6) rfl ⟨rfl, rfl⟩), ?_⟩⟩
              | refine newK_f rfl fun G0 l0 n0' o0 => l01Own_ok (hu3.le l0) (by omega) fun w G4 l5 f4 => ⟨ldI_own (o3.le (AHeap.le_trans l0 l5)) rfl (ld1_own (o3.le (AHeap.le_trans l0 l5)) rfl ⟨rfl, rfl⟩), push_row (H0 := G3) (f4.less l0.1) (AHeap.le_trans l0 l5) (o0.le l5) (by omega) fun v5 G5 l6 f5 => ⟨ldI_own (o3.le l6) rfl (ld1_own (o3.le l6) rfl ⟨rfl, rfl⟩), ?_⟩⟩
            all_goals
              refine ih (c ++ [(t : Int)]) G5 _ v5 (by simp; omega) (AHeap.le_trans h0G (AHeap.le_trans l34 l6)) f5.ints fun G6 l7 => asB_mk ?_
              have lG6 := AHeap.le_trans lG (AHeap.le_trans l34 (AHeap.le_trans l6 l7))
              refine pif_cases (fun hr => ?_) fun hr => ?_
              · unfold F152.B4
                have kk := kk G6 (AHeap.le_trans l1 lG6)
                rw [(spB_in (out := fun j => S.getD j false) hb).2 ⟨t, ht3, hf, hr⟩] at kk
                exact kk
              · unfold F152.B3
                rw [wrap_id (by omega) (by omega)]
                refine ⟨⟨rfl, rfl, rfl, rfl, lG6, t + 1, by omega, by omega, fun x hx => ?_⟩, by show 3 - ((t : Int) + 1).toNat < 3 - (t : Int).toNat; omega⟩
                by_cases e : x = t
                · subst e; rw [hr]; simp
                · exact hno x (by omega)
          · rw [Bool.not_eq_false'] at hf
            first
              | refine ⟨?_, ?_⟩
              | skip
            all_goals
              unfold F152.B3
              rw [wrap_id (by omega) (by omega)]
              refine ⟨⟨rfl, rfl, rfl, rfl, AHeap.le_trans lG l34, t + 1, by omega, by omega, fun x hx => ?_⟩, by show 3 - ((t : Int) + 1).toNat < 3 - (t : Int).toNat; omega⟩
              by_cases e : x = t
              · subst e; rw [hf]; simp
              · exact hno x (by omega)
      · have ht3 : t = 3 := by have := of_decide_eq_false hb3; omega
        subst ht3
        unfold F152.B1
        have kk := kk G (AHeap.le_trans l1 lG)
        have : spB es (fun j => S.getD j false) (r + 1) c = false := by
          rw [← Bool.not_eq_true, spB_in (out := fun j => S.getD j false) hb]
          rintro ⟨x, h1, h2⟩
          exact hno x h1 h2
        rw [this] at kk; exact kk
end Go.Proofs
