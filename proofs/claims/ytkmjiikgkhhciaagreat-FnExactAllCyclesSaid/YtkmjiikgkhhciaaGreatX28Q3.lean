/- Contracts and plain mathematics for a law, merged. -/
import Derived.Test.YtkmjiikgkhhciaaGreatX28Q2
/- Contracts: cycles whose sums are all even sets. -/
set_option linter.unusedVariables false
set_option linter.unusedSimpArgs false
set_option maxRecDepth 100000
namespace Go.Proofs
open Go.Abs

variable {H G : AHeap} {v u f : Value} {l m c D : List Int} {es fs : List (Int × Int)} {K : Value → AHeap → Prop} {n : Int}

/-- The forest of the first edges. -/
structure ForTo (es : List (Int × Int)) (T i : Nat) : Prop where
  lt : ∀ j, T.testBit j = true → j < i
  is : ∀ j, j < i → j < es.length → ∀ a b : Nat, es.getD j (0, 0) = ((a : Int), (b : Int)) → (T.testBit j = true ↔ ¬ Rch (pAdj es fun k => T.testBit k && decide (k < j)) a b)
theorem ForTo.step {T T' i : Nat} (h : ForTo es T i) (hi : i < es.length) (ho : ∀ j, j ≠ i → T'.testBit j = T.testBit j)
    (hs : ∀ a b : Nat, es.getD i (0, 0) = ((a : Int), (b : Int)) → (T'.testBit i = true ↔ ¬ Rch (pAdj es fun k => T.testBit k) a b)) : ForTo es T' (i + 1) := by
  refine ⟨fun j hj => ?_, fun j hj hjm a b hab => ?_⟩
  · by_cases e : j = i
    · omega
    · rw [ho j e] at hj; have := h.lt j hj; omega
  · have e1 : ∀ j, j ≤ i → (fun k => T'.testBit k && decide (k < j)) = fun k => T.testBit k && decide (k < j) := fun j hj => by
      funext k
      by_cases e : k = i
      · have : ¬ k < j := by omega
        simp [this]
      · rw [ho k e]
    rw [e1 j (by omega)]
    by_cases e : j = i
    · subst e
      rw [hs a b hab]
      have e2 : (fun k => T.testBit k && decide (k < j)) = fun k => T.testBit k := by
        funext k
        cases hk : T.testBit k with
        | false => rfl
        | true => simp [h.lt k hk]
      rw [e2]
    · rw [ho j e]; exact h.is j (by omega) hjm a b hab
theorem ForTo.forest {T : Nat} (h : ForTo es T es.length) : Forest es fun j => T.testBit j := by
  refine ⟨fun j hj ht a b hab => (h.is j hj hj a b hab).1 ht, fun j hj ht a b hab => ?_⟩
  apply Classical.byContradiction
  intro hn
  have := (h.is j hj hj a b hab).2 hn
  rw [ht] at this; cases this
theorem pAdj_same {p q : Nat → Bool} (h : ∀ j, j < es.length → p j = q j) : pAdj es p = pAdj es q := by
  funext a b
  exact propext ⟨pAdj_mono (fun j hj hp => by rw [← h j hj]; exact hp) a b, pAdj_mono (fun j hj hp => by rw [h j hj]; exact hp) a b⟩

set_option maxHeartbeats 1000000 in
theorem basis_ok (h : Edges H v es) (hg : IsG n es)
    (k : ∀ v' os (t : Nat → Bool) G, H.le G → Fresh H.length G v' 81 1 (LU os) → Forest es t → Bas n es t es.length os → (∀ o ∈ os, o < 2 ^ 64) → K v' G) :
    AC Tryz.prog T0 112 [.agg ⟨[.int .i64 n, v]⟩] H K := by
  have h30 : es.length ≤ 30 := by have := hg.ed.len; have := hg.ed.hi; omega
  have hn20 := hg.ed.hi
  have hE := hg.endsIn
  have p30 : 2 ^ es.length ≤ 2 ^ 30 := Nat.pow_le_pow_right (by decide) h30
  have q30 := Nat.two_pow_pos es.length
  apply F112.ac
  unfold F112.B32
  refine newK_f (all_iv (edges_one' h)) fun H1 l1 n1 o1 => ?_
  unfold F112.B31 F112.B30 F112.B29
  refine ld1_own o1 rfl ((h.le l1).len ?_)
  unfold F112.L23
  refine ⟨fun x1 x3 x4 x13 x14 x15 G => H.length = x1 ∧ .slice none 0 0 = x4 ∧ v = x13 ∧ (es.length : Int) = x14 ∧ H1.le G ∧ ∃ i T : Nat, x15 = i ∧ x3 = (T : Int) ∧ i ≤ es.length ∧ ForTo es T i, fun _ _ _ _ _ x15 _ => es.length - x15.toNat, ⟨rfl, rfl, rfl, rfl, AHeap.le_refl _, 0, 0, rfl, rfl, by omega, ⟨fun j hj => by simp at hj, fun j hj => by omega⟩⟩, ?_⟩
  rintro x1 x3 x4 x13 x14 x15 G ⟨rfl, rfl, rfl, rfl, lG1, i, T, rfl, rfl, hi, hT⟩
  have lG := AHeap.le_trans l1 lG1
  have oG := o1.le lG1
  have hTm : ∀ {T : Nat}, ForTo es T es.length → T < 2 ^ es.length := fun hT => bits_lt fun j hj => hT.lt j hj
  have hT64 : T < 2 ^ 64 := by
    have : T < 2 ^ i := bits_lt fun j hj => hT.lt j hj
    have : 2 ^ i ≤ 2 ^ 30 := Nat.pow_le_pow_right (by decide) (by omega)
    omega
  unfold F112.B28
  refine pif_cases (fun hb => ?_) fun hb => ?_
  · have hlt : i < es.length := by have := of_decide_eq_true hb; omega
    obtain ⟨a, b, hab, hne, han, hbn⟩ := hE.get i hlt
    obtain ⟨bb, oo, hk, c1, c2⟩ := (h.le lG).idx (show (0 : Int) ≤ i by omega) (by omega)
    simp only [Int.toNat_natCast, hab] at c1 c2
    unfold F112.B27
    refine hk _ (ldI_mk c1 (ldI_mk c2 (newK_f rfl fun G1 g1 m1 p1 => stK_f (new := [.int .i64 (a : Int), .int .i64 (b : Int)]) p1 (by simp) (by intro v hv; simp at hv; rcases hv with rfl | rfl <;> rfl) rfl fun G2 b2 p2 => ?_)))
    have lG2 : G.le G2 := b2.le g1 (Nat.le_refl _)
    have oG2 := oG.le lG2
    have hG2 := h.le (AHeap.le_trans lG lG2)
    unfold F112.B26
    refine ldI_own oG2 rfl (ld1_own oG2 rfl (ldI_own p2 rfl (ldI_own oG2 rfl (ld1_own oG2 rfl (ldI_own p2 rfl (every_ok hG2 (by omega) fun G3 l3 => asI_mk ⟨l3, ?_⟩))))))
    have hev : 2 ^ es.length - 1 < 2 ^ 64 := by omega
    rw [bits_andnot hev hT64]
    obtain ⟨X, hX⟩ : ∃ X, X = (2 ^ es.length - 1) &&& (2 ^ 64 - (T + 1)) := ⟨_, rfl⟩
    have hXb : ∀ j, X.testBit j = (decide (j < es.length) && !T.testBit j) := fun j => by rw [hX, andnot_bit hev hT64, Nat.testBit_two_pow_sub_one]
    have hX64 : X < 2 ^ 64 := by rw [hX]; exact Nat.lt_of_le_of_lt Nat.and_le_left hev
    rw [← hX]
    refine distances_ok (hG2.le l3) hg hX64 han fun w D G4 l4 fD lD hD => ⟨l4, ?_⟩
    have hread := hD b (by omega)
    rw [pAdj_same (q := fun k => T.testBit k) fun j hj => by rw [hXb]; simp [hj]] at hread
    have hgd : D.getD b 0 = D.getD b (-1) := by
      have : b < D.length := by omega
      simp [List.getD, this]
    refine fD.ints.rd (by omega) (by omega) ?_
    rw [Int.toNat_natCast, hgd]
    have l24 := AHeap.le_trans lG1 (AHeap.le_trans lG2 (AHeap.le_trans l3 l4))
    refine pif_cases (fun hb => ?_) fun hb => ?_
    · have hno : ¬ Rch (pAdj es fun k => T.testBit k) a b := fun hr => by have := hread.2 hr; have := of_decide_eq_true hb; omega
      have pi : 2 ^ i < 2 ^ 64 := Nat.pow_lt_pow_right (by decide) (by omega)
      unfold F112.B25
      refine ⟨by omega, ?_⟩
      rw [one_shl (by omega) (by omega), Int.toNat_natCast, bits_or hT64 pi]
      unfold F112.B24
      rw [wrap_id (by omega) (by omega)]
      refine ⟨⟨rfl, rfl, rfl, rfl, l24, i + 1, T ||| 2 ^ i, by omega, rfl, by omega, hT.step hlt (fun j hj => ?_) fun a' b' hab' => ?_⟩, by simp; omega⟩
      · rw [or_bit]; unfold insB
        have : ¬ i = j := fun h => hj h.symm
        simp [this]
      · rw [hab] at hab'
        simp only [Prod.mk.injEq] at hab'
        obtain rfl : a = a' := by omega
        obtain rfl : b = b' := by omega
        rw [or_bit, insB_self]
        exact ⟨fun _ => hno, fun _ => rfl⟩
    · have hyes : Rch (pAdj es fun k => T.testBit k) a b := hread.1 (by have := of_decide_eq_false hb; omega)
      unfold F112.B24
      rw [wrap_id (by omega) (by omega)]
      refine ⟨⟨rfl, rfl, rfl, rfl, l24, i + 1, T, by omega, rfl, by omega, hT.step hlt (fun j hj => rfl) fun a' b' hab' => ?_⟩, by simp; omega⟩
      rw [hab] at hab'
      simp only [Prod.mk.injEq] at hab'
      obtain rfl : a = a' := by omega
      obtain rfl : b = b' := by omega
      exact ⟨fun ht => by have := hT.lt i ht; omega, fun hn => absurd hyes hn⟩
  · have hie : i = es.length := by have := of_decide_eq_false hb; omega
    subst hie
    have ht := hT.forest
    have hTl : T < 2 ^ es.length := hTm hT
    have hTlt := hT.lt
    unfold F112.B22
    refine ld1_own oG rfl ((h.le lG).len ?_)
    unfold F112.L2
    refine ⟨fun x1 x3 x4 x40 x41 G => H.length = x1 ∧ (T : Int) = x3 ∧ (es.length : Int) = x40 ∧ H1.le G ∧ ∃ (i : Nat) (os : List Nat), x41 = i ∧ i ≤ es.length ∧ Fresh H1.length G x4 81 1 (LU os) ∧ Bas n es (fun j => T.testBit j) i os ∧ ∀ o ∈ os, o < 2 ^ 64, fun _ _ _ _ x41 _ => es.length - x41.toNat, ⟨rfl, rfl, rfl, lG1, 0, [], rfl, by omega, .inl ⟨rfl, .inl rfl⟩, .nil, fun o ho => by cases ho⟩, ?_⟩
    clear lG1 lG oG hT hb
    rintro x1 x3 x4 x40 x41 G ⟨rfl, rfl, rfl, lG1, i, os, rfl, hi, hF, hB, ho64⟩
    have lG := AHeap.le_trans l1 lG1
    have oG := o1.le lG1
    unfold F112.B21
    refine pif_cases (fun hb => ?_) fun hb => ?_
    · have hlt : i < es.length := by have := of_decide_eq_true hb; omega
      have hol := hB.len
      unfold F112.B20 F112.B19
      refine has_ok hT64 (by omega) (asB_mk (pif_cases (fun hb => ?_) fun hb => ?_))
      · rw [Int.toNat_natCast] at hb
        unfold F112.B3
        rw [wrap_id (by omega) (by omega)]
        exact ⟨⟨rfl, rfl, rfl, lG1, i + 1, os, by omega, by omega, hF, .tree hB hb, ho64⟩, by simp; omega⟩
      · rw [Int.toNat_natCast] at hb
        obtain ⟨a, b, hab, hne, han, hbn⟩ := hE.get i hlt
        -- an even set with this edge
        obtain ⟨Y, y1, y2⟩ := joined_set hE (ht.in' i hlt hb a b hab)
        have hYi : Y i = false := by
          cases hy : Y i with
          | false => rfl
          | true => have := (y1 i hy).1; rw [hb] at this; simp at this
        let Z : Nat → Bool := fun j => Y j ^^ decide (j = i)
        have hZi : Z i = true := by simp [Z, hYi]
        have hZe : ∀ x : Nat, degB es Z x % 2 = 0 := fun x => by
          rw [deg_xor, deg_one hlt hab hne]
          have := y2 x
          omega
        have hZs : ∀ j, Z j = true → T.testBit j = true ∨ j = i := fun j hj => by
          by_cases e : j = i
          · exact .inr e
          · simp only [Z, e, decide_false, Bool.xor_false] at hj
            have := (y1 j hj).1
            rw [Bool.and_eq_true] at this
            exact .inl this.1
        have pi : 2 ^ i < 2 ^ 64 := Nat.pow_lt_pow_right (by decide) (by omega)
        unfold F112.B18
        refine ⟨by omega, ?_⟩
        rw [one_shl (by omega) (by omega), Int.toNat_natCast, bits_or hT64 pi]
        unfold F112.B17 F112.L5
        refine ⟨fun x1 x3 x4' x8 x9 x40 x41 G => H.length = x1 ∧ (T : Int) = x3 ∧ x4 = x4' ∧ (es.length : Int) = x40 ∧ (i : Int) = x41 ∧ H1.le G ∧ Fresh H1.length G x4 81 1 (LU os) ∧ ∃ o : Nat, x8 = (o : Int) ∧ o < 2 ^ 64 ∧ (∀ j, o.testBit j = true → j < es.length ∧ (T.testBit j = true ∨ j = i)) ∧ (∀ j, Z j = true → o.testBit j = true) ∧ (x9 = false → ∀ w : Nat, (w : Int) < n → degB es (fun j => o.testBit j) w ≠ 1),
          fun _ _ _ x8 x9 _ _ _ => 2 * cn (fun j => x8.toNat.testBit j) es.length + (if x9 then 1 else 0), ⟨rfl, rfl, rfl, rfl, rfl, lG1, hF, T ||| 2 ^ i, rfl, or_lt hT64 pi, fun j hj => ?_, fun j hj => ?_, fun h => by cases h⟩, ?_⟩
        · rw [or_bit] at hj
          by_cases e : j = i
          · exact ⟨by omega, .inr e⟩
          · have hj := insB_ne hj e
            exact ⟨hTlt j hj, .inl hj⟩
        · rw [or_bit]
          rcases hZs j hj with h | rfl
          · exact insB_of h
          · exact insB_self _ _
        clear lG1 lG oG hF
        rintro x1 x3 x4' x8 x9 x40 x41 G ⟨rfl, rfl, rfl, rfl, rfl, lG1, hF, o, rfl, ho, os1, os2, os3⟩
        have lG := AHeap.le_trans l1 lG1
        have oG := o1.le lG1
        unfold F112.B16
        refine pif_cases (fun hx => ?_) fun hx => ?_
        · subst hx
          unfold F112.B15 F112.B14
          refine ldI_own oG rfl ?_
          unfold F112.L6
          refine ⟨fun x1 x3 x4' x8 x9 x40 x41 x53 x54 G => H.length = x1 ∧ (T : Int) = x3 ∧ x4 = x4' ∧ (es.length : Int) = x40 ∧ (i : Int) = x41 ∧ n = x53 ∧ H1.le G ∧ Fresh H1.length G x4 81 1 (LU os) ∧ ∃ (w o' : Nat), x54 = w ∧ (w : Int) ≤ n ∧ x8 = (o' : Int) ∧ o' < 2 ^ 64 ∧ (∀ j, o'.testBit j = true → o.testBit j = true) ∧ (∀ j, Z j = true → o'.testBit j = true) ∧ ((x9 = false ∧ o' = o ∧ ∀ w' : Nat, w' < w → degB es (fun j => o.testBit j) w' ≠ 1) ∨ (x9 = true ∧ cn (fun j => o'.testBit j) es.length < cn (fun j => o.testBit j) es.length)),
            fun _ _ _ _ _ _ _ _ x54 _ => (n - x54).toNat, ⟨rfl, rfl, rfl, rfl, rfl, rfl, lG1, hF, 0, o, rfl, by omega, rfl, ho, fun _ h => h, os2, .inl ⟨rfl, rfl, fun w' h => absurd h (by omega)⟩⟩, ?_⟩
          clear lG1 lG oG hF
          rintro x1 x3 x4' x8 x9 x40 x41 x53 x54 G ⟨rfl, rfl, rfl, rfl, rfl, rfl, lG1, hF, w, o', rfl, hw, rfl, ho', hs1, hs2, hs3⟩
          have lG := AHeap.le_trans l1 lG1
          have oG := o1.le lG1
          unfold F112.B13
          refine pif_cases (fun hb' => ?_) fun hb' => ?_
          · have hlt' := of_decide_eq_true hb'
            unfold F112.B12 F112.B11
            refine ldI_own oG rfl (ld1_own oG rfl (at_ok (h.le lG) (by omega) fun q H2 l2 f2 => setOf_ok f2.ints (by have := hg.three (v := w) (by omega) hlt'; omega) (fun x hx => by have := at_range hx; omega) (asI_mk ?_)))
            have h64 : setN (atL es w) < 2 ^ 64 := setN_lt fun x hx => by have := at_range hx; omega
            rw [bits_and h64 ho']
            have hz : setN (atL es w) &&& o' < 2 ^ 64 := Nat.lt_of_le_of_lt Nat.and_le_left h64
            have lG2 := AHeap.le_trans lG1 l2
            unfold F112.B10
            refine size_ok hz (asI_mk ?_)
            rw [popc_deg (by omega)]
            refine pif_cases (fun hd => ?_) fun hd => ?_
            · have hd1 : degB es (fun j => o'.testBit j) w = 1 := by have := beq_iff_eq.1 hd; omega
              have hab' : ∀ j, (setN (atL es w) &&& o').testBit j = true ↔ (j < es.length ∧ on (es.getD j (0, 0)) w = true ∧ o'.testBit j = true) := fun j => by
                rw [Nat.testBit_and, setN_bit fun x hx => (at_range hx).1, Bool.and_eq_true, decide_eq_true_iff, mem_atL]
                constructor
                · rintro ⟨⟨i, hi, h1, h2⟩, h3⟩
                  obtain rfl : j = i := by omega
                  exact ⟨h1, h2, h3⟩
                · rintro ⟨h1, h2, h3⟩
                  exact ⟨⟨j, rfl, h1, h2⟩, h3⟩
              unfold F112.B9
              rw [bits_andnot ho' hz]
              obtain ⟨o2, ho2⟩ : ∃ o2, o2 = o' &&& (2 ^ 64 - ((setN (atL es w) &&& o') + 1)) := ⟨_, rfl⟩
              have hb2 : ∀ j, o2.testBit j = (o'.testBit j && !(setN (atL es w) &&& o').testBit j) := fun j => by rw [ho2, andnot_bit ho' hz]
              have ho2' : o2 < 2 ^ 64 := by rw [ho2]; exact Nat.lt_of_le_of_lt Nat.and_le_left ho'
              rw [← ho2]
              obtain ⟨j0, hj1, hj2, hj3⟩ := deg_some (es := es) (p := fun j => o'.testBit j) (w := (w : Int)) (by omega)
              have hsub2 : ∀ j, o2.testBit j = true → o'.testBit j = true := fun j hj => by rw [hb2, Bool.and_eq_true] at hj; exact hj.1
              have hcn : cn (fun j => o2.testBit j) es.length < cn (fun j => o'.testBit j) es.length := cn_lt (i := j0) (fun j _ hj => hsub2 j hj) hj2 (by
                have := (hab' j0).2 ⟨hj1, hj3, hj2⟩
                rw [hb2, this]; simp) hj1
              have hle : cn (fun j => o'.testBit j) es.length ≤ cn (fun j => o.testBit j) es.length := cn_le fun j _ hj => hs1 j hj
              unfold F112.B8 F112.B7
              rw [wrap_id (by omega) (by omega)]
              refine ⟨⟨rfl, rfl, rfl, rfl, rfl, rfl, lG2, hF.le l2, w + 1, o2, by omega, by omega, rfl, ho2', fun j hj => hs1 j (hsub2 j hj), fun j hj => ?_, .inr ⟨rfl, by omega⟩⟩, by show (n - ((w : Int) + 1)).toNat < (n - (w : Int)).toNat; omega⟩
              rw [hb2, hs2 j hj, Bool.true_and, Bool.not_eq_true', Bool.eq_false_iff]
              intro hbad
              obtain ⟨g1, g2, g3⟩ := (hab' j).1 hbad
              have e1 := degB_pos (es := es) (p := Z) (x := w) g1 hj g2
              have e2 := hZe w
              have e3 := deg_le (es := es) (p := Z) (q := fun j => o'.testBit j) (w := (w : Int)) fun j _ hj => hs2 j hj
              omega
            · have hd1 : degB es (fun j => o'.testBit j) w ≠ 1 := by
                intro h1; rw [h1] at hd; simp at hd
              unfold F112.B7
              rw [wrap_id (by omega) (by omega)]
              refine ⟨⟨rfl, rfl, rfl, rfl, rfl, rfl, lG2, hF.le l2, w + 1, o', by omega, by omega, rfl, ho', hs1, hs2, hs3.imp (fun ⟨h1, h2, h3⟩ => ⟨h1, h2, fun w' hw' => ?_⟩) id⟩, by show (n - ((w : Int) + 1)).toNat < (n - (w : Int)).toNat; omega⟩
              by_cases e : w' = w
              · subst e; rw [← h2]; exact hd1
              · exact h3 w' (by omega)
          · have hwn := of_decide_eq_false hb'
            refine ⟨⟨rfl, rfl, rfl, rfl, rfl, lG1, hF, o', rfl, ho', fun j hj => os1 j (hs1 j hj), hs2, fun hx w' hw' => ?_⟩, ?_⟩
            · rcases hs3 with ⟨_, h2, h3⟩ | ⟨h1, _⟩
              · rw [h2]; exact h3 w' (by omega)
              · rw [hx] at h1; cases h1
            · show 2 * cn (fun j => ((o' : Int).toNat).testBit j) es.length + (if x9 then 1 else 0) < 2 * cn (fun j => ((o : Int).toNat).testBit j) es.length + 1
              rw [Int.toNat_natCast, Int.toNat_natCast]
              rcases hs3 with ⟨h1, h2, _⟩ | ⟨h1, h2⟩
              · rw [h1, h2]; simp
              · rw [h1]; simp; omega
        · subst hx
          have h3le : ∀ w : Nat, degB es (fun j => o.testBit j) w ≤ 3 := fun w => by
            by_cases hw : (w : Int) < n
            · exact degB_le_three hg hw
            · rw [deg_out hE hw]; omega
          have hok : BasOk n es (fun j => T.testBit j) i o := ⟨os1, os2 i hZi, pruned_even hE ht h3le (i := i) (fun j _ hj => (os1 j hj).2) (os3 rfl)⟩
          unfold F112.B4
          refine hF.sl.pushN E_set (by decide) (by exact lG1.1) (n := 1) (ys := [.int .u64 (o : Nat)]) rfl rfl (by simp; omega) (by simp) fun v' G6 k6 _ _ f6 => ?_
          unfold F112.B3
          rw [wrap_id (by omega) (by omega)]
          refine ⟨⟨rfl, rfl, rfl, k6.le lG1 (Nat.le_refl _), i + 1, os ++ [o], by omega, by omega, by simpa using f6, .own hB hb hok, fun x hx => ?_⟩, by simp; omega⟩
          rcases List.mem_append.1 hx with hx | hx
          · exact ho64 x hx
          · rw [List.mem_singleton.1 hx]; exact ho
    · have hie : i = es.length := by have := of_decide_eq_false hb; omega
      subst hie
      unfold F112.B1
      exact k _ os _ G lG (hF.less l1.1) ht hB ho64
end Go.Proofs
/- Contracts: clones of sets, sets that are left out, comparing sets. -/
set_option linter.unusedVariables false
set_option linter.unusedSimpArgs false
set_option maxRecDepth 100000
namespace Go.Proofs
open Go.Abs

variable {H G B : AHeap} {v u f : Value} {l m : List Int} {es fs : List (Int × Int)} {K : Value → AHeap → Prop} {n : Int} {L A : List Nat}

theorem clr_own {b o k c : Nat} {cs : List Value} {K : AHeap → Prop} (ho : Own H b 81 cs) (hk : 0 < k) (hl : o + k ≤ cs.length) (h : ∀ G R, But b H G → o + R.length = cs.length → Own G b 81 (cs.take o ++ R) → K G) :
    clrK T0 81 H (.slice (some ⟨b, o, none⟩) k c) K := by
  have e : T0 81 = some tiSet := by kernel_rfl
  have hz : zeroK tiSet = fun K => K [.int .u64 0] := by kernel_rfl
  have hs : tiSet.size = 1 := by kernel_rfl
  have hb := ho.lt
  unfold clrK
  rw [e]
  refine .inr ⟨b, o, k, c, cs, rfl, hk, ho, by rw [hs]; omega, ?_⟩
  rw [hz]
  refine h _ ((List.replicate k [Value.int .u64 0]).flatten ++ cs.drop (o + k * tiSet.size)) ⟨by simp, fun q hq => by rw [List.getElem?_set_ne (fun h => hq h.symm)]⟩ ?_ ?_
  · rw [hs]; simp [List.length_flatten]; omega
  unfold Own
  rw [List.getElem?_set_self hb, List.append_assoc]
/-- The first set that a function takes. -/
theorem indexX_ok {p : Nat → Bool} {Z : List Nat} {m0 : Nat} (h : Sl m0 H v 81 1 (LU Z)) (hl : Z.length ≤ 4611686018427387904) (hf : ∀ e ∈ Z, Cl H f (.int .u64 (e : Nat)) (p e))
    (k0 : ∀ G, H.le G → (∀ e ∈ Z, p e = false) → K (.int .i64 (-1)) G) (k1 : ∀ (r : Nat) G, H.le G → r < Z.length → p (Z.getD r 0) = true → (∀ j, j < r → p (Z.getD j 0) = false) → K (.int .i64 r) G) :
    AC Tryz.prog T0 163 [v, f] H K := by
  apply F163.ac
  unfold F163.B9 F163.B8
  refine h.len (by decide) (n := Z.length) (by simp) ?_
  unfold F163.L2
  refine ⟨fun x0 x1 x7 x8 G => v = x0 ∧ f = x1 ∧ (Z.length : Int) = x7 ∧ H.le G ∧ ∃ n : Nat, x8 = n ∧ n ≤ Z.length ∧ ∀ i : Nat, i < n → p (Z.getD i 0) = false, fun _ _ _ x8 _ => Z.length - x8.toNat, ⟨rfl, rfl, rfl, AHeap.le_refl _, 0, rfl, by omega, fun i hi => absurd hi (by omega)⟩, ?_⟩
  rintro x0 x1 x7 x8 G ⟨rfl, rfl, rfl, hG, n, rfl, hn', hp⟩
  unfold F163.B7
  refine pif_cases (fun hb => ?_) fun hb => ?_
  · have hn : n < Z.length := by have := of_decide_eq_true hb; omega
    unfold F163.B6 F163.B5
    refine Sl_rdI (h.le hG) (by omega) (by simp; omega) (by rw [Int.toNat_natCast]; exact LU_get hn) ?_
    rw [getD_of hn]
    refine hf Z[n] (List.getElem_mem hn) G hG _ fun G2 hG2 => asB_mk (pif_cases (fun hb => ?_) fun hb => ?_)
    · unfold F163.B4
      exact k1 n _ (AHeap.le_trans hG hG2) hn (by rw [getD_of hn]; exact hb) hp
    · unfold F163.B3
      rw [wrap_id (by omega) (by omega)]
      refine ⟨⟨rfl, rfl, rfl, AHeap.le_trans hG hG2, n + 1, by omega, by omega, fun i hi => ?_⟩, by simp; omega⟩
      by_cases he : i = n
      · subst he; rw [getD_of hn]; exact hb
      · exact hp i (by omega)
  · have hge : n = Z.length := by have := of_decide_eq_false hb; omega
    unfold F163.B1
    refine k0 _ hG fun e he => ?_
    obtain ⟨i, hi, rfl⟩ := List.getElem_of_mem he
    have := hp i (by omega)
    rwa [getD_of hi] at this
theorem LU_put (L : List Nat) (i x : Nat) : (LU L).set i (.int .u64 (x : Nat)) = LU (L.set i x) := List.map_set.symm
theorem filter_take {p : Nat → Bool} {j : Nat} (hj : j < L.length) : (L.take (j + 1)).filter p = (L.take j).filter p ++ if p (L.getD j 0) then [L.getD j 0] else [] := by
  rw [List.take_succ_eq_append_getElem hj, List.filter_append, getD_of hj]
  cases h : p L[j] <;> simp [h]
theorem deleteU_ok {p : Nat → Bool} {b : Nat} (hB : B.le H) (hb : B.length ≤ b) (ho : Own H b 81 (LU L)) (hl : L.length ≤ 1048576) (hf : ∀ e ∈ L, Cl B f (.int .u64 (e : Nat)) (p e))
    (k : ∀ G R, Kb b H G → Own G b 81 (LU (L.filter fun x => !p x) ++ R) → K (sv b (L.filter fun x => !p x).length) G) :
    AC Tryz.prog T0 114 [sv b L.length, f] H K := by
  apply F114.ac
  unfold F114.B14 F114.B13
  have hS : Sl 0 H (sv b L.length) 81 1 (LU L) := Fresh.sl (.inr ⟨b, L.length, Nat.zero_le _, rfl, ho, by simp⟩)
  refine indexX_ok hS (by omega) (fun e he => (hf e he).le hB) (fun G lG hp => asI_mk ?_) fun r G lG hr hp hn => asI_mk ?_
  · have e : (L.filter fun x => !p x) = L := List.filter_eq_self.2 fun x hx => by rw [hp x hx]; rfl
    rw [e] at k
    unfold F114.B12
    refine pif_t (by decide) ?_
    unfold F114.B11
    exact k G [] (.of_le lG) (by simpa using ho.le lG)
  · unfold F114.B12
    refine pif_f (by simp) ?_
    unfold F114.B10
    rw [wrap_id (by omega) (by omega)]
    have hfr : (L.take r).filter (fun x => !p x) = L.take r := List.filter_eq_self.2 fun x hx => by
      obtain ⟨i, hi, rfl⟩ := List.getElem_of_mem hx
      rw [List.length_take] at hi
      have := hn i (by omega)
      rw [List.getElem_take]
      rw [getD_of (by omega)] at this
      rw [this]; rfl
    unfold F114.L3
    refine ⟨fun x0 x1 x5 x6 G => sv b L.length = x0 ∧ f = x1 ∧ Kb b H G ∧ ∃ (i j : Nat) (C : List Nat), x5 = i ∧ x6 = j ∧ i < j ∧ j ≤ L.length ∧ C.length = L.length ∧ C.take i = (L.take j).filter (fun x => !p x) ∧ C.drop j = L.drop j ∧ Own G b 81 (LU C), fun _ _ _ x6 _ => L.length - x6.toNat,
      ⟨rfl, rfl, .of_le lG, r, r + 1, L, rfl, by omega, by omega, by omega, rfl, by rw [filter_take hr, hfr, hp]; simp, rfl, ho.le lG⟩, ?_⟩
    rintro x0 x1 x5 x6 G2 ⟨rfl, rfl, kb, i, j, C, rfl, rfl, hij, hj, hC, h1, h2, ho2⟩
    have hBG := kb.le hB hb
    have hi' : i = ((L.take j).filter fun x => !p x).length := by rw [← h1, List.length_take]; omega
    unfold F114.B9
    refine lenK_of (pif_cases (fun hb' => ?_) fun hb' => ?_)
    · have hjl : j < L.length := by have := of_decide_eq_true hb'; omega
      have hCj : C.getD j 0 = L.getD j 0 := by
        rw [getD_of (by omega), getD_of hjl]
        have := congrArg (·[0]?) h2
        simp only [List.getElem?_drop, Nat.add_zero] at this
        rw [List.getElem?_eq_getElem (by omega), List.getElem?_eq_getElem hjl] at this
        exact Option.some.inj this
      unfold F114.B8
      refine own_idx (by omega) (by omega) (ldI_own ho2 (by rw [Int.toNat_natCast]; exact LU_get (by omega)) ?_)
      rw [hCj]
      unfold F114.B7
      have hm : L.getD j 0 ∈ L := by rw [getD_of hjl]; exact List.getElem_mem _
      refine hf _ hm G2 hBG _ fun G3 l3 => asB_mk (pif_cases (fun hq => ?_) fun hq => ?_)
      · have hpj : p (L.getD j 0) = false := by simpa using hq
        unfold F114.B6
        refine own_idx (by omega) (by omega) (stK_1 (ho2.le l3) (by simp; omega) rfl fun G4 b4 o4 => ?_)
        rw [Int.toNat_natCast, LU_put] at o4
        unfold F114.B5 F114.B4
        rw [wrap_id (by omega) (by omega), wrap_id (by omega) (by omega)]
        refine ⟨⟨rfl, rfl, (kb.trans (.of_le l3)).trans b4.kb, i + 1, j + 1, C.set i (L.getD j 0), by omega, by omega, by omega, by omega, by simpa using hC, ?_, ?_, o4⟩, by simp; omega⟩
        · rw [filter_take hjl, hpj, ← h1, List.take_set, List.take_succ_eq_append_getElem (show i < C.length by omega), List.set_append_right _ _ (by rw [List.length_take]; omega)]
          simp [Nat.min_eq_left (show i ≤ C.length by omega)]
        · rw [List.drop_set_of_lt (by omega)]
          have := congrArg (List.drop 1) h2
          simpa [List.drop_drop, Nat.add_comm] using this
      · have hpj : p (L.getD j 0) = true := by simpa using hq
        unfold F114.B4
        rw [wrap_id (by omega) (by omega)]
        refine ⟨⟨rfl, rfl, kb.trans (.of_le l3), i, j + 1, C, rfl, by omega, by omega, by omega, hC, ?_, ?_, ho2.le l3⟩, by simp; omega⟩
        · rw [filter_take hjl, hpj, ← h1]; simp
        · have := congrArg (List.drop 1) h2
          simpa [List.drop_drop, Nat.add_comm] using this
    · have hje : j = L.length := by have := of_decide_eq_false hb'; omega
      subst hje
      rw [List.take_length] at h1 hi'
      unfold F114.B2
      refine ⟨⟨_, _, ho2, by simp [hC]⟩, by simp, by simp; omega, by simp, ?_⟩
      simp only [Int.toNat_natCast, Nat.zero_add, Nat.mul_one]
      refine clr_own (o := i) (k := L.length - i) ho2 (by omega) (by simp; omega) fun G3 R b3 hR o3 => ?_
      unfold F114.B1
      have e3 : (LU C).take i = LU (L.filter fun x => !p x) := by rw [← h1]; exact List.map_take.symm
      rw [e3] at o3
      have hRl : i + R.length = L.length := by rw [hR]; simp [hC]
      refine ⟨⟨_, _, o3, by simp; omega⟩, by simp, by simp, by simp; omega, ?_⟩
      have := k G3 R (kb.trans b3.kb) o3
      rw [← hi'] at this
      simpa using this
end Go.Proofs
/- Contracts: comparing sets; clones of sets. -/
set_option linter.unusedVariables false
set_option linter.unusedSimpArgs false
set_option maxRecDepth 100000
namespace Go.Proofs
open Go.Abs

variable {H G B : AHeap} {v u f : Value} {l m : List Int} {es fs : List (Int × Int)} {K : Value → AHeap → Prop} {n : Int} {L A : List Nat}

theorem lexC_nil (l : List Int) : lexC l [] = if 0 < l.length then 1 else 0 := by cases l <;> rfl
theorem lexC_nil' (l : List Int) : lexC [] l = if 0 < l.length then -1 else 0 := by cases l <;> rfl
/-- Lists that begin alike are compared by their rests. -/
theorem lexC_drop : ∀ {l m : List Int} {i : Nat}, i ≤ l.length → i ≤ m.length → (∀ j, j < i → l.getD j 0 = m.getD j 0) → lexC l m = lexC (l.drop i) (m.drop i)
  | l, m, 0, _, _, _ => rfl
  | [], m, i + 1, h, _, _ => by simp at h
  | a :: l, [], i + 1, _, h, _ => by simp at h
  | a :: l, b :: m, i + 1, h1, h2, h3 => by
    have hab : a = b := by simpa using h3 0 (by omega)
    subst hab
    have e : lexC (a :: l) (a :: m) = lexC l m := by
      conv => lhs; unfold lexC
      simp
    rw [e]
    exact lexC_drop (by simpa using h1) (by simpa using h2) fun j hj => by simpa using h3 (j + 1) (by omega)
theorem compareI_ok (h : Ints H v l) (g : Ints H u m) (hl : l.length ≤ 1000000) (hm : m.length ≤ 1000000) (k : K (.int .i64 (lexC l m)) H) : AC Tryz.prog T0 170 [v, u] H K := by
  apply F170.ac
  unfold F170.B15 F170.B14
  refine h.len ?_
  unfold F170.L4
  refine ⟨fun x0 x1 x9 x10 x11 G => v = x0 ∧ u = x1 ∧ v = x9 ∧ (l.length : Int) = x10 ∧ H = G ∧ ∃ i : Nat, x11 = i ∧ i ≤ l.length ∧ i ≤ m.length ∧ ∀ j, j < i → l.getD j 0 = m.getD j 0, fun _ _ _ _ x11 _ => l.length - x11.toNat, ⟨rfl, rfl, rfl, rfl, rfl, 0, rfl, by omega, by omega, fun j hj => by omega⟩, ?_⟩
  rintro x0 x1 x9 x10 x11 G ⟨rfl, rfl, rfl, rfl, rfl, i, rfl, hi, him, hp⟩
  have hd := lexC_drop hi him hp
  unfold F170.B13
  refine pif_cases (fun hb => ?_) fun hb => ?_
  · have hlt : i < l.length := by have := of_decide_eq_true hb; omega
    unfold F170.B12
    refine h.rd (by omega) (by omega) ?_
    rw [Int.toNat_natCast]
    unfold F170.B11
    refine g.len (pif_cases (fun hc => ?_) fun hc => ?_)
    · have hge : i = m.length := by have := of_decide_eq_true hc; omega
      unfold F170.B10
      rw [hd, hge, List.drop_length, lexC_nil, if_pos (by simp; omega)] at k
      exact k
    · have hlm : i < m.length := by have := of_decide_eq_false hc; omega
      unfold F170.B9
      refine g.rd (by omega) (by omega) ?_
      rw [Int.toNat_natCast]
      unfold F170.B8
      refine cmpCompare_ok (asI_mk ?_)
      have e : lexC l m = if l.getD i 0 < m.getD i 0 then -1 else if m.getD i 0 < l.getD i 0 then 1 else lexC (l.drop (i + 1)) (m.drop (i + 1)) := by
        rw [hd, List.drop_eq_getElem_cons hlt, List.drop_eq_getElem_cons hlm, getD_of hlt, getD_of hlm]
        conv => lhs; unfold lexC
      unfold F170.B7
      refine pif_cases (fun hq => ?_) fun hq => ?_
      · unfold F170.B6
        have e2 : cmpI (l.getD i 0) (m.getD i 0) = lexC l m := by
          rw [e]; unfold cmpI at hq ⊢
          by_cases h1 : l.getD i 0 < m.getD i 0
          · rw [if_pos h1, if_pos h1]
          · by_cases h2 : m.getD i 0 < l.getD i 0
            · rw [if_neg h1, if_neg h1, if_pos h2, if_pos h2]
            · rw [if_neg h1, if_neg h2] at hq
              simp at hq
        rw [e2]; exact k
      · unfold F170.B5
        rw [wrap_id (by omega) (by omega)]
        refine ⟨⟨rfl, rfl, rfl, rfl, rfl, i + 1, by omega, by omega, by omega, fun j hj => ?_⟩, by simp; omega⟩
        by_cases ej : j = i
        · subst ej
          unfold cmpI at hq
          by_cases h1 : l.getD j 0 < m.getD j 0
          · rw [if_pos h1] at hq; simp at hq
          · by_cases h2 : m.getD j 0 < l.getD j 0
            · rw [if_neg h1, if_pos (by omega)] at hq; simp at hq
            · omega
        · exact hp j (by omega)
  · have hge : i = l.length := by have := of_decide_eq_false hb; omega
    unfold F170.B3
    rw [hd, hge, List.drop_length, lexC_nil', List.length_drop] at k
    refine h.len (g.len (pif_cases (fun hc => ?_) fun hc => ?_))
    · have := of_decide_eq_true hc
      unfold F170.B2
      rw [if_pos (by omega)] at k; exact k
    · have := of_decide_eq_false hc
      unfold F170.B1
      rw [if_neg (by omega)] at k; exact k
theorem or2_ok {a b : Int} {w : Value} (h : Ints H w [a, b]) (k : K (.int .i64 (if a ≠ 0 then a else b)) H) : AC Tryz.prog T0 168 [w] H K := by
  apply F168.ac
  unfold F168.B10 F168.B9 F168.B8
  refine h.len ?_
  unfold F168.L2
  refine ⟨fun x3 x6 x7 x8 G => 0 = x3 ∧ w = x6 ∧ 2 = x7 ∧ H = G ∧ (x8 = 0 ∨ (x8 = 1 ∧ a = 0) ∨ (x8 = 2 ∧ a = 0 ∧ b = 0)), fun _ _ _ x8 _ => 2 - x8.toNat, ⟨rfl, rfl, rfl, rfl, .inl rfl⟩, ?_⟩
  rintro x3 x6 x7 x8 G ⟨rfl, rfl, rfl, rfl, hx⟩
  unfold F168.B7
  rcases hx with rfl | ⟨rfl, rfl⟩ | ⟨rfl, rfl, rfl⟩
  · refine pif_t rfl ?_
    unfold F168.B6
    refine h.rd (by decide) (by simp) ?_
    unfold F168.B5
    refine pif_cases (fun hb => ?_) fun hb => ?_
    · unfold F168.B4
      have hb : a ≠ 0 := by simpa using hb
      rw [if_pos hb] at k; exact k
    · unfold F168.B3
      exact ⟨⟨rfl, rfl, rfl, rfl, .inr (.inl ⟨rfl, by simpa using hb⟩)⟩, by show 2 - (IntKind.i64.wrap (0 + 1)).toNat < 2 - (0 : Int).toNat; decide⟩
  · refine pif_t rfl ?_
    unfold F168.B6
    refine h.rd (by decide) (by simp) ?_
    rw [if_neg (by simp)] at k
    unfold F168.B5
    refine pif_cases (fun hb => ?_) fun hb => ?_
    · unfold F168.B4
      exact k
    · unfold F168.B3
      exact ⟨⟨rfl, rfl, rfl, rfl, .inr (.inr ⟨rfl, rfl, by simpa using hb⟩)⟩, by show 2 - (IntKind.i64.wrap (1 + 1)).toNat < 2 - (1 : Int).toNat; decide⟩
  · refine pif_f rfl ?_
    unfold F168.B1
    simpa using k
theorem bitsL_len (s : Nat) : (bitsL s).length = popc s 64 := rfl
theorem compareSets_ok {x y : Nat} (hx : x < 2 ^ 64) (hy : y < 2 ^ 64) (k : ∀ G, H.le G → K (.int .i64 (cS x y)) G) : AC Tryz.prog T0 118 [.int .u64 (x : Nat), .int .u64 (y : Nat)] H K := by
  have px : popc x 64 ≤ 64 := bitsTo_length _ _
  have py : popc y 64 ≤ 64 := bitsTo_length _ _
  apply F118.ac
  unfold F118.B2 F118.B1
  refine size_ok hx (asI_mk (size_ok hy (asI_mk (cmpCompare_ok (asI_mk (list_ok hx fun v1 G1 l1 f1 => list_ok hy fun v2 G2 l2 f2 => compareI_ok (f1.le l2).ints f2.ints (by rw [bitsL_len]; omega) (by rw [bitsL_len]; omega) (asI_mk (newK_f rfl fun G3 l3 n3 o3 => ?_))))))))
  have hi : Ints G3 (.slice (some ⟨G2.length, 0, none⟩) 2 (2 + 1)) [cmpI (popc x 64 : Nat) (popc y 64 : Nat), lexC (bitsL x) (bitsL y)] := .inr ⟨⟨G2.length, 0, none⟩, 3, rfl, .inr ⟨rfl, fun i z hz => by
    rw [cell_own o3]
    rcases i with _ | _ | i
    · simp at hz; subst hz; rfl
    · simp at hz; subst hz; rfl
    · simp at hz⟩⟩
  refine or2_ok hi (asI_mk ?_)
  have e : (if cmpI (popc x 64 : Nat) (popc y 64 : Nat) ≠ 0 then cmpI (popc x 64 : Nat) (popc y 64 : Nat) else lexC (bitsL x) (bitsL y)) = cS x y := by
    unfold cS cmpR cmpI
    rw [bitsL_len, bitsL_len]
    by_cases h1 : popc x 64 < popc y 64
    · simp [h1]
    · by_cases h2 : popc y 64 < popc x 64
      · simp [h1, h2]
      · simp [h1, h2]
  rw [e]
  exact k _ (AHeap.le_trans l1 (AHeap.le_trans l2 l3))
theorem cS_v (B : AHeap) : CmpV B (.func (.func 118) ⟨[]⟩ ⟨[]⟩) cS (fun x => x < 2 ^ 64) := fun x y hx hy G hG K k =>
  callV_mk (compareSets_ok hx hy fun G' hG' => k G' _ hG' Iff.rfl)
theorem cloneU_ok {m0 : Nat} (h : Fresh m0 H v 81 1 (LU L)) (h0 : 0 < L.length) (hl : L.length ≤ 1048576) (k : ∀ v' G, H.le G → Fresh H.length G v' 81 1 (LU L) → K v' G) : AC Tryz.prog T0 113 [v] H K := by
  apply F113.ac
  unfold F113.B4 F113.B3
  have hc := fun G (hG : H.le G) => fresh_cells (n := L.length) (h.le hG) (by decide) (by simp)
  rcases h with ⟨h1, _⟩ | ⟨b, c, _, rfl, ho, hc'⟩
  · have := congrArg List.length h1; rw [List.length_map, List.length_nil] at this; omega
  · show F113.B1 K _ H
    unfold F113.B1
    refine newK_f rfl fun G1 l1 n1 o1 => ?_
    have s1 : Sl H.length G1 (.slice (some ⟨H.length, 0, none⟩) 0 (0 + 1)) 81 1 (LU []) := Fresh.sl (.inr ⟨_, 0, Nat.le_refl _, rfl, o1, rfl⟩)
    refine s1.app E_set (by decide) l1.1 (hc G1 l1) (by simp; omega) (fun h => by simp at h; rw [h] at h0; simp at h0) fun v' G2 k2 _ _ f2 => ?_
    refine k v' G2 (k2.le l1 (Nat.le_refl _)) ?_
    simpa using f2
end Go.Proofs
/- Contracts: chains and exchanges, both sides. -/
set_option linter.unusedVariables false
set_option linter.unusedSimpArgs false
set_option maxRecDepth 100000
namespace Go.Proofs
open Go.Abs

variable {H : AHeap} {v u f : Value} {l m c : List Int} {es fs : List (Int × Int)} {K : Value → AHeap → Prop}

theorem IsC.get {es : List (Int × Int)} {c : List Int} (h : IsC es c) (i : Nat) : 0 ≤ c.getD i 0 ∧ c.getD i 0 ≤ 2 := by
  by_cases hi : i < c.length
  · rw [getD_of hi]; exact h.rng _ (List.getElem_mem hi)
  · simp [List.getD, List.getElem?_eq_none (show c.length ≤ i by omega)]

end Go.Proofs
/- Contracts: all cycles, the program's side. -/
set_option linter.unusedVariables false
set_option linter.unusedSimpArgs false
set_option maxRecDepth 100000
namespace Go.Proofs
open Go.Abs

variable {H G B : AHeap} {v u f : Value} {l m : List Int} {es fs : List (Int × Int)} {K : Value → AHeap → Prop} {n : Int} {L A : List Nat}

noncomputable def acCode (n : Int) (es : List (Int × Int)) : Int := if IsG n es then (if n > 12 then 3 else 0) else 1
theorem acCode_zero (h : acCode n es = 0) : IsG n es ∧ n ≤ 12 := by
  unfold acCode at h
  split at h
  · split at h
    · omega
    · rename_i h1 h2; exact ⟨h1, by omega⟩
  · omega
theorem del_cl {x b : Nat} (hE : Edges H v es) (hg : IsG n es) (ho : Own H b 26 [.int .i64 n, v]) (hx : ∀ j, x.testBit j = true → j < es.length) :
    Cl H (.func (.func 115) ⟨[]⟩ ⟨[.pointer (some ⟨b, 0, none⟩)]⟩) (.int .u64 (x : Nat)) (!cycB n es (bitsL x)) := by
  intro G hG K k
  have h30 : es.length ≤ 30 := by have := hg.ed.len; have := hg.ed.hi; omega
  refine callV_mk ?_
  apply F115.ac
  unfold F115.B2 F115.B1
  have e := setN_bits (m := es.length) (by omega) hx
  have hi := isCycle_ok (K := fun v5 H6 => asB v5 fun v7 => K (.bool (!v7)) H6) (hE.le hG) hg (bits_isS (by omega) hx) fun G2 l2 => asB_mk (k G2 l2)
  rw [e] at hi
  exact asP_mk (ldI_own (ho.le hG) rfl (ld1_own (ho.le hG) rfl hi))
theorem xL_pos (os : List Nat) : 0 < (xL os).length := by
  unfold xL; rw [xL_length]; simp; exact Nat.two_pow_pos _
theorem xL_short {os : List Nat} (h : os.length ≤ 18) : (xL os).length ≤ 262144 := by
  unfold xL; rw [xL_length]
  have : 2 ^ os.length ≤ 2 ^ 18 := Nat.pow_le_pow_right (by decide) h
  simp; omega
theorem implAll_ok (h : Edges H v es) (hl : es.length ≤ 1048576)
    (k : ∀ v' rows G, H.le G → (acCode n es = 0 → rows.Perm (cyRows n es) ∧ rows.Pairwise (LeC cmpR)) → (acCode n es ≠ 0 → rows = []) → RowsF (fun b => H.length ≤ b) G.length G v' rows → K (.tuple ⟨[v', .int .i64 (acCode n es)]⟩) G) :
    AC Tryz.prog T0 42 [.agg ⟨[.int .i64 n, v]⟩] H K := by
  apply F42.ac
  unfold F42.B21
  refine newK_f (all_iv (edges_one' h)) fun H1 l1 n1 o1 => ?_
  unfold F42.B20
  refine ldI_own o1 rfl (ld1_own o1 rfl (graphCode_ok (h.le l1) hl fun H2 l2 => asI_mk ?_))
  have l02 := AHeap.le_trans l1 l2
  have o2 := o1.le l2
  unfold F42.B19
  by_cases hg : IsG n es
  rotate_left
  · have hc : acCode n es = 1 := by unfold acCode; rw [if_neg hg]
    rw [if_neg hg]
    refine pif_t rfl ?_
    unfold F42.B18
    rw [hc] at k
    exact k _ [] H2 l02 (fun h => by cases h) (fun _ => rfl) .nil
  rw [if_pos hg]
  refine pif_f rfl ?_
  unfold F42.B17
  refine ldI_own o2 rfl (pif_cases (fun hb => ?_) fun hb => ?_)
  · have hc : acCode n es = 3 := by unfold acCode; rw [if_pos hg, if_pos (of_decide_eq_true hb)]
    unfold F42.B16
    rw [hc] at k
    exact k _ [] H2 l02 (fun h => by cases h) (fun _ => rfl) .nil
  have hn12 : n ≤ 12 := by have := of_decide_eq_false hb; omega
  have hc : acCode n es = 0 := by unfold acCode; rw [if_pos hg, if_neg (by omega)]
  rw [hc] at k
  have h18 : es.length ≤ 18 := by have := hg.ed.len; omega
  have hE2 := h.le l02
  unfold F42.B15
  refine newK_f rfl fun H3 l3 n3 o3 => ?_
  unfold F42.B14
  have o23 := o2.le l3
  refine ldI_own o23 rfl (ld1_own o23 rfl (basis_ok (hE2.le l3) hg fun w os t H4 l4 fw ht hB ho64 => ?_))
  have hol := hB.len
  refine fw.sl.len (by decide) (n := os.length) (by simp) ?_
  have hbw : ∀ b, bk w = some b → H3.length ≤ b := fun b hb => (fw.bk_lt hb).1
  unfold F42.L4
  refine ⟨fun x1 x5 x20 x21 x22 G => H.length = x1 ∧ w = x20 ∧ (os.length : Int) = x21 ∧ H2.le G ∧ Fresh 0 G w 81 1 (LU os) ∧ (∀ b, bk w = some b → bk x5 ≠ some b) ∧ ∃ i : Nat, x22 = i ∧ i ≤ os.length ∧ Fresh H2.length G x5 81 1 (LU (xL (os.take i))), fun _ _ _ _ x22 _ => os.length - x22.toNat,
    ⟨rfl, rfl, rfl, AHeap.le_trans l3 l4, fw.less (Nat.zero_le _), fun b hb hb' => ?_, 0, rfl, by omega, .inr ⟨_, 1, Nat.le_refl _, rfl, o3.le l4, rfl⟩⟩, ?_⟩
  · have h1 := hbw b hb
    have h2 := o3.lt
    have h3 : H2.length = b := Option.some.inj hb'
    omega
  rintro x1 x5 x20 x21 x22 G ⟨rfl, rfl, rfl, lG, fG, hsep, i, rfl, hi, hA⟩
  unfold F42.B13
  refine pif_cases (fun hb => ?_) fun hb => ?_
  · have hlt : i < os.length := by have := of_decide_eq_true hb; omega
    have hxl : (xL (os.take i)).length ≤ 262144 := xL_short (by rw [List.length_take]; omega)
    have hxp := xL_pos (os.take i)
    have hx64 : ∀ s ∈ xL (os.take i), s < 2 ^ 64 := xL_lt fun o ho => ho64 o (List.mem_of_mem_take ho)
    unfold F42.B12
    refine Sl_rdI fG.sl (by omega) (by simp; omega) (by rw [Int.toNat_natCast]; exact LU_get hlt) ?_
    have ho := ho64 (os.getD i 0) (by rw [getD_of hlt]; exact List.getElem_mem _)
    unfold F42.B11
    refine cloneU_ok hA hxp (by omega) fun c G1 g1 fc => fc.sl.len (by decide) (n := (xL (os.take i)).length) (by simp) ?_
    unfold F42.L6
    refine ⟨fun x1 x5 x7 x20 x21 x22 x27 x28 x29 G => H.length = x1 ∧ ((os.getD i 0 : Nat) : Int) = x7 ∧ w = x20 ∧ (os.length : Int) = x21 ∧ (i : Int) = x22 ∧ c = x27 ∧ ((xL (os.take i)).length : Int) = x28 ∧ H2.le G ∧ Fresh 0 G w 81 1 (LU os) ∧ (∀ b, bk w = some b → bk x5 ≠ some b) ∧ Fresh 0 G c 81 1 (LU (xL (os.take i))) ∧ (∀ b, bk c = some b → bk x5 ≠ some b) ∧ ∃ j : Nat, x29 = j ∧ j ≤ (xL (os.take i)).length ∧ Fresh H2.length G x5 81 1 (LU (xL (os.take i) ++ ((xL (os.take i)).take j).map (· ^^^ os.getD i 0))),
      fun _ _ _ _ _ _ _ _ x29 _ => (xL (os.take i)).length - x29.toNat, ⟨rfl, rfl, rfl, rfl, rfl, rfl, rfl, AHeap.le_trans lG g1, fG.le g1, hsep, fc.less (Nat.zero_le _), fun b hb hb' => ?_, 0, rfl, by omega, by simpa using hA.le g1⟩, ?_⟩
    · have h1 := (fc.bk_lt hb).1
      have h2 := (hA.bk_lt hb').2
      omega
    clear hA fG lG hsep fc g1
    rintro x1 x5 x7 x20 x21 x22 x27 x28 x29 G ⟨rfl, rfl, rfl, rfl, rfl, rfl, rfl, lG, fG, hsep, fc, hsc, j, rfl, hj, hA⟩
    unfold F42.B10
    refine pif_cases (fun hb => ?_) fun hb => ?_
    · have hjl : j < (xL (os.take i)).length := by have := of_decide_eq_true hb; omega
      unfold F42.B9
      refine Sl_rdI fc.sl (by omega) (by simp; omega) (by rw [Int.toNat_natCast]; exact LU_get hjl) ?_
      have hs := hx64 ((xL (os.take i)).getD j 0) (by rw [getD_of hjl]; exact List.getElem_mem _)
      unfold F42.B8
      rw [bits_xor hs ho]
      refine hA.sl.pushN E_set (by decide) lG.1 (n := 1) (ys := [.int .u64 (((xL (os.take i)).getD j 0 ^^^ os.getD i 0 : Nat) : Int)]) rfl rfl (by simp; omega) (by simp) fun v' G6 k6 ot nb f6 => ?_
      unfold F42.B7
      rw [wrap_id (by omega) (by omega)]
      refine ⟨⟨rfl, rfl, rfl, rfl, rfl, rfl, rfl, k6.le lG (Nat.le_refl _), fresh_oth fG fun b o hb ho => ot b o (fun h => hsep b hb h) ho, fun b hb hb' => by have := (fG.bk_lt hb).2; have := nb b hb'; omega, fresh_oth fc fun b o hb ho => ot b o (fun h => hsc b hb h) ho, fun b hb hb' => by have := (fc.bk_lt hb).2; have := nb b hb'; omega, j + 1, by omega, by omega, ?_⟩, by simp; omega⟩
      rw [List.take_succ_eq_append_getElem hjl, List.map_append, ← getD_of (d := 0) hjl, ← List.append_assoc]
      simpa using f6
    · have hje : j = (xL (os.take i)).length := by have := of_decide_eq_false hb; omega
      subst hje
      unfold F42.B5
      rw [wrap_id (by omega) (by omega)]
      refine ⟨⟨rfl, rfl, rfl, lG, fG, hsep, i + 1, by omega, by omega, ?_⟩, by simp; omega⟩
      rw [List.take_succ_eq_append_getElem hlt, xL_snoc, ← getD_of (d := 0) hlt]
      simpa using hA
  · have hie : i = os.length := by have := of_decide_eq_false hb; omega
    subst hie
    rw [List.take_length] at hA
    have hxl : (xL os).length ≤ 262144 := xL_short (by omega)
    have hxp := xL_pos os
    have hmem := (xL_all hg.endsIn ht hB).2
    obtain ⟨b, c, hb, rfl, ho, hcl⟩ : ∃ b c, H2.length ≤ b ∧ x5 = .slice (some ⟨b, 0, none⟩) c (c + 1) ∧ Own G b 81 (LU (xL os)) ∧ (LU (xL os)).length = c * 1 := by
      rcases hA with ⟨h1, _⟩ | h
      · have := congrArg List.length h1; rw [List.length_map, List.length_nil] at this; omega
      · exact h
    have hcx : c = (xL os).length := by simpa using hcl.symm
    subst hcx
    unfold F42.B3
    refine deleteU_ok (B := H2) (p := fun s => !cycB n es (bitsL s)) lG hb ho (by omega) (fun s hs => del_cl hE2 hg o2 ((hmem s).1 hs).1) fun G1 R k1 o1' => ?_
    have hfl : (xL os).filter (fun x => !(!cycB n es (bitsL x))) = (xL os).filter fun s => cycB n es (bitsL s) := by simp
    rw [hfl] at o1' ⊢
    obtain ⟨L, hL⟩ : ∃ L, L = (xL os).filter fun s => cycB n es (bitsL s) := ⟨_, rfl⟩
    have hLl : L.length ≤ 262144 := by rw [hL]; exact Nat.le_trans (List.length_filter_le _ _) hxl
    have hL64 : ∀ x ∈ L, x < 2 ^ 64 := fun x hx => by
      rw [hL] at hx; exact xL_lt ho64 x (List.mem_filter.1 hx).1
    rw [← hL] at o1' ⊢
    have lG1 := k1.le lG hb
    unfold F42.B2
    refine sortFuncC_ok (B := H2) (b := b) (N := L.length) (R := R) (c := cS) (dom := fun x => x < 2 ^ 64) ⟨cS_v H2, cS_ord, hb, by omega⟩ (L := L) ⟨lG1, o1', hL64, rfl⟩ fun G3 S k3 s3 hperm hsort => asTup_k ?_
    unfold F42.B1
    have hSl : S.length = L.length := s3.len
    have lG3 := s3.base
    refine lists_ok (Z := S) (m0 := 0) (.inr ⟨b, L.length, [], R, Nat.zero_le _, rfl, by simpa using s3.own, by simp [hSl]⟩) (by omega) (fun z hz => s3.dm z hz) fun v' G4 l4 hR => ?_
    have lG4 := AHeap.le_trans l02 (AHeap.le_trans lG3 l4)
    refine k v' (S.map bitsL) G4 lG4 (fun _ => ⟨cyc_perm hg (by omega) ht hB (by rw [← hL]; exact hperm), ?_⟩) (fun h => absurd rfl h) (hR.mono (fun b hb => Nat.le_trans (AHeap.le_trans l02 lG3).1 hb) (Nat.le_refl _))
    rw [← hSl] at hsort
    exact List.pairwise_map.2 (hsort.pairs.imp fun h => h)
end Go.Proofs
/- Contracts: lists of lists in order by halves, the reference's side; all cycles. -/
set_option linter.unusedVariables false
set_option linter.unusedSimpArgs false
set_option maxRecDepth 100000
namespace Go.Proofs
open Go.Abs

variable {H G : AHeap} {v u f w : Value} {l m : List Int} {es fs : List (Int × Int)} {K : Value → AHeap → Prop} {n : Int} {A : Nat → Prop} {B : Nat} {ls R : List (List Int)}

/-- A part of a row of readable lists. -/
def RowsS (H : AHeap) (v : Value) (ls : List (List Int)) : Prop := ∃ vs : List Value, Sl 0 H v 28 1 vs ∧ vs.length = ls.length ∧ ∀ i, i < ls.length → ∃ w, vs[i]? = some w ∧ Ints H w (ls.getD i [])
theorem RowsS.le (h : RowsS H v ls) (hl : H.le G) : RowsS G v ls := by
  obtain ⟨vs, h1, h2, h3⟩ := h
  exact ⟨vs, h1.le hl, h2, fun i hi => by obtain ⟨w, g1, g2⟩ := h3 i hi; exact ⟨w, g1, g2.le hl⟩⟩
theorem RowsS.len (h : RowsS H v ls) {K : Nat → Prop} (k : K ls.length) : lenK v K := by
  obtain ⟨vs, h1, h2, _⟩ := h
  exact h1.len (by decide) (n := ls.length) (by omega) k
theorem RowsS.row (h : RowsS H v ls) {G : AHeap} (hl : H.le G) {x : Int} {i : Nat} (hx : x = i) (hi : i < ls.length) {K : Value → Prop} (k : ∀ w, Ints H w (ls.getD i []) → K w) : idxK v x 1 (fun b o => ld1 G b o K) := by
  obtain ⟨vs, h1, h2, h3⟩ := h
  obtain ⟨w, g1, g2⟩ := h3 i hi
  subst hx
  exact Sl_rd (h1.le hl) (by omega) (by omega) (by rw [Int.toNat_natCast]; exact g1) (k w g2)
theorem RowsF.toS (h : RowsF A B H v ls) : RowsS H v ls := by
  obtain ⟨vs, h1, h2, _, h4⟩ := h
  refine ⟨vs, h1.sl, h2, fun i hi => ?_⟩
  obtain ⟨w, g1, g2, _⟩ := h4 i hi
  exact ⟨w, g1, g2.ints⟩
theorem RowsS.cutHi (h : RowsS H v ls) {x : Int} {i : Nat} (hx : x = i) (h0 : 0 < ls.length) (hi : i ≤ ls.length) {K : Value → Prop} (k : ∀ v', RowsS H v' (ls.take i) → K v') : sliceK H 28 v none (some (.int .i64 x)) 1 K := by
  subst hx
  obtain ⟨vs, h1, h2, h3⟩ := h
  rcases h1 with ⟨rfl, _⟩ | ⟨b, c, pre, post, hb, rfl, ho, hc⟩
  · simp at h2; omega
  · refine ⟨⟨_, _, ho, by simp; omega⟩, by simp, by simp, by simp; omega, ?_⟩
    refine k _ ⟨vs.take i, ?_, by simp [h2], fun j hj => ?_⟩
    · refine .inr ⟨b, i, pre, vs.drop i ++ post, Nat.zero_le _, by simp, ?_, by simp; omega⟩
      rw [← List.append_assoc, List.append_assoc pre, List.take_append_drop]; exact ho
    · rw [List.length_take] at hj
      obtain ⟨w, g1, g2⟩ := h3 j (by omega)
      refine ⟨w, by rw [List.getElem?_take_of_lt (by omega)]; exact g1, ?_⟩
      rwa [show (ls.take i).getD j [] = ls.getD j [] by simp [List.getD, List.getElem?_take_of_lt (show j < i by omega)]]
theorem RowsS.cutLo (h : RowsS H v ls) {x : Int} {i : Nat} (hx : x = i) (h0 : 0 < ls.length) (hi : i ≤ ls.length) {K : Value → Prop} (k : ∀ v', RowsS H v' (ls.drop i) → K v') : sliceK H 28 v (some (.int .i64 x)) none 1 K := by
  subst hx
  obtain ⟨vs, h1, h2, h3⟩ := h
  refine h1.drop (i := i) (n := ls.length) (by omega) (by decide) h0 hi fun v' hv' => k v' ⟨vs.drop i, by simpa using hv', by simp [h2], fun j hj => ?_⟩
  rw [List.length_drop] at hj
  obtain ⟨w, g1, g2⟩ := h3 (i + j) (by omega)
  refine ⟨w, by rw [List.getElem?_drop]; exact g1, ?_⟩
  rwa [show (ls.drop i).getD j [] = ls.getD (i + j) [] by simp [List.getD, List.getElem?_drop]]

theorem l07Before_ok (h : Ints H v l) (g : Ints H u m) (hl : l.length ≤ 1000000) (hm : m.length ≤ 1000000) (k : K (.bool (decide (cmpR l m < 0))) H) : AC Tryz.prog T0 157 [v, u] H K := by
  apply F157.ac
  unfold F157.B10 F157.B9
  refine h.len (g.len (pif_cases (fun hb => ?_) fun hb => ?_))
  · have hne : l.length ≠ m.length := by intro e; rw [e] at hb; simp at hb
    unfold F157.B8
    refine h.len (g.len ?_)
    have e : decide (((l.length : Nat) : Int) < ((m.length : Nat) : Int)) = decide (cmpR l m < 0) := by
      unfold cmpR
      by_cases h1 : l.length < m.length
      · rw [if_pos h1]; simp [h1]
      · rw [if_neg h1, if_pos (by omega)]; simp; omega
    rw [e]; exact k
  · have heq : l.length = m.length := by have := bne_eq_false_iff_eq.1 hb; omega
    have hc : cmpR l m = lexC l m := by unfold cmpR; rw [if_neg (by omega), if_neg (by omega)]
    rw [hc] at k
    unfold F157.B7 F157.L2
    refine ⟨fun x0 x1 x5 G => v = x0 ∧ u = x1 ∧ H = G ∧ ∃ i : Nat, x5 = i ∧ i ≤ l.length ∧ ∀ j, j < i → l.getD j 0 = m.getD j 0, fun _ _ x5 _ => l.length - x5.toNat, ⟨rfl, rfl, rfl, 0, rfl, by omega, fun j hj => by omega⟩, ?_⟩
    rintro x0 x1 x5 G ⟨rfl, rfl, rfl, i, rfl, hi, hp⟩
    have hd := lexC_drop hi (by omega) hp
    unfold F157.B6
    refine h.len (pif_cases (fun hb => ?_) fun hb => ?_)
    · have hlt : i < l.length := by have := of_decide_eq_true hb; omega
      unfold F157.B5
      refine h.rd (by omega) (by omega) (g.rd (by omega) (by omega) ?_)
      rw [Int.toNat_natCast]
      have e : lexC l m = if l.getD i 0 < m.getD i 0 then -1 else if m.getD i 0 < l.getD i 0 then 1 else lexC (l.drop (i + 1)) (m.drop (i + 1)) := by
        rw [hd, List.drop_eq_getElem_cons hlt, List.drop_eq_getElem_cons (show i < m.length by omega), getD_of hlt, getD_of (show i < m.length by omega)]
        conv => lhs; unfold lexC
      refine pif_cases (fun hq => ?_) fun hq => ?_
      · have hne : l.getD i 0 ≠ m.getD i 0 := by simpa using hq
        unfold F157.B4
        refine h.rd (by omega) (by omega) (g.rd (by omega) (by omega) ?_)
        rw [Int.toNat_natCast]
        rw [e] at k
        by_cases h1 : l.getD i 0 < m.getD i 0
        · rw [if_pos h1] at k; rw [decide_eq_true h1]; exact k
        · rw [if_neg h1, if_pos (by omega)] at k; rw [decide_eq_false h1]; exact k
      · have heq' : l.getD i 0 = m.getD i 0 := bne_eq_false_iff_eq.1 hq
        unfold F157.B3
        rw [wrap_id (by omega) (by omega)]
        refine ⟨⟨rfl, rfl, rfl, i + 1, by omega, by omega, fun j hj => ?_⟩, by simp; omega⟩
        by_cases ej : j = i
        · subst ej; exact heq'
        · exact hp j (by omega)
    · have hge : i = l.length := by have := of_decide_eq_false hb; omega
      unfold F157.B1
      rw [hd, hge, List.drop_length, show m.drop l.length = [] by rw [heq, List.drop_length]] at k
      exact k

/-- What a merge keeps. -/
structure Mrg (one two : List (List Int)) (i k : Nat) (R : List (List Int)) : Prop where
  perm : R.Perm (one.take i ++ two.take k)
  srt : R.Pairwise (LeC cmpR)
  le1 : ∀ r ∈ R, ∀ j, i ≤ j → j < one.length → LeC cmpR r (one.getD j [])
  le2 : ∀ r ∈ R, ∀ j, k ≤ j → j < two.length → LeC cmpR r (two.getD j [])
theorem pair_get {L : List (List Int)} (h : L.Pairwise (LeC cmpR)) {i j : Nat} (hij : i ≤ j) (hj : j < L.length) : LeC cmpR (L.getD i []) (L.getD j []) := by
  by_cases e : i = j
  · subst e; exact cmpR_ord.rfl _
  · rw [getD_of (show i < L.length by omega), getD_of hj]
    exact (List.pairwise_iff_getElem.1 h) i j (by omega) hj (by omega)
theorem Mrg.left {one two : List (List Int)} {i k : Nat} (h : Mrg one two i k R) (h1 : one.Pairwise (LeC cmpR)) (h2 : two.Pairwise (LeC cmpR)) (hi : i < one.length) (hk : k < two.length → LeC cmpR (one.getD i []) (two.getD k [])) : Mrg one two (i + 1) k (R ++ [one.getD i []]) := by
  refine ⟨?_, ?_, fun r hr j hj1 hj2 => ?_, fun r hr j hj1 hj2 => ?_⟩
  · rw [List.take_succ_eq_append_getElem hi, ← getD_of (d := []) hi]
    have e1 : (one.take i ++ [one.getD i []] ++ two.take k).Perm (one.take i ++ two.take k ++ [one.getD i []]) := by
      rw [List.append_assoc, List.append_assoc]
      exact List.Perm.append_left _ List.perm_append_comm
    exact (h.perm.append_right _).trans e1.symm
  · rw [List.pairwise_append]
    exact ⟨h.srt, by simp, fun a ha b hb => by rw [List.mem_singleton.1 hb]; exact h.le1 a ha i (Nat.le_refl _) hi⟩
  · rcases List.mem_append.1 hr with hr | hr
    · exact h.le1 r hr j (by omega) hj2
    · rw [List.mem_singleton.1 hr]; exact pair_get h1 (by omega) hj2
  · rcases List.mem_append.1 hr with hr | hr
    · exact h.le2 r hr j hj1 hj2
    · rw [List.mem_singleton.1 hr]; exact cmpR_ord.tr _ _ _ (hk (by omega)) (pair_get h2 hj1 hj2)
theorem Mrg.right {one two : List (List Int)} {i k : Nat} (h : Mrg one two i k R) (h1 : one.Pairwise (LeC cmpR)) (h2 : two.Pairwise (LeC cmpR)) (hk : k < two.length) (hi : i < one.length → LeC cmpR (two.getD k []) (one.getD i [])) : Mrg one two i (k + 1) (R ++ [two.getD k []]) := by
  refine ⟨?_, ?_, fun r hr j hj1 hj2 => ?_, fun r hr j hj1 hj2 => ?_⟩
  · rw [List.take_succ_eq_append_getElem hk, ← getD_of (d := []) hk, ← List.append_assoc]
    exact h.perm.append_right _
  · rw [List.pairwise_append]
    exact ⟨h.srt, by simp, fun a ha b hb => by rw [List.mem_singleton.1 hb]; exact h.le2 a ha k (Nat.le_refl _) hk⟩
  · rcases List.mem_append.1 hr with hr | hr
    · exact h.le1 r hr j hj1 hj2
    · rw [List.mem_singleton.1 hr]; exact cmpR_ord.tr _ _ _ (hi (by omega)) (pair_get h1 hj1 hj2)
  · rcases List.mem_append.1 hr with hr | hr
    · exact h.le2 r hr j (by omega) hj2
    · rw [List.mem_singleton.1 hr]; exact pair_get h2 (by omega) hj2
/-- A growing list whose rows are readable in an older heap. -/
def Grow (Hm G : AHeap) (v : Value) (R : List (List Int)) : Prop := ∃ vs : List Value, Fresh Hm.length G v 28 1 vs ∧ vs.length = R.length ∧ ∀ i, i < R.length → ∃ w, vs[i]? = some w ∧ Ints Hm w (R.getD i [])
theorem Grow.push {Hm : AHeap} {r : List Int} (h : Grow Hm G v R) (hl : Hm.le G) (hw : Ints Hm w r) (hs : R.length < 1000000000) (k : ∀ v' G', Hm.le G' → Grow Hm G' v' (R ++ [r]) → K v' G') :
    pif w.oneCell' (newK G [w] 28 (fun b1 H2 => apK T0 28 H2 v (.slice (some ⟨b1, 0, none⟩) 1 (1 + 1)) K)) False := by
  have hw1 : w.oneCell' = true := ints_one hw
  refine pif_t hw1 ?_
  obtain ⟨vs, h1, h2, h3⟩ := h
  refine h1.sl.pushN E_row (by decide) hl.1 (n := 1) (ys := [w]) rfl (by simpa using hw1) (by simp; omega) (by simp) fun v' G' k1 _ _ f' => k v' G' (k1.le hl (Nat.le_refl _)) ⟨vs ++ [w], f', by simp [h2], fun i hi => ?_⟩
  rw [List.length_append, List.length_singleton] at hi
  by_cases e : i < R.length
  · obtain ⟨w', q1, q2⟩ := h3 i e
    exact ⟨w', by rw [List.getElem?_append_left (by omega)]; exact q1, by rw [show (R ++ [r]).getD i [] = R.getD i [] by simp [List.getD, List.getElem?_append_left e]]; exact q2⟩
  · obtain rfl : i = R.length := by omega
    refine ⟨w, by rw [List.getElem?_append_right (by omega)]; simp [h2], ?_⟩
    rwa [show (R ++ [r]).getD R.length [] = r by simp [List.getD]]
theorem Grow.toS {Hm : AHeap} (h : Grow Hm G v R) (hl : Hm.le G) : RowsS G v R := by
  obtain ⟨vs, h1, h2, h3⟩ := h
  exact ⟨vs, h1.less (Nat.zero_le _) |>.sl, h2, fun i hi => by obtain ⟨w, g1, g2⟩ := h3 i hi; exact ⟨w, g1, g2.le hl⟩⟩

theorem l07Merge_ok : ∀ (N : Nat) {H : AHeap} {v : Value} {ls : List (List Int)} {K : Value → AHeap → Prop}, ls.length ≤ N → ls.length ≤ 100000000 → (∀ r ∈ ls, r.length ≤ 1000000) → RowsS H v ls →
    (∀ v' R G, H.le G → RowsS G v' R → R.Perm ls → R.Pairwise (LeC cmpR) → K v' G) → AC Tryz.prog T0 109 [v] H K := by
  intro N
  induction N with
  | zero =>
    intro H v ls K hN hl hr h k
    have h0 : ls = [] := List.length_eq_zero_iff.1 (by omega)
    subst h0
    apply F109.ac
    unfold F109.B14 F109.B13
    refine h.len (pif_t (by decide) ?_)
    unfold F109.B12
    exact k v [] H (AHeap.le_refl _) h (List.Perm.refl _) List.Pairwise.nil
  | succ N ih =>
    intro H v ls K hN hl hr h k
    apply F109.ac
    unfold F109.B14 F109.B13
    refine h.len (pif_cases (fun hb => ?_) fun hb => ?_)
    · have h2 : ls.length < 2 := by have := of_decide_eq_true hb; omega
      unfold F109.B12
      refine k v ls H (AHeap.le_refl _) h (List.Perm.refl _) ?_
      match ls, h2 with
      | [], _ => exact List.Pairwise.nil
      | [a], _ => simp
    · have h2 : 2 ≤ ls.length := by have := of_decide_eq_false hb; omega
      have hd : IntKind.i64.wrap (Int.tdiv (ls.length : Int) 2) = ((ls.length / 2 : Nat) : Int) := by
        rw [Int.tdiv_eq_ediv_of_nonneg (by omega), wrap_id (by omega) (by omega)]; omega
      unfold F109.B11
      refine h.len (h.cutHi hd (by omega) (by omega) fun v2 r2 => h.len (h.cutLo hd (by omega) (by omega) fun v4 r4 => ?_))
      refine ih (ls := ls.take (ls.length / 2)) (by rw [List.length_take]; omega) (by rw [List.length_take]; omega) (fun r hr' => hr r (List.mem_of_mem_take hr')) r2 fun x3 one H6 l6 s3 p3 q3 => ⟨l6, ?_⟩
      refine ih (ls := ls.drop (ls.length / 2)) (by rw [List.length_drop]; omega) (by rw [List.length_drop]; omega) (fun r hr' => hr r (List.mem_of_mem_drop hr')) (r4.le l6) fun x4 two H9 l9 s4 p4 q4 => ?_
      have s3 := s3.le l9
      have l09 := AHeap.le_trans l6 l9
      have hpl := p3.length_eq
      have hpl4 := p4.length_eq
      rw [List.length_take] at hpl
      rw [List.length_drop] at hpl4
      have hro : ∀ r ∈ one, r.length ≤ 1000000 := fun r hr' => hr r (List.mem_of_mem_take (p3.mem_iff.1 hr'))
      have hrt : ∀ r ∈ two, r.length ≤ 1000000 := fun r hr' => hr r (List.mem_of_mem_drop (p4.mem_iff.1 hr'))
      unfold F109.B10
      refine newK_f rfl fun H10 l10 n10 o10 => ?_
      unfold F109.B9 F109.L2
      refine ⟨fun y3 y4 x5 x6 x7 G => x3 = y3 ∧ x4 = y4 ∧ H9.le G ∧ ∃ (i k : Nat) (R : List (List Int)), x6 = i ∧ x7 = k ∧ i ≤ one.length ∧ k ≤ two.length ∧ Mrg one two i k R ∧ Grow H9 G x5 R, fun _ _ _ x6 x7 _ => (one.length - x6.toNat) + (two.length - x7.toNat),
        ⟨rfl, rfl, l10, 0, 0, [], rfl, rfl, by omega, by omega, ⟨by simp, List.Pairwise.nil, fun r hr => absurd hr (by simp), fun r hr => absurd hr (by simp)⟩, [], .inr ⟨_, 0, Nat.le_refl _, rfl, o10, rfl⟩, rfl, fun i hi => absurd hi (by simp)⟩, ?_⟩
      rintro y3 y4 x5 x6 x7 G ⟨rfl, rfl, lG, i, kk, R, rfl, rfl, hi, hk, hM, hG⟩
      have hRl : R.length = i + kk := by
        have := hM.perm.length_eq
        rw [List.length_append, List.length_take, List.length_take] at this; omega
      have left : ∀ G', H9.le G' → Grow H9 G' x5 R → i < one.length → (kk < two.length → LeC cmpR (one.getD i []) (two.getD kk [])) → F109.B4 K (fun z3 z4 z5 z6 z7 G' => (x3 = z3 ∧ x4 = z4 ∧ H9.le G' ∧ ∃ (i k : Nat) (R : List (List Int)), z6 = i ∧ z7 = k ∧ i ≤ one.length ∧ k ≤ two.length ∧ Mrg one two i k R ∧ Grow H9 G' z5 R) ∧ (one.length - z6.toNat) + (two.length - z7.toNat) < (one.length - (i : Int).toNat) + (two.length - (kk : Int).toNat)) x3 x4 x5 i kk G' := by
        intro G' lG' hG hlt hle
        unfold F109.B4
        refine s3.row lG' rfl hlt fun w hw => hG.push lG' hw (by omega) fun v' G2 l2 g2 => ?_
        unfold F109.B3
        rw [wrap_id (by omega) (by omega)]
        exact ⟨⟨rfl, rfl, l2, i + 1, kk, _, by omega, rfl, by omega, by omega, hM.left q3 q4 hlt hle, g2⟩, by simp; omega⟩
      have right : ∀ G', H9.le G' → Grow H9 G' x5 R → kk < two.length → (i < one.length → LeC cmpR (two.getD kk []) (one.getD i [])) → F109.B6 K (fun z3 z4 z5 z6 z7 G' => (x3 = z3 ∧ x4 = z4 ∧ H9.le G' ∧ ∃ (i k : Nat) (R : List (List Int)), z6 = i ∧ z7 = k ∧ i ≤ one.length ∧ k ≤ two.length ∧ Mrg one two i k R ∧ Grow H9 G' z5 R) ∧ (one.length - z6.toNat) + (two.length - z7.toNat) < (one.length - (i : Int).toNat) + (two.length - (kk : Int).toNat)) x3 x4 x5 i kk G' := by
        intro G' lG' hG hlt hle
        unfold F109.B6
        refine s4.row lG' rfl hlt fun w hw => hG.push lG' hw (by omega) fun v' G2 l2 g2 => ?_
        unfold F109.B5
        rw [wrap_id (by omega) (by omega)]
        exact ⟨⟨rfl, rfl, l2, i, kk + 1, _, rfl, by omega, by omega, by omega, hM.right q3 q4 hlt hle, g2⟩, by simp; omega⟩
      have grow : ∀ G', G.le G' → Grow H9 G' x5 R := fun G' l' => by
        obtain ⟨vs, g1, g2, g3⟩ := hG
        exact ⟨vs, g1.le l', g2, g3⟩
      have mid : (i < one.length ∨ kk < two.length) → F109.B7 K (fun z3 z4 z5 z6 z7 G' => (x3 = z3 ∧ x4 = z4 ∧ H9.le G' ∧ ∃ (i k : Nat) (R : List (List Int)), z6 = i ∧ z7 = k ∧ i ≤ one.length ∧ k ≤ two.length ∧ Mrg one two i k R ∧ Grow H9 G' z5 R) ∧ (one.length - z6.toNat) + (two.length - z7.toNat) < (one.length - (i : Int).toNat) + (two.length - (kk : Int).toNat)) x3 x4 x5 i kk G := by
        intro hor
        unfold F109.B7
        refine s4.len (pif_cases (fun hb => ?_) fun hb => s3.len (pif_cases (fun hc => ?_) fun hc => ?_))
        · have hke : kk = two.length := by have := beq_iff_eq.1 hb; omega
          exact left G lG hG (by omega) fun h => by omega
        · have hkl : kk < two.length := by
            have : kk ≠ two.length := by intro e; rw [e] at hb; simp at hb
            omega
          have hil : i < one.length := by have := of_decide_eq_true hc; omega
          refine s4.row lG rfl hkl fun w hw => s3.row lG rfl hil fun w' hw' => l07Before_ok (hw.le lG) (hw'.le lG) (hrt _ (by rw [getD_of hkl]; exact List.getElem_mem _)) (hro _ (by rw [getD_of hil]; exact List.getElem_mem _)) (asB_mk (pif_cases (fun hq => ?_) fun hq => ?_))
          · have : ¬ cmpR (two.getD kk []) (one.getD i []) < 0 := by simpa using hq
            exact left G lG hG hil fun _ => this
          · have : cmpR (two.getD kk []) (one.getD i []) < 0 := by simpa using hq
            exact right G lG hG hkl fun _ => cmpR_ord.lt this
        · have hie : i = one.length := by have := of_decide_eq_false hc; omega
          exact right G lG hG (by omega) fun h => by omega
      unfold F109.B8
      refine s3.len (pif_cases (fun hb => mid (.inl (by have := of_decide_eq_true hb; omega))) fun hb => s4.len (pif_cases (fun hc => mid (.inr (by have := of_decide_eq_true hc; omega))) fun hc => ?_))
      have hie : i = one.length := by have := of_decide_eq_false hb; omega
      have hke : kk = two.length := by have := of_decide_eq_false hc; omega
      subst hie hke
      unfold F109.B1
      have hp := hM.perm
      rw [List.take_length, List.take_length] at hp
      refine k x5 R G (AHeap.le_trans l09 lG) (hG.toS lG) ?_ hM.srt
      have := hp.trans (p3.append p4)
      rwa [List.take_append_drop] at this
end Go.Proofs
/- Contracts: all cycles, both sides; lists of lists compared. -/
set_option linter.unusedVariables false
set_option linter.unusedSimpArgs false
set_option maxRecDepth 100000
namespace Go.Proofs
open Go.Abs

variable {H G : AHeap} {v u f w : Value} {l m : List Int} {es fs : List (Int × Int)} {K : Value → AHeap → Prop} {n : Int} {A : Nat → Prop} {B : Nat} {ls ms R : List (List Int)}

theorem eqRS_ok (h : RowsF A B H v ls) (g : RowsS H u ms) (hl : ls.length ≤ 4294967296) (hr : ∀ l ∈ ls, l.length ≤ 4294967296) (k : K (.bool (decide (ls = ms))) H) : AC Tryz.prog T0 43 [v, u] H K := by
  apply F43.ac
  unfold F43.B10 F43.B9
  refine h.len (g.len (pif_cases (fun hb => ?_) fun hb => ?_))
  · unfold F43.B8
    rw [decide_eq_false (by rintro rfl; simp at hb)] at k; exact k
  · have hlen : ls.length = ms.length := by simp at hb; omega
    unfold F43.B7 F43.L2
    refine ⟨fun x0 x1 x5 G => v = x0 ∧ u = x1 ∧ H = G ∧ ∃ i : Nat, x5 = i ∧ i ≤ ls.length ∧ ∀ j, j < i → ls.getD j [] = ms.getD j [], fun _ _ x5 _ => ls.length - x5.toNat, ⟨rfl, rfl, rfl, 0, rfl, by omega, fun j hj => absurd hj (by omega)⟩, ?_⟩
    rintro x0 x1 x5 G ⟨rfl, rfl, rfl, i, rfl, hi, heq⟩
    unfold F43.B6
    refine h.len (pif_cases (fun hb => ?_) fun hb => ?_)
    · have hlt : i < ls.length := by have := of_decide_eq_true hb; omega
      unfold F43.B5
      refine h.row hlt fun w1 f1 => g.row (AHeap.le_refl _) rfl (by omega) fun w2 f2 => eqInt64S_ok f1.ints f2 (by rw [getD_of hlt]; exact hr _ (List.getElem_mem hlt)) (asB_mk (pif_cases (fun hs => ?_) fun hs => ?_))
      · unfold F43.B4
        rw [decide_eq_false (by rintro rfl; simp at hs)] at k; exact k
      · unfold F43.B3
        rw [wrap_id (by omega) (by omega)]
        refine ⟨⟨rfl, rfl, rfl, i + 1, by omega, by omega, fun j hj => ?_⟩, by simp; omega⟩
        by_cases e : j = i
        · subst e; simpa using hs
        · exact heq j (by omega)
    · have hge : i = ls.length := by have := of_decide_eq_false hb; omega
      unfold F43.B1
      have : ls = ms := by
        apply List.ext_getElem hlen
        intro j h1 h2
        have := heq j (by omega)
        rwa [getD_of h1, getD_of h2] at this
      rw [decide_eq_true this] at k; exact k
/-- In order. -/
noncomputable def srtR (l : List (List Int)) : List (List Int) := l.mergeSort fun a b => decide (LeC cmpR a b)
theorem srtR_eq {S : List (List Int)} (h1 : S.Pairwise (LeC cmpR)) (h2 : S.Perm ls) : S = srtR ls := by
  refine sorted_same (le := LeC cmpR) (fun a b h1 h2 => ?_) h1 ?_ (h2.trans (List.mergeSort_perm ls _).symm)
  · have e1 := cmpR_le.1 h1
    have e2 := cmpR_le.1 h2
    have e3 := cmpR_neg a b
    exact cmpR_zero (by omega)
  · have := List.pairwise_mergeSort (le := fun a b => decide (LeC cmpR a b)) (fun a b c h1 h2 => by
      rw [decide_eq_true_iff] at *; exact cmpR_ord.tr _ _ _ h1 h2) (fun a b => by
      by_cases h : cmpR a b < 0
      · rw [Bool.or_eq_true]; left; exact decide_eq_true (cmpR_ord.lt h)
      · rw [Bool.or_eq_true]; right; exact decide_eq_true h) ls
    exact this.imp fun h => of_decide_eq_true h
noncomputable def acL (n : Int) (es : List (Int × Int)) : List (List Int) := if acCode n es = 0 then srtR (cyRows n es) else []
theorem acL_eq (hc : acCode n es = 0) (h1 : R.Pairwise (LeC cmpR)) (h2 : R.Perm (cyRows n es)) : R = acL n es := by
  unfold acL; rw [if_pos hc]; exact srtR_eq h1 h2
theorem cyRows_row (hg : IsG n es) {r : List Int} (h : r ∈ cyRows n es) : r.length ≤ 30 := by
  have := ((cyRows_mem hg).1 h).1.short
  have := hg.ed.len; have := hg.ed.hi; omega
theorem acL_small : (acL n es).length ≤ 100000000 ∧ (∀ l ∈ acL n es, l.length ≤ 4294967296) ∧ totL (acL n es) ≤ 1000000000000 := by
  unfold acL
  split
  · rename_i hc
    obtain ⟨hg, hn⟩ := acCode_zero hc
    have hp : (srtR (cyRows n es)).Perm (cyRows n es) := List.mergeSort_perm _ _
    have h1 : (srtR (cyRows n es)).length ≤ 28697814 := by
      rw [hp.length_eq]; exact Nat.le_trans (cyRows_len hg hn es.length (Nat.le_refl _)) (by decide)
    have h2 : ∀ l ∈ srtR (cyRows n es), l.length ≤ 30 := fun l hl => cyRows_row hg (hp.mem_iff.1 hl)
    have h3 := tot_small (ls := srtR (cyRows n es)) fun l hl => by have := h2 l hl; omega
    exact ⟨by omega, fun l hl => by have := h2 l hl; omega, by omega⟩
  · exact ⟨by simp, by simp, by simp [totL]⟩
theorem specAllC_ok (h : Edges H v es) (hl : es.length ≤ 1048576) (k : ∀ v' G, H.le G → RowsS G v' (acL n es) → K (.tuple ⟨[v', .int .i64 (acCode n es)]⟩) G) : AC Tryz.prog T0 40 [.agg ⟨[.int .i64 n, v]⟩] H K := by
  apply F40.ac
  unfold F40.B6
  refine newK_f (all_iv (edges_one' h)) fun H1 l1 n1 o1 => ?_
  unfold F40.B5
  refine ldI_own o1 rfl (ld1_own o1 rfl (l01Is_ok (h.le l1) hl fun H2 l2 => asB_mk ?_))
  have l02 := AHeap.le_trans l1 l2
  have o2 := o1.le l2
  have nil : RowsS H2 (.slice none 0 0) [] := ⟨[], .nil, rfl, fun i hi => absurd hi (by simp)⟩
  by_cases hg : IsG n es
  rotate_left
  · have hc : acCode n es = 1 := by unfold acCode; rw [if_neg hg]
    rw [decide_eq_false hg]
    refine pif_t rfl ?_
    unfold F40.B2
    have k := k _ H2 l02 (by unfold acL; rw [hc]; exact nil)
    rw [hc] at k; exact k
  rw [decide_eq_true hg]
  refine pif_f rfl ?_
  unfold F40.B4
  refine ldI_own o2 rfl (pif_cases (fun hb => ?_) fun hb => ?_)
  · have hc : acCode n es = 3 := by unfold acCode; rw [if_pos hg, if_pos (of_decide_eq_true hb)]
    unfold F40.B3
    have k := k _ H2 l02 (by unfold acL; rw [hc]; exact nil)
    rw [hc] at k; exact k
  · have hn : n ≤ 12 := by have := of_decide_eq_false hb; omega
    have hc : acCode n es = 0 := by unfold acCode; rw [if_pos hg, if_neg (by omega)]
    unfold F40.B1
    refine ldI_own o2 rfl (ld1_own o2 rfl (l07All_ok (h.le l02) hg hn fun v3 H4 l4 R4 => ?_))
    have hcl : (cyRows n es).length ≤ 28697814 := Nat.le_trans (cyRows_len hg hn es.length (Nat.le_refl _)) (by decide)
    refine l07Merge_ok (cyRows n es).length (Nat.le_refl _) (by omega) (fun r hr => by have := cyRows_row hg hr; omega) R4.toS fun v' R G lG hR hp hs => ?_
    have e := acL_eq hc hs hp
    have k := k v' G (AHeap.le_trans l02 (AHeap.le_trans l4 lG)) (by rw [← e]; exact hR)
    rw [hc] at k; exact k
theorem implAllC_ok (h : Edges H v es) (hl : es.length ≤ 1048576) (k : ∀ v' G, H.le G → RowsF (fun b => H.length ≤ b) G.length G v' (acL n es) → K (.tuple ⟨[v', .int .i64 (acCode n es)]⟩) G) : AC Tryz.prog T0 42 [.agg ⟨[.int .i64 n, v]⟩] H K := by
  refine implAll_ok h hl fun v' rows G lG h0 h1 hR => k v' G lG ?_
  by_cases hc : acCode n es = 0
  · obtain ⟨hp, hs⟩ := h0 hc
    rw [← acL_eq hc hs hp]; exact hR
  · have e := h1 hc
    unfold acL; rw [if_neg hc, ← e]; exact hR
end Go.Proofs
/- The law of AllCycles. -/
set_option linter.unusedVariables false
set_option linter.unusedSimpArgs false
set_option maxRecDepth 100000
namespace Go.Proofs
open Go.Abs

theorem allCycles_law (H : AHeap) (vs : List Value) (hv : AVs T0 H [51] vs) : AC Tryz.prog T0 5 vs H (fun v _ => v = .bool true) := by
  obtain ⟨v0, vs, rfl, a0, rfl⟩ := hv
  obtain ⟨n0, ve0, es0, rfl, he0, hel0⟩ := av_graph a0
  apply F5.ac
  unfold F5.B34
  refine newK_f (all_iv (edges_one' he0)) fun H1 l1 n1 o1 => ?_
  have he0 := he0.le l1
  unfold F5.B33 F5.B32
  refine ldI_own o1 rfl (ld1_own o1 rfl (szGraph_ok he0 hel0 (by decide) (by decide) (edges_one' he0) fun H2 l2 => asI_mk ?_))
  have he0 := he0.le l2; have o1 := o1.le l2
  unfold F5.B31
  refine pif_cases (fun _ => by unfold F5.B30; rfl) fun hs => ?_
  have s0 : es0.length ≤ 1048576 := by
    have := of_decide_eq_false hs
    split at this <;> omega
  -- the reference
  unfold F5.B29
  refine ldI_own o1 rfl (ld1_own o1 rfl (toGraph_ok he0 (by omega) fun p0 H3 l3 fp0 => agg2_mk (asI_mk ?_)))
  have he0 := he0.le l3; have o1 := o1.le l3
  refine specAllC_ok fp0.edges s0 fun w H4 l4 fw => tup2_mk (asI_mk ?_)
  have he0 := he0.le l4; have o1 := o1.le l4; have fp0 := fp0.le l4
  have he0_ := he0
  have o1_ := o1
  have hw := fw
  have hw_ := hw
  obtain ⟨hwl, hwr, hwt⟩ : (acL n0 es0).length ≤ 100000000 ∧ (∀ l ∈ acL n0 es0, l.length ≤ 4294967296) ∧ totL (acL n0 es0) ≤ 1000000000000 := by exact acL_small
  have cw := AHeap.le_refl H4
  -- the program
  unfold F5.B28
  refine ldI_own o1 rfl (ld1_own o1 rfl (toGraph_ok he0 (by omega) fun x0 H5 l5 f0 => agg2_mk (asI_mk ?_)))
  have e7 : x0.oneCell' = true := edges_one' f0.edges
  refine newK_f rfl fun H6 l6 n6 o0 => stK_f o0 (by simp) (mem_iv e7) rfl fun H7 b0 o9 => ?_
  have l7 : H4.le H7 := b0.le (AHeap.le_trans l5 l6) l5.1
  have fx0 : Fresh H4.length H7 x0 78 2 (LE es0) := by
    rcases f0 with f0 | ⟨c, k, q1, q2, q3, q4⟩
    · exact .inl f0
    · exact .inr ⟨c, k, q1, q2, b0.own (l6.2 _ _ q3) (by have := lt_of_get q3; omega), q4⟩
  have g0 : ∀ c k, x0 = .slice (some ⟨c, 0, none⟩) k (k + 1) → c < H7.length := fun c k e => (fx0.lt e).2
  have d0 := l7.1
  have he0 := he0.le l7; have o1 := o1.le l7; have hw := hw.le l7
  have cw := AHeap.le_trans cw l7
  unfold F5.B27
  refine ldI_own o9 rfl (ld1_own o9 rfl (implAllC_ok fx0.edges s0 fun g H8 l8 fg => tup2_mk (asI_mk ?_)))
  have dg := l8.1
  have he0 := he0.le l8; have o1 := o1.le l8; have hw := hw.le l8; have o9 := o9.le l8; have fx0 := fx0.le l8
  have cw := AHeap.le_trans cw l8
  -- the same answer
  unfold F5.B26
  refine eqRS_ok fg hw (by omega) hwr (asB_mk (pif_f (by simp) (pif_f (by simp) ?_)))
  unfold F5.B24
  refine ldI_own o9 rfl (ld1_own o9 rfl (ldI_own o1 rfl (ld1_own o1 rfl (toGraph_ok he0 (by omega) fun y0 H9 l9 fy => agg2_mk (asI_mk ⟨l9, eqGraph_ok (fx0.edges.le l9) fy.edges (by omega) fun H10 l10 => asB_mk (pif_f (by simp) ?_)⟩)))))
  have l10 := AHeap.le_trans l9 l10
  have he0 := he0.le l10; have o1 := o1.le l10; have hw := hw.le l10; have o9 := o9.le l10; have fx0 := fx0.le l10; have fg := fg.le l10
  have cw := AHeap.le_trans cw l10
  -- the marks
  unfold F5.B22 F5.B21
  refine ldI_own o9 rfl (ld1_own o9 rfl (markGraph_ok (by decide) (by omega) fx0 fun M0 m0 => asI_mk ?_))
  have lm0 := m0.le fx0 (by omega) cw
  have fg := fg.move (G := M0) fun b o ha _ ho => m0.same b o ho fun n hn => by have : H7.length ≤ b := ha; have := g0 b n hn; omega
  unfold F5.B20
  refine pif_f (decide_eq_false (by omega)) (eqRS_ok fg (hw_.le lm0) (by omega) hwr (asB_mk (pif_f (by simp) (pif_f (by simp) ?_))))
  -- the second answer
  unfold F5.B18 F5.B17
  refine markInt64SS_ok (by decide) (by omega) (by omega) fg fun M m fg' => asI_mk ?_
  have lm := m.le (fun b hb => by have : H7.length ≤ b := hb; omega) lm0
  have fg := fg'
  have hm := totL_mark 1 (acL n0 es0)
  unfold F5.B16 F5.B15
  refine heldInt64SS_ok (by decide) (by omega) (by rw [markL_length]; omega) fg (markL_idem _ _).symm (asI_mk ?_)
  unfold F5.B14
  refine pif_f (decide_eq_false (by omega)) ?_
  unfold F5.B12
  refine pif_f (by rw [hm]; simp) ?_
  unfold F5.B10
  have he0 := he0_.le lm
  have o1 := o1_.le lm
  have hw := hw_.le lm
  refine ldI_own o1 rfl (ld1_own o1 rfl (toGraph_ok he0 (by omega) fun z0 H11 l11 fz0 => agg2_mk (asI_mk ?_)))
  have he0 := he0.le l11; have o1 := o1.le l11; have fg := fg.le l11; have hw := hw.le l11
  refine implAllC_ok fz0.edges s0 fun h H12 l12 fh => tup2_mk (asI_mk ?_)
  have fg := fg.le l12; have hw := hw.le l12
  unfold F5.B9
  refine eqRS_ok fh hw (by omega) hwr (asB_mk (pif_f (by simp) (pif_f (by simp) ?_)))
  unfold F5.B7 F5.B6
  refine heldInt64SS_ok (by decide) (by omega) (by rw [markL_length]; omega) fg (markL_idem _ _).symm (asI_mk ?_)
  unfold F5.B5
  refine pif_f (decide_eq_false (by omega)) ?_
  unfold F5.B3
  refine pif_f (by rw [hm]; simp) ?_
  unfold F5.B1
  rfl
end Go.Proofs
