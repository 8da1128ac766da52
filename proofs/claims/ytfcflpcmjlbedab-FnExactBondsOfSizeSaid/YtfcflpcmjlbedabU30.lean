/- Contracts: the sides. -/
import Derived.Test.YtfcflpcmjlbedabU29
import Derived.Test.YtfcflpcmjlbedabU17
set_option linter.unusedVariables false
set_option linter.unusedSimpArgs false
set_option maxRecDepth 100000
namespace Go.Proofs
open Go.Abs

variable {H G : AHeap} {v u f : Value} {l m c D : List Int} {es fs : List (Int × Int)} {K : Value → AHeap → Prop}

theorem sides_ok {n : Int} {s : Nat} (h : Edges H v es) (hg : IsG n es) (hs : s < 2 ^ 64)
    (k : ∀ v' G, H.le G → RowsF (fun b => H.length ≤ b) G.length G v' (sidesL (restL es fun j => s.testBit j) n.toNat) → K v' G) :
    AC Try.prog T0 128 [.agg ⟨[.int .i64 n, v]⟩, .int .u64 (s : Nat)] H K := by
  have n0 := hg.ed.lo; have n1 := hg.ed.hi
  apply F128.ac
  unfold F128.B20
  refine newK_f (all_iv (edges_one' h)) fun H1 l1 _ o1 => ?_
  unfold F128.B19 F128.B18 F128.B17
  refine ldI_own o1 rfl ?_
  obtain ⟨fs, hfs⟩ : ∃ fs, fs = restL es fun j => s.testBit j := ⟨_, rfl⟩
  rw [← hfs] at k
  unfold F128.L2
  refine ⟨fun x1 x2 x5 x6 x12 x13 G => ((s : Nat) : Int) = x1 ∧ H.length = x2 ∧ n = x12 ∧ H1.le G ∧ ∃ i : Nat, x13 = i ∧ i ≤ n.toNat ∧ RowsF (fun b => H1.length ≤ b) G.length G x5 (sidesTo fs n.toNat i) ∧
      ∃ z : Nat, x6 = ((z : Nat) : Int) ∧ z < 2 ^ 64 ∧ ∀ w, z.testBit w = true ↔ w < n.toNat ∧ ∃ a, a < i ∧ Rch (vAdj fs) a w,
    fun _ _ _ _ _ x13 _ => n.toNat - x13.toNat, ⟨rfl, rfl, rfl, AHeap.le_refl _, 0, rfl, by omega, .nil, 0, rfl, by decide, fun w => ?_⟩, ?_⟩
  · simp
  rintro x1 x2 x5 x6 x12 x13 G ⟨rfl, rfl, rfl, hG, i, rfl, hi, hR, z, rfl, hz, hzb⟩
  have lG := AHeap.le_trans l1 hG
  have oG := o1.le hG
  unfold F128.B16
  refine pif_cases (fun hb => ?_) fun hb => ?_
  · have hin : i < n.toNat := by have := of_decide_eq_true hb; omega
    have hzi : z.testBit i = !vLeadB fs i := by
      rw [Bool.eq_iff_iff, hzb, Bool.not_eq_true', ← Bool.not_eq_true, vLeadB_iff]
      constructor
      · rintro ⟨_, a, h1, h2⟩ h; exact h a h1 h2
      · intro h
        refine ⟨hin, Classical.byContradiction fun h' => h fun b hb hr => h' ⟨b, hb, hr⟩⟩
    unfold F128.B15 F128.B14
    refine has_ok hz (by omega) (asB_mk ?_)
    rw [Int.toNat_natCast, hzi]
    refine pif_cases (fun hb => ?_) fun hb => ?_
    · have hl : vLeadB fs i = false := by simpa using hb
      unfold F128.B3
      rw [wrap_id (by omega) (by omega)]
      refine ⟨⟨rfl, rfl, rfl, hG, i + 1, by omega, by omega, ?_, z, rfl, hz, fun w => ?_⟩, by simp; omega⟩
      · rw [sidesTo_succ, hl]; simpa using hR
      · rw [hzb]
        refine and_congr_right fun _ => ⟨fun ⟨a, h1, h2⟩ => ⟨a, by omega, h2⟩, fun ⟨a, h1, h2⟩ => ?_⟩
        by_cases e : a = i
        · subst e
          have := (hzb a).1 (by rw [hzi, hl]; rfl)
          obtain ⟨_, b, g1, g2⟩ := this
          exact ⟨b, g1, g2.trans h2⟩
        · exact ⟨a, by omega, h2⟩
    · have hl : vLeadB fs i = true := by simpa using hb
      unfold F128.B13 F128.B12
      refine ldI_own oG rfl (ld1_own oG rfl (distances_ok (h.le lG) hg hs hin fun b0 D G2 l2 hb0 oD hD hfar => ?_))
      rw [← hfs] at hfar
      refine lenK_of ?_
      have hG2 := AHeap.le_trans hG l2
      have hb2 := oD.lt
      have hG2' := hG2.1
      unfold F128.L5
      refine ⟨fun x1 x2 x5' x6 x8 x12 x13 x22 x23 x24 G' => ((s : Nat) : Int) = x1 ∧ H.length = x2 ∧ x5 = x5' ∧ n = x12 ∧ ((i : Nat) : Int) = x13 ∧ .slice (some ⟨b0, 0, none⟩) n.toNat (n.toNat + 1) = x22 ∧ (n.toNat : Int) = x23 ∧ H1.le G' ∧ G2.length ≤ G'.length ∧ Own G' b0 2 (LI D) ∧ RowsF (fun b => H1.length ≤ b) G2.length G' x5 (sidesTo fs n.toNat i) ∧
          ∃ t : Nat, x24 = t ∧ t ≤ n.toNat ∧ Fresh G2.length G' x8 2 1 (LI (filtB (rchB (vAdj fs) i) t)) ∧ ∃ z' : Nat, x6 = ((z' : Nat) : Int) ∧ z' < 2 ^ 64 ∧ ∀ w, z'.testBit w = true ↔ z.testBit w = true ∨ w < t ∧ Rch (vAdj fs) i w,
        fun _ _ _ _ _ _ _ _ _ x24 _ => n.toNat - x24.toNat, ⟨rfl, rfl, rfl, rfl, rfl, rfl, rfl, hG2, Nat.le_refl _, oD, (hR.le l2).mono (fun _ h => h) l2.1, 0, rfl, by omega, .inl ⟨rfl, .inl rfl⟩, z, rfl, hz, fun w => by simp⟩, ?_⟩
      clear oD hR lG oG hG2 hG
      rintro x1 x2 x5' x6 x8 x12 x13 x22 x23 x24 G3 ⟨rfl, rfl, rfl, rfl, rfl, rfl, rfl, hG, hGl, oD, hR, t, rfl, ht, hF, z', rfl, hz', hzb'⟩
      unfold F128.B11
      refine pif_cases (fun hb => ?_) fun hb => ?_
      · have htn : t < n.toNat := by have := of_decide_eq_true hb; omega
        have hft := hfar t htn
        have hfl := filtB_length (rchB (vAdj fs) i) t
        unfold F128.B10
        have oi := own_ints (c := n.toNat + 1) oD
        rw [hD] at oi
        refine oi.rd (by omega) (by omega) ?_
        rw [Int.toNat_natCast]
        unfold F128.B9
        refine pif_cases (fun hb => ?_) fun hb => ?_
        · have hr : Rch (vAdj fs) i t := hft.1 (of_decide_eq_true hb)
          unfold F128.B8
          refine hF.sl.pushN E_int (by decide) hGl (n := 1) (ys := [.int .i64 t]) rfl rfl (by simp; omega) (by simp) fun v' G4 k4 ot4 nb4 f4 => ?_
          unfold F128.B7
          refine ⟨by omega, ?_⟩
          have p64 : 2 ^ t < 2 ^ 64 := Nat.pow_lt_pow_right (by decide) (by omega)
          rw [one_shl (by omega) (by omega), Int.toNat_natCast, bits_or hz' p64]
          unfold F128.B6
          rw [wrap_id (by omega) (by omega)]
          refine ⟨⟨rfl, rfl, rfl, rfl, rfl, rfl, rfl, k4.le hG (by have := hG2'; omega), by have := k4.len; omega, k4.own oD hb2, hR.keep k4, t + 1, by omega, by omega, ?_, z' ||| 2 ^ t, rfl, or_lt hz' p64, fun w => ?_⟩, by simp; omega⟩
          · rw [filtB_succ, rchB_iff.2 hr]; simpa using f4
          · rw [Nat.testBit_or, Nat.testBit_two_pow, Bool.or_eq_true, hzb', decide_eq_true_iff]
            constructor
            · rintro ((h | h) | rfl)
              · exact .inl h
              · exact .inr ⟨by omega, h.2⟩
              · exact .inr ⟨by omega, hr⟩
            · rintro (h | ⟨h1, h2⟩)
              · exact .inl (.inl h)
              · by_cases e : t = w
                · exact .inr e
                · exact .inl (.inr ⟨by omega, h2⟩)
        · have hr : ¬ Rch (vAdj fs) i t := fun h => of_decide_eq_false hb (hft.2 h)
          unfold F128.B6
          rw [wrap_id (by omega) (by omega)]
          refine ⟨⟨rfl, rfl, rfl, rfl, rfl, rfl, rfl, hG, hGl, oD, hR, t + 1, by omega, by omega, ?_, z', rfl, hz', fun w => ?_⟩, by simp; omega⟩
          · rw [filtB_succ, Bool.eq_false_iff.2 fun h => hr (rchB_iff.1 h)]; simpa using hF
          · rw [hzb']
            refine or_congr Iff.rfl ⟨fun ⟨h1, h2⟩ => ⟨by omega, h2⟩, fun ⟨h1, h2⟩ => ⟨?_, h2⟩⟩
            by_cases e : t = w
            · subst e; exact absurd h2 hr
            · omega
      · have htn : t = n.toNat := by have := of_decide_eq_false hb; omega
        subst htn
        have hsl := sidesTo_length fs n.toNat i
        unfold F128.B4
        refine hR.push hGl (fun b hb => by have := hG2'; omega) hF (by omega) fun v' G4 ot nb hlen hR4 => ?_
        unfold F128.B3
        rw [wrap_id (by omega) (by omega)]
        refine ⟨⟨rfl, rfl, rfl, ?_, i + 1, by omega, by omega, ?_, z', rfl, hz', fun w => ?_⟩, by simp; omega⟩
        · refine ⟨by have := hG.1; omega, fun b o ho => ot b o (fun hv => ?_) (hG.2 _ _ ho)⟩
          obtain ⟨vs, _, _, q3, _⟩ := hR
          have := (q3 b hv).1
          have := lt_of_get ho
          omega
        · rw [sidesTo_succ, hl]; exact hR4
        · rw [hzb', hzb]
          constructor
          · rintro (⟨h1, a, h2, h3⟩ | ⟨h1, h2⟩)
            · exact ⟨h1, a, by omega, h3⟩
            · exact ⟨h1, i, by omega, h2⟩
          · rintro ⟨h1, a, h2, h3⟩
            by_cases e : a = i
            · subst e; exact .inr ⟨h1, h3⟩
            · exact .inl ⟨h1, a, by omega, h3⟩
  · have hin : i = n.toNat := by have := of_decide_eq_false hb; omega
    subst hin
    unfold F128.B1
    exact k _ _ lG (hR.mono (fun b hb => by have := l1.1; omega) (Nat.le_refl _))
end Go.Proofs
