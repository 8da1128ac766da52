/- Contracts: bonds: the asked functions. -/
import Derived.Test.YtfcflpcmjlbedaaU20
import Derived.Test.YtfcflpcmjlbedaaU31
import Derived.Test.YtfcflpcmjlbedaaU32
set_option linter.unusedVariables false
set_option linter.unusedSimpArgs false
set_option maxRecDepth 100000
namespace Go.Proofs
open Go.Abs

variable {H G : AHeap} {v u f : Value} {l m c : List Int} {es fs : List (Int × Int)} {K : Value → AHeap → Prop}

noncomputable def bondB (n : Int) (es : List (Int × Int)) (l : List Int) : Bool := if edCode n es l = 0 then decide (Bond n.toNat es l) else false
theorem specIsBond_ok {n : Int} (h : Edges H v es) (hl : es.length ≤ 1048576) (hc : Ints H u l) (hcl : l.length ≤ 1048576)
    (k : ∀ G, H.le G → K (.tuple ⟨[.bool (bondB n es l), .int .i64 (edCode n es l)]⟩) G) : AC Try.prog T0 33 [.agg ⟨[.int .i64 n, v]⟩, u] H K := by
  apply F33.ac
  unfold F33.B5
  refine newK_f (all_iv (edges_one' h)) fun H1 l1 n1 o1 => ?_
  unfold F33.B4
  refine ldI_own o1 rfl (ld1_own o1 rfl (l03Edges_ok (h.le l1) hl (hc.le l1) hcl fun H2 l2 => asI_mk ?_))
  have l12 := AHeap.le_trans l1 l2
  rw [show (if IsG n es then (if IsS l es.length then 0 else 2) else 1 : Int) = edCode n es l from rfl]
  unfold F33.B3
  unfold bondB at k
  refine pif_cases (fun hs => ?_) fun hs => ?_
  · unfold F33.B2
    have k := k _ l12
    rw [if_neg (bne_iff_ne.1 hs)] at k; exact k
  · have h0 : edCode n es l = 0 := bne_eq_false_iff_eq.1 hs
    obtain ⟨hg, hS⟩ := edCode_zero h0
    unfold F33.B1
    refine ldI_own (o1.le l2) rfl (ld1_own (o1.le l2) rfl (l03Bond_ok (h.le l12) hg (hc.le l12) hS fun H3 l3 => asB_mk ?_))
    have k := k _ (AHeap.le_trans l12 l3)
    rw [if_pos h0, h0] at k; exact k
theorem implIsBond_ok {n : Int} (h : Edges H v es) (hl : es.length ≤ 1048576) (hc : Ints H u l) (hcl : l.length ≤ 1048576)
    (k : ∀ G, H.le G → K (.tuple ⟨[.bool (bondB n es l), .int .i64 (edCode n es l)]⟩) G) : AC Try.prog T0 34 [.agg ⟨[.int .i64 n, v]⟩, u] H K := by
  apply F34.ac
  unfold F34.B5
  refine newK_f (all_iv (edges_one' h)) fun H1 l1 n1 o1 => ?_
  unfold F34.B4
  refine ldI_own o1 rfl (ld1_own o1 rfl (edgesCode_ok (h.le l1) hl (hc.le l1) hcl fun H2 l2 => asI_mk ?_))
  have l12 := AHeap.le_trans l1 l2
  rw [show (if IsG n es then (if IsS l es.length then 0 else 2) else 1 : Int) = edCode n es l from rfl]
  unfold F34.B3
  unfold bondB at k
  refine pif_cases (fun hs => ?_) fun hs => ?_
  · unfold F34.B2
    have k := k _ l12
    rw [if_neg (bne_iff_ne.1 hs)] at k; exact k
  · have h0 : edCode n es l = 0 := bne_eq_false_iff_eq.1 hs
    obtain ⟨hg, hS⟩ := edCode_zero h0
    have h30 : es.length ≤ 30 := by have := hg.ed.len; have := hg.ed.hi; omega
    unfold F34.B1
    refine ldI_own (o1.le l2) rfl (ld1_own (o1.le l2) rfl (setOf_ok (hc.le l12) (by omega) (fun x hx => by have := hS.range x hx; omega) (asI_mk ⟨AHeap.le_refl _, isBond_ok (h.le l12) hg hS fun H3 l3 => asB_mk ?_⟩)))
    have k := k _ (AHeap.le_trans l12 l3)
    rw [if_pos h0, h0] at k; exact k
end Go.Proofs
