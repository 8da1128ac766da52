/- Contracts: cycles of a set, whether a set is a cycle, both sides. -/
import Derived.Test.YtfcflpcmjlbedabU18
import Derived.Test.YtfcflpcmjlbedabU19
set_option linter.unusedVariables false
set_option linter.unusedSimpArgs false
set_option maxRecDepth 100000
namespace Go.Proofs
open Go.Abs

variable {H G : AHeap} {v u f : Value} {l m c : List Int} {es fs : List (Int × Int)} {K : Value → AHeap → Prop} {A : Nat → Prop} {B : Nat} {ls : List (List Int)}

theorem set_bits {l : List Int} {n : Nat} (h : IsS l n) : filtB (fun j => (setN l).testBit j) n = l := h.filt.symm
theorem set_lt {l : List Int} {n : Nat} (h : IsS l n) (hn : n ≤ 64) : setN l < 2 ^ 64 := setN_lt fun x hx => by have := h.range x hx; omega
/-- Whether a set is a cycle. -/
noncomputable def cycB (n : Int) (es : List (Int × Int)) (l : List Int) : Bool := decide (EvenS n es (bitB l)) && (((cycOf es (bitB l) l).length : Int) == 1)
theorem l07Cycle_ok {n : Int} (h : Edges H v es) (hg : IsG n es) (hc : Ints H u l) (hs : IsS l es.length) (k : ∀ G, H.le G → K (.bool (cycB n es l)) G) : AC Try.prog T0 113 [.agg ⟨[.int .i64 n, v]⟩, u] H K := by
  apply F113.ac
  unfold F113.B2
  refine newK_f (all_iv (edges_one' h)) fun H1 l1 n1 o1 => ?_
  unfold F113.B1
  unfold cycB at k
  refine (hc.le l1).len (pif_cases (fun hb => ?_) fun hb => ?_)
  · refine ldI_own o1 rfl (ld1_own o1 rfl (l07Even_ok (h.le l1) hg (hc.le l1) hs fun H2 l2 => asB_mk (pif_cases (fun he => ?_) fun he => ?_)))
    · have l12 := AHeap.le_trans l1 l2
      refine ldI_own (o1.le l2) rfl (ld1_own (o1.le l2) rfl (l07Cycles_ok (h.le l12) hg (hc.le l12) hs fun v' H3 l3 hR => hR.len ?_))
      have k := k _ (AHeap.le_trans l12 l3)
      rw [he, Bool.true_and] at k; exact k
    · have k := k _ (AHeap.le_trans l1 l2)
      rw [he, Bool.false_and] at k; exact k
  · have hl0 : l = [] := List.length_eq_zero_iff.1 (by have := of_decide_eq_false hb; omega)
    have k := k _ l1
    have e0 : (cycOf es (bitB l) l).length = 0 := by rw [hl0]; rfl
    rw [e0] at k
    simpa using k
theorem isCycle_ok {n : Int} (h : Edges H v es) (hg : IsG n es) (hs : IsS l es.length) (k : ∀ G, H.le G → K (.bool (cycB n es l)) G) : AC Try.prog T0 116 [.agg ⟨[.int .i64 n, v]⟩, .int .u64 (setN l : Nat)] H K := by
  have h30 : es.length ≤ 30 := by have := hg.ed.len; have := hg.ed.hi; omega
  have hsl := set_lt hs (by omega)
  apply F116.ac
  unfold F116.B2
  refine newK_f (all_iv (edges_one' h)) fun H1 l1 n1 o1 => ?_
  unfold F116.B1
  unfold cycB at k
  refine ldI_own o1 rfl (ld1_own o1 rfl (isEven_ok (h.le l1) hg hsl fun H2 l2 => asB_mk ?_))
  rw [show (fun j => (setN l).testBit j) = bitB l from rfl]
  refine pif_cases (fun he => ?_) fun he => ?_
  · have l12 := AHeap.le_trans l1 l2
    refine ldI_own (o1.le l2) rfl (ld1_own (o1.le l2) rfl (cycles_ok (h.le l12) hg hsl (fun j hj => bitB_lt hs hj) fun w H4 l4 f4 => ?_))
    rw [set_bits hs, show (fun j => (setN l).testBit j) = bitB l from rfl] at f4
    refine f4.sl.len (by decide) (n := (cycOf es (bitB l) l).length) (by unfold cycN cycOf; simp) ?_
    have k := k _ (AHeap.le_trans l12 l4)
    rw [he, Bool.true_and] at k; exact k
  · have k := k _ (AHeap.le_trans l1 l2)
    rw [he, Bool.false_and] at k; exact k
end Go.Proofs
