/- Contracts: free edges, both sides. -/
import Derived.Test.YtfcflpcmjlbedabU39
import Derived.Test.YtfcflpcmjlbedabU38
import Derived.Test.YtfcflpcmjlbedabU5
set_option linter.unusedVariables false
set_option linter.unusedSimpArgs false
set_option maxRecDepth 100000
namespace Go.Proofs
open Go.Abs

variable {H G : AHeap} {v u f : Value} {l m c D : List Int} {es fs : List (Int × Int)} {K : Value → AHeap → Prop} {A A' : Nat → Prop} {B : Nat} {ls ms : List (List Int)}

theorem every_ok {n : Int} (h : Edges H v es) (hl : es.length ≤ 60) (k : ∀ G, H.le G → K (.int .u64 ((2 ^ es.length - 1 : Nat) : Int)) G) : AC Try.prog T0 123 [.agg ⟨[.int .i64 n, v]⟩] H K := by
  apply F123.ac
  unfold F123.B2
  refine newK_f (all_iv (edges_one' h)) fun H1 l1 _ o1 => ?_
  unfold F123.B1
  refine ld1_own o1 rfl ((h.le l1).len ⟨by omega, ?_⟩)
  have e1 : IntKind.u64.wrap (1 * 2 ^ (min (Int.toNat ((es.length : Nat) : Int)) 64)) = ((2 ^ es.length : Nat) : Int) := by
    have := one_shl (i := ((es.length : Nat) : Int)) (by omega) (by omega)
    rw [this, Int.toNat_natCast]
  have hp : (2 : Nat) ^ es.length < 2 ^ 61 := Nat.pow_lt_pow_right (by decide) (by omega)
  have h0 := Nat.two_pow_pos es.length
  have e2 : IntKind.u64.wrap (((2 ^ es.length : Nat) : Int) - 1) = ((2 ^ es.length - 1 : Nat) : Int) := by
    generalize 2 ^ es.length = p at hp h0 ⊢
    rw [show ((p : Nat) : Int) - 1 = ((p - 1 : Nat) : Int) by omega, u64_nat (by omega)]
  rw [e1, e2]
  exact k _ l1
theorem bits_andnot {s t : Nat} (h : s < 2 ^ 64) (g : t < 2 ^ 64) : IntKind.u64.wrap ((BitVec.ofInt 64 (s : Int) &&& ~~~(BitVec.ofInt 64 (t : Int))).toNat : Int) = ((s &&& (2 ^ 64 - (t + 1)) : Nat) : Int) := by
  have hs : s &&& (2 ^ 64 - (t + 1)) < 2 ^ 64 := Nat.lt_of_le_of_lt Nat.and_le_left h
  rw [bv_nat, bv_nat, BitVec.toNat_and, BitVec.toNat_not, BitVec.toNat_ofNat, BitVec.toNat_ofNat, Nat.mod_eq_of_lt h, Nat.mod_eq_of_lt g, show 2 ^ 64 - 1 - t = 2 ^ 64 - (t + 1) by omega, u64_nat hs]
theorem andnot_bit {s t j : Nat} (h : s < 2 ^ 64) (g : t < 2 ^ 64) : (s &&& (2 ^ 64 - (t + 1))).testBit j = (s.testBit j && !t.testBit j) := by
  rw [Nat.testBit_and, Nat.testBit_two_pow_sub_succ g]
  by_cases hj : j < 64
  · simp [hj]
  · rw [testBit_big h (by omega)]; simp
end Go.Proofs
