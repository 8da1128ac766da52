/- Contracts: products in two words, a value told again and again. -/
import Derived.Test.YtfcflpcmjlbedabU2
set_option linter.unusedVariables false
set_option linter.unusedSimpArgs false
set_option maxRecDepth 100000
namespace Go.Proofs
open Go.Abs

variable {H : AHeap} {v u f : Value} {l m c : List Int} {es fs : List (Int × Int)} {K : Value → AHeap → Prop}

theorem and32 {y : Int} (h0 : 0 ≤ y) (h1 : y < 4294967296) : IntKind.u64.wrap (((BitVec.ofInt 64 y &&& BitVec.ofInt 64 4294967295).toNat : Nat) : Int) = y := by
  obtain ⟨n, rfl⟩ := Int.eq_ofNat_of_zero_le h0
  have h : (BitVec.ofInt 64 ((n : Nat) : Int) &&& BitVec.ofInt 64 4294967295).toNat = n := by
    rw [BitVec.toNat_and, show (BitVec.ofInt 64 4294967295).toNat = 2 ^ 32 - 1 from by decide, Nat.and_two_pow_sub_one_eq_mod]
    simp only [BitVec.ofInt_natCast, BitVec.toNat_ofNat]
    omega
  rw [h]
  simp only [IntKind.wrap, IntKind.bits, IntKind.signed, Bool.false_and, Bool.false_eq_true, if_false]
  omega
theorem mul64_ok {y : Int} (h0 : 0 ≤ y) (h1 : y < 4294967296) (k : K (.tuple ⟨[.int .u64 0, .int .u64 y]⟩) H) : AC Try.prog T0 201 [.int .u64 1, .int .u64 y] H K := by
  apply F201.ac
  have e0 : Int.fdiv y (2 ^ (min (Int.toNat 32) 64)) = 0 := by
    rw [show (2 : Int) ^ (min (Int.toNat 32) 64) = 4294967296 from by decide, Int.fdiv_eq_ediv_of_nonneg _ (by decide)]; omega
  have w : ∀ z : Int, 0 ≤ z → z < 4294967296 → IntKind.u64.wrap z = z := by
    intro z a b; simp only [IntKind.wrap, IntKind.bits, IntKind.signed, Bool.false_and, Bool.false_eq_true, if_false]; omega
  unfold F201.B12 F201.B11 F201.B10
  rw [and32 (by decide) (by decide)]
  refine ⟨by decide, ?_⟩
  rw [show Int.fdiv 1 (2 ^ (min (Int.toNat 32) 64)) = 0 from by decide]
  unfold F201.B9 F201.B8
  rw [and32 h0 h1]
  refine ⟨by decide, ?_⟩
  rw [e0]
  unfold F201.B7 F201.B6
  refine ⟨by decide, ?_⟩
  rw [Int.one_mul, w y h0 h1, e0, Int.zero_mul, w 0 (by decide) (by decide), show (0 : Int) + 0 = 0 from rfl, w 0 (by decide) (by decide)]
  unfold F201.B5 F201.B4
  rw [and32 (by decide) (by decide)]
  refine ⟨by decide, ?_⟩
  rw [show Int.fdiv 0 (2 ^ (min (Int.toNat 32) 64)) = 0 from by decide]
  unfold F201.B3 F201.B2
  refine ⟨by decide, ?_⟩
  simp only [show (1 : Int) * 0 = 0 from rfl, show (0 : Int) * 0 = 0 from rfl, show (0 : Int) + 0 = 0 from rfl, w 0 (by decide) (by decide), show Int.fdiv 0 (2 ^ (min (Int.toNat 32) 64)) = 0 from by decide]
  unfold F201.B1
  rw [Int.one_mul, w y h0 h1]
  exact k
theorem mul_ok {y : Int} (h0 : 0 ≤ y) (h1 : y < 4294967296) (k : K (.tuple ⟨[.int .u64 0, .int .u64 y]⟩) H) : AC Try.prog T0 187 [.int .u64 1, .int .u64 y] H K := by
  apply F187.ac
  unfold F187.B3 F187.B2
  refine mul64_ok h0 h1 ?_
  exact k
end Go.Proofs
