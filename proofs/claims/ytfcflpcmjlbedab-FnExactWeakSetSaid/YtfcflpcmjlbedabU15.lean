/- Contracts: even sets, both sides. -/
import Derived.Test.YtfcflpcmjlbedabU12
set_option linter.unusedVariables false
set_option linter.unusedSimpArgs false
set_option maxRecDepth 100000
namespace Go.Proofs
open Go.Abs

variable {H : AHeap} {v u f : Value} {l m c : List Int} {es fs : List (Int × Int)} {K : Value → AHeap → Prop}

theorem u64_sum {a b : Nat} (h : a + b < 2 ^ 64) : IntKind.u64.wrap (((a : Nat) : Int) + ((b : Nat) : Int)) = ((a + b : Nat) : Int) := by
  rw [← Int.natCast_add, u64_nat h]
theorem onesCount_ok {s : Nat} (hs : s < 2 ^ 64) (k : K (.int .i64 (popc s 64 : Nat)) H) : AC Try.prog T0 112 [.int .u64 (s : Nat)] H K := by
  have d64 : ∀ a k : Nat, a < 2 ^ 64 → a / k < 2 ^ 64 := fun a k h => Nat.lt_of_le_of_lt (Nat.div_le_self _ _) h
  apply F112.ac
  unfold F112.B8 F112.B7
  refine ⟨by decide, ?_⟩
  have ma : msk 85 8 = 6148914691236517205 := msk_a
  have mb : msk 51 8 = 3689348814741910323 := msk_b
  have mc : msk 15 8 = 1085102592571150095 := msk_c
  have la : ∀ x, x &&& msk 85 8 ≤ 6148914691236517205 := fun x => by rw [← ma]; exact Nat.and_le_right
  have lb : ∀ x, x &&& msk 51 8 ≤ 3689348814741910323 := fun x => by rw [← mb]; exact Nat.and_le_right
  rw [shr_nat, show min (Int.toNat 1) 64 = 1 from rfl, show (6148914691236517205 : Int) = ((msk 85 8 : Nat) : Int) by rw [ma]; rfl, bits_and (d64 _ _ hs) (by rw [ma]; decide), bits_and hs (by rw [ma]; decide),
    u64_sum (by have := la (s / 2 ^ 1); have := la s; omega), show (s / 2 ^ 1 &&& msk 85 8) + (s &&& msk 85 8) = stA 8 s from rfl]
  have hA : stA 8 s < 2 ^ 64 := by unfold stA; have := la (s / 2); have := la s; omega
  unfold F112.B6
  refine ⟨by decide, ?_⟩
  rw [shr_nat, show min (Int.toNat 2) 64 = 2 from rfl, show (3689348814741910323 : Int) = ((msk 51 8 : Nat) : Int) by rw [mb]; rfl, bits_and (d64 _ _ hA) (by rw [mb]; decide), bits_and hA (by rw [mb]; decide),
    u64_sum (by have := lb (stA 8 s / 2 ^ 2); have := lb (stA 8 s); omega), show (stA 8 s / 2 ^ 2 &&& msk 51 8) + (stA 8 s &&& msk 51 8) = byts 8 s from rfl]
  have hB : byts 8 s ≤ 7378697629483820646 := by unfold byts stB; have := lb (stA 8 s / 4); have := lb (stA 8 s); omega
  unfold F112.B5
  refine ⟨by decide, ?_⟩
  rw [shr_nat, show min (Int.toNat 4) 64 = 4 from rfl, show (1085102592571150095 : Int) = ((msk 15 8 : Nat) : Int) by rw [mc]; rfl, u64_sum (by omega), bits_and (by omega) (by rw [mc]; decide),
    show (byts 8 s / 2 ^ 4 + byts 8 s) &&& msk 15 8 = pops 8 s from rfl]
  have hC := pops_le (x := s)
  obtain ⟨a, ha⟩ : ∃ a, a = pops 8 s := ⟨_, rfl⟩
  rw [← ha] at hC ⊢
  unfold F112.B4
  refine ⟨by decide, ?_⟩
  rw [shr_nat, show min (Int.toNat 8) 64 = 8 from rfl, u64_sum (by omega)]
  obtain ⟨b, hb⟩ : ∃ b, b = a + a / 2 ^ 8 := ⟨_, rfl⟩
  rw [← hb]
  unfold F112.B3
  refine ⟨by decide, ?_⟩
  rw [shr_nat, show min (Int.toNat 16) 64 = 16 from rfl, u64_sum (by omega)]
  obtain ⟨c, hc⟩ : ∃ c, c = b + b / 2 ^ 16 := ⟨_, rfl⟩
  rw [← hc]
  unfold F112.B2
  refine ⟨by decide, ?_⟩
  rw [shr_nat, show min (Int.toNat 32) 64 = 32 from rfl, u64_sum (by omega)]
  obtain ⟨d, hd⟩ : ∃ d, d = c + c / 2 ^ 32 := ⟨_, rfl⟩
  rw [← hd]
  unfold F112.B1
  have hdl : d < 2 ^ 62 := by omega
  have hp := pops_sum ha hb hc hd
  have e1 : IntKind.i64.wrap ((d : Nat) : Int) = ((d : Nat) : Int) := wrap_id (by omega) (by omega)
  rw [e1, bv_nat, show (127 : Int) = ((127 : Nat) : Int) from rfl, bv_nat, BitVec.toNat_and, BitVec.toNat_ofNat, BitVec.toNat_ofNat, Nat.mod_eq_of_lt (by omega), Nat.mod_eq_of_lt (by decide), show (127 : Nat) = 2 ^ 7 - 1 from rfl, Nat.and_two_pow_sub_one_eq_mod,
    show d % 2 ^ 7 = popc s 64 from hp]
  have : popc s 64 ≤ 64 := bitsTo_length s 64
  rw [wrap_id (by omega) (by omega)]
  exact k
theorem size_ok {s : Nat} (hs : s < 2 ^ 64) (k : K (.int .i64 (popc s 64 : Nat)) H) : AC Try.prog T0 67 [.int .u64 (s : Nat)] H K := by
  apply F67.ac
  unfold F67.B2 F67.B1
  exact onesCount_ok hs (asI_mk k)

theorem IsS.short {l : List Int} {n : Nat} (h : IsS l n) : l.length ≤ n := by rw [h.filt]; exact filtB_length _ _

end Go.Proofs
