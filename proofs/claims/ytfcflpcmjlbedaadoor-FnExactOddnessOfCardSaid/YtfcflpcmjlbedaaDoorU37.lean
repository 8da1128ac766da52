/- Contracts: the place of the least bit, by a table. -/
import Derived.Test.YtfcflpcmjlbedaaDoorU12b
import Derived.Test.YtfcflpcmjlbedaaDoorM10
set_option linter.unusedVariables false
set_option linter.unusedSimpArgs false
set_option maxRecDepth 100000
namespace Go.Proofs
open Go.Abs

variable {H G : AHeap} {K : Value → AHeap → Prop}

def dbj : List Int := [0, 1, 56, 2, 57, 49, 28, 3, 61, 58, 42, 50, 38, 29, 17, 4, 62, 47, 59, 36, 45, 43, 51, 22, 53, 39, 33, 30, 24, 18, 12, 5, 63, 55, 48, 27, 60, 41, 37, 16, 46, 35, 44, 21, 52, 32, 23, 11, 54, 26, 40, 15, 34, 20, 31, 10, 25, 14, 19, 9, 13, 8, 7, 6]
/-- The table is among the variables. -/
def Tab (H : AHeap) : Prop := ∃ e own, H[0]? = some (some (.row (dbj.map (Value.int .u8)) e own))
theorem Tab.le (h : Tab H) (hl : H.le G) : Tab G := by
  obtain ⟨e, o, h⟩ := h; exact ⟨e, o, hl.2 _ _ h⟩
theorem low_bit {x v : Nat} (hx : x < 2 ^ 64) (hv : v < 64) (h1 : x.testBit v = true) (h0 : ∀ j, j < v → x.testBit j = false) : x &&& (2 ^ 64 - x) = 2 ^ v := by
  have hm : x % 2 ^ (v + 1) = 2 ^ v := by
    apply Nat.eq_of_testBit_eq
    intro j
    rw [Nat.testBit_mod_two_pow, Nat.testBit_two_pow]
    by_cases e : v = j
    · subst e; simp [h1]
    · by_cases hj : j < v
      · simp [h0 j hj, e]
      · simp [e]; intro h; omega
  have hd := Nat.div_add_mod x (2 ^ (v + 1))
  rw [hm] at hd
  obtain ⟨q, hq⟩ : ∃ q, q = x / 2 ^ (v + 1) := ⟨_, rfl⟩
  rw [← hq] at hd
  have p0 : 0 < 2 ^ v := Nat.two_pow_pos v
  have p1 : 2 ^ (v + 1) = 2 * 2 ^ v := by rw [Nat.pow_succ, Nat.mul_comm]
  have e1 : 2 ^ 64 - x = 2 ^ 64 - ((2 ^ (v + 1) * q + (2 ^ v - 1)) + 1) := by omega
  apply Nat.eq_of_testBit_eq
  intro j
  rw [Nat.testBit_and, e1, Nat.testBit_two_pow_sub_succ (by omega), Nat.testBit_two_pow]
  rw [← hd, Nat.testBit_two_pow_mul_add _ (by omega), Nat.testBit_two_pow_mul_add _ (by omega)]
  by_cases hj : j < v + 1
  · rw [if_pos hj, if_pos hj, Nat.testBit_two_pow, Nat.testBit_two_pow_sub_one]
    by_cases e : v = j
    · subst e; simp [hv]
    · simp [e]
  · rw [if_neg hj, if_neg hj]
    have : v ≠ j := by omega
    simp [this]
    intro a _; exact a
theorem dbj_ok : ∀ v : Nat, v < 64 → ((2 ^ v * 285870213051353865) % 2 ^ 64 / 2 ^ 58 < 64 ∧ dbj.getD ((2 ^ v * 285870213051353865) % 2 ^ 64 / 2 ^ 58) 0 = (v : Int)) := by decide +kernel
theorem tz_ok {x v : Nat} (hT : Tab H) (hx : x < 2 ^ 64) (hv : v < 64) (h1 : x.testBit v = true) (h0 : ∀ j, j < v → x.testBit j = false) (k : K (.int .i64 (v : Nat)) H) :
    AC Tryd.prog T0 53 [.int .u64 (x : Nat)] H K := by
  have hx0 : 0 < x := by
    rcases Nat.eq_zero_or_pos x with h | h
    · subst h; simp at h1
    · exact h
  have hand : IntKind.u64.wrap ((BitVec.ofInt 64 ((x : Nat) : Int) &&& BitVec.ofInt 64 (IntKind.u64.wrap (0 - ((x : Nat) : Int)))).toNat : Int) = ((2 ^ v : Nat) : Int) := by
    have : IntKind.u64.wrap (0 - ((x : Nat) : Int)) = ((2 ^ 64 - x : Nat) : Int) := by rw [IntKind.wrap_u64]; omega
    rw [this, bits_and hx (by omega), low_bit hx hv h1 h0]
  obtain ⟨g1, g2⟩ := dbj_ok v hv
  have hidx : Int.fdiv (IntKind.u64.wrap (((2 ^ v : Nat) : Int) * 285870213051353865)) (2 ^ (min (Int.toNat 58) 64)) = (((2 ^ v * 285870213051353865) % 2 ^ 64 / 2 ^ 58 : Nat) : Int) := by
    rw [show (285870213051353865 : Int) = ((285870213051353865 : Nat) : Int) from rfl, ← Int.natCast_mul, IntKind.wrap_u64, show (18446744073709551616 : Int) = ((2 ^ 64 : Nat) : Int) from by decide, ← Int.natCast_emod, shr_nat]
    rfl
  apply F53.ac
  unfold F53.B4 F53.B3
  refine pif_f (by simp; omega) ?_
  unfold F53.B1
  rw [hand, hidx]
  refine ⟨by decide, bndK_iff.2 ⟨by omega, by omega, ?_⟩⟩
  obtain ⟨e, own, hT⟩ := hT
  refine ldI_mk ((cell_own hT _).trans (?_ : _ = some (Value.int .u8 (v : Int)))) ?_
  · unfold offAt
    rw [Nat.zero_add, Nat.mul_one, Int.toNat_natCast, List.getElem?_map, List.getElem?_eq_getElem (show _ < dbj.length from g1)]
    have := g2
    rw [getD_of (show _ < dbj.length from g1)] at this
    rw [this]; rfl
  · rw [wrap_id (by omega) (by omega)]; exact k
end Go.Proofs
