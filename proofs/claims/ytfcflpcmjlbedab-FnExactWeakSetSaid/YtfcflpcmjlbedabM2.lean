/- Plain mathematics: sets of numbers as bits. -/
import Derived.Test.YtfcflpcmjlbedabM1
import Derived.Laws.Bits64
set_option linter.unusedVariables false
set_option linter.unusedSimpArgs false
namespace Go.Proofs
open Go.Abs

def setN (l : List Int) : Nat := l.foldl (fun s i => s ||| 2 ^ i.toNat) 0
def bitsTo (s i : Nat) : List Int := ((List.range i).filter (fun j => s.testBit j)).map Int.ofNat
def bitsL (s : Nat) : List Int := bitsTo s 64

theorem u64_nat {x : Nat} (h : x < 2 ^ 64) : IntKind.u64.wrap ((x : Nat) : Int) = x := by
  rw [IntKind.wrap_u64]; omega
theorem bv_nat (s : Nat) : BitVec.ofInt 64 (s : Int) = BitVec.ofNat 64 s := by
  simp
theorem or_lt {s t : Nat} (h : s < 2 ^ 64) (g : t < 2 ^ 64) : s ||| t < 2 ^ 64 := Nat.or_lt_two_pow h g
theorem bits_or {s t : Nat} (h : s < 2 ^ 64) (g : t < 2 ^ 64) : IntKind.u64.wrap ((BitVec.ofInt 64 (s : Int) ||| BitVec.ofInt 64 (t : Int)).toNat : Int) = ((s ||| t : Nat) : Int) := by
  rw [bv_nat, bv_nat, BitVec.toNat_or, BitVec.toNat_ofNat, BitVec.toNat_ofNat, Nat.mod_eq_of_lt h, Nat.mod_eq_of_lt g, u64_nat (or_lt h g)]
theorem bits_and {s t : Nat} (h : s < 2 ^ 64) (g : t < 2 ^ 64) : IntKind.u64.wrap ((BitVec.ofInt 64 (s : Int) &&& BitVec.ofInt 64 (t : Int)).toNat : Int) = ((s &&& t : Nat) : Int) := by
  have : s &&& t < 2 ^ 64 := Nat.lt_of_le_of_lt Nat.and_le_left h
  rw [bv_nat, bv_nat, BitVec.toNat_and, BitVec.toNat_ofNat, BitVec.toNat_ofNat, Nat.mod_eq_of_lt h, Nat.mod_eq_of_lt g, u64_nat this]
theorem one_shl {i : Int} (h0 : 0 ≤ i) (h : i < 64) : IntKind.u64.wrap (1 * 2 ^ (min i.toNat 64)) = ((2 ^ i.toNat : Nat) : Int) := by
  rw [Int.one_mul, show min i.toNat 64 = i.toNat by omega]
  have : (2 : Nat) ^ i.toNat < 2 ^ 64 := Nat.pow_lt_pow_right (by decide) (by omega)
  rw [← u64_nat this]; simp
theorem shr_nat (s : Nat) (i : Nat) : Int.fdiv (s : Int) (2 ^ i) = ((s / 2 ^ i : Nat) : Int) := by
  rw [Int.fdiv_eq_ediv_of_nonneg _ (by exact Int.le_of_lt (Int.pow_pos (by decide)))]
  simp
theorem testBit_big {s : Nat} (h : s < 2 ^ 64) {i : Nat} (hi : 64 ≤ i) : s.testBit i = false :=
  Nat.testBit_lt_two_pow (Nat.lt_of_lt_of_le h (Nat.pow_le_pow_right (by decide) hi))
theorem has_bit {s : Nat} (h : s < 2 ^ 64) {i : Int} (h0 : 0 ≤ i) : ((IntKind.u64.wrap ((BitVec.ofInt 64 (Int.fdiv (s : Int) (2 ^ (min i.toNat 64))) &&& BitVec.ofInt 64 1).toNat : Int) : Int) == 1) = s.testBit i.toNat := by
  have hd : s / 2 ^ (min i.toNat 64) < 2 ^ 64 := Nat.lt_of_le_of_lt (Nat.div_le_self _ _) h
  rw [shr_nat, show (1 : Int) = ((1 : Nat) : Int) from rfl, bits_and hd (by decide), Nat.and_one_is_mod]
  by_cases hi : i.toNat < 64
  · rw [show min i.toNat 64 = i.toNat by omega, Nat.testBit_eq_decide_div_mod_eq]
    have : s / 2 ^ i.toNat % 2 = 0 ∨ s / 2 ^ i.toNat % 2 = 1 := by omega
    rcases this with e | e <;> simp [e]
  · rw [testBit_big h (by omega), show min i.toNat 64 = 64 by omega, Nat.div_eq_of_lt h]; rfl

theorem setN_foldl_lt : ∀ (l : List Int) (s : Nat), (∀ x ∈ l, x < 64) → s < 2 ^ 64 → l.foldl (fun s i => s ||| 2 ^ i.toNat) s < 2 ^ 64
  | [], s, _, h => h
  | x :: l, s, hx, h => setN_foldl_lt l _ (fun y hy => hx y (by simp [hy])) (or_lt h (Nat.pow_lt_pow_right (by decide) (by have := hx x (by simp); omega)))
theorem setN_lt {l : List Int} (h : ∀ x ∈ l, x < 64) : setN l < 2 ^ 64 := setN_foldl_lt l 0 h (by decide)
theorem setN_foldl_bit : ∀ (l : List Int) (s i : Nat), (∀ x ∈ l, 0 ≤ x) → ((l.foldl (fun s i => s ||| 2 ^ i.toNat) s).testBit i = true ↔ s.testBit i = true ∨ (i : Int) ∈ l)
  | [], s, i, _ => by simp
  | x :: l, s, i, h => by
    rw [List.foldl_cons, setN_foldl_bit l _ i fun y hy => h y (by simp [hy]), Nat.testBit_or, Nat.testBit_two_pow]
    have := h x (by simp)
    simp only [Bool.or_eq_true, decide_eq_true_eq, List.mem_cons]
    constructor
    · rintro ((h | h) | h)
      · exact .inl h
      · exact .inr (.inl (by omega))
      · exact .inr (.inr h)
    · rintro (h | h | h)
      · exact .inl (.inl h)
      · exact .inl (.inr (by omega))
      · exact .inr h
theorem setN_bit {l : List Int} (h : ∀ x ∈ l, 0 ≤ x) (i : Nat) : (setN l).testBit i = decide ((i : Int) ∈ l) := by
  rw [Bool.eq_iff_iff, setN, setN_foldl_bit l 0 i h]; simp
theorem bitsTo_succ (s i : Nat) : bitsTo s (i + 1) = bitsTo s i ++ (if s.testBit i then [(i : Int)] else []) := by
  unfold bitsTo
  rw [List.range_succ, List.filter_append, List.map_append]
  congr 1
  by_cases h : s.testBit i <;> simp [h]
theorem bitsTo_end {s i : Nat} (h : s / 2 ^ i = 0) : ∀ k, bitsTo s (i + k) = bitsTo s i
  | 0 => rfl
  | k + 1 => by
    rw [← Nat.add_assoc, bitsTo_succ, bitsTo_end h k]
    have hs : s < 2 ^ i := by
      have := Nat.div_add_mod s (2 ^ i); rw [h] at this
      have := Nat.mod_lt s (Nat.two_pow_pos i); omega
    have : s.testBit (i + k) = false := Nat.testBit_lt_two_pow (Nat.lt_of_lt_of_le hs (Nat.pow_le_pow_right (by decide) (by omega)))
    simp [this]
theorem bitsTo_length (s i : Nat) : (bitsTo s i).length ≤ i := by
  unfold bitsTo; rw [List.length_map]
  exact Nat.le_trans (List.length_filter_le _ _) (by simp)
theorem IsS.range {l : List Int} {n : Int} (h : IsS l n) : ∀ x ∈ l, 0 ≤ x ∧ x < n := by
  intro x hx
  obtain ⟨i, hi, rfl⟩ := List.getElem_of_mem hx
  have := h i hi
  rw [getD_of hi] at this; omega
end Go.Proofs
