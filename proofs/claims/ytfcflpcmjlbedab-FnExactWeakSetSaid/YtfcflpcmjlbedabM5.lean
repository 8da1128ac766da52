/- Plain mathematics: how many bits a number has. -/
import Derived.Test.YtfcflpcmjlbedabM4
set_option linter.unusedVariables false
set_option linter.unusedSimpArgs false
namespace Go.Proofs
open Go.Abs

theorem and_split {a b c d : Nat} (ha : a < 256) (hc : c < 256) : (a + 256 * b) &&& (c + 256 * d) = (a &&& c) + 256 * (b &&& d) := by
  have hac : a &&& c < 2 ^ 8 := Nat.lt_of_le_of_lt Nat.and_le_left ha
  apply Nat.eq_of_testBit_eq
  intro i
  have e : ∀ x y : Nat, x < 2 ^ 8 → (x + 256 * y).testBit i = if i < 8 then x.testBit i else y.testBit (i - 8) := fun x y hx => by
    rw [Nat.add_comm, show (256 : Nat) = 2 ^ 8 from rfl, Nat.testBit_two_pow_mul_add _ hx]
  rw [Nat.testBit_and, e a b ha, e c d hc, e _ _ hac, Nat.testBit_and, Nat.testBit_and]
  split <;> rfl
def msk (c : Nat) : Nat → Nat
  | 0 => 0
  | n + 1 => c + 256 * msk c n
theorem split256 (x : Nat) : x = x % 256 + 256 * (x / 256) := by omega
theorem and_msk {c x n : Nat} (hc : c < 256) : x &&& msk c (n + 1) = (x % 256 &&& c) + 256 * (x / 256 &&& msk c n) := by
  conv => lhs; rw [split256 x]
  exact and_split (Nat.mod_lt _ (by decide)) hc
theorem sh1 : ∀ a : Fin 256, ∀ b : Fin 2, (a.val / 2 + 128 * b.val) &&& 85 = (a.val / 2) &&& 85 := by decide +kernel
theorem sh2 : ∀ a : Fin 256, ∀ b : Fin 4, (a.val / 4 + 64 * b.val) &&& 51 = (a.val / 4) &&& 51 := by decide +kernel
theorem sh4 : ∀ a : Fin 69, ∀ b : Fin 5, a.val % 16 ≤ 4 → (a.val / 16 + 16 * b.val + a.val) % 256 &&& 15 = (a.val / 16 + a.val) % 256 &&& 15 := by decide +kernel
def stA (n x : Nat) : Nat := (x / 2 &&& msk 85 n) + (x &&& msk 85 n)
def stB (n x : Nat) : Nat := (x / 4 &&& msk 51 n) + (x &&& msk 51 n)
def stC (n x : Nat) : Nat := (x / 16 + x) &&& msk 15 n
def byA (c : Nat) : Nat := (c / 2 &&& 85) + (c &&& 85)
def byB (c : Nat) : Nat := (c / 4 &&& 51) + (c &&& 51)
def byC (c : Nat) : Nat := (c / 16 + c) % 256 &&& 15
theorem byA_lt : ∀ c : Fin 256, byA c.val < 256 := by decide +kernel
theorem byB_lt : ∀ c : Fin 256, byB (byA c.val) < 69 ∧ byB (byA c.val) % 16 ≤ 4 ∧ byB (byA c.val) / 16 ≤ 4 := by decide +kernel
theorem stA_step (n x : Nat) : stA (n + 1) x = byA (x % 256) + 256 * stA n (x / 256) := by
  unfold stA byA
  rw [and_msk (by decide), and_msk (by decide)]
  have h1 : x / 2 % 256 = x % 256 / 2 + 128 * (x / 256 % 2) := by omega
  have h2 : x / 2 / 256 = x / 256 / 2 := by omega
  have h3 := sh1 ⟨x % 256, by omega⟩ ⟨x / 256 % 2, by omega⟩
  simp only at h3
  rw [h1, h2, h3]; omega
theorem stB_step (n x : Nat) : stB (n + 1) x = byB (x % 256) + 256 * stB n (x / 256) := by
  unfold stB byB
  rw [and_msk (by decide), and_msk (by decide)]
  have h1 : x / 4 % 256 = x % 256 / 4 + 64 * (x / 256 % 4) := by omega
  have h2 : x / 4 / 256 = x / 256 / 4 := by omega
  have h3 := sh2 ⟨x % 256, by omega⟩ ⟨x / 256 % 4, by omega⟩
  simp only at h3
  rw [h1, h2, h3]; omega
/-- The first two steps, byte by byte. -/
def byts (n x : Nat) : Nat := stB n (stA n x)
theorem byts_step (n x : Nat) : byts (n + 1) x = byB (byA (x % 256)) + 256 * byts n (x / 256) := by
  unfold byts
  have hb := byA_lt ⟨x % 256, by omega⟩
  simp only at hb
  have e := stA_step n x
  have h1 : stA (n + 1) x % 256 = byA (x % 256) := by omega
  have h2 : stA (n + 1) x / 256 = stA n (x / 256) := by omega
  rw [stB_step, h1, h2]
theorem byts_zero (x : Nat) : byts 0 x = 0 := by simp [byts, stB, stA, msk]
theorem byts_low (n x : Nat) : byts n x % 16 ≤ 4 ∧ byts n x % 256 < 69 ∧ byts n x % 256 / 16 ≤ 4 := by
  cases n with
  | zero => rw [byts_zero]; decide
  | succ n =>
    have h := byB_lt ⟨x % 256, by omega⟩
    simp only at h
    have := byts_step n x
    omega
def pops (n x : Nat) : Nat := stC n (byts n x)
def pop1 (c : Nat) : Nat := byC (byB (byA c))
theorem pops_step (n x : Nat) : pops (n + 1) x = pop1 (x % 256) + 256 * pops n (x / 256) := by
  unfold pops stC pop1 byC
  have hb := byB_lt ⟨x % 256, by omega⟩
  simp only at hb
  have e := byts_step n x
  have hl := byts_low n (x / 256)
  rw [and_msk (by decide), e]
  generalize byB (byA (x % 256)) = c at *
  generalize byts n (x / 256) = d at *
  have h1 : ((c + 256 * d) / 16 + (c + 256 * d)) % 256 = (c / 16 + 16 * (d % 16) + c) % 256 := by omega
  have h2 : ((c + 256 * d) / 16 + (c + 256 * d)) / 256 = d / 16 + d := by omega
  have h3 := sh4 ⟨c, by omega⟩ ⟨d % 16, by omega⟩ (by simp only; omega)
  simp only at h3
  rw [h1, h2, h3]
theorem pop1_eq : ∀ c : Fin 256, pop1 c.val = (bitsTo c.val 8).length := by decide +kernel
theorem pop1_le : ∀ c : Fin 256, pop1 c.val ≤ 8 := by decide +kernel
/-- How many of the first k bits are set. -/
def popc (s k : Nat) : Nat := (bitsTo s k).length
theorem popc_byte (s : Nat) : ∀ k, popc s (8 + k) = popc (s % 256) 8 + popc (s / 256) k
  | 0 => by
    unfold popc bitsTo
    rw [List.length_map, List.length_map, List.length_map, Nat.add_zero]
    rw [List.filter_congr (q := fun j => (s % 256).testBit j) fun j hj => by
      rw [List.mem_range] at hj
      rw [show (256 : Nat) = 2 ^ 8 from rfl, Nat.testBit_mod_two_pow]; simp [hj]]
    simp
  | k + 1 => by
    have ih := popc_byte s k
    unfold popc at ih ⊢
    rw [← Nat.add_assoc, bitsTo_succ s (8 + k), bitsTo_succ (s / 256) k, List.length_append, List.length_append, ih]
    have : s.testBit (8 + k) = (s / 256).testBit k := by
      rw [show (256 : Nat) = 2 ^ 8 from rfl, Nat.testBit_div_two_pow, Nat.add_comm]
    rw [this, Nat.add_assoc]
    split <;> rfl
theorem pop_fin {c d e0 e1 e2 e3 e4 e5 e6 e7 : Nat} (q0 : e0 ≤ 8) (q1 : e1 ≤ 8) (q2 : e2 ≤ 8) (q3 : e3 ≤ 8) (q4 : e4 ≤ 8) (q5 : e5 ≤ 8) (q6 : e6 ≤ 8) (q7 : e7 ≤ 8)
    (hc : c = (e0 + e1 + e2 + e3) + 256 * (e1 + e2 + e3 + e4) + 65536 * (e2 + e3 + e4 + e5) + 16777216 * (e3 + e4 + e5 + e6) + 4294967296 * (e4 + e5 + e6 + e7) + 1099511627776 * (e5 + e6 + e7) + 281474976710656 * (e6 + e7) + 72057594037927936 * e7)
    (hd : d = c + c / 4294967296) : d % 128 = e0 + (e1 + (e2 + (e3 + (e4 + (e5 + (e6 + e7)))))) := by
  obtain ⟨lo, hlo⟩ : ∃ lo, lo = (e0 + e1 + e2 + e3) + 256 * (e1 + e2 + e3 + e4) + 65536 * (e2 + e3 + e4 + e5) + 16777216 * (e3 + e4 + e5 + e6) := ⟨_, rfl⟩
  obtain ⟨hi, hhi⟩ : ∃ hi, hi = (e4 + e5 + e6 + e7) + 256 * (e5 + e6 + e7) + 65536 * (e6 + e7) + 16777216 * e7 := ⟨_, rfl⟩
  have h1 : lo < 4294967296 := by omega
  have h2 : c = lo + 4294967296 * hi := by omega
  clear hc
  have h3 : c / 4294967296 = hi := by omega
  have h4 : d = lo + 4294967296 * hi + hi := by omega
  clear hd h2 h3 h1
  have h5 : d = (e0 + (e1 + (e2 + (e3 + (e4 + (e5 + (e6 + e7))))))) + 128 * (2 * (e1 + e2 + e3 + e4) + 512 * (e2 + e3 + e4 + e5) + 131072 * (e3 + e4 + e5 + e6) + 33554432 * hi + 2 * (e5 + e6 + e7) + 512 * (e6 + e7) + 131072 * e7) := by omega
  rw [h5, Nat.add_mul_mod_self_left]
  clear h4 h5 hlo hhi
  exact Nat.mod_eq_of_lt (by omega)
/-- What the last steps add up. -/
theorem pops_sum {x a b c d : Nat} (ha : a = pops 8 x) (hb : b = a + a / 256) (hc : c = b + b / 65536) (hd : d = c + c / 4294967296) : d % 128 = popc x 64 := by
  have st : ∀ n y, ∃ z, z = y / 256 ∧ pops (n + 1) y = pop1 (y % 256) + 256 * pops n z ∧ pop1 (y % 256) ≤ 8 ∧ popc y (8 + 8 * n) = pop1 (y % 256) + popc z (8 * n) := by
    intro n y
    refine ⟨_, rfl, pops_step n y, ?_, ?_⟩
    · exact pop1_le ⟨y % 256, by omega⟩
    · rw [popc_byte, pop1_eq ⟨y % 256, by omega⟩]; rfl
  obtain ⟨x1, _, p0, q0, r0⟩ := st 7 x
  obtain ⟨x2, _, p1, q1, r1⟩ := st 6 x1
  obtain ⟨x3, _, p2, q2, r2⟩ := st 5 x2
  obtain ⟨x4, _, p3, q3, r3⟩ := st 4 x3
  obtain ⟨x5, _, p4, q4, r4⟩ := st 3 x4
  obtain ⟨x6, _, p5, q5, r5⟩ := st 2 x5
  obtain ⟨x7, _, p6, q6, r6⟩ := st 1 x6
  obtain ⟨x8, _, p7, q7, r7⟩ := st 0 x7
  have p8 : pops 0 x8 = 0 := by simp [pops, stC, msk]
  have r8 : popc x8 (8 * 0) = 0 := rfl
  simp only [Nat.reduceMul, Nat.reduceAdd] at p0 p1 p2 p3 p4 p5 p6 p7 p8 r0 r1 r2 r3 r4 r5 r6 r7 r8
  generalize pop1 (x % 256) = e0 at *
  generalize pop1 (x1 % 256) = e1 at *
  generalize pop1 (x2 % 256) = e2 at *
  generalize pop1 (x3 % 256) = e3 at *
  generalize pop1 (x4 % 256) = e4 at *
  generalize pop1 (x5 % 256) = e5 at *
  generalize pop1 (x6 % 256) = e6 at *
  generalize pop1 (x7 % 256) = e7 at *
  rw [r0, r1, r2, r3, r4, r5, r6, r7, r8]
  rw [p0, p1, p2, p3, p4, p5, p6, p7, p8] at ha
  have hb : b = (e0 + e1) + 256 * (e1 + e2) + 65536 * (e2 + e3) + 16777216 * (e3 + e4) + 4294967296 * (e4 + e5) + 1099511627776 * (e5 + e6) + 281474976710656 * (e6 + e7) + 72057594037927936 * e7 := by omega
  clear ha
  have hc : c = (e0 + e1 + e2 + e3) + 256 * (e1 + e2 + e3 + e4) + 65536 * (e2 + e3 + e4 + e5) + 16777216 * (e3 + e4 + e5 + e6) + 4294967296 * (e4 + e5 + e6 + e7) + 1099511627776 * (e5 + e6 + e7) + 281474976710656 * (e6 + e7) + 72057594037927936 * e7 := by omega
  clear hb
  have := pop_fin q0 q1 q2 q3 q4 q5 q6 q7 hc hd
  rw [this]; simp only [Nat.add_assoc, Nat.add_zero]
theorem pops_le {x : Nat} : pops 8 x ≤ 651061555542690056 := by
  have st : ∀ n y, pops (n + 1) y ≤ 8 + 256 * pops n (y / 256) := fun n y => by
    have := pops_step n y; have := pop1_le ⟨y % 256, by omega⟩; simp only at this; omega
  have p8 : ∀ y, pops 0 y = 0 := fun y => by simp [pops, stC, msk]
  have h0 := st 7 x
  have h1 := st 6 (x / 256)
  have h2 := st 5 (x / 256 / 256)
  have h3 := st 4 (x / 256 / 256 / 256)
  have h4 := st 3 (x / 256 / 256 / 256 / 256)
  have h5 := st 2 (x / 256 / 256 / 256 / 256 / 256)
  have h6 := st 1 (x / 256 / 256 / 256 / 256 / 256 / 256)
  have h7 := st 0 (x / 256 / 256 / 256 / 256 / 256 / 256 / 256)
  have h8 := p8 (x / 256 / 256 / 256 / 256 / 256 / 256 / 256 / 256)
  simp only [Nat.reduceAdd] at h0 h1 h2 h3 h4 h5 h6 h7
  omega
theorem msk_a : msk 85 8 = 6148914691236517205 := rfl
theorem msk_b : msk 51 8 = 3689348814741910323 := rfl
theorem msk_c : msk 15 8 = 1085102592571150095 := rfl
end Go.Proofs
