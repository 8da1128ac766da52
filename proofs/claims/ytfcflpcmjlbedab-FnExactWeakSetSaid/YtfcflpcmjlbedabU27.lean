/- Contracts: a value told again and again. -/
import Derived.Test.YtfcflpcmjlbedabU26
import Derived.Test.YtfcflpcmjlbedabU4
import Derived.Test.YtfcflpcmjlbedabK1
set_option linter.unusedVariables false
set_option linter.unusedSimpArgs false
set_option maxRecDepth 100000
namespace Go.Proofs
open Go.Abs

variable {H : AHeap} {l s : List Int}

theorem repeat_ok {b1 : Nat} {t n : Int} {K : Value → AHeap → Prop} (o : Own H b1 2 (LI [t])) (h0 : 0 ≤ n) (h1 : n ≤ 1000000)
    (k : ∀ G, H.le G → Own G H.length 2 (LI (List.replicate n.toNat t)) → K (.slice (some ⟨H.length, 0, none⟩) n.toNat (n.toNat + 1)) G) :
    AC Try.prog T0 176 [.slice (some ⟨b1, 0, none⟩) 1 (1 + 1), .int .i64 n] H K := by
  obtain ⟨N, rfl⟩ := Int.eq_ofNat_of_zero_le h0
  have hu : IntKind.u64.wrap ((N : Nat) : Int) = N := by simp only [IntKind.wrap, IntKind.bits, IntKind.signed, Bool.false_and, Bool.false_eq_true, if_false]; omega
  have hb1 : b1 < H.length := lt_of_get o
  apply F176.ac
  unfold F176.B10 F176.B9
  refine pif_f (by simp) ?_
  unfold F176.B8
  refine lenK_of ?_
  rw [hu, show IntKind.u64.wrap ((1 : Nat) : Int) = 1 from by decide]
  refine mul_ok (by omega) (by omega) ?_
  show F176.B7 K _ 0 N H
  unfold F176.B7
  refine pif_f (by decide) (pif_f (by simp; omega) ?_)
  unfold F176.B6
  rw [wrap_id (by omega) (by omega)]
  refine mkR_int (by omega) (by omega) (by decide) fun H2 l2 n2 o2 => ?_
  rw [rep_one, Int.toNat_natCast] at o2
  simp only [Int.toNat_natCast] at k ⊢
  unfold F176.B5
  have main : ∀ (i : Nat) G, i ≤ N → (0 < i ∨ N = 0) → H.le G → Own G H.length 2 (LI (List.replicate i t ++ List.replicate (N - i) 0)) → F176.L2 K (.slice (some ⟨H.length, 0, none⟩) N (N + 1)) (i : Int) G := by
    intro i G hi hp hl ho
    unfold F176.L2
    refine ⟨fun x7 x8 G => x7 = .slice (some ⟨H.length, 0, none⟩) N (N + 1) ∧ ∃ i : Nat, x8 = i ∧ i ≤ N ∧ (0 < i ∨ N = 0) ∧ H.le G ∧ Own G H.length 2 (LI (List.replicate i t ++ List.replicate (N - i) 0)), fun _ x8 _ => N - x8.toNat, ⟨rfl, i, rfl, hi, hp, hl, ho⟩, ?_⟩
    rintro x7 x8 G ⟨rfl, i, rfl, hi, hp, hl, ho⟩
    unfold F176.B4
    refine lenK_of ?_
    by_cases h : i < N
    · refine pif_t (by simp; omega) ?_
      unfold F176.B3
      refine ⟨⟨_, _, ho, by simp [LI]; omega⟩, by omega, by omega, by omega, ?_⟩
      refine ⟨⟨_, _, ho, by simp [LI]; omega⟩, by omega, by omega, by omega, ?_⟩
      simp only [Int.toNat_natCast, Nat.zero_add, Nat.mul_one, Int.toNat_zero, Nat.zero_mul, Nat.sub_zero]
      refine cp_own ho ho (by omega) (by omega) (by first | (simp; done) | (simp; omega)) (by first | (simp; done) | (simp; omega)) fun G2 b2 o2 => ?_
      have hq : Nat.min i (N - i) ≤ i ∧ Nat.min i (N - i) ≤ N - i ∧ 0 < Nat.min i (N - i) := ⟨Nat.min_le_left _ _, Nat.min_le_right _ _, Nat.lt_min.2 ⟨by omega, by omega⟩⟩
      generalize Nat.min i (N - i) = q at hq o2 ⊢
      rw [wrap_id (by omega) (by omega)]
      refine ⟨⟨by first | trivial | rfl, i + q, by omega, by omega, by omega, b2.le hl (Nat.le_refl _), ?_⟩, by omega⟩
      have e : (List.replicate i t ++ List.replicate (N - i) 0).take i ++ ((List.replicate i t ++ List.replicate (N - i) 0).drop 0).take q ++ (List.replicate i t ++ List.replicate (N - i) 0).drop (i + q) = List.replicate (i + q) t ++ List.replicate (N - (i + q)) 0 := by
        rw [List.take_left' (by simp), List.drop_zero, List.take_append_of_le_length (by simp; omega), List.take_replicate, Nat.min_eq_left hq.1, List.replicate_append_replicate, List.drop_append, List.drop_eq_nil_of_le (by simp), List.nil_append, List.drop_replicate, List.length_replicate]
        congr 2; omega
      rw [e] at o2
      exact o2
    · refine pif_f (by simp; omega) ?_
      unfold F176.B1
      obtain rfl : i = N := by omega
      exact k _ hl (by simpa using ho)
  by_cases hN : N = 0
  · subst hN
    exact .inl ⟨_, _, _, _, _, _, rfl, rfl, .inr rfl, main 0 H2 (by omega) (.inr rfl) l2 (by simpa using o2)⟩
  · refine cp_own o2 (l2.2 _ _ o) (by omega) (by omega) (by simp) (by simp) fun G b2 o3 => ?_
    have hq : Nat.min 1 N = 1 := Nat.min_eq_left (by omega)
    rw [hq] at o3 ⊢
    refine main 1 G (by omega) (.inl (by omega)) (b2.le l2 (Nat.le_refl _)) ?_
    simpa using o3
end Go.Proofs
