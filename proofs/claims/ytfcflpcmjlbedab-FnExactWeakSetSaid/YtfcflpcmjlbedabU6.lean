/- Contracts: sets as bits, sums of sets. -/
import Derived.Test.YtfcflpcmjlbedabU5
import Derived.Test.YtfcflpcmjlbedabU2
import Derived.Test.YtfcflpcmjlbedabM2
set_option linter.unusedVariables false
set_option linter.unusedSimpArgs false
set_option maxRecDepth 100000
namespace Go.Proofs
open Go.Abs

variable {H : AHeap} {v u f : Value} {l m : List Int} {es fs : List (Int × Int)} {K : Value → AHeap → Prop}

noncomputable def tiInt : TI := (T0 2).getD ⟨.bool, 0, 0, undef⟩
theorem T0_int : T0 2 = some tiInt ∧ tiInt.size = 1 ∧ tiInt.bytes = 8 ∧ tiInt.fine = true := ⟨by kernel_rfl, by kernel_rfl, by kernel_rfl, by kernel_rfl⟩
theorem push_int {H0 : AHeap} {x : Int} (hF : Fresh H0.length H v 2 1 (LI l)) (h0 : H0.le H) (hs : l.length < 4294967296)
    (k : ∀ v' G, H0.le G → Fresh H0.length G v' 2 1 (LI (l ++ [x])) → (∀ b o, H[b]? = some (some o) → (∀ c n, v ≠ .slice (some ⟨b, c, none⟩) n (n + 1)) → G[b]? = some (some o)) → K v' G) :
    newK H [Value.int .i64 x] 2 (fun b1 H2 => apK T0 2 H2 v (Value.slice (some ⟨b1, 0, none⟩) 1 (1 + 1)) K) := by
  refine newK_f rfl fun H2 l2 n2 o2 => ?_
  obtain ⟨t1, t2, t3, t4⟩ := T0_int
  have hF2 := hF.le l2
  rw [← t2] at hF2
  refine Fresh.push (n := 1) (ys := [.int .i64 x]) t1 (by omega) (by omega) t4 hF2 (AHeap.le_trans h0 l2) ?_ (by decide) (by simp; omega) ?_
  · rw [t2]; exact cellsAt_row o2 (by simp)
  · intro v' G hG hf hk
    rw [t2] at hf
    exact k v' G hG (by simpa using hf) fun b o hb hne => hk b o (l2.2 _ _ hb) hne

theorem has_ok {s : Nat} {i : Int} (hs : s < 2 ^ 64) (h0 : 0 ≤ i) (k : K (.bool (s.testBit i.toNat)) H) : AC Try.prog T0 102 [.int .u64 (s : Nat), .int .i64 i] H K := by
  apply F102.ac
  unfold F102.B2 F102.B1
  refine ⟨h0, ?_⟩
  rw [has_bit hs h0]; exact k

theorem list_ok {s : Nat} (hs : s < 2 ^ 64) (k : ∀ v' G, H.le G → Fresh H.length G v' 2 1 (LI (bitsL s)) → K v' G) : AC Try.prog T0 73 [.int .u64 (s : Nat)] H K := by
  apply F73.ac
  unfold F73.B9 F73.B8 F73.B7 F73.L2
  refine ⟨fun x0 x3 x4 G => x0 = (s : Nat) ∧ 0 ≤ x4 ∧ x4 ≤ 64 ∧ H.le G ∧ Fresh H.length G x3 2 1 (LI (bitsTo s x4.toNat)), fun _ _ x4 _ => 64 - x4.toNat, ⟨rfl, by omega, by omega, AHeap.le_refl _, .inl ⟨rfl, .inl rfl⟩⟩, ?_⟩
  rintro x0 x3 x4 G ⟨rfl, h0, h1, hG, hF⟩
  obtain ⟨i, rfl⟩ : ∃ i : Nat, x4 = i := ⟨x4.toNat, by omega⟩
  simp only [Int.toNat_natCast] at hF
  unfold F73.B6
  refine ⟨h0, ?_⟩
  rw [shr_nat, show min (Int.toNat (i : Int)) 64 = i by simp; omega]
  refine pif_cases (fun hb => ?_) fun hb => ?_
  · have hi : i < 64 := by
      rcases Nat.lt_or_ge i 64 with h | h
      · exact h
      · have : i = 64 := by omega
        subst this
        rw [Nat.div_eq_of_lt hs] at hb; simp at hb
    unfold F73.B5
    refine has_ok hs h0 (asB_mk (pif_cases (fun hb => ?_) fun hb => ?_))
    · unfold F73.B4
      refine push_int hF hG (by have := bitsTo_length s i; omega) fun v' G2 hG2 hF2 _ => ?_
      unfold F73.B3
      rw [wrap_id (by omega) (by omega)]
      refine ⟨⟨rfl, by omega, by omega, hG2, ?_⟩, by simp; omega⟩
      rw [show ((i : Int) + 1).toNat = i + 1 by omega, bitsTo_succ, if_pos (by simpa using hb)]; exact hF2
    · unfold F73.B3
      rw [wrap_id (by omega) (by omega)]
      refine ⟨⟨rfl, by omega, by omega, hG, ?_⟩, by simp; omega⟩
      rw [show ((i : Int) + 1).toNat = i + 1 by omega, bitsTo_succ, if_neg (by simpa using hb), List.append_nil]; exact hF
  · have hz : s / 2 ^ i = 0 := Int.natCast_eq_zero.1 (bne_eq_false_iff_eq.1 hb)
    unfold F73.B1
    refine k _ _ hG ?_
    have e := bitsTo_end hz (64 - i)
    rw [show i + (64 - i) = 64 by omega] at e
    unfold bitsL
    rw [e]; exact hF
end Go.Proofs
