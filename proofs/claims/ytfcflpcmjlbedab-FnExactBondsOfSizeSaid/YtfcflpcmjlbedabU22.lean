/- Contracts: covers of colourings, both sides. -/
import Derived.Test.YtfcflpcmjlbedabU20
set_option linter.unusedVariables false
set_option linter.unusedSimpArgs false
set_option maxRecDepth 100000
namespace Go.Proofs
open Go.Abs

variable {H G : AHeap} {v u f w : Value} {l m c : List Int} {es fs : List (Int × Int)} {K : Value → AHeap → Prop} {A : Nat → Prop} {B C : Nat} {ls ms : List (List Int)}

theorem fresh_cells {m0 : Nat} {t : TypeId} {z n : Nat} {cs : List Value} (h : Fresh m0 H v t z cs) (hz : 0 < z) (hn : cs.length = n * z) : cellsAt H v z n cs := by
  rcases h with ⟨rfl, h⟩ | ⟨b, k, _, rfl, ho, hk⟩
  · have : n = 0 := by
      cases n with
      | zero => rfl
      | succ n => simp [Nat.add_mul] at hn; omega
    subst this
    rcases h with rfl | ⟨a, rfl⟩
    · exact ⟨hn, _, _, rfl, .inl rfl⟩
    · exact ⟨hn, _, _, rfl, .inl rfl⟩
  · obtain rfl : k = n := Nat.eq_of_mul_eq_mul_right hz (hk.symm.trans hn)
    exact cellsAt_row ho hn
theorem RowsF.app (h : RowsF A B H v ls) (g : RowsF (fun b => B ≤ b) C H w ms) (hB : B ≤ H.length) (hC : C ≤ H.length) (hA : ∀ b, B ≤ b → A b) (hs : ls.length + ms.length ≤ 4294967296)
    (k : ∀ v' G, Oth v H G → H.length ≤ G.length → RowsF A G.length G v' (ls ++ ms) → K v' G) : apK T0 25 H v w K := by
  obtain ⟨vs, h1, h2, h3, h4⟩ := h
  obtain ⟨ws, g1, g2, g3, g4⟩ := g
  refine h1.sl.app E_row (by decide) (Nat.zero_le _) (fresh_cells g1 (by decide) (n := ms.length) (by omega)) (by omega) (fun h0 => ?_) fun v' G k1 ot nb f' => k v' G ot k1.len ?_
  · have : ms = [] := List.length_eq_zero_iff.1 (by rw [← g2, h0]; rfl)
    subst this
    rw [List.append_nil] at k
    exact k v H (fun _ _ _ h => h) (Nat.le_refl _) ((show RowsF A B H v ls from ⟨vs, h1, h2, h3, h4⟩).mono (fun _ h => h) hB)
  · refine ⟨vs ++ ws, f', by simp [h2, g2], fun b hb => ⟨hA b (by have := nb b hb; omega), (f'.bk_lt hb).2⟩, fun i hi => ?_⟩
    rw [List.length_append] at hi
    by_cases e : i < ls.length
    · obtain ⟨w', q1, q2, q3⟩ := h4 i e
      refine ⟨w', by rw [List.getElem?_append_left (by omega)]; exact q1, ?_, fun b hb => ?_⟩
      · rw [show (ls ++ ms).getD i [] = ls.getD i [] by simp [List.getD, List.getElem?_append_left e]]
        exact fresh_oth q2 fun b o hb ho => ot b o (q3 b hb).2.2.1 ho
      · obtain ⟨r1, r2, r3, r4⟩ := q3 b hb
        refine ⟨r1, by have := k1.len; omega, fun hv => by have := nb b hv; omega, fun j w2 hj hw2 => r4 j w2 hj ?_⟩
        rwa [List.getElem?_append_left (by omega)] at hw2
    · obtain ⟨j, rfl⟩ : ∃ j, i = ls.length + j := ⟨i - ls.length, by omega⟩
      obtain ⟨w', q1, q2, q3⟩ := g4 j (by omega)
      refine ⟨w', by rw [List.getElem?_append_right (by omega), h2, Nat.add_sub_cancel_left]; exact q1, ?_, fun b hb => ?_⟩
      · rw [show (ls ++ ms).getD (ls.length + j) [] = ms.getD j [] by simp [List.getD, List.getElem?_append_right]]
        exact fresh_oth q2 fun b o hb ho => ot b o (fun hv => by have := (h3 b hv).2; have : B ≤ b := (q3 b hb).1; omega) ho
      · obtain ⟨r1, r2, r3, r4⟩ := q3 b hb
        refine ⟨hA b r1, by have := k1.len; omega, fun hv => by have := nb b hv; omega, fun j' w2 hj hw2 hw3 => ?_⟩
        by_cases e2 : j' < ls.length
        · rw [List.getElem?_append_left (by omega)] at hw2
          obtain ⟨w4, s1, _, s3⟩ := h4 j' e2
          rw [hw2] at s1; cases s1
          have := (s3 b hw3).2.1
          have : B ≤ b := r1
          omega
        · rw [List.getElem?_append_right (by omega)] at hw2
          exact r4 (j' - vs.length) w2 (by omega) hw2 hw3

end Go.Proofs
