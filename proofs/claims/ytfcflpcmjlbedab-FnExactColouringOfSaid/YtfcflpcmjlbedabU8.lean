/- Contracts: colourings. -/
import Derived.Test.YtfcflpcmjlbedabU6
import Derived.Test.YtfcflpcmjlbedabM3
set_option linter.unusedVariables false
set_option linter.unusedSimpArgs false
set_option maxRecDepth 100000
namespace Go.Proofs
open Go.Abs

variable {H : AHeap} {v u f : Value} {l m c : List Int} {es fs : List (Int × Int)} {K : Value → AHeap → Prop}

theorem lengthL_ok (h : Ints H v l) (k : K (.int .i64 l.length) H) : AC Try.prog T0 122 [v] H K := by
  apply F122.ac
  unfold F122.B2 F122.B1
  exact h.len k
theorem l01At_ok {n x : Int} (h : Edges H v es) (hl : es.length ≤ 1048576) (k : ∀ v' G, H.le G → Fresh H.length G v' 2 1 (LI (atL es x)) → K v' G) : AC Try.prog T0 49 [.agg ⟨[.int .i64 n, v]⟩, .int .i64 x] H K := by
  apply F49.ac
  unfold F49.B9
  refine newK_f (all_iv (edges_one' h)) fun H1 l1 n1 o1 => ?_
  unfold F49.B8
  refine newK_f rfl fun H2 l2 n2 o2 => ?_
  unfold F49.B7 F49.L2
  refine ⟨fun x1 x2 x5 x6 G => x1 = x ∧ x2 = H.length ∧ 0 ≤ x6 ∧ x6 ≤ es.length ∧ H1.le G ∧ Fresh H1.length G x5 2 1 (LI (atTo es x x6.toNat)), fun _ _ _ x6 _ => es.length - x6.toNat, ⟨rfl, rfl, by omega, by omega, l2, .inr ⟨_, 0, Nat.le_refl _, rfl, o2, rfl⟩⟩, ?_⟩
  rintro x1 x2 x5 x6 G ⟨rfl, rfl, h0, h1, hG, hF⟩
  have oG := hG.2 _ _ o1
  have lG := AHeap.le_trans l1 hG
  unfold F49.B6
  refine ld1_own oG rfl ((h.le lG).len (pif_cases (fun hb => ?_) fun hb => ?_))
  · have hlt : x6 < es.length := of_decide_eq_true hb
    obtain ⟨i, rfl⟩ : ∃ i : Nat, x6 = i := ⟨x6.toNat, by omega⟩
    simp only [Int.toNat_natCast] at hF
    have yes : on (es.getD i (0, 0)) x1 = true → ∀ N : Int → Nat → Value → Int → AHeap → Prop, (∀ x5' G', H1.le G' → Fresh H1.length G' x5' 2 1 (LI (atTo es x1 (i + 1))) → N x1 H.length x5' ((i : Int) + 1) G') → F49.B4 K N x1 H.length x5 i G := by
      intro ho N hN
      unfold F49.B4
      refine push_int hF hG (by have := atTo_length es x1 i; omega) fun v' G2 hG2 hF2 _ => ?_
      unfold F49.B3
      rw [wrap_id (by omega) (by omega)]
      exact hN _ _ hG2 (by rw [atTo_succ, if_pos ho]; exact hF2)
    have fin : ∀ x5' G', H1.le G' → Fresh H1.length G' x5' 2 1 (LI (atTo es x1 (i + 1))) → (x1 = x1 ∧ H.length = H.length ∧ 0 ≤ (i : Int) + 1 ∧ (i : Int) + 1 ≤ es.length ∧ H1.le G' ∧ Fresh H1.length G' x5' 2 1 (LI (atTo es x1 ((i : Int) + 1).toNat))) ∧ es.length - ((i : Int) + 1).toNat < es.length - (i : Int).toNat :=
      fun x5' G' a b => ⟨⟨rfl, rfl, by omega, by omega, a, by rw [show ((i : Int) + 1).toNat = i + 1 by omega]; exact b⟩, by omega⟩
    unfold F49.B5
    obtain ⟨b, o, hk, c1, c2⟩ := (h.le lG).idx h0 hlt
    simp only [Int.toNat_natCast] at c1 c2
    refine ld1_own oG rfl (hk _ (ldI_mk c1 (pif_cases (fun hs => ?_) fun hs => ?_)))
    · exact yes (by unfold on; rw [hs]; rfl) _ fin
    · refine ld1_own oG rfl (hk _ (ldI_mk c2 (pif_cases (fun ht => ?_) fun ht => ?_)))
      · exact yes (by unfold on; rw [hs, ht]; rfl) _ fin
      · unfold F49.B3
        rw [wrap_id (by omega) (by omega)]
        exact fin _ _ hG (by rw [atTo_succ, if_neg (by unfold on; rw [hs, ht]; decide), List.append_nil]; exact hF)
  · have hge : ¬ x6 < es.length := of_decide_eq_false hb
    have : x6 = es.length := by omega
    subst this
    unfold F49.B1
    exact k _ _ lG (hF.less l1.1)

/-- An edge's end. -/
def en (e : Int × Int) (k : Nat) : Int := if k = 0 then e.1 else e.2
theorem on_en {e : Int × Int} {k : Nat} : on e (en e k) = true := by
  unfold on en; split <;> simp
theorem on_cases {e : Int × Int} {v : Int} (h : on e v = true) : v = en e 0 ∨ v = en e 1 := by
  unfold on at h; unfold en
  simp only [Bool.or_eq_true, beq_iff_eq] at h
  rcases h with h | h
  · left; simp [h]
  · right; simp [h]
theorem cell_en {H : AHeap} {b o k : Nat} {e : Int × Int} (h1 : H.cell b o = some (.int .i64 e.1)) (h2 : H.cell b (o + 1) = some (.int .i64 e.2)) (hk : k < 2) : H.cell b (o + Int.toNat (k : Int) * 1) = some (.int .i64 (en e k)) := by
  rcases (by omega : k = 0 ∨ k = 1) with rfl | rfl
  · simpa [en] using h1
  · simpa [en] using h2

end Go.Proofs
