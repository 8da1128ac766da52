/- Contracts: all sets of so many numbers, the reference's way; what grows out of lists that are there. -/
import Derived.Test.YtfcflpcmjlbedabK2
import Derived.Test.YtfcflpcmjlbedabU22
import Derived.Test.YtfcflpcmjlbedabU13
import Derived.Test.YtfcflpcmjlbedabM9
set_option linter.unusedVariables false
set_option linter.unusedSimpArgs false
set_option maxRecDepth 100000
namespace Go.Proofs
open Go.Abs

variable {H G : AHeap} {v u f : Value} {l m c D : List Int} {es fs : List (Int × Int)} {K : Value → AHeap → Prop} {A A' : Nat → Prop} {B : Nat} {ls ms : List (List Int)}

/-- A list that is there comes to the end of another. -/
theorem RowsF.pushA {w : Value} (h : RowsF A B H v ls) (hB : B ≤ H.length) (hA : ∀ b, A b → A' b) (hn : ∀ b, H.length ≤ b → A' b) (hw : Fresh 0 H w 2 1 (LI l)) (hwb : ∀ b, bk w = some b → ¬ A b ∧ A' b) (hs : ls.length < 4294967296)
    (k : ∀ v' G, Oth v H G → (∀ b, bk v' = some b → H.length ≤ b) → H.length ≤ G.length → RowsF A' G.length G v' (ls ++ [l]) → K v' G) :
    pif w.oneCell' (newK H [w] 25 (fun b1 H2 => apK T0 25 H2 v (.slice (some ⟨b1, 0, none⟩) 1 (1 + 1)) K)) False := by
  have hw1 : w.oneCell' = true := ints_one hw.ints
  refine pif_t hw1 ?_
  obtain ⟨vs, h1, h2, h3, h4⟩ := h
  refine h1.sl.pushN E_row (by decide) (Nat.zero_le _) (n := 1) (ys := [w]) rfl (by simpa using hw1) (by simp; omega) (by simp) fun v' G k1 ot nb f' => k v' G ot nb k1.len ?_
  have hbw : ∀ b, bk w = some b → b < H.length := fun b hb => (hw.bk_lt hb).2
  refine ⟨vs ++ [w], f', by simp [h2], fun b hb => ⟨hn b (nb b hb), (f'.bk_lt hb).2⟩, fun i hi => ?_⟩
  by_cases e : i < ls.length
  · obtain ⟨w', g1, g2, g3⟩ := h4 i e
    refine ⟨w', by rw [List.getElem?_append_left (by omega)]; exact g1, ?_, fun b hb => ?_⟩
    · rw [show (ls ++ [l]).getD i [] = ls.getD i [] by simp [List.getD, List.getElem?_append_left e]]
      exact fresh_oth g2 fun b o hb ho => ot b o (g3 b hb).2.2.1 ho
    · obtain ⟨q1, q2, q3, q4⟩ := g3 b hb
      refine ⟨hA b q1, by have := k1.len; omega, fun hv => by have := nb b hv; omega, fun j w2 hj hw2 => q4 j w2 hj ?_⟩
      rwa [List.getElem?_append_left (by omega)] at hw2
  · have : i = ls.length := by simp at hi; omega
    subst this
    refine ⟨w, by rw [← h2]; simp, ?_, fun b hb => ?_⟩
    · rw [show (ls ++ [l]).getD ls.length [] = l by simp [List.getD]]
      exact fresh_oth hw fun b o hb ho => ot b o (fun hv => (hwb b hb).1 (h3 b hv).1) ho
    · have hb' := hbw b hb
      refine ⟨(hwb b hb).2, by have := k1.len; omega, fun hv => by have := nb b hv; omega, fun j w2 hj hw2 hw3 => ?_⟩
      rw [List.getElem?_append_left (by omega)] at hw2
      obtain ⟨w4, g1, _, g3⟩ := h4 j hj
      rw [hw2] at g1; cases g1
      exact (hwb b hb).1 (g3 b hw3).1

theorem l03Sets_ok {n : Nat} (hn : n ≤ 64) : ∀ (k f : Nat) (H : AHeap) (K : Value → AHeap → Prop), k ≤ 4 → f ≤ n →
    (∀ v' G, H.le G → RowsF (fun b => H.length ≤ b) G.length G v' (cmb n k f) → K v' G) → AC Try.prog T0 81 [.int .i64 (n : Nat), .int .i64 (k : Nat), .int .i64 (f : Nat)] H K
  | 0, f, H, K, _, hf, kk => by
    apply F81.ac
    unfold F81.B15 F81.B14
    refine pif_t rfl ?_
    unfold F81.B13
    refine newK_f rfl fun H1 l1 n1 o1 => newK_f rfl fun H2 l2 n2 o2 => ?_
    refine kk _ _ (AHeap.le_trans l1 l2) ?_
    rw [cmb_zero]
    refine ⟨[.slice (some ⟨H.length, 0, none⟩) 0 (0 + 1)], .inr ⟨H1.length, 1, Nat.zero_le _, rfl, o2, rfl⟩, rfl, fun b hb => ?_, fun i hi => ?_⟩
    · have : b = H1.length := by cases hb; rfl
      omega
    · obtain rfl : i = 0 := by simpa using hi
      refine ⟨_, rfl, .inr ⟨_, 0, Nat.zero_le _, rfl, o1.le l2, rfl⟩, fun b hb => ?_⟩
      have : b = H.length := by cases hb; rfl
      subst this
      refine ⟨Nat.le_refl _, by omega, fun e => ?_, fun j w' hj => absurd hj (by omega)⟩
      have : some H1.length = some H.length := e
      have := Option.some.inj this
      omega
  | k + 1, f, H, K, hk, hf, kk => by
    have cl : ∀ j f', j ≤ 4 → (cmb n j f').length ≤ 64 ^ 4 := fun j f' hj => Nat.le_trans (cmb_length j f') (Nat.le_trans (Nat.pow_le_pow_left hn j) (Nat.pow_le_pow_right (by decide) hj))
    have e64 : 64 ^ 4 = 16777216 := by decide
    apply F81.ac
    unfold F81.B15 F81.B14
    refine pif_f (by simp; omega) ?_
    unfold F81.B12
    refine newK_f rfl fun H1 l1 n1 o1 => ?_
    unfold F81.B11 F81.L2
    refine ⟨fun x0 x1 x7 x8 G => ((n : Nat) : Int) = x0 ∧ (((k + 1 : Nat) : Nat) : Int) = x1 ∧ H.le G ∧ ∃ i : Nat, x8 = i ∧ f ≤ i ∧ i ≤ n ∧ RowsF (fun b => H.length ≤ b) G.length G x7 (cmbTo n k f i), fun _ _ _ x8 _ => n - x8.toNat,
      ⟨rfl, rfl, l1, f, rfl, Nat.le_refl _, hf, ?_⟩, ?_⟩
    · rw [cmbTo_start (Nat.le_refl _)]
      exact .nil1 o1 (Nat.le_refl _) (by omega)
    rintro x0 x1 x7 x8 G ⟨rfl, rfl, hG, i, rfl, hfi, hin, hR⟩
    have hlen : ∀ i', i' ≤ n → (cmbTo n k f i').length ≤ 16777216 * 65 := by
      intro i' hi'
      have h := flatMap_len (c := 64 ^ 4) ((List.range i').filter fun i => decide (f ≤ i)) (f := fun i => (cmb n k (i + 1)).map ((i : Int) :: ·)) fun i _ => by rw [List.length_map]; exact cl k (i + 1) (by omega)
      have h2 : ((List.range i').filter fun i => decide (f ≤ i)).length ≤ i' := Nat.le_trans (List.length_filter_le _ _) (by simp)
      unfold cmbTo
      refine Nat.le_trans h ?_
      rw [e64, Nat.mul_comm]
      exact Nat.mul_le_mul_left _ (by omega)
    unfold F81.B10
    refine pif_cases (fun hb => ?_) fun hb => ?_
    · have hil : i < n := by have := of_decide_eq_true hb; omega
      unfold F81.B9
      rw [wrap_id (by omega) (by omega), wrap_id (by omega) (by omega), show (((k + 1 : Nat) : Nat) : Int) - 1 = ((k : Nat) : Int) by omega, show ((i : Nat) : Int) + 1 = ((i + 1 : Nat) : Int) by omega]
      refine l03Sets_ok hn k (i + 1) G _ (by omega) (by omega) fun r G2 l2 hr => ?_
      have hkl := cl k (i + 1) (by omega)
      have hml := hlen i (by omega)
      have hg2 := l2.1
      obtain ⟨R, hRR⟩ : ∃ R, R = cmb n k (i + 1) := ⟨_, rfl⟩
      rw [← hRR] at hr hkl
      have hRlen : ∀ j, j < R.length → (R.getD j []).length ≤ 4 := by
        intro j hj
        rw [getD_of hj]
        have hm := List.getElem_mem hj
        have : R[j] ∈ cmb n k (i + 1) := by rw [← hRR]; exact hm
        have := (mem_cmb this).1
        omega
      have hbr : ∀ b, bk x7 = some b → b < G.length := fun b hb => by
        obtain ⟨vs, _, _, q3, _⟩ := hR
        exact (q3 b hb).2
      unfold F81.B8 F81.L4
      refine ⟨fun x0 x1 x7 x8 x9 x10 G' => ((n : Nat) : Int) = x0 ∧ (((k + 1 : Nat) : Nat) : Int) = x1 ∧ ((i : Nat) : Int) = x8 ∧ r = x9 ∧ H.le G' ∧ G2.length ≤ G'.length ∧ RowsF (fun b => G.length ≤ b) G2.length G' r R ∧ (∀ b, bk x7 = some b → b < G.length ∨ G2.length ≤ b) ∧ ∃ j : Nat, x10 = j ∧ j ≤ R.length ∧ RowsF (fun b => H.length ≤ b) G'.length G' x7 (cmbTo n k f i ++ (R.take j).map ((i : Int) :: ·)),
        fun _ _ _ _ _ x10 _ => R.length - x10.toNat, ⟨rfl, rfl, rfl, rfl, AHeap.le_trans hG l2, Nat.le_refl _, hr, fun b hb => .inl (hbr b hb), 0, rfl, by omega, ?_⟩, ?_⟩
      · rw [List.take_zero, List.map_nil, List.append_nil]
        exact (hR.le l2).mono (fun _ h => h) hg2
      clear hR hr hbr
      rintro x0 x1 x7 x8 x9 x10 G3 ⟨rfl, rfl, rfl, rfl, hG3, hl3, hr, hbr, j, rfl, hj, hR⟩
      unfold F81.B7
      refine hr.len (pif_cases (fun hb => ?_) fun hb => ?_)
      · have hjl : j < R.length := by have := of_decide_eq_true hb; omega
        unfold F81.B6
        refine newK_f rfl fun H4 l4 n4 o4 => ?_
        refine (hr.le l4).row hjl fun w hw => ?_
        have h41 : H4.length = G3.length + 1 := n4
        have hRj := hRlen j hjl
        have go : ∀ w' G5, Keep G3.length G3 G5 → Fresh G3.length G5 w' 2 1 (LI ((i : Int) :: R.getD j [])) → pif w'.oneCell' (newK G5 [w'] 25 (fun b8 H9 => apK T0 25 H9 x7 (.slice (some ⟨b8, 0, none⟩) 1 (1 + 1)) (fun v10 H11 => F81.B5 K (fun x0 x1 x7 x8 G => (((n : Nat) : Int) = x0 ∧ (((k + 1 : Nat) : Nat) : Int) = x1 ∧ H.le G ∧ ∃ i : Nat, x8 = i ∧ f ≤ i ∧ i ≤ n ∧ RowsF (fun b => H.length ≤ b) G.length G x7 (cmbTo n k f i)) ∧ n - x8.toNat < n - (i : Int).toNat)
            (fun x0 x1 x7 x8 x9 x10 G' => (((n : Nat) : Int) = x0 ∧ (((k + 1 : Nat) : Nat) : Int) = x1 ∧ ((i : Nat) : Int) = x8 ∧ r = x9 ∧ H.le G' ∧ G2.length ≤ G'.length ∧ RowsF (fun b => G.length ≤ b) G2.length G' r R ∧ (∀ b, bk x7 = some b → b < G.length ∨ G2.length ≤ b) ∧ ∃ j : Nat, x10 = j ∧ j ≤ R.length ∧ RowsF (fun b => H.length ≤ b) G'.length G' x7 (cmbTo n k f i ++ (R.take j).map ((i : Int) :: ·))) ∧ R.length - x10.toNat < R.length - (j : Int).toNat)
            n (k + 1 : Nat) v10 i r j H11))) False := by
          intro w' G5 k5 f5
          have k5l := k5.len
          refine (hR.keep k5).push k5l (fun b hb => by have := hG3.1; omega) f5 (by rw [List.length_append, List.length_map, List.length_take]; omega) fun v' G6 ot nb hlen hR6 => ?_
          unfold F81.B5
          rw [wrap_id (by omega) (by omega)]
          refine ⟨⟨rfl, rfl, rfl, rfl, ?_, by omega, ?_, fun b hb => .inr (by have := nb b hb; omega), j + 1, by omega, by omega, ?_⟩, by show R.length - ((j : Int) + 1).toNat < R.length - (j : Int).toNat; omega⟩
          · refine ⟨by have := hG3.1; omega, fun b o ho => ot b o (fun hv => ?_) (k5.old b o (by have := lt_of_get ho; have := hG3.1; omega) (hG3.2 _ _ ho))⟩
            obtain ⟨vs, _, _, q3, _⟩ := hR
            have := (q3 b hv).1
            have := lt_of_get ho
            omega
          · refine hr.move fun b o h1 h2 ho => ot b o (fun hv => ?_) (k5.old b o (by omega) ho)
            rcases hbr b hv with h | h <;> omega
          · rw [List.take_succ_eq_append_getElem hjl, List.map_append, ← List.append_assoc]
            rw [getD_of hjl] at hR6
            exact hR6
        refine Sl.app (m := G3.length) (cs := [.int .i64 i]) E_int (by decide) (.inr ⟨G3.length, 1, [], [], Nat.le_refl _, rfl, by simpa using o4, rfl⟩) (by omega) (fresh_cells hw (by decide) (n := (R.getD j []).length) (by simp)) (by simp only [LI, List.length_map, List.length_cons, List.length_nil]; omega) (fun h0 => ?_) fun v' G5 k5 ot5 nb5 f5 => ?_
        · have : R.getD j [] = [] := by simpa using h0
          refine go _ _ (Keep.of_le l4) ?_
          rw [this]
          exact .inr ⟨_, 1, Nat.le_refl _, rfl, o4, rfl⟩
        · refine go _ _ ((Keep.of_le l4).trans k5) ?_
          simpa using f5
      · have hjl : j = R.length := by have := of_decide_eq_false hb; omega
        subst hjl
        unfold F81.B3
        rw [wrap_id (by omega) (by omega)]
        refine ⟨⟨rfl, rfl, hG3, i + 1, by omega, by omega, by omega, ?_⟩, by simp; omega⟩
        rw [cmbTo_succ hfi, ← hRR]
        rw [List.take_length] at hR
        exact hR
    · have hil : i = n := by have := of_decide_eq_false hb; omega
      subst hil
      unfold F81.B1
      exact kk _ _ hG hR
end Go.Proofs
