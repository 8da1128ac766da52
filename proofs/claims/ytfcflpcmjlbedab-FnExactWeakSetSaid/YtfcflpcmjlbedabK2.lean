/- Lists of lists of one's own. -/
import Derived.Test.YtfcflpcmjlbedabU12
set_option linter.unusedVariables false
set_option linter.unusedSimpArgs false
set_option maxRecDepth 100000
namespace Go.Proofs
open Go.Abs

variable {H G : AHeap} {v u f : Value} {l m c : List Int} {es fs : List (Int × Int)} {K : Value → AHeap → Prop} {A : Nat → Prop} {B : Nat} {ls : List (List Int)}

noncomputable def tiRow : TI := (T0 25).getD ⟨.bool, 0, 0, undef⟩
theorem E_row : Elem T0 25 1 := ⟨tiRow, by kernel_rfl, by kernel_rfl, of_decide_eq_true (by kernel_rfl), by kernel_rfl⟩
theorem Sl_rd1 {m0 : Nat} {t : TypeId} {cs : List Value} {i : Int} {K : Nat → Nat → Prop} (h : Sl m0 H v t 1 cs) (h0 : 0 ≤ i) (h1 : i < cs.length) (k : ∀ b o, H.cell b o = cs[i.toNat]? → K b o) : idxK v i 1 K := by
  rcases h with ⟨rfl, _⟩ | ⟨b, n, pre, post, _, rfl, ho, hn⟩
  · simp at h1; omega
  · refine ⟨h0, by omega, k _ _ ?_⟩
    rw [Nat.mul_one, Own.cell ho, List.append_assoc, List.getElem?_append_right (Nat.le_add_right _ _), Nat.add_sub_cancel_left, List.getElem?_append_left (by omega)]
theorem Sl_rd {m0 : Nat} {t : TypeId} {cs : List Value} {i : Int} {x : Value} {K : Value → Prop} (h : Sl m0 H v t 1 cs) (h0 : 0 ≤ i) (h1 : i < cs.length) (hx : cs[i.toNat]? = some x) (k : K x) : idxK v i 1 (fun b o => ld1 H b o K) :=
  Sl_rd1 h h0 h1 fun b o hc => ld1_mk (hc.trans hx) k
/-- A list of lists in rows of one's own, each in its own block, of a kind and older than B. -/
def RowsF (A : Nat → Prop) (B : Nat) (H : AHeap) (v : Value) (ls : List (List Int)) : Prop :=
  ∃ vs : List Value, Fresh 0 H v 25 1 vs ∧ vs.length = ls.length ∧ (∀ b, bk v = some b → A b ∧ b < B) ∧
    ∀ i, i < ls.length → ∃ w, vs[i]? = some w ∧ Fresh 0 H w 2 1 (LI (ls.getD i [])) ∧ ∀ b, bk w = some b → A b ∧ b < B ∧ bk v ≠ some b ∧ ∀ j w', j < i → vs[j]? = some w' → bk w' ≠ some b
theorem RowsF.nil : RowsF A B H (.slice none 0 0) [] := ⟨[], .inl ⟨rfl, .inl rfl⟩, rfl, (fun b h => by cases h), fun i h => absurd h (by simp)⟩
theorem fresh_oth {m0 : Nat} {t : TypeId} {z : Nat} {cs : List Value} (h : Fresh m0 H v t z cs) (k : ∀ b o, bk v = some b → H[b]? = some (some o) → G[b]? = some (some o)) : Fresh m0 G v t z cs := by
  rcases h with h | ⟨b, n, h1, rfl, h3, h4⟩
  · exact .inl h
  · exact .inr ⟨b, n, h1, rfl, k b _ rfl h3, h4⟩
theorem RowsF.move (h : RowsF A B H v ls) (k : ∀ b o, A b → b < B → H[b]? = some (some o) → G[b]? = some (some o)) : RowsF A B G v ls := by
  obtain ⟨vs, h1, h2, h3, h4⟩ := h
  refine ⟨vs, fresh_oth h1 fun b o hb ho => k b o (h3 b hb).1 (h3 b hb).2 ho, h2, h3, fun i hi => ?_⟩
  obtain ⟨w, g1, g2, g3⟩ := h4 i hi
  exact ⟨w, g1, fresh_oth g2 fun b o hb ho => k b o (g3 b hb).1 (g3 b hb).2.1 ho, g3⟩
theorem RowsF.le (h : RowsF A B H v ls) (hl : H.le G) : RowsF A B G v ls := h.move fun b o _ _ ho => hl.2 b o ho
theorem RowsF.keep (h : RowsF A B H v ls) (hk : Keep B H G) : RowsF A B G v ls := h.move fun b o _ hb ho => hk.old b o hb ho
theorem RowsF.but {b : Nat} (h : RowsF A B H v ls) (hb : But b H G) (hn : ¬ A b) : RowsF A B G v ls :=
  h.move fun c o ha _ ho => by rw [hb.same c (fun e => hn (e ▸ ha))]; exact ho
theorem RowsF.len (h : RowsF A B H v ls) {K : Nat → Prop} (k : K ls.length) : lenK v K := by
  obtain ⟨vs, h1, h2, _⟩ := h
  exact h1.sl.len (by decide) (n := ls.length) (by omega) k
theorem RowsF.push {w : Value} (h : RowsF A B H v ls) (hB : B ≤ H.length) (hA : ∀ b, B ≤ b → A b) (hw : Fresh B H w 2 1 (LI l)) (hs : ls.length < 4294967296)
    (k : ∀ v' G, Oth v H G → (∀ b, bk v' = some b → H.length ≤ b) → H.length ≤ G.length → RowsF A G.length G v' (ls ++ [l]) → K v' G) :
    pif w.oneCell' (newK H [w] 25 (fun b1 H2 => apK T0 25 H2 v (.slice (some ⟨b1, 0, none⟩) 1 (1 + 1)) K)) False := by
  have hw1 : w.oneCell' = true := ints_one hw.ints
  refine pif_t hw1 ?_
  obtain ⟨vs, h1, h2, h3, h4⟩ := h
  refine h1.sl.pushN E_row (by decide) (Nat.zero_le _) (n := 1) (ys := [w]) rfl (by simpa using hw1) (by simp; omega) (by simp) fun v' G k1 ot nb f' => k v' G ot nb k1.len ?_
  have hbw : ∀ b, bk w = some b → B ≤ b ∧ b < H.length := fun b hb => hw.bk_lt hb
  refine ⟨vs ++ [w], f', by simp [h2], fun b hb => ⟨hA b (by have := nb b hb; omega), (f'.bk_lt hb).2⟩, fun i hi => ?_⟩
  by_cases e : i < ls.length
  · obtain ⟨w', g1, g2, g3⟩ := h4 i e
    refine ⟨w', by rw [List.getElem?_append_left (by omega)]; exact g1, ?_, fun b hb => ?_⟩
    · rw [show (ls ++ [l]).getD i [] = ls.getD i [] by simp [List.getD, List.getElem?_append_left e]]
      exact fresh_oth g2 fun b o hb ho => ot b o (g3 b hb).2.2.1 ho
    · obtain ⟨q1, q2, q3, q4⟩ := g3 b hb
      refine ⟨q1, by have := k1.len; omega, fun hv => by have := nb b hv; omega, fun j w2 hj hw2 => q4 j w2 hj ?_⟩
      rwa [List.getElem?_append_left (by omega)] at hw2
  · have : i = ls.length := by simp at hi; omega
    subst this
    refine ⟨w, by rw [← h2]; simp, ?_, fun b hb => ?_⟩
    · rw [show (ls ++ [l]).getD ls.length [] = l by simp [List.getD]]
      exact fresh_oth (hw.less (Nat.zero_le _)) fun b o hb ho => ot b o (fun hv => by have := (h3 b hv).2; have := (hbw b hb).1; omega) ho
    · have hb' := hbw b hb
      refine ⟨hA b hb'.1, by have := k1.len; omega, fun hv => by have := nb b hv; omega, fun j w2 hj hw2 hw3 => ?_⟩
      rw [List.getElem?_append_left (by omega)] at hw2
      obtain ⟨w4, g1, _, g3⟩ := h4 j hj
      rw [hw2] at g1; cases g1
      have := (g3 b hw3).2.1; omega
theorem RowsF.row (h : RowsF A B H v ls) {i : Nat} (hi : i < ls.length) {K : Value → Prop} (k : ∀ w, Fresh 0 H w 2 1 (LI (ls.getD i [])) → K w) : idxK v i 1 (fun b o => ld1 H b o K) := by
  obtain ⟨vs, h1, h2, h3, h4⟩ := h
  obtain ⟨w, g1, g2, g3⟩ := h4 i hi
  exact Sl_rd h1.sl (by omega) (by omega) (by rw [Int.toNat_natCast]; exact g1) (k w g2)
end Go.Proofs
