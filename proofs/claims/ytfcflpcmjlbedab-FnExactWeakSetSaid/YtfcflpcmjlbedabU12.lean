/- Contracts: edges at a vertex; chains, the program's way. -/
import Derived.Test.YtfcflpcmjlbedabU9
import Derived.Test.YtfcflpcmjlbedabM7
import Derived.Test.YtfcflpcmjlbedabK1
set_option linter.unusedVariables false
set_option linter.unusedSimpArgs false
set_option maxRecDepth 100000
namespace Go.Proofs
open Go.Abs

variable {H : AHeap} {v u f : Value} {l m c : List Int} {es fs : List (Int × Int)} {K : Value → AHeap → Prop}

theorem E_int : Elem T0 2 1 := ⟨tiInt, T0_int.1, T0_int.2.1, by rw [T0_int.2.2.1]; decide, T0_int.2.2.2⟩
theorem LB_get {S : List Bool} {i : Nat} (h : i < S.length) : (LB S)[i]? = some (.bool (S.getD i false)) := by simp [h]
theorem isOn_ok {e : Int × Int} {x : Int} (k : ∀ G, H.le G → K (.bool (on e x)) G) : AC Try.prog T0 151 [ve e, .int .i64 x] H K := by
  apply F151.ac
  unfold F151.B2
  refine newK_f rfl fun H1 l1 n1 o1 => ?_
  unfold F151.B1
  have k := k _ l1
  refine ldI_own o1 rfl (pif_cases (fun hb => ?_) fun hb => ?_)
  · rw [show on e x = true by unfold on; rw [hb]; rfl] at k; exact k
  · rw [show on e x = (e.2 == x) by unfold on; rw [hb]; rfl] at k
    exact ldI_own o1 rfl k

theorem at_ok {n x : Int} (h : Edges H v es) (hl : es.length ≤ 1048576) (k : ∀ v' G, H.le G → Sl H.length G v' 2 1 (LI (atL es x)) → K v' G) : AC Try.prog T0 105 [.agg ⟨[.int .i64 n, v]⟩, .int .i64 x] H K := by
  apply F105.ac
  unfold F105.B10
  refine newK_f (all_iv (edges_one' h)) fun H1 l1 n1 o1 => ?_
  unfold F105.B9 F105.B8
  refine ld1_own o1 rfl ((h.le l1).len ?_)
  unfold F105.L2
  refine ⟨fun x1 x5 x9 x10 x11 G => x = x1 ∧ v = x9 ∧ (es.length : Int) = x10 ∧ H.le G ∧ ∃ i : Nat, x11 = i ∧ i ≤ es.length ∧ Sl H.length G x5 2 1 (LI (atTo es x i)), fun _ _ _ _ x11 _ => es.length - x11.toNat, ⟨rfl, rfl, rfl, l1, 0, rfl, by omega, .nil⟩, ?_⟩
  rintro x1 x5 x9 x10 x11 G ⟨rfl, rfl, rfl, hG, i, rfl, hi, hF⟩
  unfold F105.B7
  refine pif_cases (fun hb => ?_) fun hb => ?_
  · have hlt : i < es.length := by have := of_decide_eq_true hb; omega
    unfold F105.B6
    obtain ⟨b, o, hk, c1, c2⟩ := (h.le hG).idx (show (0 : Int) ≤ i by omega) (by omega)
    simp only [Int.toNat_natCast] at c1 c2
    refine hk _ (ldI_mk c1 (ldI_mk c2 (newK_f rfl fun H2 l2 n2 o2 => stK_f o2 (by simp) (by simp [Value.oneCell']) rfl fun H3 b3 o3 => ?_)))
    have l3 : G.le H3 := b3.le l2 (Nat.le_refl _)
    unfold F105.B5
    refine ldI_own o3 rfl (ldI_own o3 rfl (isOn_ok (e := es.getD i (0, 0)) fun H4 l4 => asB_mk ?_))
    have l4 := AHeap.le_trans l3 l4
    have hF := hF.le l4
    have lG := AHeap.le_trans hG l4
    refine pif_cases (fun hs => ?_) fun hs => ?_
    · unfold F105.B4
      refine hF.pushN E_int (by decide) lG.1 (n := 1) (ys := [.int .i64 i]) rfl rfl (by have := atTo_length es x i; simp; omega) (by simp) fun v' G2 k2 _ _ f2 => ?_
      unfold F105.B3
      rw [wrap_id (by omega) (by omega)]
      refine ⟨⟨rfl, rfl, rfl, k2.le lG (Nat.le_refl _), i + 1, by omega, by omega, ?_⟩, by simp; omega⟩
      rw [atTo_succ, if_pos hs]
      simpa using f2.sl
    · unfold F105.B3
      rw [wrap_id (by omega) (by omega)]
      refine ⟨⟨rfl, rfl, rfl, lG, i + 1, by omega, by omega, ?_⟩, by simp; omega⟩
      rw [atTo_succ, if_neg (by rw [hs]; decide), List.append_nil]; exact hF
  · have hge : i = es.length := by have := of_decide_eq_false hb; omega
    subst hge
    unfold F105.B1
    exact k _ _ hG hF

/-- A state inside a round: the edge x is looked at; of which edges one is past. -/
structure InX (es : List (Int × Int)) (p : Nat → Bool) (e x M : Nat) (D : Nat → Prop) (S : Nat → Bool) (Q : List Nat) : Prop where
  ex : Ex (eAdj es p) e S (x :: Q)
  bnd : ∀ y, S y = true → y < es.length
  mu : 2 * unseen S es.length + (Q.length + 1) ≤ M
  past : ∀ j, D j → S j = true
theorem InX.more {es : List (Int × Int)} {p : Nat → Bool} {e x M : Nat} {D D' : Nat → Prop} {S : Nat → Bool} {Q : List Nat} (h : InX es p e x M D S Q) (hd : ∀ j, D' j → D j ∨ S j = true) : InX es p e x M D' S Q :=
  ⟨h.ex, h.bnd, h.mu, fun j hj => (hd j hj).elim (h.past j) id⟩
theorem InX.push {es : List (Int × Int)} {p : Nat → Bool} {e x M y : Nat} {D D' : Nat → Prop} {S S' : Nat → Bool} {Q : List Nat} (h : InX es p e x M D S Q) (hy : eAdj es p x y) (hn : S y = false) (hs : ∀ j, S' j = insB S y j) (hd : ∀ j, D' j → D j ∨ j = y) : InX es p e x M D' S' (Q ++ [y]) := by
  obtain rfl : S' = insB S y := funext hs
  have hx : S x = true := h.ex.q x (by simp)
  refine ⟨h.ex.push hx hy, fun z hz => ?_, ?_, fun j hj => ?_⟩
  · by_cases e' : z = y
    · rw [e']; exact hy.1
    · exact h.bnd z (insB_ne hz e')
  · have := unseen_ins (n := es.length) hy.1 hn
    have := h.mu
    simp; omega
  · rcases hd j hj with hj | rfl
    · exact insB_of (h.past j hj)
    · exact insB_self _ _
/-- Past the first m ends' edges. -/
def PastE (es : List (Int × Int)) (p : Nat → Bool) (x m : Nat) (j : Nat) : Prop := j < es.length ∧ p j = true ∧ ∃ m', m' < m ∧ on (es.getD j (0, 0)) (en (es.getD x (0, 0)) m') = true
/-- And past the first t edges at the next end. -/
def PastT (es : List (Int × Int)) (p : Nat → Bool) (x m t : Nat) (j : Nat) : Prop := PastE es p x m j ∨ (p j = true ∧ ∃ t', t' < t ∧ (atL es (en (es.getD x (0, 0)) m)).getD t' 0 = j ∧ t' < (atL es (en (es.getD x (0, 0)) m)).length)
theorem PastT.fin {es : List (Int × Int)} {p : Nat → Bool} {x m : Nat} {j : Nat} (h : PastE es p x (m + 1) j) : PastT es p x m (atL es (en (es.getD x (0, 0)) m)).length j := by
  obtain ⟨h1, h2, m', h3, h4⟩ := h
  by_cases e : m' = m
  · subst e
    have hm : (j : Int) ∈ atL es (en (es.getD x (0, 0)) m') := mem_atL.2 ⟨j, rfl, h1, h4⟩
    obtain ⟨t, ht, hte⟩ := List.getElem_of_mem hm
    exact .inr ⟨h2, t, ht, by rw [getD_of ht, hte], ht⟩
  · exact .inl ⟨h1, h2, m', by omega, h4⟩
theorem PastT.step {es : List (Int × Int)} {p : Nat → Bool} {x m t : Nat} {j : Nat} (h : PastT es p x m (t + 1) j) : PastT es p x m t j ∨ (p j = true ∧ (atL es (en (es.getD x (0, 0)) m)).getD t 0 = j) := by
  rcases h with h | ⟨h1, t', h2, h3, h4⟩
  · exact .inl (.inl h)
  · by_cases e : t' = t
    · subst e; exact .inr ⟨h1, h3⟩
    · exact .inl (.inr ⟨h1, t', by omega, h3, h4⟩)
theorem at_get {es : List (Int × Int)} {w : Int} {t : Nat} (h : t < (atL es w).length) : ∃ i : Nat, (atL es w).getD t 0 = i ∧ i < es.length ∧ on (es.getD i (0, 0)) w = true := by
  obtain ⟨i, h1, h2, h3⟩ := mem_atL.1 (List.getElem_mem h)
  exact ⟨i, by rw [getD_of h]; exact h1, h2, h3⟩
end Go.Proofs
