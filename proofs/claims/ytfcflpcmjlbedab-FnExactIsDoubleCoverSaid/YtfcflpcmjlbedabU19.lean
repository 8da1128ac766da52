/- Contracts of the laws' helpers over lists of lists. -/
import Derived.Test.YtfcflpcmjlbedabK2
import Derived.Test.YtfcflpcmjlbedabU2
set_option linter.unusedVariables false
set_option linter.unusedSimpArgs false
set_option maxRecDepth 100000
namespace Go.Proofs
open Go.Abs

variable {H G : AHeap} {v u f : Value} {l m c : List Int} {es fs : List (Int × Int)} {K : Value → AHeap → Prop} {A A' : Nat → Prop} {B B' : Nat} {ls ms : List (List Int)}

theorem eqInt64SS_ok (h : RowsF A B H v ls) (g : RowsF A' B' H u ms) (hl : ls.length ≤ 4294967296) (hr : ∀ l ∈ ls, l.length ≤ 4294967296) (k : K (.bool (decide (ls = ms))) H) : AC Try.prog T0 17 [v, u] H K := by
  apply F17.ac
  unfold F17.B10 F17.B9
  refine h.len (g.len (pif_cases (fun hb => ?_) fun hb => ?_))
  · unfold F17.B8
    rw [decide_eq_false (by rintro rfl; simp at hb)] at k; exact k
  · have hlen : ls.length = ms.length := by simp at hb; omega
    unfold F17.B7 F17.L2
    refine ⟨fun x0 x1 x5 G => v = x0 ∧ u = x1 ∧ H = G ∧ ∃ i : Nat, x5 = i ∧ i ≤ ls.length ∧ ∀ j, j < i → ls.getD j [] = ms.getD j [], fun _ _ x5 _ => ls.length - x5.toNat, ⟨rfl, rfl, rfl, 0, rfl, by omega, fun j hj => absurd hj (by omega)⟩, ?_⟩
    rintro x0 x1 x5 G ⟨rfl, rfl, rfl, i, rfl, hi, heq⟩
    unfold F17.B6
    refine h.len (pif_cases (fun hb => ?_) fun hb => ?_)
    · have hlt : i < ls.length := by have := of_decide_eq_true hb; omega
      unfold F17.B5
      refine h.row hlt fun w1 f1 => g.row (by omega) fun w2 f2 => eqInt64S_ok f1.ints f2.ints (by rw [getD_of hlt]; exact hr _ (List.getElem_mem hlt)) (asB_mk (pif_cases (fun hs => ?_) fun hs => ?_))
      · unfold F17.B4
        rw [decide_eq_false (by rintro rfl; simp at hs)] at k; exact k
      · unfold F17.B3
        rw [wrap_id (by omega) (by omega)]
        refine ⟨⟨rfl, rfl, rfl, i + 1, by omega, by omega, fun j hj => ?_⟩, by simp; omega⟩
        by_cases e : j = i
        · subst e; simpa using hs
        · exact heq j (by omega)
    · have hge : i = ls.length := by have := of_decide_eq_false hb; omega
      unfold F17.B1
      have : ls = ms := by
        apply List.ext_getElem hlen
        intro j h1 h2
        have := heq j (by omega)
        rwa [getD_of h1, getD_of h2] at this
      rw [decide_eq_true this] at k; exact k

/-- All but rows of a kind lives on. -/
structure ModA (A : Nat → Prop) (H G : AHeap) : Prop where
  len : H.length ≤ G.length
  same : ∀ (c : Nat) (o : AObj), ¬ A c → H[c]? = some (some o) → G[c]? = some (some o)
theorem ModA.refl : ModA A H H := ⟨Nat.le_refl _, fun _ _ _ h => h⟩
theorem ModA.trans {G' : AHeap} (h : ModA A H G) (k : ModA A G G') : ModA A H G' := ⟨Nat.le_trans h.len k.len, fun c o hc ho => k.same c o hc (h.same c o hc ho)⟩
theorem ModA.le {X : AHeap} (h : ModA A H G) (hb : ∀ b, A b → X.length ≤ b) (hl : X.le H) : X.le G :=
  ⟨Nat.le_trans hl.1 h.len, fun c o hc => h.same c o (fun ha => by have := hb c ha; have := lt_of_get hc; omega) (hl.2 _ _ hc)⟩
def totL (ls : List (List Int)) : Nat := (ls.map List.length).sum
theorem totL_snoc (ls : List (List Int)) (l : List Int) : totL (ls ++ [l]) = totL ls + l.length := by simp [totL]
theorem totL_take {i : Nat} (h : i < ls.length) : totL (ls.take (i + 1)) = totL (ls.take i) + (ls.getD i []).length := by
  rw [List.take_succ_eq_append_getElem h, totL_snoc, getD_of h]
theorem totL_le (i : Nat) : totL (ls.take i) ≤ totL ls := by
  have e : totL ls = totL (ls.take i) + totL (ls.drop i) := by unfold totL; rw [← List.sum_append, ← List.map_append, List.take_append_drop]
  omega

end Go.Proofs
