/- Contracts of the laws' helpers over lists of lists. -/
import Derived.Test.YtfcflpcmjlbedaaDoorK2
import Derived.Test.YtfcflpcmjlbedaaDoorU2
set_option linter.unusedVariables false
set_option linter.unusedSimpArgs false
set_option maxRecDepth 100000
namespace Go.Proofs
open Go.Abs

variable {H G : AHeap} {v u f : Value} {l m c : List Int} {es fs : List (Int × Int)} {K : Value → AHeap → Prop} {A A' : Nat → Prop} {B B' : Nat} {ls ms : List (List Int)}

theorem eqInt64SS_ok (h : RowsF A B H v ls) (g : RowsF A' B' H u ms) (hl : ls.length ≤ 4294967296) (hr : ∀ l ∈ ls, l.length ≤ 4294967296) (k : K (.bool (decide (ls = ms))) H) : AC Tryd.prog T0 20 [v, u] H K := by
  apply F20.ac
  unfold F20.B10 F20.B9
  refine h.len (g.len (pif_cases (fun hb => ?_) fun hb => ?_))
  · unfold F20.B8
    rw [decide_eq_false (by rintro rfl; simp at hb)] at k; exact k
  · have hlen : ls.length = ms.length := by simp at hb; omega
    unfold F20.B7 F20.L2
    refine ⟨fun x0 x1 x5 G => v = x0 ∧ u = x1 ∧ H = G ∧ ∃ i : Nat, x5 = i ∧ i ≤ ls.length ∧ ∀ j, j < i → ls.getD j [] = ms.getD j [], fun _ _ x5 _ => ls.length - x5.toNat, ⟨rfl, rfl, rfl, 0, rfl, by omega, fun j hj => absurd hj (by omega)⟩, ?_⟩
    rintro x0 x1 x5 G ⟨rfl, rfl, rfl, i, rfl, hi, heq⟩
    unfold F20.B6
    refine h.len (pif_cases (fun hb => ?_) fun hb => ?_)
    · have hlt : i < ls.length := by have := of_decide_eq_true hb; omega
      unfold F20.B5
      refine h.row hlt fun w1 f1 => g.row (by omega) fun w2 f2 => eqInt64S_ok f1.ints f2.ints (by rw [getD_of hlt]; exact hr _ (List.getElem_mem hlt)) (asB_mk (pif_cases (fun hs => ?_) fun hs => ?_))
      · unfold F20.B4
        rw [decide_eq_false (by rintro rfl; simp at hs)] at k; exact k
      · unfold F20.B3
        rw [wrap_id (by omega) (by omega)]
        refine ⟨⟨rfl, rfl, rfl, i + 1, by omega, by omega, fun j hj => ?_⟩, by simp; omega⟩
        by_cases e : j = i
        · subst e; simpa using hs
        · exact heq j (by omega)
    · have hge : i = ls.length := by have := of_decide_eq_false hb; omega
      unfold F20.B1
      have : ls = ms := by
        apply List.ext_getElem hlen
        intro j h1 h2
        have := heq j (by omega)
        rwa [getD_of h1, getD_of h2] at this
      rw [decide_eq_true this] at k; exact k

/-- All but rows of a kind lives on. -/
structure ModA (A : Nat → Prop) (H G : AHeap) : Prop where
  len : H.length ≤ G.length
  same : ∀ (c : Nat) (o : AObj), ¬ A c → H[c]? = some (some o) → G[c]? = some (some o)
theorem ModA.refl : ModA A H H := ⟨Nat.le_refl _, fun _ _ _ h => h⟩
theorem ModA.trans {G' : AHeap} (h : ModA A H G) (k : ModA A G G') : ModA A H G' := ⟨Nat.le_trans h.len k.len, fun c o hc ho => k.same c o hc (h.same c o hc ho)⟩
theorem ModA.le {X : AHeap} (h : ModA A H G) (hb : ∀ b, A b → X.length ≤ b) (hl : X.le H) : X.le G :=
  ⟨Nat.le_trans hl.1 h.len, fun c o hc => h.same c o (fun ha => by have := hb c ha; have := lt_of_get hc; omega) (hl.2 _ _ hc)⟩
theorem Mod.toA {b : Nat} (h : Mod v H G) (hf : ∀ b, bk v = some b → A b) : ModA A H G :=
  ⟨h.len, fun c o hc ho => h.same c o ho fun n hn => hc (hf c (by rw [hn]; rfl))⟩
theorem RowsF.rowM (h : RowsF A B H v ls) {i : Nat} (hi : i < ls.length) {K : Value → Prop}
    (k : ∀ w, Fresh 0 H w 2 1 (LI (ls.getD i [])) → (∀ G l', Mod w H G → Fresh 0 G w 2 1 (LI l') → RowsF A B G v (ls.set i l')) → (∀ b, bk w = some b → A b) → K w) : idxK v i 1 (fun b o => ld1 H b o K) := by
  obtain ⟨vs, h1, h2, h3, h4⟩ := h
  obtain ⟨w, g1, g2, g3⟩ := h4 i hi
  refine Sl_rd h1.sl (by omega) (by omega) (by rw [Int.toNat_natCast]; exact g1) (k w g2 (fun G l' hm hf => ?_) fun b hb => (g3 b hb).1)
  have ne : ∀ (b : Nat) (o : AObj), bk w ≠ some b → H[b]? = some (some o) → G[b]? = some (some o) := fun b o hb ho => hm.same b o ho fun n hn => hb (by rw [hn]; rfl)
  refine ⟨vs, fresh_oth h1 fun b o hb ho => ne b o (fun hw => (g3 b hw).2.2.1 hb) ho, by simp [h2], h3, fun j hj => ?_⟩
  rw [List.length_set] at hj
  by_cases e : i = j
  · subst e
    refine ⟨w, g1, ?_, g3⟩
    rw [show (ls.set i l').getD i [] = l' by simp [List.getD, hj]]; exact hf
  · obtain ⟨w', q1, q2, q3⟩ := h4 j hj
    refine ⟨w', q1, ?_, q3⟩
    rw [show (ls.set i l').getD j [] = ls.getD j [] by simp [List.getD, List.getElem?_set, e]]
    refine fresh_oth q2 fun b o hb ho => ne b o (fun hw => ?_) ho
    rcases Nat.lt_or_ge i j with hij | hij
    · exact (q3 b hb).2.2.2 i w hij g1 hw
    · exact (g3 b hw).2.2.2 j w' (by omega) q1 hb
def totL (ls : List (List Int)) : Nat := (ls.map List.length).sum
def markL : Int → List (List Int) → List (List Int)
  | _, [] => []
  | k, l :: ls => marks k l.length :: markL (k + l.length) ls
theorem markL_length : ∀ (k : Int) (ls : List (List Int)), (markL k ls).length = ls.length
  | _, [] => rfl
  | k, l :: ls => by simp [markL, markL_length]
theorem totL_snoc (ls : List (List Int)) (l : List Int) : totL (ls ++ [l]) = totL ls + l.length := by simp [totL]
theorem markL_snoc : ∀ (k : Int) (ls : List (List Int)) (l : List Int), markL k (ls ++ [l]) = markL k ls ++ [marks (k + totL ls) l.length]
  | k, [], l => by simp [markL, totL]
  | k, a :: ls, l => by
    have e : k + (a.length : Int) + (totL ls : Int) = k + (totL (a :: ls) : Int) := by simp [totL]; omega
    simp only [List.cons_append, markL, markL_snoc]
    rw [e]
theorem totL_mark : ∀ (k : Int) (ls : List (List Int)), totL (markL k ls) = totL ls
  | _, [] => rfl
  | k, l :: ls => by
    have := totL_mark (k + l.length) ls
    simp [totL, markL, marks_length] at this ⊢; omega
theorem totL_take {i : Nat} (h : i < ls.length) : totL (ls.take (i + 1)) = totL (ls.take i) + (ls.getD i []).length := by
  rw [List.take_succ_eq_append_getElem h, totL_snoc, getD_of h]
theorem totL_le (i : Nat) : totL (ls.take i) ≤ totL ls := by
  have e : totL ls = totL (ls.take i) + totL (ls.drop i) := by unfold totL; rw [← List.sum_append, ← List.map_append, List.take_append_drop]
  omega

theorem markInt64SS_ok {k : Int} (hk : 0 ≤ k) (hl : k + totL ls ≤ 4611686018427387904) (hn : ls.length ≤ 4294967296) (h : RowsF A B H v ls) (kk : ∀ G, ModA A H G → RowsF A B G v (markL k ls) → K (.int .i64 (k + totL ls)) G) :
    AC Tryd.prog T0 21 [v, .int .i64 k] H K := by
  apply F21.ac
  unfold F21.B7 F21.B6 F21.L2
  refine ⟨fun x0 x1 x5 G => v = x0 ∧ ModA A H G ∧ ∃ i : Nat, x5 = i ∧ i ≤ ls.length ∧ x1 = k + totL (ls.take i) ∧ RowsF A B G v (markL k (ls.take i) ++ ls.drop i), fun _ _ x5 _ => ls.length - x5.toNat, ⟨rfl, .refl, 0, rfl, by omega, by simp [totL], by simpa [markL] using h⟩, ?_⟩
  rintro x0 x1 x5 G ⟨rfl, hG, i, rfl, hi, rfl, hR⟩
  have hml : (markL k (ls.take i)).length = i := by rw [markL_length, List.length_take]; omega
  have hlen : (markL k (ls.take i) ++ ls.drop i).length = ls.length := by rw [List.length_append, hml, List.length_drop]; omega
  unfold F21.B5
  refine hR.len (pif_cases (fun hb => ?_) fun hb => ?_)
  · rw [hlen] at hb
    have hlt : i < ls.length := by have := of_decide_eq_true hb; omega
    have hrow : (markL k (ls.take i) ++ ls.drop i).getD i [] = ls.getD i [] := by
      simp only [List.getD]
      rw [List.getElem?_append_right (by omega), hml, Nat.sub_self, List.getElem?_drop, Nat.add_zero]
    have ht := totL_take hlt
    have ht2 := totL_le (ls := ls) (i + 1)
    unfold F21.B4
    refine hR.rowM (by omega) fun w fw hset hA => ?_
    rw [hrow] at fw
    refine markInt64S_ok (by omega) (by omega) fw fun G2 hm f2 => asI_mk ?_
    unfold F21.B3
    rw [wrap_id (by omega) (by omega)]
    refine ⟨⟨rfl, hG.trans (hm.toA (b := 0) hA), i + 1, by omega, by omega, by omega, ?_⟩, by simp; omega⟩
    have := hset G2 _ hm f2
    rw [List.set_append_right _ _ (by omega), hml, Nat.sub_self, List.drop_eq_getElem_cons hlt, List.set_cons_zero] at this
    rw [List.take_succ_eq_append_getElem hlt, markL_snoc, List.append_assoc]
    rw [getD_of hlt] at this
    simpa using this
  · have hge : i = ls.length := by rw [hlen] at hb; have := of_decide_eq_false hb; omega
    subst hge
    rw [List.take_length, List.drop_length, List.append_nil] at hR
    unfold F21.B1
    rw [List.take_length]
    exact kk G hG hR

theorem heldInt64SS_ok {k : Int} (hk : 0 ≤ k) (hl : k + totL ls ≤ 4611686018427387904) (hn : ls.length ≤ 4294967296) (h : RowsF A B H v ls) (he : ls = markL k ls) (kk : K (.int .i64 (k + totL ls)) H) : AC Tryd.prog T0 22 [v, .int .i64 k] H K := by
  have key : ∀ i, i < ls.length → ls.getD i [] = marks (k + totL (ls.take i)) (ls.getD i []).length := by
    intro i hi
    have e1 : ls = ls.take i ++ [ls[i]] ++ ls.drop (i + 1) := by
      rw [List.append_assoc]
      conv => lhs; rw [← List.take_append_drop i ls, List.drop_eq_getElem_cons hi]
      rfl
    have e2 : ∀ (a b : List (List Int)) (k : Int), markL k (a ++ b) = markL k a ++ markL (k + totL a) b := by
      intro a b
      induction a with
      | nil => intro k; simp [markL, totL]
      | cons x a ih =>
        intro k
        have e : k + (x.length : Int) + (totL a : Int) = k + (totL (x :: a) : Int) := by simp [totL]; omega
        simp only [List.cons_append, markL, ih]; rw [e]
    have e3 : (markL k ls).getD i [] = marks (k + totL (ls.take i)) (ls[i]).length := by
      conv => lhs; rw [e1, e2, markL_snoc]
      have : (markL k (ls.take i)).length = i := by rw [markL_length, List.length_take]; omega
      simp only [List.getD]
      rw [List.getElem?_append_left (by rw [List.length_append, this, List.length_singleton]; omega), List.getElem?_append_right (by omega), this, Nat.sub_self]
      simp
    rw [← he] at e3
    rw [e3, marks_length]
  apply F22.ac
  unfold F22.B9 F22.B8 F22.L2
  refine ⟨fun x0 x1 x5 G => v = x0 ∧ H = G ∧ ∃ i : Nat, x5 = i ∧ i ≤ ls.length ∧ x1 = k + totL (ls.take i), fun _ _ x5 _ => ls.length - x5.toNat, ⟨rfl, rfl, 0, rfl, by omega, by simp [totL]⟩, ?_⟩
  rintro x0 x1 x5 G ⟨rfl, rfl, i, rfl, hi, rfl⟩
  unfold F22.B7
  refine h.len (pif_cases (fun hb => ?_) fun hb => ?_)
  · have hlt : i < ls.length := by have := of_decide_eq_true hb; omega
    have ht := totL_take hlt
    have ht2 := totL_le (ls := ls) (i + 1)
    unfold F22.B6
    refine h.row hlt fun w fw => heldInt64S_ok (by omega) (by omega) fw.ints (key i hlt) (asI_mk ?_)
    unfold F22.B5
    refine pif_f (decide_eq_false (by omega)) ?_
    unfold F22.B3
    rw [wrap_id (by omega) (by omega)]
    exact ⟨⟨rfl, rfl, i + 1, by omega, by omega, by omega⟩, by simp; omega⟩
  · have hge : i = ls.length := by have := of_decide_eq_false hb; omega
    subst hge
    unfold F22.B1
    rw [List.take_length]
    exact kk
theorem markL_idem : ∀ (k : Int) (ls : List (List Int)), markL k (markL k ls) = markL k ls
  | _, [] => rfl
  | k, l :: ls => by simp only [markL, marks_length, markL_idem]
end Go.Proofs
