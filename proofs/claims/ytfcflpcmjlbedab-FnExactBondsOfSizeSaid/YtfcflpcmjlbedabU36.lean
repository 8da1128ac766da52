/- Contracts: all bonds of so many edges, both sides. -/
import Derived.Test.YtfcflpcmjlbedabU31
import Derived.Test.YtfcflpcmjlbedabU32
import Derived.Test.YtfcflpcmjlbedabU34
import Derived.Test.YtfcflpcmjlbedabU35
set_option linter.unusedVariables false
set_option linter.unusedSimpArgs false
set_option maxRecDepth 100000
namespace Go.Proofs
open Go.Abs

variable {H G : AHeap} {v u f : Value} {l m c D : List Int} {es fs : List (Int × Int)} {K : Value → AHeap → Prop} {A : Nat → Prop} {B : Nat} {ls : List (List Int)}

noncomputable def bsCode (n : Int) (es : List (Int × Int)) (x : Int) : Int := if IsG n es then (if 1 ≤ x ∧ x ≤ 4 then 0 else 2) else 1
noncomputable def bondQ (n : Int) (es : List (Int × Int)) (l : List Int) : Bool := decide (Bond n.toNat es l)
noncomputable def bsList (n : Int) (es : List (Int × Int)) (x : Int) : List (List Int) := if bsCode n es x = 0 then (cmb es.length x.toNat 0).filter (bondQ n es) else []
theorem bsCode_zero {n x : Int} (h : bsCode n es x = 0) : IsG n es ∧ 1 ≤ x ∧ x ≤ 4 := by
  unfold bsCode at h
  by_cases hg : IsG n es
  · rw [if_pos hg] at h
    by_cases hs : 1 ≤ x ∧ x ≤ 4
    · exact ⟨hg, hs⟩
    · rw [if_neg hs] at h; cases h
  · rw [if_neg hg] at h; cases h
theorem cmb_small {n k f : Nat} (hn : n ≤ 30) (hk : k ≤ 4) : (cmb n k f).length ≤ 810000 :=
  Nat.le_trans (cmb_length k f) (Nat.le_trans (Nat.pow_le_pow_left hn k) (Nat.le_trans (Nat.pow_le_pow_right (by decide) hk) (by decide)))
theorem totL_bound {c : Nat} : ∀ (ls : List (List Int)), (∀ l ∈ ls, l.length ≤ c) → totL ls ≤ ls.length * c
  | [], _ => by simp [totL]
  | x :: ls, h => by
    have h1 := totL_bound ls fun y hy => h y (by simp [hy])
    have h2 := h x (by simp)
    unfold totL at h1 ⊢
    rw [List.map_cons, List.sum_cons, List.length_cons, Nat.add_mul]
    omega
theorem bsList_small {n x : Int} : (bsList n es x).length ≤ 1048576 ∧ (∀ l ∈ bsList n es x, l.length ≤ 4294967296) ∧ totL (bsList n es x) ≤ 1000000000000 := by
  unfold bsList
  by_cases h : bsCode n es x = 0
  · rw [if_pos h]
    obtain ⟨hg, h1, h2⟩ := bsCode_zero h
    have h30 : es.length ≤ 30 := by have := hg.ed.len; have := hg.ed.hi; omega
    have hc : ((cmb es.length x.toNat 0).filter (bondQ n es)).length ≤ 810000 := Nat.le_trans (List.length_filter_le _ _) (cmb_small h30 (by omega))
    have hr : ∀ l ∈ (cmb es.length x.toNat 0).filter (bondQ n es), l.length ≤ 4 := fun l hl => by
      have := (mem_cmb (List.mem_filter.1 hl).1).1; omega
    refine ⟨by omega, fun l hl => by have := hr l hl; omega, ?_⟩
    have := totL_bound _ hr
    omega
  · rw [if_neg h]; exact ⟨by simp, by simp, by simp [totL]⟩

theorem specBonds_ok {n x : Int} (h : Edges H v es) (hl : es.length ≤ 1048576)
    (k : ∀ v' G, H.le G → RowsF (fun b => H.length ≤ b) G.length G v' (bsList n es x) → K (.tuple ⟨[v', .int .i64 (bsCode n es x)]⟩) G) : AC Try.prog T0 37 [.agg ⟨[.int .i64 n, v]⟩, .int .i64 x] H K := by
  apply F37.ac
  unfold F37.B13
  refine newK_f (all_iv (edges_one' h)) fun H1 l1 _ o1 => ?_
  unfold F37.B12
  refine ldI_own o1 rfl (ld1_own o1 rfl (l01Is_ok (h.le l1) hl fun H2 l2 => asB_mk ?_))
  have l12 := AHeap.le_trans l1 l2
  have o2 := o1.le l2
  refine pif_cases (fun hs => ?_) fun hs => ?_
  · have hg : ¬ IsG n es := by simpa using hs
    have e : bsCode n es x = 1 := by unfold bsCode; rw [if_neg hg]
    unfold F37.B9
    have k := k (.slice none 0 0) _ l12
    unfold bsList at k
    rw [e] at k
    exact k .nil
  have hg : IsG n es := by simpa using hs
  unfold F37.B11
  refine l01In_ok (asB_mk (pif_cases (fun hs => ?_) fun hs => ?_))
  · have hx : ¬ (1 ≤ x ∧ x ≤ 4) := by rw [Bool.not_eq_true'] at hs; exact of_decide_eq_false hs
    have e : bsCode n es x = 2 := by unfold bsCode; rw [if_pos hg, if_neg hx]
    unfold F37.B10
    have k := k (.slice none 0 0) _ l12
    unfold bsList at k
    rw [e] at k
    exact k .nil
  have hx : 1 ≤ x ∧ x ≤ 4 := by rw [Bool.not_eq_false'] at hs; exact of_decide_eq_true hs
  have e0 : bsCode n es x = 0 := by unfold bsCode; rw [if_pos hg, if_pos hx]
  have n0 := hg.ed.lo; have n1 := hg.ed.hi
  have h30 : es.length ≤ 30 := by have := hg.ed.len; omega
  unfold bsList at k
  rw [if_pos e0, e0] at k
  obtain ⟨y, hy⟩ : ∃ y : Nat, x = y := ⟨x.toNat, by omega⟩
  subst hy
  rw [Int.toNat_natCast] at k
  obtain ⟨S, hS⟩ : ∃ S, S = cmb es.length y 0 := ⟨_, rfl⟩
  rw [← hS] at k
  have hSl : S.length ≤ 810000 := by rw [hS]; exact cmb_small h30 (by omega)
  have hSm : ∀ i (hi : i < S.length), IsS (S.getD i []) es.length := by
    intro i hi
    rw [getD_of hi]
    have hm := List.getElem_mem hi
    have : S[i] ∈ cmb es.length y 0 := by rw [← hS]; exact hm
    exact (mem_cmb this).2.1
  unfold F37.B8
  refine ld1_own o2 rfl ((h.le l12).len (l03Sets_ok (by omega) y 0 _ _ (by omega) (by omega) fun q H3 l3 hq => newK_f rfl fun H4 l4 n4 o4 => ?_))
  rw [← hS] at hq
  have l13 := AHeap.le_trans l12 l3
  obtain ⟨vs, hF, hvl, hb6, hrow⟩ := hq
  have hbk : ∀ (i : Nat) (w : Value) (b : Nat), vs[i]? = some w → bk w = some b → H2.length ≤ b ∧ b < H3.length ∧ ∀ (j : Nat) w', j < i → vs[j]? = some w' → bk w' ≠ some b := by
    intro i w b hi hb
    obtain ⟨w', g1, _, g3⟩ := hrow i (by have := lt_of_get hi; omega)
    rw [hi] at g1; cases g1
    exact ⟨(g3 b hb).1, (g3 b hb).2.1, (g3 b hb).2.2.2⟩
  have o14 := (o2.le l3).le l4
  unfold F37.B7 F37.L2
  refine ⟨fun x2 x6 x7 x8 G => H.length = x2 ∧ q = x6 ∧ H1.le G ∧ H3.length ≤ G.length ∧ Fresh 0 G q 25 1 vs ∧ (∀ i, i < S.length → ∃ w, vs[i]? = some w ∧ Fresh 0 G w 2 1 (LI (S.getD i []))) ∧ (∀ b, bk x7 = some b → H3.length ≤ b) ∧
      ∃ i : Nat, x8 = i ∧ i ≤ S.length ∧ RowsF (fun b => H1.length ≤ b ∧ ∀ (j : Nat) w, i ≤ j → vs[j]? = some w → bk w ≠ some b) G.length G x7 ((S.take i).filter (bondQ n es)),
    fun _ _ _ x8 _ => S.length - x8.toNat, ⟨rfl, rfl, AHeap.le_trans l2 (AHeap.le_trans l3 l4), l4.1, hF.le l4, fun i hi => ?_, (fun b hb => by have : some H3.length = some b := hb; have := Option.some.inj this; omega), 0, rfl, by omega, ?_⟩, ?_⟩
  · obtain ⟨w, g1, g2, _⟩ := hrow i hi
    exact ⟨w, g1, g2.le l4⟩
  · refine .nil1 o4 ⟨by have := l2.1; have := l3.1; omega, fun j w _ hw hb => ?_⟩ (by omega)
    have := (hbk j w _ hw hb).2.1
    omega
  clear hrow hF o4 o14 n4 l4
  rintro x2 x6 x7 x8 G ⟨rfl, rfl, hG, hGl, hF, hrow, hb7, i, rfl, hi, hR⟩
  have lG := AHeap.le_trans l1 hG
  have oG := o1.le hG
  have hb6' : ∀ b, bk q = some b → b < H3.length := fun b hb => (hb6 b hb).2
  unfold F37.B6
  refine hF.sl.len (by decide) (n := S.length) (by omega) (pif_cases (fun hb => ?_) fun hb => ?_)
  · have hil : i < S.length := by have := of_decide_eq_true hb; omega
    obtain ⟨w, hw, fw⟩ := hrow i hil
    have take_succ : (S.take (i + 1)).filter (bondQ n es) = (S.take i).filter (bondQ n es) ++ if bondQ n es (S.getD i []) then [S.getD i []] else [] := by
      rw [List.take_succ_eq_append_getElem hil, List.filter_append, getD_of hil]
      congr 1
      cases hq : bondQ n es S[i] <;> simp [hq]
    have Amono : ∀ b, (H1.length ≤ b ∧ ∀ (j : Nat) w, i ≤ j → vs[j]? = some w → bk w ≠ some b) → (H1.length ≤ b ∧ ∀ (j : Nat) w, i + 1 ≤ j → vs[j]? = some w → bk w ≠ some b) := fun b hb => ⟨hb.1, fun j w hj => hb.2 j w (by omega)⟩
    have hfl : ((S.take i).filter (bondQ n es)).length ≤ 810000 := Nat.le_trans (List.length_filter_le _ _) (by rw [List.length_take]; omega)
    unfold F37.B5
    refine ldI_own oG rfl (ld1_own oG rfl (Sl_rd hF.sl (by omega) (by omega) (by rw [Int.toNat_natCast]; exact hw) (l03Bond_ok (h.le lG) hg fw.ints (hSm i hil) fun G2 hG2 => asB_mk ?_)))
    have lG2 := AHeap.le_trans hG hG2
    have hF2 := hF.le hG2
    have hG21 := hG2.1
    refine pif_cases (fun hb => ?_) fun hb => ?_
    · have hq : bondQ n es (S.getD i []) = true := hb
      unfold F37.B4
      refine Sl_rd hF2.sl (by omega) (by omega) (by rw [Int.toNat_natCast]; exact hw) ?_
      refine (hR.le hG2).pushA hG21 Amono (fun b hb => ⟨by have := lG2.1; omega, fun j w' _ hw' hb' => ?_⟩) (fw.le hG2) (fun b hb => ⟨fun ha => ha.2 i w (Nat.le_refl _) hw hb, ?_, fun j w' hj hw' hb' => ?_⟩) (by omega) fun v' G3 ot nb hlen hR3 => ?_
      · have := (hbk j w' b hw' hb').2.1; omega
      · have := (hbk i w b hw hb).1; have := l2.1; omega
      · exact (hbk j w' b hw' hb').2.2 i w (by omega) hw hb
      unfold F37.B3
      rw [wrap_id (by omega) (by omega)]
      have old : ∀ b o, b < H3.length → G2[b]? = some (some o) → G3[b]? = some (some o) := fun b o hb ho => ot b o (fun hv => by have := hb7 b hv; omega) ho
      refine ⟨⟨rfl, rfl, ⟨by have := lG2.1; omega, fun b o ho => old b o (by have := lt_of_get ho; have := l2.1; have := l3.1; omega) (lG2.2 _ _ ho)⟩, by omega, fresh_oth hF2 fun b o hb ho => old b o (hb6' b hb) ho, fun j hj => ?_, (fun b hb => by have := nb b hb; omega), i + 1, by omega, by omega, ?_⟩, by show S.length - ((i : Int) + 1).toNat < S.length - (i : Int).toNat; omega⟩
      · obtain ⟨w', g1, g2⟩ := hrow j hj
        exact ⟨w', g1, fresh_oth (g2.le hG2) fun b o hb ho => old b o (hbk j w' b g1 hb).2.1 ho⟩
      · rw [take_succ, hq]; exact hR3
    · have hq : bondQ n es (S.getD i []) = false := hb
      unfold F37.B3
      rw [wrap_id (by omega) (by omega)]
      refine ⟨⟨rfl, rfl, lG2, by omega, hF2, fun j hj => ?_, hb7, i + 1, by omega, by omega, ?_⟩, by show S.length - ((i : Int) + 1).toNat < S.length - (i : Int).toNat; omega⟩
      · obtain ⟨w', g1, g2⟩ := hrow j hj
        exact ⟨w', g1, g2.le hG2⟩
      · rw [take_succ, hq]
        simpa using (hR.le hG2).mono Amono hG21
  · have hil : i = S.length := by have := of_decide_eq_false hb; omega
    subst hil
    unfold F37.B1
    rw [List.take_length] at hR
    exact k _ _ lG (hR.mono (fun b hb => by have := l1.1; omega) (Nat.le_refl _))

theorem implBonds_ok {n x : Int} (h : Edges H v es) (hl : es.length ≤ 1048576)
    (k : ∀ v' G, H.le G → RowsF (fun b => H.length ≤ b) G.length G v' (bsList n es x) → K (.tuple ⟨[v', .int .i64 (bsCode n es x)]⟩) G) : AC Try.prog T0 38 [.agg ⟨[.int .i64 n, v]⟩, .int .i64 x] H K := by
  apply F38.ac
  unfold F38.B7
  refine newK_f (all_iv (edges_one' h)) fun H1 l1 _ o1 => ?_
  unfold F38.B6
  refine ldI_own o1 rfl (ld1_own o1 rfl (within_ok (asB_mk ⟨AHeap.le_refl _, graphCode_ok (h.le l1) hl fun H2 l2 => asI_mk ?_⟩)))
  have l12 := AHeap.le_trans l1 l2
  have o2 := o1.le l2
  have e : (if IsG n es then (if decide (1 ≤ x ∧ x ≤ 4) then 0 else 2) else 1 : Int) = bsCode n es x := by unfold bsCode; simp
  rw [e]
  unfold F38.B5
  refine pif_cases (fun hs => ?_) fun hs => ?_
  · unfold F38.B4
    have hne := bne_iff_ne.1 hs
    have k := k (.slice none 0 0) _ l12
    unfold bsList at k
    rw [if_neg hne] at k
    exact k .nil
  have e0 : bsCode n es x = 0 := bne_eq_false_iff_eq.1 hs
  obtain ⟨hg, hx⟩ := bsCode_zero e0
  have n0 := hg.ed.lo; have n1 := hg.ed.hi
  have h30 : es.length ≤ 30 := by have := hg.ed.len; omega
  unfold bsList at k
  rw [if_pos e0, e0] at k
  obtain ⟨y, hy⟩ : ∃ y : Nat, x = y := ⟨x.toNat, by omega⟩
  subst hy
  rw [Int.toNat_natCast] at k
  unfold F38.B3
  refine newK_f rfl fun H3 l3 n3 o3 => ?_
  obtain ⟨co, hco⟩ : ∃ co, co = H2.length := ⟨_, rfl⟩
  rw [← hco] at o3 ⊢
  have o13 := o2.le l3
  unfold F38.B2
  have l13 := AHeap.le_trans l12 l3
  refine ld1_own o13 rfl (lengthE_ok (h.le l13) (asI_mk ?_))
  have hsl := cmb_small (n := es.length) (k := y) (f := 0) h30 (by omega)
  refine choose_ok (m := es.length) (n := y) (by omega) (by omega) rfl
    (J := fun B done G => (∀ b o, b ≠ co → B[b]? = some (some o) → G[b]? = some (some o)) ∧ B.length ≤ G.length ∧ ∃ w, Own G co 27 [w] ∧ (∀ b, bk w = some b → B.length ≤ b) ∧ RowsF (fun b => B.length ≤ b) G.length G w (done.filter (bondQ n es))) (q := fun _ => false) ?_ ?_ ?_ ?_
  · intro B hB _
    exact ⟨fun b o _ ho => ho, Nat.le_refl _, _, o3.le hB, (fun b hb => by cases hb), .nil⟩
  · intro B done G hJ b o hb ho
    exact hJ.1 b o (by omega) ho
  · intro B done l G hB hBl ⟨hJ1, hJ2, w, oc, hwb, hR⟩ hlm hdn K hK
    have hlS := (mem_cmb hlm).2.1
    have hcoB : co < B.length := by have := hB.1; omega
    have lG : H2.le G := ⟨by have := l3.1; have := hB.1; omega, fun b o ho => hJ1 b o (by have := lt_of_get ho; omega) (hB.2 _ _ (l3.2 _ _ ho))⟩
    refine callV_mk ?_
    apply F86.ac
    unfold F86.B4 F86.B3
    refine asP_mk (ldI_own (o2.le lG) rfl (ld1_own (o2.le lG) rfl (isBond_ok (h.le (AHeap.le_trans l12 lG)) hg hlS fun G2 hG2 => asB_mk (pif_cases (fun hb => ?_) fun hb => ?_))))
    · have hq : bondQ n es l = true := hb
      unfold F86.B2
      have hg2 := hG2.1
      refine asP_mk (ld1_own (oc.le hG2) rfl (list_ok (setN_lt fun x hx => by have := hlS.range x hx; omega) fun w2 G3 l3' f3 => ⟨l3', ?_⟩))
      rw [hlS.bits (by omega)] at f3
      have hR3 := ((hR.le hG2).mono (fun _ h => h) hg2).le l3'
      have hfl : (done.filter (bondQ n es)).length ≤ 810000 := Nat.le_trans (List.length_filter_le _ _) (by omega)
      have hg3 := l3'.1
      refine hR3.push hg3 (fun b hb => by omega) f3 (by omega) fun v' G4 ot nb hlen hR4 => ?_
      have v1 : v'.oneCell' = true := by
        obtain ⟨vs, q1, _⟩ := hR4
        rcases q1 with ⟨_, rfl | ⟨a, rfl⟩⟩ | ⟨b, n', _, rfl, _⟩ <;> rfl
      have oc4 : Own G4 co 27 [w] := ot co _ (fun hv => by have := hwb co hv; omega) ((oc.le hG2).le l3')
      refine pif_t v1 (asP_mk (stK_f oc4 (by simp) (by simpa using v1) rfl fun G5 b5 o5 => ?_))
      unfold F86.B1
      refine hK G5 ⟨fun b o hb ho => ?_, by have := b5.len; omega, v', by simpa using o5, (fun b hb => by have := nb b hb; omega), ?_⟩
      · rw [b5.same b hb]
        exact ot b o (fun hv => by have := hwb b hv; have := lt_of_get ho; omega) (l3'.2 _ _ (hG2.2 _ _ (hJ1 b o hb ho)))
      · rw [List.filter_append, List.filter_cons, hq, b5.len]
        exact hR4.but b5 (by omega)
    · have hq : bondQ n es l = false := hb
      unfold F86.B1
      refine hK G2 ⟨fun b o hb ho => hG2.2 _ _ (hJ1 b o hb ho), Nat.le_trans hJ2 hG2.1, w, oc.le hG2, hwb, ?_⟩
      rw [List.filter_append, List.filter_cons, hq]
      simpa using (hR.le hG2).mono (fun _ h => h) hG2.1
  · intro B G hB hBl ⟨hJ1, hJ2, w, oc, hwb, hR⟩
    refine asB_mk ?_
    unfold F38.B1
    refine ld1_own oc rfl ?_
    rw [upTo_all (by simp)] at hR
    refine k w G ⟨by have := hB.1; have := l13.1; omega, fun b o ho => hJ1 b o (by have := lt_of_get ho; have := l12.1; omega) (hB.2 _ _ (l13.2 _ _ ho))⟩ (hR.mono (fun b hb => by have := hB.1; have := l13.1; omega) (Nat.le_refl _))
end Go.Proofs
