/- Contracts: the first weak set, the program's way. -/
import Derived.Test.YtfcflpcmjlbedabU53
import Derived.Test.YtfcflpcmjlbedabU35
import Derived.Test.YtfcflpcmjlbedabU15
set_option linter.unusedVariables false
set_option linter.unusedSimpArgs false
set_option maxRecDepth 100000
namespace Go.Proofs
open Go.Abs

variable {H G : AHeap} {v u f : Value} {l m c D : List Int} {es fs : List (Int × Int)} {K : Value → AHeap → Prop}

theorem upTo_last {q : List Int → Bool} : ∀ {ls : List (List Int)} {l : List Int}, ls.find? q = some l → (upTo q ls).getLast? = some l
  | [], l, h => by cases h
  | x :: ls, l, h => by
    rw [List.find?_cons] at h
    unfold upTo
    cases hx : q x with
    | true => rw [hx] at h; cases h; simp
    | false =>
      rw [hx] at h
      have := upTo_last h
      simp only [Bool.false_eq_true, if_false]
      rw [List.getLast?_cons, this]; rfl
theorem find_any {q : List Int → Bool} {ls : List (List Int)} : ls.any q = (ls.find? q).isSome := by
  rw [Bool.eq_iff_iff, List.any_eq_true, List.find?_isSome]
noncomputable def wkOf (es : List (Int × Int)) : List Int := weakF es (es.length + 1) 0
theorem weakF_some {l : List Int} {f k : Nat} (h : (cmb es.length k 0).find? (wkQ es) = some l) : weakF es (f + 1) k = l := by
  rw [weakF, h]
theorem weakF_none {f k : Nat} (h : (cmb es.length k 0).find? (wkQ es) = none) : weakF es (f + 1) k = weakF es f (k + 1) := by
  rw [weakF, h]
theorem weak_full : ((cmb es.length es.length 0).find? (wkQ es)).isSome = true := by
  obtain ⟨l, h1, h2⟩ := weak_some es
  rw [List.find?_isSome]; exact ⟨l, h1, h2⟩
theorem weakF_mem : ∀ (f k : Nat), k + f = es.length + 1 → (∀ l, (cmb es.length es.length 0).find? (wkQ es) = some l → True) → k ≤ es.length → ∃ j, j ≤ es.length ∧ weakF es f k ∈ cmb es.length j 0
  | 0, k, h, _, hk => absurd h (by omega)
  | f + 1, k, h, hh, hk => by
    cases hx : (cmb es.length k 0).find? (wkQ es) with
    | some l => rw [weakF_some hx]; exact ⟨k, hk, List.mem_of_find?_eq_some hx⟩
    | none =>
      have : k ≠ es.length := fun e => by
        have := weak_full (es := es)
        rw [← e] at this
        rw [e] at hx
        rw [e, hx] at this; cases this
      rw [weakF_none hx]
      exact weakF_mem f (k + 1) (by omega) hh (by omega)
theorem wkOf_mem : ∃ j, j ≤ es.length ∧ wkOf es ∈ cmb es.length j 0 := weakF_mem _ 0 (by omega) (fun _ _ => trivial) (by omega)
theorem wkOf_isS : IsS (wkOf es) es.length := by
  obtain ⟨j, _, h⟩ := wkOf_mem (es := es)
  exact (mem_cmb h).2.1
theorem weak1_ok {n : Int} {pb : Nat} {tp : TypeId} {x1 : Nat} {x : Value} (hg : IsG n es) {H0 : AHeap} (he : Edges H0 v es) (hs : IsS l es.length) (hx1 : H0.length ≤ x1) (h0 : H0.le G) (o1 : Own G pb tp [.int .i64 n, v]) (hp : pb ≠ x1) (o3 : Own G x1 72 [x])
    (k : ∀ G', Two x1 x1 G G' → Own G' x1 72 [.int .u64 (setN l : Nat)] → K (.bool (wkQ es l)) G') :
    AC Try.prog T0 110 [.int .u64 (setN l : Nat), ptrV x1, ptrV pb] G K := by
  apply F110.ac
  unfold F110.B3 F110.B2
  refine asP_mk (stK_f o3 (by simp) (by simp [Value.oneCell']) rfl fun G2 b2 o2 => ?_)
  have o12 := b2.own o1 hp
  have h02 : H0.le G2 := b2.le h0 hx1
  unfold F110.B1
  refine asP_mk (ldI_own o12 rfl (ld1_own o12 rfl (isPaintable_ok hg (he.le h02) hs fun G3 l3 => asB_mk ?_)))
  exact k G3 ((Two.butC b2).trans (.le l3)) (by simpa using o2.le l3)

theorem weak_ok {n : Int} (hg : IsG n es) (he : Edges H v es) (k : ∀ G, H.le G → K (.int .u64 (setN (wkOf es) : Nat)) G) :
    AC Try.prog T0 66 [.agg ⟨[.int .i64 n, v]⟩] H K := by
  have n0 := hg.ed.lo; have n1 := hg.ed.hi
  have h30 : es.length ≤ 30 := by have := hg.ed.len; omega
  apply F66.ac
  unfold F66.B7
  refine newK_f (all_iv (edges_one' he)) fun H1 l1 n1' o1 => ?_
  unfold F66.B6
  refine newK_f rfl fun H2 l2 n2' o2 => ?_
  obtain ⟨x, hx⟩ : ∃ x, x = H1.length := ⟨_, rfl⟩
  rw [← hx] at o2 ⊢
  have l12 := AHeap.le_trans l1 l2
  have o12 := o1.le l2
  unfold F66.B5 F66.L1
  refine ⟨fun x1 x3 x4 G => H.length = x1 ∧ x = x3 ∧ Two x x H2 G ∧ ∃ (s : Nat) (i : Nat), Own G x 72 [.int .u64 (s : Nat)] ∧ x4 = i ∧ i ≤ es.length ∧ weakF es (es.length + 1 - i) i = wkOf es, fun _ _ x4 _ => es.length - x4.toNat, ⟨rfl, rfl, .le (AHeap.le_refl _), 0, 0, o2, rfl, by omega, rfl⟩, ?_⟩
  rintro x1 x3 x4 G ⟨rfl, rfl, tG, s, i, oG, rfl, hi, hw⟩
  have hlx : H.length < x := by omega
  have lG : H.le G := tG.base l12 (by omega) (by omega)
  have o1G : Own G H.length _ [.int .i64 n, v] := tG.old _ _ (by omega) (by omega) o12
  unfold F66.B4
  refine ld1_own o1G rfl (lengthE_ok (he.le lG) (asI_mk ?_))
  have hxG : x < G.length := lt_of_get oG
  refine choose_ok (m := es.length) (n := i) (by omega) (by omega) rfl
    (J := fun B done G' => Two x x B G' ∧ B.length ≤ G'.length ∧ ∃ s : Nat, Own G' x 72 [.int .u64 (s : Nat)] ∧ ∀ l, done.getLast? = some l → s = setN l) (q := wkQ es) ?_ ?_ ?_ ?_
  · intro B hB _
    exact ⟨.le (AHeap.le_refl _), Nat.le_refl _, s, oG.le hB, fun l h => by cases h⟩
  · intro B done G' hJ b o hb ho
    exact hJ.1.old b o (by omega) (by omega) ho
  · intro B done l G' hB hBl ⟨hJ1, hJ2, s, oc, hs⟩ hlm hdn K hK
    refine callV_mk ?_
    refine weak1_ok hg (H0 := H) he (mem_cmb hlm).2.1 (by omega) (hJ1.base (AHeap.le_trans lG hB) (by omega) (by omega)) (hJ1.old _ _ (by omega) (by omega) (o1G.le hB)) (by omega) oc fun G2 t2 o2 => hK G2 ⟨hJ1.trans t2, Nat.le_trans hJ2 t2.len, _, o2, fun l' h => by simp at h; rw [h]⟩
  · intro B G' hB hBl ⟨hJ1, hJ2, s, oc, hs⟩
    have tG' : Two x x H2 G' := tG.trans ((Two.le hB).trans hJ1)
    refine asB_mk (pif_cases (fun hb => ?_) fun hb => ?_)
    · rw [find_any] at hb
      obtain ⟨l, hl⟩ := Option.isSome_iff_exists.1 hb
      unfold F66.B3
      refine ldI_own oc rfl ?_
      rw [hs l (upTo_last hl)]
      have : wkOf es = l := by
        rw [← hw, show es.length + 1 - i = (es.length - i) + 1 by omega, weakF_some hl]
      rw [← this]
      exact k G' (tG'.base l12 (by omega) (by omega))
    · rw [find_any] at hb
      have hnone : (cmb es.length i 0).find? (wkQ es) = none := by
        cases hx : (cmb es.length i 0).find? (wkQ es) with
        | none => rfl
        | some l => rw [hx] at hb; cases hb
      have hne : i ≠ es.length := fun e => by
        have := weak_full (es := es)
        rw [e] at hb
        rw [this] at hb; cases hb
      unfold F66.B2
      rw [wrap_id (by omega) (by omega)]
      refine ⟨⟨rfl, rfl, tG', s, i + 1, oc, by omega, by omega, ?_⟩, by show es.length - ((i : Int) + 1).toNat < es.length - (i : Int).toNat; omega⟩
      rw [← hw, show es.length + 1 - i = (es.length - i) + 1 by omega, weakF_none hnone]
      congr 1; omega
noncomputable def smCode (n : Int) (es : List (Int × Int)) (x : Int) : Int := if IsG n es then (if x < n then 3 else 0) else 1
theorem smallCode_ok {n x : Int} (h : Edges H v es) (hl : es.length ≤ 1048576) (k : ∀ G, H.le G → K (.int .i64 (smCode n es x)) G) : AC Try.prog T0 65 [.agg ⟨[.int .i64 n, v]⟩, .bool true, .int .i64 x] H K := by
  apply F65.ac
  unfold F65.B7
  refine newK_f (all_iv (edges_one' h)) fun H1 l1 n1' o1 => ?_
  unfold F65.B6
  refine ldI_own o1 rfl (ld1_own o1 rfl (graphCode_ok (b := true) (h.le l1) hl fun H2 l2 => asI_mk ?_))
  have l12 := AHeap.le_trans l1 l2
  have k := k H2 l12
  unfold smCode at k
  unfold F65.B5
  by_cases hg : IsG n es
  · rw [if_pos hg] at k ⊢
    rw [if_pos rfl]
    refine pif_f rfl ?_
    unfold F65.B3
    refine ldI_own (o1.le l2) rfl (pif_cases (fun hb => ?_) fun hb => ?_)
    · unfold F65.B2
      rw [if_pos (of_decide_eq_true hb)] at k
      exact k
    · unfold F65.B1
      rw [if_neg (of_decide_eq_false hb)] at k
      exact k
  · rw [if_neg hg] at k ⊢
    refine pif_t rfl ?_
    unfold F65.B4
    exact k
end Go.Proofs
