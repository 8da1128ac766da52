/- Contracts: the first weak set, the reference's way. -/
import Derived.Test.YtfcflpcmjlbedabU55
import Derived.Test.YtfcflpcmjlbedabU54
set_option linter.unusedVariables false
set_option linter.unusedSimpArgs false
set_option maxRecDepth 100000
namespace Go.Proofs
open Go.Abs

variable {H G : AHeap} {v u f : Value} {l m c D : List Int} {es fs : List (Int × Int)} {K : Value → AHeap → Prop}

theorem getB_set {S : List Bool} {i j : Nat} (h : i < S.length) : (S.set i true).getD j false = if i = j then true else S.getD j false := by
  by_cases e : i = j
  · subst e; simp [List.getD, h]
  · simp [List.getD, List.getElem?_set, e]
theorem leaf_ok {n : Int} {pre : List Int} {H0 : AHeap} {M : Nat} (hg : IsG n es) (he : Edges H0 v es) {a : Nat} {ta : TypeId} (h0 : H0.le H) (o1 : Own H a ta [.int .i64 n, v]) (hs : IsS pre es.length) (hu : Fresh M H u 2 1 (LI pre))
    (k : ∀ G, H.le G → K (.tuple ⟨[u, .bool (wkQ es pre)]⟩) G) : F109.B15 K u a H := by
  have n0 := hg.ed.lo; have n1 := hg.ed.hi
  have h30 : es.length ≤ 30 := by have := hg.ed.len; omega
  have hpl := hs.short
  unfold F109.B15
  refine ld1_own o1 rfl ((he.le h0).len (mkR_int (by omega) (by omega) (by decide) fun H2 l2 n2 o2 => ?_))
  rw [rep_b, Int.toNat_natCast] at o2
  rw [Int.toNat_natCast]
  unfold F109.B14 F109.L10
  refine ⟨fun x3 x4 x10 x11 G => u = x3 ∧ a = x4 ∧ .slice (some ⟨H.length, 0, none⟩) es.length (es.length + 1) = x10 ∧ H.le G ∧ ∃ (i : Nat) (S : List Bool), x11 = i ∧ i ≤ pre.length ∧ S.length = es.length ∧ Own G H.length 4 (LB S) ∧ ∀ j : Nat, S.getD j false = true ↔ (j : Int) ∈ pre.take i,
    fun _ _ _ x11 _ => pre.length - x11.toNat, ⟨rfl, rfl, rfl, l2, 0, _, rfl, by omega, by simp, o2, fun j => ?_⟩, ?_⟩
  · have : (List.replicate es.length false).getD j false = false := by simp only [List.getD, List.getElem?_replicate]; split <;> rfl
    rw [this]; simp
  rintro x3 x4 x10 x11 G ⟨rfl, rfl, rfl, lG, i, S, rfl, hi, hS, oS, hm⟩
  have huG := hu.le lG
  unfold F109.B13
  refine huG.ints.len (pif_cases (fun hb => ?_) fun hb => ?_)
  · have hil : i < pre.length := by have := of_decide_eq_true hb; omega
    have hr := hs.range _ (List.getElem_mem hil)
    obtain ⟨w, hw⟩ : ∃ w : Nat, pre[i] = w := ⟨pre[i].toNat, by omega⟩
    unfold F109.B12
    refine huG.ints.rd (by omega) (by omega) ?_
    rw [Int.toNat_natCast, getD_of hil, hw]
    refine own_idx (by omega) (by omega) (stK_1 oS (by simp; omega) rfl fun G2 b2 o2 => ?_)
    rw [Int.toNat_natCast] at o2
    have o2 : Own G2 H.length 4 (LB (S.set w true)) := by simpa using o2
    unfold F109.B11
    rw [wrap_id (by omega) (by omega)]
    refine ⟨⟨rfl, rfl, rfl, b2.le lG (Nat.le_refl _), i + 1, _, by omega, by omega, by simpa using hS, o2, fun j => ?_⟩, by show pre.length - ((i : Int) + 1).toNat < pre.length - (i : Int).toNat; omega⟩
    rw [List.take_succ_eq_append_getElem hil, List.mem_append, List.mem_singleton, hw, ← hm j, getB_set (by omega)]
    by_cases e : w = j
    · subst e; simp
    · rw [if_neg e]
      constructor
      · exact .inl
      · rintro (h | h)
        · exact h
        · omega
  · have hil : i = pre.length := by have := of_decide_eq_false hb; omega
    subst hil
    rw [List.take_length] at hm
    unfold F109.B9
    refine ldI_own (o1.le lG) rfl (ld1_own (o1.le lG) rfl (newK_f rfl fun G2 l3 n3 o3 => ?_))
    have hout : (fun j => S.getD j false) = bitB pre := funext fun j => by
      rw [Bool.eq_iff_iff, hm j, bitB_mem hs]
    refine l08Partial_ok hg (he.le (AHeap.le_trans h0 (AHeap.le_trans lG l3))) hS (oS.le l3) es.length [] G2 _ _ (by simp) (AHeap.le_refl _) (own_ints (l := []) o3) fun G3 l4 => asB_mk ?_
    rw [hout]
    exact k G3 (AHeap.le_trans lG (AHeap.le_trans l3 l4))
theorem l08Weak_ok {n : Int} {H0 : AHeap} {M : Nat} (hg : IsG n es) (he : Edges H0 v es) :
    ∀ (left f : Nat) (pre : List Int) (H : AHeap) (K : Value → AHeap → Prop) (u : Value), M ≤ H.length → H0.le H → f ≤ es.length → pre.length + left ≤ 1000 → (∀ l ∈ cmb es.length left f, IsS (pre ++ l) es.length) → Fresh M H u 2 1 (LI pre) →
      (∀ w G, H.le G → (∀ l, ((cmb es.length left f).map (pre ++ ·)).find? (wkQ es) = some l → Fresh M G w 2 1 (LI l)) → K (.tuple ⟨[w, .bool (((cmb es.length left f).map (pre ++ ·)).find? (wkQ es)).isSome]⟩) G) →
      AC Try.prog T0 109 [.agg ⟨[.int .i64 n, v]⟩, .int .i64 (left : Nat), .int .i64 (f : Nat), u] H K := by
  have n0 := hg.ed.lo; have n1 := hg.ed.hi
  have h30 : es.length ≤ 30 := by have := hg.ed.len; omega
  intro left
  induction left with
  | zero =>
    intro f pre H K u hM h0 hf hpl hS hu kk
    have hs : IsS pre es.length := by have := hS [] (by simp [cmb_zero]); simpa using this
    apply F109.ac
    unfold F109.B17
    refine newK_f (all_iv (edges_one' (he.le h0))) fun H1 l1 n1' o1 => ?_
    unfold F109.B16
    refine pif_t rfl (leaf_ok hg he (AHeap.le_trans h0 l1) o1 hs (hu.le l1) fun G lG => ?_)
    have kk := kk u G (AHeap.le_trans l1 lG) fun l hl => ?_
    · have e : (((cmb es.length 0 f).map (pre ++ ·)).find? (wkQ es)).isSome = wkQ es pre := by
        rw [← find_any, cmb_zero]; simp
      rw [e] at kk; exact kk
    · rw [cmb_zero, List.map_cons, List.find?_cons, List.append_nil] at hl
      cases hq : wkQ es pre with
      | true => rw [hq] at hl; cases hl; exact hu.le (AHeap.le_trans l1 lG)
      | false => rw [hq] at hl; cases hl
  | succ left ih =>
    intro f pre H K u hM h0 hf hpl hS hu kk
    apply F109.ac
    unfold F109.B17
    refine newK_f (all_iv (edges_one' (he.le h0))) fun H1 l1 n1' o1 => ?_
    have h01 := AHeap.le_trans h0 l1
    have hl1 := l1.1
    unfold F109.B16
    refine pif_f (by rw [beq_eq_false_iff_ne]; omega) ?_
    unfold F109.B8 F109.L2
    refine ⟨fun x1 x3 x4 x12 G => ((left + 1 : Nat) : Int) = x1 ∧ u = x3 ∧ H.length = x4 ∧ H1.le G ∧ ∃ i : Nat, x12 = i ∧ f ≤ i ∧ i ≤ es.length ∧ ((cmbTo es.length left f i).map (pre ++ ·)).find? (wkQ es) = none,
      fun _ _ _ x12 _ => es.length - x12.toNat, ⟨rfl, rfl, rfl, AHeap.le_refl _, f, rfl, Nat.le_refl _, hf, by rw [cmbTo_start (Nat.le_refl _)]; rfl⟩, ?_⟩
    rintro x1 x3 x4 x12 G ⟨rfl, rfl, rfl, lG, i, rfl, hfi, hi, hno⟩
    have oG := o1.le lG
    have h0G := AHeap.le_trans h01 lG
    have hl1G := lG.1
    have huG := hu.le (AHeap.le_trans l1 lG)
    unfold F109.B7
    refine ld1_own oG rfl ((he.le h0G).len (pif_cases (fun hb => ?_) fun hb => ?_))
    · have him : i < es.length := by have := of_decide_eq_true hb; omega
      have hmap : ((cmb es.length left (i + 1)).map ((i : Int) :: ·)).map (pre ++ ·) = (cmb es.length left (i + 1)).map ((pre ++ [(i : Int)]) ++ ·) := by
        rw [List.map_map]; exact List.map_congr_left fun l _ => by simp
      have hsucc : (cmbTo es.length left f (i + 1)).map (pre ++ ·) = (cmbTo es.length left f i).map (pre ++ ·) ++ (cmb es.length left (i + 1)).map ((pre ++ [(i : Int)]) ++ ·) := by
        rw [cmbTo_succ hfi, List.map_append, hmap]
      have hall : ∃ rest, (cmb es.length (left + 1) f).map (pre ++ ·) = (cmbTo es.length left f (i + 1)).map (pre ++ ·) ++ rest := by
        have key : ∀ d, i + 1 + d ≤ es.length → ∃ rest, (cmbTo es.length left f (i + 1 + d)).map (pre ++ ·) = (cmbTo es.length left f (i + 1)).map (pre ++ ·) ++ rest := by
          intro d
          induction d with
          | zero => intro _; exact ⟨[], by simp⟩
          | succ d ih =>
            intro hd
            obtain ⟨r, hr⟩ := ih (by omega)
            rw [← Nat.add_assoc, cmbTo_succ (by omega), List.map_append, hr, List.append_assoc]
            exact ⟨_, rfl⟩
        have := key (es.length - (i + 1)) (by omega)
        rwa [show i + 1 + (es.length - (i + 1)) = es.length by omega] at this
      unfold F109.B6
      refine ldI_own oG rfl (ld1_own oG rfl ⟨?_, ?_⟩)
      all_goals first
        | refine l01Own_ok huG.ints (by omega) fun w G1 l2 f1 => ⟨ldI_own (oG.le l2) rfl (ld1_own (oG.le l2) rfl ⟨rfl, rfl⟩), push_int (H0 := G) f1 l2 (by omega) fun v' G2 l3 f2 _ => ⟨ldI_own (oG.le l3) rfl (ld1_own (oG.le l3) rfl ⟨rfl, rfl⟩), ?_⟩⟩
        | refine newK_f rfl fun G0 l0 n0' o0 => l01Own_ok (huG.ints.le l0) (by omega) fun w G1 l2 f1 => ⟨ldI_own (oG.le (AHeap.le_trans l0 l2)) rfl (ld1_own (oG.le (AHeap.le_trans l0 l2)) rfl ⟨rfl, rfl⟩), push_row (H0 := G) (f1.less l0.1) (AHeap.le_trans l0 l2) (o0.le l2) (by omega) fun v' G2 l3 f2 => ⟨ldI_own (oG.le l3) rfl (ld1_own (oG.le l3) rfl ⟨rfl, rfl⟩), ?_⟩⟩
      all_goals
        have hl3 := l3.1
        rw [wrap_id (by omega) (by omega), wrap_id (by omega) (by omega), show ((i : Nat) : Int) + 1 = ((i + 1 : Nat) : Int) by omega, show (((left + 1 : Nat) : Nat) : Int) - 1 = ((left : Nat) : Int) by omega]
        refine ih (i + 1) (pre ++ [(i : Int)]) G2 _ v' (by omega) (AHeap.le_trans h0G l3) (by omega) (by simp; omega) (fun l hl => ?_) (f2.less (by omega)) fun w G3 l4 hw => tup2_mk (asB_mk ?_)
        · have : (i : Int) :: l ∈ cmb es.length (left + 1) f := by
            rw [cmb_succ, cmbTo, List.mem_flatMap]
            exact ⟨i, by rw [List.mem_filter, List.mem_range]; exact ⟨by omega, by simpa using hfi⟩, List.mem_map.2 ⟨l, hl, rfl⟩⟩
          have := hS _ this
          simpa using this
        · have lG3 := AHeap.le_trans lG (AHeap.le_trans l3 l4)
          unfold F109.B5
          refine pif_cases (fun hq => ?_) fun hq => ?_
          · unfold F109.B4
            obtain ⟨l, hl⟩ := Option.isSome_iff_exists.1 hq
            obtain ⟨rest, hr⟩ := hall
            have hf : ((cmb es.length (left + 1) f).map (pre ++ ·)).find? (wkQ es) = some l := by
              rw [hr, hsucc, List.find?_append, List.find?_append, hno, hl]; rfl
            have kk := kk w G3 (AHeap.le_trans l1 lG3) fun l' hl' => by
              rw [hf] at hl'; cases hl'; exact hw l hl
            rw [hf] at kk
            exact kk
          · unfold F109.B3
            rw [wrap_id (by omega) (by omega)]
            refine ⟨⟨rfl, rfl, rfl, lG3, i + 1, by omega, by omega, by omega, ?_⟩, by show es.length - ((i : Int) + 1).toNat < es.length - (i : Int).toNat; omega⟩
            rw [hsucc, List.find?_append, hno, Option.none_or]
            exact Option.not_isSome_iff_eq_none.1 (by rw [hq]; decide)
    · have him : i = es.length := by have := of_decide_eq_false hb; omega
      subst him
      unfold F109.B1
      rw [← cmb_succ] at hno
      have kk := kk (.slice none 0 0) G (AHeap.le_trans l1 lG) fun l hl => by rw [hno] at hl; cases hl
      rw [hno] at kk
      exact kk
theorem l08Set_ok {n : Int} (hg : IsG n es) (he : Edges H v es) (k : ∀ w G, H.le G → Fresh H.length G w 2 1 (LI (wkOf es)) → K w G) :
    AC Try.prog T0 64 [.agg ⟨[.int .i64 n, v]⟩] H K := by
  have n0 := hg.ed.lo; have n1 := hg.ed.hi
  have h30 : es.length ≤ 30 := by have := hg.ed.len; omega
  apply F64.ac
  unfold F64.B7
  refine newK_f (all_iv (edges_one' he)) fun H1 l1 n1' o1 => ?_
  unfold F64.B6 F64.L1
  refine ⟨fun x1 x3 G => H.length = x1 ∧ H1.le G ∧ ∃ i : Nat, x3 = i ∧ i ≤ es.length ∧ weakF es (es.length + 1 - i) i = wkOf es, fun _ x3 _ => es.length - x3.toNat, ⟨rfl, AHeap.le_refl _, 0, rfl, by omega, rfl⟩, ?_⟩
  rintro x1 x3 G ⟨rfl, lG, i, rfl, hi, hw⟩
  have oG := o1.le lG
  have l1G := AHeap.le_trans l1 lG
  have hl := l1G.1
  unfold F64.B5
  refine ldI_own oG rfl (ld1_own oG rfl (newK_f rfl fun G2 l2 n2 o2 => ?_))
  have hl2 := l2.1
  have ef : Fresh H.length G2 (.slice (some ⟨G.length, 0, none⟩) 0 (0 + 1)) 2 1 (LI []) := .inr ⟨G.length, 0, by omega, rfl, o2, rfl⟩
  have emap : (cmb es.length i 0).map ([] ++ ·) = cmb es.length i 0 := by simp
  refine l08Weak_ok hg he i 0 [] G2 _ _ (by omega) (AHeap.le_trans l1G l2) (by omega) (by simp; omega) (fun l hl => by rw [List.nil_append]; exact (mem_cmb hl).2.1) ef fun w G3 l3 hf => tup2_mk (asB_mk ?_)
  rw [emap] at hf ⊢
  have l13 := AHeap.le_trans lG (AHeap.le_trans l2 l3)
  unfold F64.B4
  refine pif_cases (fun hb => ?_) fun hb => ?_
  · obtain ⟨l, hl⟩ := Option.isSome_iff_exists.1 hb
    unfold F64.B3
    have : wkOf es = l := by
      rw [← hw, show es.length + 1 - i = (es.length - i) + 1 by omega, weakF_some hl]
    have k := k w G3 (AHeap.le_trans l1 l13)
    rw [this] at k
    exact k (hf l hl)
  · have hnone : (cmb es.length i 0).find? (wkQ es) = none := Option.not_isSome_iff_eq_none.1 (by rw [hb]; decide)
    have hne : i ≠ es.length := fun e => by
      have := weak_full (es := es)
      rw [e] at hb
      rw [this] at hb; cases hb
    unfold F64.B2
    rw [wrap_id (by omega) (by omega)]
    refine ⟨⟨rfl, l13, i + 1, by omega, by omega, ?_⟩, by show es.length - ((i : Int) + 1).toNat < es.length - (i : Int).toNat; omega⟩
    rw [← hw, show es.length + 1 - i = (es.length - i) + 1 by omega, weakF_none hnone]
    congr 1; omega
end Go.Proofs
