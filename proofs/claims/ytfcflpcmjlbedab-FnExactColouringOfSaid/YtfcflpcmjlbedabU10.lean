/- Contracts: matchings, both sides. -/
import Derived.Test.YtfcflpcmjlbedabU9
set_option linter.unusedVariables false
set_option linter.unusedSimpArgs false
set_option maxRecDepth 100000
namespace Go.Proofs
open Go.Abs

variable {H : AHeap} {v u f : Value} {l m c : List Int} {es fs : List (Int × Int)} {K : Value → AHeap → Prop}

theorem ends_range {n : Int} (hd : IsEd n es) (hs : ∀ x ∈ l, 0 ≤ x ∧ x < es.length) : ∀ x ∈ ends es l, 0 ≤ x ∧ x < n := by
  intro x hx
  unfold ends at hx
  rw [List.mem_flatMap] at hx
  obtain ⟨i, hi, hx⟩ := hx
  have hr := hs i hi
  have hil : i.toNat < es.length := by omega
  obtain ⟨d1, d2, d3, d4, d5⟩ := hd.ends es[i.toNat] (List.getElem_mem hil)
  rw [getD_of hil] at hx
  simp at hx
  rcases hx with rfl | rfl <;> omega
theorem setN_append (l m : List Int) : setN (l ++ m) = m.foldl (fun s i => s ||| 2 ^ i.toNat) (setN l) := by unfold setN; rw [List.foldl_append]

theorem isMatching_ok {n : Int} (h : Edges H v es) (hl : es.length ≤ 1048576) (hg : IsG n es) (hc : Ints H u l) (hcl : l.length ≤ 1048576) (k : ∀ G, H.le G → K (.bool (decide (IsM n es l))) G) :
    AC Try.prog T0 77 [.agg ⟨[.int .i64 n, v]⟩, u] H K := by
  have n0 := hg.ed.lo; have n1 := hg.ed.hi; have n2 := hg.ed.even
  apply F77.ac
  unfold F77.B11
  refine newK_f (all_iv (edges_one' h)) fun H1 l1 n1' o1 => ?_
  unfold F77.B10
  have no : ∀ G, H.le G → ¬ IsM n es l → F77.B9 K G := by
    intro G hG hno
    unfold F77.B9
    have k := k _ hG
    rw [decide_eq_false hno] at k; exact k
  refine ldI_own o1 rfl (ld1_own o1 rfl (IsGraph_ok (h.le l1) hl fun H2 l2 => asB_mk (pif_f (by rw [decide_eq_true hg]; rfl) ?_)))
  have l12 := AHeap.le_trans l1 l2
  have o2 := l2.2 _ _ o1
  refine ld1_own o2 rfl (lengthE_ok (h.le l12) (asI_mk (isSet_ok (hc.le l12) (by omega) (by omega) (by omega) (asB_mk (pif_cases (fun hb => ?_) fun hb => ?_)))))
  · rw [Bool.not_eq_true'] at hb
    exact no _ l12 fun hi => of_decide_eq_false hb hi.set
  · rw [Bool.not_eq_false'] at hb
    have hs : IsS l es.length := of_decide_eq_true hb
    refine ldI_own o2 rfl (lengthL_ok (hc.le l12) (asI_mk ⟨AHeap.le_refl _, ?_⟩))
    rw [show Int.tdiv n 2 = n / 2 from Int.tdiv_eq_ediv_of_nonneg (by omega), wrap_id (by omega) (by omega)]
    refine pif_cases (fun hb => ?_) fun hb => ?_
    · exact no _ l12 fun hi => by have := hi.len; have := bne_iff_ne.1 hb; omega
    · have hlen : (l.length : Int) = n / 2 := bne_eq_false_iff_eq.1 hb
      have hsr : ∀ x ∈ l, 0 ≤ x ∧ x < es.length := hs.range
      have her := ends_range hg.ed hsr
      have he64 : ∀ k, ∀ x ∈ ends es (l.take k), x < 64 := fun k x hx => by
        have := ends_range hg.ed (l := l.take k) (fun y hy => hsr y (List.mem_of_mem_take hy)) x hx
        omega
      unfold F77.B8 F77.B7
      refine (hc.le l12).len ?_
      unfold F77.L2
      refine ⟨fun x2 x5 x27 x28 x29 G => x2 = H.length ∧ x27 = u ∧ x28 = l.length ∧ G = H2 ∧ ∃ i : Nat, x29 = i ∧ i ≤ l.length ∧ x5 = (setN (ends es (l.take i)) : Nat), fun _ _ _ _ x29 _ => l.length - x29.toNat, ⟨rfl, rfl, rfl, rfl, 0, rfl, by omega, rfl⟩, ?_⟩
      rintro x2 x5 x27 x28 x29 G ⟨rfl, rfl, rfl, rfl, i, rfl, hi, rfl⟩
      unfold F77.B6
      refine pif_cases (fun hb => ?_) fun hb => ?_
      · have hil : i < l.length := by have := of_decide_eq_true hb; omega
        have hx := hsr l[i] (List.getElem_mem hil)
        have hxl : (l[i]).toNat < es.length := by omega
        obtain ⟨d1, d2, d3, d4, d5⟩ := hg.ed.ends es[(l[i]).toNat] (List.getElem_mem hxl)
        rw [← getD_of (d := (0, 0)) hxl] at d1 d2 d3 d4 d5
        unfold F77.B5
        refine (hc.le l12).rd (by omega) (by omega) ?_
        simp only [Int.toNat_natCast, getD_of hil]
        unfold F77.B4
        obtain ⟨b, o, hk, c1, c2⟩ := (h.le l12).idx hx.1 hx.2
        refine ld1_own o2 rfl (hk _ (ldI_mk c1 ⟨d1, ld1_own o2 rfl (hk _ (ldI_mk c2 ⟨d3, ?_⟩))⟩))
        have pa : 2 ^ ((es.getD (l[i]).toNat (0, 0)).1).toNat < 2 ^ 64 := Nat.pow_lt_pow_right (by decide) (by omega)
        have pb : 2 ^ ((es.getD (l[i]).toNat (0, 0)).2).toNat < 2 ^ 64 := Nat.pow_lt_pow_right (by decide) (by omega)
        rw [one_shl d1 (by omega), one_shl d3 (by omega), bits_or pa pb, bits_or (setN_lt (he64 i)) (or_lt pa pb)]
        unfold F77.B3
        rw [wrap_id (by omega) (by omega)]
        refine ⟨⟨rfl, rfl, rfl, rfl, i + 1, by omega, by omega, ?_⟩, by simp; omega⟩
        rw [ends_take es hil, setN_append]
        simp only [List.foldl_cons, List.foldl_nil, Nat.or_assoc]
      · have hil : i = l.length := by have := of_decide_eq_false hb; omega
        subst hil
        unfold F77.B1
        refine ldI_own o2 rfl ⟨by omega, ?_⟩
        have k := k _ l12
        rw [List.take_length]
        have pn : 2 ^ n.toNat < 2 ^ 64 := Nat.pow_lt_pow_right (by decide) (by omega)
        have p1 : 1 ≤ 2 ^ n.toNat := Nat.one_le_two_pow
        rw [one_shl (by omega) (by omega), show ((2 ^ n.toNat : Nat) : Int) - 1 = ((2 ^ n.toNat - 1 : Nat) : Int) by omega, u64_nat (by omega)]
        have key : (((setN (ends es l) : Nat) : Int) == ((2 ^ n.toNat - 1 : Nat) : Int)) = decide (IsM n es l) := by
          rw [Bool.eq_iff_iff, beq_iff_eq, decide_eq_true_iff]
          have hel : (ends es l).length = n.toNat := by rw [ends_length]; omega
          have on := once_all hel (fun x hx => by have := her x hx; omega)
          constructor
          · intro h
            have h : setN (ends es l) = 2 ^ n.toNat - 1 := by omega
            refine ⟨hs, on.2 fun i hi => ?_, by omega⟩
            have := setN_bit (fun x hx => (her x hx).1) i
            rw [h, Nat.testBit_two_pow_sub_one, decide_eq_true hi] at this
            exact of_decide_eq_true this.symm
          · intro h
            have : setN (ends es l) = 2 ^ n.toNat - 1 := by
              apply Nat.eq_of_testBit_eq
              intro i
              rw [setN_bit (fun x hx => (her x hx).1), Nat.testBit_two_pow_sub_one, decide_eq_decide]
              exact ⟨fun hm => by have := her _ hm; omega, fun hi => on.1 h.nd i hi⟩
            rw [this]
        rw [key]; exact k

theorem l04Is_ok {n : Int} (h : Edges H v es) (hl : es.length ≤ 1048576) (hg : IsG n es) (hc : Ints H u l) (hcl : l.length ≤ 1048576) (k : ∀ G, H.le G → K (.bool (decide (IsM n es l))) G) :
    AC Try.prog T0 119 [.agg ⟨[.int .i64 n, v]⟩, u] H K := by
  have n0 := hg.ed.lo; have n1 := hg.ed.hi; have n2 := hg.ed.even
  apply F119.ac
  unfold F119.B17
  refine newK_f (all_iv (edges_one' h)) fun H1 l1 n1' o1 => ?_
  unfold F119.B16
  refine ldI_own o1 rfl (mkR_int (by omega) (by omega) (by decide) fun H2 l2 n2' o2 => ?_)
  rw [rep_b] at o2
  unfold F119.B15 F119.L2
  refine ⟨fun x1 x2 x5 x6 G => x1 = u ∧ x2 = H.length ∧ x5 = .slice (some ⟨H1.length, 0, none⟩) n.toNat (n.toNat + 1) ∧ H1.le G ∧ ∃ i : Nat, x6 = i ∧ i ≤ l.length ∧ (∀ j, j < i → 0 ≤ l.getD j 0 ∧ l.getD j 0 ≤ es.length - 1 ∧ (0 < j → l.getD (j - 1) 0 < l.getD j 0)) ∧ (ends es (l.take i)).Nodup ∧
      ∃ S : List Bool, S.length = n.toNat ∧ Own G H1.length 4 (LB S) ∧ ∀ w, w < S.length → (S.getD w false = true ↔ (w : Int) ∈ ends es (l.take i)),
    fun _ _ _ x6 _ => l.length - x6.toNat, ⟨rfl, rfl, rfl, l2, 0, rfl, by omega, fun j hj => absurd hj (by omega), by simp [ends], _, by simp, o2, fun w hw => ?_⟩, ?_⟩
  · have : (List.replicate n.toNat false).getD w false = false := by simp only [List.getD, List.getElem?_replicate]; split <;> rfl
    rw [this]; simp [ends]
  · rintro x1 x2 x5 x6 G ⟨rfl, rfl, rfl, hG, i, rfl, hi, hp, hnd, S, hS, oS, hm⟩
    have oG := hG.2 _ _ o1
    have lG := AHeap.le_trans l1 hG
    have hsr : ∀ x ∈ l.take i, 0 ≤ x ∧ x < es.length := fun x hx => by
      obtain ⟨j, hj, rfl⟩ := List.getElem_of_mem hx
      rw [List.length_take] at hj
      have := hp j (by omega)
      rw [getD_of (by omega : j < l.length)] at this
      rw [List.getElem_take]; omega
    unfold F119.B14
    refine (hc.le lG).len (pif_cases (fun hb => ?_) fun hb => ?_)
    · have hil : i < l.length := by have := of_decide_eq_true hb; omega
      have no : ¬ (0 ≤ l.getD i 0 ∧ l.getD i 0 ≤ es.length - 1 ∧ (0 < i → l.getD (i - 1) 0 < l.getD i 0)) → ∀ N, F119.B12 K N G := by
        intro hno N
        unfold F119.B12
        have k := k _ lG
        rw [decide_eq_false (fun hi' : IsM n es l => hno (hi'.set i hil))] at k; exact k
      have go : (0 ≤ l.getD i 0 ∧ l.getD i 0 ≤ es.length - 1 ∧ (0 < i → l.getD (i - 1) 0 < l.getD i 0)) → F119.B11 K (fun x1'' x2'' x5'' x6'' H'' =>
          (x1'' = x1 ∧ x2'' = H.length ∧ x5'' = .slice (some ⟨H1.length, 0, none⟩) n.toNat (n.toNat + 1) ∧ H1.le H'' ∧ ∃ i : Nat, x6'' = i ∧ i ≤ l.length ∧ (∀ j, j < i → 0 ≤ l.getD j 0 ∧ l.getD j 0 ≤ es.length - 1 ∧ (0 < j → l.getD (j - 1) 0 < l.getD j 0)) ∧ (ends es (l.take i)).Nodup ∧
            ∃ S : List Bool, S.length = n.toNat ∧ Own H'' H1.length 4 (LB S) ∧ ∀ w, w < S.length → (S.getD w false = true ↔ (w : Int) ∈ ends es (l.take i))) ∧ l.length - x6''.toNat < l.length - (i : Int).toNat) x1 H.length (.slice (some ⟨H1.length, 0, none⟩) n.toNat (n.toNat + 1)) i G := by
        intro hy
        have hxl : (l.getD i 0).toNat < es.length := by omega
        obtain ⟨d1, d2, d3, d4, d5⟩ := hg.ed.ends es[(l.getD i 0).toNat] (List.getElem_mem hxl)
        rw [← getD_of (d := (0, 0)) hxl] at d1 d2 d3 d4 d5
        unfold F119.B11 F119.L4
        let P : Nat → List Int := fun m => ends es (l.take i) ++ (if m = 0 then [] else if m = 1 then [en (es.getD (l.getD i 0).toNat (0, 0)) 0] else [en (es.getD (l.getD i 0).toNat (0, 0)) 0, en (es.getD (l.getD i 0).toNat (0, 0)) 1])
        have PS : ∀ m, m < 2 → P (m + 1) = P m ++ [en (es.getD (l.getD i 0).toNat (0, 0)) m] := by
          intro m hm
          rcases (by omega : m = 0 ∨ m = 1) with rfl | rfl <;> simp [P]
        have P2 : P 2 = ends es (l.take (i + 1)) := by
          rw [ends_take es hil, ← getD_of (d := 0) hil]
          simp [P, en]
        refine ⟨fun y1 y2 y5 y6 y7 G' => y1 = x1 ∧ y2 = H.length ∧ y5 = .slice (some ⟨H1.length, 0, none⟩) n.toNat (n.toNat + 1) ∧ y6 = i ∧ H1.le G' ∧ ∃ m : Nat, y7 = m ∧ m ≤ 2 ∧ (P m).Nodup ∧ ∃ S : List Bool, S.length = n.toNat ∧ Own G' H1.length 4 (LB S) ∧ ∀ w, w < S.length → (S.getD w false = true ↔ (w : Int) ∈ P m),
          fun _ _ _ _ y7 _ => 2 - y7.toNat, ⟨rfl, rfl, rfl, rfl, hG, 0, rfl, by omega, by simpa [P] using hnd, S, hS, oS, by simpa [P] using hm⟩, ?_⟩
        rintro y1 y2 y5 y6 y7 G' ⟨rfl, rfl, rfl, rfl, hG', m, rfl, hm2, hnd, S, hS, oS, hm⟩
        have oG' := hG'.2 _ _ o1
        have lG' := AHeap.le_trans l1 hG'
        unfold F119.B10
        refine pif_cases (fun hb => ?_) fun hb => ?_
        · have hm3 : m < 2 := by have := of_decide_eq_true hb; omega
          unfold F119.B9
          refine ld1_own oG' rfl ((hc.le lG').rd (by omega) (by omega) ?_)
          simp only [Int.toNat_natCast]
          obtain ⟨b, o, hk, c1, c2⟩ := (h.le lG').idx hy.1 (by omega)
          refine hk _ (bndK_iff.2 ⟨by omega, by omega, ldI_mk (cell_en c1 c2 hm3) ?_⟩)
          have hv : 0 ≤ en (es.getD (l.getD i 0).toNat (0, 0)) m ∧ en (es.getD (l.getD i 0).toNat (0, 0)) m < n := by unfold en; split <;> omega
          obtain ⟨w, hw⟩ : ∃ w : Nat, en (es.getD (l.getD i 0).toNat (0, 0)) m = w := ⟨(en (es.getD (l.getD i 0).toNat (0, 0)) m).toNat, by omega⟩
          rw [hw]
          have hwS : w < S.length := by omega
          have rdS : (LB S)[w]? = some (.bool (S.getD w false)) := by rw [getD_of hwS]; simp [hwS]
          unfold F119.B8
          refine own_idx (by omega) (by omega) (ld1_own oS rdS (asB_mk (pif_cases (fun hbit => ?_) fun hbit => ?_)))
          · unfold F119.B7
            have k := k _ lG'
            rw [decide_eq_false (fun hi' : IsM n es l => by
              have hin := (hm w hwS).1 hbit
              have hsub : (ends es (l.take (i + 1))).Nodup := by
                have := hi'.nd
                rw [← List.take_append_drop (i + 1) l] at this
                unfold ends at this ⊢
                rw [List.flatMap_append] at this
                exact (List.nodup_append.1 this).1
              rw [← P2] at hsub
              have h3 : (P (m + 1)).Nodup := by
                rcases (by omega : m = 0 ∨ m = 1) with rfl | rfl
                · rw [PS 1 (by omega)] at hsub; exact (List.nodup_append.1 hsub).1
                · exact hsub
              rw [PS m hm3, hw] at h3
              exact (List.nodup_append.1 h3).2.2 _ hin _ (by simp) rfl)] at k
            exact k
          · unfold F119.B6
            refine own_idx (by omega) (by omega) (stK_1 oS (by simpa using hwS) rfl fun G2 b2 o2 => ?_)
            have o2 : Own G2 H1.length 4 (LB (S.set w true)) := by simpa using o2
            unfold F119.B5
            rw [wrap_id (by omega) (by omega)]
            have hnin : ¬ (w : Int) ∈ P m := fun hin => by rw [(hm w hwS).2 hin] at hbit; cases hbit
            refine ⟨⟨rfl, rfl, rfl, rfl, b2.le hG' (Nat.le_refl _), m + 1, by omega, by omega, ?_, _, by simpa using hS, o2, fun w' hw' => ?_⟩, by simp; omega⟩
            · rw [PS m hm3, hw]
              exact List.nodup_append.2 ⟨hnd, by simp, fun a ha b hb => by simp at hb; rintro rfl; subst hb; exact hnin ha⟩
            · rw [List.length_set] at hw'
              rw [PS m hm3, hw, List.mem_append, List.mem_singleton]
              by_cases he : w = w'
              · subst he
                simp [List.getD, hwS]
              · have e1 : (S.set w true).getD w' false = S.getD w' false := by simp [List.getD, List.getElem?_set, he]
                rw [e1, hm w' hw']
                exact ⟨fun h => .inl h, fun h => h.elim id fun h => absurd h (by omega)⟩
        · have hm3 : m = 2 := by have := of_decide_eq_false hb; omega
          subst hm3
          unfold F119.B3
          rw [wrap_id (by omega) (by omega)]
          rw [P2] at hnd hm
          refine ⟨⟨rfl, rfl, rfl, hG', i + 1, by omega, by omega, fun j hj => ?_, hnd, S, hS, oS, hm⟩, by simp; omega⟩
          by_cases he : j = i
          · subst he; exact hy
          · exact hp j (by omega)
      unfold F119.B13
      refine (hc.le lG).rd (by omega) (by omega) (ld1_own oG rfl ((h.le lG).len (l01In_ok (asB_mk ?_))))
      simp only [Int.toNat_natCast]
      rw [wrap_id (x := (es.length : Int) - 1) (by omega) (by omega)]
      refine pif_cases (fun hs => ?_) fun hs => ?_
      · rw [Bool.not_eq_true'] at hs
        exact no (fun hy => of_decide_eq_false hs ⟨hy.1, hy.2.1⟩) _
      · rw [Bool.not_eq_false'] at hs
        have hs := of_decide_eq_true hs
        refine pif_cases (fun ht => ?_) fun ht => ?_
        · have hi0 : 0 < i := by have := of_decide_eq_true ht; omega
          rw [wrap_id (x := (i : Int) - 1) (by omega) (by omega)]
          refine (hc.le lG).rd (by omega) (by omega) ((hc.le lG).rd (by omega) (by omega) ?_)
          rw [show ((i : Int) - 1).toNat = i - 1 by omega]
          simp only [Int.toNat_natCast]
          refine pif_cases (fun hd => ?_) fun hd => ?_
          · have := of_decide_eq_true hd
            exact no (fun hy => by have := hy.2.2 hi0; omega) _
          · have := of_decide_eq_false hd
            exact go ⟨hs.1, hs.2, fun _ => by omega⟩
        · have := of_decide_eq_false ht
          exact go ⟨hs.1, hs.2, fun h => by omega⟩
    · have hil : i = l.length := by have := of_decide_eq_false hb; omega
      subst hil
      rw [List.take_length] at hnd hsr
      unfold F119.B1
      refine (hc.le lG).len (ldI_own oG rfl ?_)
      have k := k _ lG
      rw [wrap_id (by omega) (by omega)]
      have e : ((2 * (l.length : Int)) == n) = decide (IsM n es l) := by
        rw [Bool.eq_iff_iff, beq_iff_eq, decide_eq_true_iff]
        exact ⟨fun h => ⟨fun j hj => hp j hj, hnd, h⟩, fun h => h.len⟩
      rw [e]; exact k
end Go.Proofs
