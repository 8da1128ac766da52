/- Contracts: painting step by step. -/
import Derived.Test.YtfcflpcmjlbedabU51
import Derived.Test.YtfcflpcmjlbedabU40
set_option linter.unusedVariables false
set_option linter.unusedSimpArgs false
set_option maxRecDepth 100000
namespace Go.Proofs
open Go.Abs

variable {H G : AHeap} {v u f : Value} {l m c D : List Int} {es fs : List (Int × Int)} {K : Value → AHeap → Prop}

theorem ptB_cons {i : Int} {E c : List Int} : ptB es (i :: E) c = true ↔ ∃ x : Nat, x < 3 ∧ clashB es c i.toNat (x : Int) = false ∧ ptB es E (c.set i.toNat (x : Int)) = true := by
  rw [ptB]
  simp only [Bool.or_eq_true, Bool.and_eq_true, Bool.not_eq_true']
  constructor
  · rintro ((h | h) | h)
    · exact ⟨0, by omega, h⟩
    · exact ⟨1, by omega, h⟩
    · exact ⟨2, by omega, h⟩
  · rintro ⟨x, hx, h⟩
    rcases (by omega : x = 0 ∨ x = 1 ∨ x = 2) with rfl | rfl | rfl
    · exact .inl (.inl h)
    · exact .inl (.inr h)
    · exact .inr h
abbrev foundV : Value := .func (.func 155) ⟨[]⟩ ⟨[]⟩
section
variable {n : Int} {H0 : AHeap} {pb cb ub : Nat} {tP : TypeId} {qE : Value}
theorem paint_ok {E : List Int} (hg : IsG n es) (he : Edges H0 v es) (hE : Ints H0 qE E) (hEn : E.Nodup) (hEr : ∀ x ∈ E, 0 ≤ x ∧ x < es.length) (hcb : H0.length ≤ cb) (hub : H0.length ≤ ub) (hne : cb ≠ ub) (hp1 : pb ≠ cb) (hp2 : pb ≠ ub) :
    ∀ (r k : Nat) (c : List Int) (u : List Nat) (G : AHeap) (K : Value → AHeap → Prop), k + r = E.length → H0.le G → Own G pb tP [.int .i64 n, v, qE, .slice (some ⟨cb, 0, none⟩) es.length (es.length + 1), .slice (some ⟨ub, 0, none⟩) n.toNat (n.toNat + 1), foundV] →
      Own G cb 2 (LI c) → Own G ub 72 (LU u) → c.length = es.length → UsedOk es n.toNat c u → (∀ j, k ≤ j → j < E.length → c.getD (E.getD j 0).toNat 0 = -1) → (∀ G', G.le G' → K (.bool (ptB es (E.drop k) c)) G') →
      AC Try.prog T0 178 [.pointer (some ⟨pb, 0, none⟩), .int .i64 (k : Nat)] G K := by
  have n0 := hg.ed.lo; have n1 := hg.ed.hi
  have h30 : es.length ≤ 30 := by have := hg.ed.len; omega
  have hEl : E.length ≤ 30 := by
    have := nodup_sub (m := upto es.length) hEn fun x hx => by
      have := hEr x hx
      unfold upto; exact List.mem_map.2 ⟨x.toNat, List.mem_range.2 (by omega), Int.toNat_of_nonneg this.1⟩
    unfold upto at this
    rw [List.length_map, List.length_range] at this; omega
  intro r
  induction r with
  | zero | succ r ih =>
    intro k c u G K hkr h0 oP oc ou hcl hU hfree kk
    have hEG := hE.le h0
    have oi := own_ints (c := es.length + 1) oc
    rw [hcl] at oi
    apply F178.ac
    unfold F178.B20 F178.L17
    refine ⟨fun x0 x1 G' => .pointer (some ⟨pb, 0, none⟩) = x0 ∧ ((k : Nat) : Int) = x1 ∧ G = G', fun _ _ _ => 0, ⟨rfl, rfl, rfl⟩, ?_⟩
    rintro x0 x1 G' ⟨rfl, rfl, rfl⟩
    unfold F178.B19
    refine nilK_mk (asP_mk (ld1_own oP rfl (hEG.len ?_)))
    first
    | (have hk : k = E.length := by omega
       refine pif_f (by simp; omega) ?_
       unfold F178.B16
       refine nilK_mk (asP_mk (ld1_own oP rfl (hEG.len (pif_t (by simp; omega) ?_))))
       unfold F178.B15
       refine nilK_mk (asP_mk (ld1_own oP rfl (nilK_mk (asP_mk (ld1_own oP rfl (callV_mk ?_))))))
       apply F155.ac
       unfold F155.B2 F155.B1
       refine asB_mk ?_
       have kk := kk G (AHeap.le_refl _)
       rw [hk, List.drop_length] at kk
       exact kk)
    | (have hk : k < E.length := by omega
       refine pif_t (by simp; omega) ?_
       have hi := hEr _ (List.getElem_mem hk)
       obtain ⟨i, hie⟩ : ∃ i : Nat, E[k] = (i : Int) := ⟨(E[k]).toNat, by omega⟩
       have hget : E.getD k 0 = (i : Int) := by rw [getD_of hk, hie]
       rw [hie] at hi
       have hil : i < es.length := by omega
       have hci : c.getD i 0 = -1 := by have := hfree k (Nat.le_refl _) hk; rwa [hget, Int.toNat_natCast] at this
       have hdrop : E.drop k = (i : Int) :: E.drop (k + 1) := by rw [List.drop_eq_getElem_cons hk, hie]
       refine nilK_mk (asP_mk (ld1_own oP rfl (nilK_mk (asP_mk (ld1_own oP rfl (hEG.rd (by omega) (by omega) ?_))))))
       rw [Int.toNat_natCast, hget]
       refine oi.rd (by omega) (by omega) ?_
       rw [Int.toNat_natCast, hci]
       refine pif_f rfl ?_
       unfold F178.B16
       refine nilK_mk (asP_mk (ld1_own oP rfl (hEG.len (pif_f (by rw [beq_eq_false_iff_ne]; omega) ?_))))
       unfold F178.B14
       refine nilK_mk (asP_mk (ld1_own oP rfl (hEG.rd (by omega) (by omega) ?_)))
       rw [Int.toNat_natCast, hget]
       obtain ⟨d1, d2, d3, d4, d5⟩ := hg.ed.ends es[i] (List.getElem_mem hil)
       rw [← getD_of (d := (0, 0)) hil] at d1 d2 d3 d4 d5
       obtain ⟨a, ha⟩ : ∃ a : Nat, (es.getD i (0, 0)).1 = a := ⟨(es.getD i (0, 0)).1.toNat, by omega⟩
       obtain ⟨b, hb'⟩ : ∃ b : Nat, (es.getD i (0, 0)).2 = b := ⟨(es.getD i (0, 0)).2.toNat, by omega⟩
       have hab : es.getD i (0, 0) = ((a : Int), (b : Int)) := by rw [← ha, ← hb']
       unfold F178.B13
       obtain ⟨bb, oo, hk', c1, c2⟩ := (he.le h0).idx (show (0 : Int) ≤ i by omega) (by omega)
       simp only [Int.toNat_natCast] at c1 c2
       refine nilK_mk (asP_mk (ld1_own oP rfl (hk' _ (ldI_mk c1 (ldI_mk c2 (newK_f rfl fun G1 l1 n1' o1 => stK_f o1 (by simp) (by simp [Value.oneCell']) rfl fun G2 b2 o2 => ?_))))))
       have l2 : G.le G2 := b2.le l1 (Nat.le_refl _)
       have o2 : Own G2 G.length 100 [.int .i64 (a : Nat), .int .i64 (b : Nat)] := by rw [ha, hb'] at o2; simpa using o2
       have hul := hU.1
       unfold F178.B12 F178.L2
       refine ⟨fun x0 x1 x5 x6 x65 G' => .pointer (some ⟨pb, 0, none⟩) = x0 ∧ ((k : Nat) : Int) = x1 ∧ ((i : Nat) : Int) = x5 ∧ G.length = x6 ∧ G2.le G' ∧ ∃ t : Nat, x65 = t ∧ t ≤ 3 ∧ ∀ x : Nat, x < t → ¬ (clashB es c i (x : Int) = false ∧ ptB es (E.drop (k + 1)) (c.set i (x : Int)) = true), fun _ _ _ _ x65 _ => 3 - x65.toNat, ⟨rfl, rfl, rfl, rfl, AHeap.le_refl _, 0, rfl, by omega, fun x hx => absurd hx (by omega)⟩, ?_⟩
       rintro x0 x1 x5 x6 x65 G3 ⟨rfl, rfl, rfl, rfl, hG3, t, rfl, ht, hno⟩
       have lG3 := AHeap.le_trans l2 hG3
       have h03 := AHeap.le_trans h0 lG3
       have oP3 := oP.le lG3
       have oc3 := oc.le lG3
       have ou3 := ou.le lG3
       have o23 := o2.le hG3
       unfold F178.B11
       refine pif_cases (fun hb => ?_) fun hb => ?_
       · have ht3 : t < 3 := by have := of_decide_eq_true hb; omega
         have hua := (hU.2 a (by omega)).1
         have hub' := (hU.2 b (by omega)).1
         unfold F178.B10 F178.B9
         refine nilK_mk (asP_mk (ld1_own oP3 rfl (ldI_own o23 rfl (own_idx (by omega) (by omega) (ldI_own ou3 (by rw [Int.toNat_natCast]; exact LUget2 (by omega)) (nilK_mk (asP_mk (ld1_own oP3 rfl (ldI_own o23 rfl (own_idx (by omega) (by omega) (ldI_own ou3 (by rw [Int.toNat_natCast]; exact LUget2 (by omega)) ?_)))))))))))
         rw [bits_or hua hub']
         refine has_ok (or_lt hua hub') (by omega) (asB_mk ?_)
         rw [Int.toNat_natCast, used_clash hU hab (by omega) (by omega)]
         refine pif_cases (fun hb => ?_) fun hb => ?_
         · unfold F178.B3
           rw [wrap_id (by omega) (by omega)]
           refine ⟨⟨rfl, rfl, rfl, rfl, hG3, t + 1, by omega, by omega, fun x hx => ?_⟩, by simp; omega⟩
           by_cases e : x = t
           · subst e; rw [hb]; simp
           · exact hno x (by omega)
         · have hcl2 := hb
           unfold F178.B8
           refine give_ok (x := t) hg he h03 hcb hub hne hp1 hp2 oP3 oc3 ou3 hcl hul (fun w hw => (hU.2 w hw).1) hil (by omega) fun G4 t4 oc4 ou4 => asTup_mk ?_
           rw [ha, hb', Int.toNat_natCast, Int.toNat_natCast] at ou4
           have hU4 := hU.give (x := t) (by omega) hci hab (by omega) (by omega) (by omega) (by omega)
           have h04 := t4.base h03 hcb hub
           have oP4 : Own G4 pb tP _ := t4.old pb _ hp1 hp2 oP3
           unfold F178.B7
           rw [wrap_id (by omega) (by omega), show ((k : Nat) : Int) + 1 = ((k + 1 : Nat) : Int) by omega]
           refine ih (k + 1) (c.set i (t : Int)) _ G4 _ (by omega) h04 oP4 oc4 ou4 (by simpa using hcl) hU4 (fun j h1 h2 => ?_) fun G5 l5 => asB_mk ?_
           · have hj := hfree j (by omega) h2
             have hji : E.getD j 0 ≠ (i : Int) := fun e => by
               rw [getD_of h2, ← hie] at e
               have := (List.getElem_inj hEn).1 e; omega
             have hj0 := hEr _ (List.getElem_mem h2)
             rw [← getD_of (d := 0) h2] at hj0
             rw [getD_set_ne (by omega)]; exact hj
           · have oP5 := oP4.le l5
             have oc5 := oc4.le l5
             have ou5 := ou4.le l5
             unfold F178.B6
             refine take_ok (x := t) hg he (AHeap.le_trans h04 l5) hcb hub hne hp1 hp2 oP5 oc5 ou5 (by simpa using hcl) hU4.1 (fun w hw => (hU4.2 w hw).1) hil (by omega) (getD_set_self (by omega)) fun G6 t6 oc6 ou6 => asTup_mk ?_
             have hback : (c.set i (t : Int)).set i (-1) = c := by
               rw [List.set_set, ← hci, getD_of (by omega : i < c.length)]; exact List.set_getElem_self _
             rw [hback] at oc6
             have hbit := used_clash (x := t) hU hab (by omega) (by omega)
             rw [hcl2, Nat.testBit_or, Bool.or_eq_false_iff] at hbit
             rw [ha, hb', Int.toNat_natCast, Int.toNat_natCast, give_take (by omega) (by omega) (by omega) (by omega) hua hub' hbit.1 hbit.2] at ou6
             have l36 : G3.le G6 := (t4.trans ((Two.le l5).trans t6)).same oc3 oc6 ou3 ou6
             unfold F178.B5
             refine pif_cases (fun hb => ?_) fun hb => ?_
             · unfold F178.B4
               have kk := kk G6 (AHeap.le_trans lG3 l36)
               have : ptB es (E.drop k) c = true := by
                 rw [hdrop, ptB_cons, Int.toNat_natCast]
                 exact ⟨t, ht3, hcl2, hb⟩
               rw [this] at kk; exact kk
             · unfold F178.B3
               rw [wrap_id (by omega) (by omega)]
               refine ⟨⟨rfl, rfl, rfl, rfl, AHeap.le_trans hG3 l36, t + 1, by omega, by omega, fun x hx => ?_⟩, by simp; omega⟩
               by_cases e : x = t
               · subst e; rw [hb]; simp
               · exact hno x (by omega)
       · have ht3 : t = 3 := by have := of_decide_eq_false hb; omega
         subst ht3
         unfold F178.B1
         have kk := kk G3 lG3
         have : ptB es (E.drop k) c = false := by
           rw [← Bool.not_eq_true, hdrop, ptB_cons, Int.toNat_natCast]
           rintro ⟨x, h1, h2⟩
           exact hno x h1 h2
         rw [this] at kk; exact kk)
end
end Go.Proofs
