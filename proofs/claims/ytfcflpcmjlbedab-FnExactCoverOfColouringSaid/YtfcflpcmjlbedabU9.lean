/- Contracts: colourings and matchings, both sides. -/
import Derived.Test.YtfcflpcmjlbedabU8
set_option linter.unusedVariables false
set_option linter.unusedSimpArgs false
set_option maxRecDepth 100000
namespace Go.Proofs
open Go.Abs

variable {H : AHeap} {v u f : Value} {l m c : List Int} {es fs : List (Int × Int)} {K : Value → AHeap → Prop}

abbrev LU (s : List Nat) : List Value := s.map fun x => Value.int .u64 (x : Nat)
abbrev LB (s : List Bool) : List Value := s.map Value.bool
theorem rep_u (n : Nat) : (List.replicate n [Value.int .u64 0]).flatten = LU (List.replicate n 0) := by
  induction n with
  | zero => rfl
  | succ n ih => rw [List.replicate_succ, List.replicate_succ, List.flatten_cons, ih]; rfl
theorem rep_b (n : Nat) : (List.replicate n [Value.bool false]).flatten = LB (List.replicate n false) := by
  induction n with
  | zero => rfl
  | succ n ih => rw [List.replicate_succ, List.replicate_succ, List.flatten_cons, ih]; rfl
/-- The place of an element in a row of one's own. -/
theorem own_idx {b n : Nat} {x : Int} {K : Nat → Nat → Prop} (h0 : 0 ≤ x) (h1 : x < n) (k : K b x.toNat) : idxK (.slice (some ⟨b, 0, none⟩) n (n + 1)) x 1 K := ⟨h0, h1, by simpa using k⟩

/-- What has been seen of colours at vertices. -/
def Seen (es : List (Int × Int)) (c : List Int) (S : List Nat) (i m : Nat) : Prop :=
  ∀ w, w < S.length → S.getD w 0 < 2 ^ 64 ∧ ∀ k : Nat, (S.getD w 0).testBit k = true ↔ (∃ j, j < i ∧ on (es.getD j (0, 0)) w = true ∧ c.getD j 0 = k) ∨ ((∃ m', m' < m ∧ (w : Int) = en (es.getD i (0, 0)) m') ∧ c.getD i 0 = k)
theorem Seen.next {es : List (Int × Int)} {c : List Int} {S : List Nat} {i : Nat} (h : Seen es c S i 2) : Seen es c S (i + 1) 0 := by
  intro w hw
  obtain ⟨h1, h2⟩ := h w hw
  refine ⟨h1, fun k => (h2 k).trans ⟨?_, ?_⟩⟩
  · rintro (⟨j, hj, ho, hc⟩ | ⟨⟨m', hm, he⟩, hc⟩)
    · exact .inl ⟨j, by omega, ho, hc⟩
    · exact .inl ⟨i, by omega, by rw [he]; exact on_en, hc⟩
  · rintro (⟨j, hj, ho, hc⟩ | ⟨⟨m', hm, he⟩, hc⟩)
    · by_cases h : j = i
      · subst h
        rcases on_cases ho with e | e
        · exact .inr ⟨⟨0, by omega, e⟩, hc⟩
        · exact .inr ⟨⟨1, by omega, e⟩, hc⟩
      · exact .inl ⟨j, by omega, ho, hc⟩
    · omega

theorem isColouring_ok {n : Int} (h : Edges H v es) (hl : es.length ≤ 1048576) (hg : IsG n es) (hc : Ints H u c) (hcl : c.length ≤ 1048576) (k : ∀ G, H.le G → K (.bool (decide (IsC es c))) G) :
    AC Try.prog T0 54 [.agg ⟨[.int .i64 n, v]⟩, u] H K := by
  have n0 := hg.ed.lo; have n1 := hg.ed.hi
  apply F54.ac
  unfold F54.B18
  refine newK_f (all_iv (edges_one' h)) fun H1 l1 n1' o1 => ?_
  unfold F54.B17
  have no : ∀ G, H.le G → ¬ IsC es c → F54.B16 K G := by
    intro G hG hno
    unfold F54.B16
    have k := k _ hG
    rw [decide_eq_false hno] at k; exact k
  refine ldI_own o1 rfl (ld1_own o1 rfl (IsGraph_ok (h.le l1) hl fun H2 l2 => asB_mk (pif_f (by rw [decide_eq_true hg]; rfl) ?_)))
  have l12 := AHeap.le_trans l1 l2
  have o2 := l2.2 _ _ o1
  refine (hc.le l12).len (ld1_own o2 rfl ((h.le l12).len (pif_cases (fun hb => ?_) fun hb => ?_)))
  · exact no _ l12 fun hi => by have := hi.len; simp [this] at hb
  · have hlen : c.length = es.length := by have := bne_eq_false_iff_eq.1 hb; omega
    refine areAllL_ok (p := fun x => decide (0 ≤ x ∧ x ≤ 2)) (hc.le l12) (by omega) rfl (fun x _ => isColour_cl x) fun H3 l3 => asB_mk (pif_cases (fun hb => ?_) fun hb => ?_)
    · rw [Bool.not_eq_true'] at hb
      refine no _ (AHeap.le_trans l12 l3) fun hi => ?_
      rw [List.all_eq_true.2 fun x hx => decide_eq_true (hi.rng x hx)] at hb
      cases hb
    · rw [Bool.not_eq_false'] at hb
      have hr : ∀ x ∈ c, 0 ≤ x ∧ x ≤ 2 := fun x hx => of_decide_eq_true (List.all_eq_true.1 hb x hx)
      have l13 := AHeap.le_trans l12 l3
      have o3 := l3.2 _ _ o2
      unfold F54.B15
      refine ldI_own o3 rfl (mkR_int (by omega) (by omega) (by decide) fun H4 l4 n4 o4 => ?_)
      rw [rep_u] at o4
      have o14 := l4.2 _ _ o3
      have l14 := AHeap.le_trans l13 l4
      unfold F54.B14
      refine ld1_own o14 rfl ((h.le l14).len ?_)
      unfold F54.L2
      refine ⟨fun x1 x5 x30 x31 x32 G => x1 = u ∧ x5 = .slice (some ⟨H3.length, 0, none⟩) n.toNat (n.toNat + 1) ∧ x30 = v ∧ x31 = es.length ∧ H3.le G ∧ ∃ i : Nat, x32 = i ∧ i ≤ es.length ∧ ColTo es c i ∧ ∃ S, S.length = n.toNat ∧ Own G H3.length 72 (LU S) ∧ Seen es c S i 0,
        fun _ _ _ _ x32 _ => es.length - x32.toNat, ⟨rfl, rfl, rfl, rfl, l4, 0, rfl, by omega, fun j hj => absurd hj (by omega), _, by simp, o4, ?_⟩, ?_⟩
      · intro w hw
        have : (List.replicate n.toNat 0).getD w 0 = 0 := by simp only [List.getD, List.getElem?_replicate]; split <;> rfl
        rw [this]
        exact ⟨by decide, fun k => by simp⟩
      · rintro x1 x5 x30 x31 x32 G ⟨rfl, rfl, rfl, rfl, hG, i, rfl, hi, hcol, S, hS, oS, seen⟩
        have lG := AHeap.le_trans l13 hG
        unfold F54.B13
        refine pif_cases (fun hb => ?_) fun hb => ?_
        · have hil : i < es.length := by have := of_decide_eq_true hb; omega
          have hic : i < c.length := by omega
          have rc := hr c[i] (List.getElem_mem hic)
          rw [← getD_of (d := 0) hic] at rc
          obtain ⟨d1, d2, d3, d4, d5⟩ := hg.ed.ends es[i] (List.getElem_mem hil)
          rw [← getD_of (d := (0, 0)) hil] at d1 d2 d3 d4 d5
          unfold F54.B12
          obtain ⟨b, o, hk, c1, c2⟩ := (h.le lG).idx (show (0 : Int) ≤ (i : Int) by omega) (by omega)
          simp only [Int.toNat_natCast] at c1 c2
          have hSl := lt_of_get oS
          refine hk _ (ldI_mk c1 (ldI_mk c2 (newK_f rfl fun H5 l5 n5 o5 => stK_f o5 (by simp) (by simp [Value.oneCell']) rfl fun H6 b6 o6 => ?_)))
          have l6 : H3.le H6 := b6.le (AHeap.le_trans hG l5) hG.1
          have oS6 := b6.own (l5.2 _ _ oS) (by omega)
          unfold F54.B11
          refine ldI_own o6 rfl (ldI_own o6 rfl ?_)
          unfold F54.L4
          refine ⟨fun y1 y5 y6 y30 y31 y32 ya yb y38 G' => y1 = x1 ∧ y5 = .slice (some ⟨H3.length, 0, none⟩) n.toNat (n.toNat + 1) ∧ y6 = i ∧ y30 = x30 ∧ y31 = es.length ∧ y32 = i ∧ ya = (es.getD i (0, 0)).1 ∧ yb = (es.getD i (0, 0)).2 ∧ H3.le G' ∧ ∃ m : Nat, y38 = m ∧ m ≤ 2 ∧
              (∀ m', m' < m → ∀ j, j < i → on (es.getD j (0, 0)) (en (es.getD i (0, 0)) m') = true → c.getD j 0 ≠ c.getD i 0) ∧ ∃ S, S.length = n.toNat ∧ Own G' H3.length 72 (LU S) ∧ Seen es c S i m,
            fun _ _ _ _ _ _ _ _ y38 _ => 2 - y38.toNat, ⟨rfl, rfl, rfl, rfl, rfl, rfl, rfl, rfl, l6, 0, rfl, by omega, fun m' hm => absurd hm (by omega), S, hS, oS6, seen⟩, ?_⟩
          rintro y1 y5 y6 y30 y31 y32 ya yb y38 G' ⟨rfl, rfl, rfl, rfl, rfl, rfl, rfl, rfl, hG', m, rfl, hm, hne, S, hS, oS, seen⟩
          have lG' := AHeap.le_trans l13 hG'
          unfold F54.B10
          refine pif_cases (fun hb => ?_) fun hb => ?_
          · have hm2 : m < 2 := by have := of_decide_eq_true hb; omega
            unfold F54.B9
            refine bndK_iff.2 ⟨by omega, by omega, ?_⟩
            have hat : ∀ K : Value → Prop, K (.int .i64 (en (es.getD i (0, 0)) m)) → atK [Value.int .i64 (es.getD i (0, 0)).1, Value.int .i64 (es.getD i (0, 0)).2] (Int.toNat (m : Int) * 1) K := by
              intro K k
              rcases (by omega : m = 0 ∨ m = 1) with rfl | rfl
              · exact k
              · exact k
            refine hat _ (asI_mk ?_)
            have hv : 0 ≤ en (es.getD i (0, 0)) m ∧ en (es.getD i (0, 0)) m < n := by unfold en; split <;> omega
            obtain ⟨w, hw⟩ : ∃ w : Nat, en (es.getD i (0, 0)) m = w := ⟨(en (es.getD i (0, 0)) m).toNat, by omega⟩
            rw [hw]
            have hwS : w < S.length := by omega
            obtain ⟨s1, s2⟩ := seen w hwS
            have rdS : (LU S)[w]? = some (.int .u64 ((S.getD w 0 : Nat) : Int)) := by rw [getD_of hwS]; simp [hwS]
            have rdc : ∀ K : Int → Prop, K (c.getD i 0) → idxK y1 (i : Int) 1 (fun b o => ldI .i64 G' b o K) := fun K k => by
              have := (hc.le lG').rd (i := (i : Int)) (by omega) (by omega) (K := K)
              simp only [Int.toNat_natCast] at this; exact this k
            unfold F54.B8
            refine own_idx (by omega) (by omega) (ldI_own oS rdS (rdc _ (has_ok s1 rc.1 (asB_mk (pif_cases (fun hbit => ?_) fun hbit => ?_)))))
            · unfold F54.B7
              have k := k _ lG'
              rw [decide_eq_false (fun hi' : IsC es c => by
                rcases (s2 _).1 hbit with ⟨j, hj, ho, hcj⟩ | ⟨⟨m', hm', he⟩, _⟩
                · exact hi'.col i hil j hj ⟨w, ho, by rw [← hw]; exact on_en⟩ (by rw [hcj]; omega)
                · have e0 : m' = 0 ∧ m = 1 := by omega
                  obtain ⟨rfl, rfl⟩ := e0
                  have e1 : en (es.getD i (0, 0)) 1 = en (es.getD i (0, 0)) 0 := hw.trans he
                  exact d5 (by simpa [en] using e1.symm))] at k
              exact k
            · unfold F54.B6
              refine own_idx (by omega) (by omega) (ldI_own oS rdS (rdc _ ⟨rc.1, own_idx (by omega) (by omega) (stK_1 oS (by simpa using hwS) rfl fun G2 b2 o2 => ?_)⟩))
              have hp : 2 ^ (c.getD i 0).toNat < 2 ^ 64 := Nat.pow_lt_pow_right (by decide) (by omega)
              rw [one_shl rc.1 (by omega), bits_or s1 hp] at o2
              have o2 : Own G2 H3.length 72 (LU (S.set w (S.getD w 0 ||| 2 ^ (c.getD i 0).toNat))) := by simpa using o2
              unfold F54.B5
              rw [wrap_id (by omega) (by omega)]
              refine ⟨⟨rfl, rfl, rfl, rfl, rfl, rfl, rfl, rfl, b2.le hG' (Nat.le_refl _), m + 1, by omega, by omega, fun m' hm' j hj ho => ?_, _, by simpa using hS, o2, ?_⟩, by simp; omega⟩
              · by_cases he : m' = m
                · subst he
                  intro hcc
                  rw [hw] at ho
                  have e2 := (s2 (c.getD i 0).toNat).2 (.inl ⟨j, hj, ho, by omega⟩)
                  exact absurd (e2.symm.trans hbit) (by decide)
                · exact hne m' (by omega) j hj ho
              · intro w' hw'
                rw [List.length_set] at hw'
                obtain ⟨t1, t2⟩ := seen w' hw'
                by_cases he : w = w'
                · subst he
                  have e1 : (S.set w (S.getD w 0 ||| 2 ^ (c.getD i 0).toNat)).getD w 0 = S.getD w 0 ||| 2 ^ (c.getD i 0).toNat := by simp [List.getD, hwS]
                  rw [e1]
                  refine ⟨or_lt s1 hp, fun k => ?_⟩
                  rw [Nat.testBit_or, Nat.testBit_two_pow, Bool.or_eq_true, decide_eq_true_eq, t2 k]
                  constructor
                  · rintro ((h | ⟨⟨m', hm', he⟩, hcc⟩) | h)
                    · exact .inl h
                    · exact .inr ⟨⟨m', by omega, he⟩, hcc⟩
                    · exact .inr ⟨⟨m, by omega, hw.symm⟩, by omega⟩
                  · rintro (h | ⟨⟨m', hm', he⟩, hcc⟩)
                    · exact .inl (.inl h)
                    · exact .inr (by omega)
                · have e1 : (S.set w (S.getD w 0 ||| 2 ^ (c.getD i 0).toNat)).getD w' 0 = S.getD w' 0 := by simp [List.getD, List.getElem?_set, he]
                  rw [e1]
                  refine ⟨t1, fun k => (t2 k).trans ⟨?_, ?_⟩⟩
                  · rintro (h | ⟨⟨m', hm', he⟩, hcc⟩)
                    · exact .inl h
                    · exact .inr ⟨⟨m', by omega, he⟩, hcc⟩
                  · rintro (h | ⟨⟨m', hm', he'⟩, hcc⟩)
                    · exact .inl h
                    · by_cases hmm : m' = m
                      · subst hmm; rw [hw] at he'; omega
                      · exact .inr ⟨⟨m', by omega, he'⟩, hcc⟩
          · have hm2 : m = 2 := by have := of_decide_eq_false hb; omega
            subst hm2
            unfold F54.B3
            rw [wrap_id (by omega) (by omega)]
            refine ⟨⟨rfl, rfl, rfl, rfl, hG', i + 1, by omega, by omega, fun j hj i' hi' hs => ?_, S, hS, oS, seen.next⟩, by simp; omega⟩
            by_cases he : j = i
            · subst he
              obtain ⟨w, hw1, hw2⟩ := hs
              rcases on_cases hw2 with rfl | rfl
              · exact hne 0 (by omega) i' hi' hw1
              · exact hne 1 (by omega) i' hi' hw1
            · exact hcol j (by omega) i' hi' hs
        · have hil : i = es.length := by have := of_decide_eq_false hb; omega
          subst hil
          unfold F54.B1
          have k := k _ lG
          rw [decide_eq_true (⟨hlen, hr, hcol⟩ : IsC es c)] at k
          exact k
end Go.Proofs
