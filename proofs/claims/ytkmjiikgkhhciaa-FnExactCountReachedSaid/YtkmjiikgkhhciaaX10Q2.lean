/- Contracts and plain mathematics for a law, merged. -/
import Derived.Test.YtkmjiikgkhhciaaX10Q1
/- Contracts: CountReached, both sides. -/
set_option linter.unusedVariables false
set_option linter.unusedSimpArgs false
set_option maxRecDepth 100000
namespace Go.Proofs
open Go.Abs

variable {H G : AHeap} {v u f w : Value} {l m c : List Int} {es fs : List (Int × Int)} {K : Value → AHeap → Prop} {ls L : List (List Int)} {bm : Nat}

theorem oth_le {H0 : AHeap} (ho : Oth v H G) (hl : H.length ≤ G.length) (h0 : H0.le H) (hn : ∀ b, bk v = some b → H0.length ≤ b) : H0.le G :=
  ⟨Nat.le_trans h0.1 hl, fun b o hb => ho b o (fun hv => by have := hn b hv; have := lt_of_get hb; omega) (h0.2 b o hb)⟩
theorem fresh_iw {m0 : Nat} (h : Fresh m0 H w 2 1 (LI l)) (hl : 0 < l.length) (h1 : bm < m0) (h2 : ∀ b, bk v = some b → b < m0) : Iw bm v H w l := by
  refine ⟨h.ints, fun b hb => ?_⟩
  rcases h with ⟨h0, _⟩ | ⟨b', n, hb', rfl, h3, h4⟩
  · have := congrArg List.length h0; simp at this; subst this; simp at hl
  · obtain rfl : b' = b := Option.some.inj hb
    exact ⟨lt_of_get h3, by omega, fun hv => by have := h2 _ hv; omega⟩
noncomputable def crOut (es : List (Int × Int)) (c : List Int) : Option Nat := crRun es 302 0 [c]
noncomputable def crCode (n : Int) (es : List (Int × Int)) (c : List Int) : Int := if IsG n es then (if IsC es c then (match crOut es c with | some _ => 0 | none => 3) else 2) else 1
noncomputable def crVal (n : Int) (es : List (Int × Int)) (c : List Int) : Int := if IsG n es then (if IsC es c then (match crOut es c with | some k => (k : Int) | none => 0) else 0) else 0
/-- The state ahead of a round. -/
structure CrI (es : List (Int × Int)) (c : List Int) (i : Nat) (L : List (List Int)) : Prop where
  hi : i ≤ L.length
  few : L.length ≤ 300
  all : AllCol es L
  run : crOut es c = crRun es (302 - i) i L
theorem CrI.over {i : Nat} (h : CrI es c i L) (hi : i < L.length) (hx : (crV es i L es.length).length > 300) : crOut es c = none := by
  have := h.few
  rw [h.run, show 302 - i = (301 - i) + 1 by omega, crRun, if_pos hi, if_pos hx]
theorem CrI.done {i : Nat} (h : CrI es c i L) (hi : ¬ i < L.length) : crOut es c = some L.length := by
  have := h.few; have := h.hi
  rw [h.run, show 302 - i = (301 - i) + 1 by omega, crRun, if_neg hi]
theorem crB_all {i e : Nat} (hi : i < L.length) (he : e < es.length) (h : AllCol es L) : ∀ t, t ≤ 3 → AllCol es (crB es i e L t)
  | 0, _ => h
  | t + 1, ht => by
    obtain ⟨M, hM⟩ := crB_pre (es := es) i e L t
    exact crStep_all (crB_all hi he h t (by omega)) (by rw [hM]; simp; omega) he (by omega)
theorem crV_all {i : Nat} (hi : i < L.length) (h : AllCol es L) : ∀ e, e ≤ es.length → AllCol es (crV es i L e)
  | 0, _ => h
  | e + 1, he => by
    obtain ⟨M, hM⟩ := crV_up (es := es) i L 0 e
    rw [Nat.zero_add] at hM
    exact crB_all (by rw [hM]; show i < (L ++ M).length; simp; omega) (by omega) (crV_all hi h e (by omega)) 3 (Nat.le_refl _)
theorem CrI.next {i : Nat} (h : CrI es c i L) (hi : i < L.length) (hx : ¬ (crV es i L es.length).length > 300) : CrI es c (i + 1) (crV es i L es.length) := by
  have h0 := h.few
  obtain ⟨M, hM⟩ := crV_up (es := es) i L 0 es.length
  rw [Nat.zero_add] at hM
  refine ⟨by rw [hM]; show i + 1 ≤ (L ++ M).length; simp; omega, by omega, crV_all hi h.all _ (Nat.le_refl _), ?_⟩
  rw [h.run, show 302 - i = (301 - i) + 1 by omega, crRun, if_pos hi, if_neg hx, show 302 - (i + 1) = 301 - i by omega]
/-- A list inside a round: what it has at i, and that it has no more than the whole round gives. -/
theorem crBV_pre (i e t : Nat) (L : List (List Int)) : ∃ M, crB es i e (crV es i L e) t = L ++ M := by
  obtain ⟨M, hM⟩ := crV_up (es := es) i L 0 e
  rw [Nat.zero_add] at hM
  obtain ⟨M', hM'⟩ := crB_pre (es := es) i e (crV es i L e) t
  exact ⟨M ++ M', by rw [hM', hM]; show (L ++ M) ++ M' = _; rw [List.append_assoc]⟩
theorem crV_pre (i e : Nat) (L : List (List Int)) : ∃ M, crV es i L e = L ++ M := by
  obtain ⟨M, hM⟩ := crV_up (es := es) i L 0 e
  rw [Nat.zero_add] at hM
  exact ⟨M, hM⟩

theorem specReach_ok {n : Int} (h : Edges H v es) (hl : es.length ≤ 1048576) (hc : Ints H u c) (hcl : c.length ≤ 1048576)
    (k : ∀ G, H.le G → K (.tuple ⟨[.int .i64 (crVal n es c), .int .i64 (crCode n es c)]⟩) G) : AC Try.prog T0 10 [.agg ⟨[.int .i64 n, v]⟩, u] H K := by
  apply F10.ac
  unfold F10.B29
  refine newK_f (all_iv (edges_one' h)) fun H1 l1 _ o1 => ?_
  unfold F10.B28
  refine ldI_own o1 rfl (ld1_own o1 rfl (pif_t (ints_one hc) (newK_f (by simpa using ints_one hc) fun H2 l2 n2 o2 => l02Code_ok (h.le (AHeap.le_trans l1 l2)) hl (hc.le (AHeap.le_trans l1 l2)) hcl o2 fun H3 l3 => asI_mk ?_)))
  have l03 := AHeap.le_trans (AHeap.le_trans l1 l2) l3
  have o3 := (o1.le l2).le l3
  have hb3 := o3.lt
  unfold F10.B27
  by_cases hok : IsG n es ∧ IsC es c
  rotate_left
  · have hne : (if IsG n es then (if IsC es c then 0 else 2) else 1 : Int) = crCode n es c ∧ crCode n es c ≠ 0 ∧ crVal n es c = 0 := by
      unfold crCode crVal
      by_cases hg : IsG n es
      · have hm : ¬ IsC es c := fun hm => hok ⟨hg, hm⟩
        simp only [if_pos hg, if_neg hm]; exact ⟨trivial, by decide, trivial⟩
      · simp only [if_neg hg]; exact ⟨trivial, by decide, trivial⟩
    have k := k H3 l03
    rw [hne.1]
    rw [hne.2.2] at k
    refine pif_t (bne_iff_ne.2 hne.2.1) ?_
    unfold F10.B26
    exact k
  obtain ⟨hg, hC⟩ := hok
  rw [if_pos hg, if_pos hC]
  refine pif_f rfl ?_
  have n0 := hg.ed.lo; have n1 := hg.ed.hi
  have h30 : es.length ≤ 30 := by have := hg.ed.len; omega
  have h1e : 0 < es.length := by have := hg.ed.len; omega
  have hlen : ∀ {l : List Int}, IsC es l → l.length = es.length := fun h => h.len
  have kN : ∀ G, H.le G → crOut es c = none → K (.tuple ⟨[.int .i64 0, .int .i64 3]⟩) G := fun G hG e => by
    have k := k G hG
    unfold crVal crCode at k
    simp only [if_pos hg, if_pos hC, e] at k; exact k
  have kS : ∀ G (q : Nat), H.le G → crOut es c = some q → K (.tuple ⟨[.int .i64 (q : Int), .int .i64 0]⟩) G := fun G q hG e => by
    have k := k G hG
    unfold crVal crCode at k
    simp only [if_pos hg, if_pos hC, e] at k; exact k
  unfold F10.B25
  refine l01Own_ok (hc.le l03) (by omega) fun w0 H4 l4 f4 => pif_t (ints_one f4.ints) (newK_f (by simpa using ints_one f4.ints) fun H5 l5 n5 o5 => ?_)
  have i4 : Iw H.length (.slice none 0 0) H4 w0 c := fresh_iw f4 (by rw [hlen hC]; exact h1e) hb3 (fun b hb => by cases hb)
  have hq : QR H.length H5 (.slice (some ⟨H4.length, 0, none⟩) 1 (1 + 1)) [c] := by
    refine QR.one o5 (by have := l4.1; omega) (f4.ints.le l5) fun b hb => ?_
    have := (i4.2 b hb).1
    exact ⟨by omega, (i4.2 b hb).2.1, by omega⟩
  unfold F10.B24 F10.L2
  refine ⟨fun x1 x2 x7 x8 G => u = x1 ∧ H.length = x2 ∧ H3.le G ∧ (∀ b, bk x7 = some b → H3.length ≤ b) ∧ ∃ (i : Nat) (L : List (List Int)), x8 = i ∧ CrI es c i L ∧ QR H.length G x7 L,
    fun _ _ _ x8 _ => 301 - x8.toNat, ⟨rfl, rfl, AHeap.le_trans l4 l5, (fun b hb => by cases hb; exact l4.1), 0, [c], rfl, ⟨by simp, by simp, fun l hl => by rw [List.mem_singleton.1 hl]; exact hC, rfl⟩, hq⟩, ?_⟩
  clear hq i4 o5 n5 l5 f4 l4
  rintro x1 x2 x7 x8 G ⟨rfl, rfl, lG, hb7, i, L, rfl, hI, hQ⟩
  have hiL := hI.hi; have hfew := hI.few
  unfold F10.B23
  refine hQ.len (pif_cases (fun hb => ?_) fun hb => ?_)
  rotate_left
  · unfold F10.B1
    exact hQ.len (kS G _ (AHeap.le_trans l03 lG) (hI.done (by have := of_decide_eq_false hb; omega)))
  have hil : i < L.length := by have := of_decide_eq_true hb; omega
  unfold F10.B22 F10.L4
  refine ⟨fun x1 x2 x7 x8 x9 G => u = x1 ∧ H.length = x2 ∧ (i : Int) = x8 ∧ H3.le G ∧ (∀ b, bk x7 = some b → H3.length ≤ b) ∧ ∃ e : Nat, x9 = e ∧ e ≤ es.length ∧ (crV es i L e).length ≤ 300 ∧ QR H.length G x7 (crV es i L e),
    fun _ _ _ _ x9 _ => es.length - x9.toNat, ⟨rfl, rfl, rfl, lG, hb7, 0, rfl, by omega, hfew, hQ⟩, ?_⟩
  clear lG hb7 hQ hb
  rintro x1 x2 x7 x8 x9 G ⟨rfl, rfl, rfl, lG, hb7, e, rfl, he, hle, hQ⟩
  unfold F10.B21
  refine (hc.le (AHeap.le_trans l03 lG)).len (pif_cases (fun hb => ?_) fun hb => ?_)
  rotate_left
  · have hee : e = es.length := by have := of_decide_eq_false hb; rw [hlen hC] at this; omega
    subst hee
    unfold F10.B3
    rw [wrap_id (by omega) (by omega)]
    exact ⟨⟨rfl, rfl, lG, hb7, i + 1, _, by omega, hI.next hil (by omega), hQ⟩, by show 301 - ((i : Int) + 1).toNat < 301 - (i : Int).toNat; omega⟩
  have hel : e < es.length := by have := of_decide_eq_true hb; rw [hlen hC] at this; omega
  unfold F10.B20 F10.L6
  refine ⟨fun x1 x2 x7 x8 x9 x10 G => u = x1 ∧ H.length = x2 ∧ (i : Int) = x8 ∧ (e : Int) = x9 ∧ H3.le G ∧ (∀ b, bk x7 = some b → H3.length ≤ b) ∧ ∃ b : Nat, x10 = b ∧ b ≤ 3 ∧ (crB es i e (crV es i L e) b).length ≤ 300 ∧ QR H.length G x7 (crB es i e (crV es i L e) b),
    fun _ _ _ _ _ x10 _ => 3 - x10.toNat, ⟨rfl, rfl, rfl, rfl, lG, hb7, 0, rfl, by omega, hle, hQ⟩, ?_⟩
  clear lG hb7 hQ hle hb
  rintro x1 x2 x7 x8 x9 x10 G ⟨rfl, rfl, rfl, rfl, lG, hb7, b, rfl, hb3', hle, hQ⟩
  unfold F10.B19
  refine pif_cases (fun hb => ?_) fun hb => ?_
  rotate_left
  · have hbe : b = 3 := by have := of_decide_eq_false hb; omega
    subst hbe
    unfold F10.B5
    rw [wrap_id (by omega) (by omega)]
    exact ⟨⟨rfl, rfl, rfl, lG, hb7, e + 1, by omega, by omega, hle, hQ⟩, by show es.length - ((e : Int) + 1).toNat < es.length - (e : Int).toNat; omega⟩
  have hbl : b < 3 := by have := of_decide_eq_true hb; omega
  obtain ⟨X, hX⟩ : ∃ X, X = crB es i e (crV es i L e) b := ⟨_, rfl⟩
  obtain ⟨M, hM⟩ := crBV_pre (es := es) i e b L
  rw [← hX] at hQ hle hM
  have hXi : X.getD i [] = L.getD i [] := by rw [hM]; exact pre_get hil
  have hiX : i < X.length := by rw [hM]; simp; omega
  have hXall : AllCol es X := by
    rw [hX]
    obtain ⟨M', hM'⟩ := crV_pre (es := es) i e L
    exact crB_all (by rw [hM']; simp; omega) hel (crV_all hil hI.all _ (by omega)) _ (by omega)
  have hci := hXall.at hiX
  have hstep : crB es i e (crV es i L e) (b + 1) = crStep es i e b X := by rw [hX]; rfl
  have next : ∀ x7 G, H3.le G → (∀ b, bk x7 = some b → H3.length ≤ b) → (crStep es i e b X).length ≤ 300 → QR H.length G x7 (crStep es i e b X) → (u = u ∧ H.length = H.length ∧ (i : Int) = i ∧ (e : Int) = e ∧ H3.le G ∧ (∀ b, bk x7 = some b → H3.length ≤ b) ∧ ∃ b' : Nat, ((b : Int) + 1) = b' ∧ b' ≤ 3 ∧ (crB es i e (crV es i L e) b').length ≤ 300 ∧ QR H.length G x7 (crB es i e (crV es i L e) b')) ∧ 3 - ((b : Int) + 1).toNat < 3 - (b : Int).toNat :=
    fun x7 G h1 h2 h3 h4 => ⟨⟨rfl, rfl, rfl, rfl, h1, h2, b + 1, by omega, by omega, by rw [hstep]; exact h3, by rw [hstep]; exact h4⟩, by omega⟩
  have l0G := AHeap.le_trans l03 lG
  unfold F10.B18
  refine hQ.row hiX fun wi hwi => hwi.1.rd (by omega) (by rw [hlen hci]; omega) ?_
  rw [Int.toNat_natCast]
  refine pif_cases (fun hs => ?_) fun hs => ?_
  · unfold F10.B7
    rw [wrap_id (by omega) (by omega)]
    have hs := beq_iff_eq.1 hs
    have e1 : crStep es i e b X = X := by unfold crStep; rw [if_pos hs.symm]
    exact next _ G lG hb7 (by rw [e1]; exact hle) (by rw [e1]; exact hQ)
  have hs := beq_eq_false_iff_ne.1 hs
  obtain ⟨nx, hnx⟩ : ∃ nx, nx = exTo es (X.getD i []) e b es.length := ⟨_, rfl⟩
  have hnC : IsC es nx := by rw [hnx]; exact exTo_isC hci hel (by omega) fun h => hs h.symm
  unfold F10.B17
  have oG := o3.le lG
  refine ldI_own oG rfl (ld1_own oG rfl (hQ.row hiX fun wi hwi => l02Exchange_ok (h.le l0G) hg hwi.1 hci hel (by omega) fun wn G1 l1' f1 => ?_))
  rw [← hnx] at f1
  have lG1 := AHeap.le_trans lG l1'
  have hQ1 := hQ.le l1'
  have hbk : ∀ b, bk x7 = some b → b < G.length := fun b hb => by
    obtain ⟨vs, h1, _⟩ := hQ
    exact (h1.lt hb).2
  have hwn : Iw H.length x7 G1 wn nx := fresh_iw f1 (by rw [hlen hnC]; exact h1e) (by have := lG.1; omega) hbk
  have check : ∀ (N2 : Value → Nat → Value → Int → AHeap → Prop) (N4 : Value → Nat → Value → Int → Int → AHeap → Prop) (N6 : Value → Nat → Value → Int → Int → Int → AHeap → Prop) x7 G2, (∀ x7 G, H3.le G → (∀ b, bk x7 = some b → H3.length ≤ b) → (crStep es i e b X).length ≤ 300 → QR H.length G x7 (crStep es i e b X) → N6 u H.length x7 i e ((b : Int) + 1) G) → H3.le G2 → (∀ b, bk x7 = some b → H3.length ≤ b) → QR H.length G2 x7 (crStep es i e b X) → F10.B9 K N2 N4 N6 u H.length x7 i e b G2 := by
    intro N2 N4 N6 x7 G2 hN h1 h2 h3
    unfold F10.B9
    refine h3.len (pif_cases (fun hb => ?_) fun hb => ?_)
    · unfold F10.B8
      refine kN G2 (AHeap.le_trans l03 h1) (hI.over hil ?_)
      have := of_decide_eq_true hb
      have h4 := crB_le (es := es) i L hel (t := b + 1) (by omega)
      rw [hstep] at h4
      omega
    · unfold F10.B7
      rw [wrap_id (by omega) (by omega)]
      exact hN x7 G2 h1 h2 (by have := of_decide_eq_false hb; omega) h3
  unfold F10.B16 F10.L12
  refine ⟨fun x1 x2 x7' x8 x9 x10 x11 x12 x13 G' => u = x1 ∧ H.length = x2 ∧ x7 = x7' ∧ (i : Int) = x8 ∧ (e : Int) = x9 ∧ (b : Int) = x10 ∧ wn = x11 ∧ G1 = G' ∧ ∃ q : Nat, x13 = q ∧ q ≤ X.length ∧ (x12 = true ↔ nx ∈ X.take q),
    fun _ _ _ _ _ _ _ _ x13 _ => X.length - x13.toNat, ⟨rfl, rfl, rfl, rfl, rfl, rfl, rfl, rfl, 0, rfl, by omega, by simp⟩, ?_⟩
  rintro x1 x2 x7' x8 x9 x10 x11 x12 x13 G' ⟨rfl, rfl, rfl, rfl, rfl, rfl, rfl, rfl, q, rfl, hq, hk12⟩
  have fin : (x12 = true ↔ nx ∈ X) → F10.B11 K (fun x1 x2 x7 x8 G => (u = x1 ∧ H.length = x2 ∧ H3.le G ∧ (∀ b, bk x7 = some b → H3.length ≤ b) ∧ ∃ (i : Nat) (L : List (List Int)), x8 = i ∧ CrI es c i L ∧ QR H.length G x7 L) ∧ 301 - x8.toNat < 301 - (i : Int).toNat)
      (fun x1 x2 x7 x8 x9 G => (u = x1 ∧ H.length = x2 ∧ (i : Int) = x8 ∧ H3.le G ∧ (∀ b, bk x7 = some b → H3.length ≤ b) ∧ ∃ e : Nat, x9 = e ∧ e ≤ es.length ∧ (crV es i L e).length ≤ 300 ∧ QR H.length G x7 (crV es i L e)) ∧ es.length - x9.toNat < es.length - (e : Int).toNat)
      (fun x1 x2 x7 x8 x9 x10 G => (u = x1 ∧ H.length = x2 ∧ (i : Int) = x8 ∧ (e : Int) = x9 ∧ H3.le G ∧ (∀ b, bk x7 = some b → H3.length ≤ b) ∧ ∃ b : Nat, x10 = b ∧ b ≤ 3 ∧ (crB es i e (crV es i L e) b).length ≤ 300 ∧ QR H.length G x7 (crB es i e (crV es i L e) b)) ∧ 3 - x10.toNat < 3 - (b : Int).toNat) u H.length x7 i e b wn x12 G1 := by
    intro hk12
    unfold F10.B11
    refine pif_cases (fun hx => ?_) fun hx => ?_
    · have hni : nx ∉ X := fun hm => by rw [hk12.2 hm] at hx; cases hx
      have e1 : crStep es i e b X = X ++ [nx] := by unfold crStep; rw [if_neg fun h => hs h.symm, ← hnx, if_neg hni]
      unfold F10.B10
      refine hQ1.push hwn (by have := lG1.1; omega) (by omega) fun v' G2 ot len2 nb hQ2 => ?_
      exact check _ _ _ v' G2 next (oth_le ot len2 lG1 hb7) (fun b hb => by have := nb b hb; have := lG1.1; omega) (by rw [e1]; exact hQ2)
    · have hni : nx ∈ X := hk12.1 (by simpa using hx)
      have e1 : crStep es i e b X = X := by unfold crStep; rw [if_neg fun h => hs h.symm, ← hnx, if_pos hni]
      exact check _ _ _ x7 G1 next lG1 hb7 (by rw [e1]; exact hQ1)
  unfold F10.B15
  refine hQ1.len (pif_cases (fun hb => ?_) fun hb => ?_)
  · have hql : q < X.length := by have := of_decide_eq_true hb; omega
    refine pif_cases (fun hx => ?_) fun hx => ?_
    · have hcq := hXall.at hql
      unfold F10.B14
      refine hQ1.row hql fun wq hwq => l02Same_ok hwq.1 hwn.1 (by rw [hlen hcq]; omega) (by rw [hlen hcq, hlen hnC]) (asB_mk ?_)
      unfold F10.B13
      rw [wrap_id (by omega) (by omega)]
      refine ⟨⟨rfl, rfl, rfl, rfl, rfl, rfl, rfl, rfl, q + 1, by omega, by omega, ?_⟩, by show X.length - ((q : Int) + 1).toNat < X.length - (q : Int).toNat; omega⟩
      have hn : nx ∉ X.take q := fun hm => by rw [hk12.2 hm] at hx; cases hx
      rw [List.take_succ_eq_append_getElem hql, List.mem_append, List.mem_singleton, decide_eq_true_iff, getD_of hql]
      exact ⟨fun h => .inr h.symm, fun h => h.elim (fun h => absurd h hn) fun h => h.symm⟩
    · have hx : x12 = true := by simpa using hx
      refine fin ⟨fun _ => List.mem_of_mem_take (hk12.1 hx), fun _ => hx⟩
  · have hqe : q = X.length := by have := of_decide_eq_false hb; omega
    subst hqe
    rw [List.take_length] at hk12
    exact fin hk12

/-- How many entries a map's value has. -/
def mapN (G : AHeap) (v : Value) : Nat :=
  match v with
  | .map (some b) => match G[b]? with
    | some (some (.map es _)) => es.size
    | _ => 0
  | _ => 0
theorem StrM.num {b : Nat} {D : List ByteArray} (h : StrM H b D) : mapN H (.map (some b)) = D.length := by
  obtain ⟨es, cl, h1, h2, _⟩ := h
  have := congrArg List.length h2
  rw [List.length_map, List.length_map, Array.length_toList] at this
  simp only [mapN, h1]; exact this
theorem QR.lenV (h : QR bm H v ls) : lenV v = ls.length := by
  obtain ⟨vs, h1, h2, _⟩ := h
  rw [← h2]; exact Sl_lenV h1
theorem crStep_len (i e b : Nat) (L : List (List Int)) : (crStep es i e b L).length ≤ L.length + 1 := by
  unfold crStep
  split
  · omega
  · split
    · omega
    · simp
theorem crB_len (i e : Nat) (L : List (List Int)) : ∀ t, (crB es i e L t).length ≤ L.length + t
  | 0 => Nat.le_refl _
  | t + 1 => by
    have := crB_len i e L t
    have := crStep_len (es := es) i e t (crB es i e L t)
    rw [crB]; omega
theorem crV_len (i : Nat) (L : List (List Int)) : ∀ e, (crV es i L e).length ≤ L.length + 3 * e
  | 0 => Nat.le_refl _
  | e + 1 => by
    have := crV_len i L e
    have := crB_len (es := es) i e (crV es i L e) 3
    rw [crV]; omega
theorem QR.tail2 (h : QR bm H v ls) (h0 : 0 < ls.length) {K : Value → Prop} (k : ∀ v', QR bm H v' (ls.drop 1) → bk v' = bk v → K v') : sliceK H 25 v (some (.int .i64 1)) none 1 K := by
  have hb : ∃ b, ∃ o n, v = .slice (some ⟨b, o, none⟩) n (n + 1) := by
    obtain ⟨vs, h1, h2, _⟩ := h
    rcases h1 with ⟨rfl, _⟩ | ⟨b, n, pre, post, hb, rfl, _⟩
    · simp at h2; omega
    · exact ⟨_, _, _, rfl⟩
  obtain ⟨b, o, n, rfl⟩ := hb
  have := h.tail h0 (K := fun v' => bk v' = bk (.slice (some ⟨b, o, none⟩) n (n + 1)) → K v') fun v' q e => k v' q e
  unfold sliceK at this ⊢
  obtain ⟨g1, g2⟩ := this
  exact ⟨g1, g2.1, g2.2.1, g2.2.2.1, g2.2.2.2 rfl⟩

theorem implReach_ok {n : Int} (h : Edges H v es) (hl : es.length ≤ 1048576) (hc : Ints H u c) (hcl : c.length ≤ 1048576)
    (k : ∀ G, H.le G → K (.tuple ⟨[.int .i64 (crVal n es c), .int .i64 (crCode n es c)]⟩) G) : AC Try.prog T0 13 [.agg ⟨[.int .i64 n, v]⟩, u] H K := by
  apply F13.ac
  unfold F13.B28
  refine newK_f (all_iv (edges_one' h)) fun H1 l1 _ o1 => ?_
  unfold F13.B27
  refine ldI_own o1 rfl (ld1_own o1 rfl (ldI_own o1 rfl (ld1_own o1 rfl (isColouring_any (h.le l1) hl (hc.le l1) hcl fun H2 l2 => asB_mk ⟨l2, graphCode_ok (h.le (AHeap.le_trans l1 l2)) hl fun H3 l3 => asI_mk ?_⟩))))
  have l03 := AHeap.le_trans (AHeap.le_trans l1 l2) l3
  have o3 := (o1.le l2).le l3
  have hb3 := o3.lt
  unfold F13.B26
  by_cases hok : IsG n es ∧ IsC es c
  rotate_left
  · have hne : (if IsG n es then (if decide (IsG n es ∧ IsC es c) then 0 else 2) else 1 : Int) = crCode n es c ∧ crCode n es c ≠ 0 ∧ crVal n es c = 0 := by
      unfold crCode crVal
      rw [decide_eq_false hok]
      by_cases hg : IsG n es
      · have hm : ¬ IsC es c := fun hm => hok ⟨hg, hm⟩
        simp only [if_pos hg, if_neg hm]; exact ⟨rfl, by decide, trivial⟩
      · simp only [if_neg hg]; exact ⟨trivial, by decide, trivial⟩
    have k := k H3 l03
    rw [hne.1]
    rw [hne.2.2] at k
    refine pif_t (bne_iff_ne.2 hne.2.1) ?_
    unfold F13.B25
    exact k
  rw [decide_eq_true hok]
  obtain ⟨hg, hC⟩ := hok
  rw [if_pos hg]
  refine pif_f rfl ?_
  have n0 := hg.ed.lo; have n1 := hg.ed.hi
  have h30 : es.length ≤ 30 := by have := hg.ed.len; omega
  have h1e : 0 < es.length := by have := hg.ed.len; omega
  have hlen : ∀ {l : List Int}, IsC es l → l.length = es.length := fun h => h.len
  have kN : ∀ G, H.le G → crOut es c = none → K (.tuple ⟨[.int .i64 0, .int .i64 3]⟩) G := fun G hG e => by
    have k := k G hG
    unfold crVal crCode at k
    simp only [if_pos hg, if_pos hC, e] at k; exact k
  have kS : ∀ G (q : Nat), H.le G → crOut es c = some q → K (.tuple ⟨[.int .i64 (q : Int), .int .i64 0]⟩) G := fun G q hG e => by
    have k := k G hG
    unfold crVal crCode at k
    simp only [if_pos hg, if_pos hC, e] at k; exact k
  have hby : ∀ {l : List Int}, IsC es l → ∀ x ∈ l, 0 ≤ x ∧ x < 256 := fun h x hx => by have := h.rng x hx; omega
  have hsz : ∀ {l : List Int}, IsC es l → (bytesOf l).size ≤ maxLen := fun h => by rw [bytesOf_size, hlen h]; unfold maxLen; omega
  unfold F13.B24
  refine newM_str fun H4 l4 n4 m4 => key_ok (hc.le (AHeap.le_trans l03 l4)) (by rw [hlen hC]; omega) (hby hC) fun H5 l5 => asS_mk (mup_str (m4.le l5) (hsz hC) (by simp) fun H6 b6 m6 => ?_)
  obtain ⟨bm, hbm⟩ : ∃ bm, bm = H3.length := ⟨_, rfl⟩
  rw [← hbm] at b6 m6 ⊢
  have l36 : H3.le H6 := b6.le (AHeap.le_trans l4 l5) (by omega)
  have l06 := AHeap.le_trans l03 l36
  unfold F13.B23
  refine pif_t (ints_one hc) (newK_f (by simpa using ints_one hc) fun H7 l7 n7 o7 => ?_)
  have hq : QR bm H7 (.slice (some ⟨H6.length, 0, none⟩) 1 (1 + 1)) [c] := by
    have hc6 := hc.le l03
    have := l36.1
    have := m6.lt
    refine QR.one o7 (by omega) (hc6.le (AHeap.le_trans l36 l7)) fun b hb => ?_
    have := hc6.bq_lt (by rw [hlen hC]; exact h1e) hb
    exact ⟨by omega, by omega, by omega⟩
  have m7 : StrM H7 bm ([c].map bytesOf) := m6.le l7
  unfold F13.L2
  refine ⟨fun x2 x7 x8 G => H.length = x2 ∧ .map (some bm) = x7 ∧ H3.le G ∧ (∀ b, bk x8 = some b → H3.length ≤ b) ∧ ∃ (i : Nat) (L : List (List Int)), CrI es c i L ∧ QR bm G x8 (L.drop i) ∧ StrM G bm (L.map bytesOf),
    fun _ x7 x8 G => 301 + lenV x8 - mapN G x7, ⟨rfl, rfl, AHeap.le_trans l36 l7, (fun b hb => by cases hb; exact l36.1), 0, [c], ⟨by simp, by simp, fun l hl => by rw [List.mem_singleton.1 hl]; exact hC, rfl⟩, hq, m7⟩, ?_⟩
  clear hq m7 o7 n7 l7 l06 m6 b6 l5 m4 n4 l4
  rintro x2 x7 x8o Go ⟨rfl, rfl, lG, hb8, i, L, hI, hQ, hM⟩
  have hiL := hI.hi; have hfew := hI.few
  have hmeas : 301 + lenV x8o - mapN Go (.map (some bm)) = 301 - i := by
    rw [hQ.lenV, hM.num, List.length_drop, List.length_map]; omega
  have l0G := AHeap.le_trans l03 lG
  have oG := o3.le lG
  unfold F13.B22
  refine hQ.len (pif_cases (fun hb => ?_) fun hb => ?_)
  rotate_left
  · unfold F13.B1
    refine mlen_str hM ?_
    rw [List.length_map]
    exact kS Go _ l0G (hI.done (by have := of_decide_eq_false hb; rw [List.length_drop] at this; omega))
  have hil : i < L.length := by have := of_decide_eq_true hb; rw [List.length_drop] at this; omega
  unfold F13.B21
  refine hQ.row (i := 0) (by rw [List.length_drop]; omega) fun w9 hw9 => ?_
  have e9 : (L.drop i).getD 0 [] = L.getD i [] := by simp [List.getD]
  rw [e9] at hw9
  have hci := hI.all.at hil
  unfold F13.B20
  refine ld1_own oG rfl (lengthE_ok (h.le l0G) (asI_mk ?_))
  unfold F13.L6
  refine ⟨fun x2 x7 x8 x9 x37 x38 G => H.length = x2 ∧ .map (some bm) = x7 ∧ w9 = x9 ∧ (es.length : Int) = x37 ∧ H3.le G ∧ (∀ b, bk x8 = some b → H3.length ≤ b) ∧ Iw bm x8 G w9 (L.getD i []) ∧ ∃ e : Nat, x38 = e ∧ e ≤ es.length ∧ QR bm G x8 ((crV es i L e).drop i) ∧ StrM G bm ((crV es i L e).map bytesOf),
    fun _ _ _ _ _ x38 _ => es.length - x38.toNat, ⟨rfl, rfl, rfl, rfl, lG, hb8, hw9, 0, rfl, by omega, hQ, hM⟩, ?_⟩
  clear lG hb8 hw9 hQ hM oG l0G hb
  rintro x2 x7 x8 x9 x37 x38 G ⟨rfl, rfl, rfl, rfl, lG, hb8, hw9, e, rfl, he, hQ, hM⟩
  have hN : (crV es i L e).length ≤ 1000 := by have := crV_len (es := es) i L e; omega
  obtain ⟨M0, hM0⟩ := crV_pre (es := es) i e L
  have hpre : i < (crV es i L e).length := by rw [hM0]; simp; omega
  unfold F13.B19
  refine pif_cases (fun hb => ?_) fun hb => ?_
  rotate_left
  · have hee : e = es.length := by have := of_decide_eq_false hb; omega
    subst hee
    unfold F13.B5
    refine mlen_str hM ?_
    rw [List.length_map]
    refine pif_cases (fun hb => ?_) fun hb => ?_
    · unfold F13.B4
      exact kN G (AHeap.le_trans l03 lG) (hI.over hil (by have := of_decide_eq_true hb; omega))
    · have hx : ¬ (crV es i L es.length).length > 300 := by have := of_decide_eq_false hb; omega
      unfold F13.B3
      refine hQ.tail2 (by rw [List.length_drop]; omega) fun v' hQ' hv' => ?_
      rw [List.drop_drop] at hQ'
      refine ⟨⟨rfl, rfl, lG, fun b hb => hb8 b (by rw [← hv']; exact hb), i + 1, _, hI.next hil hx, hQ', hM⟩, ?_⟩
      show 301 + lenV v' - mapN G (.map (some bm)) < 301 + lenV x8o - mapN Go (.map (some bm))
      rw [hmeas, hQ'.lenV, hM.num, List.length_drop, List.length_map]; omega
  have hel : e < es.length := by have := of_decide_eq_true hb; omega
  unfold F13.B18 F13.B17 F13.L8
  refine ⟨fun x2 x7 x8 x9 x10 x37 x38 x41 G => H.length = x2 ∧ .map (some bm) = x7 ∧ w9 = x9 ∧ (e : Int) = x10 ∧ (es.length : Int) = x37 ∧ (e : Int) = x38 ∧ H3.le G ∧ (∀ b, bk x8 = some b → H3.length ≤ b) ∧ Iw bm x8 G w9 (L.getD i []) ∧ ∃ b : Nat, x41 = b ∧ b ≤ 3 ∧ QR bm G x8 ((crB es i e (crV es i L e) b).drop i) ∧ StrM G bm ((crB es i e (crV es i L e) b).map bytesOf),
    fun _ _ _ _ _ _ _ x41 _ => 3 - x41.toNat, ⟨rfl, rfl, rfl, rfl, rfl, rfl, lG, hb8, hw9, 0, rfl, by omega, hQ, hM⟩, ?_⟩
  clear lG hb8 hw9 hQ hM hb
  rintro x2 x7 x8 x9 x10 x37 x38 x41 G ⟨rfl, rfl, rfl, rfl, rfl, rfl, lG, hb8, hw9, b, rfl, hb3', hQ, hM⟩
  unfold F13.B16
  refine pif_cases (fun hb => ?_) fun hb => ?_
  rotate_left
  · have hbe : b = 3 := by have := of_decide_eq_false hb; omega
    subst hbe
    unfold F13.B7
    rw [wrap_id (by omega) (by omega)]
    exact ⟨⟨rfl, rfl, rfl, rfl, lG, hb8, hw9, e + 1, by omega, by omega, hQ, hM⟩, by show es.length - ((e : Int) + 1).toNat < es.length - (e : Int).toNat; omega⟩
  have hbl : b < 3 := by have := of_decide_eq_true hb; omega
  obtain ⟨X, hX⟩ : ∃ X, X = crB es i e (crV es i L e) b := ⟨_, rfl⟩
  have hXN : X.length ≤ 1010 := by rw [hX]; have := crB_len (es := es) i e (crV es i L e) b; omega
  obtain ⟨M, hM'⟩ := crBV_pre (es := es) i e b L
  rw [← hX] at hQ hM hM'
  have hXi : X.getD i [] = L.getD i [] := by rw [hM']; exact pre_get hil
  have hiX : i < X.length := by rw [hM']; simp; omega
  have hXall : AllCol es X := by rw [hX]; exact crB_all hpre hel (crV_all hil hI.all _ (by omega)) _ (by omega)
  have hstep : crB es i e (crV es i L e) (b + 1) = crStep es i e b X := by rw [hX]; rfl
  have l0G := AHeap.le_trans l03 lG
  have oG := o3.le lG
  have next : ∀ x8 G, H3.le G → (∀ b, bk x8 = some b → H3.length ≤ b) → Iw bm x8 G w9 (L.getD i []) → QR bm G x8 ((crStep es i e b X).drop i) → StrM G bm ((crStep es i e b X).map bytesOf) → (H.length = H.length ∧ .map (some bm) = (.map (some bm) : Value) ∧ w9 = w9 ∧ (e : Int) = e ∧ (es.length : Int) = es.length ∧ (e : Int) = e ∧ H3.le G ∧ (∀ b, bk x8 = some b → H3.length ≤ b) ∧ Iw bm x8 G w9 (L.getD i []) ∧ ∃ b' : Nat, ((b : Int) + 1) = b' ∧ b' ≤ 3 ∧ QR bm G x8 ((crB es i e (crV es i L e) b').drop i) ∧ StrM G bm ((crB es i e (crV es i L e) b').map bytesOf)) ∧ 3 - ((b : Int) + 1).toNat < 3 - (b : Int).toNat :=
    fun x8 G h1 h2 h3 h4 h5 => ⟨⟨rfl, rfl, rfl, rfl, rfl, rfl, h1, h2, h3, b + 1, by omega, by omega, by rw [hstep]; exact h4, by rw [hstep]; exact h5⟩, by omega⟩
  unfold F13.B15 F13.B14
  refine hw9.1.rd (by omega) (by rw [hlen hci]; omega) ?_
  rw [Int.toNat_natCast]
  refine pif_cases (fun hs => ?_) fun hs => ?_
  · have hs := beq_iff_eq.1 hs
    have e1 : crStep es i e b X = X := by unfold crStep; rw [hXi, if_pos hs]
    unfold F13.B9
    rw [wrap_id (by omega) (by omega)]
    exact next _ G lG hb8 hw9 (by rw [e1]; exact hQ) (by rw [e1]; exact hM)
  have hs := beq_eq_false_iff_ne.1 hs
  obtain ⟨nx, hnx⟩ : ∃ nx, nx = exTo es (L.getD i []) e b es.length := ⟨_, rfl⟩
  have hnC : IsC es nx := by rw [hnx]; exact exTo_isC hci hel (by omega) hs
  have hmem : bytesOf nx ∈ X.map bytesOf ↔ nx ∈ X := by
    rw [List.mem_map]
    constructor
    · rintro ⟨l, hl, hh⟩
      rw [← bytesOf_inj (hby (hXall l hl)) (hby hnC) hh]; exact hl
    · exact fun hm => ⟨nx, hm, rfl⟩
  unfold F13.B13
  refine ldI_own oG rfl (ld1_own oG rfl (exchanged_ok (h.le l0G) hg hw9.1 hci hel (by omega) fun wn G1 l1' f1 => ?_))
  rw [← hnx] at f1
  have hbk : ∀ b, bk x8 = some b → b < G.length := fun b hb => by
    obtain ⟨vs, h1, _⟩ := hQ
    exact (h1.lt hb).2
  have hwn : Iw bm x8 G1 wn nx := fresh_iw f1 (by rw [hlen hnC]; exact h1e) (by have := hM.lt; omega) hbk
  unfold F13.B12
  refine key_ok f1.ints (by rw [hlen hnC]; omega) (hby hnC) fun G2 l2' => asS_mk ?_
  have l02 := AHeap.le_trans l1' l2'
  have hM2 := hM.le l02
  have hQ2 := hQ.le l02
  have hw2 := hw9.le l02
  have hwn2 := hwn.le l2'
  have lG2 := AHeap.le_trans lG l02
  refine lup_str hM2 (hsz hnC) fun q hq => asB_mk (pif_cases (fun hx => ?_) fun hx => ?_)
  · have hni : nx ∉ X := fun hm => by rw [hq.2 (hmem.2 hm)] at hx; cases hx
    have e1 : crStep es i e b X = X ++ [nx] := by unfold crStep; rw [hXi, if_neg hs, ← hnx, if_neg hni]
    unfold F13.B11
    refine key_ok hwn2.1 (by rw [hlen hnC]; omega) (hby hnC) fun G3 l3' => asS_mk (mup_str (hM2.le l3') (hsz hnC) (fun hm => hni (hmem.1 hm)) fun G4 b4 m4 => ?_)
    have lG4 : H3.le G4 := b4.le (AHeap.le_trans lG2 l3') (by omega)
    have hQ4 := (hQ2.le l3').but b4
    have hw4 := (hw2.le l3').but b4
    have hwn4 := (hwn2.le l3').but b4
    have hbm8 : bk x8 ≠ some bm := by obtain ⟨vs, _, _, g3, _⟩ := hQ; exact g3
    unfold F13.B10
    refine hQ4.push hwn4 m4.lt (by rw [List.length_drop]; omega) fun v' G5 ot len5 nb hQ5 => ?_
    unfold F13.B9
    rw [wrap_id (by omega) (by omega)]
    refine next v' G5 (oth_le ot len5 lG4 hb8) (fun b hb => by have := nb b hb; have := lG4.1; omega) (hw4.oth ot len5 nb) ?_ ?_
    · rw [e1, List.drop_append_of_le_length (by omega)]; exact hQ5
    · rw [e1, List.map_append]; exact m4.oth ot hbm8
  · have hni : nx ∈ X := hmem.1 (hq.1 (by simpa using hx))
    have e1 : crStep es i e b X = X := by unfold crStep; rw [hXi, if_neg hs, ← hnx, if_pos hni]
    unfold F13.B9
    rw [wrap_id (by omega) (by omega)]
    exact next _ G2 lG2 hb8 hw2 (by rw [e1]; exact hQ2) (by rw [e1]; exact hM2)
end Go.Proofs
/- The law of CountReached. -/
set_option linter.unusedVariables false
set_option linter.unusedSimpArgs false
set_option maxRecDepth 100000
namespace Go.Proofs
open Go.Abs

theorem countReached_law (H : AHeap) (vs : List Value) (hv : AVs T0 H [24, 25] vs) : AC Try.prog T0 3 vs H (fun v _ => v = .bool true) := by
  obtain ⟨v0, vs, rfl, a0, v1, vs, rfl, a1, rfl⟩ := hv
  obtain ⟨n0, ve0, es0, rfl, he0, hel0⟩ := av_graph a0
  obtain ⟨ls1, he1, hel1, _⟩ := av_ints a1
  apply F3.ac
  unfold F3.B18
  refine newK_f (all_iv (edges_one' he0)) fun H1 l1 n1 o1 => ?_
  have he0 := he0.le l1; have he1 := he1.le l1
  unfold F3.B17
  refine he1.len (pif_cases (fun _ => by unfold F3.B16; rfl) fun hs => ?_)
  have s1 : ls1.length ≤ 1048576 := by have := of_decide_eq_false hs; omega
  unfold F3.B15 F3.B14
  refine ldI_own o1 rfl (ld1_own o1 rfl (szGraph_ok he0 hel0 (by decide) (by decide) (edges_one' he0) fun H2 l2 => asI_mk ?_))
  have he0 := he0.le l2; have he1 := he1.le l2; have o1 := o1.le l2
  unfold F3.B13
  refine pif_cases (fun _ => by unfold F3.B12; rfl) fun hs => ?_
  have s0 : es0.length ≤ 1048576 := by
    have := of_decide_eq_false hs
    split at this <;> omega
  -- the reference
  unfold F3.B11
  refine ldI_own o1 rfl (ld1_own o1 rfl (toGraph_ok he0 (by omega) fun p0 H3 l3 fp0 => agg2_mk (asI_mk ?_)))
  have he0 := he0.le l3; have he1 := he1.le l3; have o1 := o1.le l3
  refine toInt64S_ok he1 (by omega) fun p1 H4 l4 fp1 => ?_
  have he0 := he0.le l4; have he1 := he1.le l4; have o1 := o1.le l4; have fp0 := fp0.le l4
  refine specReach_ok fp0.edges s0 fp1.ints s1 fun H5 l5 => tup2_mk (asI_mk (asI_mk ?_))
  have he0 := he0.le l5; have he1 := he1.le l5; have o1 := o1.le l5; have fp0 := fp0.le l5; have fp1 := fp1.le l5
  have he0_ := he0
  have he1_ := he1
  have o1_ := o1
  have cw := AHeap.le_refl H5
  -- the program
  unfold F3.B10
  refine ldI_own o1 rfl (ld1_own o1 rfl (toGraph_ok he0 (by omega) fun x0 H6 l6 f0 => agg2_mk (asI_mk ?_)))
  have e7 : x0.oneCell' = true := edges_one' f0.edges
  refine newK_f rfl fun H7 l7 n7 o0 => stK_f o0 (by simp) (mem_iv e7) rfl fun H8 b0 o9 => ?_
  have l8 : H5.le H8 := b0.le (AHeap.le_trans l6 l7) l6.1
  have fx0 : Fresh H5.length H8 x0 67 2 (LE es0) := by
    rcases f0 with f0 | ⟨c, k, q1, q2, q3, q4⟩
    · exact .inl f0
    · exact .inr ⟨c, k, q1, q2, b0.own (l7.2 _ _ q3) (by have := lt_of_get q3; omega), q4⟩
  have g0 : ∀ c k, x0 = .slice (some ⟨c, 0, none⟩) k (k + 1) → c < H8.length := fun c k e => (fx0.lt e).2
  have d0 := l8.1
  have he0 := he0.le l8; have he1 := he1.le l8; have o1 := o1.le l8
  have cw := AHeap.le_trans cw l8
  unfold F3.B9
  refine toInt64S_ok he1 (by omega) fun x1 H9 l9 fx1 => ?_
  have g1 : ∀ c k, x1 = .slice (some ⟨c, 0, none⟩) k (k + 1) → c < H9.length := fun c k e => (fx1.lt e).2
  have d1 := l9.1
  have he0 := he0.le l9; have he1 := he1.le l9; have o1 := o1.le l9; have o9 := o9.le l9; have fx0 := fx0.le l9
  have cw := AHeap.le_trans cw l9
  unfold F3.B8
  refine ldI_own o9 rfl (ld1_own o9 rfl (implReach_ok fx0.edges s0 fx1.ints s1 fun H10 l10 => tup2_mk (asI_mk (asI_mk ?_))))
  have dg := l10.1
  have he0 := he0.le l10; have he1 := he1.le l10; have o1 := o1.le l10; have o9 := o9.le l10; have fx0 := fx0.le l10; have fx1 := fx1.le l10
  have cw := AHeap.le_trans cw l10
  -- the same answer
  unfold F3.B7
  refine pif_f (by simp) (pif_f (by simp) ?_)
  unfold F3.B5
  refine ldI_own o9 rfl (ld1_own o9 rfl (ldI_own o1 rfl (ld1_own o1 rfl (toGraph_ok he0 (by omega) fun y0 H11 l11 fy => agg2_mk (asI_mk ⟨l11, eqGraph_ok (fx0.edges.le l11) fy.edges (by omega) fun H12 l12 => asB_mk (pif_f (by simp) ?_)⟩)))))
  have l12 := AHeap.le_trans l11 l12
  have he0 := he0.le l12; have he1 := he1.le l12; have o1 := o1.le l12; have o9 := o9.le l12; have fx0 := fx0.le l12; have fx1 := fx1.le l12
  have cw := AHeap.le_trans cw l12
  unfold F3.B3
  refine toInt64S_ok he1 (by omega) fun y1 H13 l13 fy => eqInt64S_ok (fx1.ints.le l13) fy.ints (by omega) (asB_mk (pif_f (by simp) ?_))
  have he0 := he0.le l13; have he1 := he1.le l13; have o1 := o1.le l13; have o9 := o9.le l13; have fx0 := fx0.le l13; have fx1 := fx1.le l13
  have cw := AHeap.le_trans cw l13
  unfold F3.B1
  rfl
end Go.Proofs
