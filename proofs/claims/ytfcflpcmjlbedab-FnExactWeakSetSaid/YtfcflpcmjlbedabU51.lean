/- Contracts: the painter. -/
import Derived.Test.YtfcflpcmjlbedabU9
import Derived.Test.YtfcflpcmjlbedabU12
import Derived.Test.YtfcflpcmjlbedabU27
import Derived.Test.YtfcflpcmjlbedabU10
import Derived.Test.YtfcflpcmjlbedabM14
set_option linter.unusedVariables false
set_option linter.unusedSimpArgs false
set_option maxRecDepth 100000
namespace Go.Proofs
open Go.Abs

variable {H G : AHeap} {v u f : Value} {l m c D : List Int} {es fs : List (Int × Int)} {K : Value → AHeap → Prop}

theorem nilK_mk {b o : Nat} {K : Value → Prop} (h : K (.pointer (some ⟨b, o, none⟩))) : nilK (.pointer (some ⟨b, o, none⟩)) K := h
theorem asTup_mk {xs : List Value} {K : List Value → Prop} (h : K xs) : asTup (.tuple ⟨xs⟩) K := h
/-- All but two blocks lives on. -/
structure Two (cb ub : Nat) (G G' : AHeap) : Prop where
  len : G.length ≤ G'.length
  old : ∀ (b : Nat) (o : AObj), b ≠ cb → b ≠ ub → G[b]? = some (some o) → G'[b]? = some (some o)
theorem Two.le {cb ub : Nat} {G G' : AHeap} (h : G.le G') : Two cb ub G G' := ⟨h.1, fun b o _ _ ho => h.2 b o ho⟩
theorem Two.trans {cb ub : Nat} {G G' G2 : AHeap} (h : Two cb ub G G') (k : Two cb ub G' G2) : Two cb ub G G2 := ⟨Nat.le_trans h.len k.len, fun b o h1 h2 ho => k.old b o h1 h2 (h.old b o h1 h2 ho)⟩
theorem Two.base {cb ub : Nat} {H0 G G' : AHeap} (h : Two cb ub G G') (h0 : H0.le G) (hc : H0.length ≤ cb) (hu : H0.length ≤ ub) : H0.le G' :=
  ⟨Nat.le_trans h0.1 h.len, fun b o ho => by have := lt_of_get ho; exact h.old b o (by omega) (by omega) (h0.2 b o ho)⟩
theorem Two.butC {cb ub : Nat} {G G' : AHeap} (h : But cb G G') : Two cb ub G G' := ⟨Nat.le_of_eq h.len.symm, fun b o h1 _ ho => by rw [h.same b h1]; exact ho⟩
theorem Two.butU {cb ub : Nat} {G G' : AHeap} (h : But ub G G') : Two cb ub G G' := ⟨Nat.le_of_eq h.len.symm, fun b o _ h1 ho => by rw [h.same b h1]; exact ho⟩
theorem Two.same {cb ub : Nat} {G G' : AHeap} {tc tu : TypeId} {xs ys : List Value} (h : Two cb ub G G') (c1 : Own G cb tc xs) (c2 : Own G' cb tc xs) (u1 : Own G ub tu ys) (u2 : Own G' ub tu ys) : G.le G' := by
  refine ⟨h.len, fun b o ho => ?_⟩
  by_cases e1 : b = cb
  · subst e1
    have := c1.symm.trans ho
    rw [← Option.some.inj (Option.some.inj this)]; exact c2
  · by_cases e2 : b = ub
    · subst e2
      have := u1.symm.trans ho
      rw [← Option.some.inj (Option.some.inj this)]; exact u2
    · exact h.old b o e1 e2 ho

theorem LUget2 {Z : List Nat} {i : Nat} (h : i < Z.length) : (LU Z)[i]? = some (.int .u64 (Z.getD i 0 : Nat)) := by simp [h]
def orAt (u : List Nat) (w x : Nat) : List Nat := u.set w (u.getD w 0 ||| 2 ^ x)
def offAtU (u : List Nat) (w x : Nat) : List Nat := u.set w (u.getD w 0 &&& (2 ^ 64 - (2 ^ x + 1)))
theorem off_or {s x : Nat} (hs : s < 2 ^ 64) (hx : x < 64) (hb : s.testBit x = false) : (s ||| 2 ^ x) &&& (2 ^ 64 - (2 ^ x + 1)) = s := by
  have px : 2 ^ x < 2 ^ 64 := Nat.pow_lt_pow_right (by decide) hx
  apply Nat.eq_of_testBit_eq
  intro j
  rw [Nat.testBit_and, Nat.testBit_or, Nat.testBit_two_pow_sub_succ px, Nat.testBit_two_pow]
  by_cases hj : j < 64
  · by_cases e : x = j
    · subst e; simp [hb]
    · simp [hj, e]
  · rw [testBit_big hs (by omega)]; simp [hj]
theorem getN_set_self {l : List Nat} {i x : Nat} (h : i < l.length) : (l.set i x).getD i 0 = x := by simp [List.getD, h]
theorem getN_set_ne {l : List Nat} {i j x : Nat} (h : i ≠ j) : (l.set i x).getD j 0 = l.getD j 0 := by simp [List.getD, List.getElem?_set, h]
theorem set_getN {l : List Nat} {i : Nat} (h : i < l.length) : l.set i (l.getD i 0) = l := by rw [getD_of h]; exact List.set_getElem_self h
/-- Given and taken away. -/
theorem give_take {u : List Nat} {a b x : Nat} (ha : a < u.length) (hb : b < u.length) (hab : a ≠ b) (hx : x < 64) (h1 : u.getD a 0 < 2 ^ 64) (h2 : u.getD b 0 < 2 ^ 64) (b1 : (u.getD a 0).testBit x = false) (b2 : (u.getD b 0).testBit x = false) :
    offAtU (offAtU (orAt (orAt u a x) b x) a x) b x = u := by
  unfold offAtU orAt
  have e1 : ((u.set a (u.getD a 0 ||| 2 ^ x)).getD b 0) = u.getD b 0 := getN_set_ne hab
  rw [e1]
  have e2 : (((u.set a (u.getD a 0 ||| 2 ^ x)).set b (u.getD b 0 ||| 2 ^ x)).getD a 0) = u.getD a 0 ||| 2 ^ x := by
    rw [getN_set_ne (fun e => hab e.symm), getN_set_self ha]
  rw [e2, off_or h1 hx b1]
  have e3 : ((((u.set a (u.getD a 0 ||| 2 ^ x)).set b (u.getD b 0 ||| 2 ^ x)).set a (u.getD a 0)).getD b 0) = u.getD b 0 ||| 2 ^ x := by
    rw [getN_set_ne hab, getN_set_self (by simpa using hb)]
  rw [e3, off_or h2 hx b2]
  rw [List.set_comm _ _ hab, List.set_set, List.set_comm _ _ (fun e => hab e.symm), List.set_set, set_getN ha, set_getN hb]
/-- The colours at the vertices. -/
def UsedOk (es : List (Int × Int)) (n : Nat) (c : List Int) (u : List Nat) : Prop := u.length = n ∧ ∀ w, w < n → u.getD w 0 < 2 ^ 64 ∧ ∀ k : Nat, (u.getD w 0).testBit k = true ↔ ∃ j, j < c.length ∧ c.getD j 0 = k ∧ on (es.getD j (0, 0)) w = true
theorem UsedOk.give {n : Nat} {c : List Int} {u : List Nat} {a b i x : Nat} (h : UsedOk es n c u) (hi : i < c.length) (hc : c.getD i 0 = -1) (he : es.getD i (0, 0) = ((a : Int), (b : Int))) (ha : a < n) (hb : b < n) (hab : a ≠ b) (hx : x < 64) : UsedOk es n (c.set i (x : Int)) (orAt (orAt u a x) b x) := by
  obtain ⟨h1, h2⟩ := h
  have px : 2 ^ x < 2 ^ 64 := Nat.pow_lt_pow_right (by decide) hx
  have hon : ∀ w : Nat, on (es.getD i (0, 0)) w = true ↔ a = w ∨ b = w := fun w => by
    rw [he]; unfold on; simp only [Bool.or_eq_true, beq_iff_eq]; omega
  have hget : ∀ w, w < n → (orAt (orAt u a x) b x).getD w 0 = if on (es.getD i (0, 0)) w = true then u.getD w 0 ||| 2 ^ x else u.getD w 0 := by
    intro w hw
    unfold orAt
    have e1 : ((u.set a (u.getD a 0 ||| 2 ^ x)).getD b 0) = u.getD b 0 := getN_set_ne hab
    rw [e1]
    by_cases e2 : b = w
    · subst e2
      rw [getN_set_self (by simp; omega), if_pos ((hon b).2 (.inr rfl))]
    · rw [getN_set_ne e2]
      by_cases e3 : a = w
      · subst e3
        rw [getN_set_self (by omega), if_pos ((hon a).2 (.inl rfl))]
      · rw [getN_set_ne e3, if_neg fun h => ((hon w).1 h).elim e3 e2]
  refine ⟨by simp [orAt, h1], fun w hw => ?_⟩
  rw [hget w hw]
  obtain ⟨g1, g2⟩ := h2 w hw
  refine ⟨by split; exact or_lt g1 px; exact g1, fun k => ?_⟩
  constructor
  · intro hk
    by_cases ho : on (es.getD i (0, 0)) w = true
    · rw [if_pos ho, Nat.testBit_or, Bool.or_eq_true, Nat.testBit_two_pow, decide_eq_true_iff] at hk
      rcases hk with hk | hk
      · obtain ⟨j, j1, j2, j3⟩ := (g2 k).1 hk
        have hne : i ≠ j := fun e => by subst e; omega
        exact ⟨j, by simpa using j1, by rw [getD_set_ne hne]; exact j2, j3⟩
      · exact ⟨i, by simpa using hi, by rw [getD_set_self hi]; omega, ho⟩
    · rw [if_neg ho] at hk
      obtain ⟨j, j1, j2, j3⟩ := (g2 k).1 hk
      have hne : i ≠ j := fun e => by subst e; omega
      exact ⟨j, by simpa using j1, by rw [getD_set_ne hne]; exact j2, j3⟩
  · rintro ⟨j, j1, j2, j3⟩
    by_cases e : i = j
    · subst e
      rw [getD_set_self hi] at j2
      rw [if_pos j3, Nat.testBit_or, Bool.or_eq_true, Nat.testBit_two_pow, decide_eq_true_iff]
      right; omega
    · rw [getD_set_ne e] at j2
      have := (g2 k).2 ⟨j, by simpa using j1, j2, j3⟩
      split
      · rw [Nat.testBit_or, this]; rfl
      · exact this
theorem used_clash {n : Nat} {c : List Int} {u : List Nat} {a b i x : Nat} (h : UsedOk es n c u) (he : es.getD i (0, 0) = ((a : Int), (b : Int))) (ha : a < n) (hb : b < n) : (u.getD a 0 ||| u.getD b 0).testBit x = clashB es c i (x : Int) := by
  obtain ⟨_, h2⟩ := h
  rw [Bool.eq_iff_iff, clashB_iff, Nat.testBit_or, Bool.or_eq_true, (h2 a ha).2, (h2 b hb).2]
  have hon : ∀ z : Int, on (es.getD i (0, 0)) z = true ↔ (a : Int) = z ∨ (b : Int) = z := fun z => by
    rw [he]; unfold on; simp only [Bool.or_eq_true, beq_iff_eq]
  constructor
  · rintro (⟨j, j1, j2, j3⟩ | ⟨j, j1, j2, j3⟩)
    · exact ⟨j, j1, j2, a, j3, (hon a).2 (.inl rfl)⟩
    · exact ⟨j, j1, j2, b, j3, (hon b).2 (.inr rfl)⟩
  · rintro ⟨j, j1, j2, z, z1, z2⟩
    rcases (hon z).1 z2 with rfl | rfl
    · exact .inl ⟨j, j1, j2, z1⟩
    · exact .inr ⟨j, j1, j2, z1⟩

section
variable {n : Int} {H0 : AHeap} {pb cb ub : Nat} {tP : TypeId} {qE fV : Value} {u : List Nat}
theorem give_ok {i x : Nat} (hg : IsG n es) (he : Edges H0 v es) (h0 : H0.le G) (hcb : H0.length ≤ cb) (hub : H0.length ≤ ub) (hne : cb ≠ ub) (hp1 : pb ≠ cb) (hp2 : pb ≠ ub) (oP : Own G pb tP [.int .i64 n, v, qE, .slice (some ⟨cb, 0, none⟩) es.length (es.length + 1), .slice (some ⟨ub, 0, none⟩) n.toNat (n.toNat + 1), fV])
    (oc : Own G cb 2 (LI c)) (ou : Own G ub 72 (LU u)) (hcl : c.length = es.length) (hul : u.length = n.toNat) (hu64 : ∀ w, w < n.toNat → u.getD w 0 < 2 ^ 64) (hi : i < es.length) (hx : x < 64)
    (k : ∀ G', Two cb ub G G' → Own G' cb 2 (LI (c.set i (x : Int))) → Own G' ub 72 (LU (orAt (orAt u (es.getD i (0, 0)).1.toNat x) (es.getD i (0, 0)).2.toNat x)) → K (.tuple ⟨[]⟩) G') :
    AC Try.prog T0 177 [.pointer (some ⟨pb, 0, none⟩), .int .i64 (i : Nat), .int .i64 (x : Nat)] G K := by
  obtain ⟨d1, d2, d3, d4, d5⟩ := hg.ed.ends es[i] (List.getElem_mem hi)
  rw [← getD_of (d := (0, 0)) hi] at d1 d2 d3 d4 d5
  have px : 2 ^ x < 2 ^ 64 := Nat.pow_lt_pow_right (by decide) hx
  apply F177.ac
  unfold F177.B7
  refine nilK_mk (asP_mk (ld1_own oP rfl (own_idx (by omega) (by omega) (stK_1 oc (by simp; omega) rfl fun G1 b1 oc1 => ?_))))
  rw [Int.toNat_natCast, ← List.map_set] at oc1
  have t1 : Two cb ub G G1 := .butC b1
  have oP1 := b1.own oP hp1
  have ou1 := b1.own ou (fun e => hne e.symm)
  unfold F177.B6
  obtain ⟨bb, oo, hk, c1, c2⟩ := (he.le (t1.base h0 hcb hub)).idx (show (0 : Int) ≤ i by omega) (by omega)
  simp only [Int.toNat_natCast] at c1 c2
  refine nilK_mk (asP_mk (ld1_own oP1 rfl (hk _ (ldI_mk c1 (ldI_mk c2 ?_)))))
  unfold F177.L1
  refine ⟨fun x0 x2 x22a x22b x23 G' => .pointer (some ⟨pb, 0, none⟩) = x0 ∧ ((x : Nat) : Int) = x2 ∧ (es.getD i (0, 0)).1 = x22a ∧ (es.getD i (0, 0)).2 = x22b ∧ Two cb ub G G' ∧ Own G' pb tP [.int .i64 n, v, qE, .slice (some ⟨cb, 0, none⟩) es.length (es.length + 1), .slice (some ⟨ub, 0, none⟩) n.toNat (n.toNat + 1), fV] ∧ Own G' cb 2 (LI (c.set i (x : Int))) ∧ ∃ (t : Nat) (u' : List Nat), x23 = t ∧ t ≤ 2 ∧ Own G' ub 72 (LU u') ∧ u'.length = n.toNat ∧ (∀ w, w < n.toNat → u'.getD w 0 < 2 ^ 64) ∧ u' = (if t = 0 then u else if t = 1 then orAt u (es.getD i (0, 0)).1.toNat x else orAt (orAt u (es.getD i (0, 0)).1.toNat x) (es.getD i (0, 0)).2.toNat x),
    fun _ _ _ _ x23 _ => 2 - x23.toNat, ⟨rfl, rfl, rfl, rfl, t1, oP1, oc1, 0, u, rfl, by omega, ou1, hul, hu64, rfl⟩, ?_⟩
  rintro x0 x2 x22a x22b x23 G2 ⟨rfl, rfl, rfl, rfl, t2, oP2, oc2, t, u', rfl, ht, ou2, hul', hu64', hue⟩
  unfold F177.B5
  refine pif_cases (fun hb => ?_) fun hb => ?_
  · have ht2 : t < 2 := by have := of_decide_eq_true hb; omega
    have hw : ∃ w : Nat, ([.int .i64 (es.getD i (0, 0)).1, .int .i64 (es.getD i (0, 0)).2] : List Value)[(t : Int).toNat * 1]? = some (.int .i64 (w : Nat)) ∧ w < n.toNat ∧ (t = 0 → w = (es.getD i (0, 0)).1.toNat) ∧ (t = 1 → w = (es.getD i (0, 0)).2.toNat) := by
      rcases (by omega : t = 0 ∨ t = 1) with rfl | rfl
      · exact ⟨(es.getD i (0, 0)).1.toNat, by rw [Int.toNat_of_nonneg d1]; rfl, by omega, fun _ => rfl, fun h => by omega⟩
      · exact ⟨(es.getD i (0, 0)).2.toNat, by rw [Int.toNat_of_nonneg d3]; rfl, by omega, fun h => by omega, fun _ => rfl⟩
    obtain ⟨w, hat, hwn, w0, w1⟩ := hw
    have huw := hu64' w hwn
    unfold F177.B4
    refine bndK_iff.2 ⟨by omega, by omega, ?_⟩
    unfold atK
    rw [hat]
    refine asI_mk ?_
    unfold F177.B3
    refine nilK_mk (asP_mk (ld1_own oP2 rfl (own_idx (by omega) (by omega) (ldI_own ou2 (by rw [Int.toNat_natCast]; exact LUget2 (by omega)) ⟨by omega, own_idx (by omega) (by omega) (stK_1 ou2 (by simp; omega) rfl fun G3 b3 o3 => ?_)⟩))))
    rw [one_shl (by omega) (by omega), Int.toNat_natCast, Int.toNat_natCast, bits_or huw px, show (Value.int .u64 (((u'.getD w 0 ||| 2 ^ x : Nat)) : Int)) = (fun z : Nat => Value.int .u64 (z : Int)) (u'.getD w 0 ||| 2 ^ x) from rfl, ← List.map_set] at o3
    unfold F177.B2
    rw [wrap_id (by omega) (by omega)]
    refine ⟨⟨rfl, rfl, rfl, rfl, t2.trans (.butU b3), b3.own oP2 hp2, b3.own oc2 hne, t + 1, _, by omega, by omega, o3, by simpa using hul', fun w' hw' => ?_, ?_⟩, by simp; omega⟩
    · by_cases e : w = w'
      · subst e; rw [getN_set_self (by omega)]; exact or_lt huw px
      · rw [getN_set_ne e]; exact hu64' w' hw'
    · rcases (by omega : t = 0 ∨ t = 1) with rfl | rfl
      · rw [if_neg (by omega), if_pos rfl, hue, if_pos rfl, w0 rfl]; rfl
      · rw [if_neg (by omega), if_neg (by omega), hue, if_neg (by omega), if_pos rfl, w1 rfl]; rfl
  · have ht2 : t = 2 := by have := of_decide_eq_false hb; omega
    subst ht2
    rw [if_neg (by omega), if_neg (by omega)] at hue
    rw [hue] at ou2
    exact k G2 t2 oc2 ou2
theorem take_ok {i x : Nat} (hg : IsG n es) (he : Edges H0 v es) (h0 : H0.le G) (hcb : H0.length ≤ cb) (hub : H0.length ≤ ub) (hne : cb ≠ ub) (hp1 : pb ≠ cb) (hp2 : pb ≠ ub) (oP : Own G pb tP [.int .i64 n, v, qE, .slice (some ⟨cb, 0, none⟩) es.length (es.length + 1), .slice (some ⟨ub, 0, none⟩) n.toNat (n.toNat + 1), fV])
    (oc : Own G cb 2 (LI c)) (ou : Own G ub 72 (LU u)) (hcl : c.length = es.length) (hul : u.length = n.toNat) (hu64 : ∀ w, w < n.toNat → u.getD w 0 < 2 ^ 64) (hi : i < es.length) (hx : x < 64) (hcx : c.getD i 0 = (x : Int))
    (k : ∀ G', Two cb ub G G' → Own G' cb 2 (LI (c.set i (-1))) → Own G' ub 72 (LU (offAtU (offAtU u (es.getD i (0, 0)).1.toNat x) (es.getD i (0, 0)).2.toNat x)) → K (.tuple ⟨[]⟩) G') :
    AC Try.prog T0 188 [.pointer (some ⟨pb, 0, none⟩), .int .i64 (i : Nat)] G K := by
  obtain ⟨d1, d2, d3, d4, d5⟩ := hg.ed.ends es[i] (List.getElem_mem hi)
  rw [← getD_of (d := (0, 0)) hi] at d1 d2 d3 d4 d5
  have px : 2 ^ x < 2 ^ 64 := Nat.pow_lt_pow_right (by decide) hx
  have oi := own_ints (c := es.length + 1) oc
  rw [hcl] at oi
  apply F188.ac
  unfold F188.B7
  obtain ⟨bb, oo, hk, c1, c2⟩ := (he.le h0).idx (show (0 : Int) ≤ i by omega) (by omega)
  simp only [Int.toNat_natCast] at c1 c2
  refine nilK_mk (asP_mk (ld1_own oP rfl (hk _ (ldI_mk c1 (ldI_mk c2 ?_)))))
  unfold F188.L2
  refine ⟨fun x0 x1 x13a x13b x14 G' => .pointer (some ⟨pb, 0, none⟩) = x0 ∧ ((i : Nat) : Int) = x1 ∧ (es.getD i (0, 0)).1 = x13a ∧ (es.getD i (0, 0)).2 = x13b ∧ Two cb ub G G' ∧ Own G' pb tP [.int .i64 n, v, qE, .slice (some ⟨cb, 0, none⟩) es.length (es.length + 1), .slice (some ⟨ub, 0, none⟩) n.toNat (n.toNat + 1), fV] ∧ Own G' cb 2 (LI c) ∧ ∃ (t : Nat) (u' : List Nat), x14 = t ∧ t ≤ 2 ∧ Own G' ub 72 (LU u') ∧ u'.length = n.toNat ∧ (∀ w, w < n.toNat → u'.getD w 0 < 2 ^ 64) ∧ u' = (if t = 0 then u else if t = 1 then offAtU u (es.getD i (0, 0)).1.toNat x else offAtU (offAtU u (es.getD i (0, 0)).1.toNat x) (es.getD i (0, 0)).2.toNat x),
    fun _ _ _ _ x14 _ => 2 - x14.toNat, ⟨rfl, rfl, rfl, rfl, .le (AHeap.le_refl _), oP, oc, 0, u, rfl, by omega, ou, hul, hu64, rfl⟩, ?_⟩
  clear oi
  rintro x0 x1 x13a x13b x14 G2 ⟨rfl, rfl, rfl, rfl, t2, oP2, oc2, t, u', rfl, ht, ou2, hul', hu64', hue⟩
  have oi := own_ints (c := es.length + 1) oc2
  rw [hcl] at oi
  unfold F188.B6
  refine pif_cases (fun hb => ?_) fun hb => ?_
  · have ht2 : t < 2 := by have := of_decide_eq_true hb; omega
    have hw : ∃ w : Nat, ([.int .i64 (es.getD i (0, 0)).1, .int .i64 (es.getD i (0, 0)).2] : List Value)[(t : Int).toNat * 1]? = some (.int .i64 (w : Nat)) ∧ w < n.toNat ∧ (t = 0 → w = (es.getD i (0, 0)).1.toNat) ∧ (t = 1 → w = (es.getD i (0, 0)).2.toNat) := by
      rcases (by omega : t = 0 ∨ t = 1) with rfl | rfl
      · exact ⟨(es.getD i (0, 0)).1.toNat, by rw [Int.toNat_of_nonneg d1]; rfl, by omega, fun _ => rfl, fun h => by omega⟩
      · exact ⟨(es.getD i (0, 0)).2.toNat, by rw [Int.toNat_of_nonneg d3]; rfl, by omega, fun h => by omega, fun _ => rfl⟩
    obtain ⟨w, hat, hwn, w0, w1⟩ := hw
    have huw := hu64' w hwn
    unfold F188.B5
    refine bndK_iff.2 ⟨by omega, by omega, ?_⟩
    unfold atK
    rw [hat]
    refine asI_mk ?_
    unfold F188.B4
    refine nilK_mk (asP_mk (ld1_own oP2 rfl (own_idx (by omega) (by omega) (ldI_own ou2 (by rw [Int.toNat_natCast]; exact LUget2 (by omega)) (nilK_mk (asP_mk (ld1_own oP2 rfl (oi.rd (by omega) (by omega) ?_))))))))
    rw [Int.toNat_natCast, hcx]
    refine ⟨by omega, own_idx (by omega) (by omega) (stK_1 ou2 (by simp; omega) rfl fun G3 b3 o3 => ?_)⟩
    have band : IntKind.u64.wrap ((BitVec.ofInt 64 ((u'.getD w 0 : Nat) : Int) &&& ~~~(BitVec.ofInt 64 ((2 ^ x : Nat) : Int))).toNat : Int) = ((u'.getD w 0 &&& (2 ^ 64 - (2 ^ x + 1)) : Nat) : Int) := by
      have hs' : u'.getD w 0 &&& (2 ^ 64 - (2 ^ x + 1)) < 2 ^ 64 := Nat.lt_of_le_of_lt Nat.and_le_left huw
      rw [bv_nat, bv_nat, BitVec.toNat_and, BitVec.toNat_not, BitVec.toNat_ofNat, BitVec.toNat_ofNat, Nat.mod_eq_of_lt huw, Nat.mod_eq_of_lt px, show 2 ^ 64 - 1 - 2 ^ x = 2 ^ 64 - (2 ^ x + 1) by omega, u64_nat hs']
    rw [one_shl (by omega) (by omega), Int.toNat_natCast, Int.toNat_natCast, band, show (Value.int .u64 (((u'.getD w 0 &&& (2 ^ 64 - (2 ^ x + 1)) : Nat)) : Int)) = (fun z : Nat => Value.int .u64 (z : Int)) (u'.getD w 0 &&& (2 ^ 64 - (2 ^ x + 1))) from rfl, ← List.map_set] at o3
    unfold F188.B3
    rw [wrap_id (by omega) (by omega)]
    refine ⟨⟨rfl, rfl, rfl, rfl, t2.trans (.butU b3), b3.own oP2 hp2, b3.own oc2 hne, t + 1, _, by omega, by omega, o3, by simpa using hul', fun w' hw' => ?_, ?_⟩, by simp; omega⟩
    · by_cases e : w = w'
      · subst e; rw [getN_set_self (by omega)]; exact Nat.lt_of_le_of_lt Nat.and_le_left huw
      · rw [getN_set_ne e]; exact hu64' w' hw'
    · rcases (by omega : t = 0 ∨ t = 1) with rfl | rfl
      · rw [if_neg (by omega), if_pos rfl, hue, if_pos rfl, w0 rfl]; rfl
      · rw [if_neg (by omega), if_neg (by omega), hue, if_neg (by omega), if_pos rfl, w1 rfl]; rfl
  · have ht2 : t = 2 := by have := of_decide_eq_false hb; omega
    subst ht2
    rw [if_neg (by omega), if_neg (by omega)] at hue
    rw [hue] at ou2
    unfold F188.B1
    refine nilK_mk (asP_mk (ld1_own oP2 rfl (own_idx (by omega) (by omega) (stK_1 oc2 (by simp; omega) rfl fun G3 b3 o3 => ?_))))
    rw [Int.toNat_natCast, ← List.map_set] at o3
    exact k G3 (t2.trans (.butC b3)) o3 (b3.own ou2 (fun e => hne e.symm))
end
end Go.Proofs
