/- Contracts: a function called with all matchings, in order. -/
import Derived.Test.YtfcflpcmjlbedaaDoorU37
import Derived.Test.YtfcflpcmjlbedaaDoorU6
set_option linter.unusedVariables false
set_option linter.unusedSimpArgs false
set_option maxRecDepth 100000
namespace Go.Proofs
open Go.Abs

variable {H G : AHeap}

/-- What is nobody's own lives on; what becomes somebody's own is new. -/
structure Fr (P : Nat → Prop) (G : AHeap) (P' : Nat → Prop) (G' : AHeap) : Prop where
  len : G.length ≤ G'.length
  own : ∀ b, P' b → P b ∨ G.length ≤ b
  old : ∀ (b : Nat) (o : AObj), ¬ P b → G[b]? = some (some o) → G'[b]? = some (some o)
theorem Fr.le {P : Nat → Prop} {G G' : AHeap} (h : G.le G') : Fr P G P G' := ⟨h.1, fun b hb => .inl hb, fun b o _ ho => h.2 b o ho⟩
theorem Fr.refl {P : Nat → Prop} {G : AHeap} : Fr P G P G := Fr.le (AHeap.le_refl _)
theorem Fr.trans {P P1 P2 : Nat → Prop} {G G1 G2 : AHeap} (h : Fr P G P1 G1) (k : Fr P1 G1 P2 G2) : Fr P G P2 G2 := by
  refine ⟨Nat.le_trans h.len k.len, fun b hb => ?_, fun b o hn ho => k.old b o (fun h1 => ?_) (h.old b o hn ho)⟩
  · rcases k.own b hb with h1 | h1
    · exact h.own b h1
    · exact .inr (Nat.le_trans h.len h1)
  · rcases h.own b h1 with h2 | h2
    · exact hn h2
    · have := lt_of_get ho; omega
theorem Fr.base {P P' : Nat → Prop} {H0 G G' : AHeap} (h : Fr P G P' G') (h0 : H0.le G) (hp : ∀ b, P b → H0.length ≤ b) : H0.le G' ∧ ∀ b, P' b → H0.length ≤ b := by
  refine ⟨⟨Nat.le_trans h0.1 h.len, fun b o ho => h.old b o (fun hb => ?_) (h0.2 b o ho)⟩, fun b hb => ?_⟩
  · have := hp b hb; have := lt_of_get ho; omega
  · rcases h.own b hb with h1 | h1
    · exact hp b h1
    · exact Nat.le_trans h0.1 h1
theorem Fr.sl {P P' : Nat → Prop} {G G' : AHeap} {m : Nat} {v : Value} {t : TypeId} {z : Nat} {cs : List Value} (h : Fr P G P' G') (hs : Sl m G v t z cs) (hn : ∀ b, bk v = some b → ¬ P b) : Sl m G' v t z cs := by
  rcases hs with hs | ⟨b, n, pre, post, h1, rfl, h3, h4⟩
  · exact .inl hs
  · exact .inr ⟨b, n, pre, post, h1, rfl, h.old b _ (hn b rfl) h3, h4⟩

abbrev mgrowV (a b c : Nat) : Value := .func (.func 52) ⟨[]⟩ ⟨[.pointer (some ⟨a, 0, none⟩), .pointer (some ⟨b, 0, none⟩), .pointer (some ⟨c, 0, none⟩)]⟩
theorem full_iff {s n : Nat} (hs : s < 2 ^ n) : s = 2 ^ n - 1 ↔ fv s n = n := by
  constructor
  · intro h
    subst h
    exact fv_eq (Nat.le_refl _) (fun j hj => by rw [Nat.testBit_two_pow_sub_one]; simpa using hj) fun h => absurd h (by omega)
  · intro h
    apply Nat.eq_of_testBit_eq
    intro j
    rw [Nat.testBit_two_pow_sub_one]
    by_cases hj : j < n
    · rw [fv_below (n := n) (by omega)]; simp [hj]
    · rw [Nat.testBit_lt_two_pow (Nat.lt_of_lt_of_le hs (Nat.pow_le_pow_right (by decide) (by omega)))]; simp [hj]
theorem left_pos {s n v : Nat} (hv : v < n) (h : s.testBit v = false) : 0 < left s n := by
  have := unseen_ins (S := fun j => s.testBit j) hv h
  unfold left; omega
theorem left_le (s n : Nat) : left s n ≤ n := unseen_le _ n

theorem mgrow_ok {n : Int} {v doV : Value} {es : List (Int × Int)} (hg : IsG n es) {cg c3 c5 : Nat} {tg t3 t5 : TypeId} {H0 B1 : AHeap} {Pv0 : Nat → Prop} {J : List (List Int) → (Nat → Prop) → AHeap → Prop} {q : List (List Int) → Bool} {T : List (List Int)} {N : Nat}
    (he : Edges H0 v es) (h01 : H0.le B1) (hP0 : ∀ b, Pv0 b → H0.length ≤ b) (hTab : Tab H0) (og : Own B1 cg tg [.int .i64 n, v]) (o3 : Own B1 c3 t3 [doV]) (o5 : Own B1 c5 t5 [mgrowV cg c3 c5]) (ng : ¬ Pv0 cg) (n3 : ¬ Pv0 c3) (n5 : ¬ Pv0 c5)
    (hle : ∀ done Pv G G2, J done Pv G → G.le G2 → J done Pv G2) (hltP : ∀ done Pv G b, J done Pv G → Pv b → b < G.length)
    (hdo : ∀ done Pv l G, J done Pv G → Fr Pv0 B1 Pv G → l ∈ T → done.length < N → ∀ K : Value → AHeap → Prop, (∀ G' Pv', J (done ++ [l]) Pv' G' → Fr Pv G Pv' G' → K (.bool (q (done ++ [l]))) G') → callV Tryd.prog T0 doV [.int .u64 (setN l : Nat)] G K) :
    ∀ (k s : Nat) (pre : List Int) (done : List (List Int)) (Pv : Nat → Prop) (G : AHeap) (K : Value → AHeap → Prop), s < 2 ^ n.toNat → left s n.toNat ≤ 2 * k → (∀ x ∈ pre, 0 ≤ x ∧ x < 64) → (∀ l ∈ matL es n.toNat k s, pre ++ l ∈ T) → done.length + (matL es n.toNat k s).length ≤ N → J done Pv G → Fr Pv0 B1 Pv G →
      (∀ G' Pv', J (done ++ upToD q done ((matL es n.toNat k s).map (pre ++ ·))) Pv' G' → Fr Pv G Pv' G' → K (.bool (anyD q done ((matL es n.toNat k s).map (pre ++ ·)))) G') →
      AC Tryd.prog T0 52 [.int .u64 (setN pre : Nat), .int .u64 (s : Nat), .pointer (some ⟨cg, 0, none⟩), .pointer (some ⟨c3, 0, none⟩), .pointer (some ⟨c5, 0, none⟩)] G K := by
  have n0 := hg.ed.lo; have n1 := hg.ed.hi
  have h30 : es.length ≤ 30 := by have := hg.ed.len; omega
  have hn64 : 2 ^ n.toNat ≤ 2 ^ 20 := Nat.pow_le_pow_right (by decide) (by omega)
  have p20 : 2 ^ 20 < 2 ^ 64 := by decide
  have hw1 : ∀ K : Int → Prop, K ((2 ^ n.toNat - 1 : Nat) : Int) → K (IntKind.u64.wrap ((IntKind.u64.wrap (1 * 2 ^ (min n.toNat 64))) - 1)) := by
    intro K k
    have e1 : IntKind.u64.wrap (1 * 2 ^ (min n.toNat 64)) = ((2 ^ n.toNat : Nat) : Int) := one_shl (i := n) (by omega) (by omega)
    have e2 : IntKind.u64.wrap (((2 ^ n.toNat : Nat) : Int) - 1) = ((2 ^ n.toNat - 1 : Nat) : Int) := by
      have := Nat.two_pow_pos n.toNat
      rw [show ((2 ^ n.toNat : Nat) : Int) - 1 = ((2 ^ n.toNat - 1 : Nat) : Int) by omega, u64_nat (by omega)]
    rw [e1, e2]; exact k
  have full : ∀ (k s : Nat) (pre : List Int) (done : List (List Int)) (Pv : Nat → Prop) (G : AHeap) (K : Value → AHeap → Prop), fv s n.toNat = n.toNat → (∀ l ∈ matL es n.toNat k s, pre ++ l ∈ T) → done.length + (matL es n.toNat k s).length ≤ N → J done Pv G → Fr Pv0 B1 Pv G →
      (∀ G' Pv', J (done ++ upToD q done ((matL es n.toNat k s).map (pre ++ ·))) Pv' G' → Fr Pv G Pv' G' → K (.bool (anyD q done ((matL es n.toNat k s).map (pre ++ ·)))) G') → F52.B11 K (setN pre : Nat) (.pointer (some ⟨c3, 0, none⟩)) G := by
    intro k s pre done Pv G K hfu hT hN hJ hF kk
    rw [matL_end hfu] at hT hN kk
    have hp : pre ∈ T := by have := hT [] (by simp); simpa using this
    unfold F52.B11
    refine asP_mk (ld1_own (hF.old _ _ n3 o3) rfl (hdo done Pv pre G hJ hF hp (by simp at hN; omega) _ fun G' Pv' hJ' hF' => asB_mk ?_))
    have kk := kk G' Pv'
    have e1 : upToD q done ([[]].map (pre ++ ·)) = [pre] := by simp [upToD]
    have e2 : anyD q done ([[]].map (pre ++ ·)) = q (done ++ [pre]) := by simp [anyD]
    rw [e1, e2] at kk
    exact kk hJ' hF'
  intro k
  induction k with
  | zero =>
    intro s pre done Pv G K hs hl hpre hT hN hJ hF kk
    have hfu : fv s n.toNat = n.toNat := by
      have := fv_le s n.toNat
      rcases Nat.lt_or_ge (fv s n.toNat) n.toNat with h | h
      · have := left_pos h (fv_at h); omega
      · omega
    apply F52.ac
    unfold F52.B13 F52.B12
    refine asP_mk (ldI_own (hF.old _ _ ng og) rfl ⟨by omega, ?_⟩)
    refine hw1 (fun z => pif (((s : Nat) : Int) == z) _ _) ?_
    rw [← (full_iff hs).2 hfu]
    exact pif_t (by simp) (full 0 s pre done Pv G K hfu hT hN hJ hF kk)
  | succ k ih =>
    intro s pre done Pv G K hs hl hpre hT hN hJ hF kk
    apply F52.ac
    unfold F52.B13 F52.B12
    have ogG := hF.old _ _ ng og
    refine asP_mk (ldI_own ogG rfl ⟨by omega, ?_⟩)
    refine hw1 (fun z => pif (((s : Nat) : Int) == z) _ _) ?_
    by_cases hfu : fv s n.toNat = n.toNat
    · rw [← (full_iff hs).2 hfu]
      exact pif_t (by simp) (full (k + 1) s pre done Pv G K hfu hT hN hJ hF kk)
    have hne : s ≠ 2 ^ n.toNat - 1 := fun e => hfu ((full_iff hs).1 e)
    refine pif_f (by rw [beq_eq_false_iff_ne]; omega) ?_
    have hlt : fv s n.toNat < n.toNat := by have := fv_le s n.toNat; omega
    have hs64 : s < 2 ^ 64 := by omega
    obtain ⟨w, hw⟩ : ∃ w, w = fv s n.toNat := ⟨_, rfl⟩
    have hwn : w < n.toNat := by omega
    have hwb : s.testBit w = false := by rw [hw]; exact fv_at hlt
    have hlow : ∀ j, j < w → s.testBit j = true := fun j hj => fv_below (n := n.toNat) (by omega)
    obtain ⟨h0G, hP0G⟩ := hF.base h01 hP0
    unfold F52.B10
    rw [show (18446744073709551615 : Int) = ((2 ^ 64 - 1 : Nat) : Int) from by decide, bits_xor (by decide) hs64]
    refine tz_ok (hTab.le h0G) (Nat.xor_lt_two_pow (by decide) hs64) (v := w) (by omega) ?_ (fun j hj => ?_) (asI_mk ?_)
    · rw [Nat.testBit_xor, Nat.testBit_two_pow_sub_one, hwb]; simp; omega
    · rw [Nat.testBit_xor, Nat.testBit_two_pow_sub_one, hlow j hj]; simp; omega
    unfold F52.B9
    refine asP_mk (ldI_own ogG rfl (ld1_own ogG rfl (at_ok (he.le h0G) (by omega) fun a GA lA hA => ?_)))
    have h3 := hg.three (v := (w : Int)) (by omega) (by omega)
    refine hA.len (by decide) (n := 3) (by rw [List.length_map, h3]) ?_
    have hto : matL es n.toNat (k + 1) s = matTo es n.toNat k s 3 := by rw [matL_to hlt, ← hw, h3]
    rw [hto] at hT hN kk
    have hJA := hle _ _ _ _ hJ lA
    have hap : ∀ b, bk a = some b → ¬ Pv b := fun b hb hp => by have := (hA.lt hb).1; have := hltP _ _ _ _ hJ hp; omega
    unfold F52.L2
    refine ⟨fun x0 x1 x2 x4 x8 x26 x27 x28 G' => ((setN pre : Nat) : Int) = x0 ∧ ((s : Nat) : Int) = x1 ∧ .pointer (some ⟨cg, 0, none⟩) = x2 ∧ .pointer (some ⟨c5, 0, none⟩) = x4 ∧ ((w : Nat) : Int) = x8 ∧ a = x26 ∧ 3 = x27 ∧ ∃ (t : Nat) (Pv' : Nat → Prop), x28 = t ∧ t ≤ 3 ∧ Fr Pv GA Pv' G' ∧ J (done ++ (matTo es n.toNat k s t).map (pre ++ ·)) Pv' G' ∧ anyD q done ((matTo es n.toNat k s t).map (pre ++ ·)) = false,
      fun _ _ _ _ _ _ _ x28 _ => 3 - x28.toNat, ⟨rfl, rfl, rfl, rfl, rfl, rfl, rfl, 0, Pv, rfl, by omega, .refl, by simpa [matTo] using hJA, by simp [matTo, anyD]⟩, ?_⟩
    rintro x0 x1 x2 x4 x8 x26 x27 x28 G1 ⟨rfl, rfl, rfl, rfl, rfl, rfl, rfl, t, Pv1, rfl, ht, hF1, hJ1, hno⟩
    have hFB : Fr Pv0 B1 Pv1 G1 := hF.trans ((Fr.le lA).trans hF1)
    obtain ⟨h0G1, hP1⟩ := hFB.base h01 hP0
    unfold F52.B8
    refine pif_cases (fun hb => ?_) fun hb => ?_
    · have ht3 : t < 3 := by have := of_decide_eq_true hb; omega
      obtain ⟨i, hi1, hi2, hi3⟩ := at_get (es := es) (w := (w : Int)) (t := t) (by omega)
      obtain ⟨d1, d2, d3, d4, d5⟩ := hg.ed.ends es[i] (List.getElem_mem hi2)
      rw [← getD_of (d := (0, 0)) hi2] at d1 d2 d3 d4 d5
      obtain ⟨y, hy⟩ : ∃ y : Nat, (es.getD i (0, 0)).1 + (es.getD i (0, 0)).2 - (w : Int) = y := ⟨((es.getD i (0, 0)).1 + (es.getD i (0, 0)).2 - (w : Int)).toNat, by rcases on_oth hi3 with e | e <;> omega⟩
      have hyn : y < n.toNat := by rcases on_oth hi3 with e | e <;> omega
      have hyo : othN es (i : Int) w = y := by unfold othN; rw [Int.toNat_natCast]; omega
      have hyw : y ≠ w := by
        unfold on at hi3
        simp only [Bool.or_eq_true, beq_iff_eq] at hi3
        omega
      have hsucc := matTo_succ (es := es) (n := n.toNat) (k := k) (s := s) (t := t) (by rw [← hw]; omega)
      rw [← hw, hi1, hyo] at hsucc
      have haG1 := hF1.sl hA hap
      unfold F52.B7
      refine haG1.ints.rd (by omega) (by omega) ?_
      rw [Int.toNat_natCast, hi1]
      unfold F52.B6
      obtain ⟨bb, oo, hk, c1, c2⟩ := (he.le h0G1).idx (show (0 : Int) ≤ i by omega) (by omega)
      simp only [Int.toNat_natCast] at c1 c2
      refine asP_mk (ld1_own (hFB.old _ _ ng og) rfl (hk _ (ldI_mk c1 (ldI_mk c2 (other_ok (e := es.getD i (0, 0)) (by omega) (by omega) (by omega) fun G2 l2 => asI_mk ?_)))))
      rw [hy]
      have hF2 : Fr Pv GA Pv1 G2 := hF1.trans (Fr.le l2)
      have hJ2 := hle _ _ _ _ hJ1 l2
      have hFB2 : Fr Pv0 B1 Pv1 G2 := hFB.trans (Fr.le l2)
      unfold F52.B5
      refine has_ok hs64 (by omega) (asB_mk ?_)
      rw [Int.toNat_natCast]
      refine pif_cases (fun hb => ?_) fun hb => ?_
      · have hyb : s.testBit y = false := by simpa using hb
        rw [if_neg (by rw [hyb]; decide)] at hsucc
        have pi : 2 ^ i < 2 ^ 64 := Nat.pow_lt_pow_right (by decide) (by omega)
        have pw : 2 ^ w < 2 ^ n.toNat := Nat.pow_lt_pow_right (by decide) hwn
        have py : 2 ^ y < 2 ^ n.toNat := Nat.pow_lt_pow_right (by decide) hyn
        have hs' : s ||| 2 ^ w ||| 2 ^ y < 2 ^ n.toNat := Nat.or_lt_two_pow (Nat.or_lt_two_pow hs pw) py
        refine asP_mk (ld1_own (hFB2.old _ _ n5 o5) rfl ⟨by omega, by omega, by omega, callV_mk ?_⟩)
        have sh : ∀ j : Nat, j < 64 → IntKind.u64.wrap (1 * 2 ^ (min (Int.toNat (j : Int)) 64)) = ((2 ^ j : Nat) : Int) := fun j hj => by rw [one_shl (by omega) (by omega), Int.toNat_natCast]
        have sh' : IntKind.u64.wrap (1 * 2 ^ (min y 64)) = ((2 ^ y : Nat) : Int) := sh y (by omega)
        rw [sh i (by omega), sh w (by omega), sh', bits_or (setN_lt fun x hx => (hpre x hx).2) pi, bits_or hs64 (by omega), bits_or (or_lt hs64 (by omega)) (by omega), ← setN_snoc]
        have hmap : ((matL es n.toNat k (s ||| 2 ^ w ||| 2 ^ y)).map ((i : Int) :: ·)).map (pre ++ ·) = (matL es n.toNat k (s ||| 2 ^ w ||| 2 ^ y)).map ((pre ++ [(i : Int)]) ++ ·) := by
          rw [List.map_map]; exact List.map_congr_left fun l _ => by simp
        have hsm : (matTo es n.toNat k s (t + 1)).map (pre ++ ·) = (matTo es n.toNat k s t).map (pre ++ ·) ++ (matL es n.toNat k (s ||| 2 ^ w ||| 2 ^ y)).map ((pre ++ [(i : Int)]) ++ ·) := by
          rw [hsucc, List.map_append, hmap]
        have hall : ∃ rest, matTo es n.toNat k s 3 = matTo es n.toNat k s (t + 1) ++ rest := by
          unfold matTo
          rw [show (atL es (fv s n.toNat)).take 3 = (atL es (fv s n.toNat)).take (t + 1) ++ ((atL es (fv s n.toNat)).take 3).drop (t + 1) by
            conv => lhs; rw [← List.take_append_drop (t + 1) ((atL es (fv s n.toNat)).take 3)]
            rw [List.take_take, Nat.min_eq_left (by omega)], List.flatMap_append]
          exact ⟨_, rfl⟩
        obtain ⟨rest, hr⟩ := hall
        refine ih (s ||| 2 ^ w ||| 2 ^ y) (pre ++ [(i : Int)]) _ Pv1 G2 _ hs' (by have := left_two hwn hyn hwb hyb (fun e => hyw e.symm); omega) (fun x hx => ?_) (fun l hl' => ?_) ?_ hJ2 hFB2 fun G3 Pv3 hJ3 hF3 => asB_mk ?_
        · rcases List.mem_append.1 hx with hx | hx
          · exact hpre x hx
          · rw [List.mem_singleton] at hx; omega
        · have : (i : Int) :: l ∈ matTo es n.toNat k s 3 := by
            rw [hr, hsucc]
            exact List.mem_append_left _ (List.mem_append_right _ (List.mem_map.2 ⟨l, hl', rfl⟩))
          have := hT _ this
          simpa using this
        · have := congrArg List.length hr
          rw [hsucc] at this
          simp only [List.length_append, List.length_map] at this ⊢
          omega
        · refine pif_cases (fun hq => ?_) fun hq => ?_
          · unfold F52.B4
            have kk := kk G3 Pv3
            have hany : anyD q done ((matTo es n.toNat k s (t + 1)).map (pre ++ ·)) = true := by rw [hsm, anyD_app, hq]; simp
            rw [hr, List.map_append, anyD_app, hany, Bool.true_or, upToD_stop hany, hsm, upToD_app hno, ← List.append_assoc] at kk
            exact kk hJ3 ((Fr.le lA).trans (hF2.trans hF3))
          · unfold F52.B3
            rw [wrap_id (by omega) (by omega)]
            rw [upToD_all hq] at hJ3
            refine ⟨⟨rfl, rfl, rfl, rfl, rfl, rfl, rfl, t + 1, Pv3, by omega, by omega, hF2.trans hF3, ?_, ?_⟩, by simp; omega⟩
            · rw [hsm, ← List.append_assoc]; exact hJ3
            · rw [hsm, anyD_app, hno, hq]; rfl
      · have hyb : s.testBit y = true := by simpa using hb
        rw [if_pos hyb, List.append_nil] at hsucc
        unfold F52.B3
        rw [wrap_id (by omega) (by omega)]
        refine ⟨⟨rfl, rfl, rfl, rfl, rfl, rfl, rfl, t + 1, Pv1, by omega, by omega, hF2, ?_, ?_⟩, by simp; omega⟩
        · rw [hsucc]; exact hJ2
        · rw [hsucc]; exact hno
    · have ht3 : t = 3 := by have := of_decide_eq_false hb; omega
      subst ht3
      unfold F52.B1
      have kk := kk G1 Pv1
      rw [hno, upToD_all hno] at kk
      exact kk hJ1 ((Fr.le lA).trans hF1)
/-- All matchings. -/
def mats (n : Int) (es : List (Int × Int)) : List (List Int) := matL es n.toNat 10 0
theorem matchings_ok {n : Int} {v doV : Value} {es : List (Int × Int)} (hg : IsG n es) {H0 : AHeap} {Pv0 : Nat → Prop} {J : List (List Int) → (Nat → Prop) → AHeap → Prop} {q : List (List Int) → Bool} {K : Value → AHeap → Prop}
    (he : Edges H0 v es) (h0 : H0.le H) (hP0 : ∀ b, Pv0 b → H0.length ≤ b) (hTab : Tab H0) (hd : doV.oneCell' = true) (hJ : J [] Pv0 H)
    (hle : ∀ done Pv G G2, J done Pv G → G.le G2 → J done Pv G2) (hltP : ∀ done Pv G b, J done Pv G → Pv b → b < G.length)
    (hdo : ∀ done Pv l G, J done Pv G → Fr Pv0 H Pv G → l ∈ mats n es → done.length < (mats n es).length → ∀ K : Value → AHeap → Prop, (∀ G' Pv', J (done ++ [l]) Pv' G' → Fr Pv G Pv' G' → K (.bool (q (done ++ [l]))) G') → callV Tryd.prog T0 doV [.int .u64 (setN l : Nat)] G K)
    (k : ∀ G Pv, J (upToD q [] (mats n es)) Pv G → Fr Pv0 H Pv G → K (.bool (anyD q [] (mats n es))) G) :
    AC Tryd.prog T0 32 [.agg ⟨[.int .i64 n, v]⟩, doV] H K := by
  have n0 := hg.ed.lo; have n1 := hg.ed.hi
  apply F32.ac
  unfold F32.B4
  refine newK_f (all_iv (edges_one' he)) fun H1 l1 n1' o1 => pif_t hd (newK_f (by simpa using hd) fun H2 l2 n2 o2 => ?_)
  unfold F32.B3
  refine newK_f rfl fun H3 l3 n3 o3 => ?_
  unfold F32.B2
  refine stK_f o3 (by simp) (by simp [Value.oneCell']) rfl fun H4 b4 o4 => ?_
  have l34 : H2.le H4 := b4.le l3 (Nat.le_refl _)
  have l4 : H.le H4 := AHeap.le_trans (AHeap.le_trans l1 l2) l34
  have hlt := fun b hb => hltP _ _ _ b hJ hb
  unfold F32.B1
  refine ld1_own o4 rfl (callV_mk ?_)
  have e : (mats n es).map ([] ++ ·) = mats n es := by simp
  refine mgrow_ok hg (B1 := H4) (Pv0 := Pv0) (J := J) (q := q) (T := mats n es) (N := (mats n es).length) (doV := doV) he (AHeap.le_trans h0 l4) hP0 hTab (o1.le (AHeap.le_trans l2 l34)) (o2.le l34) o4 (fun h => by have := hlt _ h; omega) (fun h => by have := hlt _ h; omega) (fun h => by have := hlt _ h; omega) hle hltP
    (fun done Pv l G hJ hF hl hn K hK => hdo done Pv l G hJ ((Fr.le l4).trans hF) hl hn K hK) 10 0 [] [] Pv0 H4 _ (Nat.two_pow_pos _) (by have := left_le 0 n.toNat; omega) (fun x hx => by cases hx) (fun l hl => by rw [List.nil_append]; exact hl) (by simp [mats]) (hle _ _ _ _ hJ l4) .refl fun G Pv hG hF => asB_mk ?_
  rw [show matL es n.toNat 10 0 = mats n es from rfl, e] at hG ⊢
  exact k G Pv (by simpa using hG) ((Fr.le l4).trans hF)
end Go.Proofs
