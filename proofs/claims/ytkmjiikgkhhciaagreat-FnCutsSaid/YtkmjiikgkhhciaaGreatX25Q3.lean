/- Contracts and plain mathematics for a law, merged. -/
import Derived.Test.YtkmjiikgkhhciaaGreatX25Q2
/- Contracts: the draws of the law over cuts. -/
set_option linter.unusedVariables false
set_option linter.unusedSimpArgs false
set_option maxRecDepth 100000
namespace Go.Proofs
open Go.Abs

variable {H G G' Hb H0 : AHeap} {v u f w : Value} {l m D : List Int} {es fs : List (Int × Int)} {K : Value → AHeap → Prop} {bs : Nat} {n : Int}

/-- What a draw of a graph and a list gives. -/
def DrwL (H : AHeap) (K : Value → AHeap → Prop) : Prop := ∀ v n es w l G, H.le G → Sl H.length G v 78 2 (LE es) → Fresh H.length G w 2 1 (LI l) → es.length ≤ 2000 → l.length ≤ 3000 → -2 ≤ n → n ≤ 202 → K (.tuple ⟨[.agg ⟨[.int .i64 n, v]⟩, w]⟩) G
theorem drawLeaving_ok (hB : Byts H u l) (hl : l.length ≤ 4096) (k : DrwL H K) : AC Tryz.prog T0 23 [u] H K := by
  apply F23.ac
  unfold F23.B5
  refine newK_f rfl fun H1 l1 n1 o1 => ?_
  unfold F23.B4
  refine l01From_ok (hB.le l1) hl fun G1 g1 s1 => ?_
  have hs1 := s1.lt
  have hlt := o1.lt
  have ob1 := o1.le g1
  unfold F23.B3
  refine l01Draw_ok s1 fun v1 n1' es1 G3 k3 s3 f3 g3 => agg2_mk (asI_mk (newK_f rfl fun G4 l4 n4 o4 => stK_f (new := [.int .i64 n1', v1]) o4 (by simp) (mem_iv (fresh_one f3)) rfl fun G5 b5 o5 => ?_))
  have l5 : G3.le G5 := b5.le l4 (Nat.le_refl _)
  have h0 := g3.lo; have h1 := g3.hi; have hel := g3.len
  have k15 : Kb H1.length G1 G5 := k3.trans (.of_le l5)
  have f5 := f3.le l5
  have s5 := s3.le l5
  have hG3 := k3.len
  unfold F23.B2
  refine ldI_own o5 rfl (ldI_own o5 rfl (newK_f rfl fun G6 l6 n6 o6 => ?_))
  have hd2 : IntKind.i64.wrap (Int.tdiv n1' 2) = n1' / 2 := by rw [Int.tdiv_eq_ediv_of_nonneg (by omega), wrap_id (by omega) (by omega)]
  rw [hd2] at o6
  have hs5 := s5.lt
  refine l01Pick_ok (l := [2, n1' / 2]) (s5.le l6) (own_ints (l := [2, n1' / 2]) o6) (by simp) (by simp) (fun x hx => by simp at hx; omega) (fun G3 k3 => own_ints (l := [2, n1' / 2]) (k3.own o6 (by omega))) fun r' G7 k7 s7 hr => asI_mk ?_
  have k57 := (Kb.of_le l6).trans k7
  have o7 := k57.own o5 (by omega)
  have f7 := fresh_kb f5 k57 (by omega)
  have hG57 := k57.len
  refine ⟨ldI_own o7 rfl ⟨rfl, rfl⟩, l03DrawSet_ok s7 ⟨by omega, by omega⟩ fun w lw G8 k8 s8 fw hlw => ?_⟩
  have o8 := k8.own o7 (by omega)
  have f8 := fresh_kb f7 k8 (by omega)
  have k18 := (k15.trans k57).trans k8
  have hG8 := k8.len
  unfold F23.B1
  refine ldI_own o8 rfl (ld1_own o8 rfl (l01Bad_ok s8 (f8.sl.less (by omega)) g3 fun v2 n2 es2 G9 k9 s9 h9 _ c9 a0 a1 => agg2_mk (asI_mk ?_)))
  have fw9 := fresh_kb fw k9 (by omega)
  refine put_graph (K := fun v G => K (.tuple ⟨[v, w]⟩) G) ((k18.trans k9).own ob1 (by omega)) (AHeap.le_trans l1 s9.1) (Nat.le_refl _) h9 (by omega) fun G' b' lG eG => ?_
  exact k v2 n2 es2 w lw G' lG (eG.less (by omega)) ((fw9.but b' (by omega)).less (by omega)) c9 (by omega) a0 a1
theorem l03With_ok (hB : Byts H u l) (hl : l.length ≤ 4096) (k : DrwL H K) : AC Tryz.prog T0 102 [u] H K := by
  apply F102.ac
  unfold F102.B15
  refine newK_f rfl fun H1 l1 n1 o1 => ?_
  unfold F102.B14
  refine l01From_ok (hB.le l1) hl fun G1 g1 s1 => ?_
  have hs1 := s1.lt
  have hlt := o1.lt
  have ob1 := o1.le g1
  unfold F102.B13
  refine l01Draw_ok s1 fun v1 n1' es1 G3 k3 s3 f3 g3 => agg2_mk (asI_mk (newK_f rfl fun G4 l4 n4 o4 => stK_f (new := [.int .i64 n1', v1]) o4 (by simp) (mem_iv (fresh_one f3)) rfl fun G5 b5 o5 => ?_))
  have l5 : G3.le G5 := b5.le l4 (Nat.le_refl _)
  have h0 := g3.lo; have h1 := g3.hi; have hel := g3.len
  have k15 : Kb H1.length G1 G5 := k3.trans (.of_le l5)
  have f5 := f3.le l5
  have s5 := s3.le l5
  have hG3 := k3.len
  unfold F102.B12
  refine ld1_own o5 rfl (f5.edges.len (newK_f rfl fun G6 l6 n6 o6 => ?_))
  have hs5 := s5.lt
  refine l01Pick_ok (l := [1, 3, 5]) (s5.le l6) (own_ints (l := [1, 3, 5]) o6) (by simp) (by simp) (fun x hx => by simp at hx; omega) (fun G3 k3 => own_ints (l := [1, 3, 5]) (k3.own o6 (by omega))) fun r' G7 k7 s7 hr => asI_mk ?_
  have k57 := (Kb.of_le l6).trans k7
  have o7 := k57.own o5 (by omega)
  have f7 := fresh_kb f5 k57 (by omega)
  have hG57 := k57.len
  refine ⟨ld1_own o7 rfl ⟨rfl, rfl⟩, l03DrawSet_ok s7 ⟨by omega, by omega⟩ fun w lw G8 k8 s8 fw hlw => ?_⟩
  have o8 := k8.own o7 (by omega)
  have f8 := fresh_kb f7 k8 (by omega)
  have k18 := (k15.trans k57).trans k8
  have hG8 := k8.len
  -- the end
  have fin : ∀ G y ly, Kb H1.length G8 G → Src H1 H1.length G → Fresh (H1.length + 1) G y 2 1 (LI ly) → ly.length ≤ 3000 → F102.B1 K H.length (.pointer (some ⟨H1.length, 0, none⟩)) G3.length y G := by
    intro G y ly kG sG fy hly
    have oG := kG.own o8 (by omega)
    have fG := fresh_kb f8 kG (by omega)
    unfold F102.B1
    refine ldI_own oG rfl (ld1_own oG rfl (l01Bad_ok sG (fG.sl.less (by omega)) g3 fun v2 n2 es2 G9 k9 s9 h9 _ c9 a0 a1 => agg2_mk (asI_mk ?_)))
    have fw9 := fresh_kb fy k9 (by omega)
    refine put_graph (K := fun v G => K (.tuple ⟨[v, y]⟩) G) (((k18.trans kG).trans k9).own ob1 (by omega)) (AHeap.le_trans l1 s9.1) (Nat.le_refl _) h9 (by omega) fun G' b' lG eG => ?_
    exact k v2 n2 es2 y ly G' lG (eG.less (by omega)) ((fw9.but b' (by omega)).less (by omega)) c9 hly a0 a1
  unfold F102.B11
  refine l01Next_ok s8 fun q G9 k9 s9 q0 q1 _ => asI_mk (pif_cases (fun hb => ?_) fun hb => fin G9 w lw k9 s9 ((fresh_kb fw k9 (by omega)).less (by omega)) (by omega))
  unfold F102.B10
  refine newK_f rfl fun G10 l10 n10 o10 => ?_
  have k810 := k9.trans (.of_le l10)
  have o10' := k810.own o8 (by omega)
  have f10 := fresh_kb f8 k810 (by omega)
  have hG9 := k9.len
  unfold F102.B9
  refine ldI_own o10' rfl (ld1_own o10' rfl (ldI_own o10' rfl (l01Next_ok (s9.le l10) fun a G11 k11 s11 a0 a1 _ => asI_mk ?_)))
  have han := a1 (by omega)
  have o11 := k11.own o10' (by omega)
  have f11 := fresh_kb f10 k11 (by omega)
  have hG10 := l10.1
  have hG11 := k11.len
  refine ⟨ldI_own o11 rfl (ld1_own o11 rfl ⟨rfl, rfl⟩), l01Far_ok f11.edges g3.rng ⟨by omega, by omega⟩ (by omega) ⟨a0, han⟩ fun x8 D G12 l12 f12 hD => ?_⟩
  refine l01Next_ok (s11.le l12) fun mo G13 k13 s13 m0 m1 _ => asI_mk ?_
  have hmo := m1 (by decide)
  have k1213 := (k11.trans (.of_le l12)).trans k13
  have x7o := k1213.own o10 (by omega)
  have f13 := fresh_kb f12 k13 (by omega)
  have hG12 := l12.1
  have hG13 := k13.len
  obtain ⟨P, hP⟩ : ∃ P : Nat → Bool, P = fun j => decide (0 ≤ D.getD j 0 ∧ D.getD j 0 ≤ mo) := ⟨_, rfl⟩
  unfold F102.B8 F102.L3
  refine ⟨fun x2 x4 x5 x7 y8 x9 x10 G => H.length = x2 ∧ .pointer (some ⟨H1.length, 0, none⟩) = x4 ∧ G3.length = x5 ∧ x8 = y8 ∧ mo = x9 ∧ Kb H1.length G8 G ∧ Src H1 H1.length G ∧ Fresh G11.length G x8 2 1 (LI D) ∧ (∀ b, bk x8 = some b → bk x7 ≠ some b) ∧ ∃ i : Nat, x10 = i ∧ i ≤ n1'.toNat ∧ Fresh G9.length G x7 2 1 (LI (filtB P i)), fun _ _ _ _ _ _ x10 _ => n1'.toNat - x10.toNat,
    ⟨rfl, rfl, rfl, rfl, rfl, k810.trans k1213, s13, f13, fun b hb hb' => ?_, 0, rfl, by omega, .inr ⟨_, 0, Nat.le_refl _, rfl, x7o, rfl⟩⟩, ?_⟩
  · have := (f13.bk_lt hb).1
    have : G9.length = b := Option.some.inj hb'
    omega
  rintro x2 x4 x5 x7 y8 x9 x10 G ⟨rfl, rfl, rfl, rfl, rfl, kG, sG, fD, hne, i, rfl, hi, hF⟩
  have oG := kG.own o8 (by omega)
  have hGl := kG.len
  have hfl := filtB_length P i
  unfold F102.B7
  refine ldI_own oG rfl (pif_cases (fun hb => ?_) fun hb => ?_)
  · have hlt : i < n1'.toNat := by have := of_decide_eq_true hb; omega
    unfold F102.B6
    refine fD.ints.rd (by omega) (by omega) (l01In_ok (asB_mk ?_))
    rw [Int.toNat_natCast, show decide (0 ≤ D.getD i 0 ∧ D.getD i 0 ≤ mo) = P i by rw [hP]]
    refine pif_cases (fun hc => ?_) fun hc => ?_
    · unfold F102.B5
      have h9 : G9.length ≤ G.length := by
        have := (fD.sl)
        have hh := sG.lt
        have := kG.len
        rcases hF with ⟨_, _⟩ | ⟨b, c, hb9, _, ob9, _⟩
        · rcases fD with ⟨e, _⟩ | ⟨b, c, hb9, _, ob9, _⟩
          · have := congrArg List.length e
            rw [List.length_map, List.length_nil] at this; omega
          · have := lt_of_get ob9; omega
        · have := lt_of_get ob9; omega
      refine hF.sl.pushN E_int (by decide) h9 (n := 1) (ys := [.int .i64 (i : Int)]) rfl rfl (by simp; omega) (by simp) fun v3 G4 k4 ot4 nb4 f4 => ?_
      unfold F102.B4
      rw [wrap_id (by omega) (by omega)]
      refine ⟨⟨rfl, rfl, rfl, rfl, rfl, kG.keep (k4.less (by omega)), sG.keep k4 (by omega), fresh_oth fD fun b o hb ho => ot4 b o (fun e => hne b hb e) ho, fun b hb hb' => by have := (fD.bk_lt hb).2; have := nb4 b hb'; omega, i + 1, by omega, by omega, ?_⟩, by simp; omega⟩
      rw [filtB_succ, hc]; simpa using f4
    · unfold F102.B4
      rw [wrap_id (by omega) (by omega)]
      refine ⟨⟨rfl, rfl, rfl, rfl, rfl, kG, sG, fD, hne, i + 1, by omega, by omega, ?_⟩, by simp; omega⟩
      rw [filtB_succ, hc]; simpa using hF
  · have hie : i = n1'.toNat := by have := of_decide_eq_false hb; omega
    subst hie
    have fG := fresh_kb f8 kG (by omega)
    have hS : IsS (filtB P n1'.toNat) n1' := asc_isS (filtB_asc _ _) fun x hx => by
      obtain ⟨j, rfl, hj, _⟩ := mem_filtB.1 hx; omega
    unfold F102.B2
    refine ldI_own oG rfl (ld1_own oG rfl (l03Leaving_ok fG.edges ⟨by omega, by omega⟩ (by omega) g3.rng hF.ints hS fun y G5 l5 f5 => ?_))
    have := leav_le es1 (filtB P n1'.toNat)
    exact fin G5 y _ (kG.trans (.of_le l5)) (sG.le l5) (f5.less (by omega)) (by omega)
/-- A draw handed on. -/
theorem with_tail {x2 : Nat} (k : DrwL H K) (l1 : H.le G) (hx : H.length ≤ x2) (o : Own G x2 26 [.int .i64 0, .slice none 0 0]) (hv : Sl (x2 + 1) G v 78 2 (LE es)) (hw : Fresh (x2 + 1) G w 2 1 (LI l)) (h1 : es.length ≤ 2000) (h2 : l.length ≤ 3000) (h3 : -2 ≤ n) (h4 : n ≤ 202) :
    stK G x2 0 [.int .i64 n, v] (fun H3 => ldI .i64 H3 x2 0 (fun v4 => ld1 H3 x2 1 (fun v5 => K (.tuple ⟨[.agg ⟨[.int .i64 v4, v5]⟩, w]⟩) H3))) :=
  put_graph (K := fun v G => K (.tuple ⟨[v, w]⟩) G) o l1 hx hv (Nat.lt_succ_self _) fun G' b' lG eG => k v n es w l G' lG (eG.less (by omega)) ((hw.but b' (by omega)).less (by omega)) h1 h2 h3 h4
theorem drawSides_ok (hB : Byts H u l) (hl : l.length ≤ 4096) (k : DrwL H K) : AC Tryz.prog T0 26 [u] H K := by
  apply F26.ac
  unfold F26.B3
  refine newK_f rfl fun H1 l1 n1 o1 => ?_
  unfold F26.B2
  refine l03With_ok (hB.le l1) hl fun v2 n2 es2 w2 l2 G2 g2 h2 f2 c1 c2 c3 c4 => tup2_mk (agg2_mk (asI_mk (newK_f rfl fun G4 l4 n4 o4 => stK_f (new := [.int .i64 n2, v2]) o4 (by simp) (mem_iv (sl_one h2)) rfl fun G5 b5 o5 => ?_)))
  have l5 : G2.le G5 := b5.le l4 (Nat.le_refl _)
  unfold F26.B1
  refine ldI_own o5 rfl (ld1_own o5 rfl ?_)
  rw [n1] at h2 f2
  exact with_tail k (AHeap.le_trans (AHeap.le_trans l1 g2) l5) (Nat.le_refl _) ((o1.le g2).le l5) (h2.le l5) (f2.le l5) c1 c2 c3 c4
theorem drawCut_ok (hB : Byts H u l) (hl : l.length ≤ 4096) (k : DrwL H K) : AC Tryz.prog T0 34 [u] H K := by
  apply F34.ac
  unfold F34.B3
  refine newK_f rfl fun H1 l1 n1 o1 => ?_
  unfold F34.B2
  refine l03With_ok (hB.le l1) hl fun v2 n2 es2 w2 l2 G2 g2 h2 f2 c1 c2 c3 c4 => tup2_mk (agg2_mk (asI_mk (newK_f rfl fun G4 l4 n4 o4 => stK_f (new := [.int .i64 n2, v2]) o4 (by simp) (mem_iv (sl_one h2)) rfl fun G5 b5 o5 => ?_)))
  have l5 : G2.le G5 := b5.le l4 (Nat.le_refl _)
  unfold F34.B1
  refine ldI_own o5 rfl (ld1_own o5 rfl ?_)
  rw [n1] at h2 f2
  exact with_tail k (AHeap.le_trans (AHeap.le_trans l1 g2) l5) (Nat.le_refl _) ((o1.le g2).le l5) (h2.le l5) (f2.le l5) c1 c2 c3 c4
theorem drawCyclicCut_ok (hB : Byts H u l) (hl : l.length ≤ 4096) (k : DrwL H K) : AC Tryz.prog T0 37 [u] H K := by
  apply F37.ac
  unfold F37.B3
  refine newK_f rfl fun H1 l1 n1 o1 => ?_
  unfold F37.B2
  refine l03With_ok (hB.le l1) hl fun v2 n2 es2 w2 l2 G2 g2 h2 f2 c1 c2 c3 c4 => tup2_mk (agg2_mk (asI_mk (newK_f rfl fun G4 l4 n4 o4 => stK_f (new := [.int .i64 n2, v2]) o4 (by simp) (mem_iv (sl_one h2)) rfl fun G5 b5 o5 => ?_)))
  have l5 : G2.le G5 := b5.le l4 (Nat.le_refl _)
  unfold F37.B1
  refine ldI_own o5 rfl (ld1_own o5 rfl ?_)
  rw [n1] at h2 f2
  exact with_tail k (AHeap.le_trans (AHeap.le_trans l1 g2) l5) (Nat.le_refl _) ((o1.le g2).le l5) (h2.le l5) (f2.le l5) c1 c2 c3 c4
end Go.Proofs
/- Contracts: the laws' helpers that compare lists. -/
set_option linter.unusedVariables false
set_option linter.unusedSimpArgs false
set_option maxRecDepth 100000
namespace Go.Proofs
open Go.Abs

variable {H G : AHeap} {v u f : Value} {l m c D : List Int} {es fs : List (Int × Int)} {K : Value → AHeap → Prop} {n : Int}

theorem likeInts_ok (h : Ints H v l) (g : Ints H u l) (hl : l.length ≤ 1000000000) (k : K (.bool true) H) : AC Tryz.prog T0 11 [v, u] H K := by
  apply F11.ac
  unfold F11.B10 F11.B9
  refine h.len (g.len (pif_f (by simp) ?_))
  unfold F11.B7 F11.L2
  refine ⟨fun x0 x1 x5 G => v = x0 ∧ u = x1 ∧ H = G ∧ ∃ i : Nat, x5 = i ∧ i ≤ l.length, fun _ _ x5 _ => l.length - x5.toNat, ⟨rfl, rfl, rfl, 0, rfl, by omega⟩, ?_⟩
  rintro x0 x1 x5 G ⟨rfl, rfl, rfl, i, rfl, hi⟩
  unfold F11.B6
  refine h.len (pif_cases (fun hb => ?_) fun hb => ?_)
  · have hlt : i < l.length := by have := of_decide_eq_true hb; omega
    unfold F11.B5
    refine h.rd (by omega) (by omega) (g.rd (by omega) (by omega) (pif_f (by simp) ?_))
    unfold F11.B3
    rw [wrap_id (by omega) (by omega)]
    exact ⟨⟨rfl, rfl, rfl, i + 1, by omega, by omega⟩, by simp; omega⟩
  · unfold F11.B1
    exact k
theorem rows5_ok {A A' : Nat → Prop} {B B' : Nat} {ls : List (List Int)} (h : RowsF A B H v ls) (g : RowsF A' B' H u ls) (hl : ls.length ≤ 1000000000) (hr : ∀ l ∈ ls, l.length ≤ 1000000000) (k : K (.bool true) H) : AC Tryz.prog T0 15 [v, u] H K := by
  apply F15.ac
  unfold F15.B10 F15.B9
  refine h.len (g.len (pif_f (by simp) ?_))
  unfold F15.B7 F15.L2
  refine ⟨fun x0 x1 x5 G => v = x0 ∧ u = x1 ∧ H = G ∧ ∃ i : Nat, x5 = i ∧ i ≤ ls.length, fun _ _ x5 _ => ls.length - x5.toNat, ⟨rfl, rfl, rfl, 0, rfl, by omega⟩, ?_⟩
  rintro x0 x1 x5 G ⟨rfl, rfl, rfl, i, rfl, hi⟩
  unfold F15.B6
  refine h.len (pif_cases (fun hb => ?_) fun hb => ?_)
  · have hlt : i < ls.length := by have := of_decide_eq_true hb; omega
    have hm : (ls.getD i []).length ≤ 1000000000 := by rw [getD_of hlt]; exact hr _ (List.getElem_mem hlt)
    unfold F15.B5
    refine h.row hlt fun w fw => g.row hlt fun y fy => likeInts_ok fw.ints fy.ints hm (asB_mk (pif_f (by simp) ?_))
    unfold F15.B3
    rw [wrap_id (by omega) (by omega)]
    exact ⟨⟨rfl, rfl, rfl, i + 1, by omega, by omega⟩, by simp; omega⟩
  · unfold F15.B1
    exact k
theorem big_ok (h : Byts H v l) (k : K (.bool (decide ((l.length : Int) > 4096))) H) : AC Tryz.prog T0 7 [v] H K := by
  apply F7.ac
  unfold F7.B2 F7.B1
  exact h.len k
end Go.Proofs
/- The law over cuts. -/
set_option linter.unusedVariables false
set_option linter.unusedSimpArgs false
set_option maxRecDepth 100000
namespace Go.Proofs
open Go.Abs

variable {H G : AHeap} {v u f : Value} {l m c D : List Int} {es fs : List (Int × Int)} {n : Int}

abbrev QC1 : Value → AHeap → Prop := fun v _ => v = .bool true
theorem beq_self_t (b : Bool) : (b == b) = true := by cases b <;> rfl
theorem cuts_end {u : Value} (hB : Byts H u l) (hl : l.length ≤ 4096) : F4.B9 QC1 u H := by
  unfold F4.B9
  refine drawCut_ok hB hl fun v n es w la G lG hS fw c1 c2 _ _ => tup2_mk (agg2_mk (asI_mk (newK_f rfl fun H2 l2 n2 o2 => stK_f (new := [.int .i64 n, v]) o2 (by simp) (mem_iv (sl_one hS)) rfl fun H3 b3 o3 => ?_)))
  have l3 : G.le H3 := b3.le l2 (Nat.le_refl _)
  have hE := (sl_edges hS).le l3
  have hw := fw.ints.le l3
  have l03 := AHeap.le_trans lG l3
  unfold F4.B8
  refine ldI_own o3 rfl (ld1_own o3 rfl (implCut_ok hE (by omega) hw (by omega) fun H4 l4 => tup2_mk (asB_mk (asI_mk ?_))))
  have o4 := o3.le l4; have hE4 := hE.le l4; have hw4 := hw.le l4
  unfold F4.B7
  refine ldI_own o4 rfl (ld1_own o4 rfl (specCut_ok hE4 (by omega) hw4 (by omega) fun H5 l5 => tup2_mk (asB_mk (asI_mk ?_))))
  have o5 := o4.le l5; have hE5 := hE4.le l5; have hw5 := hw4.le l5
  unfold F4.B6
  refine ldI_own o5 rfl (ld1_own o5 rfl (implIsBond_ok hE5 (by omega) hw5 (by omega) fun H6 l6 => tup2_mk (asB_mk (asI_mk ?_))))
  have o6 := o5.le l6; have hE6 := hE5.le l6; have hw6 := hw5.le l6
  unfold F4.B5
  refine ldI_own o6 rfl (ld1_own o6 rfl (specIsBond_ok hE6 (by omega) hw6 (by omega) fun H7 l7 => tup2_mk (asB_mk (asI_mk ?_))))
  have l07 := AHeap.le_trans l03 (AHeap.le_trans l4 (AHeap.le_trans l5 (AHeap.le_trans l6 l7)))
  clear o3 o4 o5 o6 hE hE4 hE5 hE6 hw hw4 hw5 hw6
  unfold F4.B4
  refine drawCyclicCut_ok (hB.le l07) hl fun v2 n2 es2 w2 la2 G2 lG2 hS2 fw2 c3 c4 _ _ => tup2_mk (agg2_mk (asI_mk (newK_f rfl fun H8 l8 n8 o8 => stK_f (new := [.int .i64 n2, v2]) o8 (by simp) (mem_iv (sl_one hS2)) rfl fun H9 b9 o9 => ?_)))
  have l9 : G2.le H9 := b9.le l8 (Nat.le_refl _)
  have hE9 := (sl_edges hS2).le l9
  have hw9 := fw2.ints.le l9
  unfold F4.B3
  refine ldI_own o9 rfl (ld1_own o9 rfl (implCyclic_ok hE9 (by omega) hw9 (by omega) fun H10 l10 => tup2_mk (asB_mk (asI_mk ?_))))
  have o10 := o9.le l10; have hE10 := hE9.le l10; have hw10 := hw9.le l10
  unfold F4.B2
  refine ldI_own o10 rfl (ld1_own o10 rfl (specCyclic_ok hE10 (by omega) hw10 (by omega) fun H11 l11 => tup2_mk (asB_mk (asI_mk ?_))))
  unfold F4.B1
  refine pif_t (beq_self_eq_true _) (pif_t (beq_self_t _) (pif_t (beq_self_eq_true _) (pif_t (beq_self_t _) (pif_t (beq_self_eq_true _) ?_))))
  rw [beq_self_t]
theorem totTake (ls : List (List Int)) {i : Nat} (h : i < ls.length) : totL (ls.take (i + 1)) = totL (ls.take i) + (ls.getD i []).length := totL_take h
theorem cuts_sides {u : Value} (hB : Byts H u l) (hl : l.length ≤ 4096) : F4.B29 QC1 u H := by
  unfold F4.B29
  refine drawSides_ok hB hl fun v n es w la G lG hS fw c1 c2 _ _ => tup2_mk (agg2_mk (asI_mk (newK_f rfl fun H2 l2 n2 o2 => stK_f (new := [.int .i64 n, v]) o2 (by simp) (mem_iv (sl_one hS)) rfl fun H3 b3 o3 => ?_)))
  have l3 : G.le H3 := b3.le l2 (Nat.le_refl _)
  have hE := (sl_edges hS).le l3
  have hw := fw.ints.le l3
  have l03 := AHeap.le_trans lG l3
  unfold F4.B28
  refine ldI_own o3 rfl (ld1_own o3 rfl (implSides_ok hE (by omega) hw (by omega) fun x11 H4 l4 f4 => tup2_mk (asI_mk ?_)))
  have o4 := o3.le l4; have hE4 := hE.le l4; have hw4 := hw.le l4
  unfold F4.B27
  refine ldI_own o4 rfl (ld1_own o4 rfl (specSides_ok hE4 (by omega) hw4 (by omega) fun y H5 l5 f5 => tup2_mk (asI_mk ?_)))
  have o5 := o4.le l5; have hE5 := hE4.le l5; have hw5 := hw4.le l5
  have f45 := f4.le l5
  have l05 := AHeap.le_trans l03 (AHeap.le_trans l4 l5)
  clear o3 o4 hE hE4 hw hw4
  have sml : (sdList n es la).length ≤ 1000000000 ∧ ∀ r ∈ sdList n es la, r.length ≤ 1000000000 := by
    unfold sdList
    by_cases h0 : edCode n es la = 0
    · obtain ⟨hg, hS'⟩ := edCode_zero h0
      have := hg.ed.hi
      rw [if_pos h0]
      refine ⟨by have := sidesN_le (restL es (bitB la)) n.toNat; omega, fun r hr => ?_⟩
      obtain ⟨j, hj, rfl⟩ := List.getElem_of_mem hr
      have := side_length hj
      rw [getD_of hj] at this; omega
    · rw [if_neg h0]; exact ⟨by simp, fun r hr => by cases hr⟩
  unfold F4.B26
  refine pif_f (by simp) (rows5_ok f45 f5 sml.1 sml.2 (asB_mk (pif_f (by simp) ?_)))
  unfold F4.B24
  refine pif_cases (fun hb => ?_) fun hb => cuts_end (hB.le l05) hl
  have h0 : edCode n es la = 0 := beq_iff_eq.1 hb
  obtain ⟨hg, hIS⟩ := edCode_zero h0
  have n0 := hg.ed.lo; have n1 := hg.ed.hi
  obtain ⟨fs, hfs⟩ : ∃ fs, fs = restL es (bitB la) := ⟨_, rfl⟩
  have e1 : sdList n es la = sidesL fs n.toNat := by unfold sdList; rw [if_pos h0, hfs]
  have e2 : csA n es la = ((sidesL fs n.toNat).length : Nat) := by unfold csA; rw [if_pos h0, hfs]
  have e3 : csB n es la = (cycM fs n.toNat : Nat) := by unfold csB; rw [if_pos h0, hfs]
  have e4 : ctB n es la = cutB n.toNat es la := by unfold ctB; rw [if_pos h0]
  have e5 : cyB n es la = cyclicB n.toNat es la := by unfold cyB; rw [if_pos h0]
  have e6 : bondB n es la = decide (Bond n.toNat es la) := by unfold bondB; rw [if_pos h0]
  rw [e1] at f45
  clear f4 f5 sml e1
  unfold F4.B23
  refine ldI_own o5 rfl (ld1_own o5 rfl (implCount_ok hE5 (by omega) hw5 (by omega) fun H6 l6 => tup3_mk (asI_mk (asI_mk (asI_mk ?_)))))
  have o6 := o5.le l6; have hE6 := hE5.le l6; have hw6 := hw5.le l6
  unfold F4.B22
  refine ldI_own o6 rfl (ld1_own o6 rfl (specCount_ok hE6 (by omega) hw6 (by omega) fun H7 l7 => tup3_mk (asI_mk (asI_mk (asI_mk ?_)))))
  have o7 := o6.le l7; have hE7 := hE6.le l7; have hw7 := hw6.le l7
  unfold F4.B21
  refine ldI_own o7 rfl (ld1_own o7 rfl (implCut_ok hE7 (by omega) hw7 (by omega) fun H8 l8 => tup2_mk (asB_mk (asI_mk ?_))))
  have o8 := o7.le l8; have hE8 := hE7.le l8; have hw8 := hw7.le l8
  unfold F4.B20
  refine ldI_own o8 rfl (ld1_own o8 rfl (implIsBond_ok hE8 (by omega) hw8 (by omega) fun H9 l9 => tup2_mk (asB_mk (asI_mk ?_))))
  have o9 := o8.le l9; have hE9 := hE8.le l9; have hw9 := hw8.le l9
  unfold F4.B19
  refine ldI_own o9 rfl (ld1_own o9 rfl (implCyclic_ok hE9 (by omega) hw9 (by omega) fun H10 l10 => tup2_mk (asB_mk (asI_mk ?_))))
  have o10 := o9.le l10; have hE10 := hE9.le l10
  unfold F4.B18
  refine ldI_own o10 rfl (ld1_own o10 rfl (implParts_ok hE10 hg fun x27 H11 l11 f11 => tup2_mk (asI_mk ?_)))
  have o11 := o10.le l11
  have l511 := AHeap.le_trans l6 (AHeap.le_trans l7 (AHeap.le_trans l8 (AHeap.le_trans l9 (AHeap.le_trans l10 l11))))
  have fS := f45.le l511
  have l011 := AHeap.le_trans l05 l511
  rw [h0, e2, e3, e4, e5, e6]
  clear o5 o6 o7 o8 o9 o10 hE5 hE6 hE7 hE8 hE9 hE10 hw5 hw6 hw7 hw8 hw9 f45
  have hsn := sidesN_le fs n.toNat
  have htot : totL (sidesL fs n.toNat) = n.toNat := tot_sides fs n.toNat
  unfold F4.B17 F4.B16 F4.L12
  refine ⟨fun a0 a9 a11 a15 a16 a17 a18 a19 a20 a21 a22 a23 a24 a25 a26 a27 a28 a29 a30 G' => u = a0 ∧ G.length = a9 ∧ x11 = a11 ∧ (((sidesL fs n.toNat).length : Nat) : Int) = a15 ∧ ((cycM fs n.toNat : Nat) : Int) = a16 ∧ 0 = a17 ∧ (((sidesL fs n.toNat).length : Nat) : Int) = a18 ∧ ((cycM fs n.toNat : Nat) : Int) = a19 ∧ 0 = a20 ∧ cutB n.toNat es la = a21 ∧ 0 = a22 ∧ decide (Bond n.toNat es la) = a23 ∧ 0 = a24 ∧ cyclicB n.toNat es la = a25 ∧ 0 = a26 ∧ x27 = a27 ∧ 0 = a28 ∧ H11 = G' ∧ ∃ i : Nat, a30 = i ∧ i ≤ (sidesL fs n.toNat).length ∧ a29 = (totL ((sidesL fs n.toNat).take i) : Nat),
    fun _ _ _ _ _ _ _ _ _ _ _ _ _ _ _ _ _ _ a30 _ => (sidesL fs n.toNat).length - a30.toNat, ⟨rfl, rfl, rfl, rfl, rfl, rfl, rfl, rfl, rfl, rfl, rfl, rfl, rfl, rfl, rfl, rfl, rfl, rfl, 0, rfl, by omega, rfl⟩, ?_⟩
  rintro a0 a9 a11 a15 a16 a17 a18 a19 a20 a21 a22 a23 a24 a25 a26 a27 a28 a29 a30 G' ⟨rfl, rfl, rfl, rfl, rfl, rfl, rfl, rfl, rfl, rfl, rfl, rfl, rfl, rfl, rfl, rfl, rfl, rfl, i, rfl, hi, rfl⟩
  unfold F4.B15
  refine fS.len (pif_cases (fun hb => ?_) fun hb => ?_)
  · have hlt : i < (sidesL fs n.toNat).length := by have := of_decide_eq_true hb; omega
    have ht := totTake _ hlt
    have htl := totL_le (ls := sidesL fs n.toNat) (i + 1)
    unfold F4.B14
    refine fS.row hlt fun r fr => fr.ints.len ?_
    unfold F4.B13
    rw [wrap_id (by omega) (by omega), wrap_id (by omega) (by omega)]
    exact ⟨⟨rfl, rfl, rfl, rfl, rfl, rfl, rfl, rfl, rfl, rfl, rfl, rfl, rfl, rfl, rfl, rfl, rfl, rfl, i + 1, by omega, by omega, by omega⟩, by simp; omega⟩
  have hie : i = (sidesL fs n.toNat).length := by have := of_decide_eq_false hb; omega
  subst hie
  rw [List.take_length, htot]
  have hcyc := cyc_le_sides fs n.toNat
  have hcut : cutB n.toNat es la = decide ((((sidesL fs n.toNat).length : Nat) : Int) > (((sidesL es n.toNat).length : Nat) : Int)) := by
    unfold cutB; rw [← hfs, decide_eq_decide]; omega
  have hcy : cyclicB n.toNat es la = (decide (((cycM fs n.toNat : Nat) : Int) ≥ 2) && cutB n.toNat es la) := by
    unfold cyclicB; rw [← hfs]
    congr 1
    rw [decide_eq_decide]; omega
  unfold F4.B11
  refine pif_f (by simp) (pif_f (by simp) (pif_f (by simp) (pif_f rfl (pif_f rfl (pif_f rfl (pif_f rfl (pif_f rfl (fS.len (pif_f (by simp) (pif_f (decide_eq_false (by omega)) (ldI_own o11 rfl (pif_f ?_ (fS.len (f11.len (pif_f ?_ ?_)))))))))))))))
  · rw [bne_eq_false_iff_eq]; omega
  · rw [hcut, beq_self_t]; rfl
  have fin := cuts_end (hB.le l011) hl
  have last : pif (cutB n.toNat es la) (pif (!(cyclicB n.toNat es la == decide (((cycM fs n.toNat : Nat) : Int) ≥ 2))) (F4.B10 QC1 H11) (F4.B9 QC1 u H11)) (pif (!(cyclicB n.toNat es la == false)) (F4.B10 QC1 H11) (F4.B9 QC1 u H11)) := by
    refine pif_cases (fun hc => ?_) fun hc => ?_
    · rw [hcy, hc, Bool.and_true]
      exact pif_f (by rw [beq_self_t]; rfl) fin
    · rw [hcy, hc, Bool.and_false]
      exact pif_f rfl fin
  refine pif_cases (fun hd => ?_) fun hd => last
  have hbond := of_decide_eq_true hd
  have hc : cutB n.toNat es la = true := by
    unfold cutB; rw [decide_eq_true_iff]; have := hbond.1; omega
  exact pif_f (by rw [hc]; rfl) last
theorem fnCuts_law (H : AHeap) (vs : List Value) (hv : AVs T0 H [22] vs) : AC Tryz.prog T0 4 vs H (fun v _ => v = .bool true) := by
  obtain ⟨v0, vs, rfl, a0, rfl⟩ := hv
  obtain ⟨l, hB, hlen⟩ := av_bytes a0
  apply F4.ac
  unfold F4.B37 F4.B36
  refine big_ok hB (asB_mk (pif_cases (fun _ => by unfold F4.B35; rfl) fun hs => ?_))
  have hl : l.length ≤ 4096 := by have := of_decide_eq_false hs; omega
  unfold F4.B34
  refine drawLeaving_ok hB hl fun v n es w la G lG hS fw c1 c2 c3 c4 => tup2_mk (agg2_mk (asI_mk (newK_f rfl fun H2 l2 n2 o2 => stK_f (new := [.int .i64 n, v]) o2 (by simp) (mem_iv (sl_one hS)) rfl fun H3 b3 o3 => ?_)))
  have l3 : G.le H3 := b3.le l2 (Nat.le_refl _)
  have hE := (sl_edges hS).le l3
  have hw := fw.ints.le l3
  have l03 := AHeap.le_trans lG l3
  unfold F4.B33
  refine ldI_own o3 rfl (ld1_own o3 rfl (implLeaving_ok hE (by omega) hw (by omega) ⟨by omega, by omega⟩ fun x5 H4 l4 f4 => tup2_mk (asI_mk ?_)))
  have o4 := o3.le l4; have hE4 := hE.le l4; have hw4 := hw.le l4
  unfold F4.B32
  refine ldI_own o4 rfl (ld1_own o4 rfl (specLeaving_ok hE4 (by omega) hw4 (by omega) ⟨by omega, by omega⟩ fun y H5 l5 f5 => tup2_mk (asI_mk ?_)))
  have f45 := f4.le l5
  have hw5 := hw4.le l5
  have l05 := AHeap.le_trans l03 (AHeap.le_trans l4 l5)
  have hll : (lvList n es la).length ≤ 2000 := by
    unfold lvList
    split
    · have := leav_le es la; omega
    · simp
  unfold F4.B31
  refine pif_f (by simp) (likeInts_ok f45.ints f5.ints (by omega) (asB_mk (pif_f (by simp) (pif_cases (fun hb => ?_) fun hb => cuts_sides (hB.le l05) hl))))
  have h0 : lvCode n es la = 0 := beq_iff_eq.1 hb
  obtain ⟨hg, hIS⟩ := lvCode_zero h0
  have e1 : lvList n es la = leavL es la := by unfold lvList; rw [if_pos h0]
  rw [e1] at f45 hll
  have hp := leave_parity hg hIS
  refine f45.ints.len (hw5.len (pif_f ?_ (cuts_sides (hB.le l05) hl)))
  rw [wrap_id (by omega) (by omega), bne_eq_false_iff_eq]
  rw [Int.tmod_eq_emod]
  have h2 : (2 : Int) ∣ (((leavL es la).length : Int) - (la.length : Int)) := Int.dvd_of_emod_eq_zero hp
  simp [h2, hp]
end Go.Proofs
