/- Contracts: bonds, the reference's way. -/
import Derived.Test.YtfcflpcmjlbedabU28
import Derived.Test.YtfcflpcmjlbedabU17
import Derived.Test.YtfcflpcmjlbedabM9
set_option linter.unusedVariables false
set_option linter.unusedSimpArgs false
set_option maxRecDepth 100000
namespace Go.Proofs
open Go.Abs

variable {H G : AHeap} {v u f : Value} {l m c D : List Int} {es fs : List (Int × Int)} {K : Value → AHeap → Prop}

theorem selfs_sides {n : Nat} (h : Leads n fs D) : ∀ k, k ≤ n → selfs D k = (sidesTo fs n k).length
  | 0, _ => by simp [selfs, sidesTo]
  | k + 1, hk => by
    rw [sidesTo_succ, List.length_append, ← selfs_sides h k (by omega), selfs]
    have := h.self (a := k) (by omega)
    rw [← vLeadB_iff] at this
    by_cases hl : vLeadB fs k = true
    · rw [if_pos (this.2 hl), if_pos hl]; rfl
    · rw [if_neg fun h => hl (this.1 h), if_neg hl]; rfl

theorem l03Rest_ok {n : Int} (h : Edges H v es) (hl : es.length ≤ 1048576) (hc : Ints H u l) (hS : IsS l es.length)
    (k : ∀ v' G, H.le G → Fresh H.length G v' 100 2 (LE (restL es (bitB l))) → K v' G) : AC Try.prog T0 125 [.agg ⟨[.int .i64 n, v]⟩, u] H K := by
  have hll : l.length ≤ es.length := by rw [hS.filt]; exact filtB_length _ _
  have hasc : ∀ i j, i < j → j < l.length → l.getD i 0 < l.getD j 0 := by
    intro i j hij hj
    have := hS.asc
    unfold Asc at this
    rw [List.pairwise_iff_getElem] at this
    rw [getD_of hj, getD_of (by omega)]
    exact this i j (by omega) hj hij
  apply F125.ac
  unfold F125.B10
  refine newK_f (all_iv (edges_one' h)) fun H1 l1 _ o1 => ?_
  unfold F125.B9
  refine newK_f rfl fun H2 l2 _ o2 => ?_
  unfold F125.B8 F125.L2
  refine ⟨fun x1 x2 x5 x6 x7 G => u = x1 ∧ H.length = x2 ∧ H1.le G ∧ ∃ i t : Nat, x7 = i ∧ x6 = t ∧ i ≤ es.length ∧ t ≤ l.length ∧ (∀ j, j < t → l.getD j 0 < i) ∧ (∀ j, t ≤ j → j < l.length → (i : Int) ≤ l.getD j 0) ∧ Fresh H1.length G x5 100 2 (LE (restTo es (bitB l) i)),
    fun _ _ _ _ x7 _ => es.length - x7.toNat, ⟨rfl, rfl, l2, 0, 0, rfl, rfl, by omega, by omega, fun j hj => absurd hj (by omega), fun j _ hj => ?_, .inr ⟨_, 0, Nat.le_refl _, rfl, o2, rfl⟩⟩, ?_⟩
  · have := (hS j hj).1; omega
  rintro x1 x2 x5 x6 x7 G ⟨rfl, rfl, hG, i, t, rfl, rfl, hi, ht, hlo, hhi, hF⟩
  have lG := AHeap.le_trans l1 hG
  have oG := o1.le hG
  unfold F125.B7
  refine ld1_own oG rfl ((h.le lG).len (pif_cases (fun hb => ?_) fun hb => ?_))
  · have hil : i < es.length := by have := of_decide_eq_true hb; omega
    have hrl := restTo_length es (bitB l) i
    have put : bitB l i = false → (t < l.length → l.getD t 0 ≠ (i : Int)) → ∀ N2 : Value → Nat → Value → Int → Int → AHeap → Prop, (∀ v' G', H1.le G' → Fresh H1.length G' v' 100 2 (LE (restTo es (bitB l) (i + 1))) → N2 u H.length v' (t : Int) ((i : Int) + 1) G') → F125.B4 K N2 u H.length x5 (t : Int) (i : Int) G := by
      intro hb' _ N2 hN
      unfold F125.B4
      obtain ⟨b, o, hk, c1, c2⟩ := (h.le lG).idx (show (0 : Int) ≤ i by omega) (by omega)
      refine ld1_own oG rfl (hk _ (ldI_mk c1 (ldI_mk c2 ?_)))
      refine hF.sl.pushN E_edge (by decide) hG.1 (n := 1) (ys := [.int .i64 (es.getD (i : Int).toNat (0, 0)).1, .int .i64 (es.getD (i : Int).toNat (0, 0)).2]) rfl rfl (by rw [LE_length]; simp; omega) (by simp) fun v' G2 k2 _ _ f2 => ?_
      unfold F125.B3
      rw [wrap_id (by omega) (by omega)]
      refine hN v' G2 (k2.le hG (Nat.le_refl _)) ?_
      rw [restTo_succ, hb', LE_append]
      exact f2
    have hbit : ∀ b, (bitB l i = true ↔ b) → (b ↔ t < l.length ∧ l.getD t 0 = (i : Int)) := by
      intro b hb
      rw [← hb, bitB_mem hS]
      constructor
      · intro hm
        obtain ⟨j, hj, hje⟩ := List.getElem_of_mem hm
        rw [← getD_of (d := 0) hj] at hje
        rcases Nat.lt_trichotomy j t with h1 | h1 | h1
        · have := hlo j h1; omega
        · subst h1; exact ⟨hj, hje⟩
        · have := hasc t j h1 hj
          have := hhi t (Nat.le_refl _) (by omega)
          omega
      · rintro ⟨h1, h2⟩
        rw [← h2, getD_of h1]; exact List.getElem_mem h1
    have hbi := hbit _ Iff.rfl
    have nxt : (t < l.length → l.getD t 0 ≠ (i : Int)) → (∀ j, j < t → l.getD j 0 < ((i + 1 : Nat) : Int)) ∧ (∀ j, t ≤ j → j < l.length → ((i + 1 : Nat) : Int) ≤ l.getD j 0) := by
      intro hn
      refine ⟨fun j hj => by have := hlo j hj; omega, fun j h1 h2 => ?_⟩
      have a1 := hhi t (Nat.le_refl _) (by omega)
      have a2 := hn (by omega)
      by_cases e : t = j
      · subst e; omega
      · have := hasc t j (by omega) h2; omega
    unfold F125.B6
    refine (hc.le lG).len (pif_cases (fun hb => ?_) fun hb => ?_)
    · have htl : t < l.length := by have := of_decide_eq_true hb; omega
      refine (hc.le lG).rd (by omega) (by omega) ?_
      rw [Int.toNat_natCast]
      refine pif_cases (fun hs => ?_) fun hs => ?_
      · have he : l.getD t 0 = (i : Int) := beq_iff_eq.1 hs
        have hb' : bitB l i = true := hbi.2 ⟨htl, he⟩
        unfold F125.B5
        rw [wrap_id (by omega) (by omega)]
        unfold F125.B3
        rw [wrap_id (by omega) (by omega)]
        refine ⟨⟨rfl, rfl, hG, i + 1, t + 1, by omega, by omega, by omega, by omega, fun j hj => ?_, fun j h1 h2 => ?_, ?_⟩, by simp; omega⟩
        · by_cases e : j = t
          · subst e; omega
          · have := hlo j (by omega); omega
        · have := hasc t j (by omega) h2; omega
        · rw [restTo_succ, hb']; simpa using hF
      · have he : l.getD t 0 ≠ (i : Int) := fun e => by rw [e] at hs; simp at hs
        have hb' : bitB l i = false := by
          cases hx : bitB l i with
          | false => rfl
          | true => exact absurd (hbi.1 hx).2 he
        obtain ⟨p1, p2⟩ := nxt fun _ => he
        refine put hb' (fun _ => he) _ fun v' G' g1 g2 => ?_
        exact ⟨⟨rfl, rfl, g1, i + 1, t, by omega, rfl, by omega, ht, p1, p2, g2⟩, by simp; omega⟩
    · have htl : ¬ t < l.length := by have := of_decide_eq_false hb; omega
      have hb' : bitB l i = false := by
        cases hx : bitB l i with
        | false => rfl
        | true => exact absurd (hbi.1 hx).1 htl
      obtain ⟨p1, p2⟩ := nxt fun h => absurd h htl
      refine put hb' (fun h => absurd h htl) _ fun v' G' g1 g2 => ?_
      exact ⟨⟨rfl, rfl, g1, i + 1, t, by omega, rfl, by omega, ht, p1, p2, g2⟩, by simp; omega⟩
  · have hil : i = es.length := by have := of_decide_eq_false hb; omega
    subst hil
    unfold F125.B1
    exact k _ _ lG (hF.less l1.1)

theorem l03Bond_ok {n : Int} (h : Edges H v es) (hg : IsG n es) (hc : Ints H u l) (hS : IsS l es.length) (k : ∀ G, H.le G → K (.bool (decide (Bond n.toNat es l))) G) :
    AC Try.prog T0 82 [.agg ⟨[.int .i64 n, v]⟩, u] H K := by
  have n0 := hg.ed.lo; have n1 := hg.ed.hi
  have h30 : es.length ≤ 30 := by have := hg.ed.len; omega
  have hll : l.length ≤ es.length := by rw [hS.filt]; exact filtB_length _ _
  have hends : ∀ e ∈ es, 0 ≤ e.1 ∧ e.1 < n ∧ 0 ≤ e.2 ∧ e.2 < n := fun e he => by have := hg.ed.ends e he; omega
  have hfl : (restL es (bitB l)).length ≤ es.length := restTo_length _ _ _
  have hBond : ∀ b : Bool, (b = true ↔ Bond n.toNat es l) → ∀ G, H.le G → K (.bool b) G := fun b hb G hG => by
    have := k G hG
    rwa [show decide (Bond n.toNat es l) = b from (dec_eq hb).symm] at this
  apply F82.ac
  unfold F82.B16
  refine newK_f (all_iv (edges_one' h)) fun H1 l1 _ o1 => ?_
  unfold F82.B15
  refine ldI_own o1 rfl (ldI_own o1 rfl (ld1_own o1 rfl (l03Rest_ok (h.le l1) (by omega) (hc.le l1) hS fun w H2 l2 f2 => ⟨l2, ?_⟩)))
  have l12 := AHeap.le_trans l1 l2
  have o2 := o1.le l2
  obtain ⟨fs, hfs⟩ : ∃ fs, fs = restL es (bitB l) := ⟨_, rfl⟩
  rw [← hfs] at f2 hfl
  have hfends : ∀ e ∈ fs, 0 ≤ e.1 ∧ e.1 < n ∧ 0 ≤ e.2 ∧ e.2 < n := fun e he => hends e (restL_sub (by rw [hfs] at he; exact he))
  have hBd : Bond n.toNat es l ↔ (sidesL fs n.toNat).length = (sidesL es n.toNat).length + 1 ∧ ∀ x ∈ l, ¬ Rch (vAdj fs) (es.getD x.toNat (0, 0)).1.toNat (es.getD x.toNat (0, 0)).2.toNat := by rw [hfs]; exact Iff.rfl
  refine l01Leaders_ok f2.edges (by omega) (by omega) (by omega) hfends fun b0 D H3 l3 oD _ hD => ?_
  have hDl := hD.led.1
  have l13 := AHeap.le_trans l12 l3
  have o3 := o2.le l3
  unfold F82.B14 F82.L9
  refine ⟨fun x1 x2 x5 x6 x7 G => u = x1 ∧ H.length = x2 ∧ .slice (some ⟨b0, 0, none⟩) n.toNat (n.toNat + 1) = x5 ∧ H3 = G ∧ ∃ i : Nat, x7 = i ∧ i ≤ n.toNat ∧ x6 = selfs D i, fun _ _ _ _ x7 _ => n.toNat - x7.toNat, ⟨rfl, rfl, rfl, rfl, 0, rfl, by omega, rfl⟩, ?_⟩
  rintro x1 x2 x5 x6 x7 G ⟨rfl, rfl, rfl, rfl, i, rfl, hi, rfl⟩
  have hsl := selfs_le D i
  unfold F82.B13
  refine ldI_own o3 rfl (pif_cases (fun hb => ?_) fun hb => ?_)
  · have hin : i < n.toNat := by have := of_decide_eq_true hb; omega
    have oi := own_ints (c := n.toNat + 1) oD
    rw [hDl] at oi
    unfold F82.B12
    refine oi.rd (by omega) (by omega) ?_
    rw [Int.toNat_natCast]
    have hss : selfs D (i + 1) = selfs D i + if D.getD i 0 = (i : Int) then 1 else 0 := rfl
    refine pif_cases (fun hs => ?_) fun hs => ?_
    · have he : D.getD i 0 = (i : Int) := beq_iff_eq.1 hs
      rw [if_pos he] at hss
      unfold F82.B11 F82.B10
      rw [wrap_id (by omega) (by omega), wrap_id (by omega) (by omega)]
      exact ⟨⟨rfl, rfl, rfl, rfl, i + 1, by omega, by omega, by omega⟩, by show n.toNat - ((i : Int) + 1).toNat < n.toNat - (i : Int).toNat; omega⟩
    · have he : D.getD i 0 ≠ (i : Int) := fun e => by rw [e] at hs; simp at hs
      rw [if_neg he] at hss
      unfold F82.B10
      rw [wrap_id (by omega) (by omega)]
      exact ⟨⟨rfl, rfl, rfl, rfl, i + 1, by omega, by omega, by omega⟩, by show n.toNat - ((i : Int) + 1).toNat < n.toNat - (i : Int).toNat; omega⟩
  · have hin : i = n.toNat := by have := of_decide_eq_false hb; omega
    subst hin
    have hcount : selfs D n.toNat = (sidesL fs n.toNat).length := selfs_sides hD _ (Nat.le_refl _)
    unfold F82.B8 F82.L2
    refine ⟨fun x1 x2 x5 x6 x8 G => u = x1 ∧ H.length = x2 ∧ .slice (some ⟨b0, 0, none⟩) n.toNat (n.toNat + 1) = x5 ∧ ((selfs D n.toNat : Nat) : Int) = x6 ∧ H3.le G ∧ ∃ j : Nat, x8 = j ∧ j ≤ l.length ∧ ∀ j', j' < j → D.getD (es.getD (l.getD j' 0).toNat (0, 0)).1.toNat 0 ≠ D.getD (es.getD (l.getD j' 0).toNat (0, 0)).2.toNat 0,
      fun _ _ _ _ x8 _ => l.length - x8.toNat, ⟨rfl, rfl, rfl, rfl, AHeap.le_refl _, 0, rfl, by omega, fun j hj => absurd hj (by omega)⟩, ?_⟩
    rintro x1 x2 x5 x6 x8 G ⟨rfl, rfl, rfl, rfl, hG, j, rfl, hj, hne⟩
    have lG := AHeap.le_trans l13 hG
    have oG := o3.le hG
    have key : ∀ x, x ∈ l → (D.getD (es.getD x.toNat (0, 0)).1.toNat 0 = D.getD (es.getD x.toNat (0, 0)).2.toNat 0 ↔ Rch (vAdj fs) (es.getD x.toNat (0, 0)).1.toNat (es.getD x.toNat (0, 0)).2.toNat) := by
      intro x hx
      have hr := hS.range x hx
      obtain ⟨d1, d2, d3, d4⟩ := hends es[x.toNat] (List.getElem_mem (show x.toNat < es.length by omega))
      rw [← getD_of (d := (0, 0)) (show x.toNat < es.length by omega)] at d1 d2 d3 d4
      exact hD.iff (by omega) (by omega)
    unfold F82.B7
    refine (hc.le lG).len (pif_cases (fun hb => ?_) fun hb => ?_)
    · have hjl : j < l.length := by have := of_decide_eq_true hb; omega
      have hx := hS.range l[j] (List.getElem_mem hjl)
      obtain ⟨d1, d2, d3, d4⟩ := hends es[(l[j]).toNat] (List.getElem_mem (show (l[j]).toNat < es.length by omega))
      rw [← getD_of (d := (0, 0)) (show (l[j]).toNat < es.length by omega)] at d1 d2 d3 d4
      unfold F82.B6
      refine ld1_own oG rfl ((hc.le lG).rd (by omega) (by omega) ?_)
      rw [Int.toNat_natCast, getD_of hjl]
      obtain ⟨b, o, hk, c1, c2⟩ := (h.le lG).idx hx.1 hx.2
      refine hk _ (ldI_mk c1 (ldI_mk c2 (newK_f rfl fun H5 l5 _ o5 => stK_f o5 (by simp) (by simp [Value.oneCell']) rfl fun H6 b6 o6 => ?_)))
      have l6 : G.le H6 := b6.le l5 (Nat.le_refl _)
      have oi := own_ints (c := n.toNat + 1) ((oD.le hG).le l6)
      rw [hDl] at oi
      unfold F82.B5
      refine ldI_own o6 rfl (oi.rd (by omega) (by omega) (ldI_own o6 rfl (oi.rd (by omega) (by omega) (pif_cases (fun hs => ?_) fun hs => ?_))))
      · unfold F82.B4
        have he := beq_iff_eq.1 hs
        exact hBond false ⟨(fun h => by cases h), fun h => absurd ((key _ (List.getElem_mem hjl)).1 he) ((hBd.1 h).2 _ (List.getElem_mem hjl))⟩ _ (AHeap.le_trans lG l6)
      · have he : D.getD (es.getD (l[j]).toNat (0, 0)).1.toNat 0 ≠ D.getD (es.getD (l[j]).toNat (0, 0)).2.toNat 0 := fun e => by rw [e] at hs; simp at hs
        unfold F82.B3
        rw [wrap_id (by omega) (by omega)]
        refine ⟨⟨rfl, rfl, rfl, rfl, AHeap.le_trans hG l6, j + 1, by omega, by omega, fun j' hj' => ?_⟩, by simp; omega⟩
        by_cases e : j' = j
        · subst e; rw [getD_of hjl]; exact he
        · exact hne j' (by omega)
    · have hjl : j = l.length := by have := of_decide_eq_false hb; omega
      subst hjl
      unfold F82.B1
      refine ldI_own oG rfl (ld1_own oG rfl (l01Parts_ok (h.le lG) (by omega) (by omega) (by omega) hends fun D' G2 l2' hD' hL' => asI_mk ?_))
      have hc2 : selfs D' n.toNat = (sidesL es n.toNat).length := selfs_sides hL' _ (Nat.le_refl _)
      have b2 := selfs_le D' n.toNat
      rw [wrap_id (by omega) (by omega)]
      refine hBond _ ?_ _ (AHeap.le_trans lG l2')
      rw [hBd, beq_iff_eq]
      refine ⟨fun e => ⟨by omega, fun x hx hr => ?_⟩, fun h => by have := h.1; omega⟩
      obtain ⟨j, hj, rfl⟩ := List.getElem_of_mem hx
      have := hne j hj
      rw [getD_of hj] at this
      exact this ((key _ hx).2 hr)
end Go.Proofs
