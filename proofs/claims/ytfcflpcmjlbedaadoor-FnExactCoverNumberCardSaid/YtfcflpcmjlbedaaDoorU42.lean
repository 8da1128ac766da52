/- Contracts: cover numbers, both sides. -/
import Derived.Test.YtfcflpcmjlbedaaDoorU41
import Derived.Test.YtfcflpcmjlbedaaDoorM11
import Derived.Test.YtfcflpcmjlbedaaDoorU16
set_option linter.unusedVariables false
set_option linter.unusedSimpArgs false
set_option maxRecDepth 100000
namespace Go.Proofs
open Go.Abs

variable {H G : AHeap} {v u f : Value} {l m c D : List Int} {es fs : List (Int × Int)} {K : Value → AHeap → Prop} {A A' : Nat → Prop} {B : Nat} {ls ms : List (List Int)}

noncomputable def tiBoolE : TI := (T0 4).getD ⟨.bool, 0, 0, undef⟩
theorem E_bool : Elem T0 4 1 := ⟨tiBoolE, by kernel_rfl, by kernel_rfl, of_decide_eq_true (by kernel_rfl), by kernel_rfl⟩
/-- What is covered, as a list of Bools. -/
def CovS (s m : Nat) (S : List Bool) : Prop := S.length = m ∧ ∀ j, j < m → S.getD j false = s.testBit j
theorem CovS.set {s m : Nat} {S : List Bool} (h : CovS s m S) {y : Nat} (hy : y < m) : CovS (s ||| 2 ^ y) m (S.set y true) := by
  obtain ⟨h1, h2⟩ := h
  refine ⟨by simp [h1], fun j hj => ?_⟩
  rw [setB (by omega)]
  simp only [insB, Nat.testBit_or, Nat.testBit_two_pow, h2 j hj]
theorem setN_take_or {l : List Int} {t : Nat} (h : t < l.length) (s : Nat) : s ||| setN (l.take (t + 1)) = s ||| setN (l.take t) ||| 2 ^ (l.getD t 0).toNat := by
  rw [setN_take h, getD_of h, Nat.or_assoc]

theorem l04Cover_ok {n : Int} {H0 : AHeap} (he : Edges H0 v es) (h1m : 0 < es.length) (h30 : es.length ≤ 30) {L : List (List Int)} (hL : L.length ≤ 1000000) (hLr : ∀ l ∈ L, IsS l es.length ∧ l.length ≤ 30) {B0 : Nat} (hR0 : RowsF A B0 H0 u L) (hB0 : B0 ≤ H0.length) :
    ∀ (k s : Nat) (S : List Bool) (H : AHeap) (K : Value → AHeap → Prop) (q : Value), k ≤ 1000 → H0.le H → CovS s es.length S → Fresh 0 H q 4 1 (LB S) → (∀ G, H.le G → K (.bool (covB L es.length k s)) G) → AC Tryd.prog T0 37 [.agg ⟨[.int .i64 n, v]⟩, u, q, .int .i64 (k : Nat)] H K := by
  obtain ⟨m, hm⟩ : ∃ m, m = es.length := ⟨_, rfl⟩
  rw [← hm] at h1m h30 hLr ⊢
  have step : ∀ (k s : Nat) (S : List Bool) (H : AHeap) (K : Value → AHeap → Prop) (q : Value), k ≤ 1000 →
      (0 < k → ∀ (s' : Nat) (S' : List Bool) (H' : AHeap) (K' : Value → AHeap → Prop) (q' : Value), H0.le H' → CovS s' m S' → Fresh 0 H' q' 4 1 (LB S') → (∀ G, H'.le G → K' (.bool (covB L m (k - 1) s')) G) → AC Tryd.prog T0 37 [.agg ⟨[.int .i64 n, v]⟩, u, q', .int .i64 ((k - 1 : Nat) : Int)] H' K') →
      H0.le H → CovS s m S → Fresh 0 H q 4 1 (LB S) → (∀ G, H.le G → K (.bool (covB L m k s)) G) → AC Tryd.prog T0 37 [.agg ⟨[.int .i64 n, v]⟩, u, q, .int .i64 (k : Nat)] H K := by
    intro k s S H K q hk rec h0 hS hq kk
    have hSl := hS.1
    apply F37.ac
    unfold F37.B21
    refine newK_f (all_iv (edges_one' (he.le h0))) fun H1 l1 _ o1 => ?_
    have h01 := AHeap.le_trans h0 l1
    have hq1 := hq.le l1
    have hl1 := l1.1
    obtain ⟨w, hw⟩ : ∃ w, w = fv s m := ⟨_, rfl⟩
    have main : F37.B16 K u q (k : Nat) H.length ((w : Nat) : Int) H1 := by
      unfold F37.B16
      refine hq1.sl.len (by decide) (n := m) (by simp [hSl]) ?_
      by_cases hfu : w = m
      · refine pif_t (by simp [hfu]) ?_
        unfold F37.B15
        have kk := kk _ l1
        rw [covB_full (by omega)] at kk
        exact kk
      have hwm : w < m := by have := fv_le s m; omega
      have hne : fv s m ≠ m := by omega
      refine pif_f (by rw [beq_eq_false_iff_ne]; omega) ?_
      unfold F37.B14 F37.L2
      refine ⟨fun x1 x2 x3 x4 x9 x10 G => u = x1 ∧ q = x2 ∧ ((k : Nat) : Int) = x3 ∧ H.length = x4 ∧ ((w : Nat) : Int) = x9 ∧ H1.le G ∧ ∃ i : Nat, x10 = i ∧ i ≤ L.length ∧ ∀ j, j < i → (decide ((w : Int) ∈ L.getD j []) && covB L m (k - 1) (s ||| setN (L.getD j []))) = false, fun _ _ _ _ _ x10 _ => L.length - x10.toNat,
        ⟨rfl, rfl, rfl, rfl, rfl, AHeap.le_refl _, 0, rfl, by omega, fun j hj => absurd hj (by omega)⟩, ?_⟩
      rintro x1 x2 x3 x4 x9 x10 G ⟨rfl, rfl, rfl, rfl, rfl, hG, i, rfl, hi, hno⟩
      have h0G := AHeap.le_trans h01 hG
      have lG := AHeap.le_trans l1 hG
      have hRG := hR0.le h0G
      have oG := o1.le hG
      have fin0 : (k = 0 ∨ i = L.length) → F37.B1 K G := by
        intro h
        unfold F37.B1
        have kk := kk _ lG
        rcases Nat.eq_zero_or_pos k with h0 | h0
        · subst h0; rw [covB_zero hne] at kk; exact kk
        · obtain ⟨k', rfl⟩ : ∃ k', k = k' + 1 := ⟨k - 1, by omega⟩
          have hiL : i = L.length := h.elim (fun h => absurd h (by omega)) id
          have : covB L m (k' + 1) s = false := by
            rw [covB_succ hne, ← hw, List.any_eq_false]
            intro l hl
            obtain ⟨j, hj, rfl⟩ := List.getElem_of_mem hl
            have := hno j (by omega)
            rw [getD_of hj] at this
            rw [Nat.add_sub_cancel] at this
            rw [this]; decide
          rw [this] at kk; exact kk
      unfold F37.B13
      refine hRG.len (pif_cases (fun hb => ?_) fun hb => ?_)
      · have hil : i < L.length := by have := of_decide_eq_true hb; omega
        refine pif_cases (fun hb => ?_) fun hb => ?_
        · have hk0 : 0 < k := by have := of_decide_eq_true hb; omega
          obtain ⟨hls, hll⟩ := hLr _ (List.getElem_mem hil)
          rw [← getD_of (d := []) hil] at hls hll
          have nxt : (decide ((w : Int) ∈ L.getD i []) && covB L m (k - 1) (s ||| setN (L.getD i []))) = false → ∀ j, j < i + 1 → (decide ((w : Int) ∈ L.getD j []) && covB L m (k - 1) (s ||| setN (L.getD j []))) = false := by
            intro h j hj
            by_cases e : j = i
            · subst e; exact h
            · exact hno j (by omega)
          unfold F37.B12
          refine hRG.row hil fun r hr => l04Has_ok hr.ints (by omega) (asB_mk (pif_cases (fun hb => ?_) fun hb => ?_))
          · have hni : decide ((w : Int) ∈ L.getD i []) = false := by simpa using hb
            unfold F37.B3
            rw [wrap_id (by omega) (by omega)]
            exact ⟨⟨rfl, rfl, rfl, rfl, rfl, hG, i + 1, by omega, by omega, nxt (by rw [hni]; rfl)⟩, by show L.length - ((i : Int) + 1).toNat < L.length - (i : Int).toNat; omega⟩
          · have hin : decide ((w : Int) ∈ L.getD i []) = true := by simpa using hb
            have hqG := hq1.le hG
            unfold F37.B11
            refine newK_f rfl fun G2 l2 n2 o2 => ?_
            have f2 : Fresh G.length G2 (.slice (some ⟨G.length, 0, none⟩) 0 (0 + 1)) 4 1 [] := .inr ⟨_, 0, Nat.le_refl _, rfl, o2, rfl⟩
            have go : ∀ q3 G3, G.le G3 → Fresh G.length G3 q3 4 1 (LB S) → F37.B10 K (fun x1 x2 x3 x4 x9 x10 G' => (u = x1 ∧ q = x2 ∧ ((k : Nat) : Int) = x3 ∧ H.length = x4 ∧ ((w : Nat) : Int) = x9 ∧ H1.le G' ∧ ∃ i : Nat, x10 = i ∧ i ≤ L.length ∧ ∀ j, j < i → (decide ((w : Int) ∈ L.getD j []) && covB L m (k - 1) (s ||| setN (L.getD j []))) = false) ∧ L.length - x10.toNat < L.length - (i : Int).toNat) u q (k : Nat) H.length (w : Nat) i q3 G3 := by
              intro q3 G3 l3 f3
              obtain ⟨b0, hb0, rfl, oB⟩ := own_ne (b := 0) f3 (n := m) (by simp [hSl]) h1m
              unfold F37.B10 F37.L6
              refine ⟨fun x1 x2 x3 x4 x9 x10 x11 x12 G' => u = x1 ∧ q = x2 ∧ ((k : Nat) : Int) = x3 ∧ H.length = x4 ∧ ((w : Nat) : Int) = x9 ∧ (i : Int) = x10 ∧ .slice (some ⟨b0, 0, none⟩) m (m + 1) = x11 ∧ G.le G' ∧ ∃ t : Nat, x12 = t ∧ t ≤ (L.getD i []).length ∧ ∃ S', Own G' b0 4 (LB S') ∧ CovS (s ||| setN ((L.getD i []).take t)) m S', fun _ _ _ _ _ _ _ x12 _ => (L.getD i []).length - x12.toNat,
                ⟨rfl, rfl, rfl, rfl, rfl, rfl, rfl, l3, 0, rfl, by omega, S, oB, by simpa [setN] using hS⟩, ?_⟩
              clear f3 l3 oB
              rintro x1 x2 x3 x4 x9 x10 x11 x12 G4 ⟨rfl, rfl, rfl, rfl, rfl, rfl, rfl, hG4, t, rfl, ht, S', oB, hS'⟩
              have h0G4 := AHeap.le_trans h0G hG4
              have hR4 := hR0.le h0G4
              unfold F37.B9
              refine hR4.row hil fun r hr => hr.ints.len (pif_cases (fun hb => ?_) fun hb => ?_)
              · have htl : t < (L.getD i []).length := by have := of_decide_eq_true hb; omega
                have hx := hls.range _ (List.getElem_mem htl)
                rw [← getD_of (d := 0) htl] at hx
                have hS'l := hS'.1
                unfold F37.B8
                refine hR4.row hil fun r hr => hr.ints.rd (by omega) (by omega) ?_
                rw [Int.toNat_natCast]
                refine own_idx (by omega) (by omega) (stK_1 oB (by rw [List.length_map]; omega) rfl fun G5 b5 o5 => ?_)
                rw [← List.map_set] at o5
                unfold F37.B7
                rw [wrap_id (by omega) (by omega)]
                refine ⟨⟨rfl, rfl, rfl, rfl, rfl, rfl, rfl, b5.le hG4 hb0, t + 1, by omega, by omega, _, o5, ?_⟩, by show (L.getD i []).length - ((t : Int) + 1).toNat < (L.getD i []).length - (t : Int).toNat; omega⟩
                rw [setN_take_or htl]
                exact hS'.set (by omega)
              · have htl : t = (L.getD i []).length := by have := of_decide_eq_false hb; omega
                subst htl
                rw [List.take_length] at hS'
                have hS'l := hS'.1
                unfold F37.B5
                rw [wrap_id (by omega) (by omega), show ((k : Nat) : Int) - 1 = ((k - 1 : Nat) : Int) by omega]
                refine ldI_own (oG.le hG4) rfl (ld1_own (oG.le hG4) rfl (rec hk0 _ S' G4 _ _ h0G4 hS' (.inr ⟨b0, m, Nat.zero_le _, rfl, oB, by simp [hS'l]⟩) fun G5 l5 => asB_mk (pif_cases (fun hb => ?_) fun hb => ?_)))
                · unfold F37.B4
                  have kk := kk _ (AHeap.le_trans (AHeap.le_trans lG hG4) l5)
                  obtain ⟨k', rfl⟩ : ∃ k', k = k' + 1 := ⟨k - 1, by omega⟩
                  rw [Nat.add_sub_cancel] at hb
                  have : covB L m (k' + 1) s = true := by
                    rw [covB_succ hne, ← hw, List.any_eq_true]
                    refine ⟨L.getD i [], by rw [getD_of hil]; exact List.getElem_mem hil, ?_⟩
                    rw [hin, hb]; rfl
                  rw [this] at kk; exact kk
                · unfold F37.B3
                  rw [wrap_id (by omega) (by omega)]
                  exact ⟨⟨rfl, rfl, rfl, rfl, rfl, AHeap.le_trans hG (AHeap.le_trans hG4 l5), i + 1, by omega, by omega, nxt (by rw [hb]; simp)⟩, by show L.length - ((i : Int) + 1).toNat < L.length - (i : Int).toNat; omega⟩
            refine f2.sl.app E_bool (by decide) l2.1 (fresh_cells (hqG.le l2) (by decide) (n := m) (by simp [hSl])) (by simp; omega) (fun h => ?_) fun v' G3 k3 _ _ f3 => ?_
            · have : S = [] := by simpa using h
              rw [this] at hSl; simp at hSl; omega
            · exact go v' G3 (k3.le l2 (Nat.le_refl _)) (by simpa using f3)
        · have hk0 : k = 0 := by have := of_decide_eq_false hb; omega
          exact fin0 (.inl hk0)
      · have hil : i = L.length := by have := of_decide_eq_false hb; omega
        exact fin0 (.inr hil)
    unfold F37.B20 F37.L17
    refine ⟨fun x1 x2 x3 x4 x9 G => u = x1 ∧ q = x2 ∧ ((k : Nat) : Int) = x3 ∧ H.length = x4 ∧ H1 = G ∧ ∃ i : Nat, x9 = i ∧ i ≤ m ∧ ∀ j, j < i → s.testBit j = true, fun _ _ _ _ x9 _ => m - x9.toNat, ⟨rfl, rfl, rfl, rfl, rfl, 0, rfl, by omega, fun j hj => absurd hj (by omega)⟩, ?_⟩
    rintro x1 x2 x3 x4 x9 G ⟨rfl, rfl, rfl, rfl, rfl, i, rfl, hi, hlow⟩
    unfold F37.B19
    refine hq1.sl.len (by decide) (n := m) (by simp [hSl]) (pif_cases (fun hb => ?_) fun hb => ?_)
    · have him : i < m := by have := of_decide_eq_true hb; omega
      refine Sl_rd hq1.sl (by omega) (by simp; omega) (by rw [Int.toNat_natCast]; exact LB_get (by omega)) (asB_mk ?_)
      rw [hS.2 i him]
      refine pif_cases (fun hb => ?_) fun hb => ?_
      · unfold F37.B18
        rw [wrap_id (by omega) (by omega)]
        refine ⟨⟨rfl, rfl, rfl, rfl, rfl, i + 1, by omega, by omega, fun j hj => ?_⟩, by show m - ((i : Int) + 1).toNat < m - (i : Int).toNat; omega⟩
        by_cases e : j = i
        · subst e; exact hb
        · exact hlow j (by omega)
      · rw [← fv_eq (n := m) hi hlow fun _ => hb, ← hw]; exact main
    · have him : i = m := by have := of_decide_eq_false hb; omega
      rw [← fv_eq (n := m) hi hlow fun h => by omega, ← hw]; exact main
  intro k
  induction k with
  | zero => exact fun s S H K q hk => step 0 s S H K q hk fun h => absurd h (by omega)
  | succ k ih => exact fun s S H K q hk => step (k + 1) s S H K q hk fun _ s' S' H' K' q' => ih s' S' H' K' q' (by omega)
end Go.Proofs
