/- Contracts: leaders of vertices. -/
import Derived.Test.YtfcflpcmjlbedabU15
set_option linter.unusedVariables false
set_option linter.unusedSimpArgs false
set_option maxRecDepth 100000
namespace Go.Proofs
open Go.Abs

variable {H : AHeap} {v u f : Value} {l m c : List Int} {es fs : List (Int × Int)} {K : Value → AHeap → Prop}

/-- Each vertex's number leads to it and is no greater. -/
def Led (n : Nat) (fs : List (Int × Int)) (D : List Int) : Prop := D.length = n ∧ ∀ w, w < n → ∃ k : Nat, D.getD w 0 = k ∧ k ≤ w ∧ Rch (vAdj fs) w k
/-- And joined vertices have the same. -/
structure Leads (n : Nat) (fs : List (Int × Int)) (D : List Int) : Prop where
  led : Led n fs D
  same : ∀ e ∈ fs, D.getD e.1.toNat 0 = D.getD e.2.toNat 0
theorem Leads.rch {n : Nat} {fs : List (Int × Int)} {D : List Int} (h : Leads n fs D) {a b : Nat} (hr : Rch (vAdj fs) a b) : D.getD a 0 = D.getD b 0 := by
  refine hr.keep (P := fun x => D.getD a 0 = D.getD x 0) (fun x y hxy hx => ?_) rfl
  rw [hx]
  rcases hxy with h1 | h1
  · simpa using h.same _ h1
  · simpa using (h.same _ h1).symm
theorem Leads.iff {n : Nat} {fs : List (Int × Int)} {D : List Int} (h : Leads n fs D) {a b : Nat} (ha : a < n) (hb : b < n) : D.getD a 0 = D.getD b 0 ↔ Rch (vAdj fs) a b := by
  refine ⟨fun he => ?_, h.rch⟩
  obtain ⟨k, h1, _, h2⟩ := h.led.2 a ha
  obtain ⟨k', h3, _, h4⟩ := h.led.2 b hb
  obtain rfl : k = k' := by omega
  exact h2.trans (h4.symm vAdj_symm)
/-- One leads oneself exactly if one is the least. -/
theorem Leads.self {n : Nat} {fs : List (Int × Int)} {D : List Int} (h : Leads n fs D) {a : Nat} (ha : a < n) : D.getD a 0 = (a : Int) ↔ ∀ b, b < a → ¬ Rch (vAdj fs) b a := by
  constructor
  · intro he b hb hr
    obtain ⟨k, h1, h2, _⟩ := h.led.2 b (by omega)
    have := h.rch hr
    omega
  · intro hn
    obtain ⟨k, h1, h2, h3⟩ := h.led.2 a ha
    rcases Nat.lt_or_ge k a with hk | hk
    · exact absurd (h3.symm vAdj_symm) (hn k hk)
    · omega
def sumN (D : List Int) : Nat := (D.map Int.toNat).sum
theorem sumN_set {D : List Int} {i : Nat} {x : Int} (hi : i < D.length) : sumN (D.set i x) + (D.getD i 0).toNat = sumN D + x.toNat := by
  induction D generalizing i with
  | nil => simp at hi
  | cons a D ih =>
    cases i with
    | zero => simp [sumN]; omega
    | succ i =>
      have := ih (i := i) (by simpa using hi)
      simp [sumN] at this ⊢; omega
def rowSum (G : AHeap) (b : Nat) : Nat :=
  match G[b]? with
  | some (some (.row cs _ _)) => (cs.map fun | .int _ x => x.toNat | _ => 0).sum
  | _ => 0
theorem rowSum_own {G : AHeap} {b : Nat} {t : TypeId} {D : List Int} (h : Own G b t (LI D)) : rowSum G b = sumN D := by
  unfold rowSum sumN; rw [h]; simp [List.map_map]; rfl
theorem Led.merge {n : Nat} {fs : List (Int × Int)} {D : List Int} (h : Led n fs D) {a b : Nat} (he : ((a : Int), (b : Int)) ∈ fs) (ha : a < n) (hb : b < n) (hne : D.getD a 0 ≠ D.getD b 0) {x : Int} (hx : x = if D.getD b 0 < D.getD a 0 then D.getD b 0 else D.getD a 0) :
    Led n fs ((D.set a x).set b x) ∧ sumN ((D.set a x).set b x) < sumN D := by
  obtain ⟨hl, hp⟩ := h
  obtain ⟨k, h1, h2, h3⟩ := hp a ha
  obtain ⟨k', h4, h5, h6⟩ := hp b hb
  have hab : a ≠ b := fun e => by rw [e] at hne; exact hne rfl
  have adj : vAdj fs a b := .inl he
  have hxk : ∃ q : Nat, x = q ∧ q ≤ k ∧ q ≤ k' ∧ Rch (vAdj fs) a q ∧ Rch (vAdj fs) b q := by
    rw [hx, h1, h4]
    split
    · exact ⟨k', rfl, by omega, Nat.le_refl _, (Rch.step .refl adj).trans h6, h6⟩
    · exact ⟨k, rfl, Nat.le_refl _, by omega, h3, (Rch.step .refl (vAdj_symm _ _ adj)).trans h3⟩
  obtain ⟨q, hq, hq1, hq2, hq3, hq4⟩ := hxk
  refine ⟨⟨by simp [hl], fun w hw => ?_⟩, ?_⟩
  · by_cases e1 : b = w
    · subst e1
      refine ⟨q, ?_, by omega, hq4⟩
      simp [List.getD, hl, hw, hq]
    · by_cases e2 : a = w
      · subst e2
        refine ⟨q, ?_, by omega, hq3⟩
        simp [List.getD, List.getElem?_set, e1, hl, hw, hq]
      · obtain ⟨r, r1, r2⟩ := hp w hw
        refine ⟨r, ?_, r2⟩
        rw [← r1]
        simp [List.getD, List.getElem?_set, e1, e2]
  · have s1 := sumN_set (D := D.set a x) (i := b) (x := x) (by simp [hl, hb])
    have s2 := sumN_set (D := D) (i := a) (x := x) (by omega)
    have e : (D.set a x).getD b 0 = D.getD b 0 := by simp [List.getD, List.getElem?_set, hab]
    rw [e] at s1
    omega

theorem upto_succ (k : Nat) : upto (k + 1) = upto k ++ [(k : Int)] := by
  unfold upto; rw [List.range_succ, List.map_append]; rfl
theorem upto_length (k : Nat) : (upto k).length = k := by simp [upto]
theorem own_ne {b : Nat} {t : TypeId} {n : Nat} {cs : List Value} {G : AHeap} {m0 : Nat} (h : Fresh m0 G v t 1 cs) (hn : cs.length = n) (h0 : 0 < n) : ∃ b, m0 ≤ b ∧ v = .slice (some ⟨b, 0, none⟩) n (n + 1) ∧ Own G b t cs := by
  rcases h with ⟨rfl, _⟩ | ⟨b, k, h1, h2, h3, h4⟩
  · simp at hn; omega
  · obtain rfl : k = n := by omega
    exact ⟨b, h1, h2, h3⟩

theorem l01Leaders_ok {n : Int} (h : Edges H u fs) (hl : fs.length ≤ 1048576) (h0 : 0 < n) (h1 : n ≤ 20) (hf : ∀ e ∈ fs, 0 ≤ e.1 ∧ e.1 < n ∧ 0 ≤ e.2 ∧ e.2 < n)
    (k : ∀ b0 D G, H.le G → Own G b0 2 (LI D) → H.length ≤ b0 → Leads n.toNat fs D → K (.slice (some ⟨b0, 0, none⟩) n.toNat (n.toNat + 1)) G) :
    AC Try.prog T0 97 [.int .i64 n, u] H K := by
  apply F97.ac
  unfold F97.B21 F97.B20
  refine newK_f rfl fun H1 l1 n1 o1 => ?_
  unfold F97.B19 F97.L15
  refine ⟨fun x0 x1 x5 x6 G => n = x0 ∧ u = x1 ∧ H.le G ∧ ∃ i : Nat, x6 = i ∧ (i : Int) ≤ n ∧ Fresh H.length G x5 2 1 (LI (upto i)), fun x0 _ _ x6 _ => (x0 - x6).toNat, ⟨rfl, rfl, l1, 0, rfl, by omega, .inr ⟨_, 0, Nat.le_refl _, rfl, o1, rfl⟩⟩, ?_⟩
  rintro x0 x1 x5 x6 G ⟨rfl, rfl, hG, i, rfl, hi, hF⟩
  unfold F97.B18
  refine pif_cases (fun hb => ?_) fun hb => ?_
  · have hlt := of_decide_eq_true hb
    unfold F97.B17
    refine hF.sl.pushN E_int (by decide) hG.1 (n := 1) (ys := [.int .i64 i]) rfl rfl (by have := upto_length i; simp; omega) (by simp) fun v' G2 k2 _ _ f2 => ?_
    unfold F97.B16
    rw [wrap_id (by omega) (by omega)]
    refine ⟨⟨rfl, rfl, k2.le hG (Nat.le_refl _), i + 1, by omega, by omega, ?_⟩, show (n - ((i : Int) + 1)).toNat < (n - (i : Int)).toNat by omega⟩
    rw [upto_succ]; simpa using f2
  · have hge : (i : Int) = n := by have := of_decide_eq_false hb; omega
    obtain ⟨b0, hb0, rfl, oD⟩ := own_ne (b := 0) (n := n.toNat) hF (by rw [List.length_map, upto_length]; omega) (by omega)
    obtain rfl : i = n.toNat := by omega
    have ini : Led n.toNat fs (upto n.toNat) := by
      refine ⟨upto_length _, fun w hw => ⟨w, ?_, Nat.le_refl _, .refl⟩⟩
      unfold upto; simp [List.getD, hw]
    clear hb hge hi
    unfold F97.B14 F97.L2
    refine ⟨fun x1 x5 x7 G => u = x1 ∧ .slice (some ⟨b0, 0, none⟩) n.toNat (n.toNat + 1) = x5 ∧ H.le G ∧ ∃ D, Own G b0 2 (LI D) ∧ Led n.toNat fs D ∧ (x7 = false → ∀ e ∈ fs, D.getD e.1.toNat 0 = D.getD e.2.toNat 0), fun _ _ x7 G => 2 * rowSum G b0 + if x7 then 1 else 0,
      ⟨rfl, rfl, hG, _, oD, ini, fun h => by cases h⟩, ?_⟩
    clear hF oD ini
    rintro x1 x5 x7 G1 ⟨rfl, rfl, hG1, D, oD, hD, hS⟩
    unfold F97.B13
    refine pif_cases (fun hb => ?_) fun hb => ?_
    · subst hb
      have hsum := rowSum_own oD
      unfold F97.B12 F97.B11 F97.L3
      refine ⟨fun x1 x5 x7 x8 G => u = x1 ∧ .slice (some ⟨b0, 0, none⟩) n.toNat (n.toNat + 1) = x5 ∧ H.le G ∧ ∃ (i : Nat) (D' : List Int), x8 = i ∧ i ≤ fs.length ∧ Own G b0 2 (LI D') ∧ Led n.toNat fs D' ∧ ((x7 = true ∧ sumN D' < sumN D) ∨ (x7 = false ∧ D' = D ∧ ∀ j, j < i → D.getD (fs.getD j (0, 0)).1.toNat 0 = D.getD (fs.getD j (0, 0)).2.toNat 0)),
        fun _ _ _ x8 _ => fs.length - x8.toNat, ⟨rfl, rfl, hG1, 0, D, rfl, by omega, oD, hD, .inr ⟨rfl, rfl, fun j hj => absurd hj (by omega)⟩⟩, ?_⟩
      rintro x1 x5 x7 x8 G2 ⟨rfl, rfl, hG2, i, D', rfl, hi, oD', hD', hc⟩
      have hdl := hD'.1
      unfold F97.B10
      refine (h.le hG2).len (pif_cases (fun hb => ?_) fun hb => ?_)
      · have hlt : i < fs.length := by have := of_decide_eq_true hb; omega
        obtain ⟨d1, d2, d3, d4⟩ := hf fs[i] (List.getElem_mem hlt)
        obtain ⟨a, ha⟩ : ∃ a : Nat, (fs[i]).1 = a := ⟨(fs[i]).1.toNat, by omega⟩
        obtain ⟨b, hb'⟩ : ∃ b : Nat, (fs[i]).2 = b := ⟨(fs[i]).2.toNat, by omega⟩
        have hin : ((a : Int), (b : Int)) ∈ fs := by rw [← ha, ← hb']; exact List.getElem_mem hlt
        have hge : fs.getD i (0, 0) = ((a : Int), (b : Int)) := by rw [getD_of hlt, ← ha, ← hb']
        have hi64 := own_ints (c := n.toNat + 1) oD'
        rw [hdl] at hi64
        unfold F97.B9
        obtain ⟨bb, oo, hk, c1, c2⟩ := (h.le hG2).idx (show (0 : Int) ≤ i by omega) (by omega)
        simp only [Int.toNat_natCast, hge] at c1 c2
        refine hk _ (ldI_mk c1 (hi64.rd (by omega) (by omega) (hk _ (ldI_mk c2 (hi64.rd (by omega) (by omega) ?_)))))
        simp only [Int.toNat_natCast]
        unfold F97.B8
        refine pif_cases (fun hs => ?_) fun hs => ?_
        · have hne := bne_iff_ne.1 hs
          unfold F97.B7
          obtain ⟨x, hx⟩ : ∃ x, x = if D'.getD b 0 < D'.getD a 0 then D'.getD b 0 else D'.getD a 0 := ⟨_, rfl⟩
          rw [← hx]
          refine hk _ (ldI_mk c1 (own_idx (by omega) (by omega) (stK_1 oD' (by simp; omega) rfl fun G3 b3 o3 => ?_)))
          rw [Int.toNat_natCast, ← List.map_set] at o3
          unfold F97.B6
          have hG3 := b3.le hG2 (by have := l1.1; omega)
          obtain ⟨bb', oo', hk', c1', c2'⟩ := (h.le hG3).idx (show (0 : Int) ≤ i by omega) (by omega)
          simp only [Int.toNat_natCast, hge] at c1' c2'
          rw [← hx]
          refine hk' _ (ldI_mk c2' (own_idx (by omega) (by omega) (stK_1 o3 (by simp; omega) rfl fun G4 b4 o4 => ?_)))
          rw [Int.toNat_natCast, ← List.map_set] at o4
          obtain ⟨m1, m2⟩ := hD'.merge hin (by omega) (by omega) hne hx
          unfold F97.B5 F97.B4
          rw [wrap_id (by omega) (by omega)]
          refine ⟨⟨rfl, rfl, b4.le hG3 (by have := l1.1; omega), i + 1, _, by omega, by omega, o4, m1, .inl ⟨rfl, ?_⟩⟩, by simp; omega⟩
          rcases hc with ⟨_, hc⟩ | ⟨_, rfl, _⟩
          · omega
          · exact m2
        · have he := bne_eq_false_iff_eq.1 hs
          unfold F97.B4
          rw [wrap_id (by omega) (by omega)]
          refine ⟨⟨rfl, rfl, hG2, i + 1, D', by omega, by omega, oD', hD', ?_⟩, by simp; omega⟩
          rcases hc with hc | ⟨q1, rfl, q3⟩
          · exact .inl hc
          · refine .inr ⟨q1, rfl, fun j hj => ?_⟩
            by_cases e : j = i
            · subst e; rw [hge]; simpa using he
            · exact q3 j (by omega)
      · have hge : i = fs.length := by have := of_decide_eq_false hb; omega
        subst hge
        refine ⟨⟨rfl, rfl, hG2, D', oD', hD', fun hx e he => ?_⟩, ?_⟩
        · rcases hc with ⟨q, _⟩ | ⟨_, rfl, q3⟩
          · rw [hx] at q; cases q
          · obtain ⟨j, hj, rfl⟩ := List.getElem_of_mem he
            have := q3 j hj
            rwa [getD_of hj] at this
        · show 2 * rowSum G2 b0 + (if x7 = true then 1 else 0) < 2 * rowSum G1 b0 + (if true = true then 1 else 0)
          rw [rowSum_own oD', hsum]
          rcases hc with ⟨rfl, q⟩ | ⟨rfl, rfl, _⟩
          · simp; omega
          · simp
    · subst hb
      unfold F97.B1
      exact k b0 D G1 hG1 oD hb0 ⟨hD, hS rfl⟩
end Go.Proofs
