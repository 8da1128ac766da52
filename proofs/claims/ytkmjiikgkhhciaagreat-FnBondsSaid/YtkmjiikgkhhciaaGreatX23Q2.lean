/- Contracts and plain mathematics for a law, merged. -/
import Derived.StringKeys
import Derived.Test.YtkmjiikgkhhciaaGreatX23Q1
/- Contracts: a cycle's edges put behind others, the reference's side. -/
set_option linter.unusedVariables false
set_option linter.unusedSimpArgs false
set_option maxRecDepth 100000
namespace Go.Proofs
open Go.Abs

variable {H G Hb : AHeap} {v u f w : Value} {l m D : List Int} {es : List (Int × Int)} {K : Value → AHeap → Prop} {bs : Nat} {n : Int}

theorem l01Cycle_ok {m0 c : Nat} (hF : Fresh m0 H v 78 2 (LE es)) (hm : m0 ≤ H.length) (oc : Own H c 2 (LI D)) (hc : bk v ≠ some c) (hr : EdR n es) (hD : ∀ x ∈ D, 0 ≤ x ∧ x < n) (hl : es.length + D.length ≤ 1000)
    (k : ∀ v' es' G, Keep m0 H G → Fresh m0 G v' 78 2 (LE es') → EdR n es' → es'.length = es.length + D.length → (∀ b, bk v' = some b → bk v = some b ∨ H.length ≤ b) → K v' G) :
    AC Tryz.prog T0 142 [v, .slice (some ⟨c, 0, none⟩) D.length (D.length + 1)] H K := by
  have hcl := oc.lt
  apply F142.ac
  unfold F142.B7 F142.B6 F142.L2
  refine ⟨fun x0 x1 x5 G => .slice (some ⟨c, 0, none⟩) D.length (D.length + 1) = x1 ∧ Keep m0 H G ∧ Own G c 2 (LI D) ∧ (∀ b, bk x0 = some b → bk v = some b ∨ H.length ≤ b) ∧ ∃ (i : Nat) (es' : List (Int × Int)), x5 = i ∧ i ≤ D.length ∧ Fresh m0 G x0 78 2 (LE es') ∧ EdR n es' ∧ es'.length = es.length + i, fun _ _ x5 _ => D.length - x5.toNat, ⟨rfl, ⟨Nat.le_refl _, fun _ _ _ h => h⟩, oc, fun b hb => .inl hb, 0, es, rfl, by omega, hF, hr, rfl⟩, ?_⟩
  rintro x0 x1 x5 G ⟨rfl, kp, oG, hbk, i, es', rfl, hi, hFG, hrG, hlG⟩
  have hkl := kp.len
  have hiG : Ints G (.slice (some ⟨c, 0, none⟩) D.length (D.length + 1)) D := own_ints oG
  unfold F142.B5
  refine lenK_of (pif_cases (fun hb => ?_) fun hb => ?_)
  · have hlt : i < D.length := by have := of_decide_eq_true hb; omega
    have t0 : 0 ≤ Int.tmod ((i : Int) + 1) (D.length : Int) := Int.tmod_nonneg _ (by omega)
    have t1 : Int.tmod ((i : Int) + 1) (D.length : Int) < D.length := Int.tmod_lt_of_pos _ (by omega)
    have r1 := hD (D.getD (i : Int).toNat 0) (by rw [getD_of (by omega)]; exact List.getElem_mem _)
    have t2 : (Int.tmod ((i : Int) + 1) (D.length : Int)).toNat < D.length := (Int.toNat_lt t0).2 t1
    have r2 := hD (D.getD (Int.tmod ((i : Int) + 1) (D.length : Int)).toNat 0) (by rw [getD_of t2]; exact List.getElem_mem _)
    unfold F142.B4
    rw [wrap_id (by omega) (by omega)]
    have d0 : ((D.length : Nat) : Int) ≠ 0 := by omega
    refine hiG.rd (by omega) (by omega) (lenK_of (pif_t (by simpa using d0) (hiG.rd t0 t1 ?_)))
    refine push_edge (x := (D.getD (i : Int).toNat 0, D.getD (Int.tmod ((i : Int) + 1) (D.length : Int)).toNat 0)) hFG (Nat.le_trans hm hkl) (by rw [hlG]; exact Nat.lt_of_le_of_lt (show es.length + i ≤ 1000 by omega) (by decide)) fun v3 G4 k4 ot nb f4 => ?_
    unfold F142.B3
    rw [wrap_id (by omega) (by omega)]
    refine ⟨⟨rfl, ⟨by have := k4.len; omega, fun b o hb ho => k4.old b o hb (kp.old b o hb ho)⟩, ot c _ (fun h => ?_) oG, fun b hb => .inr (by have := nb b hb; omega), i + 1, _, by omega, by omega, f4, hrG.snoc r1 r2, by simp; omega⟩, by simp; omega⟩
    rcases hbk c h with h | h
    · exact hc h
    · omega
  · have hie : i = D.length := by have := of_decide_eq_false hb; omega
    subst hie
    unfold F142.B1
    exact k x0 es' G kp hFG hrG hlG hbk
end Go.Proofs
/- Contracts: the reference's graphs with a name, whatever name. -/
set_option linter.unusedVariables false
set_option linter.unusedSimpArgs false
set_option maxRecDepth 100000
namespace Go.Proofs
open Go.Abs

variable {H G Hb H0 : AHeap} {v u f w : Value} {l m D : List Int} {es fs : List (Int × Int)} {K : Value → AHeap → Prop} {bs : Nat} {n : Int}

theorem LI_one : ∀ (l : List Int), (LI l).all Value.oneCell' = true
  | [] => rfl
  | x :: l => by show (Value.int .i64 x :: LI l).all Value.oneCell' = true; rw [List.all_cons, LI_one l]; rfl
theorem LE_one : ∀ (l : List (Int × Int)), (LE l).all Value.oneCell' = true
  | [] => rfl
  | x :: l => by rw [LE_cons, List.all_cons, List.all_cons, LE_one l]; rfl
theorem push_edges {m0 : Nat} (fs : List (Int × Int)) {cs : List Value} {c : Nat} (hF : Fresh m0 H v 78 2 (LE es)) (hm : m0 ≤ H.length) (hc : cs = LE fs) (hn : c = fs.length) (h0 : 0 < fs.length) (hl : es.length + fs.length ≤ 1000)
    (k : ∀ v' G, Keep m0 H G → Fresh m0 G v' 78 2 (LE (es ++ fs)) → K v' G) :
    newK H cs 78 (fun b1 H2 => apK T0 78 H2 v (.slice (some ⟨b1, 0, none⟩) c (c + 1)) K) := by
  subst hc; subst hn
  refine newK_f (LE_one fs) fun H2 l2 n2 o2 => ?_
  have hE : Edges H2 (.slice (some ⟨H.length, 0, none⟩) fs.length (fs.length + 1)) fs := Fresh.edges (m := 0) (e := 78) (.inr ⟨_, fs.length, Nat.zero_le _, rfl, o2, by rw [LE_length]⟩)
  exact app_edges (hF.sl.le l2) (Nat.le_trans hm l2.1) hE h0 (by omega) fun v' G k1 _ f => k v' G ((Keep.of_le l2).trans k1) f
theorem EdR.nil : EdR n [] := fun e he => absurd he (by simp)
theorem EdR.cons {a b : Int} (h1 : 0 ≤ a ∧ a < n) (h2 : 0 ≤ b ∧ b < n) (h : EdR n es) : EdR n ((a, b) :: es) := fun e he => by
  rcases List.mem_cons.1 he with rfl | he
  · exact ⟨h1.1, h1.2, h2.1, h2.2⟩
  · exact h e he
theorem EdR.app (h : EdR n es) (g : EdR n fs) : EdR n (es ++ fs) := fun e he => by
  rcases List.mem_append.1 he with he | he
  · exact h e he
  · exact g e he
theorem EdR.up {n' : Int} (h : EdR n es) (hn : n ≤ n') : EdR n' es := fun e he => by
  have := h e he; omega
/-- What comes out of a name. -/
def NamK (n : Int) (c : Nat) (H : AHeap) (K : Value → AHeap → Prop) : Prop := ∀ v es G, H.le G → Fresh H.length G v 78 2 (LE es) → Gd n es → es.length ≤ c → K (.tuple ⟨[.agg ⟨[.int .i64 n, v]⟩, .bool true]⟩) G
theorem made_tail {c : Nat} (k : NamK n c H0 K) (l0 : H0.le H) (o : Own H H0.length 26 [.int .i64 0, .slice none 0 0]) (h : Edges H v es) (hr : EdR n es) (h0 : 0 < es.length) (hl : es.length ≤ c) (hc : c ≤ 40 := by decide) :
    AC Tryz.prog T0 141 [.int .i64 n, v] H (fun v1 H2 => agg2 v1 (fun v3 v4 => asI .i64 v3 (fun v5 => stK H2 H0.length 0 [.int .i64 v5, v4] (fun H7 => ldI .i64 H7 H0.length 0 (fun v8 => ld1 H7 H0.length 1 (fun v9 => K (.tuple ⟨[.agg ⟨[.int .i64 v8, v9]⟩, .bool true]⟩) H7)))))) := by
  have hlt := o.lt
  have hg : Gd n es := ⟨h0, by omega, hr⟩
  refine l01Made_ok h (by omega) fun v2 G2 l2 f2 => agg2_mk (asI_mk ?_)
  refine stK_f (new := [.int .i64 n, v2]) (o.le l2) (by simp) (mem_iv (fresh_one f2)) rfl fun G5 b5 o5 => ldI_own o5 rfl (ld1_own o5 rfl ?_)
  have hll := l0.1
  exact k v2 _ G5 (b5.le (AHeap.le_trans l0 l2) (Nat.le_refl _)) ((f2.but b5 hlt).less hll) hg.made (by rw [srtE_length, List.length_map]; exact hl)
/-- The state behind the first steps: an empty list of edges. -/
structure NmS (H0 H : AHeap) (v : Value) (es : List (Int × Int)) : Prop where
  kp : Keep (H0.length + 1) H0 H
  ob : Own H H0.length 26 [.int .i64 0, .slice none 0 0]
  f : Fresh (H0.length + 1) H v 78 2 (LE es)
theorem NmS.len (h : NmS H0 H v es) : H0.length + 1 ≤ H.length := h.ob.lt
theorem NmS.le0 (h : NmS H0 H v es) : H0.le H := h.kp.le (AHeap.le_refl _) (Nat.le_succ _)
theorem NmS.le (h : NmS H0 H v es) (l : H.le G) : NmS H0 G v es := ⟨h.kp.trans (.of_le l), h.ob.le l, h.f.le l⟩
theorem NmS.push (fs : List (Int × Int)) {cs : List Value} {c : Nat} (h : NmS H0 H v es) (hc : cs = LE fs) (hn : c = fs.length) (h0 : 0 < fs.length) (hl : es.length + fs.length ≤ 1000) (k : ∀ v' G, NmS H0 G v' (es ++ fs) → K v' G) :
    newK H cs 78 (fun b1 H2 => apK T0 78 H2 v (.slice (some ⟨b1, 0, none⟩) c (c + 1)) K) :=
  push_edges fs h.f h.len hc hn h0 hl fun v' G k1 f => k v' G ⟨h.kp.trans k1, k1.own h.ob (Nat.lt_succ_self _), f⟩
theorem NmS.cyc (D : List Int) {cs : List Value} {c : Nat} (h : NmS H0 H v es) (hc : cs = LI D) (hn : c = D.length) (hr : EdR n es) (hD : ∀ x ∈ D, 0 ≤ x ∧ x < n) (hl : es.length + D.length ≤ 1000) (k : ∀ v' es' G, NmS H0 G v' es' → EdR n es' → es'.length = es.length + D.length → K v' G) :
    newK H cs 2 (fun b1 H2 => AC Tryz.prog T0 142 [v, .slice (some ⟨b1, 0, none⟩) c (c + 1)] H2 K) := by
  subst hc; subst hn
  refine newK_f (LI_one D) fun H2 l2 n2 o2 => ?_
  have h2 := h.le l2
  exact l01Cycle_ok h2.f h2.len o2 (fun e => by have := (h.f.bk_lt e).2; omega) hr hD hl fun v' es' G k1 f r e _ => k v' es' G ⟨h2.kp.trans k1, k1.own h2.ob (Nat.lt_succ_self _), f⟩ r e
theorem NmS.made {c : Nat} (k : NamK n c H0 K) (h : NmS H0 H v es) (hr : EdR n es) (h0 : 0 < es.length) (hl : es.length ≤ c) (hc : c ≤ 40 := by decide) :
    AC Tryz.prog T0 141 [.int .i64 n, v] H (fun v1 H2 => agg2 v1 (fun v3 v4 => asI .i64 v3 (fun v5 => stK H2 H0.length 0 [.int .i64 v5, v4] (fun H7 => ldI .i64 H7 H0.length 0 (fun v8 => ld1 H7 H0.length 1 (fun v9 => K (.tuple ⟨[.agg ⟨[.int .i64 v8, v9]⟩, .bool true]⟩) H7)))))) :=
  made_tail k h.le0 h.ob h.f.edges hr h0 hl hc
theorem nm_theta (k : NamK 2 40 H0 K) (h : NmS H0 H v []) : F67.B2 K H0.length H := by
  unfold F67.B2
  refine newK_f rfl fun H2 l2 n2 o2 => ?_
  have h2 := h.le l2
  have hE : Edges H2 (.slice (some ⟨H.length, 0, none⟩) 3 (3 + 1)) [(0, 1), (0, 1), (0, 1)] := Fresh.edges (m := 0) (e := 78) (.inr ⟨_, 3, Nat.zero_le _, rfl, o2, rfl⟩)
  exact made_tail k h2.le0 h2.ob hE (by refine .cons ?_ ?_ (.cons ?_ ?_ (.cons ?_ ?_ .nil)) <;> decide) (by decide) (by decide)
theorem nm_k4 (k : NamK 4 40 H0 K) (h : NmS H0 H v []) : F67.B3 K H0.length H := by
  unfold F67.B3
  refine newK_f rfl fun H2 l2 n2 o2 => ?_
  have h2 := h.le l2
  have hE : Edges H2 (.slice (some ⟨H.length, 0, none⟩) 6 (6 + 1)) k4A := Fresh.edges (m := 0) (e := 78) (.inr ⟨_, 6, Nat.zero_le _, rfl, o2, rfl⟩)
  exact made_tail k h2.le0 h2.ob hE (by unfold k4A; refine .cons ?_ ?_ (.cons ?_ ?_ (.cons ?_ ?_ (.cons ?_ ?_ (.cons ?_ ?_ (.cons ?_ ?_ .nil))))) <;> decide) (by decide) (by decide)
theorem nm_k33 (k : NamK 6 40 H0 K) (h : NmS H0 H v []) : F67.B9 K H0.length v H := by
  unfold F67.B9 F67.L5
  refine ⟨fun x2 x4 x5 G => H0.length = x2 ∧ ∃ (i : Nat) (es : List (Int × Int)), x5 = i ∧ i ≤ 3 ∧ NmS H0 G x4 es ∧ EdR 6 es ∧ es.length = 3 * i, fun _ _ x5 _ => 3 - x5.toNat, ⟨rfl, 0, [], rfl, by omega, h, .nil, rfl⟩, ?_⟩
  rintro x2 x4 x5 G ⟨rfl, i, es, rfl, hi, hS, hE, hl⟩
  unfold F67.B8
  refine pif_cases (fun hb => ?_) fun hb => ?_
  · have hlt := of_decide_eq_true hb
    unfold F67.B7
    refine hS.push [((i : Int), 3), ((i : Int), 4), ((i : Int), 5)] rfl rfl (by simp) (by simp; omega) fun v' G' h' => ?_
    unfold F67.B6
    rw [wrap_id (by omega) (by omega)]
    exact ⟨⟨rfl, i + 1, _, by omega, by omega, h', hE.app (by refine .cons ?_ ?_ (.cons ?_ ?_ (.cons ?_ ?_ .nil)) <;> omega), by simp; omega⟩, by simp; omega⟩
  · have hge := of_decide_eq_false hb
    unfold F67.B4
    exact hS.made k hE (by omega) (by omega)
theorem nm_prism (k : NamK 6 40 H0 K) (h : NmS H0 H v []) : F67.B11 K H0.length v H := by
  unfold F67.B11
  refine h.cyc (n := 6) [0, 1, 2] rfl rfl .nil (fun x hx => by simp at hx; omega) (by decide) fun v1 es1 G1 h1 r1 e1 => h1.cyc (n := 6) [3, 4, 5] rfl rfl r1 (fun x hx => by simp at hx; omega) (by rw [e1]; decide) fun v2 es2 G2 h2 r2 e2 => ?_
  unfold F67.B10
  have hl2 : es2.length = 6 := by rw [e2, e1]; rfl
  refine h2.push [(0, 3), (1, 4), (2, 5)] rfl rfl (by simp) (by simp; omega) fun v3 G3 h3 => ?_
  exact h3.made k (n := 6) (r2.app (by refine .cons ?_ ?_ (.cons ?_ ?_ (.cons ?_ ?_ .nil)) <;> decide)) (by simp) (by simp; omega)
theorem cube_bit : ∀ i : Fin 8, ∀ j : Fin 3, ((IntKind.i64.wrap ((BitVec.ofInt 64 (i.val : Int) &&& BitVec.ofInt 64 ((2 ^ j.val : Nat) : Int)).toNat : Int) : Int) == 0) = true → i.val + 2 ^ j.val < 8 := by decide +kernel
theorem cube_zero : ∀ j : Fin 3, ((IntKind.i64.wrap ((BitVec.ofInt 64 (((0 : Nat) : Int)) &&& BitVec.ofInt 64 ((2 ^ j.val : Nat) : Int)).toNat : Int) : Int) == 0) = true := by decide +kernel
theorem nm_cube (k : NamK 8 40 H0 K) (h : NmS H0 H v []) : F67.B22 K H0.length v H := by
  unfold F67.B22 F67.L13
  refine ⟨fun x2 x4 x6 G => H0.length = x2 ∧ ∃ (i : Nat) (es : List (Int × Int)), x6 = i ∧ i ≤ 8 ∧ NmS H0 G x4 es ∧ EdR 8 es ∧ es.length ≤ 3 * i ∧ (0 < i → 0 < es.length), fun _ _ x6 _ => 8 - x6.toNat, ⟨rfl, 0, [], rfl, by omega, h, .nil, by simp, by simp⟩, ?_⟩
  rintro x2 x4 x6 G ⟨rfl, i, es, rfl, hi, hS, hE, hl, hp⟩
  unfold F67.B21
  refine pif_cases (fun hb => ?_) fun hb => ?_
  · have hlt := of_decide_eq_true hb
    unfold F67.B20 F67.L15
    refine ⟨fun x2 x4 x6 x7 G => H0.length = x2 ∧ (i : Int) = x6 ∧ ∃ (j : Nat) (es : List (Int × Int)), x7 = ((2 ^ j : Nat) : Int) ∧ j ≤ 3 ∧ NmS H0 G x4 es ∧ EdR 8 es ∧ es.length ≤ 3 * i + j ∧ (0 < i ∨ 0 < j → 0 < es.length), fun _ _ _ x7 _ => 8 - x7.toNat, ⟨rfl, rfl, 0, es, rfl, by omega, hS, hE, by omega, fun h => hp (by omega)⟩, ?_⟩
    rintro x2 x4 x6 x7 G ⟨rfl, rfl, j, es, rfl, hj, hS, hE, hl, hp⟩
    unfold F67.B19
    have p3 : j = 0 ∨ j = 1 ∨ j = 2 ∨ j = 3 := by omega
    refine pif_cases (fun hc => ?_) fun hc => ?_
    · have hj3 : j < 3 := by
        have hc := of_decide_eq_true hc
        rcases p3 with rfl | rfl | rfl | rfl <;> first | omega | (exact absurd hc (by decide))
      have h2 : 2 ^ (j + 1) = 2 * 2 ^ j := by rw [Nat.pow_succ, Nat.mul_comm]
      have h4 : 2 ^ j ≤ 4 ∧ 1 ≤ 2 ^ j := by
        have : j = 0 ∨ j = 1 ∨ j = 2 := by omega
        rcases this with rfl | rfl | rfl <;> decide
      unfold F67.B18
      refine pif_cases (fun hd => ?_) fun hd => ?_
      · have hlt8 := cube_bit ⟨i, by omega⟩ ⟨j, hj3⟩ hd
        simp only at hlt8
        unfold F67.B17
        rw [wrap_id (by omega) (by omega)]
        refine hS.push [((i : Int), (i : Int) + ((2 ^ j : Nat) : Int))] rfl rfl (by simp) (by simp; omega) fun v' G' h' => ?_
        unfold F67.B16
        rw [wrap_id (by omega) (by omega)]
        exact ⟨⟨rfl, rfl, j + 1, _, by rw [h2]; omega, by omega, h', hE.app (.cons (by omega) (by omega) .nil), by simp; omega, fun _ => by simp⟩, by show 8 - (2 * ((2 ^ j : Nat) : Int)).toNat < 8 - (((2 ^ j : Nat) : Int)).toNat; generalize 2 ^ j = q at h4 ⊢; omega⟩
      · unfold F67.B16
        rw [wrap_id (by omega) (by omega)]
        refine ⟨⟨rfl, rfl, j + 1, es, by rw [h2]; omega, by omega, hS, hE, by omega, fun _ => ?_⟩, by show 8 - (2 * ((2 ^ j : Nat) : Int)).toNat < 8 - (((2 ^ j : Nat) : Int)).toNat; generalize 2 ^ j = q at h4 ⊢; omega⟩
        by_cases h0 : i = 0
        · subst h0
          have hz := cube_zero ⟨j, hj3⟩
          rw [hd] at hz; cases hz
        · exact hp (by omega)
    · have hj3 : j = 3 := by
        have hc := of_decide_eq_false hc
        rcases p3 with rfl | rfl | rfl | rfl <;> first | rfl | (exact absurd (by decide) hc)
      subst hj3
      unfold F67.B14
      rw [wrap_id (by omega) (by omega)]
      exact ⟨⟨rfl, i + 1, es, by omega, by omega, hS, hE, by omega, fun _ => hp (.inr (by decide))⟩, by simp; omega⟩
  · have hge := of_decide_eq_false hb
    unfold F67.B12
    exact hS.made k hE (hp (by omega)) (by omega)
theorem nm_petersen (k : NamK 10 15 H0 K) (h : NmS H0 H v []) : F67.B28 K H0.length v H := by
  unfold F67.B28 F67.L24
  refine ⟨fun x2 x4 x8 G => H0.length = x2 ∧ ∃ (i : Nat) (es : List (Int × Int)), x8 = i ∧ i ≤ 5 ∧ NmS H0 G x4 es ∧ EdR 10 es ∧ es.length = 3 * i, fun _ _ x8 _ => 5 - x8.toNat, ⟨rfl, 0, [], rfl, by omega, h, .nil, rfl⟩, ?_⟩
  rintro x2 x4 x8 G ⟨rfl, i, es, rfl, hi, hS, hE, hl⟩
  unfold F67.B27
  refine pif_cases (fun hb => ?_) fun hb => ?_
  · have hlt := of_decide_eq_true hb
    unfold F67.B26
    rw [wrap_id (x := (i : Int) + 1) (by omega) (by omega), wrap_id (x := (i : Int) + 5) (by omega) (by omega), wrap_id (x := (i : Int) + 2) (by omega) (by omega)]
    have t0 : 0 ≤ Int.tmod ((i : Int) + 1) 5 := Int.tmod_nonneg _ (by omega)
    have t1 : Int.tmod ((i : Int) + 1) 5 < 5 := Int.tmod_lt_of_pos _ (by omega)
    have s0 : 0 ≤ Int.tmod ((i : Int) + 2) 5 := Int.tmod_nonneg _ (by omega)
    have s1 : Int.tmod ((i : Int) + 2) 5 < 5 := Int.tmod_lt_of_pos _ (by omega)
    obtain ⟨a, ha⟩ : ∃ a, a = Int.tmod ((i : Int) + 1) 5 := ⟨_, rfl⟩
    obtain ⟨b, hb⟩ : ∃ b, b = Int.tmod ((i : Int) + 2) 5 := ⟨_, rfl⟩
    rw [← ha] at t0 t1 ⊢
    rw [← hb] at s0 s1 ⊢
    rw [wrap_id (x := b + 5) (by omega) (by omega)]
    refine hS.push [((i : Int), a), ((i : Int), (i : Int) + 5), ((i : Int) + 5, b + 5)] rfl rfl (by simp) (by simp; omega) fun v' G' h' => ?_
    unfold F67.B25
    rw [wrap_id (by omega) (by omega)]
    exact ⟨⟨rfl, i + 1, _, by omega, by omega, h', hE.app (by refine .cons ?_ ?_ (.cons ?_ ?_ (.cons ?_ ?_ .nil)) <;> omega), by simp; omega⟩, by simp; omega⟩
  · have hge := of_decide_eq_false hb
    unfold F67.B23
    exact hS.made k hE (by omega) (by omega)
theorem nm_flower (k : NamK 20 40 H0 K) (h : NmS H0 H v []) : F67.B44 K H0.length v H := by
  unfold F67.B44 F67.L40
  refine ⟨fun x2 x4 x12 G => H0.length = x2 ∧ ∃ (i : Nat) (es : List (Int × Int)), x12 = i ∧ i ≤ 5 ∧ NmS H0 G x4 es ∧ EdR 20 es ∧ es.length = 3 * i, fun _ _ x12 _ => 5 - x12.toNat, ⟨rfl, 0, [], rfl, by omega, h, .nil, rfl⟩, ?_⟩
  rintro x2 x4 x12 G ⟨rfl, i, es, rfl, hi, hS, hE, hl⟩
  unfold F67.B43
  refine pif_cases (fun hb => ?_) fun hb => ?_
  · have hlt := of_decide_eq_true hb
    unfold F67.B42
    rw [wrap_id (x := (i : Int) + 5) (by omega) (by omega), wrap_id (x := (i : Int) + 10) (by omega) (by omega), wrap_id (x := (i : Int) + 15) (by omega) (by omega)]
    refine hS.push [((i : Int), (i : Int) + 5), ((i : Int), (i : Int) + 10), ((i : Int), (i : Int) + 15)] rfl rfl (by simp) (by simp; omega) fun v' G' h' => ?_
    unfold F67.B41
    rw [wrap_id (by omega) (by omega)]
    exact ⟨⟨rfl, i + 1, _, by omega, by omega, h', hE.app (by refine .cons ?_ ?_ (.cons ?_ ?_ (.cons ?_ ?_ .nil)) <;> omega), by simp; omega⟩, by simp; omega⟩
  · have hge := of_decide_eq_false hb
    unfold F67.B39
    refine hS.cyc (n := 20) [5, 6, 7, 8, 9] rfl rfl hE (fun x hx => by simp at hx; omega) (by simp; omega) fun v1 es1 G1 h1 r1 e1 => ?_
    unfold F67.B38
    have e1 : es1.length = es.length + 5 := e1
    refine h1.cyc (n := 20) [10, 11, 12, 13, 14, 15, 16, 17, 18, 19] rfl rfl r1 (fun x hx => by simp at hx; omega) (by simp; omega) fun v2 es2 G2 h2 r2 e2 => ?_
    have e2 : es2.length = es1.length + 10 := e2
    exact h2.made k r2 (by omega) (by omega)
theorem nm_bridge (k : NamK 10 40 H0 K) (h : NmS H0 H v []) : F67.B50 K H0.length v H := by
  unfold F67.B50 F67.L46
  refine ⟨fun x2 x4 x13 G => H0.length = x2 ∧ ∃ (i : Nat) (es : List (Int × Int)), x13 = 5 * (i : Int) ∧ i ≤ 2 ∧ NmS H0 G x4 es ∧ EdR 10 es ∧ es.length = 7 * i, fun _ _ x13 _ => 10 - x13.toNat, ⟨rfl, 0, [], rfl, by omega, h, .nil, rfl⟩, ?_⟩
  rintro x2 x4 x13 G ⟨rfl, i, es, rfl, hi, hS, hE, hl⟩
  unfold F67.B49
  refine pif_cases (fun hb => ?_) fun hb => ?_
  · have hlt := of_decide_eq_true hb
    unfold F67.B48
    obtain ⟨x, hx⟩ : ∃ x, x = 5 * (i : Int) := ⟨_, rfl⟩
    rw [← hx]
    rw [wrap_id (x := x + 1) (by omega) (by omega), wrap_id (x := x + 2) (by omega) (by omega), wrap_id (x := x + 3) (by omega) (by omega), wrap_id (x := x + 4) (by omega) (by omega)]
    refine hS.push [(x, x + 2), (x, x + 3), (x + 1, x + 2), (x + 1, x + 3), (x + 2, x + 3), (x, x + 4), (x + 1, x + 4)] rfl rfl (by simp) (by simp; omega) fun v' G' h' => ?_
    unfold F67.B47
    rw [wrap_id (by omega) (by omega)]
    exact ⟨⟨rfl, i + 1, _, by omega, by omega, h', hE.app (by refine .cons ?_ ?_ (.cons ?_ ?_ (.cons ?_ ?_ (.cons ?_ ?_ (.cons ?_ ?_ (.cons ?_ ?_ (.cons ?_ ?_ .nil)))))) <;> omega), by simp; omega⟩, by show 10 - (x + 5).toNat < 10 - x.toNat; omega⟩
  · have hge := of_decide_eq_false hb
    unfold F67.B45
    refine hS.push [(4, 9)] rfl rfl (by simp) (by simp; omega) fun v' G' h' => ?_
    exact h'.made k (n := 10) (hE.app (.cons (by decide) (by decide) .nil)) (by simp) (by simp; omega)
theorem named_start {nm : ByteArray} (h : ∀ H1 v, NmS H H1 v [] → F67.B60 K nm H.length v H1) : AC Tryz.prog T0 67 [.string nm] H K := by
  apply F67.ac
  unfold F67.B62
  refine newK_f rfl fun H1 l1 n1 o1 => ?_
  unfold F67.B61
  refine newK_f rfl fun H2 l2 n2 o2 => ?_
  exact h H2 _ ⟨.of_le (AHeap.le_trans l1 l2), o1.le l2, .inr ⟨_, 0, by omega, rfl, o2, rfl⟩⟩
theorem named_petersen (k : NamK 10 15 H K) : AC Tryz.prog T0 67 [.string ⟨#[112, 101, 116, 101, 114, 115, 101, 110]⟩] H K := by
  refine named_start fun H1 v h => ?_
  unfold F67.B60 F67.B59
  refine pif_f (by decide +kernel) ?_
  unfold F67.B58
  refine pif_f (by decide +kernel) ?_
  unfold F67.B57
  refine pif_f (by decide +kernel) ?_
  unfold F67.B56
  refine pif_f (by decide +kernel) ?_
  unfold F67.B55
  refine pif_f (by decide +kernel) ?_
  unfold F67.B54
  exact pif_t (by decide +kernel) (nm_petersen k h)
theorem nm_tietze (k : NamK 12 40 H0 K) (h : NmS H0 H v []) : F67.B37 K H0.length v H := by
  unfold F67.B37
  refine named_petersen fun v0 es0 G0 l0 f0 g0 c0 => tup2_mk (agg2_mk (asI_mk (asB_mk (newK_f rfl fun H2 l2 n2 o2 => stK_f (new := [.int .i64 10, v0]) o2 (by simp) (mem_iv (fresh_one f0)) rfl fun H3 b3 o3 => ?_))))
  have l3 : G0.le H3 := b3.le l2 (Nat.le_refl _)
  have h3 := h.le (AHeap.le_trans l0 l3)
  have f3 := f0.le l3
  have hl0 := l0.1
  unfold F67.B36 F67.L31
  refine ⟨fun x2 x4 x9 x11 G => H0.length = x2 ∧ G0.length = x9 ∧ ∃ (i : Nat) (es : List (Int × Int)), x11 = i ∧ i ≤ es0.length ∧ NmS H0 G x4 es ∧ EdR 12 es ∧ es.length ≤ i ∧ Own G G0.length 26 [.int .i64 10, v0] ∧ Fresh H.length G v0 78 2 (LE es0) ∧ ∀ b, bk x4 = some b → b ≠ G0.length ∧ bk v0 ≠ some b, fun _ _ _ x11 _ => es0.length - x11.toNat, ⟨rfl, rfl, 0, [], rfl, by omega, h3, .nil, by simp, o3, f3, fun b hb => ?_⟩, ?_⟩
  · have h4 := (h.f.bk_lt hb).2
    exact ⟨by omega, fun e => by have := (f0.bk_lt e).1; omega⟩
  rintro x2 x4 x9 x11 G ⟨rfl, rfl, i, es, rfl, hi, hS, hE, hl, oG, fG, hbk⟩
  have eG := fG.edges
  unfold F67.B35
  refine ld1_own oG rfl (eG.len (pif_cases (fun hb => ?_) fun hb => ?_))
  · have hlt : i < es0.length := by have := of_decide_eq_true hb; omega
    have hm : es0.getD i (0, 0) ∈ es0 := by rw [getD_of hlt]; exact List.getElem_mem _
    have hr := g0.rng _ hm
    have hr12 : EdR 12 (es ++ [es0.getD i (0, 0)]) := fun e he => by
      rcases List.mem_append.1 he with he | he
      · exact hE e he
      · rw [List.mem_singleton.1 he]; omega
    obtain ⟨bb, oo, hk, q1, q2⟩ := eG.idx (show (0 : Int) ≤ i by omega) (by omega)
    simp only [Int.toNat_natCast] at q1 q2
    unfold F67.B34
    refine ld1_own oG rfl (hk _ (ldI_mk q1 (pif_cases (fun hc => ?_) fun hc => ?_)))
    · unfold F67.B33
      refine ld1_own oG rfl (hk _ (ldI_mk q1 (ldI_mk q2 ?_)))
      refine push_edge (x := es0.getD i (0, 0)) hS.f hS.len (by omega) fun v' G' k1 ot nb f' => ?_
      unfold F67.B32
      rw [wrap_id (by omega) (by omega)]
      refine ⟨⟨rfl, rfl, i + 1, _, by omega, by omega, ⟨hS.kp.trans k1, k1.own hS.ob (Nat.lt_succ_self _), f'⟩, hr12, by simp; omega, ot _ _ (fun e => (hbk _ e).1 rfl) oG, fresh_oth fG fun b o hb ho => ot b o (fun e => (hbk b e).2 hb) ho, fun b hb => ?_⟩, by simp; omega⟩
      have h4 := nb b hb
      have h5 := oG.lt
      exact ⟨by omega, fun e => by have := (fG.bk_lt e).2; omega⟩
    · unfold F67.B32
      rw [wrap_id (by omega) (by omega)]
      exact ⟨⟨rfl, rfl, i + 1, es, by omega, by omega, hS, hE, by omega, oG, fG, hbk⟩, by simp; omega⟩
  · unfold F67.B30
    refine hS.cyc (n := 12) [0, 10, 11] rfl rfl hE (fun x hx => by simp at hx; omega) (by simp; omega) fun v1 es1 G1 h1 r1 e1 => ?_
    have e1 : es1.length = es.length + 3 := e1
    unfold F67.B29
    refine h1.push [(0, 1), (10, 4), (11, 5)] rfl rfl (by simp) (by simp; omega) fun v2 G2 h2 => ?_
    exact h2.made k (n := 12) (r1.app (by refine .cons ?_ ?_ (.cons ?_ ?_ (.cons ?_ ?_ .nil)) <;> decide)) (by simp) (by simp; omega)
/-- The names. -/
def nameL : List ByteArray := [⟨#[116, 104, 101, 116, 97]⟩, ⟨#[107, 52]⟩, ⟨#[107, 51, 51]⟩, ⟨#[112, 114, 105, 115, 109]⟩, ⟨#[99, 117, 98, 101]⟩, ⟨#[112, 101, 116, 101, 114, 115, 101, 110]⟩, ⟨#[116, 105, 101, 116, 122, 101]⟩, ⟨#[102, 108, 111, 119, 101, 114, 53]⟩, ⟨#[98, 114, 105, 100, 103, 101]⟩]
theorem named_tietze (k : NamK 12 40 H K) : AC Tryz.prog T0 67 [.string ⟨#[116, 105, 101, 116, 122, 101]⟩] H K := by
  refine named_start fun H1 v h => ?_
  unfold F67.B60 F67.B59
  refine pif_f (by decide +kernel) ?_
  unfold F67.B58
  refine pif_f (by decide +kernel) ?_
  unfold F67.B57
  refine pif_f (by decide +kernel) ?_
  unfold F67.B56
  refine pif_f (by decide +kernel) ?_
  unfold F67.B55
  refine pif_f (by decide +kernel) ?_
  unfold F67.B54
  refine pif_f (by decide +kernel) ?_
  unfold F67.B53
  exact pif_t (by decide +kernel) (nm_tietze k h)
theorem l01Named_ok {nm : ByteArray} (hn : nm ∈ nameL) (k : ∀ n, 2 ≤ n → n ≤ 20 → NamK n 40 H K) : AC Tryz.prog T0 67 [.string nm] H K := by
  unfold nameL at hn
  simp only [List.mem_cons, List.not_mem_nil, or_false] at hn
  rcases hn with rfl | rfl | rfl | rfl | rfl | rfl | rfl | rfl | rfl
  · refine named_start fun H1 v h => ?_
    unfold F67.B60 F67.B59
    exact pif_t (by decide +kernel) (nm_theta (k 2 (by decide) (by decide)) h)
  · refine named_start fun H1 v h => ?_
    unfold F67.B60 F67.B59
    refine pif_f (by decide +kernel) ?_
    unfold F67.B58
    exact pif_t (by decide +kernel) (nm_k4 (k 4 (by decide) (by decide)) h)
  · refine named_start fun H1 v h => ?_
    unfold F67.B60 F67.B59
    refine pif_f (by decide +kernel) ?_
    unfold F67.B58
    refine pif_f (by decide +kernel) ?_
    unfold F67.B57
    exact pif_t (by decide +kernel) (nm_k33 (k 6 (by decide) (by decide)) h)
  · refine named_start fun H1 v h => ?_
    unfold F67.B60 F67.B59
    refine pif_f (by decide +kernel) ?_
    unfold F67.B58
    refine pif_f (by decide +kernel) ?_
    unfold F67.B57
    refine pif_f (by decide +kernel) ?_
    unfold F67.B56
    exact pif_t (by decide +kernel) (nm_prism (k 6 (by decide) (by decide)) h)
  · refine named_start fun H1 v h => ?_
    unfold F67.B60 F67.B59
    refine pif_f (by decide +kernel) ?_
    unfold F67.B58
    refine pif_f (by decide +kernel) ?_
    unfold F67.B57
    refine pif_f (by decide +kernel) ?_
    unfold F67.B56
    refine pif_f (by decide +kernel) ?_
    unfold F67.B55
    exact pif_t (by decide +kernel) (nm_cube (k 8 (by decide) (by decide)) h)
  · exact named_petersen fun v es G l f g c => k 10 (by decide) (by decide) v es G l f g (by omega)
  · exact named_tietze (k 12 (by decide) (by decide))
  · refine named_start fun H1 v h => ?_
    unfold F67.B60 F67.B59
    refine pif_f (by decide +kernel) ?_
    unfold F67.B58
    refine pif_f (by decide +kernel) ?_
    unfold F67.B57
    refine pif_f (by decide +kernel) ?_
    unfold F67.B56
    refine pif_f (by decide +kernel) ?_
    unfold F67.B55
    refine pif_f (by decide +kernel) ?_
    unfold F67.B54
    refine pif_f (by decide +kernel) ?_
    unfold F67.B53
    refine pif_f (by decide +kernel) ?_
    unfold F67.B52
    exact pif_t (by decide +kernel) (nm_flower (k 20 (by decide) (by decide)) h)
  · refine named_start fun H1 v h => ?_
    unfold F67.B60 F67.B59
    refine pif_f (by decide +kernel) ?_
    unfold F67.B58
    refine pif_f (by decide +kernel) ?_
    unfold F67.B57
    refine pif_f (by decide +kernel) ?_
    unfold F67.B56
    refine pif_f (by decide +kernel) ?_
    unfold F67.B55
    refine pif_f (by decide +kernel) ?_
    unfold F67.B54
    refine pif_f (by decide +kernel) ?_
    unfold F67.B53
    refine pif_f (by decide +kernel) ?_
    unfold F67.B52
    refine pif_f (by decide +kernel) ?_
    unfold F67.B51
    exact pif_t (by decide +kernel) (nm_bridge (k 10 (by decide) (by decide)) h)
end Go.Proofs
/- Contracts: drawn graphs. -/
set_option linter.unusedVariables false
set_option linter.unusedSimpArgs false
set_option maxRecDepth 100000
namespace Go.Proofs
open Go.Abs

variable {H G G' Hb H0 : AHeap} {v u f w : Value} {l m D : List Int} {es fs : List (Int × Int)} {K : Value → AHeap → Prop} {bs : Nat} {n : Int}

theorem sl_edges {m0 : Nat} {t : TypeId} (h : Sl m0 H v t 2 (LE es)) : Edges H v es := by
  rcases h with ⟨h1, h2⟩ | ⟨b, n, pre, post, h1, rfl, h3, h4⟩
  · have : es = [] := by
      cases es with
      | nil => rfl
      | cons x l => rw [LE_cons] at h1; cases h1
    subst this
    rcases h2 with rfl | ⟨a, rfl⟩
    · exact .inl ⟨rfl, rfl⟩
    · exact .inr ⟨a, 0, rfl, .inl rfl⟩
  · have hn : n = es.length := by rw [LE_length] at h4; omega
    subst hn
    refine .inr ⟨_, _, rfl, .inr ⟨rfl, fun i x hx => ?_⟩⟩
    have hi : i < es.length := lt_of_get hx
    have hg := LE_get es i x hx
    have key : ∀ j, j < (LE es).length → H.cell b (pre.length + j) = (LE es)[j]? := fun j hj => by
      rw [h3.cell, List.append_assoc, List.getElem?_append_right (Nat.le_add_right _ _), Nat.add_sub_cancel_left, List.getElem?_append_left hj]
    have hl := LE_length es
    refine ⟨?_, ?_⟩
    · rw [key _ (by omega)]; exact hg.1
    · rw [Nat.add_assoc, key _ (by omega)]; exact hg.2
/-- Edges that can be read whatever is drawn later on. -/
def EdB (bs : Nat) (H : AHeap) (v : Value) (es : List (Int × Int)) : Prop := ∀ G, Kb bs H G → Edges G v es
theorem EdB.now (h : EdB bs H v es) : Edges H v es := h H .refl
theorem EdB.kb (h : EdB bs H v es) (k : Kb bs H G) : EdB bs G v es := fun G' k' => h G' (k.trans k')
theorem EdB.sl {m0 : Nat} (h : Sl m0 H v 78 2 (LE es)) (hm : bs < m0) : EdB bs H v es := fun G k => by
  rcases h with h | ⟨b, n, pre, post, h1, h2, h3, h4⟩
  · exact sl_edges (m0 := m0) (t := 78) (.inl h)
  · exact sl_edges (m0 := m0) (.inr ⟨b, n, pre, post, h1, h2, k.old b _ (by omega) h3, h4⟩)
theorem EdB.of {m0 : Nat} (h : Fresh m0 H v 78 2 (LE es)) (hm : bs < m0) : EdB bs H v es := .sl h.sl hm
theorem Src.but {x : Nat} (h : Src Hb bs G) (b : But x G G') (hx : bs < x) : Src Hb bs G' := by
  obtain ⟨h1, h2, cv, l, a, y, h3, h4, h5, h6, h7⟩ := h
  exact ⟨b.le h1 (by omega), h2, cv, l, a, y, h3, h4, b.own h5 (by omega), h6, h7⟩
theorem Kb.but {x : Nat} (h : Kb bs H G) (b : But x G G') (hx : H.length ≤ x) : Kb bs H G' := ⟨by rw [b.len]; exact h.len, fun q o hq ho => by
  have := lt_of_get ho
  rw [b.same q (by omega)]; exact h.old q o hq ho⟩
theorem Kb.own {b : Nat} {t : TypeId} {cs : List Value} (h : Kb bs H G) (o : Own H b t cs) (hb : b ≠ bs) : Own G b t cs := h.old b _ hb o
theorem fresh_kb {m0 : Nat} {t : TypeId} {z : Nat} {cs : List Value} (h : Fresh m0 H v t z cs) (k : Kb bs H G) (hm : bs < m0) : Fresh m0 G v t z cs := fresh_oth h fun b o hb ho => k.old b o (by have := (h.bk_lt hb).1; omega) ho
/-- A drawn graph put into the result. -/
theorem draw_tail {x2 : Nat} (s : Src Hb bs G) (kb : Kb bs H G) (hbs : bs < x2) (hx : H.length ≤ x2) (ob : Own G x2 26 [.int .i64 0, .slice none 0 0]) (h1 : v.oneCell' = true) (k : ∀ G', But x2 G G' → Kb bs H G' → Src Hb bs G' → K (.agg ⟨[.int .i64 n, v]⟩) G') :
    stK G x2 0 [.int .i64 n, v] (fun H7 => ldI .i64 H7 x2 0 (fun v8 => ld1 H7 x2 1 (fun v9 => K (.agg ⟨[.int .i64 v8, v9]⟩) H7))) := by
  refine stK_f (new := [.int .i64 n, v]) ob (by simp) (mem_iv h1) rfl fun G5 b5 o5 => ldI_own o5 rfl (ld1_own o5 rfl ?_)
  exact k G5 b5 (kb.but b5 hx) (s.but b5 hbs)
/-- A sound graph, of any size that is drawn. -/
structure Gd2 (n : Int) (es : List (Int × Int)) : Prop where
  pos : 0 < es.length
  len : es.length ≤ 2000
  rng : EdR n es
  lo : 2 ≤ n
  hi : n ≤ 200
theorem name_get {i c : Nat} (h : i < c) (hc : c ≤ 9) : ∃ nm ∈ nameL, ((nameL.take c).map Value.string)[i]? = some (.string nm) := by
  have hi : i < nameL.length := by have : nameL.length = 9 := rfl; omega
  refine ⟨nameL[i], List.getElem_mem hi, ?_⟩
  rw [List.getElem?_map, List.getElem?_take_of_lt h, List.getElem?_eq_getElem hi]; rfl

theorem l01Small_ok (hs : Src Hb bs H) (k : ∀ v' n es G, Kb bs H G → Src Hb bs G → Fresh H.length G v' 78 2 (LE es) → Gd n es → 2 ≤ n → n ≤ 20 → K (.agg ⟨[.int .i64 n, v']⟩) G) :
    AC Tryz.prog T0 82 [.pointer (some ⟨bs, 0, none⟩)] H K := by
  have hbs := hs.lt
  apply F82.ac
  unfold F82.B6
  refine newK_f rfl fun H1 l1 n1 o1 => ?_
  unfold F82.B5
  refine l01Next_ok (hs.le l1) fun r G1 k1 s1 r0 r1 _ => asI_mk (pif_cases (fun hb => ?_) fun hb => ?_)
  · unfold F82.B4
    have kb1 : Kb bs H G1 := (Kb.of_le l1).trans k1
    have ob1 := k1.own o1 (by omega)
    refine newK_f rfl fun G2 l2 n2 o2 => ?_
    have kb2 := kb1.trans (.of_le l2)
    have hG1 := kb1.len
    unfold F82.B3
    refine lenK_of (l01Next_ok (s1.le l2) fun r' G3 k3 s3 r0' r1' _ => asI_mk ?_)
    have hr := r1' (by decide)
    obtain ⟨nm, hnm, hget⟩ := name_get (i := r'.toNat) (c := 6) (by omega) (by decide)
    have o3 := k3.own o2 (by omega)
    have kb3 := kb2.trans k3
    have hG3 := kb3.len
    have ob3 := k3.own (ob1.le l2) (by omega)
    refine own_idx r0' hr (ld1_own o3 hget (asS_mk (l01Named_ok hnm fun n a0 a1 v0 es0 G4 l4 f4 g4 c4 => tup2_mk (agg2_mk (asI_mk (asB_mk (newK_f rfl fun G5 l5 n5 o5 => stK_f (new := [.int .i64 n, v0]) o5 (by simp) (mem_iv (fresh_one f4)) rfl fun G6 b6 o6 => ?_)))))))
    have l6 : G4.le G6 := b6.le l5 (Nat.le_refl _)
    have l36 := AHeap.le_trans l4 l6
    have f6 := f4.le l6
    have s6 := s3.le l36
    have ob6 := ob3.le l36
    have kb6 := kb3.trans (.of_le l36)
    have hG6 := kb6.len
    have hl4 := l4.1
    unfold F82.B2
    refine ldI_own o6 rfl (ld1_own o6 rfl (ldI_own o6 rfl (l01DrawOrder_ok s6 (by omega) fun w D G7 k7 s7 f7 hDl hDr => ?_)))
    have o7 := k7.own o6 (by omega)
    have ob7 := k7.own ob6 (by omega)
    have kb7 := kb6.trans k7
    have f67 := fresh_kb f6 k7 (by omega)
    refine ⟨ldI_own o7 rfl (ld1_own o7 rfl ⟨rfl, rfl⟩), ?_⟩
    refine l01Renamed_ok f67.edges g4 f7.ints hDl hDr fun v' es' G8 l8 f8 g8 => agg2_mk (asI_mk (draw_tail (s7.le l8) (kb7.trans (.of_le l8)) hbs (Nat.le_refl _) (ob7.le l8) (fresh_one f8) fun G9 b9 kb9 s9 => ?_))
    have hG7 := ob7.lt
    exact k v' n es' G9 kb9 s9 (f8.but b9 (by omega) |>.less (by omega)) g8 a0 a1
  · unfold F82.B1
    have kb1 : Kb bs H G1 := (Kb.of_le l1).trans k1
    have ob1 := k1.own o1 (by omega)
    have hG1 := k1.len
    refine newK_f rfl fun G2 l2 n2 o2 => ?_
    refine l01Pick_ok (l := [2, 4, 4, 6, 6, 8, 8, 10]) (s1.le l2) (own_ints (l := [2, 4, 4, 6, 6, 8, 8, 10]) o2) (by decide) (by decide) (fun x hx => by simp at hx; omega) (fun G3 k3 => own_ints (l := [2, 4, 4, 6, 6, 8, 8, 10]) (k3.own o2 (by omega))) fun r' G3 k3 s3 hr => asI_mk ?_
    have hr : 2 ≤ r' ∧ r' ≤ 10 ∧ r' % 2 = 0 := by simp at hr; omega
    have kb3 := (kb1.trans (.of_le l2)).trans k3
    have ob3 := k3.own (ob1.le l2) (by omega)
    have hG3 := k3.len
    have hG2 := l2.1
    refine l01DrawOf_ok s3 hr.1 (by omega) hr.2.2 fun v' es' G4 k4 s4 f4 g4 => agg2_mk (asI_mk (draw_tail s4 (kb3.trans k4) hbs (Nat.le_refl _) (k4.own ob3 (by omega)) (fresh_one f4) fun G9 b9 kb9 s9 => ?_))
    exact k v' r' es' G9 kb9 s9 (f4.but b9 (by omega) |>.less (by omega)) g4 hr.1 (by omega)

theorem l01Beside_ok {n2 : Int} (h : Edges H v es) (g : Edges H w fs) (hg : Gd n es) (hf : Gd n2 fs) (a0 : 2 ≤ n) (a1 : n ≤ 100) (b0 : 2 ≤ n2) (b1 : n2 ≤ 100) (k : ∀ v' es' G, H.le G → Fresh H.length G v' 78 2 (LE es') → Gd2 (n + n2) es' → K (.agg ⟨[.int .i64 (n + n2), v']⟩) G) :
    AC Tryz.prog T0 153 [.agg ⟨[.int .i64 n, v]⟩, .agg ⟨[.int .i64 n2, w]⟩] H K := by
  have gl := hg.len; have fl := hf.len; have gp := hg.pos
  apply F153.ac
  unfold F153.B8
  refine newK_f (all_iv (edges_one' h)) fun H1 l1 n1 o1 => newK_f (all_iv (edges_one' g)) fun H2 l2 n2' o2 => newK_f rfl fun H3 l3 n3 o3 => ?_
  have o13 := (o1.le l2).le l3
  have o23 := o2.le l3
  have l03 := AHeap.le_trans l1 (AHeap.le_trans l2 l3)
  have hl03 := l03.1
  unfold F153.B7
  refine newK_f rfl fun H4 l4 n4 o4 => ld1_own (o13.le l4) rfl ?_
  have l04 := AHeap.le_trans l03 l4
  refine app_edges (m0 := H3.length) (es := []) (Fresh.sl (.inr ⟨_, 0, Nat.le_refl _, rfl, o4, rfl⟩)) l4.1 (h.le l04) gp (by simp; omega) fun v5 H5 k5 _ f5 => ?_
  have kp5 := (Keep.of_le l4).trans k5
  rw [List.nil_append] at f5
  unfold F153.B6 F153.L2
  refine ⟨fun x2 x3 x4 x5 x6 G => H.length = x2 ∧ H1.length = x3 ∧ H2.length = x4 ∧ Keep H3.length H3 G ∧ ∃ (i : Nat) (es' : List (Int × Int)), x6 = i ∧ i ≤ fs.length ∧ Fresh H3.length G x5 78 2 (LE es') ∧ EdR (n + n2) es' ∧ es'.length = es.length + i, fun _ _ _ _ x6 _ => fs.length - x6.toNat, ⟨rfl, rfl, rfl, kp5, 0, es, rfl, by omega, f5, hg.rng.up (by omega), rfl⟩, ?_⟩
  rintro x2 x3 x4 x5 x6 G ⟨rfl, rfl, rfl, kp, i, es', rfl, hi, hF, hE, hl⟩
  have lG : H.le G := kp.le l03 hl03
  have p1 := kp.own o13 (o13.lt); have p2 := kp.own o23 (o23.lt); have p3 := kp.own o3 (o3.lt)
  have hgG := g.le lG
  unfold F153.B5
  refine ld1_own p2 rfl (hgG.len (pif_cases (fun hb => ?_) fun hb => ?_))
  · have hlt : i < fs.length := by have := of_decide_eq_true hb; omega
    have hm : fs.getD i (0, 0) ∈ fs := by rw [getD_of hlt]; exact List.getElem_mem _
    have hr := hf.rng _ hm
    obtain ⟨bb, oo, hk, q1, q2⟩ := hgG.idx (show (0 : Int) ≤ i by omega) (by omega)
    simp only [Int.toNat_natCast] at q1 q2
    unfold F153.B4
    refine ld1_own p2 rfl (hk _ (ldI_mk q1 (ldI_own p1 rfl (ld1_own p2 rfl (hk _ (ldI_mk q2 (ldI_own p1 rfl ?_)))))))
    rw [wrap_id (by omega) (by omega), wrap_id (by omega) (by omega)]
    refine push_edge (x := ((fs.getD i (0, 0)).1 + n, (fs.getD i (0, 0)).2 + n)) hF kp.len (by omega) fun v3 G4 k4 _ _ f4 => ?_
    unfold F153.B3
    rw [wrap_id (by omega) (by omega)]
    exact ⟨⟨rfl, rfl, rfl, kp.trans k4, i + 1, _, by omega, by omega, f4, hE.snoc ⟨by omega, by omega⟩ ⟨by omega, by omega⟩, by simp; omega⟩, by simp; omega⟩
  · have hge := of_decide_eq_false hb
    unfold F153.B1
    refine ldI_own p1 rfl (ldI_own p2 rfl ?_)
    rw [wrap_id (by omega) (by omega)]
    refine l01Made_ok hF.edges (by omega) fun v' G2 l2' f2 => agg2_mk (asI_mk ?_)
    have hkl := kp.len
    refine stK_f (new := [.int .i64 (n + n2), v']) (p3.le l2') (by simp) (mem_iv (fresh_one f2)) rfl fun G5 b5 o5 => ldI_own o5 rfl (ld1_own o5 rfl ?_)
    have h3 := o3.lt
    have h12 := l1.1
    have h22 := l2.1
    exact k v' _ G5 (b5.le (AHeap.le_trans lG l2') (by omega)) ((f2.but b5 (by omega)).less (by omega)) ⟨by rw [srtE_length, List.length_map]; omega, by rw [srtE_length, List.length_map]; omega, hE.made, by omega, by omega⟩
theorem Gd.two (h : Gd n es) (a : 2 ≤ n) (b : n ≤ 200) : Gd2 n es := ⟨h.pos, by have := h.len; omega, h.rng, a, b⟩

theorem l01Draw_ok (hs : Src Hb bs H) (k : ∀ v' n es G, Kb bs H G → Src Hb bs G → Fresh H.length G v' 78 2 (LE es) → Gd2 n es → K (.agg ⟨[.int .i64 n, v']⟩) G) :
    AC Tryz.prog T0 96 [.pointer (some ⟨bs, 0, none⟩)] H K := by
  have hbs := hs.lt
  apply F96.ac
  unfold F96.B8
  refine newK_f rfl fun H1 l1 n1 o1 => ?_
  unfold F96.B7
  refine l01Next_ok (hs.le l1) fun r G1 k1 s1 r0 r1 _ => asI_mk ?_
  have kb1 : Kb bs H G1 := (Kb.of_le l1).trans k1
  have ob1 := k1.own o1 (by omega)
  have hG1 := k1.len
  refine pif_cases (fun hb => ?_) fun hb => ?_
  · unfold F96.B6
    apply F152.ac
    unfold F152.B2 F152.B1
    refine newK_f rfl fun G2 l2 n2 o2 => ?_
    have kb2 := kb1.trans (.of_le l2)
    unfold F96.B5
    refine lenK_of (l01Next_ok (s1.le l2) fun r' G3 k3 s3 r0' r1' _ => asI_mk ?_)
    have hr := r1' (by decide)
    obtain ⟨nm, hnm, hget⟩ := name_get (i := r'.toNat) (c := 9) (by omega) (by decide)
    have o3 := k3.own o2 (by omega)
    have kb3 := kb2.trans k3
    have hG3 := kb3.len
    have ob3 := k3.own (ob1.le l2) (by omega)
    refine own_idx r0' hr (ld1_own o3 hget (asS_mk (l01Named_ok hnm fun n a0 a1 v0 es0 G4 l4 f4 g4 c4 => tup2_mk (agg2_mk (asI_mk (asB_mk (newK_f rfl fun G5 l5 n5 o5 => stK_f (new := [.int .i64 n, v0]) o5 (by simp) (mem_iv (fresh_one f4)) rfl fun G6 b6 o6 => ?_)))))))
    have l6 : G4.le G6 := b6.le l5 (Nat.le_refl _)
    have l36 := AHeap.le_trans l4 l6
    have f6 := f4.le l6
    have s6 := s3.le l36
    have ob6 := ob3.le l36
    have kb6 := kb3.trans (.of_le l36)
    have hG6 := kb6.len
    have hl4 := l4.1
    unfold F96.B4
    refine ldI_own o6 rfl (ld1_own o6 rfl (ldI_own o6 rfl (l01DrawOrder_ok s6 (by omega) fun w D G7 k7 s7 f7 hDl hDr => ?_)))
    have o7 := k7.own o6 (by omega)
    have ob7 := k7.own ob6 (by omega)
    have kb7 := kb6.trans k7
    have f67 := fresh_kb f6 k7 (by omega)
    refine ⟨ldI_own o7 rfl (ld1_own o7 rfl ⟨rfl, rfl⟩), ?_⟩
    refine l01Renamed_ok f67.edges g4 f7.ints hDl hDr fun v' es' G8 l8 f8 g8 => agg2_mk (asI_mk (draw_tail (s7.le l8) (kb7.trans (.of_le l8)) hbs (Nat.le_refl _) (ob7.le l8) (fresh_one f8) fun G9 b9 kb9 s9 => ?_))
    have hG7 := ob7.lt
    exact k v' n es' G9 kb9 s9 (f8.but b9 (by omega) |>.less (by omega)) (g8.two a0 (by omega))
  · unfold F96.B3
    refine l01Next_ok s1 fun r' G2 k2 s2 r0' r1' _ => asI_mk ?_
    have kb2 := kb1.trans k2
    have ob2 := k2.own ob1 (by omega)
    have hG2 := k2.len
    refine pif_cases (fun hb => ?_) fun hb => ?_
    · unfold F96.B2
      refine l01Small_ok s2 fun va na ea G3 k3 s3 f3 g3 a0 a1 => agg2_mk (asI_mk ?_)
      have hG3 := k3.len
      refine l01Small_ok s3 fun vb nb eb G4 k4 s4 f4 g4 b0 b1 => agg2_mk (asI_mk ?_)
      have f34 := fresh_kb f3 k4 (by omega)
      have kb4 := (kb2.trans k3).trans k4
      have ob4 := k4.own (k3.own ob2 (by omega)) (by omega)
      have hG4 := k4.len
      refine l01Beside_ok f34.edges f4.edges g3 g4 a0 (by omega) b0 (by omega) fun v' es' G8 l8 f8 g8 => agg2_mk (asI_mk (draw_tail (s4.le l8) (kb4.trans (.of_le l8)) hbs (Nat.le_refl _) (ob4.le l8) (fresh_one f8) fun G9 b9 kb9 s9 => ?_))
      exact k v' _ es' G9 kb9 s9 (f8.but b9 (by omega) |>.less (by omega)) g8
    · unfold F96.B1
      refine newK_f rfl fun G3 l3 n3 o3 => ?_
      refine l01Pick_ok (l := [2, 4, 6, 8, 10, 12, 14, 20]) (s2.le l3) (own_ints (l := [2, 4, 6, 8, 10, 12, 14, 20]) o3) (by decide) (by decide) (fun x hx => by simp at hx; omega) (fun G3 k3 => own_ints (l := [2, 4, 6, 8, 10, 12, 14, 20]) (k3.own o3 (by omega))) fun r' G4 k4 s4 hr => asI_mk ?_
      have hr : 2 ≤ r' ∧ r' ≤ 20 ∧ r' % 2 = 0 := by simp at hr; omega
      have kb4 := (kb2.trans (.of_le l3)).trans k4
      have ob4 := k4.own (ob2.le l3) (by omega)
      have hG4 := k4.len
      have hG3 := l3.1
      refine l01DrawOf_ok s4 hr.1 (by omega) hr.2.2 fun v' es' G5 k5 s5 f5 g5 => agg2_mk (asI_mk (draw_tail s5 (kb4.trans k5) hbs (Nat.le_refl _) (k5.own ob4 (by omega)) (fresh_one f5) fun G9 b9 kb9 s9 => ?_))
      exact k v' r' es' G9 kb9 s9 (f5.but b9 (by omega) |>.less (by omega)) (g5.two hr.1 (by omega))
end Go.Proofs
/- Contracts: chains and exchanges, both sides. -/
set_option linter.unusedVariables false
set_option linter.unusedSimpArgs false
set_option maxRecDepth 100000
namespace Go.Proofs
open Go.Abs

variable {H : AHeap} {v u f : Value} {l m c : List Int} {es fs : List (Int × Int)} {K : Value → AHeap → Prop}

theorem IsC.get {es : List (Int × Int)} {c : List Int} (h : IsC es c) (i : Nat) : 0 ≤ c.getD i 0 ∧ c.getD i 0 ≤ 2 := by
  by_cases hi : i < c.length
  · rw [getD_of hi]; exact h.rng _ (List.getElem_mem hi)
  · simp [List.getD, List.getElem?_eq_none (show c.length ≤ i by omega)]

end Go.Proofs
/- Exchanged colourings are colourings; what is reached from one, step by step; maps whose keys are strings; lists of lists that are handed on. -/
set_option linter.unusedVariables false
set_option linter.unusedSimpArgs false
set_option maxRecDepth 100000
namespace Go.Proofs
open Go.Abs

variable {H G : AHeap} {v u f w : Value} {l m c : List Int} {es fs : List (Int × Int)} {K : Value → AHeap → Prop} {ls L : List (List Int)} {bm : Nat}

/-- All lists are colourings. -/
def AllCol (es : List (Int × Int)) (L : List (List Int)) : Prop := ∀ l ∈ L, IsC es l
theorem AllCol.at {i : Nat} (h : AllCol es L) (hi : i < L.length) : IsC es (L.getD i []) := h _ (by rw [getD_of hi]; exact List.getElem_mem hi)
theorem pre_get {i : Nat} {M : List (List Int)} (hi : i < L.length) : (L ++ M).getD i [] = L.getD i [] := by
  simp [List.getD, List.getElem?_append_left hi]

/-- A map of one's own whose keys are these strings. -/
def StrM (G : AHeap) (b : Nat) (D : List ByteArray) : Prop := ∃ es cl, G[b]? = some (some (.map es cl)) ∧ es.toList.map MapEntry.key = D.map Value.string ∧ (∀ e ∈ es.toList, e.val = .bool true) ∧ ∀ d ∈ D, d.size ≤ maxLen
theorem StrM.le {b : Nat} {D : List ByteArray} (h : StrM H b D) (hl : H.le G) : StrM G b D := by
  obtain ⟨es, cl, h1, h2⟩ := h
  exact ⟨es, cl, hl.2 _ _ h1, h2⟩
theorem StrM.oth {b : Nat} {D : List ByteArray} (h : StrM H b D) (ho : Oth v H G) (hb : bk v ≠ some b) : StrM G b D := by
  obtain ⟨es, cl, h1, h2⟩ := h
  exact ⟨es, cl, ho _ _ hb h1, h2⟩
theorem StrM.lt {b : Nat} {D : List ByteArray} (h : StrM H b D) : b < H.length := by obtain ⟨es, cl, h1, _⟩ := h; exact lt_of_get h1
def bq : Value → Option Nat
  | .slice (some a) _ _ => some a.block
  | _ => none
theorem _root_.Go.Abs.Ints.move (h : Ints H v l) (k : ∀ b o, bq v = some b → H[b]? = some (some o) → G[b]? = some (some o)) : Ints G v l := by
  rcases h with h | ⟨⟨b, o, sp⟩, c, rfl, h2⟩
  · exact .inl h
  · refine .inr ⟨_, c, rfl, h2.imp id ?_⟩
    rintro ⟨h3, h4⟩
    refine ⟨h3, fun i x hx => ?_⟩
    have h5 := h4 i x hx
    unfold AHeap.cell at h5 ⊢
    cases hb : H[b]? with
    | none => rw [hb] at h5; cases h5
    | some o' =>
      cases o' with
      | none => rw [hb] at h5; cases h5
      | some o' => rw [k b o' rfl hb]; rw [hb] at h5; exact h5
/-- A readable list that is neither in the block bm nor in that of v. -/
def Iw (bm : Nat) (v : Value) (H : AHeap) (w : Value) (l : List Int) : Prop := Ints H w l ∧ ∀ b, bq w = some b → b < H.length ∧ b ≠ bm ∧ bk v ≠ some b
theorem Iw.le (h : Iw bm v H w l) (hl : H.le G) : Iw bm v G w l := ⟨h.1.le hl, fun b hb => ⟨Nat.lt_of_lt_of_le (h.2 b hb).1 hl.1, (h.2 b hb).2⟩⟩
theorem Iw.but (h : Iw bm v H w l) (hb : But bm H G) : Iw bm v G w l :=
  ⟨h.1.move fun b o hbw ho => by rw [hb.same b (h.2 b hbw).2.1]; exact ho, fun b hbw => ⟨by rw [hb.len]; exact (h.2 b hbw).1, (h.2 b hbw).2⟩⟩
theorem Iw.oth {v' : Value} (h : Iw bm v H w l) (ho : Oth v H G) (hl : H.length ≤ G.length) (hn : ∀ b, bk v' = some b → H.length ≤ b) : Iw bm v' G w l :=
  ⟨h.1.move fun b o hbw hbo => ho b o (h.2 b hbw).2.2 hbo, fun b hbw => by
    have := h.2 b hbw
    exact ⟨by omega, this.2.1, fun hv => by have := hn b hv; omega⟩⟩
/-- A list of one's own (perhaps cut) of lists that live elsewhere. -/
def QR (bm : Nat) (H : AHeap) (v : Value) (ls : List (List Int)) : Prop :=
  ∃ vs : List Value, Sl 0 H v 28 1 vs ∧ vs.length = ls.length ∧ bk v ≠ some bm ∧ ∀ i, i < ls.length → ∃ w, vs[i]? = some w ∧ Iw bm v H w (ls.getD i [])
theorem QR.le (h : QR bm H v ls) (hl : H.le G) : QR bm G v ls := by
  obtain ⟨vs, h1, h2, h3, h4⟩ := h
  exact ⟨vs, h1.le hl, h2, h3, fun i hi => by obtain ⟨w, g1, g2⟩ := h4 i hi; exact ⟨w, g1, g2.le hl⟩⟩
theorem sl_but2 {m0 b : Nat} {t : TypeId} {z : Nat} {cs : List Value} (h : Sl m0 H v t z cs) (hb : But b H G) (hv : bk v ≠ some b) : Sl m0 G v t z cs := by
  rcases h with h | ⟨b', n, pre, post, h1, rfl, h3, h4⟩
  · exact .inl h
  · exact .inr ⟨b', n, pre, post, h1, rfl, hb.own h3 (fun e => hv (by rw [e]; rfl)), h4⟩
theorem QR.but (h : QR bm H v ls) (hb : But bm H G) : QR bm G v ls := by
  obtain ⟨vs, h1, h2, h3, h4⟩ := h
  exact ⟨vs, sl_but2 h1 hb h3, h2, h3, fun i hi => by obtain ⟨w, g1, g2⟩ := h4 i hi; exact ⟨w, g1, g2.but hb⟩⟩
theorem QR.len (h : QR bm H v ls) {K : Nat → Prop} (k : K ls.length) : lenK v K := by
  obtain ⟨vs, h1, h2, _⟩ := h
  exact h1.len (by decide) (n := ls.length) (by omega) k
theorem QR.row (h : QR bm H v ls) {i : Nat} (hi : i < ls.length) {K : Value → Prop} (k : ∀ w, Iw bm v H w (ls.getD i []) → K w) : idxK v i 1 (fun b o => ld1 H b o K) := by
  obtain ⟨vs, h1, h2, h3, h4⟩ := h
  obtain ⟨w, g1, g2⟩ := h4 i hi
  exact Sl_rd h1 (by omega) (by omega) (by rw [Int.toNat_natCast]; exact g1) (k w g2)
theorem QR.push (h : QR bm H v ls) (hw : Iw bm v H w l) (hm : bm < H.length) (hs : ls.length < 4294967296) (k : ∀ v' G, Oth v H G → H.length ≤ G.length → (∀ b, bk v' = some b → H.length ≤ b) → QR bm G v' (ls ++ [l]) → K v' G) :
    pif w.oneCell' (newK H [w] 28 (fun b1 H2 => apK T0 28 H2 v (.slice (some ⟨b1, 0, none⟩) 1 (1 + 1)) K)) False := by
  have hw1 : w.oneCell' = true := ints_one hw.1
  refine pif_t hw1 ?_
  obtain ⟨vs, h1, h2, h3, h4⟩ := h
  refine h1.pushN E_row (by decide) (Nat.zero_le _) (n := 1) (ys := [w]) rfl (by simpa using hw1) (by simp; omega) (by simp) fun v' G k1 ot nb f' => k v' G ot k1.len nb ?_
  refine ⟨vs ++ [w], f'.sl, by simp [h2], fun hv => by have := nb bm hv; omega, fun i hi => ?_⟩
  by_cases e : i < ls.length
  · obtain ⟨w', g1, g2⟩ := h4 i e
    refine ⟨w', by rw [List.getElem?_append_left (by omega)]; exact g1, ?_⟩
    rw [pre_get e]
    exact g2.oth ot k1.len nb
  · have : i = ls.length := by simp at hi; omega
    subst this
    refine ⟨w, by rw [← h2]; simp, ?_⟩
    rw [show (ls ++ [l]).getD ls.length [] = l by simp [List.getD]]
    exact hw.oth ot k1.len nb
theorem QR.one {b : Nat} (ho : Own H b 28 [w]) (hb : b ≠ bm) (hw : Ints H w l) (hwb : ∀ b', bq w = some b' → b' < H.length ∧ b' ≠ bm ∧ b' ≠ b) : QR bm H (.slice (some ⟨b, 0, none⟩) 1 (1 + 1)) [l] := by
  refine ⟨[w], .inr ⟨b, 1, [], [], Nat.zero_le _, rfl, by simpa using ho, rfl⟩, rfl, fun h => by cases h; exact hb rfl, fun i hi => ?_⟩
  have : i = 0 := by simpa using hi
  subst this
  refine ⟨w, rfl, hw, fun q h => ⟨(hwb q h).1, (hwb q h).2.1, fun hv => (hwb q h).2.2 (Option.some.inj hv).symm⟩⟩

end Go.Proofs
/- Contracts: drawn graphs that seldom are none. -/
set_option linter.unusedVariables false
set_option linter.unusedSimpArgs false
set_option maxRecDepth 100000
namespace Go.Proofs
open Go.Abs

variable {H G G' Hb H0 : AHeap} {v u f w : Value} {l m D : List Int} {es fs : List (Int × Int)} {K : Value → AHeap → Prop} {bs : Nat} {n : Int}

theorem sl_kb {t : TypeId} {z : Nat} {cs : List Value} (h : Sl (bs + 1) H v t z cs) (k : Kb bs H G) : Sl (bs + 1) G v t z cs := by
  rcases h with h | ⟨b, n, pre, post, h1, h2, h3, h4⟩
  · exact .inl h
  · exact .inr ⟨b, n, pre, post, h1, h2, k.old b _ (by omega) h3, h4⟩
theorem sl_one {m0 : Nat} {t : TypeId} {z : Nat} {cs : List Value} (h : Sl m0 H v t z cs) : v.oneCell' = true := by
  rcases h with ⟨_, rfl | ⟨a, rfl⟩⟩ | ⟨b, n, pre, post, _, rfl, _⟩ <;> rfl
theorem LE_drop : ∀ (l : List (Int × Int)), (LE l).drop 2 = LE (l.drop 1)
  | [] => rfl
  | x :: l => rfl
theorem put_edge {m0 : Nat} {r a b : Int} {K : AHeap → Prop} (f : Fresh m0 G v 78 2 (LE es)) (h0 : 0 ≤ r) (h1 : r < es.length) (k : ∀ c G', m0 ≤ c → bk v = some c → But c G G' → Fresh m0 G' v 78 2 (LE (es.set r.toNat (a, b))) → K G') :
    idxK v r 2 (fun bb oo => stK G bb oo [.int .i64 a, .int .i64 b] K) := by
  have hlt : r.toNat < es.length := by omega
  rcases f with ⟨h, _⟩ | ⟨c, q, hc, rfl, o, hq⟩
  · have := congrArg List.length h
    rw [LE_length, List.length_nil] at this; omega
  · have hqe : q = es.length := by rw [LE_length] at hq; omega
    subst hqe
    refine own_idx2 h0 h1 (stK_f o (by rw [LE_length]; simp; omega) (by simp [Value.oneCell']) (LE_set es (a, b) hlt) fun G' b' o' => k c G' hc rfl b' (.inr ⟨c, es.length, hc, rfl, o', by rw [LE_length, List.length_set]⟩))
/-- The state inside: the given graph's box, the result, the edges. -/
structure BdS (Hb H : AHeap) (bs : Nat) (n : Int) (v : Value) (es : List (Int × Int)) (x5 : Value) (fs : List (Int × Int)) (G : AHeap) : Prop where
  kb : Kb bs H G
  s : Src Hb bs G
  o3 : Own G H.length 26 [.int .i64 n, v]
  o4 : Own G (H.length + 1) 26 [.int .i64 0, .slice none 0 0]
  f : Fresh (H.length + 2) G x5 78 2 (LE fs)
  lt : bs < H.length
theorem BdS.step {x5 : Value} (h : BdS Hb H bs n v es x5 fs G) (k : Kb bs G G') (s : Src Hb bs G') : BdS Hb H bs n v es x5 fs G' :=
  ⟨h.kb.trans k, s, k.own h.o3 (by have := h.lt; omega), k.own h.o4 (by have := h.lt; omega), fresh_kb h.f k (by have := h.lt; omega), h.lt⟩
theorem BdS.le {x5 : Value} (h : BdS Hb H bs n v es x5 fs G) (l : G.le G') : BdS Hb H bs n v es x5 fs G' := h.step (.of_le l) (h.s.le l)
theorem BdS.but {x5 : Value} {c : Nat} {fs' : List (Int × Int)} (h : BdS Hb H bs n v es x5 fs G) (b : But c G G') (hc : H.length + 2 ≤ c) (f : Fresh (H.length + 2) G' x5 78 2 (LE fs')) : BdS Hb H bs n v es x5 fs' G' :=
  ⟨h.kb.but b (by omega), h.s.but b (by have := h.lt; omega), b.own h.o3 (by omega), b.own h.o4 (by omega), f, h.lt⟩
theorem BdS.reread {x5 : Value} (h : BdS Hb H bs n v es x5 fs G) : ldI .i64 G H.length 0 (fun v7 => ((Value.int .i64 v7) = (Value.int .i64 n)) ∧ (G = G)) := ldI_own h.o3 rfl ⟨rfl, rfl⟩
/-- What may come out. -/
def BadK (Hb H : AHeap) (bs : Nat) (v : Value) (K : Value → AHeap → Prop) : Prop := ∀ v' n' es' G, Kb bs H G → Src Hb bs G → Sl (bs + 1) G v' 78 2 (LE es') → (∀ b, bk v' = some b → bk v = some b ∨ H.length ≤ b) → es'.length ≤ 2000 → -2 ≤ n' → n' ≤ 202 → K (.agg ⟨[.int .i64 n', v']⟩) G
theorem bad_put {x5 : Value} {n' : Int} {gs : List (Int × Int)} (k : BadK Hb H bs v K) (h : BdS Hb H bs n v es x5 fs G) (hs : Sl (bs + 1) G w 78 2 (LE gs)) (hw : bk w ≠ some (H.length + 1)) (hv : ∀ b, bk w = some b → bk v = some b ∨ H.length ≤ b) (hl : gs.length ≤ 2000) (h0 : -2 ≤ n') (h1 : n' ≤ 202) :
    stK G (H.length + 1) 0 [.int .i64 n', w] (fun H7 => ldI .i64 H7 (H.length + 1) 0 (fun v8 => ld1 H7 (H.length + 1) 1 (fun v9 => K (.agg ⟨[.int .i64 v8, v9]⟩) H7))) := by
  have hbs := h.lt
  exact draw_tail h.s h.kb (by omega) (by omega) h.o4 (sl_one hs) fun G9 b9 kb9 s9 => k w n' gs G9 kb9 s9 (sl_but2 hs b9 hw) hv hl h0 h1
theorem bad_B1 {x5 y : Value} {gs : List (Int × Int)} (k : BadK Hb H bs v K) (h : BdS Hb H bs n v es x5 fs G) (hs : Sl (H.length + 2) G y 78 2 (LE gs)) (hl : gs.length ≤ 2000) (h0 : 2 ≤ n) (h1 : n ≤ 200) : F68.B1 K H.length (H.length + 1) y G := by
  have hbs := h.lt
  unfold F68.B1
  refine ldI_own h.o3 rfl (pif_t (sl_one hs) (bad_put k h (hs.less (by omega)) (fun e => by have := (hs.lt e).1; omega) (fun b e => .inr (by have := (hs.lt e).1; omega)) hl (by omega) (by omega)))
theorem l01Bad_ok (hs : Src Hb bs H) (h : Sl (bs + 1) H v 78 2 (LE es)) (hg : Gd2 n es) (k : BadK Hb H bs v K) :
    AC Tryz.prog T0 68 [.pointer (some ⟨bs, 0, none⟩), .agg ⟨[.int .i64 n, v]⟩] H K := by
  have hbs := hs.lt
  have gl := hg.len; have gp := hg.pos; have n0 := hg.lo; have n1 := hg.hi
  have hE := sl_edges h
  apply F68.ac
  unfold F68.B15
  refine newK_f (all_iv (edges_one' hE)) fun H1 l1 m1 o1 => newK_f rfl fun H2 l2 m2 o2 => ?_
  rw [m1] at o2 ⊢
  have o12 := o1.le l2
  have l02 := AHeap.le_trans l1 l2
  unfold F68.B14
  refine newK_f rfl fun H4 l4 n4 o4 => ld1_own (o12.le l4) rfl ?_
  have l04 := AHeap.le_trans l02 l4
  have e2 : H2.length = H.length + 2 := by rw [m2, m1]
  refine app_edges (m0 := H2.length) (es := []) (Fresh.sl (.inr ⟨_, 0, Nat.le_refl _, rfl, o4, rfl⟩)) l4.1 (hE.le l04) gp (by simp; omega) fun x5 H5 k5 _ f5 => ?_
  rw [List.nil_append] at f5
  have kp := (Keep.of_le l4).trans k5
  have l05 : H.le H5 := kp.le l02 l02.1
  unfold F68.B13
  have st5 : BdS Hb H bs n v es x5 es H5 := ⟨.of_le l05, hs.le l05, kp.own o12 o12.lt, kp.own o2 o2.lt, by rw [e2] at f5; exact f5, hbs⟩
  refine l01Next_ok st5.s fun r G1 k1 s1 r0 r1 _ => asI_mk ?_
  have st := st5.step k1 s1
  have hvG := sl_kb (h.le l05) k1
  have fin2 : ∀ G (r a b : Int), BdS Hb H bs n v es x5 es G → 0 ≤ r → r < es.length → idxK x5 r 2 (fun bb oo => stK G bb oo [.int .i64 a, .int .i64 b] (fun H20 => F68.B1 K H.length (H.length + 1) x5 H20)) := fun G r a b hS h0 h1 =>
    put_edge hS.f h0 h1 fun c G' hc _ b' f' => bad_B1 k (hS.but b' hc f') f'.sl (by rw [List.length_set]; exact gl) n0 n1
  unfold F68.B12
  refine pif_cases (fun hb => ?_) fun hb => ?_
  · unfold F68.B2
    refine ldI_own st.o3 rfl ?_
    rw [wrap_id (by omega) (by omega)]
    refine newK_f rfl fun G2 l2 n2 o2 => ?_
    have hG1 := st.o4.lt
    refine l01Pick_ok (l := [0, 3, 22, -2, n + 2]) (st.le l2).s (own_ints (l := [0, 3, 22, -2, n + 2]) o2) (by simp) (by simp) (fun x hx => by simp at hx; omega) (fun G3 k3 => own_ints (l := [0, 3, 22, -2, n + 2]) (k3.own o2 (by omega))) fun r' G3 k3 s3 hr => asI_mk ?_
    have hr : -2 ≤ r' ∧ r' ≤ 202 := by simp at hr; omega
    have st3 := (st.le l2).step k3 s3
    refine pif_t (fresh_one st3.f) (bad_put k st3 (st3.f.sl.less (by omega)) (fun e => by have := (st3.f.bk_lt e).1; omega) (fun b e => .inr (by have := (st3.f.bk_lt e).1; omega)) gl hr.1 hr.2)
  unfold F68.B11
  refine pif_cases (fun hb => ?_) fun hb => ?_
  · unfold F68.B3
    have hG1 := st.o4.lt
    have hlen : ∀ {K : Nat → Prop}, K es.length → lenK x5 K := fun k' => st.f.edges.len k'
    have pk : ∀ {G2 : AHeap} {b : Nat}, Own G2 b 2 [.int .i64 (-1), .int .i64 n, .int .i64 0] → b ≠ bs → BdS Hb H bs n v es x5 es G2 → ∀ (Q : Value → AHeap → Prop), (∀ r' G3, BdS Hb H bs n v es x5 es G3 → Q (.int .i64 r') G3) → AC Tryz.prog T0 83 [.pointer (some ⟨bs, 0, none⟩), .slice (some ⟨b, 0, none⟩) 3 (3 + 1)] G2 Q := fun {G2 b} o hb st2 Q hQ => by
      refine l01Pick_ok (l := [-1, n, 0]) st2.s (own_ints (l := [-1, n, 0]) o) (by simp) (by simp) (fun x hx => by simp at hx; omega) (fun G3 k3 => own_ints (l := [-1, n, 0]) (k3.own o hb)) fun r' G3 k3 s3 hr => hQ r' G3 (st2.step k3 s3)
    refine hlen (ldI_own st.o3 rfl (ldI_own st.o3 rfl ⟨?_, ?_⟩))
    · refine l01Next_ok st.s fun q G2 k2 s2 q0 q1 _ => asI_mk ?_
      have st2 := st.step k2 s2
      have hq := q1 (by omega)
      refine ⟨st2.reread, st2.reread, ⟨?_, ?_⟩⟩
      · refine l01Next_ok st2.s fun a G3 k3 s3 a0 a1 _ => asI_mk ?_
        have st3 := st2.step k3 s3
        refine ⟨st3.reread, newK_f rfl fun G4 l4 n4 o4 => pk o4 (by have := st3.o4.lt; omega) (st3.le l4) _ fun r' G5 st5 => asI_mk (fin2 G5 q a r' st5 q0 hq)⟩
      · refine newK_f rfl fun G4 l4 n4 o4 => ?_
        have st4 := st2.le l4
        refine l01Next_ok st4.s fun a G3 k3 s3 a0 a1 _ => asI_mk ?_
        have st3 := st4.step k3 s3
        have hne : G2.length ≠ bs := by have := st2.o4.lt; omega
        exact ⟨st3.reread, pk (k3.own o4 hne) hne st3 _ fun r' G5 st5 => asI_mk (fin2 G5 q a r' st5 q0 hq)⟩
    · refine newK_f rfl fun G4 l4 n4 o4 => ?_
      have st4 := st.le l4
      have hne : G1.length ≠ bs := by have := st.o4.lt; omega
      refine l01Next_ok st4.s fun q G2 k2 s2 q0 q1 _ => asI_mk ?_
      have st2 := st4.step k2 s2
      have hq := q1 (by omega)
      refine ⟨st2.reread, st2.reread, l01Next_ok st2.s fun a G3 k3 s3 a0 a1 _ => asI_mk ?_⟩
      have st3 := st2.step k3 s3
      exact ⟨st3.reread, pk (k3.own (k2.own o4 hne) hne) hne st3 _ fun r' G5 st5 => asI_mk (fin2 G5 q a r' st5 q0 hq)⟩
  unfold F68.B10
  refine pif_cases (fun hb => ?_) fun hb => ?_
  · have eG := st.f.edges
    unfold F68.B6
    obtain ⟨bb, oo, hk, q1, q2⟩ := eG.idx (show (0 : Int) ≤ 0 by omega) (by omega)
    refine hk _ (ldI_mk q1 (ldI_mk q2 (newK_f rfl fun G2 l2 n2 o2 => stK_f (new := [.int .i64 (es.getD 0 (0, 0)).1, .int .i64 (es.getD 0 (0, 0)).2]) o2 (by simp) (by simp [Value.oneCell']) rfl fun G3 b3 o3 => ?_)))
    have l3 : G1.le G3 := b3.le l2 (Nat.le_refl _)
    have st3 := st.le l3
    have hlen3 : ∀ {K : Nat → Prop}, K es.length → lenK x5 K := fun k' => st.f.edges.len k'
    have hx6 := st.o4.lt
    unfold F68.B5
    refine hlen3 ?_
    rw [wrap_id (by omega) (by omega)]
    obtain ⟨bb, oo, hk, q1, q2⟩ := st3.f.edges.idx (show (0 : Int) ≤ (es.length : Int) - 1 by omega) (by omega)
    refine hk _ (ldI_mk q1 (ldI_mk q2 (put_edge st3.f (by omega) (by omega) fun c G4 hc hcb b4 f4 => ?_)))
    have st4 := st3.but b4 hc f4
    have o6 := b4.own o3 (by have := (st.f.bk_lt hcb).2; omega)
    · unfold F68.B4
      refine f4.edges.len (ldI_own o6 rfl (ldI_own o6 rfl ?_))
      rw [List.length_set, wrap_id (by omega) (by omega)]
      exact put_edge f4 (by omega) (by rw [List.length_set]; omega) fun c G' hc _ b' f' => bad_B1 k (st4.but b' hc f') f'.sl (by rw [List.length_set, List.length_set]; exact gl) n0 n1
  unfold F68.B9
  refine pif_cases (fun hb => ?_) fun hb => ?_
  · unfold F68.B7
    refine st.f.sl.drop (i := 1) (n := es.length) (LE_length es) (by decide) gp gp fun v' h' => ?_
    rw [Nat.one_mul, LE_drop] at h'
    exact bad_B1 k st h' (by rw [List.length_drop]; omega) n0 n1
  · unfold F68.B8
    refine ldI_own st.o3 rfl (ld1_own st.o3 rfl (bad_put k st hvG (fun e => by have := (h.lt e).2; omega) (fun b e => .inl e) gl (by omega) (by omega)))
theorem l01Spoil_ok (hs : Src Hb bs H) (k : ∀ v' n' es' G, Kb bs H G → Src Hb bs G → Sl H.length G v' 78 2 (LE es') → es'.length ≤ 2000 → -2 ≤ n' → n' ≤ 202 → K (.agg ⟨[.int .i64 n', v']⟩) G) : AC Tryz.prog T0 71 [.pointer (some ⟨bs, 0, none⟩)] H K := by
  have hbs := hs.lt
  apply F71.ac
  unfold F71.B2
  refine newK_f rfl fun H1 l1 n1 o1 => ?_
  unfold F71.B1
  refine l01Draw_ok (hs.le l1) fun v1 n1' es1 G1 k1 s1 f1 g1 => agg2_mk (asI_mk ?_)
  have hk1 := k1.len
  refine l01Bad_ok s1 (f1.sl.less (by omega)) g1 fun v2 n2 es2 G2 k2 s2 h2 hv c2 a0 a1 => agg2_mk (asI_mk ?_)
  have kb2 := ((Kb.of_le l1).trans k1).trans k2
  have hne : ∀ b, bk v2 = some b → H1.length ≤ b := fun b hb => by
    rcases hv b hb with e | e
    · exact (f1.bk_lt e).1
    · omega
  refine draw_tail s2 kb2 hbs (Nat.le_refl _) (k2.own (k1.own o1 (by omega)) (by omega)) (sl_one h2) fun G9 b9 kb9 s9 => ?_
  have h9 := sl_but2 h2 b9 (fun e => by have := hne _ e; omega)
  refine k v2 n2 es2 G9 kb9 s9 ?_ c2 a0 a1
  rcases h9 with h | ⟨b, q, pre, post, q1, rfl, q3, q4⟩
  · exact .inl h
  · exact .inr ⟨b, q, pre, post, by have := hne b rfl; omega, rfl, q3, q4⟩
end Go.Proofs
/- Contracts: the draws of the law over bonds. -/
set_option linter.unusedVariables false
set_option linter.unusedSimpArgs false
set_option maxRecDepth 100000
namespace Go.Proofs
open Go.Abs

variable {H G G' Hb H0 : AHeap} {v u f w : Value} {l m D : List Int} {es fs : List (Int × Int)} {K : Value → AHeap → Prop} {bs : Nat} {n : Int}

theorem put_graph {x2 m0 : Nat} (o : Own G x2 26 [.int .i64 0, .slice none 0 0]) (l : H.le G) (hx : H.length ≤ x2) (hs : Sl m0 G v 78 2 (LE es)) (hm : x2 < m0) (k : ∀ G', But x2 G G' → H.le G' → Sl m0 G' v 78 2 (LE es) → K (.agg ⟨[.int .i64 n, v]⟩) G') :
    stK G x2 0 [.int .i64 n, v] (fun H7 => ldI .i64 H7 x2 0 (fun v8 => ld1 H7 x2 1 (fun v9 => K (.agg ⟨[.int .i64 v8, v9]⟩) H7))) := by
  refine stK_f (new := [.int .i64 n, v]) o (by simp) (mem_iv (sl_one hs)) rfl fun G5 b5 o5 => ldI_own o5 rfl (ld1_own o5 rfl ?_)
  exact k G5 b5 (b5.le l hx) (hs.but b5 hm)
/-- What a draw of a graph gives. -/
def DrwK (H : AHeap) (K : Value → AHeap → Prop) : Prop := ∀ v n es G, H.le G → Sl H.length G v 78 2 (LE es) → es.length ≤ 2000 → K (.agg ⟨[.int .i64 n, v]⟩) G
theorem drawBridges_ok (hB : Byts H u l) (hl : l.length ≤ 4096) (k : DrwK H K) : AC Tryz.prog T0 8 [u] H K := by
  apply F8.ac
  unfold F8.B6
  refine newK_f rfl fun H1 l1 n1 o1 => ?_
  unfold F8.B5
  refine l01From_ok (hB.le l1) hl fun G1 g1 s1 => ?_
  unfold F8.B4
  refine l01Next_ok s1 fun r G2 k2 s2 r0 r1 _ => asI_mk ?_
  have ob2 := k2.own (o1.le g1) (by omega)
  have hlt := ob2.lt
  have hs2 := s2.lt
  have fin : ∀ G3 v' n' es', Kb H1.length G2 G3 → Src H1 H1.length G3 → Sl (H1.length + 1) G3 v' 78 2 (LE es') → es'.length ≤ 2000 → stK G3 H.length 0 [.int .i64 n', v'] (fun H7 => ldI .i64 H7 H.length 0 (fun v8 => ld1 H7 H.length 1 (fun v9 => K (.agg ⟨[.int .i64 v8, v9]⟩) H7))) := fun G3 v' n' es' k3 s3 h3 c3 =>
    put_graph (k3.own ob2 (by omega)) (AHeap.le_trans l1 s3.1) (Nat.le_refl _) h3 (by omega) fun G' _ lG eG => k v' n' es' G' lG (eG.less (by omega)) c3
  refine pif_cases (fun hb => ?_) fun hb => ?_
  · unfold F8.B3
    refine l01Named_ok (nm := ⟨#[98, 114, 105, 100, 103, 101]⟩) (by simp [nameL]) fun n a0 a1 v0 es0 G4 l4 f4 g4 c4 => tup2_mk (agg2_mk (asI_mk (asB_mk (newK_f rfl fun G5 l5 n5 o5 => stK_f (new := [.int .i64 n, v0]) o5 (by simp) (mem_iv (fresh_one f4)) rfl fun G6 b6 o6 => ?_))))
    have l6 : G4.le G6 := b6.le l5 (Nat.le_refl _)
    have l26 := AHeap.le_trans l4 l6
    have f6 := f4.le l6
    have s6 := s2.le l26
    have hl4 := l4.1
    unfold F8.B2
    refine ldI_own o6 rfl (ld1_own o6 rfl (ldI_own o6 rfl (l01DrawOrder_ok s6 (by omega) fun w D G7 k7 s7 f7 hDl hDr => ?_)))
    have o7 := k7.own o6 (by omega)
    have f67 := fresh_kb f6 k7 (by omega)
    refine ⟨ldI_own o7 rfl (ld1_own o7 rfl ⟨rfl, rfl⟩), ?_⟩
    refine l01Renamed_ok f67.edges g4 f7.ints hDl hDr fun v' es' G8 l8 f8 g8 => agg2_mk (asI_mk ?_)
    have hG7 := k7.len
    have hG6 := l26.1
    refine l01Bad_ok (s7.le l8) (f8.sl.less (by omega)) (g8.two a0 (by omega)) fun v2 n2 es2 G9 k9 s9 h9 _ c9 _ _ => agg2_mk (asI_mk ?_)
    exact fin G9 v2 n2 es2 (((Kb.of_le l26).trans k7).trans ((Kb.of_le l8).trans k9)) s9 h9 c9
  · unfold F8.B1
    refine l01Spoil_ok s2 fun v2 n2 es2 G9 k9 s9 h9 c9 _ _ => agg2_mk (asI_mk ?_)
    exact fin G9 v2 n2 es2 k9 s9 (h9.less (by omega)) c9
theorem drawEdgeCon_ok (hB : Byts H u l) (hl : l.length ≤ 4096) (k : DrwK H K) : AC Tryz.prog T0 17 [u] H K := by
  apply F17.ac
  unfold F17.B2
  refine newK_f rfl fun H1 l1 n1 o1 => ?_
  unfold F17.B1
  refine drawBridges_ok (hB.le l1) hl fun v n es G lG eG c => agg2_mk (asI_mk ?_)
  have hlt := o1.lt
  exact put_graph (o1.le lG) (AHeap.le_trans l1 lG) (Nat.le_refl _) eG hlt fun G' _ lG' eG' => k v n es G' lG' (eG'.less (by omega)) c
theorem drawCyclicCon_ok (hB : Byts H u l) (hl : l.length ≤ 4096) (k : DrwK H K) : AC Tryz.prog T0 20 [u] H K := by
  apply F20.ac
  unfold F20.B6
  refine newK_f rfl fun H1 l1 n1 o1 => ?_
  unfold F20.B5
  refine l01From_ok (hB.le l1) hl fun G1 g1 s1 => ?_
  unfold F20.B4
  refine l01Next_ok s1 fun r G2 k2 s2 r0 r1 _ => asI_mk ?_
  have ob2 := k2.own (o1.le g1) (by omega)
  have hlt := ob2.lt
  have hs2 := s2.lt
  have fin : ∀ G3 v' n' es', Kb H1.length G2 G3 → Src H1 H1.length G3 → Sl (H1.length + 1) G3 v' 78 2 (LE es') → es'.length ≤ 2000 → stK G3 H.length 0 [.int .i64 n', v'] (fun H7 => ldI .i64 H7 H.length 0 (fun v8 => ld1 H7 H.length 1 (fun v9 => K (.agg ⟨[.int .i64 v8, v9]⟩) H7))) := fun G3 v' n' es' k3 s3 h3 c3 =>
    put_graph (k3.own ob2 (by omega)) (AHeap.le_trans l1 s3.1) (Nat.le_refl _) h3 (by omega) fun G' _ lG eG => k v' n' es' G' lG (eG.less (by omega)) c3
  refine pif_cases (fun hb => ?_) fun hb => ?_
  · unfold F20.B3
    refine l01Named_ok (nm := ⟨#[116, 105, 101, 116, 122, 101]⟩) (by simp [nameL]) fun n a0 a1 v0 es0 G4 l4 f4 g4 c4 => tup2_mk (agg2_mk (asI_mk (asB_mk (newK_f rfl fun G5 l5 n5 o5 => stK_f (new := [.int .i64 n, v0]) o5 (by simp) (mem_iv (fresh_one f4)) rfl fun G6 b6 o6 => ?_))))
    have l6 : G4.le G6 := b6.le l5 (Nat.le_refl _)
    have l26 := AHeap.le_trans l4 l6
    have f6 := f4.le l6
    have s6 := s2.le l26
    have hl4 := l4.1
    unfold F20.B2
    refine ldI_own o6 rfl (ld1_own o6 rfl ?_)
    refine l01Bad_ok s6 (f6.sl.less (by omega)) (g4.two a0 (by omega)) fun v2 n2 es2 G9 k9 s9 h9 _ c9 _ _ => agg2_mk (asI_mk ?_)
    exact fin G9 v2 n2 es2 ((Kb.of_le l26).trans k9) s9 h9 c9
  · unfold F20.B1
    refine l01Small_ok s2 fun v1 n1' es1 G3 k3 s3 f3 g3 a0 a1 => agg2_mk (asI_mk ?_)
    refine l01Bad_ok s3 (f3.sl.less (by omega)) (g3.two a0 (by omega)) fun v2 n2 es2 G9 k9 s9 h9 _ c9 _ _ => agg2_mk (asI_mk ?_)
    exact fin G9 v2 n2 es2 (k3.trans k9) s9 h9 c9
theorem drawBonds_ok (hB : Byts H u l) (hl : l.length ≤ 4096) (k : ∀ v n es x G, H.le G → Sl H.length G v 78 2 (LE es) → es.length ≤ 2000 → K (.tuple ⟨[.agg ⟨[.int .i64 n, v]⟩, .int .i64 x]⟩) G) : AC Tryz.prog T0 13 [u] H K := by
  apply F13.ac
  unfold F13.B4
  refine newK_f rfl fun H1 l1 n1 o1 => ?_
  unfold F13.B3
  refine l01From_ok (hB.le l1) hl fun G1 g1 s1 => ?_
  unfold F13.B2
  have hs1 := s1.lt
  have hlt := o1.lt
  refine l01Small_ok s1 fun v1 n1' es1 G3 k3 s3 f3 g3 a0 a1 => agg2_mk (asI_mk ?_)
  refine l01Bad_ok s3 (f3.sl.less (by omega)) (g3.two a0 (by omega)) fun v2 n2 es2 G4 k4 s4 h4 _ c4 _ _ => agg2_mk (asI_mk (newK_f rfl fun G5 l5 n5 o5 => stK_f (new := [.int .i64 n2, v2]) o5 (by simp) (mem_iv (sl_one h4)) rfl fun G6 b6 o6 => ?_))
  have l6 : G4.le G6 := b6.le l5 (Nat.le_refl _)
  have ob6 := (k4.own (k3.own (o1.le g1) (by omega)) (by omega)).le l6
  have h6 := h4.le l6
  have s6 := s4.le l6
  have hs4 := s4.lt
  unfold F13.B1
  refine ldI_own o6 rfl (ld1_own o6 rfl (l01Near_ok s6 (by decide) (by decide) fun r G7 k7 s7 r0 r1 => asI_mk ?_))
  have o7 := k7.own o6 (by omega)
  refine ⟨ldI_own o7 rfl (ld1_own o7 rfl ⟨rfl, rfl⟩), newK_f rfl fun G8 l8 n8 o8 => ?_⟩
  rw [wrap_id (by omega) (by omega)] at o8
  have hs7 := s7.lt
  refine l01Pick_ok (l := [1, 2, 3, 3, 2, 0, 5, 1 + r]) (s7.le l8) (own_ints (l := [1, 2, 3, 3, 2, 0, 5, 1 + r]) o8) (by simp) (by simp) (fun x hx => by simp at hx; omega) (fun G3 k3 => own_ints (l := [1, 2, 3, 3, 2, 0, 5, 1 + r]) (k3.own o8 (by omega))) fun r' G9 k9 s9 hr => asI_mk ?_
  have o9 := k9.own (o7.le l8) (by omega)
  refine ⟨ldI_own o9 rfl (ld1_own o9 rfl ⟨rfl, rfl⟩), ?_⟩
  have k69 := (k7.trans (.of_le l8)).trans k9
  refine put_graph (K := fun v G => K (.tuple ⟨[v, .int .i64 r']⟩) G) (k69.own ob6 (by omega)) (AHeap.le_trans l1 s9.1) (Nat.le_refl _) (sl_kb h6 k69) (by omega) fun G' _ lG eG => k v2 n2 es2 r' G' lG (eG.less (by omega)) c4
end Go.Proofs
/- Contracts: products in two words, a value told again and again. -/
set_option linter.unusedVariables false
set_option linter.unusedSimpArgs false
set_option maxRecDepth 100000
namespace Go.Proofs
open Go.Abs

variable {H : AHeap} {v u f : Value} {l m c : List Int} {es fs : List (Int × Int)} {K : Value → AHeap → Prop}

theorem and32 {y : Int} (h0 : 0 ≤ y) (h1 : y < 4294967296) : IntKind.u64.wrap (((BitVec.ofInt 64 y &&& BitVec.ofInt 64 4294967295).toNat : Nat) : Int) = y := by
  obtain ⟨n, rfl⟩ := Int.eq_ofNat_of_zero_le h0
  have h : (BitVec.ofInt 64 ((n : Nat) : Int) &&& BitVec.ofInt 64 4294967295).toNat = n := by
    rw [BitVec.toNat_and, show (BitVec.ofInt 64 4294967295).toNat = 2 ^ 32 - 1 from by decide, Nat.and_two_pow_sub_one_eq_mod]
    simp only [BitVec.ofInt_natCast, BitVec.toNat_ofNat]
    omega
  rw [h]
  simp only [IntKind.wrap, IntKind.bits, IntKind.signed, Bool.false_and, Bool.false_eq_true, if_false]
  omega
theorem mul64_ok {y : Int} (h0 : 0 ≤ y) (h1 : y < 4294967296) (k : K (.tuple ⟨[.int .u64 0, .int .u64 y]⟩) H) : AC Tryz.prog T0 232 [.int .u64 1, .int .u64 y] H K := by
  apply F232.ac
  have e0 : Int.fdiv y (2 ^ (min (Int.toNat 32) 64)) = 0 := by
    rw [show (2 : Int) ^ (min (Int.toNat 32) 64) = 4294967296 from by decide, Int.fdiv_eq_ediv_of_nonneg _ (by decide)]; omega
  have w : ∀ z : Int, 0 ≤ z → z < 4294967296 → IntKind.u64.wrap z = z := by
    intro z a b; simp only [IntKind.wrap, IntKind.bits, IntKind.signed, Bool.false_and, Bool.false_eq_true, if_false]; omega
  unfold F232.B12 F232.B11 F232.B10
  rw [and32 (by decide) (by decide)]
  refine ⟨by decide, ?_⟩
  rw [show Int.fdiv 1 (2 ^ (min (Int.toNat 32) 64)) = 0 from by decide]
  unfold F232.B9 F232.B8
  rw [and32 h0 h1]
  refine ⟨by decide, ?_⟩
  rw [e0]
  unfold F232.B7 F232.B6
  refine ⟨by decide, ?_⟩
  rw [Int.one_mul, w y h0 h1, e0, Int.zero_mul, w 0 (by decide) (by decide), show (0 : Int) + 0 = 0 from rfl, w 0 (by decide) (by decide)]
  unfold F232.B5 F232.B4
  rw [and32 (by decide) (by decide)]
  refine ⟨by decide, ?_⟩
  rw [show Int.fdiv 0 (2 ^ (min (Int.toNat 32) 64)) = 0 from by decide]
  unfold F232.B3 F232.B2
  refine ⟨by decide, ?_⟩
  simp only [show (1 : Int) * 0 = 0 from rfl, show (0 : Int) * 0 = 0 from rfl, show (0 : Int) + 0 = 0 from rfl, w 0 (by decide) (by decide), show Int.fdiv 0 (2 ^ (min (Int.toNat 32) 64)) = 0 from by decide]
  unfold F232.B1
  rw [Int.one_mul, w y h0 h1]
  exact k
theorem mul_ok {y : Int} (h0 : 0 ≤ y) (h1 : y < 4294967296) (k : K (.tuple ⟨[.int .u64 0, .int .u64 y]⟩) H) : AC Tryz.prog T0 221 [.int .u64 1, .int .u64 y] H K := by
  apply F221.ac
  unfold F221.B3 F221.B2
  refine mul64_ok h0 h1 ?_
  exact k
end Go.Proofs
/- Contracts: copies into a row of one's own. -/
set_option linter.unusedVariables false
set_option linter.unusedSimpArgs false
set_option maxRecDepth 100000
namespace Go.Proofs
open Go.Abs

variable {H : AHeap} {l s : List Int}

theorem cp_own {b o n c2 sb so m c : Nat} {K : Nat → AHeap → Prop} (hb : Own H b 2 (LI l)) (hs : Own H sb 2 (LI s)) (hm : 0 < m) (hn : 0 < n) (h1 : so + m ≤ s.length) (h2 : o + n ≤ l.length)
    (k : ∀ G, But b H G → Own G b 2 (LI (l.take o ++ (s.drop so).take (Nat.min m n) ++ l.drop (o + Nat.min m n))) → K (Nat.min m n) G) :
    cpK T0 2 H (.slice (some ⟨b, o, none⟩) n c2) (.slice (some ⟨sb, so, none⟩) m c) K := by
  have hq : Nat.min m n ≤ m ∧ Nat.min m n ≤ n ∧ 0 < Nat.min m n := ⟨Nat.min_le_left _ _, Nat.min_le_right _ _, Nat.lt_min.2 ⟨hm, hn⟩⟩
  have hl : (LI ((s.drop so).take (Nat.min m n))).length = Nat.min m n := by simp only [LI, List.length_map, List.length_take, List.length_drop]; omega
  refine .inr ⟨sb, so, m, c, b, o, n, c2, LI l, LI ((s.drop so).take (Nat.min m n)), rfl, rfl, hb, hq.2.2, ?_, ?_, ?_, k _ But.set ?_⟩
  · rw [hl]; exact (Nat.mul_one _).symm
  · intro i u hu
    rw [hs.cell]
    have hi := lt_of_get hu
    rw [hl] at hi
    simp only [LI, List.getElem?_map] at hu ⊢
    rw [List.getElem?_take_of_lt hi, List.getElem?_drop] at hu
    exact hu
  · rw [hl]; simp only [LI, List.length_map]; omega
  · rw [hl]
    have : b < H.length := lt_of_get hb
    simp only [Own, LI, List.map_append, List.map_take, List.map_drop]
    rw [List.getElem?_set_self this]
end Go.Proofs
/- Contracts: a value told again and again. -/
set_option linter.unusedVariables false
set_option linter.unusedSimpArgs false
set_option maxRecDepth 100000
namespace Go.Proofs
open Go.Abs

variable {H : AHeap} {l s : List Int}

theorem repeat_ok {b1 : Nat} {t n : Int} {K : Value → AHeap → Prop} (o : Own H b1 2 (LI [t])) (h0 : 0 ≤ n) (h1 : n ≤ 1000000)
    (k : ∀ G, H.le G → Own G H.length 2 (LI (List.replicate n.toNat t)) → K (.slice (some ⟨H.length, 0, none⟩) n.toNat (n.toNat + 1)) G) :
    AC Tryz.prog T0 192 [.slice (some ⟨b1, 0, none⟩) 1 (1 + 1), .int .i64 n] H K := by
  obtain ⟨N, rfl⟩ := Int.eq_ofNat_of_zero_le h0
  have hu : IntKind.u64.wrap ((N : Nat) : Int) = N := by simp only [IntKind.wrap, IntKind.bits, IntKind.signed, Bool.false_and, Bool.false_eq_true, if_false]; omega
  have hb1 : b1 < H.length := lt_of_get o
  apply F192.ac
  unfold F192.B10 F192.B9
  refine pif_f (by simp) ?_
  unfold F192.B8
  refine lenK_of ?_
  rw [hu, show IntKind.u64.wrap ((1 : Nat) : Int) = 1 from by decide]
  refine mul_ok (by omega) (by omega) ?_
  show F192.B7 K _ 0 N H
  unfold F192.B7
  refine pif_f (by decide) (pif_f (by simp; omega) ?_)
  unfold F192.B6
  rw [wrap_id (by omega) (by omega)]
  refine mkR_int (by omega) (by omega) (by decide) fun H2 l2 n2 o2 => ?_
  rw [rep_one, Int.toNat_natCast] at o2
  simp only [Int.toNat_natCast] at k ⊢
  unfold F192.B5
  have main : ∀ (i : Nat) G, i ≤ N → (0 < i ∨ N = 0) → H.le G → Own G H.length 2 (LI (List.replicate i t ++ List.replicate (N - i) 0)) → F192.L2 K (.slice (some ⟨H.length, 0, none⟩) N (N + 1)) (i : Int) G := by
    intro i G hi hp hl ho
    unfold F192.L2
    refine ⟨fun x7 x8 G => x7 = .slice (some ⟨H.length, 0, none⟩) N (N + 1) ∧ ∃ i : Nat, x8 = i ∧ i ≤ N ∧ (0 < i ∨ N = 0) ∧ H.le G ∧ Own G H.length 2 (LI (List.replicate i t ++ List.replicate (N - i) 0)), fun _ x8 _ => N - x8.toNat, ⟨rfl, i, rfl, hi, hp, hl, ho⟩, ?_⟩
    rintro x7 x8 G ⟨rfl, i, rfl, hi, hp, hl, ho⟩
    unfold F192.B4
    refine lenK_of ?_
    by_cases h : i < N
    · refine pif_t (by simp; omega) ?_
      unfold F192.B3
      refine ⟨⟨_, _, ho, by simp [LI]; omega⟩, by omega, by omega, by omega, ?_⟩
      refine ⟨⟨_, _, ho, by simp [LI]; omega⟩, by omega, by omega, by omega, ?_⟩
      simp only [Int.toNat_natCast, Nat.zero_add, Nat.mul_one, Int.toNat_zero, Nat.zero_mul, Nat.sub_zero]
      refine cp_own ho ho (by omega) (by omega) (by first | (simp; done) | (simp; omega)) (by first | (simp; done) | (simp; omega)) fun G2 b2 o2 => ?_
      have hq : Nat.min i (N - i) ≤ i ∧ Nat.min i (N - i) ≤ N - i ∧ 0 < Nat.min i (N - i) := ⟨Nat.min_le_left _ _, Nat.min_le_right _ _, Nat.lt_min.2 ⟨by omega, by omega⟩⟩
      generalize Nat.min i (N - i) = q at hq o2 ⊢
      rw [wrap_id (by omega) (by omega)]
      refine ⟨⟨by first | trivial | rfl, i + q, by omega, by omega, by omega, b2.le hl (Nat.le_refl _), ?_⟩, by omega⟩
      have e : (List.replicate i t ++ List.replicate (N - i) 0).take i ++ ((List.replicate i t ++ List.replicate (N - i) 0).drop 0).take q ++ (List.replicate i t ++ List.replicate (N - i) 0).drop (i + q) = List.replicate (i + q) t ++ List.replicate (N - (i + q)) 0 := by
        rw [List.take_left' (by simp), List.drop_zero, List.take_append_of_le_length (by simp; omega), List.take_replicate, Nat.min_eq_left hq.1, List.replicate_append_replicate, List.drop_append, List.drop_eq_nil_of_le (by simp), List.nil_append, List.drop_replicate, List.length_replicate]
        congr 2; omega
      rw [e] at o2
      exact o2
    · refine pif_f (by simp; omega) ?_
      unfold F192.B1
      obtain rfl : i = N := by omega
      exact k _ hl (by simpa using ho)
  by_cases hN : N = 0
  · subst hN
    exact .inl ⟨_, _, _, _, _, _, rfl, rfl, .inr rfl, main 0 H2 (by omega) (.inr rfl) l2 (by simpa using o2)⟩
  · refine cp_own o2 (l2.2 _ _ o) (by omega) (by omega) (by simp) (by simp) fun G b2 o3 => ?_
    have hq : Nat.min 1 N = 1 := Nat.min_eq_left (by omega)
    rw [hq] at o3 ⊢
    refine main 1 G (by omega) (.inl (by omega)) (b2.le l2 (Nat.le_refl _)) ?_
    simpa using o3
end Go.Proofs
/- Contracts: how many parts. -/
set_option linter.unusedVariables false
set_option linter.unusedSimpArgs false
set_option maxRecDepth 100000
namespace Go.Proofs
open Go.Abs

variable {H : AHeap} {u : Value} {fs : List (Int × Int)} {K : Value → AHeap → Prop}

/-- How many of the first n name themselves. -/
def selfs (D : List Int) : Nat → Nat
  | 0 => 0
  | n + 1 => selfs D n + if D.getD n 0 = (n : Int) then 1 else 0
theorem selfs_le (D : List Int) : ∀ n, selfs D n ≤ n
  | 0 => Nat.le_refl _
  | n + 1 => by have := selfs_le D n; unfold selfs; split <;> omega
theorem l01Parts_ok {n : Int} (h : Edges H u fs) (hl : fs.length ≤ 1048576) (h0 : 0 < n) (h1 : n ≤ 20) (hf : ∀ e ∈ fs, 0 ≤ e.1 ∧ e.1 < n ∧ 0 ≤ e.2 ∧ e.2 < n)
    (k : ∀ D G, H.le G → D.length = n.toNat → Leads n.toNat fs D → K (.int .i64 (selfs D n.toNat)) G) :
    AC Tryz.prog T0 92 [.int .i64 n, u] H K := by
  apply F92.ac
  unfold F92.B9 F92.B8
  refine l01Leaders_ok h hl h0 h1 hf fun b0 D G1 l1 o1 _ hD => ?_
  have hlen : D.length = n.toNat := hD.led.1
  unfold F92.B7 F92.L2
  refine ⟨fun x0 x5 x6 x7 G => x0 = n ∧ x5 = .slice (some ⟨b0, 0, none⟩) n.toNat (n.toNat + 1) ∧ G1 = G ∧ ∃ i : Nat, x7 = i ∧ i ≤ n.toNat ∧ x6 = selfs D i, fun _ _ _ x7 _ => n.toNat - x7.toNat, ⟨rfl, rfl, rfl, 0, rfl, by omega, rfl⟩, ?_⟩
  rintro x0 x5 x6 x7 G ⟨rfl, rfl, rfl, i, rfl, hi, rfl⟩
  unfold F92.B6
  have hs := selfs_le D i
  by_cases hlt : i < x0.toNat
  · refine pif_t (by simp; omega) ?_
    unfold F92.B5
    have hg : (LI D)[(i : Int).toNat]? = some (.int .i64 (D.getD i 0)) := by
      simp only [Int.toNat_natCast, LI, List.getElem?_map, List.getD, List.getElem?_eq_getElem (show i < D.length by omega)]; rfl
    refine own_idx (by omega) (by omega) (ldI_own o1 hg ?_)
    by_cases he : D.getD i 0 = (i : Int)
    · refine pif_t (by simpa using he) ?_
      unfold F92.B4 F92.B3
      rw [wrap_id (by omega) (by omega), wrap_id (by omega) (by omega)]
      refine ⟨⟨rfl, rfl, rfl, i + 1, by omega, by omega, ?_⟩, by show x0.toNat - (((i : Nat) : Int) + 1).toNat < x0.toNat - ((i : Nat) : Int).toNat; omega⟩
      show ((selfs D i : Nat) : Int) + 1 = ((selfs D i + (if D.getD i 0 = (i : Int) then 1 else 0) : Nat) : Int); rw [if_pos he]; omega
    · refine pif_f (by simpa using he) ?_
      unfold F92.B3
      rw [wrap_id (by omega) (by omega)]
      refine ⟨⟨rfl, rfl, rfl, i + 1, by omega, by omega, ?_⟩, by show x0.toNat - (((i : Nat) : Int) + 1).toNat < x0.toNat - ((i : Nat) : Int).toNat; omega⟩
      show ((selfs D i : Nat) : Int) = ((selfs D i + (if D.getD i 0 = (i : Int) then 1 else 0) : Nat) : Int); rw [if_neg he]; omega
  · refine pif_f (by simp; omega) ?_
    unfold F92.B1
    obtain rfl : i = x0.toNat := by omega
    exact k D _ l1 hlen hD
end Go.Proofs
/- Contracts: how far the vertices are. -/
set_option linter.unusedVariables false
set_option linter.unusedSimpArgs false
set_option maxRecDepth 100000
namespace Go.Proofs
open Go.Abs

variable {H G : AHeap} {v u f : Value} {l m c D : List Int} {es fs : List (Int × Int)} {K : Value → AHeap → Prop}

/-- What is not too far. -/
def farB (D : List Int) (w : Nat) : Bool := decide (w < D.length ∧ 0 ≤ D.getD w 0)
theorem farB_lt {w : Nat} (h : farB D w = true) : w < D.length := (of_decide_eq_true h).1
theorem farB_iff {w : Nat} (h : w < D.length) : farB D w = true ↔ 0 ≤ D.getD w 0 := by unfold farB; rw [decide_eq_true_iff]; exact ⟨fun h => h.2, fun h' => ⟨h, h'⟩⟩
theorem farB_set {y : Nat} {d : Int} (h : y < D.length) (hd : 0 ≤ d) : farB (D.set y d) = insB (farB D) y := by
  funext j
  unfold farB insB
  rw [List.length_set]
  by_cases e : y = j
  · subst e; rw [getD_set_self h]; simp [h, hd]
  · rw [getD_set_ne e]; simp [e]
structure FarOk (n : Nat) (D : List Int) : Prop where
  len : D.length = n
  rng : ∀ w, w < n → -1 ≤ D.getD w 0 ∧ D.getD w 0 + unseen (farB D) n ≤ 21
theorem FarOk.set {n x y : Nat} (h : FarOk n D) (hx : farB D x = true) (hy : y < n) (hf : farB D y = false) : FarOk n (D.set y (D.getD x 0 + 1)) := by
  have hl := h.len
  have hxl := farB_lt hx
  have hx0 := (farB_iff hxl).1 hx
  have hu := unseen_ins (S := farB D) hy hf
  refine ⟨by simp [hl], fun w hw => ?_⟩
  rw [farB_set (by omega) (by omega)]
  by_cases e : y = w
  · subst e
    rw [getD_set_self (by omega)]
    have := h.rng x (by omega)
    omega
  · rw [getD_set_ne e]
    have := h.rng w hw
    omega
/-- A state inside a round. -/
structure InV (adj : Nat → Nat → Prop) (a x n M : Nat) (D' : Nat → Prop) (S : Nat → Bool) (R : List Nat) : Prop where
  ex : Ex adj a S (x :: R)
  bnd : ∀ y, S y = true → y < n
  mu : 2 * unseen S n + (R.length + 1) ≤ M
  past : ∀ j, D' j → S j = true
section
variable {adj : Nat → Nat → Prop} {a x n M : Nat} {D' D2 : Nat → Prop} {S : Nat → Bool} {R : List Nat}
theorem InV.more (h : InV adj a x n M D' S R) (hd : ∀ j, D2 j → D' j ∨ S j = true) : InV adj a x n M D2 S R :=
  ⟨h.ex, h.bnd, h.mu, fun j hj => (hd j hj).elim (h.past j) id⟩
theorem InV.push {y : Nat} (h : InV adj a x n M D' S R) (hy : adj x y) (hyn : y < n) (hn : S y = false) (hd : ∀ j, D2 j → D' j ∨ j = y) : InV adj a x n M D2 (insB S y) (R ++ [y]) := by
  have hx : S x = true := h.ex.q x (by simp)
  refine ⟨h.ex.push hx hy, fun z hz => ?_, ?_, fun j hj => ?_⟩
  · by_cases e' : z = y
    · rw [e']; exact hyn
    · exact h.bnd z (insB_ne hz e')
  · have := unseen_ins (n := n) hyn hn
    have := h.mu
    simp; omega
  · rcases hd j hj with hj | rfl
    · exact insB_of (h.past j hj)
    · exact insB_self _ _
theorem InV.pop (h : InV adj a x n M D' S R) (hd : ∀ j, adj x j → D' j) : Ex adj a S R ∧ 2 * unseen S n + R.length < M :=
  ⟨h.ex.pop fun y hy => h.past y (hd y hy), by have := h.mu; omega⟩
end
/-- Past the first t edges at a vertex. -/
def PastV (es : List (Int × Int)) (p : Nat → Bool) (x t : Nat) (j : Nat) : Prop := ∃ t', t' < t ∧ t' < (atL es x).length ∧ p ((atL es x).getD t' 0).toNat = false ∧ (j : Int) = (es.getD ((atL es x).getD t' 0).toNat (0, 0)).1 + (es.getD ((atL es x).getD t' 0).toNat (0, 0)).2 - x
theorem PastV.step {p : Nat → Bool} {x t j i : Nat} (h : PastV es p x (t + 1) j) (hi : (atL es x).getD t 0 = i) : PastV es p x t j ∨ (p i = false ∧ (j : Int) = (es.getD i (0, 0)).1 + (es.getD i (0, 0)).2 - x) := by
  obtain ⟨t', h1, h2, h3, h4⟩ := h
  by_cases e : t' = t
  · subst e; rw [hi, Int.toNat_natCast] at h3 h4; exact .inr ⟨h3, h4⟩
  · exact .inl ⟨t', by omega, h2, h3, h4⟩
theorem PastV.fin {p : Nat → Bool} {x j : Nat} (h : vAdj (restL es p) x j) : PastV es p x (atL es x).length j := by
  have : ∃ i, i < es.length ∧ p i = false ∧ on (es.getD i (0, 0)) x = true ∧ (j : Int) = (es.getD i (0, 0)).1 + (es.getD i (0, 0)).2 - x := by
    rcases h with h | h
    · obtain ⟨i, h1, h2, h3⟩ := mem_restL.1 h
      exact ⟨i, h1, h2, by rw [← h3]; unfold on; simp, by rw [← h3]; simp only; omega⟩
    · obtain ⟨i, h1, h2, h3⟩ := mem_restL.1 h
      exact ⟨i, h1, h2, by rw [← h3]; unfold on; simp, by rw [← h3]; simp only; omega⟩
  obtain ⟨i, h1, h2, h3, h4⟩ := this
  have hm : (i : Int) ∈ atL es x := mem_atL.2 ⟨i, rfl, h1, h3⟩
  obtain ⟨t, ht, hte⟩ := List.getElem_of_mem hm
  have e : (atL es x).getD t 0 = i := by rw [getD_of ht, hte]
  exact ⟨t, ht, ht, by rw [e]; exact h2, by rw [e]; exact h4⟩
theorem adj_of {p : Nat → Bool} {x y i : Nat} (h1 : i < es.length) (h2 : p i = false) (h3 : on (es.getD i (0, 0)) x = true) (h4 : (y : Int) = (es.getD i (0, 0)).1 + (es.getD i (0, 0)).2 - x) : vAdj (restL es p) x y := by
  unfold on at h3
  simp only [Bool.or_eq_true, beq_iff_eq] at h3
  rcases h3 with h | h
  · refine .inl (mem_restL.2 ⟨i, h1, h2, ?_⟩)
    rw [← h, show (y : Int) = (es.getD i (0, 0)).2 by omega]
  · refine .inr (mem_restL.2 ⟨i, h1, h2, ?_⟩)
    rw [← h, show (y : Int) = (es.getD i (0, 0)).1 by omega]

/-- A state of far vertices and a queue. -/
def FarQ (n m0 b0 : Nat) (X : (Nat → Bool) → List Nat → Prop) (x7 q : Value) (G : AHeap) : Prop := x7 = .slice (some ⟨b0, 0, none⟩) n (n + 1) ∧ ∃ (D : List Int) (Q : List Nat), Own G b0 2 (LI D) ∧ FarOk n D ∧ X (farB D) Q ∧ Sl m0 G q 2 1 (LI (NI Q))
def rowFar (G : AHeap) (b : Nat) : Nat → Bool :=
  match G[b]? with
  | some (some (.row cs _ _)) => farB (cs.map fun | .int _ x => x | _ => 0)
  | _ => fun _ => false
theorem rowFar_own {b : Nat} {t : TypeId} (h : Own G b t (LI D)) : rowFar G b = farB D := by
  unfold rowFar; rw [h]; simp only [LI, List.map_map]
  congr 1
  conv => rhs; rw [← List.map_id D]
  rfl

theorem distances_ok {n : Int} {a s : Nat} (h : Edges H v es) (hg : IsG n es) (hs : s < 2 ^ 64) (ha : a < n.toNat)
    (k : ∀ b0 D G, H.le G → H.length ≤ b0 → Own G b0 2 (LI D) → D.length = n.toNat → (∀ w, w < n.toNat → (0 ≤ D.getD w 0 ↔ Rch (vAdj (restL es fun j => s.testBit j)) a w)) → K (.slice (some ⟨b0, 0, none⟩) n.toNat (n.toNat + 1)) G) :
    AC Tryz.prog T0 155 [.agg ⟨[.int .i64 n, v]⟩, .int .i64 (a : Nat), .int .u64 (s : Nat)] H K := by
  have n0 := hg.ed.lo; have n1 := hg.ed.hi
  have h30 : es.length ≤ 30 := by have := hg.ed.len; omega
  apply F155.ac
  unfold F155.B17
  refine newK_f (all_iv (edges_one' h)) fun H1 l1 _ o1 => ?_
  unfold F155.B16
  refine newK_f rfl fun H2 l2 _ o2 => ldI_own (o1.le l2) rfl (repeat_ok (t := -1) (by simpa using o2) (by omega) (by omega) fun H3 l3 o3 => ?_)
  have l13 := AHeap.le_trans l2 l3
  obtain ⟨b0, hb0⟩ : ∃ b0, b0 = H2.length := ⟨_, rfl⟩
  have hb0l : H1.length ≤ b0 := by rw [hb0]; exact l2.1
  rw [← hb0] at o3
  rw [← hb0]
  clear o2 hb0
  unfold F155.B15
  refine own_idx (by omega) (by omega) (stK_1 o3 (by simp; omega) rfl fun H4 b4 o4 => ?_)
  rw [Int.toNat_natCast, show LI (List.replicate n.toNat (-1)) = (List.replicate n.toNat (-1)).map (Value.int .i64) from rfl, ← List.map_set] at o4
  have o4 : Own H4 b0 2 (LI ((List.replicate n.toNat (-1)).set a 0)) := o4
  have hb03 : b0 < H4.length := o4.lt
  have l14 : H1.le H4 := b4.le l13 hb0l
  unfold F155.B14
  refine newK_f rfl fun H5 l5 _ o5 => ?_
  obtain ⟨p, hp⟩ : ∃ p : Nat → Bool, p = fun j => s.testBit j := ⟨_, rfl⟩
  rw [← hp] at k
  have D0 : ∀ w, w < n.toNat → ((List.replicate n.toNat (-1)).set a (0 : Int)).getD w 0 = if a = w then 0 else -1 := by
    intro w hw
    by_cases e : a = w
    · subst e; rw [if_pos rfl]; exact getD_set_self (by simp; omega)
    · rw [if_neg e, getD_set_ne e]; simp [List.getD, hw]
  have F0 : ∀ w, farB ((List.replicate n.toNat (-1)).set a (0 : Int)) w = true ↔ w = a := by
    intro w
    by_cases hw : w < n.toNat
    · rw [farB_iff (by simp; omega), D0 w hw]
      by_cases e : a = w
      · subst e; simp
      · rw [if_neg e]; exact ⟨fun h => absurd h (by decide), fun h => absurd h.symm e⟩
    · exact ⟨fun h => absurd (farB_lt h) (by simp; omega), fun h => by omega⟩
  unfold F155.L2
  refine ⟨fun x2 x3 x7 x8 G => ((s : Nat) : Int) = x2 ∧ H.length = x3 ∧ H1.le G ∧ H4.length ≤ G.length ∧ FarQ n.toNat H4.length b0 (fun S Q => Ex (vAdj (restL es p)) a S Q ∧ (∀ y, S y = true → y < n.toNat) ∧ 2 * unseen S n.toNat + Q.length ≤ 41) x7 x8 G,
    fun _ _ _ x8 G => 2 * unseen (rowFar G b0) n.toNat + lenV x8, ⟨rfl, rfl, AHeap.le_trans l14 l5, l5.1, rfl, _, [a], o4.le l5, ⟨by simp, fun w hw => ?_⟩, ⟨.init F0, fun y hy => ?_, ?_⟩, Fresh.sl (.inr ⟨_, 1, Nat.le_refl _, rfl, o5, rfl⟩)⟩, ?_⟩
  · rw [D0 w hw]
    have := unseen_le (farB ((List.replicate n.toNat (-1)).set a (0 : Int))) n.toNat
    split <;> omega
  · rw [(F0 y).1 hy]; exact ha
  · have := unseen_le (farB ((List.replicate n.toNat (-1)).set a (0 : Int))) n.toNat
    simp; omega
  clear o5 l5 D0 F0 o4 o3 b4
  rintro x2 x3 x7 x8 G ⟨rfl, rfl, hG, hM4, rfl, D, Q, oD, hD, ⟨hE, hB, hU⟩, hQ⟩
  have oG := o1.le hG
  unfold F155.B13
  refine hQ.len (by decide) (n := Q.length) (by simp) (pif_cases (fun hb => ?_) fun hb => ?_)
  · have hpos : 0 < Q.length := by have := of_decide_eq_true hb; omega
    cases Q with
    | nil => simp at hpos
    | cons x Q =>
    have hxl : x < n.toNat := hB x (hE.q x (by simp))
    have hmu : 2 * unseen (rowFar G b0) n.toNat + lenV x8 = 2 * unseen (farB D) n.toNat + (Q.length + 1) := by
      rw [Sl_lenV hQ, rowFar_own oD]; simp
    have hU : 2 * unseen (farB D) n.toNat + (Q.length + 1) ≤ 41 := hU
    obtain ⟨M, hM⟩ : ∃ M, M = 2 * unseen (farB D) n.toNat + (Q.length + 1) := ⟨_, rfl⟩
    unfold F155.B12
    refine ldI_own oG rfl (ld1_own oG rfl (hQ.ints.rd (by decide) (by simp) ?_))
    rw [show (NI (x :: Q)).getD (0 : Int).toNat 0 = (x : Int) from rfl]
    have lG := AHeap.le_trans l1 hG
    refine at_ok (h.le lG) (by omega) fun w G2 hG2 hF => ?_
    have h3 := hg.three (v := (x : Int)) (by omega) (by omega)
    refine hF.len (by decide) (n := 3) (by rw [List.length_map, h3]) ?_
    have lG2 := AHeap.le_trans hG hG2
    have hbG : b0 < G.length := oD.lt
    unfold F155.L4
    refine ⟨fun x2 x3 x7 x8 x30 x31 x32 G => ((s : Nat) : Int) = x2 ∧ H.length = x3 ∧ w = x30 ∧ 3 = x31 ∧ H1.le G ∧ H4.length ≤ G.length ∧ Sl H4.length G w 2 1 (LI (atL es x)) ∧ (∀ b, bk w = some b → bk x8 ≠ some b) ∧
        ∃ t : Nat, x32 = t ∧ t ≤ 3 ∧ FarQ n.toNat H4.length b0 (fun S Q' => ∃ R, Q' = x :: R ∧ InV (vAdj (restL es p)) a x n.toNat M (PastV es p x t) S R) x7 x8 G,
      fun _ _ _ _ _ _ x32 _ => 3 - x32.toNat, ⟨rfl, rfl, rfl, rfl, lG2, Nat.le_trans hM4 hG2.1, hF.less hM4, (fun b hb hb' => by have := (hF.lt hb).1; have := (hQ.lt hb').2; omega), 0, rfl, by omega, rfl, D, x :: Q, oD.le hG2, hD, ⟨Q, rfl, hE, hB, by omega, fun j ⟨t', h, _⟩ => absurd h (by omega)⟩, hQ.le hG2⟩, ?_⟩
    clear hQ hE hB hF hG2 lG2 oG lG hG hM4 hbG oD hD
    rintro x2 x3 x7 x8' x30 x31 x32 G3 ⟨rfl, rfl, rfl, rfl, hG, hM4, hW, hA, t, rfl, ht, rfl, D3, _, oD, hD, ⟨R, rfl, hX⟩, hQ⟩
    have lG := AHeap.le_trans l1 hG
    have oG := o1.le hG
    unfold F155.B11
    refine pif_cases (fun hb => ?_) fun hb => ?_
    · have ht3 : t < 3 := by have := of_decide_eq_true hb; omega
      obtain ⟨i, hi1, hi2, hi3⟩ := at_get (es := es) (w := (x : Int)) (t := t) (by omega)
      obtain ⟨d1, d2, d3, d4, d5⟩ := hg.ed.ends es[i] (List.getElem_mem hi2)
      rw [← getD_of (d := (0, 0)) hi2] at d1 d2 d3 d4 d5
      obtain ⟨y, hy⟩ : ∃ y : Nat, (es.getD i (0, 0)).1 + (es.getD i (0, 0)).2 - (x : Int) = y := ⟨((es.getD i (0, 0)).1 + (es.getD i (0, 0)).2 - (x : Int)).toNat, by rcases on_oth hi3 with e | e <;> omega⟩
      have hyn : y < n.toNat := by rcases on_oth hi3 with e | e <;> omega
      have hstep : ∀ j, PastV es p x (t + 1) j → PastV es p x t j ∨ (p i = false ∧ j = y) := fun j hj => (PastV.step hj hi1).imp id fun ⟨h1, h2⟩ => ⟨h1, by omega⟩
      unfold F155.B10
      refine hW.ints.rd (by omega) (by omega) ?_
      simp only [Int.toNat_natCast, hi1]
      unfold F155.B9
      obtain ⟨bb, oo, hk, c1, c2⟩ := (h.le lG).idx (show (0 : Int) ≤ i by omega) (by omega)
      simp only [Int.toNat_natCast] at c1 c2
      refine ld1_own oG rfl (hk _ (ldI_mk c1 (ldI_mk c2 (hQ.ints.rd (by decide) (by simp) ?_))))
      rw [show (NI (x :: R)).getD (0 : Int).toNat 0 = (x : Int) from rfl]
      refine other_ok (e := es.getD i (0, 0)) (by omega) (by omega) (by omega) fun G4 l4 => asI_mk ?_
      rw [hy]
      have hG := AHeap.le_trans hG l4
      have hM4 := Nat.le_trans hM4 l4.1
      have hW := hW.le l4
      have oD := oD.le l4
      have hQ := hQ.le l4
      have oi := own_ints (c := n.toNat + 1) oD
      rw [hD.len] at oi
      have hyl : y < D3.length := by rw [hD.len]; exact hyn
      have hxl3 : x < D3.length := by rw [hD.len]; exact hxl
      have pi' : p i = s.testBit i := by rw [hp]
      unfold F155.B8
      refine oi.rd (by omega) (by omega) (pif_cases (fun hb => ?_) fun hb => ?_)
      · have hn : farB D3 y = false := by
          have := of_decide_eq_true hb
          rw [Int.toNat_natCast] at this
          cases hf : farB D3 y with
          | false => rfl
          | true => have := (farB_iff hyl).1 hf; omega
        refine has_ok hs (by omega) (asB_mk ?_)
        rw [Int.toNat_natCast, ← pi']
        refine pif_cases (fun hb => ?_) fun hb => ?_
        · have hpi : p i = false := by simpa using hb
          have hx3 : farB D3 x = true := hX.ex.q x (by simp)
          have hx0 := (farB_iff hxl3).1 hx3
          have hr := (hD.rng x hxl).2
          unfold F155.B7
          refine hQ.ints.rd (by decide) (by simp) ?_
          rw [show (NI (x :: R)).getD (0 : Int).toNat 0 = (x : Int) from rfl]
          refine oi.rd (by omega) (by omega) (own_idx (by omega) (by omega) (stK_1 oD (by simp; omega) rfl fun G5 b5 o5 => ?_))
          rw [Int.toNat_natCast, Int.toNat_natCast, wrap_id (by omega) (by omega)] at o5
          have o5 : Own G5 b0 2 (LI (D3.set y (D3.getD x 0 + 1))) := by rw [← List.map_set] at o5; exact o5
          have hD5 := hD.set hx3 hyn hn
          have hG5 := b5.le hG hb0l
          have hQ5 := hQ.but b5 hb03
          have hW5 := hW.but b5 hb03
          unfold F155.B6
          refine hQ5.pushN E_int (by decide) (by rw [b5.len]; exact hM4) (n := 1) (ys := [.int .i64 y]) rfl rfl (by have := hX.mu; simp; omega) (by simp) fun v' G6 k6 ot6 nb6 f6 => ?_
          unfold F155.B5
          rw [wrap_id (by omega) (by omega)]
          refine ⟨⟨rfl, rfl, rfl, rfl, k6.le hG5 (by omega), by have := k6.len; have := b5.len; omega, hW5.oth ot6 hA, (fun b hb hb' => by have := (hW5.lt hb).2; have := nb6 b hb'; omega), t + 1, by omega, by omega, rfl, _, x :: (R ++ [y]), k6.own o5 hb03, hD5, ⟨R ++ [y], rfl, ?_⟩, by simpa using f6.sl⟩, by simp; omega⟩
          rw [farB_set hyl (by omega)]
          exact hX.push (adj_of hi2 hpi hi3 hy.symm) hyn hn fun j hj => (hstep j hj).imp id fun h => h.2
        · have hpi : p i = true := by simpa using hb
          unfold F155.B5
          rw [wrap_id (by omega) (by omega)]
          refine ⟨⟨rfl, rfl, rfl, rfl, hG, hM4, hW, hA, t + 1, by omega, by omega, rfl, D3, x :: R, oD, hD, ⟨R, rfl, hX.more fun j hj => ?_⟩, hQ⟩, by simp; omega⟩
          rcases hstep j hj with h | ⟨h, rfl⟩
          · exact .inl h
          · rw [hpi] at h; cases h
      · have hn : farB D3 y = true := by
          have := of_decide_eq_false hb
          rw [Int.toNat_natCast] at this
          exact (farB_iff hyl).2 (by omega)
        unfold F155.B5
        rw [wrap_id (by omega) (by omega)]
        refine ⟨⟨rfl, rfl, rfl, rfl, hG, hM4, hW, hA, t + 1, by omega, by omega, rfl, D3, x :: R, oD, hD, ⟨R, rfl, hX.more fun j hj => ?_⟩, hQ⟩, by simp; omega⟩
        rcases hstep j hj with h | ⟨h, rfl⟩
        · exact .inl h
        · exact .inr hn
    · have ht3 : t = 3 := by have := of_decide_eq_false hb; omega
      subst ht3
      unfold F155.B3
      obtain ⟨hE, hlt⟩ := hX.pop fun j hj => by rw [← h3]; exact PastV.fin hj
      refine hQ.drop (i := 1) (n := R.length + 1) (by simp) (by decide) (by omega) (by omega) fun v' hv' => ?_
      have hv' : Sl H4.length G3 v' 2 1 (LI (NI R)) := by simpa using hv'
      refine ⟨⟨rfl, rfl, hG, hM4, rfl, D3, R, oD, hD, ⟨hE, hX.bnd, by omega⟩, hv'⟩, ?_⟩
      show 2 * unseen (rowFar G3 b0) n.toNat + lenV v' < 2 * unseen (rowFar G b0) n.toNat + lenV x8
      rw [hmu, Sl_lenV hv', rowFar_own oD]
      simpa [hM] using hlt
  · have hz : Q = [] := by
      have := of_decide_eq_false hb
      cases Q with
      | nil => rfl
      | cons x Q => simp at this
    subst hz
    unfold F155.B1
    refine k b0 D G (AHeap.le_trans l1 hG) (by have := l1.1; omega) oD hD.len fun w hw => ?_
    rw [← farB_iff (by have := hD.len; omega)]
    exact hE.fin w
end Go.Proofs
/- Contracts: the sides. -/
set_option linter.unusedVariables false
set_option linter.unusedSimpArgs false
set_option maxRecDepth 100000
namespace Go.Proofs
open Go.Abs

variable {H G : AHeap} {v u f : Value} {l m c D : List Int} {es fs : List (Int × Int)} {K : Value → AHeap → Prop}

theorem sides_ok {n : Int} {s : Nat} (h : Edges H v es) (hg : IsG n es) (hs : s < 2 ^ 64)
    (k : ∀ v' G, H.le G → RowsF (fun b => H.length ≤ b) G.length G v' (sidesL (restL es fun j => s.testBit j) n.toNat) → K v' G) :
    AC Tryz.prog T0 103 [.agg ⟨[.int .i64 n, v]⟩, .int .u64 (s : Nat)] H K := by
  have n0 := hg.ed.lo; have n1 := hg.ed.hi
  apply F103.ac
  unfold F103.B20
  refine newK_f (all_iv (edges_one' h)) fun H1 l1 _ o1 => ?_
  unfold F103.B19 F103.B18 F103.B17
  refine ldI_own o1 rfl ?_
  obtain ⟨fs, hfs⟩ : ∃ fs, fs = restL es fun j => s.testBit j := ⟨_, rfl⟩
  rw [← hfs] at k
  unfold F103.L2
  refine ⟨fun x1 x2 x5 x6 x12 x13 G => ((s : Nat) : Int) = x1 ∧ H.length = x2 ∧ n = x12 ∧ H1.le G ∧ ∃ i : Nat, x13 = i ∧ i ≤ n.toNat ∧ RowsF (fun b => H1.length ≤ b) G.length G x5 (sidesTo fs n.toNat i) ∧
      ∃ z : Nat, x6 = ((z : Nat) : Int) ∧ z < 2 ^ 64 ∧ ∀ w, z.testBit w = true ↔ w < n.toNat ∧ ∃ a, a < i ∧ Rch (vAdj fs) a w,
    fun _ _ _ _ _ x13 _ => n.toNat - x13.toNat, ⟨rfl, rfl, rfl, AHeap.le_refl _, 0, rfl, by omega, .nil, 0, rfl, by decide, fun w => ?_⟩, ?_⟩
  · simp
  rintro x1 x2 x5 x6 x12 x13 G ⟨rfl, rfl, rfl, hG, i, rfl, hi, hR, z, rfl, hz, hzb⟩
  have lG := AHeap.le_trans l1 hG
  have oG := o1.le hG
  unfold F103.B16
  refine pif_cases (fun hb => ?_) fun hb => ?_
  · have hin : i < n.toNat := by have := of_decide_eq_true hb; omega
    have hzi : z.testBit i = !vLeadB fs i := by
      rw [Bool.eq_iff_iff, hzb, Bool.not_eq_true', ← Bool.not_eq_true, vLeadB_iff]
      constructor
      · rintro ⟨_, a, h1, h2⟩ h; exact h a h1 h2
      · intro h
        refine ⟨hin, Classical.byContradiction fun h' => h fun b hb hr => h' ⟨b, hb, hr⟩⟩
    unfold F103.B15 F103.B14
    refine has_ok hz (by omega) (asB_mk ?_)
    rw [Int.toNat_natCast, hzi]
    refine pif_cases (fun hb => ?_) fun hb => ?_
    · have hl : vLeadB fs i = false := by simpa using hb
      unfold F103.B3
      rw [wrap_id (by omega) (by omega)]
      refine ⟨⟨rfl, rfl, rfl, hG, i + 1, by omega, by omega, ?_, z, rfl, hz, fun w => ?_⟩, by simp; omega⟩
      · rw [sidesTo_succ, hl]; simpa using hR
      · rw [hzb]
        refine and_congr_right fun _ => ⟨fun ⟨a, h1, h2⟩ => ⟨a, by omega, h2⟩, fun ⟨a, h1, h2⟩ => ?_⟩
        by_cases e : a = i
        · subst e
          have := (hzb a).1 (by rw [hzi, hl]; rfl)
          obtain ⟨_, b, g1, g2⟩ := this
          exact ⟨b, g1, g2.trans h2⟩
        · exact ⟨a, by omega, h2⟩
    · have hl : vLeadB fs i = true := by simpa using hb
      unfold F103.B13 F103.B12
      refine ldI_own oG rfl (ld1_own oG rfl (distances_ok (h.le lG) hg hs hin fun b0 D G2 l2 hb0 oD hD hfar => ?_))
      rw [← hfs] at hfar
      refine lenK_of ?_
      have hG2 := AHeap.le_trans hG l2
      have hb2 := oD.lt
      have hG2' := hG2.1
      unfold F103.L5
      refine ⟨fun x1 x2 x5' x6 x8 x12 x13 x22 x23 x24 G' => ((s : Nat) : Int) = x1 ∧ H.length = x2 ∧ x5 = x5' ∧ n = x12 ∧ ((i : Nat) : Int) = x13 ∧ .slice (some ⟨b0, 0, none⟩) n.toNat (n.toNat + 1) = x22 ∧ (n.toNat : Int) = x23 ∧ H1.le G' ∧ G2.length ≤ G'.length ∧ Own G' b0 2 (LI D) ∧ RowsF (fun b => H1.length ≤ b) G2.length G' x5 (sidesTo fs n.toNat i) ∧
          ∃ t : Nat, x24 = t ∧ t ≤ n.toNat ∧ Fresh G2.length G' x8 2 1 (LI (filtB (rchB (vAdj fs) i) t)) ∧ ∃ z' : Nat, x6 = ((z' : Nat) : Int) ∧ z' < 2 ^ 64 ∧ ∀ w, z'.testBit w = true ↔ z.testBit w = true ∨ w < t ∧ Rch (vAdj fs) i w,
        fun _ _ _ _ _ _ _ _ _ x24 _ => n.toNat - x24.toNat, ⟨rfl, rfl, rfl, rfl, rfl, rfl, rfl, hG2, Nat.le_refl _, oD, (hR.le l2).mono (fun _ h => h) l2.1, 0, rfl, by omega, .inl ⟨rfl, .inl rfl⟩, z, rfl, hz, fun w => by simp⟩, ?_⟩
      clear oD hR lG oG hG2 hG
      rintro x1 x2 x5' x6 x8 x12 x13 x22 x23 x24 G3 ⟨rfl, rfl, rfl, rfl, rfl, rfl, rfl, hG, hGl, oD, hR, t, rfl, ht, hF, z', rfl, hz', hzb'⟩
      unfold F103.B11
      refine pif_cases (fun hb => ?_) fun hb => ?_
      · have htn : t < n.toNat := by have := of_decide_eq_true hb; omega
        have hft := hfar t htn
        have hfl := filtB_length (rchB (vAdj fs) i) t
        unfold F103.B10
        have oi := own_ints (c := n.toNat + 1) oD
        rw [hD] at oi
        refine oi.rd (by omega) (by omega) ?_
        rw [Int.toNat_natCast]
        unfold F103.B9
        refine pif_cases (fun hb => ?_) fun hb => ?_
        · have hr : Rch (vAdj fs) i t := hft.1 (of_decide_eq_true hb)
          unfold F103.B8
          refine hF.sl.pushN E_int (by decide) hGl (n := 1) (ys := [.int .i64 t]) rfl rfl (by simp; omega) (by simp) fun v' G4 k4 ot4 nb4 f4 => ?_
          unfold F103.B7
          refine ⟨by omega, ?_⟩
          have p64 : 2 ^ t < 2 ^ 64 := Nat.pow_lt_pow_right (by decide) (by omega)
          rw [one_shl (by omega) (by omega), Int.toNat_natCast, bits_or hz' p64]
          unfold F103.B6
          rw [wrap_id (by omega) (by omega)]
          refine ⟨⟨rfl, rfl, rfl, rfl, rfl, rfl, rfl, k4.le hG (by have := hG2'; omega), by have := k4.len; omega, k4.own oD hb2, hR.keep k4, t + 1, by omega, by omega, ?_, z' ||| 2 ^ t, rfl, or_lt hz' p64, fun w => ?_⟩, by simp; omega⟩
          · rw [filtB_succ, rchB_iff.2 hr]; simpa using f4
          · rw [Nat.testBit_or, Nat.testBit_two_pow, Bool.or_eq_true, hzb', decide_eq_true_iff]
            constructor
            · rintro ((h | h) | rfl)
              · exact .inl h
              · exact .inr ⟨by omega, h.2⟩
              · exact .inr ⟨by omega, hr⟩
            · rintro (h | ⟨h1, h2⟩)
              · exact .inl (.inl h)
              · by_cases e : t = w
                · exact .inr e
                · exact .inl (.inr ⟨by omega, h2⟩)
        · have hr : ¬ Rch (vAdj fs) i t := fun h => of_decide_eq_false hb (hft.2 h)
          unfold F103.B6
          rw [wrap_id (by omega) (by omega)]
          refine ⟨⟨rfl, rfl, rfl, rfl, rfl, rfl, rfl, hG, hGl, oD, hR, t + 1, by omega, by omega, ?_, z', rfl, hz', fun w => ?_⟩, by simp; omega⟩
          · rw [filtB_succ, Bool.eq_false_iff.2 fun h => hr (rchB_iff.1 h)]; simpa using hF
          · rw [hzb']
            refine or_congr Iff.rfl ⟨fun ⟨h1, h2⟩ => ⟨by omega, h2⟩, fun ⟨h1, h2⟩ => ⟨?_, h2⟩⟩
            by_cases e : t = w
            · subst e; exact absurd h2 hr
            · omega
      · have htn : t = n.toNat := by have := of_decide_eq_false hb; omega
        subst htn
        have hsl := sidesTo_length fs n.toNat i
        unfold F103.B4
        refine hR.push hGl (fun b hb => by have := hG2'; omega) hF (by omega) fun v' G4 ot nb hlen hR4 => ?_
        unfold F103.B3
        rw [wrap_id (by omega) (by omega)]
        refine ⟨⟨rfl, rfl, rfl, ?_, i + 1, by omega, by omega, ?_, z', rfl, hz', fun w => ?_⟩, by simp; omega⟩
        · refine ⟨by have := hG.1; omega, fun b o ho => ot b o (fun hv => ?_) (hG.2 _ _ ho)⟩
          obtain ⟨vs, _, _, q3, _⟩ := hR
          have := (q3 b hv).1
          have := lt_of_get ho
          omega
        · rw [sidesTo_succ, hl]; exact hR4
        · rw [hzb', hzb]
          constructor
          · rintro (⟨h1, a, h2, h3⟩ | ⟨h1, h2⟩)
            · exact ⟨h1, a, by omega, h3⟩
            · exact ⟨h1, i, by omega, h2⟩
          · rintro ⟨h1, a, h2, h3⟩
            by_cases e : a = i
            · subst e; exact .inr ⟨h1, h3⟩
            · exact .inl ⟨h1, a, by omega, h3⟩
  · have hin : i = n.toNat := by have := of_decide_eq_false hb; omega
    subst hin
    unfold F103.B1
    exact k _ _ lG (hR.mono (fun b hb => by have := l1.1; omega) (Nat.le_refl _))
end Go.Proofs
/- Contracts: bonds, the program's way. -/
set_option linter.unusedVariables false
set_option linter.unusedSimpArgs false
set_option maxRecDepth 100000
namespace Go.Proofs
open Go.Abs

variable {H G : AHeap} {v u f : Value} {l m c D : List Int} {es fs : List (Int × Int)} {K : Value → AHeap → Prop} {A : Nat → Prop} {B : Nat} {ls : List (List Int)}

theorem RowsF.rowB (h : RowsF A B H v ls) {i : Nat} (hi : i < ls.length) {K : Value → Prop} (k : ∀ w, Fresh 0 H w 2 1 (LI (ls.getD i [])) → (∀ b, bk w = some b → b < B) → K w) : idxK v i 1 (fun b o => ld1 H b o K) := by
  obtain ⟨vs, h1, h2, h3, h4⟩ := h
  obtain ⟨w, g1, g2, g3⟩ := h4 i hi
  exact Sl_rd h1.sl (by omega) (by omega) (by rw [Int.toNat_natCast]; exact g1) (k w g2 fun b hb => (g3 b hb).2.1)

theorem place_cl {n x : Int} {b6 pb : Nat} {c0 : Nat} {t : TypeId} (h : Edges H v es) (hd : ∀ e ∈ es, 0 ≤ e.1 ∧ e.1 < n ∧ 0 ≤ e.2 ∧ e.2 < n) {x2 : Nat} (o2 : Own H x2 t [.int .i64 n, v]) (o6 : Own H b6 138 [.slice (some ⟨pb, 0, none⟩) n.toNat c0]) (oP : Own H pb 3 (LI D)) (hD : D.length = n.toNat) (h0 : 0 ≤ x) (h1 : x < es.length) :
    Cl H (.func (.func 149) ⟨[]⟩ ⟨[.pointer (some ⟨b6, 0, none⟩), .pointer (some ⟨x2, 0, none⟩)]⟩) (.int .i64 x) (D.getD (es.getD x.toNat (0, 0)).1.toNat 0 != D.getD (es.getD x.toNat (0, 0)).2.toNat 0) := by
  intro G hG K k
  refine callV_mk ?_
  apply F149.ac
  unfold F149.B2 F149.B1
  have hx : x.toNat < es.length := by omega
  obtain ⟨d1, d2, d3, d4⟩ := hd es[x.toNat] (List.getElem_mem hx)
  rw [← getD_of (d := (0, 0)) hx] at d1 d2 d3 d4
  have o2 := o2.le hG
  have o6 := o6.le hG
  have oi := own_ints (c := c0) (oP.le hG)
  rw [hD] at oi
  obtain ⟨bb, oo, hk, e1, e2⟩ := (h.le hG).idx h0 h1
  refine asP_mk (ld1_own o6 rfl (asP_mk (ld1_own o2 rfl (hk _ (ldI_mk e1 (oi.rd (by omega) (by omega) (asP_mk (ld1_own o6 rfl (asP_mk (ld1_own o2 rfl (hk _ (ldI_mk e2 (oi.rd (by omega) (by omega) ?_)))))))))))))
  exact k _ (AHeap.le_refl _)

theorem isBond_ok {n : Int} (h : Edges H v es) (hg : IsG n es) (hS : IsS l es.length) (k : ∀ G, H.le G → K (.bool (decide (Bond n.toNat es l))) G) :
    AC Tryz.prog T0 80 [.agg ⟨[.int .i64 n, v]⟩, .int .u64 (setN l : Nat)] H K := by
  have n0 := hg.ed.lo; have n1 := hg.ed.hi
  have h30 : es.length ≤ 30 := by have := hg.ed.len; omega
  have hs : setN l < 2 ^ 64 := setN_lt fun x hx => by have := hS.range x hx; omega
  have hends : ∀ e ∈ es, 0 ≤ e.1 ∧ e.1 < n ∧ 0 ≤ e.2 ∧ e.2 < n := fun e he => by have := hg.ed.ends e he; omega
  apply F80.ac
  unfold F80.B17
  refine newK_f (all_iv (edges_one' h)) fun H1 l1 _ o1 => ?_
  unfold F80.B16
  refine ldI_own o1 rfl (ld1_own o1 rfl (sides_ok (h.le l1) hg hs fun q H2 l2 hR => ?_))
  have hz : restL es (fun j => (0 : Nat).testBit j) = es := restL_none es fun j => Nat.zero_testBit j
  have l12 := AHeap.le_trans l1 l2
  have o2 := o1.le l2
  obtain ⟨fs, hfs⟩ : ∃ fs, fs = restL es (bitB l) := ⟨_, rfl⟩
  have hR : RowsF (fun b => H1.length ≤ b) H2.length H2 q (sidesL fs n.toNat) := by rw [hfs]; exact hR
  have hBond : ∀ b : Bool, (b = true ↔ Bond n.toNat es l) → ∀ G, H.le G → K (.bool b) G := fun b hb G hG => by
    have := k G hG
    rwa [show decide (Bond n.toNat es l) = b from (dec_eq hb).symm] at this
  have hBd : Bond n.toNat es l ↔ (sidesL fs n.toNat).length = (sidesL es n.toNat).length + 1 ∧ ∀ x ∈ l, ¬ Rch (vAdj fs) (es.getD x.toNat (0, 0)).1.toNat (es.getD x.toNat (0, 0)).2.toNat := by rw [hfs]; exact Iff.rfl
  have sl1 := sidesTo_length fs n.toNat n.toNat
  have sl2 := sidesTo_length es n.toNat n.toNat
  have sl1 : (sidesL fs n.toNat).length ≤ n.toNat := sl1
  have sl2 : (sidesL es n.toNat).length ≤ n.toNat := sl2
  unfold F80.B15
  refine hR.len (ldI_own o2 rfl (ld1_own o2 rfl (sides_ok (s := 0) (h.le l12) hg (by decide) fun q2 H3 l3 hR3 => ?_)))
  rw [hz] at hR3
  have l13 := AHeap.le_trans l12 l3
  refine hR3.len ?_
  rw [wrap_id (by omega) (by omega)]
  refine pif_cases (fun hb => ?_) fun hb => ?_
  · unfold F80.B14
    have hne := bne_iff_ne.1 hb
    exact hBond false ⟨(fun h => by cases h), fun h => by have := (hBd.1 h).1; omega⟩ _ l13
  · have he := bne_eq_false_iff_eq.1 hb
    have o3 := o2.le l3
    unfold F80.B13
    refine ldI_own o3 rfl (mkR_int (by omega) (by omega) (by decide) fun H4 l4 n4 o4 => newK_f rfl fun H5 l5 _ o5 => pif_t rfl (stK_f o5 (by simp) (by simp [Value.oneCell']) rfl fun H6 b6 o6 => ?_))
    rw [rep_one] at o4
    have l36 : H3.le H6 := b6.le (AHeap.le_trans l4 l5) l4.1
    have l16 := AHeap.le_trans l13 l36
    have o4 := b6.own (o4.le l5) (by have := o4.lt; omega)
    have hR0 := hR.le l3
    have hR := hR.le (AHeap.le_trans l3 l36)
    have h23 := l3.1
    have h36 : H3.length < H6.length := o4.lt
    have h46 : H4.length < H6.length := by have := o6.lt; omega
    have h34 : H3.length < H4.length := by omega
    unfold F80.B12
    refine hR.len ?_
    unfold F80.L2
    refine ⟨fun x1 x2 x6 x24 x25 x26 G => ((setN l : Nat) : Int) = x1 ∧ H.length = x2 ∧ H4.length = x6 ∧ q = x24 ∧ ((sidesL fs n.toNat).length : Int) = x25 ∧ H3.le G ∧ H6.length ≤ G.length ∧ Own G H4.length 138 [.slice (some ⟨H3.length, 0, none⟩) n.toNat (n.toNat + 1)] ∧ ∃ i : Nat, x26 = i ∧ i ≤ (sidesL fs n.toNat).length ∧ ∃ P, Own G H3.length 3 (LI P) ∧ PlaceTo fs n.toNat P i 0,
      fun _ _ _ _ _ x26 _ => (sidesL fs n.toNat).length - x26.toNat, ⟨rfl, rfl, rfl, rfl, rfl, l36, Nat.le_refl _, by simpa using o6, 0, rfl, by omega, _, o4, .init (by simp)⟩, ?_⟩
    clear o4 o6 o5 b6 l5 l4
    rintro x1 x2 x6 x24 x25 x26 G ⟨rfl, rfl, rfl, rfl, rfl, hG, hG6, oB, i, rfl, hi, P, oP, hP⟩
    have lG := AHeap.le_trans l13 hG
    unfold F80.B11
    refine pif_cases (fun hb => ?_) fun hb => ?_
    · have hil : i < (sidesL fs n.toNat).length := by have := of_decide_eq_true hb; omega
      have hRG := hR0.le hG
      have hsl := side_length (fs := fs) hil
      unfold F80.B10
      refine hRG.rowB hil fun w hw hwb => ?_
      unfold F80.B9
      refine hw.ints.len ?_
      unfold F80.L4
      refine ⟨fun x1 x2 x6 x7 x24 x25 x26 x31 x32 x33 G' => ((setN l : Nat) : Int) = x1 ∧ H.length = x2 ∧ H4.length = x6 ∧ (i : Int) = x7 ∧ q = x24 ∧ ((sidesL fs n.toNat).length : Int) = x25 ∧ (i : Int) = x26 ∧ w = x31 ∧ (((sidesL fs n.toNat).getD i []).length : Int) = x32 ∧ H3.le G' ∧ H6.length ≤ G'.length ∧ Own G' H4.length 138 [.slice (some ⟨H3.length, 0, none⟩) n.toNat (n.toNat + 1)] ∧ Fresh 0 G' w 2 1 (LI ((sidesL fs n.toNat).getD i [])) ∧
          ∃ t : Nat, x33 = t ∧ t ≤ ((sidesL fs n.toNat).getD i []).length ∧ ∃ P, Own G' H3.length 3 (LI P) ∧ PlaceTo fs n.toNat P i t,
        fun _ _ _ _ _ _ _ _ _ x33 _ => ((sidesL fs n.toNat).getD i []).length - x33.toNat, ⟨rfl, rfl, rfl, rfl, rfl, rfl, rfl, rfl, rfl, hG, hG6, oB, hw, 0, rfl, by omega, P, oP, hP⟩, ?_⟩
      clear hw hRG lG oB oP hP hG hG6
      rintro x1 x2 x6 x7 x24 x25 x26 x31 x32 x33 G3 ⟨rfl, rfl, rfl, rfl, rfl, rfl, rfl, rfl, rfl, hG, hG6, oB, hw, t, rfl, ht, P, oP, hP⟩
      unfold F80.B8
      refine pif_cases (fun hb => ?_) fun hb => ?_
      · have htl : t < ((sidesL fs n.toNat).getD i []).length := by have := of_decide_eq_true hb; omega
        obtain ⟨y, hy, hyn⟩ := side_range hil (List.getElem_mem htl)
        rw [← getD_of (d := 0) htl] at hy
        have hput := hP.put hil htl
        have hPl := hP.1
        unfold F80.B7
        refine hw.ints.rd (by omega) (by omega) ?_
        rw [Int.toNat_natCast]
        rw [hy] at hput ⊢
        unfold F80.B6
        refine ld1_own oB rfl (own_idx (by omega) (by omega) (stK_1 oP (by simp; omega) rfl fun G4 b4 o4 => ?_))
        rw [← List.map_set] at o4
        unfold F80.B5
        rw [wrap_id (by omega) (by omega)]
        refine ⟨⟨rfl, rfl, rfl, rfl, rfl, rfl, rfl, rfl, rfl, b4.le hG (Nat.le_refl _), by rw [b4.len]; exact hG6, b4.own oB (by omega), hw.keep (b4.keep (m := H3.length) (Nat.le_refl _)) fun b k e => ?_, t + 1, by omega, by omega, _, o4, hput⟩, by show ((sidesL fs n.toNat).getD i []).length - ((t : Int) + 1).toNat < ((sidesL fs n.toNat).getD i []).length - (t : Int).toNat; omega⟩
        subst e
        have := hwb b rfl
        omega
      · have htl : t = ((sidesL fs n.toNat).getD i []).length := by have := of_decide_eq_false hb; omega
        subst htl
        unfold F80.B3
        rw [wrap_id (by omega) (by omega)]
        exact ⟨⟨rfl, rfl, rfl, rfl, rfl, hG, hG6, oB, i + 1, by omega, by omega, P, oP, hP.next⟩, by simp; omega⟩
    · have hil : i = (sidesL fs n.toNat).length := by have := of_decide_eq_false hb; omega
      subst hil
      unfold F80.B1
      refine list_ok hs fun w G2 l2' f2 => ?_
      rw [hS.bits (by omega)] at f2
      have lG2 := AHeap.le_trans lG l2'
      have hll : l.length ≤ es.length := by have := bitsTo_length (setN l) es.length; rw [hS.filt]; exact filtB_length _ _
      refine areAllL_ok (p := fun x => P.getD (es.getD x.toNat (0, 0)).1.toNat 0 != P.getD (es.getD x.toNat (0, 0)).2.toNat 0) f2.ints (by omega) rfl (fun x hx => ?_) fun G3 l3' => asB_mk (hBond _ ?_ _ (AHeap.le_trans lG2 l3'))
      · have := hS.range x hx
        exact place_cl (h.le lG2) hends ((o3.le hG).le l2') (oB.le l2') (oP.le l2') hP.1 (by omega) (by omega)
      · rw [hBd, List.all_eq_true]
        refine ⟨fun h => ⟨by omega, fun x hx => ?_⟩, fun h x hx => ?_⟩
        all_goals
          have hr := hS.range x hx
          obtain ⟨d1, d2, d3, d4⟩ := hends es[x.toNat] (List.getElem_mem (show x.toNat < es.length by omega))
          rw [← getD_of (d := (0, 0)) (show x.toNat < es.length by omega)] at d1 d2 d3 d4
          have key := hP.iff (a := (es.getD x.toNat (0, 0)).1.toNat) (b := (es.getD x.toNat (0, 0)).2.toNat) (by omega) (by omega)
        · rw [← key]; exact bne_iff_ne.1 (h x hx)
        · exact bne_iff_ne.2 fun e => h.2 x hx (key.1 e)
end Go.Proofs
/- Contracts: bonds, the reference's way. -/
set_option linter.unusedVariables false
set_option linter.unusedSimpArgs false
set_option maxRecDepth 100000
namespace Go.Proofs
open Go.Abs

variable {H G : AHeap} {v u f : Value} {l m c D : List Int} {es fs : List (Int × Int)} {K : Value → AHeap → Prop}

theorem selfs_sides {n : Nat} (h : Leads n fs D) : ∀ k, k ≤ n → selfs D k = (sidesTo fs n k).length
  | 0, _ => by simp [selfs, sidesTo]
  | k + 1, hk => by
    rw [sidesTo_succ, List.length_append, ← selfs_sides h k (by omega), selfs]
    have := h.self (a := k) (by omega)
    rw [← vLeadB_iff] at this
    by_cases hl : vLeadB fs k = true
    · rw [if_pos (this.2 hl), if_pos hl]; rfl
    · rw [if_neg fun h => hl (this.1 h), if_neg hl]; rfl

theorem l03Rest_ok {n : Int} (h : Edges H v es) (hl : es.length ≤ 1048576) (hc : Ints H u l) (hS : IsS l es.length)
    (k : ∀ v' G, H.le G → Fresh H.length G v' 78 2 (LE (restL es (bitB l))) → K v' G) : AC Tryz.prog T0 93 [.agg ⟨[.int .i64 n, v]⟩, u] H K := by
  have hll : l.length ≤ es.length := by rw [hS.filt]; exact filtB_length _ _
  have hasc : ∀ i j, i < j → j < l.length → l.getD i 0 < l.getD j 0 := by
    intro i j hij hj
    have := hS.asc
    unfold Asc at this
    rw [List.pairwise_iff_getElem] at this
    rw [getD_of hj, getD_of (by omega)]
    exact this i j (by omega) hj hij
  apply F93.ac
  unfold F93.B10
  refine newK_f (all_iv (edges_one' h)) fun H1 l1 _ o1 => ?_
  unfold F93.B9
  refine newK_f rfl fun H2 l2 _ o2 => ?_
  unfold F93.B8 F93.L2
  refine ⟨fun x1 x2 x5 x6 x7 G => u = x1 ∧ H.length = x2 ∧ H1.le G ∧ ∃ i t : Nat, x7 = i ∧ x6 = t ∧ i ≤ es.length ∧ t ≤ l.length ∧ (∀ j, j < t → l.getD j 0 < i) ∧ (∀ j, t ≤ j → j < l.length → (i : Int) ≤ l.getD j 0) ∧ Fresh H1.length G x5 78 2 (LE (restTo es (bitB l) i)),
    fun _ _ _ _ x7 _ => es.length - x7.toNat, ⟨rfl, rfl, l2, 0, 0, rfl, rfl, by omega, by omega, fun j hj => absurd hj (by omega), fun j _ hj => ?_, .inr ⟨_, 0, Nat.le_refl _, rfl, o2, rfl⟩⟩, ?_⟩
  · have := (hS j hj).1; omega
  rintro x1 x2 x5 x6 x7 G ⟨rfl, rfl, hG, i, t, rfl, rfl, hi, ht, hlo, hhi, hF⟩
  have lG := AHeap.le_trans l1 hG
  have oG := o1.le hG
  unfold F93.B7
  refine ld1_own oG rfl ((h.le lG).len (pif_cases (fun hb => ?_) fun hb => ?_))
  · have hil : i < es.length := by have := of_decide_eq_true hb; omega
    have hrl := restTo_length es (bitB l) i
    have put : bitB l i = false → (t < l.length → l.getD t 0 ≠ (i : Int)) → ∀ N2 : Value → Nat → Value → Int → Int → AHeap → Prop, (∀ v' G', H1.le G' → Fresh H1.length G' v' 78 2 (LE (restTo es (bitB l) (i + 1))) → N2 u H.length v' (t : Int) ((i : Int) + 1) G') → F93.B4 K N2 u H.length x5 (t : Int) (i : Int) G := by
      intro hb' _ N2 hN
      unfold F93.B4
      obtain ⟨b, o, hk, c1, c2⟩ := (h.le lG).idx (show (0 : Int) ≤ i by omega) (by omega)
      refine ld1_own oG rfl (hk _ (ldI_mk c1 (ldI_mk c2 ?_)))
      refine hF.sl.pushN E_edge (by decide) hG.1 (n := 1) (ys := [.int .i64 (es.getD (i : Int).toNat (0, 0)).1, .int .i64 (es.getD (i : Int).toNat (0, 0)).2]) rfl rfl (by rw [LE_length]; simp; omega) (by simp) fun v' G2 k2 _ _ f2 => ?_
      unfold F93.B3
      rw [wrap_id (by omega) (by omega)]
      refine hN v' G2 (k2.le hG (Nat.le_refl _)) ?_
      rw [restTo_succ, hb', LE_append]
      exact f2
    have hbit : ∀ b, (bitB l i = true ↔ b) → (b ↔ t < l.length ∧ l.getD t 0 = (i : Int)) := by
      intro b hb
      rw [← hb, bitB_mem hS]
      constructor
      · intro hm
        obtain ⟨j, hj, hje⟩ := List.getElem_of_mem hm
        rw [← getD_of (d := 0) hj] at hje
        rcases Nat.lt_trichotomy j t with h1 | h1 | h1
        · have := hlo j h1; omega
        · subst h1; exact ⟨hj, hje⟩
        · have := hasc t j h1 hj
          have := hhi t (Nat.le_refl _) (by omega)
          omega
      · rintro ⟨h1, h2⟩
        rw [← h2, getD_of h1]; exact List.getElem_mem h1
    have hbi := hbit _ Iff.rfl
    have nxt : (t < l.length → l.getD t 0 ≠ (i : Int)) → (∀ j, j < t → l.getD j 0 < ((i + 1 : Nat) : Int)) ∧ (∀ j, t ≤ j → j < l.length → ((i + 1 : Nat) : Int) ≤ l.getD j 0) := by
      intro hn
      refine ⟨fun j hj => by have := hlo j hj; omega, fun j h1 h2 => ?_⟩
      have a1 := hhi t (Nat.le_refl _) (by omega)
      have a2 := hn (by omega)
      by_cases e : t = j
      · subst e; omega
      · have := hasc t j (by omega) h2; omega
    unfold F93.B6
    refine (hc.le lG).len (pif_cases (fun hb => ?_) fun hb => ?_)
    · have htl : t < l.length := by have := of_decide_eq_true hb; omega
      refine (hc.le lG).rd (by omega) (by omega) ?_
      rw [Int.toNat_natCast]
      refine pif_cases (fun hs => ?_) fun hs => ?_
      · have he : l.getD t 0 = (i : Int) := beq_iff_eq.1 hs
        have hb' : bitB l i = true := hbi.2 ⟨htl, he⟩
        unfold F93.B5
        rw [wrap_id (by omega) (by omega)]
        unfold F93.B3
        rw [wrap_id (by omega) (by omega)]
        refine ⟨⟨rfl, rfl, hG, i + 1, t + 1, by omega, by omega, by omega, by omega, fun j hj => ?_, fun j h1 h2 => ?_, ?_⟩, by simp; omega⟩
        · by_cases e : j = t
          · subst e; omega
          · have := hlo j (by omega); omega
        · have := hasc t j (by omega) h2; omega
        · rw [restTo_succ, hb']; simpa using hF
      · have he : l.getD t 0 ≠ (i : Int) := fun e => by rw [e] at hs; simp at hs
        have hb' : bitB l i = false := by
          cases hx : bitB l i with
          | false => rfl
          | true => exact absurd (hbi.1 hx).2 he
        obtain ⟨p1, p2⟩ := nxt fun _ => he
        refine put hb' (fun _ => he) _ fun v' G' g1 g2 => ?_
        exact ⟨⟨rfl, rfl, g1, i + 1, t, by omega, rfl, by omega, ht, p1, p2, g2⟩, by simp; omega⟩
    · have htl : ¬ t < l.length := by have := of_decide_eq_false hb; omega
      have hb' : bitB l i = false := by
        cases hx : bitB l i with
        | false => rfl
        | true => exact absurd (hbi.1 hx).1 htl
      obtain ⟨p1, p2⟩ := nxt fun h => absurd h htl
      refine put hb' (fun h => absurd h htl) _ fun v' G' g1 g2 => ?_
      exact ⟨⟨rfl, rfl, g1, i + 1, t, by omega, rfl, by omega, ht, p1, p2, g2⟩, by simp; omega⟩
  · have hil : i = es.length := by have := of_decide_eq_false hb; omega
    subst hil
    unfold F93.B1
    exact k _ _ lG (hF.less l1.1)

theorem l03Bond_ok {n : Int} (h : Edges H v es) (hg : IsG n es) (hc : Ints H u l) (hS : IsS l es.length) (k : ∀ G, H.le G → K (.bool (decide (Bond n.toNat es l))) G) :
    AC Tryz.prog T0 87 [.agg ⟨[.int .i64 n, v]⟩, u] H K := by
  have n0 := hg.ed.lo; have n1 := hg.ed.hi
  have h30 : es.length ≤ 30 := by have := hg.ed.len; omega
  have hll : l.length ≤ es.length := by rw [hS.filt]; exact filtB_length _ _
  have hends : ∀ e ∈ es, 0 ≤ e.1 ∧ e.1 < n ∧ 0 ≤ e.2 ∧ e.2 < n := fun e he => by have := hg.ed.ends e he; omega
  have hfl : (restL es (bitB l)).length ≤ es.length := restTo_length _ _ _
  have hBond : ∀ b : Bool, (b = true ↔ Bond n.toNat es l) → ∀ G, H.le G → K (.bool b) G := fun b hb G hG => by
    have := k G hG
    rwa [show decide (Bond n.toNat es l) = b from (dec_eq hb).symm] at this
  apply F87.ac
  unfold F87.B16
  refine newK_f (all_iv (edges_one' h)) fun H1 l1 _ o1 => ?_
  unfold F87.B15
  refine ldI_own o1 rfl (ldI_own o1 rfl (ld1_own o1 rfl (l03Rest_ok (h.le l1) (by omega) (hc.le l1) hS fun w H2 l2 f2 => ⟨l2, ?_⟩)))
  have l12 := AHeap.le_trans l1 l2
  have o2 := o1.le l2
  obtain ⟨fs, hfs⟩ : ∃ fs, fs = restL es (bitB l) := ⟨_, rfl⟩
  rw [← hfs] at f2 hfl
  have hfends : ∀ e ∈ fs, 0 ≤ e.1 ∧ e.1 < n ∧ 0 ≤ e.2 ∧ e.2 < n := fun e he => hends e (restL_sub (by rw [hfs] at he; exact he))
  have hBd : Bond n.toNat es l ↔ (sidesL fs n.toNat).length = (sidesL es n.toNat).length + 1 ∧ ∀ x ∈ l, ¬ Rch (vAdj fs) (es.getD x.toNat (0, 0)).1.toNat (es.getD x.toNat (0, 0)).2.toNat := by rw [hfs]; exact Iff.rfl
  refine l01Leaders_ok f2.edges (by omega) (by omega) (by omega) hfends fun b0 D H3 l3 oD _ hD => ?_
  have hDl := hD.led.1
  have l13 := AHeap.le_trans l12 l3
  have o3 := o2.le l3
  unfold F87.B14 F87.L9
  refine ⟨fun x1 x2 x5 x6 x7 G => u = x1 ∧ H.length = x2 ∧ .slice (some ⟨b0, 0, none⟩) n.toNat (n.toNat + 1) = x5 ∧ H3 = G ∧ ∃ i : Nat, x7 = i ∧ i ≤ n.toNat ∧ x6 = selfs D i, fun _ _ _ _ x7 _ => n.toNat - x7.toNat, ⟨rfl, rfl, rfl, rfl, 0, rfl, by omega, rfl⟩, ?_⟩
  rintro x1 x2 x5 x6 x7 G ⟨rfl, rfl, rfl, rfl, i, rfl, hi, rfl⟩
  have hsl := selfs_le D i
  unfold F87.B13
  refine ldI_own o3 rfl (pif_cases (fun hb => ?_) fun hb => ?_)
  · have hin : i < n.toNat := by have := of_decide_eq_true hb; omega
    have oi := own_ints (c := n.toNat + 1) oD
    rw [hDl] at oi
    unfold F87.B12
    refine oi.rd (by omega) (by omega) ?_
    rw [Int.toNat_natCast]
    have hss : selfs D (i + 1) = selfs D i + if D.getD i 0 = (i : Int) then 1 else 0 := rfl
    refine pif_cases (fun hs => ?_) fun hs => ?_
    · have he : D.getD i 0 = (i : Int) := beq_iff_eq.1 hs
      rw [if_pos he] at hss
      unfold F87.B11 F87.B10
      rw [wrap_id (by omega) (by omega), wrap_id (by omega) (by omega)]
      exact ⟨⟨rfl, rfl, rfl, rfl, i + 1, by omega, by omega, by omega⟩, by show n.toNat - ((i : Int) + 1).toNat < n.toNat - (i : Int).toNat; omega⟩
    · have he : D.getD i 0 ≠ (i : Int) := fun e => by rw [e] at hs; simp at hs
      rw [if_neg he] at hss
      unfold F87.B10
      rw [wrap_id (by omega) (by omega)]
      exact ⟨⟨rfl, rfl, rfl, rfl, i + 1, by omega, by omega, by omega⟩, by show n.toNat - ((i : Int) + 1).toNat < n.toNat - (i : Int).toNat; omega⟩
  · have hin : i = n.toNat := by have := of_decide_eq_false hb; omega
    subst hin
    have hcount : selfs D n.toNat = (sidesL fs n.toNat).length := selfs_sides hD _ (Nat.le_refl _)
    unfold F87.B8 F87.L2
    refine ⟨fun x1 x2 x5 x6 x8 G => u = x1 ∧ H.length = x2 ∧ .slice (some ⟨b0, 0, none⟩) n.toNat (n.toNat + 1) = x5 ∧ ((selfs D n.toNat : Nat) : Int) = x6 ∧ H3.le G ∧ ∃ j : Nat, x8 = j ∧ j ≤ l.length ∧ ∀ j', j' < j → D.getD (es.getD (l.getD j' 0).toNat (0, 0)).1.toNat 0 ≠ D.getD (es.getD (l.getD j' 0).toNat (0, 0)).2.toNat 0,
      fun _ _ _ _ x8 _ => l.length - x8.toNat, ⟨rfl, rfl, rfl, rfl, AHeap.le_refl _, 0, rfl, by omega, fun j hj => absurd hj (by omega)⟩, ?_⟩
    rintro x1 x2 x5 x6 x8 G ⟨rfl, rfl, rfl, rfl, hG, j, rfl, hj, hne⟩
    have lG := AHeap.le_trans l13 hG
    have oG := o3.le hG
    have key : ∀ x, x ∈ l → (D.getD (es.getD x.toNat (0, 0)).1.toNat 0 = D.getD (es.getD x.toNat (0, 0)).2.toNat 0 ↔ Rch (vAdj fs) (es.getD x.toNat (0, 0)).1.toNat (es.getD x.toNat (0, 0)).2.toNat) := by
      intro x hx
      have hr := hS.range x hx
      obtain ⟨d1, d2, d3, d4⟩ := hends es[x.toNat] (List.getElem_mem (show x.toNat < es.length by omega))
      rw [← getD_of (d := (0, 0)) (show x.toNat < es.length by omega)] at d1 d2 d3 d4
      exact hD.iff (by omega) (by omega)
    unfold F87.B7
    refine (hc.le lG).len (pif_cases (fun hb => ?_) fun hb => ?_)
    · have hjl : j < l.length := by have := of_decide_eq_true hb; omega
      have hx := hS.range l[j] (List.getElem_mem hjl)
      obtain ⟨d1, d2, d3, d4⟩ := hends es[(l[j]).toNat] (List.getElem_mem (show (l[j]).toNat < es.length by omega))
      rw [← getD_of (d := (0, 0)) (show (l[j]).toNat < es.length by omega)] at d1 d2 d3 d4
      unfold F87.B6
      refine ld1_own oG rfl ((hc.le lG).rd (by omega) (by omega) ?_)
      rw [Int.toNat_natCast, getD_of hjl]
      obtain ⟨b, o, hk, c1, c2⟩ := (h.le lG).idx hx.1 hx.2
      refine hk _ (ldI_mk c1 (ldI_mk c2 (newK_f rfl fun H5 l5 _ o5 => stK_f o5 (by simp) (by simp [Value.oneCell']) rfl fun H6 b6 o6 => ?_)))
      have l6 : G.le H6 := b6.le l5 (Nat.le_refl _)
      have oi := own_ints (c := n.toNat + 1) ((oD.le hG).le l6)
      rw [hDl] at oi
      unfold F87.B5
      refine ldI_own o6 rfl (oi.rd (by omega) (by omega) (ldI_own o6 rfl (oi.rd (by omega) (by omega) (pif_cases (fun hs => ?_) fun hs => ?_))))
      · unfold F87.B4
        have he := beq_iff_eq.1 hs
        exact hBond false ⟨(fun h => by cases h), fun h => absurd ((key _ (List.getElem_mem hjl)).1 he) ((hBd.1 h).2 _ (List.getElem_mem hjl))⟩ _ (AHeap.le_trans lG l6)
      · have he : D.getD (es.getD (l[j]).toNat (0, 0)).1.toNat 0 ≠ D.getD (es.getD (l[j]).toNat (0, 0)).2.toNat 0 := fun e => by rw [e] at hs; simp at hs
        unfold F87.B3
        rw [wrap_id (by omega) (by omega)]
        refine ⟨⟨rfl, rfl, rfl, rfl, AHeap.le_trans hG l6, j + 1, by omega, by omega, fun j' hj' => ?_⟩, by simp; omega⟩
        by_cases e : j' = j
        · subst e; rw [getD_of hjl]; exact he
        · exact hne j' (by omega)
    · have hjl : j = l.length := by have := of_decide_eq_false hb; omega
      subst hjl
      unfold F87.B1
      refine ldI_own oG rfl (ld1_own oG rfl (l01Parts_ok (h.le lG) (by omega) (by omega) (by omega) hends fun D' G2 l2' hD' hL' => asI_mk ?_))
      have hc2 : selfs D' n.toNat = (sidesL es n.toNat).length := selfs_sides hL' _ (Nat.le_refl _)
      have b2 := selfs_le D' n.toNat
      rw [wrap_id (by omega) (by omega)]
      refine hBond _ ?_ _ (AHeap.le_trans lG l2')
      rw [hBd, beq_iff_eq]
      refine ⟨fun e => ⟨by omega, fun x hx hr => ?_⟩, fun h => by have := h.1; omega⟩
      obtain ⟨j, hj, rfl⟩ := List.getElem_of_mem hx
      have := hne j hj
      rw [getD_of hj] at this
      exact this ((key _ hx).2 hr)
end Go.Proofs
/- Contracts: all sets of so many numbers, the reference's way; what grows out of lists that are there. -/
set_option linter.unusedVariables false
set_option linter.unusedSimpArgs false
set_option maxRecDepth 100000
namespace Go.Proofs
open Go.Abs

variable {H G : AHeap} {v u f : Value} {l m c D : List Int} {es fs : List (Int × Int)} {K : Value → AHeap → Prop} {A A' : Nat → Prop} {B : Nat} {ls ms : List (List Int)}

theorem l03Sets_ok {n : Nat} (hn : n ≤ 64) : ∀ (k f : Nat) (H : AHeap) (K : Value → AHeap → Prop), k ≤ 4 → f ≤ n →
    (∀ v' G, H.le G → RowsF (fun b => H.length ≤ b) G.length G v' (cmb n k f) → K v' G) → AC Tryz.prog T0 86 [.int .i64 (n : Nat), .int .i64 (k : Nat), .int .i64 (f : Nat)] H K
  | 0, f, H, K, _, hf, kk => by
    apply F86.ac
    unfold F86.B15 F86.B14
    refine pif_t rfl ?_
    unfold F86.B13
    refine newK_f rfl fun H1 l1 n1 o1 => newK_f rfl fun H2 l2 n2 o2 => ?_
    refine kk _ _ (AHeap.le_trans l1 l2) ?_
    rw [cmb_zero]
    refine ⟨[.slice (some ⟨H.length, 0, none⟩) 0 (0 + 1)], .inr ⟨H1.length, 1, Nat.zero_le _, rfl, o2, rfl⟩, rfl, fun b hb => ?_, fun i hi => ?_⟩
    · have : b = H1.length := by cases hb; rfl
      omega
    · obtain rfl : i = 0 := by simpa using hi
      refine ⟨_, rfl, .inr ⟨_, 0, Nat.zero_le _, rfl, o1.le l2, rfl⟩, fun b hb => ?_⟩
      have : b = H.length := by cases hb; rfl
      subst this
      refine ⟨Nat.le_refl _, by omega, fun e => ?_, fun j w' hj => absurd hj (by omega)⟩
      have : some H1.length = some H.length := e
      have := Option.some.inj this
      omega
  | k + 1, f, H, K, hk, hf, kk => by
    have cl : ∀ j f', j ≤ 4 → (cmb n j f').length ≤ 64 ^ 4 := fun j f' hj => Nat.le_trans (cmb_length j f') (Nat.le_trans (Nat.pow_le_pow_left hn j) (Nat.pow_le_pow_right (by decide) hj))
    have e64 : 64 ^ 4 = 16777216 := by decide
    apply F86.ac
    unfold F86.B15 F86.B14
    refine pif_f (by simp; omega) ?_
    unfold F86.B12
    refine newK_f rfl fun H1 l1 n1 o1 => ?_
    unfold F86.B11 F86.L2
    refine ⟨fun x0 x1 x7 x8 G => ((n : Nat) : Int) = x0 ∧ (((k + 1 : Nat) : Nat) : Int) = x1 ∧ H.le G ∧ ∃ i : Nat, x8 = i ∧ f ≤ i ∧ i ≤ n ∧ RowsF (fun b => H.length ≤ b) G.length G x7 (cmbTo n k f i), fun _ _ _ x8 _ => n - x8.toNat,
      ⟨rfl, rfl, l1, f, rfl, Nat.le_refl _, hf, ?_⟩, ?_⟩
    · rw [cmbTo_start (Nat.le_refl _)]
      exact .nil1 o1 (Nat.le_refl _) (by omega)
    rintro x0 x1 x7 x8 G ⟨rfl, rfl, hG, i, rfl, hfi, hin, hR⟩
    have hlen : ∀ i', i' ≤ n → (cmbTo n k f i').length ≤ 16777216 * 65 := by
      intro i' hi'
      have h := flatMap_len (c := 64 ^ 4) ((List.range i').filter fun i => decide (f ≤ i)) (f := fun i => (cmb n k (i + 1)).map ((i : Int) :: ·)) fun i _ => by rw [List.length_map]; exact cl k (i + 1) (by omega)
      have h2 : ((List.range i').filter fun i => decide (f ≤ i)).length ≤ i' := Nat.le_trans (List.length_filter_le _ _) (by simp)
      unfold cmbTo
      refine Nat.le_trans h ?_
      rw [e64, Nat.mul_comm]
      exact Nat.mul_le_mul_left _ (by omega)
    unfold F86.B10
    refine pif_cases (fun hb => ?_) fun hb => ?_
    · have hil : i < n := by have := of_decide_eq_true hb; omega
      unfold F86.B9
      rw [wrap_id (by omega) (by omega), wrap_id (by omega) (by omega), show (((k + 1 : Nat) : Nat) : Int) - 1 = ((k : Nat) : Int) by omega, show ((i : Nat) : Int) + 1 = ((i + 1 : Nat) : Int) by omega]
      refine l03Sets_ok hn k (i + 1) G _ (by omega) (by omega) fun r G2 l2 hr => ?_
      have hkl := cl k (i + 1) (by omega)
      have hml := hlen i (by omega)
      have hg2 := l2.1
      obtain ⟨R, hRR⟩ : ∃ R, R = cmb n k (i + 1) := ⟨_, rfl⟩
      rw [← hRR] at hr hkl
      have hRlen : ∀ j, j < R.length → (R.getD j []).length ≤ 4 := by
        intro j hj
        rw [getD_of hj]
        have hm := List.getElem_mem hj
        have : R[j] ∈ cmb n k (i + 1) := by rw [← hRR]; exact hm
        have := (mem_cmb this).1
        omega
      have hbr : ∀ b, bk x7 = some b → b < G.length := fun b hb => by
        obtain ⟨vs, _, _, q3, _⟩ := hR
        exact (q3 b hb).2
      unfold F86.B8 F86.L4
      refine ⟨fun x0 x1 x7 x8 x9 x10 G' => ((n : Nat) : Int) = x0 ∧ (((k + 1 : Nat) : Nat) : Int) = x1 ∧ ((i : Nat) : Int) = x8 ∧ r = x9 ∧ H.le G' ∧ G2.length ≤ G'.length ∧ RowsF (fun b => G.length ≤ b) G2.length G' r R ∧ (∀ b, bk x7 = some b → b < G.length ∨ G2.length ≤ b) ∧ ∃ j : Nat, x10 = j ∧ j ≤ R.length ∧ RowsF (fun b => H.length ≤ b) G'.length G' x7 (cmbTo n k f i ++ (R.take j).map ((i : Int) :: ·)),
        fun _ _ _ _ _ x10 _ => R.length - x10.toNat, ⟨rfl, rfl, rfl, rfl, AHeap.le_trans hG l2, Nat.le_refl _, hr, fun b hb => .inl (hbr b hb), 0, rfl, by omega, ?_⟩, ?_⟩
      · rw [List.take_zero, List.map_nil, List.append_nil]
        exact (hR.le l2).mono (fun _ h => h) hg2
      clear hR hr hbr
      rintro x0 x1 x7 x8 x9 x10 G3 ⟨rfl, rfl, rfl, rfl, hG3, hl3, hr, hbr, j, rfl, hj, hR⟩
      unfold F86.B7
      refine hr.len (pif_cases (fun hb => ?_) fun hb => ?_)
      · have hjl : j < R.length := by have := of_decide_eq_true hb; omega
        unfold F86.B6
        refine newK_f rfl fun H4 l4 n4 o4 => ?_
        refine (hr.le l4).row hjl fun w hw => ?_
        have h41 : H4.length = G3.length + 1 := n4
        have hRj := hRlen j hjl
        have go : ∀ w' G5, Keep G3.length G3 G5 → Fresh G3.length G5 w' 2 1 (LI ((i : Int) :: R.getD j [])) → pif w'.oneCell' (newK G5 [w'] 28 (fun b8 H9 => apK T0 28 H9 x7 (.slice (some ⟨b8, 0, none⟩) 1 (1 + 1)) (fun v10 H11 => F86.B5 K (fun x0 x1 x7 x8 G => (((n : Nat) : Int) = x0 ∧ (((k + 1 : Nat) : Nat) : Int) = x1 ∧ H.le G ∧ ∃ i : Nat, x8 = i ∧ f ≤ i ∧ i ≤ n ∧ RowsF (fun b => H.length ≤ b) G.length G x7 (cmbTo n k f i)) ∧ n - x8.toNat < n - (i : Int).toNat)
            (fun x0 x1 x7 x8 x9 x10 G' => (((n : Nat) : Int) = x0 ∧ (((k + 1 : Nat) : Nat) : Int) = x1 ∧ ((i : Nat) : Int) = x8 ∧ r = x9 ∧ H.le G' ∧ G2.length ≤ G'.length ∧ RowsF (fun b => G.length ≤ b) G2.length G' r R ∧ (∀ b, bk x7 = some b → b < G.length ∨ G2.length ≤ b) ∧ ∃ j : Nat, x10 = j ∧ j ≤ R.length ∧ RowsF (fun b => H.length ≤ b) G'.length G' x7 (cmbTo n k f i ++ (R.take j).map ((i : Int) :: ·))) ∧ R.length - x10.toNat < R.length - (j : Int).toNat)
            n (k + 1 : Nat) v10 i r j H11))) False := by
          intro w' G5 k5 f5
          have k5l := k5.len
          refine (hR.keep k5).push k5l (fun b hb => by have := hG3.1; omega) f5 (by rw [List.length_append, List.length_map, List.length_take]; omega) fun v' G6 ot nb hlen hR6 => ?_
          unfold F86.B5
          rw [wrap_id (by omega) (by omega)]
          refine ⟨⟨rfl, rfl, rfl, rfl, ?_, by omega, ?_, fun b hb => .inr (by have := nb b hb; omega), j + 1, by omega, by omega, ?_⟩, by show R.length - ((j : Int) + 1).toNat < R.length - (j : Int).toNat; omega⟩
          · refine ⟨by have := hG3.1; omega, fun b o ho => ot b o (fun hv => ?_) (k5.old b o (by have := lt_of_get ho; have := hG3.1; omega) (hG3.2 _ _ ho))⟩
            obtain ⟨vs, _, _, q3, _⟩ := hR
            have := (q3 b hv).1
            have := lt_of_get ho
            omega
          · refine hr.move fun b o h1 h2 ho => ot b o (fun hv => ?_) (k5.old b o (by omega) ho)
            rcases hbr b hv with h | h <;> omega
          · rw [List.take_succ_eq_append_getElem hjl, List.map_append, ← List.append_assoc]
            rw [getD_of hjl] at hR6
            exact hR6
        refine Sl.app (m := G3.length) (cs := [.int .i64 i]) E_int (by decide) (.inr ⟨G3.length, 1, [], [], Nat.le_refl _, rfl, by simpa using o4, rfl⟩) (by omega) (fresh_cells hw (by decide) (n := (R.getD j []).length) (by simp)) (by simp only [LI, List.length_map, List.length_cons, List.length_nil]; omega) (fun h0 => ?_) fun v' G5 k5 ot5 nb5 f5 => ?_
        · have : R.getD j [] = [] := by simpa using h0
          refine go _ _ (Keep.of_le l4) ?_
          rw [this]
          exact .inr ⟨_, 1, Nat.le_refl _, rfl, o4, rfl⟩
        · refine go _ _ ((Keep.of_le l4).trans k5) ?_
          simpa using f5
      · have hjl : j = R.length := by have := of_decide_eq_false hb; omega
        subst hjl
        unfold F86.B3
        rw [wrap_id (by omega) (by omega)]
        refine ⟨⟨rfl, rfl, hG3, i + 1, by omega, by omega, by omega, ?_⟩, by simp; omega⟩
        rw [cmbTo_succ hfi, ← hRR]
        rw [List.take_length] at hR
        exact hR
    · have hil : i = n := by have := of_decide_eq_false hb; omega
      subst hil
      unfold F86.B1
      exact kk _ _ hG hR
end Go.Proofs
/- Contracts: a function called with all sets of so many numbers. -/
set_option linter.unusedVariables false
set_option linter.unusedSimpArgs false
set_option maxRecDepth 100000
namespace Go.Proofs
open Go.Abs

variable {H G : AHeap}

abbrev ptrV (b : Nat) : Value := .pointer (some ⟨b, 0, none⟩)
abbrev growV (a b c : Nat) : Value := .func (.func 147) ⟨[]⟩ ⟨[ptrV a, ptrV b, ptrV c]⟩

theorem grow_ok {m : Nat} (hm : m ≤ 62) {doV : Value} {c3 c4 c5 : Nat} {t3 t4 t5 : TypeId} {J : List (List Int) → AHeap → Prop} {q : List Int → Bool} {T : List (List Int)} {N : Nat}
    (h3 : ∀ done G, J done G → Own G c3 t3 [doV]) (h4 : ∀ done G, J done G → Own G c4 t4 [.int .i64 (m : Nat)]) (h5 : ∀ done G, J done G → Own G c5 t5 [growV c3 c4 c5])
    (hdo : ∀ done l G, J done G → l ∈ T → done.length < N → ∀ K : Value → AHeap → Prop, (∀ G', J (done ++ [l]) G' → K (.bool (q l)) G') → callV Tryz.prog T0 doV [.int .u64 (setN l : Nat)] G K) :
    ∀ (left f : Nat) (pre : List Int) (done : List (List Int)) (G : AHeap) (K : Value → AHeap → Prop), left ≤ 64 → f ≤ m → (∀ x ∈ pre, 0 ≤ x ∧ x < 64) → (∀ l ∈ cmb m left f, pre ++ l ∈ T) → done.length + (cmb m left f).length ≤ N → J done G →
      (∀ G', J (done ++ upTo q ((cmb m left f).map (pre ++ ·))) G' → K (.bool (((cmb m left f).map (pre ++ ·)).any q)) G') →
      AC Tryz.prog T0 147 [.int .u64 (setN pre : Nat), .int .i64 (f : Nat), .int .i64 (left : Nat), ptrV c3, ptrV c4, ptrV c5] G K
  | 0, f, pre, done, G, K, _, hf, hpre, hT, hN, hJ, k => by
    apply F147.ac
    unfold F147.B10 F147.B9
    refine pif_t rfl ?_
    unfold F147.B8
    have hp : pre ∈ T := by have := hT [] (by simp [cmb_zero]); simpa using this
    refine asP_mk (ld1_own (h3 _ _ hJ) rfl (hdo done pre G hJ hp (by simp [cmb_zero] at hN; omega) _ fun G' hG' => asB_mk ?_))
    have k := k G'
    rw [cmb_zero] at k
    have e1 : upTo q ([[]].map (pre ++ ·)) = [pre] := by simp [upTo]
    have e2 : ([[]].map (pre ++ ·)).any q = q pre := by simp
    rw [e1, e2] at k
    exact k hG'
  | left + 1, f, pre, done, G, K, hl, hf, hpre, hT, hN, hJ, k => by
    apply F147.ac
    unfold F147.B10 F147.B9
    refine pif_f (by simp; omega) ?_
    unfold F147.B7 F147.L2
    refine ⟨fun x0 x2 x4 x5 x10 G => ((setN pre : Nat) : Int) = x0 ∧ ((left + 1 : Nat) : Int) = x2 ∧ ptrV c4 = x4 ∧ ptrV c5 = x5 ∧ ∃ i : Nat, x10 = i ∧ f ≤ i ∧ i ≤ m ∧ ((cmbTo m left f i).map (pre ++ ·)).any q = false ∧ J (done ++ (cmbTo m left f i).map (pre ++ ·)) G,
      fun _ _ _ _ x10 _ => m + 1 - x10.toNat, ⟨rfl, rfl, rfl, rfl, f, rfl, Nat.le_refl _, hf, ?_, ?_⟩, ?_⟩
    · rw [cmbTo_start (Nat.le_refl _)]; rfl
    · rw [cmbTo_start (Nat.le_refl _)]; simpa using hJ
    rintro x0 x2 x4 x5 x10 G ⟨rfl, rfl, rfl, rfl, i, rfl, hfi, him, hno, hJ⟩
    unfold F147.B6
    refine asP_mk (ldI_own (h4 _ _ hJ) rfl ?_)
    rw [wrap_id (by omega) (by omega)]
    refine pif_cases (fun hb => ?_) fun hb => ?_
    · have hil : i + left + 1 ≤ m := by have := of_decide_eq_true hb; omega
      have p64 : 2 ^ i < 2 ^ 64 := Nat.pow_lt_pow_right (by decide) (by omega)
      unfold F147.B5
      refine asP_mk (ld1_own (h5 _ _ hJ) rfl ⟨by omega, callV_mk ?_⟩)
      rw [one_shl (by omega) (by omega), Int.toNat_natCast, bits_or (setN_lt fun x hx => (hpre x hx).2) p64, ← setN_snoc, wrap_id (by omega) (by omega), wrap_id (by omega) (by omega), show ((i : Nat) : Int) + 1 = ((i + 1 : Nat) : Int) by omega, show (((left + 1 : Nat) : Nat) : Int) - 1 = ((left : Nat) : Int) by omega]
      have hmap : ((cmb m left (i + 1)).map ((i : Int) :: ·)).map (pre ++ ·) = (cmb m left (i + 1)).map ((pre ++ [(i : Int)]) ++ ·) := by
        rw [List.map_map]; exact List.map_congr_left fun l _ => by simp
      have hsucc : (cmbTo m left f (i + 1)).map (pre ++ ·) = (cmbTo m left f i).map (pre ++ ·) ++ (cmb m left (i + 1)).map ((pre ++ [(i : Int)]) ++ ·) := by
        rw [cmbTo_succ hfi, List.map_append, hmap]
      have hall : ∃ rest, (cmb m (left + 1) f).map (pre ++ ·) = (cmbTo m left f (i + 1)).map (pre ++ ·) ++ rest := by
        have key : ∀ d, i + 1 + d ≤ m → ∃ rest, (cmbTo m left f (i + 1 + d)).map (pre ++ ·) = (cmbTo m left f (i + 1)).map (pre ++ ·) ++ rest := by
          intro d
          induction d with
          | zero => intro _; exact ⟨[], by simp⟩
          | succ d ih =>
            intro hd
            obtain ⟨r, hr⟩ := ih (by omega)
            rw [← Nat.add_assoc, cmbTo_succ (by omega), List.map_append, hr, List.append_assoc]
            exact ⟨_, rfl⟩
        have := key (m - (i + 1)) (by omega)
        rwa [show i + 1 + (m - (i + 1)) = m by omega] at this
      refine grow_ok hm h3 h4 h5 hdo left (i + 1) (pre ++ [(i : Int)]) _ G _ (by omega) (by omega) (fun x hx => ?_) (fun l hl' => ?_) ?_ hJ fun G' hG' => asB_mk ?_
      · rcases List.mem_append.1 hx with hx | hx
        · exact hpre x hx
        · rw [List.mem_singleton] at hx; omega
      · have : (i : Int) :: l ∈ cmb m (left + 1) f := by
          rw [cmb_succ, cmbTo, List.mem_flatMap]
          exact ⟨i, by rw [List.mem_filter, List.mem_range]; exact ⟨by omega, by simpa using hfi⟩, List.mem_map.2 ⟨l, hl', rfl⟩⟩
        have := hT _ this
        simpa using this
      · obtain ⟨rest, hr⟩ := hall
        have := congrArg List.length hr
        rw [hsucc] at this
        simp only [List.length_append, List.length_map] at this ⊢
        omega
      · refine pif_cases (fun hq => ?_) fun hq => ?_
        · unfold F147.B4
          have k := k G'
          obtain ⟨rest, hr⟩ := hall
          have hany : ((cmbTo m left f (i + 1)).map (pre ++ ·)).any q = true := by rw [hsucc, List.any_append, hq]; simp
          rw [hr, List.any_append, hany, Bool.true_or, upTo_stop hany, hsucc, upTo_app hno, ← List.append_assoc] at k
          exact k hG'
        · unfold F147.B3
          rw [wrap_id (by omega) (by omega)]
          refine ⟨⟨rfl, rfl, rfl, rfl, i + 1, by omega, by omega, by omega, ?_, ?_⟩, by simp; omega⟩
          · rw [hsucc, List.any_append, hno, hq]; rfl
          · rw [upTo_all hq] at hG'
            rw [hsucc, ← List.append_assoc]; exact hG'
    · have hil : m < i + left + 1 := by have := of_decide_eq_false hb; omega
      unfold F147.B1
      have k := k G
      rw [cmb_succ, cmbTo_end him hfi hil, hno, upTo_all hno] at k
      exact k hJ

theorem choose_ok {m n : Nat} (hm : m ≤ 62) (hn : n ≤ 64) {doV : Value} (hd : doV.oneCell' = true) {J : AHeap → List (List Int) → AHeap → Prop} {q : List Int → Bool} {K : Value → AHeap → Prop}
    (h0 : ∀ B, H.le B → B.length = H.length + 3 → J B [] B) (hb : ∀ B done G, J B done G → ∀ b o, H.length ≤ b → B[b]? = some (some o) → G[b]? = some (some o))
    (hdo : ∀ B done l G, H.le B → B.length = H.length + 3 → J B done G → l ∈ cmb m n 0 → done.length < (cmb m n 0).length → ∀ K : Value → AHeap → Prop, (∀ G', J B (done ++ [l]) G' → K (.bool (q l)) G') → callV Tryz.prog T0 doV [.int .u64 (setN l : Nat)] G K)
    (k : ∀ B G, H.le B → B.length = H.length + 3 → J B (upTo q (cmb m n 0)) G → K (.bool ((cmb m n 0).any q)) G) :
    AC Tryz.prog T0 78 [.int .i64 (m : Nat), .int .i64 (n : Nat), doV] H K := by
  apply F78.ac
  unfold F78.B4
  refine newK_f rfl fun H1 l1 n1 o1 => pif_t hd (newK_f (by simpa using hd) fun H2 l2 n2 o2 => ?_)
  unfold F78.B3
  refine newK_f rfl fun H3 l3 n3 o3 => ?_
  unfold F78.B2
  refine stK_f o3 (by simp) (by simp [Value.oneCell']) rfl fun H4 b4 o4 => ?_
  have l34 : H2.le H4 := b4.le l3 (Nat.le_refl _)
  have l4 := AHeap.le_trans (AHeap.le_trans l1 l2) l34
  have o14 := o1.le (AHeap.le_trans l2 l34)
  have o24 := o2.le l34
  have hl4 : H4.length = H.length + 3 := by rw [b4.len]; omega
  unfold F78.B1
  refine ld1_own o4 rfl (callV_mk ?_)
  refine grow_ok hm (t3 := _) (t4 := _) (t5 := _) (J := J H4) (q := q) (T := cmb m n 0) (N := (cmb m n 0).length) (doV := doV) (fun done G hJ => hb _ _ _ hJ _ _ (by omega) o24) (fun done G hJ => hb _ _ _ hJ _ _ (by omega) o14) (fun done G hJ => hb _ _ _ hJ _ _ (by omega) o4) (fun done l G hJ hl hn K hK => hdo H4 done l G l4 hl4 hJ hl hn K hK) n 0 [] [] H4 _ hn (by omega) (fun x hx => by cases hx) (fun l hl => by simpa using hl) (by simp) (h0 H4 l4 hl4) fun G hG => asB_mk ?_
  have e : (cmb m n 0).map ([] ++ ·) = cmb m n 0 := by simp
  rw [e] at hG ⊢
  exact k H4 G l4 hl4 (by simpa using hG)
end Go.Proofs
/- Contracts: all bonds of so many edges, both sides. -/
set_option linter.unusedVariables false
set_option linter.unusedSimpArgs false
set_option maxRecDepth 100000
namespace Go.Proofs
open Go.Abs

variable {H G : AHeap} {v u f : Value} {l m c D : List Int} {es fs : List (Int × Int)} {K : Value → AHeap → Prop} {A : Nat → Prop} {B : Nat} {ls : List (List Int)}

noncomputable def bsCode (n : Int) (es : List (Int × Int)) (x : Int) : Int := if IsG n es then (if 1 ≤ x ∧ x ≤ 4 then 0 else 2) else 1
noncomputable def bondQ (n : Int) (es : List (Int × Int)) (l : List Int) : Bool := decide (Bond n.toNat es l)
noncomputable def bsList (n : Int) (es : List (Int × Int)) (x : Int) : List (List Int) := if bsCode n es x = 0 then (cmb es.length x.toNat 0).filter (bondQ n es) else []
theorem bsCode_zero {n x : Int} (h : bsCode n es x = 0) : IsG n es ∧ 1 ≤ x ∧ x ≤ 4 := by
  unfold bsCode at h
  by_cases hg : IsG n es
  · rw [if_pos hg] at h
    by_cases hs : 1 ≤ x ∧ x ≤ 4
    · exact ⟨hg, hs⟩
    · rw [if_neg hs] at h; cases h
  · rw [if_neg hg] at h; cases h
theorem cmb_small {n k f : Nat} (hn : n ≤ 30) (hk : k ≤ 4) : (cmb n k f).length ≤ 810000 :=
  Nat.le_trans (cmb_length k f) (Nat.le_trans (Nat.pow_le_pow_left hn k) (Nat.le_trans (Nat.pow_le_pow_right (by decide) hk) (by decide)))
theorem totL_bound {c : Nat} : ∀ (ls : List (List Int)), (∀ l ∈ ls, l.length ≤ c) → totL ls ≤ ls.length * c
  | [], _ => by simp [totL]
  | x :: ls, h => by
    have h1 := totL_bound ls fun y hy => h y (by simp [hy])
    have h2 := h x (by simp)
    unfold totL at h1 ⊢
    rw [List.map_cons, List.sum_cons, List.length_cons, Nat.add_mul]
    omega
theorem bsList_small {n x : Int} : (bsList n es x).length ≤ 1048576 ∧ (∀ l ∈ bsList n es x, l.length ≤ 4294967296) ∧ totL (bsList n es x) ≤ 1000000000000 := by
  unfold bsList
  by_cases h : bsCode n es x = 0
  · rw [if_pos h]
    obtain ⟨hg, h1, h2⟩ := bsCode_zero h
    have h30 : es.length ≤ 30 := by have := hg.ed.len; have := hg.ed.hi; omega
    have hc : ((cmb es.length x.toNat 0).filter (bondQ n es)).length ≤ 810000 := Nat.le_trans (List.length_filter_le _ _) (cmb_small h30 (by omega))
    have hr : ∀ l ∈ (cmb es.length x.toNat 0).filter (bondQ n es), l.length ≤ 4 := fun l hl => by
      have := (mem_cmb (List.mem_filter.1 hl).1).1; omega
    refine ⟨by omega, fun l hl => by have := hr l hl; omega, ?_⟩
    have := totL_bound _ hr
    omega
  · rw [if_neg h]; exact ⟨by simp, by simp, by simp [totL]⟩

theorem specBonds_ok {n x : Int} (h : Edges H v es) (hl : es.length ≤ 1048576)
    (k : ∀ v' G, H.le G → RowsF (fun b => H.length ≤ b) G.length G v' (bsList n es x) → K (.tuple ⟨[v', .int .i64 (bsCode n es x)]⟩) G) : AC Tryz.prog T0 14 [.agg ⟨[.int .i64 n, v]⟩, .int .i64 x] H K := by
  apply F14.ac
  unfold F14.B13
  refine newK_f (all_iv (edges_one' h)) fun H1 l1 _ o1 => ?_
  unfold F14.B12
  refine ldI_own o1 rfl (ld1_own o1 rfl (l01Is_ok (h.le l1) hl fun H2 l2 => asB_mk ?_))
  have l12 := AHeap.le_trans l1 l2
  have o2 := o1.le l2
  refine pif_cases (fun hs => ?_) fun hs => ?_
  · have hg : ¬ IsG n es := by simpa using hs
    have e : bsCode n es x = 1 := by unfold bsCode; rw [if_neg hg]
    unfold F14.B9
    have k := k (.slice none 0 0) _ l12
    unfold bsList at k
    rw [e] at k
    exact k .nil
  have hg : IsG n es := by simpa using hs
  unfold F14.B11
  refine l01In_ok (asB_mk (pif_cases (fun hs => ?_) fun hs => ?_))
  · have hx : ¬ (1 ≤ x ∧ x ≤ 4) := by rw [Bool.not_eq_true'] at hs; exact of_decide_eq_false hs
    have e : bsCode n es x = 2 := by unfold bsCode; rw [if_pos hg, if_neg hx]
    unfold F14.B10
    have k := k (.slice none 0 0) _ l12
    unfold bsList at k
    rw [e] at k
    exact k .nil
  have hx : 1 ≤ x ∧ x ≤ 4 := by rw [Bool.not_eq_false'] at hs; exact of_decide_eq_true hs
  have e0 : bsCode n es x = 0 := by unfold bsCode; rw [if_pos hg, if_pos hx]
  have n0 := hg.ed.lo; have n1 := hg.ed.hi
  have h30 : es.length ≤ 30 := by have := hg.ed.len; omega
  unfold bsList at k
  rw [if_pos e0, e0] at k
  obtain ⟨y, hy⟩ : ∃ y : Nat, x = y := ⟨x.toNat, by omega⟩
  subst hy
  rw [Int.toNat_natCast] at k
  obtain ⟨S, hS⟩ : ∃ S, S = cmb es.length y 0 := ⟨_, rfl⟩
  rw [← hS] at k
  have hSl : S.length ≤ 810000 := by rw [hS]; exact cmb_small h30 (by omega)
  have hSm : ∀ i (hi : i < S.length), IsS (S.getD i []) es.length := by
    intro i hi
    rw [getD_of hi]
    have hm := List.getElem_mem hi
    have : S[i] ∈ cmb es.length y 0 := by rw [← hS]; exact hm
    exact (mem_cmb this).2.1
  unfold F14.B8
  refine ld1_own o2 rfl ((h.le l12).len (l03Sets_ok (by omega) y 0 _ _ (by omega) (by omega) fun q H3 l3 hq => newK_f rfl fun H4 l4 n4 o4 => ?_))
  rw [← hS] at hq
  have l13 := AHeap.le_trans l12 l3
  obtain ⟨vs, hF, hvl, hb6, hrow⟩ := hq
  have hbk : ∀ (i : Nat) (w : Value) (b : Nat), vs[i]? = some w → bk w = some b → H2.length ≤ b ∧ b < H3.length ∧ ∀ (j : Nat) w', j < i → vs[j]? = some w' → bk w' ≠ some b := by
    intro i w b hi hb
    obtain ⟨w', g1, _, g3⟩ := hrow i (by have := lt_of_get hi; omega)
    rw [hi] at g1; cases g1
    exact ⟨(g3 b hb).1, (g3 b hb).2.1, (g3 b hb).2.2.2⟩
  have o14 := (o2.le l3).le l4
  unfold F14.B7 F14.L2
  refine ⟨fun x2 x6 x7 x8 G => H.length = x2 ∧ q = x6 ∧ H1.le G ∧ H3.length ≤ G.length ∧ Fresh 0 G q 28 1 vs ∧ (∀ i, i < S.length → ∃ w, vs[i]? = some w ∧ Fresh 0 G w 2 1 (LI (S.getD i []))) ∧ (∀ b, bk x7 = some b → H3.length ≤ b) ∧
      ∃ i : Nat, x8 = i ∧ i ≤ S.length ∧ RowsF (fun b => H1.length ≤ b ∧ ∀ (j : Nat) w, i ≤ j → vs[j]? = some w → bk w ≠ some b) G.length G x7 ((S.take i).filter (bondQ n es)),
    fun _ _ _ x8 _ => S.length - x8.toNat, ⟨rfl, rfl, AHeap.le_trans l2 (AHeap.le_trans l3 l4), l4.1, hF.le l4, fun i hi => ?_, (fun b hb => by have : some H3.length = some b := hb; have := Option.some.inj this; omega), 0, rfl, by omega, ?_⟩, ?_⟩
  · obtain ⟨w, g1, g2, _⟩ := hrow i hi
    exact ⟨w, g1, g2.le l4⟩
  · refine .nil1 o4 ⟨by have := l2.1; have := l3.1; omega, fun j w _ hw hb => ?_⟩ (by omega)
    have := (hbk j w _ hw hb).2.1
    omega
  clear hrow hF o4 o14 n4 l4
  rintro x2 x6 x7 x8 G ⟨rfl, rfl, hG, hGl, hF, hrow, hb7, i, rfl, hi, hR⟩
  have lG := AHeap.le_trans l1 hG
  have oG := o1.le hG
  have hb6' : ∀ b, bk q = some b → b < H3.length := fun b hb => (hb6 b hb).2
  unfold F14.B6
  refine hF.sl.len (by decide) (n := S.length) (by omega) (pif_cases (fun hb => ?_) fun hb => ?_)
  · have hil : i < S.length := by have := of_decide_eq_true hb; omega
    obtain ⟨w, hw, fw⟩ := hrow i hil
    have take_succ : (S.take (i + 1)).filter (bondQ n es) = (S.take i).filter (bondQ n es) ++ if bondQ n es (S.getD i []) then [S.getD i []] else [] := by
      rw [List.take_succ_eq_append_getElem hil, List.filter_append, getD_of hil]
      congr 1
      cases hq : bondQ n es S[i] <;> simp [hq]
    have Amono : ∀ b, (H1.length ≤ b ∧ ∀ (j : Nat) w, i ≤ j → vs[j]? = some w → bk w ≠ some b) → (H1.length ≤ b ∧ ∀ (j : Nat) w, i + 1 ≤ j → vs[j]? = some w → bk w ≠ some b) := fun b hb => ⟨hb.1, fun j w hj => hb.2 j w (by omega)⟩
    have hfl : ((S.take i).filter (bondQ n es)).length ≤ 810000 := Nat.le_trans (List.length_filter_le _ _) (by rw [List.length_take]; omega)
    unfold F14.B5
    refine ldI_own oG rfl (ld1_own oG rfl (Sl_rd hF.sl (by omega) (by omega) (by rw [Int.toNat_natCast]; exact hw) (l03Bond_ok (h.le lG) hg fw.ints (hSm i hil) fun G2 hG2 => asB_mk ?_)))
    have lG2 := AHeap.le_trans hG hG2
    have hF2 := hF.le hG2
    have hG21 := hG2.1
    refine pif_cases (fun hb => ?_) fun hb => ?_
    · have hq : bondQ n es (S.getD i []) = true := hb
      unfold F14.B4
      refine Sl_rd hF2.sl (by omega) (by omega) (by rw [Int.toNat_natCast]; exact hw) ?_
      refine (hR.le hG2).pushA hG21 Amono (fun b hb => ⟨by have := lG2.1; omega, fun j w' _ hw' hb' => ?_⟩) (fw.le hG2) (fun b hb => ⟨fun ha => ha.2 i w (Nat.le_refl _) hw hb, ?_, fun j w' hj hw' hb' => ?_⟩) (by omega) fun v' G3 ot nb hlen hR3 => ?_
      · have := (hbk j w' b hw' hb').2.1; omega
      · have := (hbk i w b hw hb).1; have := l2.1; omega
      · exact (hbk j w' b hw' hb').2.2 i w (by omega) hw hb
      unfold F14.B3
      rw [wrap_id (by omega) (by omega)]
      have old : ∀ b o, b < H3.length → G2[b]? = some (some o) → G3[b]? = some (some o) := fun b o hb ho => ot b o (fun hv => by have := hb7 b hv; omega) ho
      refine ⟨⟨rfl, rfl, ⟨by have := lG2.1; omega, fun b o ho => old b o (by have := lt_of_get ho; have := l2.1; have := l3.1; omega) (lG2.2 _ _ ho)⟩, by omega, fresh_oth hF2 fun b o hb ho => old b o (hb6' b hb) ho, fun j hj => ?_, (fun b hb => by have := nb b hb; omega), i + 1, by omega, by omega, ?_⟩, by show S.length - ((i : Int) + 1).toNat < S.length - (i : Int).toNat; omega⟩
      · obtain ⟨w', g1, g2⟩ := hrow j hj
        exact ⟨w', g1, fresh_oth (g2.le hG2) fun b o hb ho => old b o (hbk j w' b g1 hb).2.1 ho⟩
      · rw [take_succ, hq]; exact hR3
    · have hq : bondQ n es (S.getD i []) = false := hb
      unfold F14.B3
      rw [wrap_id (by omega) (by omega)]
      refine ⟨⟨rfl, rfl, lG2, by omega, hF2, fun j hj => ?_, hb7, i + 1, by omega, by omega, ?_⟩, by show S.length - ((i : Int) + 1).toNat < S.length - (i : Int).toNat; omega⟩
      · obtain ⟨w', g1, g2⟩ := hrow j hj
        exact ⟨w', g1, g2.le hG2⟩
      · rw [take_succ, hq]
        simpa using (hR.le hG2).mono Amono hG21
  · have hil : i = S.length := by have := of_decide_eq_false hb; omega
    subst hil
    unfold F14.B1
    rw [List.take_length] at hR
    exact k _ _ lG (hR.mono (fun b hb => by have := l1.1; omega) (Nat.le_refl _))

theorem implBonds_ok {n x : Int} (h : Edges H v es) (hl : es.length ≤ 1048576)
    (k : ∀ v' G, H.le G → RowsF (fun b => H.length ≤ b) G.length G v' (bsList n es x) → K (.tuple ⟨[v', .int .i64 (bsCode n es x)]⟩) G) : AC Tryz.prog T0 12 [.agg ⟨[.int .i64 n, v]⟩, .int .i64 x] H K := by
  apply F12.ac
  unfold F12.B7
  refine newK_f (all_iv (edges_one' h)) fun H1 l1 _ o1 => ?_
  unfold F12.B6
  refine ldI_own o1 rfl (ld1_own o1 rfl (within_ok (asB_mk ⟨AHeap.le_refl _, graphCode_ok (h.le l1) hl fun H2 l2 => asI_mk ?_⟩)))
  have l12 := AHeap.le_trans l1 l2
  have o2 := o1.le l2
  have e : (if IsG n es then (if decide (1 ≤ x ∧ x ≤ 4) then 0 else 2) else 1 : Int) = bsCode n es x := by unfold bsCode; simp
  rw [e]
  unfold F12.B5
  refine pif_cases (fun hs => ?_) fun hs => ?_
  · unfold F12.B4
    have hne := bne_iff_ne.1 hs
    have k := k (.slice none 0 0) _ l12
    unfold bsList at k
    rw [if_neg hne] at k
    exact k .nil
  have e0 : bsCode n es x = 0 := bne_eq_false_iff_eq.1 hs
  obtain ⟨hg, hx⟩ := bsCode_zero e0
  have n0 := hg.ed.lo; have n1 := hg.ed.hi
  have h30 : es.length ≤ 30 := by have := hg.ed.len; omega
  unfold bsList at k
  rw [if_pos e0, e0] at k
  obtain ⟨y, hy⟩ : ∃ y : Nat, x = y := ⟨x.toNat, by omega⟩
  subst hy
  rw [Int.toNat_natCast] at k
  unfold F12.B3
  refine newK_f rfl fun H3 l3 n3 o3 => ?_
  obtain ⟨co, hco⟩ : ∃ co, co = H2.length := ⟨_, rfl⟩
  rw [← hco] at o3 ⊢
  have o13 := o2.le l3
  unfold F12.B2
  have l13 := AHeap.le_trans l12 l3
  refine ld1_own o13 rfl (lengthE_ok (h.le l13) (asI_mk ?_))
  have hsl := cmb_small (n := es.length) (k := y) (f := 0) h30 (by omega)
  refine choose_ok (m := es.length) (n := y) (by omega) (by omega) rfl
    (J := fun B done G => (∀ b o, b ≠ co → B[b]? = some (some o) → G[b]? = some (some o)) ∧ B.length ≤ G.length ∧ ∃ w, Own G co 32 [w] ∧ (∀ b, bk w = some b → B.length ≤ b) ∧ RowsF (fun b => B.length ≤ b) G.length G w (done.filter (bondQ n es))) (q := fun _ => false) ?_ ?_ ?_ ?_
  · intro B hB _
    exact ⟨fun b o _ ho => ho, Nat.le_refl _, _, o3.le hB, (fun b hb => by cases hb), .nil⟩
  · intro B done G hJ b o hb ho
    exact hJ.1 b o (by omega) ho
  · intro B done l G hB hBl ⟨hJ1, hJ2, w, oc, hwb, hR⟩ hlm hdn K hK
    have hlS := (mem_cmb hlm).2.1
    have hcoB : co < B.length := by have := hB.1; omega
    have lG : H2.le G := ⟨by have := l3.1; have := hB.1; omega, fun b o ho => hJ1 b o (by have := lt_of_get ho; omega) (hB.2 _ _ (l3.2 _ _ ho))⟩
    refine callV_mk ?_
    apply F79.ac
    unfold F79.B4 F79.B3
    refine asP_mk (ldI_own (o2.le lG) rfl (ld1_own (o2.le lG) rfl (isBond_ok (h.le (AHeap.le_trans l12 lG)) hg hlS fun G2 hG2 => asB_mk (pif_cases (fun hb => ?_) fun hb => ?_))))
    · have hq : bondQ n es l = true := hb
      unfold F79.B2
      have hg2 := hG2.1
      refine asP_mk (ld1_own (oc.le hG2) rfl (list_ok (setN_lt fun x hx => by have := hlS.range x hx; omega) fun w2 G3 l3' f3 => ⟨l3', ?_⟩))
      rw [hlS.bits (by omega)] at f3
      have hR3 := ((hR.le hG2).mono (fun _ h => h) hg2).le l3'
      have hfl : (done.filter (bondQ n es)).length ≤ 810000 := Nat.le_trans (List.length_filter_le _ _) (by omega)
      have hg3 := l3'.1
      refine hR3.push hg3 (fun b hb => by omega) f3 (by omega) fun v' G4 ot nb hlen hR4 => ?_
      have v1 : v'.oneCell' = true := by
        obtain ⟨vs, q1, _⟩ := hR4
        rcases q1 with ⟨_, rfl | ⟨a, rfl⟩⟩ | ⟨b, n', _, rfl, _⟩ <;> rfl
      have oc4 : Own G4 co 32 [w] := ot co _ (fun hv => by have := hwb co hv; omega) ((oc.le hG2).le l3')
      refine pif_t v1 (asP_mk (stK_f oc4 (by simp) (by simpa using v1) rfl fun G5 b5 o5 => ?_))
      unfold F79.B1
      refine hK G5 ⟨fun b o hb ho => ?_, by have := b5.len; omega, v', by simpa using o5, (fun b hb => by have := nb b hb; omega), ?_⟩
      · rw [b5.same b hb]
        exact ot b o (fun hv => by have := hwb b hv; have := lt_of_get ho; omega) (l3'.2 _ _ (hG2.2 _ _ (hJ1 b o hb ho)))
      · rw [List.filter_append, List.filter_cons, hq, b5.len]
        exact hR4.but b5 (by omega)
    · have hq : bondQ n es l = false := hb
      unfold F79.B1
      refine hK G2 ⟨fun b o hb ho => hG2.2 _ _ (hJ1 b o hb ho), Nat.le_trans hJ2 hG2.1, w, oc.le hG2, hwb, ?_⟩
      rw [List.filter_append, List.filter_cons, hq]
      simpa using (hR.le hG2).mono (fun _ h => h) hG2.1
  · intro B G hB hBl ⟨hJ1, hJ2, w, oc, hwb, hR⟩
    refine asB_mk ?_
    unfold F12.B1
    refine ld1_own oc rfl ?_
    rw [upTo_all (by simp)] at hR
    refine k w G ⟨by have := hB.1; have := l13.1; omega, fun b o ho => hJ1 b o (by have := lt_of_get ho; have := l12.1; omega) (hB.2 _ _ (l13.2 _ _ ho))⟩ (hR.mono (fun b hb => by have := hB.1; have := l13.1; omega) (Nat.le_refl _))
end Go.Proofs
/- Plain mathematics: sums of sets of edges, forests, and what is left when ends are cut. -/
set_option linter.unusedVariables false
set_option linter.unusedSimpArgs false
namespace Go.Proofs
open Go.Abs

variable {es : List (Int × Int)} {p q : Nat → Bool} {n : Int} {w : Int}

/-- How many numbers less than k have a mark. -/
def cn (f : Nat → Bool) : Nat → Nat
  | 0 => 0
  | k + 1 => cn f k + if f k then 1 else 0
theorem cn_filt (f : Nat → Bool) : ∀ k, (filtB f k).length = cn f k
  | 0 => rfl
  | k + 1 => by rw [filtB_succ, List.length_append, cn_filt f k, cn]; split <;> rfl
theorem cn_congr {f g : Nat → Bool} : ∀ {k}, (∀ i, i < k → f i = g i) → cn f k = cn g k
  | 0, _ => rfl
  | k + 1, h => by rw [cn, cn, cn_congr fun i hi => h i (by omega), h k (by omega)]
theorem cn_pos {f : Nat → Bool} {i : Nat} (hf : f i = true) : ∀ {k}, i < k → 0 < cn f k
  | k + 1, h => by
    rw [cn]
    by_cases e : i = k
    · subst e; rw [hf]; simp
    · have := cn_pos hf (k := k) (by omega); omega
/-- One mark less. -/
theorem cn_del {f : Nat → Bool} {i : Nat} (hf : f i = true) : ∀ {k}, i < k → cn (fun j => f j && !decide (j = i)) k + 1 = cn f k
  | k + 1, h => by
    rw [cn, cn]
    by_cases e : i = k
    · subst e
      rw [cn_congr (g := f) fun j hj => by have : j ≠ i := by omega
                                           simp [this], hf]; simp
    · have := cn_del hf (k := k) (by omega)
      have hk : k ≠ i := by omega
      simp only [hk, decide_false, Bool.not_false, Bool.and_true]
      omega
theorem degB_cn (p : Nat → Bool) (w : Int) : degB es p w = cn (fun j => on (es.getD j (0, 0)) w && p j) es.length := cn_filt _ _
/-- Sums over numbers. -/
def sm (f : Nat → Nat) : Nat → Nat
  | 0 => 0
  | k + 1 => sm f k + f k
theorem sm_congr {f g : Nat → Nat} : ∀ {k}, (∀ i, i < k → f i = g i) → sm f k = sm g k
  | 0, _ => rfl
  | k + 1, h => by rw [sm, sm, sm_congr fun i hi => h i (by omega), h k (by omega)]
theorem sm_add (f g : Nat → Nat) : ∀ k, sm (fun i => f i + g i) k = sm f k + sm g k
  | 0 => rfl
  | k + 1 => by rw [sm, sm, sm, sm_add f g k]; omega
theorem sm_zero : ∀ k, sm (fun _ => 0) k = 0
  | 0 => rfl
  | k + 1 => by rw [sm, sm_zero k]
theorem sm_even {f : Nat → Nat} : ∀ {k}, (∀ i, i < k → f i % 2 = 0) → sm f k % 2 = 0
  | 0, _ => rfl
  | k + 1, h => by have := sm_even (k := k) fun i hi => h i (by omega); have := h k (by omega); rw [sm]; omega
theorem sm_if (f : Nat → Bool) : ∀ k, sm (fun i => if f i then 1 else 0) k = cn f k
  | 0 => rfl
  | k + 1 => by rw [sm, cn, sm_if f k]
theorem sm_swap (f : Nat → Nat → Nat) (m : Nat) : ∀ k, sm (fun i => sm (fun j => f i j) m) k = sm (fun j => sm (fun i => f i j) k) m
  | 0 => by simp only [sm]; exact (sm_zero m).symm
  | k + 1 => by rw [sm, sm_swap f m k, ← sm_add]; exact sm_congr fun i _ => by rw [sm]
theorem sm_one {a : Nat} {c : Nat} : ∀ {k}, a < k → sm (fun i => if i = a then c else 0) k = c
  | k + 1, h => by
    rw [sm]
    by_cases e : a = k
    · subst e
      rw [sm_congr (g := fun _ => 0) fun i hi => if_neg (by omega), sm_zero]; simp
    · rw [sm_one (k := k) (by omega), if_neg (by omega), Nat.add_zero]

/-- Ends of an edge as numbers. -/
structure EndsIn (n : Int) (es : List (Int × Int)) : Prop where
  get : ∀ j, j < es.length → ∃ a b : Nat, es.getD j (0, 0) = ((a : Int), (b : Int)) ∧ a ≠ b ∧ (a : Int) < n ∧ (b : Int) < n
theorem IsG.endsIn (h : IsG n es) : EndsIn n es := ⟨fun j hj => by
  have hm : es.getD j (0, 0) ∈ es := by rw [getD_of hj]; exact List.getElem_mem _
  obtain ⟨h1, h2, h3, h4, h5⟩ := h.ed.ends _ hm
  refine ⟨(es.getD j (0, 0)).1.toNat, (es.getD j (0, 0)).2.toNat, ?_, by omega, by omega, by omega⟩
  rw [Int.toNat_of_nonneg h1, Int.toNat_of_nonneg h3]⟩

/-- All edges that have both ends among some vertices, or none: the degrees of these add up to twice the edges. -/
theorem hands (he : EndsIn n es) (A : Nat → Bool) (p : Nat → Bool) :
    sm (fun w => if A w then degB es p w else 0) n.toNat = sm (fun j => if p j then (if A (es.getD j (0, 0)).1.toNat then 1 else 0) + (if A (es.getD j (0, 0)).2.toNat then 1 else 0) else 0) es.length := by
  have e1 : ∀ w, (if A w then degB es p w else 0) = sm (fun j => if A w && (on (es.getD j (0, 0)) w && p j) then 1 else 0) es.length := fun w => by
    cases hA : A w with
    | false => simp [sm_zero]
    | true => rw [sm_if]; simp only [Bool.true_and, if_true]; rw [degB_cn]
  rw [sm_congr fun w _ => e1 w, sm_swap]
  refine sm_congr fun j hj => ?_
  obtain ⟨a, b, hab, hne, ha, hb⟩ := he.get j hj
  rw [hab]
  cases hp : p j with
  | false => simp [sm_zero]
  | true =>
    simp only [if_true, Int.toNat_natCast, Bool.and_true]
    rw [← sm_one (a := a) (c := if A a then 1 else 0) (k := n.toNat) (by omega), ← sm_one (a := b) (c := if A b then 1 else 0) (k := n.toNat) (by omega), ← sm_add]
    refine sm_congr fun w hw => ?_
    unfold on
    by_cases h1 : w = a
    · subst h1
      simp [hne]
    · by_cases h2 : w = b
      · subst h2
        simp [hne, h1]
      · have g1 : ¬ (a : Int) = w := by omega
        have g2 : ¬ (b : Int) = w := by omega
        simp [h1, h2, g1, g2]

/-- Vertices that an edge of a set joins. -/
def pAdj (es : List (Int × Int)) (p : Nat → Bool) (a b : Nat) : Prop := ∃ j, j < es.length ∧ p j = true ∧ (es.getD j (0, 0) = ((a : Int), (b : Int)) ∨ es.getD j (0, 0) = ((b : Int), (a : Int)))
theorem pAdj_mono (h : ∀ j, j < es.length → p j = true → q j = true) (a b : Nat) (k : pAdj es p a b) : pAdj es q a b := by
  obtain ⟨j, h1, h2, h3⟩ := k
  exact ⟨j, h1, h j h1 h2, h3⟩
/-- An edge of an even set: its ends are joined by the others. -/
theorem even_joins (he : EndsIn n es) (hp : EvenS n es p) {i a b : Nat} (hi : i < es.length) (hpi : p i = true) (hab : es.getD i (0, 0) = ((a : Int), (b : Int))) : Rch (pAdj es fun j => p j && !decide (j = i)) a b := by
  apply Classical.byContradiction
  intro hn
  let A : Nat → Bool := fun w => decide (Rch (pAdj es fun j => p j && !decide (j = i)) a w)
  have h1 := hands he A p
  have h2 : sm (fun w => if A w then degB es p w else 0) n.toNat % 2 = 0 := sm_even fun w hw => by
    split
    · exact hp w (by omega)
    · rfl
  have h3 : sm (fun j => if p j then (if A (es.getD j (0, 0)).1.toNat then 1 else 0) + (if A (es.getD j (0, 0)).2.toNat then 1 else 0) else 0) es.length = sm (fun j => (if p j && !decide (j = i) then (if A (es.getD j (0, 0)).1.toNat then 1 else 0) + (if A (es.getD j (0, 0)).2.toNat then 1 else 0) else 0) + if j = i then 1 else 0) es.length := sm_congr fun j hj => by
    by_cases e : j = i
    · subst e
      have ha : A a = true := decide_eq_true .refl
      have hb : A b = false := decide_eq_false hn
      simp only [hpi, hab, Int.toNat_natCast, ha, hb]; simp
    · simp [e]
  rw [h3, sm_add, sm_one hi] at h1
  have h4 : sm (fun j => if p j && !decide (j = i) then (if A (es.getD j (0, 0)).1.toNat then 1 else 0) + (if A (es.getD j (0, 0)).2.toNat then 1 else 0) else 0) es.length % 2 = 0 := sm_even fun j hj => by
    split
    · rename_i hpj
      obtain ⟨c, d, hcd, _⟩ := he.get j hj
      rw [hcd]
      simp only [Int.toNat_natCast]
      have hA : A c = A d := by
        have f1 : pAdj es (fun j => p j && !decide (j = i)) c d := ⟨j, hj, hpj, .inl hcd⟩
        have f2 : pAdj es (fun j => p j && !decide (j = i)) d c := ⟨j, hj, hpj, .inr hcd⟩
        exact decide_eq_decide.2 ⟨fun r => .step r f1, fun r => .step r f2⟩
      by_cases hd : A d = true
      · rw [if_pos hd, if_pos (hA.trans hd)]
      · rw [if_neg hd, if_neg (by rw [hA]; exact hd)]
    · rfl
  omega
/-- Edges are taken, one after the other, if their ends are not joined yet. -/
structure Forest (es : List (Int × Int)) (t : Nat → Bool) : Prop where
  out : ∀ j, j < es.length → t j = true → ∀ a b : Nat, es.getD j (0, 0) = ((a : Int), (b : Int)) → ¬ Rch (pAdj es fun i => t i && decide (i < j)) a b
  in' : ∀ j, j < es.length → t j = false → ∀ a b : Nat, es.getD j (0, 0) = ((a : Int), (b : Int)) → Rch (pAdj es fun i => t i && decide (i < j)) a b
theorem last_of {f : Nat → Bool} : ∀ {k}, (∃ i, i < k ∧ f i = true) → ∃ i, i < k ∧ f i = true ∧ ∀ j, j < k → f j = true → j ≤ i
  | 0, ⟨i, h, _⟩ => by omega
  | k + 1, ⟨i, h1, h2⟩ => by
    cases hf : f k with
    | true => exact ⟨k, by omega, hf, fun j hj _ => by omega⟩
    | false =>
      have : i ≠ k := by rintro rfl; rw [hf] at h2; cases h2
      obtain ⟨r, r1, r2, r3⟩ := last_of (k := k) ⟨i, by omega, h2⟩
      refine ⟨r, by omega, r2, fun j hj hfj => ?_⟩
      have hjk : j ≠ k := by rintro rfl; rw [hf] at hfj; cases hfj
      exact r3 j (by omega) hfj
theorem Forest.none {t : Nat → Bool} (ht : Forest es t) (he : EndsIn n es) (hp : EvenS n es p) (hs : ∀ j, j < es.length → p j = true → t j = true) : ∀ j, j < es.length → p j = false := by
  intro j hj
  cases hpj : p j with
  | false => rfl
  | true =>
    exfalso
    obtain ⟨i, h1, h2, h3⟩ := last_of (f := p) ⟨j, hj, hpj⟩
    obtain ⟨a, b, hab, _⟩ := he.get i h1
    refine ht.out i h1 (hs i h1 h2) a b hab ((even_joins he hp h1 h2 hab).mono (pAdj_mono fun k hk hk' => ?_))
    simp only [Bool.and_eq_true, Bool.not_eq_true', decide_eq_false_iff_not, decide_eq_true_eq] at hk' ⊢
    exact ⟨hs k hk hk'.1, by have := h3 k hk hk'.1; omega⟩
end Go.Proofs
/- Plain mathematics: edge cuts, sides with a cycle, connectivities. -/
set_option linter.unusedVariables false
set_option linter.unusedSimpArgs false
namespace Go.Proofs
open Go.Abs

variable {es fs gs : List (Int × Int)} {l : List Int} {n : Int}

noncomputable def cutB (n : Nat) (es : List (Int × Int)) (l : List Int) : Bool := decide ((sidesL es n).length < (sidesL (restL es (bitB l)) n).length)
/-- How many edges of a list have their first end on the side of a vertex. -/
noncomputable def insN (fs : List (Int × Int)) (v : Nat) : Nat := (fs.filter fun e => rchB (vAdj fs) v e.1.toNat).length
noncomputable def hasCyc (fs : List (Int × Int)) (n v : Nat) : Bool := decide ((sideL fs n v).length ≤ insN fs v)
/-- How many sides have a cycle. -/
noncomputable def cycTo (fs : List (Int × Int)) (n k : Nat) : Nat := cn (fun v => vLeadB fs v && hasCyc fs n v) k
noncomputable def cycM (fs : List (Int × Int)) (n : Nat) : Nat := cycTo fs n n
noncomputable def cyclicB (n : Nat) (es : List (Int × Int)) (l : List Int) : Bool := decide (2 ≤ cycM (restL es (bitB l)) n) && cutB n es l
theorem cyclic_cut {n : Nat} (h : cyclicB n es l = true) : cutB n es l = true := by
  unfold cyclicB at h
  rw [Bool.and_eq_true] at h
  exact h.2
theorem sides_cn (fs : List (Int × Int)) (n k : Nat) : (sidesTo fs n k).length = cn (vLeadB fs) k := by
  unfold sidesTo
  rw [List.length_map, ← cn_filt]
  unfold filtB
  rw [List.length_map]
theorem sidesL_cn (fs : List (Int × Int)) (n : Nat) : (sidesL fs n).length = cn (vLeadB fs) n := sides_cn fs n n
theorem lead_congr (h : ∀ x y, Rch (vAdj fs) x y ↔ Rch (vAdj gs) x y) (v : Nat) : vLeadB fs v = vLeadB gs v := by
  rw [Bool.eq_iff_iff, vLeadB_iff, vLeadB_iff]
  exact ⟨fun k b hb hr => k b hb ((h _ _).2 hr), fun k b hb hr => k b hb ((h _ _).1 hr)⟩
/-- One edge more, within a side. -/
theorem join_same {a b : Nat} (hadj : ∀ x y, vAdj gs x y ↔ vAdj fs x y ∨ (x = a ∧ y = b) ∨ (x = b ∧ y = a)) (h : Rch (vAdj fs) a b) (x y : Nat) : Rch (vAdj gs) x y ↔ Rch (vAdj fs) x y := by
  constructor
  · intro hr
    induction hr with
    | refl => exact .refl
    | step _ h2 ih =>
      rcases (hadj _ _).1 h2 with h3 | ⟨rfl, rfl⟩ | ⟨rfl, rfl⟩
      · exact .step ih h3
      · exact ih.trans h
      · exact ih.trans (h.symm vAdj_symm)
  · exact fun hr => hr.mono fun p q hpq => (hadj p q).2 (.inl hpq)
/-- One edge more, between two sides. -/
theorem join_rch {a b : Nat} (hadj : ∀ x y, vAdj gs x y ↔ vAdj fs x y ∨ (x = a ∧ y = b) ∨ (x = b ∧ y = a)) (x y : Nat) : Rch (vAdj gs) x y ↔ Rch (vAdj fs) x y ∨ (Rch (vAdj fs) x a ∧ Rch (vAdj fs) b y) ∨ (Rch (vAdj fs) x b ∧ Rch (vAdj fs) a y) := by
  have mo : ∀ {p q}, Rch (vAdj fs) p q → Rch (vAdj gs) p q := fun hr => hr.mono fun p q hpq => (hadj p q).2 (.inl hpq)
  have ab : Rch (vAdj gs) a b := .step .refl ((hadj a b).2 (.inr (.inl ⟨rfl, rfl⟩)))
  have ba : Rch (vAdj gs) b a := .step .refl ((hadj b a).2 (.inr (.inr ⟨rfl, rfl⟩)))
  constructor
  · intro hr
    induction hr with
    | refl => exact .inl .refl
    | step _ h2 ih =>
      rcases (hadj _ _).1 h2 with h3 | ⟨rfl, rfl⟩ | ⟨rfl, rfl⟩
      · rcases ih with ih | ⟨i1, i2⟩ | ⟨i1, i2⟩
        · exact .inl (.step ih h3)
        · exact .inr (.inl ⟨i1, .step i2 h3⟩)
        · exact .inr (.inr ⟨i1, .step i2 h3⟩)
      · rcases ih with ih | ⟨i1, i2⟩ | ⟨i1, i2⟩
        · exact .inr (.inl ⟨ih, .refl⟩)
        · exact .inr (.inl ⟨i1, .refl⟩)
        · exact .inl i1
      · rcases ih with ih | ⟨i1, i2⟩ | ⟨i1, i2⟩
        · exact .inr (.inr ⟨ih, .refl⟩)
        · exact .inl i1
        · exact .inr (.inr ⟨i1, .refl⟩)
  · rintro (h | ⟨h1, h2⟩ | ⟨h1, h2⟩)
    · exact mo h
    · exact (mo h1).trans (ab.trans (mo h2))
    · exact (mo h1).trans (ba.trans (mo h2))
theorem join_two {a b : Nat} {n : Nat} (hadj : ∀ x y, vAdj gs x y ↔ vAdj fs x y ∨ (x = a ∧ y = b) ∨ (x = b ∧ y = a)) (ha : a < n) (hb : b < n) (h : ¬ Rch (vAdj fs) a b) : (sidesL fs n).length = (sidesL gs n).length + 1 := by
  obtain ⟨p, p1, p2, p3⟩ := lead_exists (fs := fs) a
  obtain ⟨q, q1, q2, q3⟩ := lead_exists (fs := fs) b
  have key : ∀ {a b p q : Nat}, (∀ x y, vAdj gs x y ↔ vAdj fs x y ∨ (x = a ∧ y = b) ∨ (x = b ∧ y = a)) → vLeadB fs p = true → Rch (vAdj fs) p a → vLeadB fs q = true → Rch (vAdj fs) q b → p < q → ∀ v, vLeadB gs v = (vLeadB fs v && !decide (v = q)) := by
    intro a b p q hadj p2 p3 q2 q3 hpq v
    have hR := join_rch hadj
    rw [Bool.eq_iff_iff, Bool.and_eq_true, vLeadB_iff]
    constructor
    · intro hv
      refine ⟨vLeadB_iff.2 fun u hu hr => hv u hu ((hR u v).2 (.inl hr)), ?_⟩
      have : v ≠ q := by
        rintro rfl
        exact hv p hpq ((hR p v).2 (.inr (.inl ⟨p3, q3.symm vAdj_symm⟩)))
      simpa using this
    · rintro ⟨hv, hne⟩ u hu hr
      have hne : v ≠ q := by simpa using hne
      rcases (hR u v).1 hr with h1 | ⟨h1, h2⟩ | ⟨h1, h2⟩
      · exact vLeadB_iff.1 hv u hu h1
      · exact hne (lead_eq q2 hv (q3.trans h2)).symm
      · obtain rfl : p = v := lead_eq p2 hv (p3.trans h2)
        have h3 : Rch (vAdj fs) u q := h1.trans (q3.symm vAdj_symm)
        exact vLeadB_iff.1 q2 u (by omega) h3
  have hne : p ≠ q := by
    rintro rfl
    exact h ((p3.symm vAdj_symm).trans q3)
  rw [sidesL_cn, sidesL_cn]
  rcases Nat.lt_or_gt_of_ne hne with hlt | hlt
  · rw [cn_congr (f := vLeadB gs) (g := fun v => vLeadB fs v && !decide (v = q)) fun v _ => key hadj p2 p3 q2 q3 hlt v]
    exact (cn_del q2 (by omega)).symm
  · have hadj' : ∀ x y, vAdj gs x y ↔ vAdj fs x y ∨ (x = b ∧ y = a) ∨ (x = a ∧ y = b) := fun x y => by rw [hadj x y, Or.comm (a := x = a ∧ y = b)]
    rw [cn_congr (f := vLeadB gs) (g := fun v => vLeadB fs v && !decide (v = p)) fun v _ => key hadj' q2 q3 p2 p3 hlt v]
    exact (cn_del p2 (by omega)).symm
theorem bitB_one (i j : Nat) : bitB [(i : Int)] j = decide (j = i) := by
  have hS : IsS [(i : Int)] ((i : Int) + 1) := isS_cons (by omega) (by omega) (isS_nil _) fun y hy => by cases hy
  rw [Bool.eq_iff_iff, bitB_mem hS, decide_eq_true_iff, List.mem_singleton]
  omega
theorem mem_getD {e : Int × Int} : e ∈ es ↔ ∃ j, j < es.length ∧ e = es.getD j (0, 0) := by
  constructor
  · intro h
    obtain ⟨j, hj, rfl⟩ := List.getElem_of_mem h
    exact ⟨j, hj, (getD_of hj).symm⟩
  · rintro ⟨j, hj, rfl⟩
    rw [getD_of hj]; exact List.getElem_mem hj
theorem rest_adj {i a b : Nat} (hi : i < es.length) (hab : es.getD i (0, 0) = ((a : Int), (b : Int))) (x y : Nat) : vAdj es x y ↔ vAdj (restL es (bitB [(i : Int)])) x y ∨ (x = a ∧ y = b) ∨ (x = b ∧ y = a) := by
  have one : ∀ x y : Nat, ((x : Int), (y : Int)) ∈ es ↔ ((x : Int), (y : Int)) ∈ restL es (bitB [(i : Int)]) ∨ (x = a ∧ y = b) := by
    intro x y
    rw [mem_getD, mem_restL]
    constructor
    · rintro ⟨j, hj, e⟩
      by_cases hji : j = i
      · subst hji
        rw [hab, Prod.mk.injEq] at e
        exact .inr ⟨by omega, by omega⟩
      · exact .inl ⟨j, hj, by rw [bitB_one]; simpa using hji, e⟩
    · rintro (⟨j, hj, _, e⟩ | ⟨rfl, rfl⟩)
      · exact ⟨j, hj, e⟩
      · exact ⟨i, hi, hab.symm⟩
  unfold vAdj
  rw [one x y, one y x]
  constructor
  · rintro ((h | h) | (h | h))
    · exact .inl (.inl h)
    · exact .inr (.inl h)
    · exact .inl (.inr h)
    · exact .inr (.inr ⟨h.2, h.1⟩)
  · rintro ((h | h) | (h | h))
    · exact .inl (.inl h)
    · exact .inr (.inl h)
    · exact .inl (.inr h)
    · exact .inr (.inr ⟨h.2, h.1⟩)
/-- Bonds of one edge are the bridges. -/
theorem bond_one {i : Nat} (hg : IsG n es) (hi : i < es.length) : Bond n.toNat es [(i : Int)] ↔ cutB n.toNat es [(i : Int)] = true := by
  obtain ⟨a, b, hab, hne, ha, hb⟩ := hg.endsIn.get i hi
  have hadj := rest_adj hi hab
  unfold Bond cutB
  rw [decide_eq_true_iff]
  constructor
  · rintro ⟨h, _⟩; omega
  · intro h
    have hn : ¬ Rch (vAdj (restL es (bitB [(i : Int)]))) a b := by
      intro hr
      have e := cn_congr (k := n.toNat) fun v _ => lead_congr (join_same hadj hr) v
      rw [sidesL_cn, sidesL_cn, e] at h
      omega
    refine ⟨join_two hadj (by omega) (by omega) hn, fun x hx => ?_⟩
    rw [List.mem_singleton] at hx
    subst hx
    rw [Int.toNat_natCast, hab]
    exact hn
/-- The bridges. -/
noncomputable def brL (n : Int) (es : List (Int × Int)) : List Int := filtB (fun i => cutB n.toNat es [(i : Int)]) es.length
theorem cmb_one (m : Nat) : cmb m 1 0 = (List.range m).map fun i : Nat => [(i : Int)] := by
  rw [cmb_succ, cmbTo]
  rw [List.filter_eq_self.2 fun a _ => by simp]
  induction List.range m with
  | nil => rfl
  | cons x xs ih => rw [List.flatMap_cons, ih]; rfl
theorem bonds_one (hg : IsG n es) {q : List Int → Bool} (hq : ∀ l, q l = true ↔ Bond n.toNat es l) : (cmb es.length 1 0).filter q = (brL n es).map fun x => [x] := by
  have key : ∀ k, k ≤ es.length → ((List.range k).map fun i : Nat => [(i : Int)]).filter q = (filtB (fun i => cutB n.toNat es [(i : Int)]) k).map fun x => [x] := by
    intro k
    induction k with
    | zero => intro _; rfl
    | succ k ih =>
      intro hk
      rw [List.range_succ, List.map_append, List.filter_append, ih (by omega), filtB_succ, List.map_append]
      congr 1
      have := (hq [(k : Int)]).trans (bond_one hg (show k < es.length by omega))
      cases hc : cutB n.toNat es [(k : Int)] with
      | true => simp [this.2 hc]
      | false =>
        have : q [(k : Int)] = false := by
          cases h : q [(k : Int)] with
          | false => rfl
          | true => rw [this.1 h] at hc; cases hc
        simp [this]
  rw [cmb_one]
  exact key _ (Nat.le_refl _)
theorem cmb_one_any (m : Nat) (q : List Int → Bool) : (cmb m 1 0).any q = true ↔ ∃ i : Nat, i < m ∧ q [(i : Int)] = true := by
  rw [cmb_one, List.any_eq_true]
  constructor
  · rintro ⟨l, hl, hq⟩
    obtain ⟨i, hi, rfl⟩ := List.mem_map.1 hl
    exact ⟨i, List.mem_range.1 hi, hq⟩
  · rintro ⟨i, hi, hq⟩
    exact ⟨_, List.mem_map.2 ⟨i, List.mem_range.2 hi, rfl⟩, hq⟩
theorem bridge_any : (cmb es.length 1 0).any (cutB n.toNat es) = true ↔ 0 < (brL n es).length := by
  rw [cmb_one_any, brL, List.length_pos_iff_exists_mem]
  constructor
  · rintro ⟨i, h1, h2⟩; exact ⟨_, mem_filtB.2 ⟨i, rfl, h1, h2⟩⟩
  · rintro ⟨x, hx⟩; obtain ⟨i, rfl, h1, h2⟩ := mem_filtB.1 hx; exact ⟨i, h1, h2⟩
/-- All sets of k numbers are there. -/
theorem cmb_mem {m : Nat} : ∀ {k f : Nat} {l : List Int}, l.length = k → Asc l → (∀ x ∈ l, (f : Int) ≤ x ∧ x < m) → l ∈ cmb m k f
  | 0, f, [], _, _, _ => by rw [cmb_zero]; simp
  | k + 1, f, x :: l, hl, ha, hr => by
    have hx := hr x (by simp)
    unfold Asc at ha
    rw [List.pairwise_cons] at ha
    rw [cmb_succ, cmbTo, List.mem_flatMap]
    refine ⟨x.toNat, List.mem_filter.2 ⟨List.mem_range.2 (by omega), by simp; omega⟩, ?_⟩
    rw [List.mem_map]
    refine ⟨l, cmb_mem (by simpa using hl) ha.2 fun y hy => ?_, by rw [Int.toNat_of_nonneg (by omega)]⟩
    have h1 := hr y (by simp [hy])
    have h2 := ha.1 y hy
    omega
theorem star_cut (hg : IsG n es) (h1 : (sidesL es n.toNat).length = 1) : (cmb es.length 3 0).any (cutB n.toNat es) = true := by
  have n0 := hg.ed.lo
  have h3 := hg.three (v := 0) (by omega) (by omega)
  have hasc : Asc (atL es 0) := filtB_asc _ _
  have hr : ∀ x ∈ atL es 0, ((0 : Nat) : Int) ≤ x ∧ x < es.length := fun x hx => by
    obtain ⟨i, rfl, hi, _⟩ := mem_atL.1 hx
    omega
  rw [List.any_eq_true]
  refine ⟨atL es 0, cmb_mem h3 hasc hr, ?_⟩
  have hS : IsS (atL es 0) es.length := asc_isS hasc hr
  unfold cutB
  rw [decide_eq_true_iff, h1, sidesL_cn]
  obtain ⟨fs, hfs⟩ : ∃ fs, fs = restL es (bitB (atL es 0)) := ⟨_, rfl⟩
  rw [← hfs]
  have no : ∀ y, ¬ vAdj fs 0 y := by
    intro y hy
    have : ∀ e, e ∈ fs → on e 0 = true → False := by
      intro e he ho
      rw [hfs] at he
      obtain ⟨j, hj, hp, rfl⟩ := mem_restL.1 he
      have hm : (j : Int) ∈ atL es 0 := mem_atL.2 ⟨j, rfl, hj, ho⟩
      rw [(bitB_mem hS j).2 hm] at hp
      cases hp
    rcases hy with hy | hy
    · exact this _ hy (by simp [on])
    · exact this _ hy (by simp [on])
  have hz : ∀ y, Rch (vAdj fs) 0 y → y = 0 := fun y hy => hy.keep (P := fun x => x = 0) (fun p q hpq hp => by subst hp; exact absurd hpq (no q)) rfl
  have l0 : vLeadB fs 0 = true := vLeadB_iff.2 fun b hb => absurd hb (by omega)
  have l1 : vLeadB fs 1 = true := vLeadB_iff.2 fun b hb hr => by
    obtain rfl : b = 0 := by omega
    have := hz 1 hr
    omega
  rw [← cn_del l0 (show 0 < n.toNat by omega)]
  have := cn_pos (f := fun j => vLeadB fs j && !decide (j = 0)) (i := 1) (by simp [l1]) (show 1 < n.toNat by omega)
  omega
/-- The connectivities of connected graphs. -/
noncomputable def ecN (n : Int) (es : List (Int × Int)) : Int := if (cmb es.length 1 0).any (cutB n.toNat es) then 1 else if (cmb es.length 2 0).any (cutB n.toNat es) then 2 else 3
noncomputable def ccN (n : Int) (es : List (Int × Int)) : Int := if (cmb es.length 1 0).any (cyclicB n.toNat es) then 1 else if (cmb es.length 2 0).any (cyclicB n.toNat es) then 2 else if (cmb es.length 3 0).any (cyclicB n.toNat es) then 3 else if (cmb es.length 4 0).any (cyclicB n.toNat es) then 4 else 0
theorem ecN_range : 1 ≤ ecN n es ∧ ecN n es ≤ 3 := by
  unfold ecN; split
  · omega
  · split <;> omega
theorem ecN_one : ecN n es = 1 ↔ 0 < (brL n es).length := by
  rw [← bridge_any]
  unfold ecN
  constructor
  · intro h
    split at h
    · assumption
    · split at h <;> omega
  · intro h; rw [if_pos h]
theorem any_imp {l : List (List Int)} {p q : List Int → Bool} (h : ∀ x, p x = true → q x = true) (ha : l.any p = true) : l.any q = true := by
  rw [List.any_eq_true] at ha ⊢
  obtain ⟨x, hx, hp⟩ := ha
  exact ⟨x, hx, h x hp⟩
theorem ec_le_cc (h : ccN n es ≠ 0) : ecN n es ≤ ccN n es := by
  have r := ecN_range (n := n) (es := es)
  have key : ∀ k, (cmb es.length k 0).any (cyclicB n.toNat es) = true → (cmb es.length k 0).any (cutB n.toNat es) = true := fun k => any_imp fun x hx => cyclic_cut hx
  unfold ccN at h ⊢
  split
  · rename_i h1
    unfold ecN; rw [if_pos (key 1 h1)]; omega
  split
  · rename_i h2
    unfold ecN
    split
    · omega
    · rw [if_pos (key 2 h2)]; omega
  split
  · omega
  split
  · omega
  · rename_i h1 h2 h3 h4
    rw [if_neg h1, if_neg h2, if_neg h3, if_neg h4] at h
    exact absurd rfl h
end Go.Proofs
/- Plain mathematics: counting what lies inside of sides. -/
set_option linter.unusedVariables false
set_option linter.unusedSimpArgs false
namespace Go.Proofs
open Go.Abs

variable {es fs gs : List (Int × Int)} {l D : List Int} {n : Int} {p : Nat → Bool}

theorem rest_filter (f : Int × Int → Bool) : ∀ k, ((restTo es p k).filter f).length = cn (fun j => !p j && f (es.getD j (0, 0))) k
  | 0 => rfl
  | k + 1 => by
    rw [restTo_succ, List.filter_append, List.length_append, rest_filter f k, cn]
    cases hp : p k with
    | true => simp
    | false =>
      have e : ([es.getD k (0, 0)].filter f).length = if f (es.getD k (0, 0)) then 1 else 0 := by rw [List.filter_cons, List.filter_nil]; split <;> rfl
      simp only [Bool.not_false, Bool.true_and, Bool.false_eq_true, if_false]
      rw [e]
theorem insN_both (he : EndsIn n es) (v : Nat) : insN (restL es p) v = cn (fun j => rchB (vAdj (restL es p)) v (es.getD j (0, 0)).1.toNat && rchB (vAdj (restL es p)) v (es.getD j (0, 0)).2.toNat && !p j) es.length := by
  have h := rest_filter (es := es) (p := p) (fun e => rchB (vAdj (restL es p)) v e.1.toNat) es.length
  unfold insN
  refine h.trans (cn_congr fun j hj => ?_)
  cases hp : p j with
  | true => simp
  | false =>
    obtain ⟨a, b, hab, _⟩ := he.get j hj
    have hadj : vAdj (restL es p) a b := .inl (mem_restL.2 ⟨j, hj, hp, hab.symm⟩)
    rw [hab]
    simp only [Int.toNat_natCast]
    have : rchB (vAdj (restL es p)) v a = rchB (vAdj (restL es p)) v b := by
      rw [Bool.eq_iff_iff, rchB_iff, rchB_iff]
      exact ⟨fun h => .step h hadj, fun h => .step h (vAdj_symm _ _ hadj)⟩
    rw [← this]
    cases rchB (vAdj (restL es p)) v a <;> rfl
theorem lead_count {n : Nat} (hD : Leads n fs D) {v : Nat} (hv : v < n) (hl : vLeadB fs v = true) : cn (fun u => decide (D.getD u 0 = (v : Int))) n = (sideL fs n v).length := by
  unfold sideL
  rw [cn_filt]
  refine cn_congr fun u hu => ?_
  have h1 := (hD.self hv).2 (vLeadB_iff.1 hl)
  have h2 := hD.iff hv hu
  rw [Bool.eq_iff_iff, decide_eq_true_iff, rchB_iff, ← h2, h1]
  exact ⟨fun h => h.symm, fun h => h.symm⟩
theorem lead_inner {n : Nat} (hD : Leads n fs D) (hr : ∀ e ∈ fs, e.1.toNat < n) {v : Nat} (hv : v < n) (hl : vLeadB fs v = true) : (fs.filter fun e => decide (D.getD e.1.toNat 0 = (v : Int))).length = insN fs v := by
  unfold insN
  congr 1
  refine List.filter_congr fun e he => ?_
  have h1 := (hD.self hv).2 (vLeadB_iff.1 hl)
  have h2 := hD.iff hv (hr e he)
  rw [Bool.eq_iff_iff, decide_eq_true_iff, rchB_iff, ← h2, h1]
  exact ⟨fun h => h.symm, fun h => h.symm⟩
/-- The sides' least vertices. -/
noncomputable def leadL (fs : List (Int × Int)) (n : Nat) : List Nat := (List.range n).filter (vLeadB fs)
theorem leadL_length (fs : List (Int × Int)) (n : Nat) : (leadL fs n).length = (sidesL fs n).length := by
  unfold leadL sidesL sidesTo; rw [List.length_map]
theorem leadL_get {n j : Nat} (hj : j < (leadL fs n).length) : (sidesL fs n).getD j [] = sideL fs n (leadL fs n)[j] ∧ (leadL fs n)[j] < n ∧ vLeadB fs (leadL fs n)[j] = true := by
  have hm := List.getElem_mem hj
  have hm2 : (leadL fs n)[j] ∈ (List.range n).filter (vLeadB fs) := hm
  rw [List.mem_filter, List.mem_range] at hm2
  refine ⟨?_, hm2.1, hm2.2⟩
  unfold sidesL sidesTo
  have hj' : j < (((List.range n).filter (vLeadB fs)).map (sideL fs n)).length := by rw [List.length_map]; exact hj
  rw [List.getD, List.getElem?_eq_getElem hj', Option.getD_some, List.getElem_map]; rfl
/-- How many of the first k sides have a cycle. -/
noncomputable def manyTo (fs : List (Int × Int)) (n k : Nat) : Nat := (((leadL fs n).take k).filter (hasCyc fs n)).length
theorem manyTo_succ {n k : Nat} (h : k < (leadL fs n).length) : manyTo fs n (k + 1) = manyTo fs n k + if hasCyc fs n (leadL fs n)[k] then 1 else 0 := by
  unfold manyTo
  rw [List.take_succ_eq_append_getElem h, List.filter_append, List.length_append]
  cases hc : hasCyc fs n (leadL fs n)[k] <;> simp [hc]
theorem manyTo_le (fs : List (Int × Int)) (n k : Nat) : manyTo fs n k ≤ k := by
  unfold manyTo
  exact Nat.le_trans (List.length_filter_le _ _) (by rw [List.length_take]; omega)
theorem manyTo_all (fs : List (Int × Int)) (n : Nat) : manyTo fs n (leadL fs n).length = cycM fs n := by
  unfold manyTo cycM cycTo
  rw [List.take_length, ← cn_filt]
  unfold filtB leadL
  rw [List.length_map, List.filter_filter]
  congr 2
  funext v
  rw [Bool.and_comm]
end Go.Proofs
/- Contracts: edge cuts, bridges and edge connectivity, both sides. -/
set_option linter.unusedVariables false
set_option linter.unusedSimpArgs false
set_option maxRecDepth 100000
namespace Go.Proofs
open Go.Abs

variable {H G : AHeap} {v u f : Value} {l m c D : List Int} {es fs : List (Int × Int)} {K : Value → AHeap → Prop} {n : Int}

theorem setN64 (hg : IsG n es) (hS : IsS l es.length) : setN l < 2 ^ 64 := setN_lt fun x hx => by
  have := hS.range x hx; have := hg.ed.len; have := hg.ed.hi; omega
theorem isG_ends (hg : IsG n es) : ∀ e ∈ es, 0 ≤ e.1 ∧ e.1 < n ∧ 0 ≤ e.2 ∧ e.2 < n := fun e he => by have := hg.ed.ends e he; omega
theorem rest_ends (hg : IsG n es) {p : Nat → Bool} : ∀ e ∈ restL es p, 0 ≤ e.1 ∧ e.1 < n ∧ 0 ≤ e.2 ∧ e.2 < n := fun e he => isG_ends hg e (restL_sub he)
theorem sidesN_le (fs : List (Int × Int)) (n : Nat) : (sidesL fs n).length ≤ n := sidesTo_length fs n n
theorem isCut_ok (h : Edges H v es) (hg : IsG n es) (hS : IsS l es.length) (k : ∀ G, H.le G → K (.bool (cutB n.toNat es l)) G) :
    AC Tryz.prog T0 74 [.agg ⟨[.int .i64 n, v]⟩, .int .u64 (setN l : Nat)] H K := by
  apply F74.ac
  unfold F74.B2
  refine newK_f (all_iv (edges_one' h)) fun H1 l1 _ o1 => ?_
  unfold F74.B1
  refine ldI_own o1 rfl (ld1_own o1 rfl (ldI_own o1 rfl (ld1_own o1 rfl (sides_ok (h.le l1) hg (setN64 hg hS) fun q H2 l2 hR => ⟨l2, ?_⟩))))
  have hz : restL es (fun j => (0 : Nat).testBit j) = es := restL_none es fun j => Nat.zero_testBit j
  have hR : RowsF (fun b => H1.length ≤ b) H2.length H2 q (sidesL (restL es (bitB l)) n.toNat) := hR
  have l12 := AHeap.le_trans l1 l2
  refine hR.len (sides_ok (s := 0) (h.le l12) hg (by decide) fun q2 H3 l3 hR3 => ?_)
  rw [hz] at hR3
  refine hR3.len ?_
  have := k H3 (AHeap.le_trans l12 l3)
  unfold cutB at this
  have e : decide ((sidesL es n.toNat).length < (sidesL (restL es (bitB l)) n.toNat).length) = decide ((((sidesL (restL es (bitB l)) n.toNat).length : Nat) : Int) > (((sidesL es n.toNat).length : Nat) : Int)) := by
    rw [decide_eq_decide]; omega
  rw [e] at this
  exact this
theorem isConnected_ok (h : Edges H v es) (hg : IsG n es) (k : ∀ G, H.le G → K (.bool (decide ((sidesL es n.toNat).length = 1))) G) :
    AC Tryz.prog T0 151 [.agg ⟨[.int .i64 n, v]⟩] H K := by
  apply F151.ac
  unfold F151.B2
  refine newK_f (all_iv (edges_one' h)) fun H1 l1 _ o1 => ?_
  unfold F151.B1
  have hz : restL es (fun j => (0 : Nat).testBit j) = es := restL_none es fun j => Nat.zero_testBit j
  refine ldI_own o1 rfl (ld1_own o1 rfl (sides_ok (s := 0) (h.le l1) hg (by decide) fun q2 H3 l3 hR3 => ?_))
  rw [hz] at hR3
  refine hR3.len ?_
  have := k H3 (AHeap.le_trans l1 l3)
  have e : decide ((sidesL es n.toNat).length = 1) = ((((sidesL es n.toNat).length : Nat) : Int) == 1) := by
    rw [Bool.eq_iff_iff, decide_eq_true_iff, beq_iff_eq]; omega
  rw [e] at this
  exact this
/-- The code of a graph that has to be connected. -/
noncomputable def conCode (n : Int) (es : List (Int × Int)) : Int := if IsG n es then (if (sidesL es n.toNat).length = 1 then 0 else 5) else 1
theorem conCode_zero (h : conCode n es = 0) : IsG n es ∧ (sidesL es n.toNat).length = 1 := by
  unfold conCode at h
  by_cases hg : IsG n es
  · rw [if_pos hg] at h
    by_cases hs : (sidesL es n.toNat).length = 1
    · exact ⟨hg, hs⟩
    · rw [if_neg hs] at h; cases h
  · rw [if_neg hg] at h; cases h
theorem connectedCode_ok (h : Edges H v es) (hl : es.length ≤ 1048576) (k : ∀ G, H.le G → K (.int .i64 (conCode n es)) G) : AC Tryz.prog T0 90 [.agg ⟨[.int .i64 n, v]⟩] H K := by
  apply F90.ac
  unfold F90.B7
  refine newK_f (all_iv (edges_one' h)) fun H1 l1 _ o1 => ?_
  unfold F90.B6
  refine ldI_own o1 rfl (ld1_own o1 rfl (graphCode_ok (h.le l1) hl fun H2 l2 => asI_mk ?_))
  have l12 := AHeap.le_trans l1 l2
  have o2 := o1.le l2
  simp only [if_true]
  unfold F90.B5
  by_cases hg : IsG n es
  · rw [if_pos hg]
    refine pif_f rfl ?_
    unfold F90.B3
    refine ldI_own o2 rfl (ld1_own o2 rfl (isConnected_ok (h.le l12) hg fun H3 l3 => asB_mk ?_))
    have k := k H3 (AHeap.le_trans l12 l3)
    unfold conCode at k
    rw [if_pos hg] at k
    refine pif_cases (fun hb => ?_) fun hb => ?_
    · unfold F90.B2
      rw [Bool.not_eq_true'] at hb
      rw [if_neg (of_decide_eq_false hb)] at k; exact k
    · unfold F90.B1
      rw [Bool.not_eq_false'] at hb
      rw [if_pos (of_decide_eq_true hb)] at k; exact k
  · rw [if_neg hg]
    refine pif_t rfl ?_
    unfold F90.B4
    have k := k H2 l12
    unfold conCode at k
    rw [if_neg hg] at k; exact k
theorem parts_ok {fs : List (Int × Int)} (h : Edges H u fs) (hg : 0 < n ∧ n ≤ 20) (hl : fs.length ≤ 1048576) (hf : ∀ e ∈ fs, 0 ≤ e.1 ∧ e.1 < n ∧ 0 ≤ e.2 ∧ e.2 < n) (k : ∀ G, H.le G → K (.int .i64 ((sidesL fs n.toNat).length : Nat)) G) :
    AC Tryz.prog T0 92 [.int .i64 n, u] H K :=
  l01Parts_ok h hl hg.1 hg.2 hf fun D G l _ hD => by
    rw [show selfs D n.toNat = (sidesL fs n.toNat).length from selfs_sides hD _ (Nat.le_refl _)]
    exact k G l
theorem l01Connected_ok (h : Edges H v es) (hg : IsG n es) (k : ∀ G, H.le G → K (.bool (decide ((sidesL es n.toNat).length = 1))) G) :
    AC Tryz.prog T0 91 [.agg ⟨[.int .i64 n, v]⟩] H K := by
  have n0 := hg.ed.lo; have n1 := hg.ed.hi
  have h30 : es.length ≤ 30 := by have := hg.ed.len; omega
  apply F91.ac
  unfold F91.B2
  refine newK_f (all_iv (edges_one' h)) fun H1 l1 _ o1 => ?_
  unfold F91.B1
  refine ldI_own o1 rfl (ld1_own o1 rfl (parts_ok (h.le l1) ⟨by omega, by omega⟩ (by omega) (isG_ends hg) fun H2 l2 => asI_mk ?_))
  have := k H2 (AHeap.le_trans l1 l2)
  have e : decide ((sidesL es n.toNat).length = 1) = ((((sidesL es n.toNat).length : Nat) : Int) == 1) := by
    rw [Bool.eq_iff_iff, decide_eq_true_iff, beq_iff_eq]; omega
  rw [e] at this
  exact this
/-- How many parts behind some edges are left out, the reference's way. -/
theorem restParts_ok {w : Value} (h : Edges H v es) (hg : IsG n es) (hc : Ints H w l) (hS : IsS l es.length) (k : ∀ G, H.le G → K (.int .i64 ((sidesL (restL es (bitB l)) n.toNat).length : Nat)) G) :
    AC Tryz.prog T0 93 [.agg ⟨[.int .i64 n, v]⟩, w] H (fun v6 H7 => (AHeap.le H H7) ∧ AC Tryz.prog T0 92 [.int .i64 n, v6] H7 K) := by
  have n0 := hg.ed.lo; have n1 := hg.ed.hi
  have h30 : es.length ≤ 30 := by have := hg.ed.len; omega
  have hfl : (restL es (bitB l)).length ≤ es.length := restTo_length _ _ _
  refine l03Rest_ok h (by omega) hc hS fun v6 H7 l7 f7 => ⟨l7, ?_⟩
  exact parts_ok f7.edges ⟨by omega, by omega⟩ (by omega) (rest_ends hg) fun G lG => k G (AHeap.le_trans l7 lG)

noncomputable def brCode (n : Int) (es : List (Int × Int)) : Int := if IsG n es then 0 else 1
noncomputable def brList (n : Int) (es : List (Int × Int)) : List Int := if IsG n es then brL n es else []
theorem isS_one {m i : Nat} (h : i < m) : IsS [(i : Int)] m := isS_cons (by omega) (by omega) (isS_nil _) fun y hy => by cases hy
theorem brTo_succ (n : Int) (es : List (Int × Int)) (k : Nat) : filtB (fun i => cutB n.toNat es [(i : Int)]) (k + 1) = filtB (fun i => cutB n.toNat es [(i : Int)]) k ++ if cutB n.toNat es [(k : Int)] then [(k : Int)] else [] := filtB_succ _ _
theorem l03Bridges_ok (h : Edges H v es) (hg : IsG n es) (k : ∀ v' G, H.le G → Fresh H.length G v' 2 1 (LI (brL n es)) → K v' G) : AC Tryz.prog T0 76 [.agg ⟨[.int .i64 n, v]⟩] H K := by
  have n0 := hg.ed.lo; have n1 := hg.ed.hi
  have h30 : es.length ≤ 30 := by have := hg.ed.len; omega
  apply F76.ac
  unfold F76.B9
  refine newK_f (all_iv (edges_one' h)) fun H1 l1 n1' o1 => ?_
  unfold F76.B8
  refine newK_f rfl fun H2 l2 n2 o2 => ?_
  have o12 := o1.le l2
  have l02 := AHeap.le_trans l1 l2
  refine ldI_own o12 rfl (ld1_own o12 rfl (parts_ok (h.le l02) ⟨by omega, by omega⟩ (by omega) (isG_ends hg) fun H3 l3 => asI_mk ?_))
  have l03 := AHeap.le_trans l02 l3
  unfold F76.B7 F76.L2
  refine ⟨fun x1 x3 x4 x5 G => H.length = x1 ∧ (((sidesL es n.toNat).length : Nat) : Int) = x4 ∧ H1.le G ∧ ∃ i : Nat, x5 = i ∧ i ≤ es.length ∧ Fresh H1.length G x3 2 1 (LI (filtB (fun i => cutB n.toNat es [(i : Int)]) i)), fun _ _ _ x5 _ => es.length - x5.toNat, ⟨rfl, rfl, AHeap.le_trans l2 l3, 0, rfl, by omega, .inr ⟨_, 0, Nat.le_refl _, rfl, o2.le l3, rfl⟩⟩, ?_⟩
  rintro x1 x3 x4 x5 G ⟨rfl, rfl, lG, i, rfl, hi, hF⟩
  have l0G := AHeap.le_trans l1 lG
  have oG := o1.le lG
  unfold F76.B6
  refine ld1_own oG rfl ((h.le l0G).len (pif_cases (fun hb => ?_) fun hb => ?_))
  · have hlt : i < es.length := by have := of_decide_eq_true hb; omega
    unfold F76.B5
    refine ldI_own oG rfl (ldI_own oG rfl (ld1_own oG rfl (newK_f rfl fun G2 l2' n2' o2' => ?_)))
    have l02' := AHeap.le_trans l0G l2'
    have i2 : Ints G2 (.slice (some ⟨G.length, 0, none⟩) 1 (1 + 1)) [(i : Int)] := own_ints (l := [(i : Int)]) o2'
    refine restParts_ok (h.le l02') hg i2 (isS_one hlt) fun G3 l3' => asI_mk ?_
    have l13 := AHeap.le_trans l2' l3'
    have hF3 := hF.le l13
    have lG3 := AHeap.le_trans lG l13
    refine pif_cases (fun hc => ?_) fun hc => ?_
    · have hc : cutB n.toNat es [(i : Int)] = true := by unfold cutB; rw [decide_eq_true_iff]; have := of_decide_eq_true hc; omega
      unfold F76.B4
      have hlf := filtB_length (fun i => cutB n.toNat es [(i : Int)]) i
      refine hF3.sl.pushN E_int (by decide) lG3.1 (n := 1) (ys := [.int .i64 (i : Int)]) rfl rfl (by simp; omega) (by simp) fun v3 G4 k4 _ _ f4 => ?_
      unfold F76.B3
      rw [wrap_id (by omega) (by omega)]
      refine ⟨⟨rfl, rfl, k4.le lG3 (Nat.le_refl _), i + 1, by omega, by omega, ?_⟩, by simp; omega⟩
      rw [brTo_succ, hc]; simpa using f4
    · have hc : cutB n.toNat es [(i : Int)] = false := by unfold cutB; rw [decide_eq_false_iff_not]; have := of_decide_eq_false hc; omega
      unfold F76.B3
      rw [wrap_id (by omega) (by omega)]
      refine ⟨⟨rfl, rfl, lG3, i + 1, by omega, by omega, ?_⟩, by simp; omega⟩
      rw [brTo_succ, hc]; simpa using hF3
  · have hie : i = es.length := by have := of_decide_eq_false hb; omega
    subst hie
    unfold F76.B1
    exact k x3 G l0G (hF.less l1.1)
theorem specBridges_ok (h : Edges H v es) (hl : es.length ≤ 1048576) (k : ∀ v' G, H.le G → Fresh H.length G v' 2 1 (LI (brList n es)) → K (.tuple ⟨[v', .int .i64 (brCode n es)]⟩) G) : AC Tryz.prog T0 10 [.agg ⟨[.int .i64 n, v]⟩] H K := by
  apply F10.ac
  unfold F10.B4
  refine newK_f (all_iv (edges_one' h)) fun H1 l1 n1' o1 => ?_
  unfold F10.B3
  refine ldI_own o1 rfl (ld1_own o1 rfl (l01Is_ok (h.le l1) hl fun H2 l2 => asB_mk ?_))
  have l12 := AHeap.le_trans l1 l2
  have o2 := o1.le l2
  unfold brList brCode at k
  refine pif_cases (fun hs => ?_) fun hs => ?_
  · have hg : ¬ IsG n es := by simpa using hs
    rw [if_neg hg, if_neg hg] at k
    unfold F10.B2
    exact k _ _ l12 (.inl ⟨rfl, .inl rfl⟩)
  · have hg : IsG n es := by simpa using hs
    rw [if_pos hg, if_pos hg] at k
    unfold F10.B1
    exact ldI_own o2 rfl (ld1_own o2 rfl (l03Bridges_ok (h.le l12) hg fun v' G lG f => k v' G (AHeap.le_trans l12 lG) (f.less l12.1)))
theorem implBridges_ok (h : Edges H v es) (hl : es.length ≤ 1048576) (k : ∀ v' G, H.le G → Fresh H.length G v' 2 1 (LI (brList n es)) → K (.tuple ⟨[v', .int .i64 (brCode n es)]⟩) G) : AC Tryz.prog T0 9 [.agg ⟨[.int .i64 n, v]⟩] H K := by
  apply F9.ac
  unfold F9.B13
  refine newK_f (all_iv (edges_one' h)) fun H1 l1 n1' o1 => ?_
  unfold F9.B12
  refine ldI_own o1 rfl (ld1_own o1 rfl (graphCode_ok (h.le l1) hl fun H2 l2 => asI_mk ?_))
  have l12 := AHeap.le_trans l1 l2
  have o2 := o1.le l2
  simp only [if_true]
  unfold brList brCode at k
  unfold F9.B11
  by_cases hg : IsG n es
  · rw [if_pos hg] at k ⊢
    rw [if_pos hg] at k
    have n0 := hg.ed.lo; have n1 := hg.ed.hi
    have h30 : es.length ≤ 30 := by have := hg.ed.len; omega
    refine pif_f rfl ?_
    unfold F9.B9 F9.B8
    refine ld1_own o2 rfl (lengthE_ok (h.le l12) (asI_mk ?_))
    unfold F9.L2
    refine ⟨fun x1 x5 x14 x15 G => H.length = x1 ∧ (es.length : Int) = x14 ∧ H1.le G ∧ ∃ i : Nat, x15 = i ∧ i ≤ es.length ∧ Fresh H1.length G x5 2 1 (LI (filtB (fun i => cutB n.toNat es [(i : Int)]) i)), fun _ _ _ x15 _ => es.length - x15.toNat, ⟨rfl, rfl, l2, 0, rfl, by omega, .inl ⟨rfl, .inl rfl⟩⟩, ?_⟩
    rintro x1 x5 x14 x15 G ⟨rfl, rfl, lG, i, rfl, hi, hF⟩
    have l0G := AHeap.le_trans l1 lG
    have oG := o1.le lG
    unfold F9.B7
    refine pif_cases (fun hb => ?_) fun hb => ?_
    · have hlt : i < es.length := by have := of_decide_eq_true hb; omega
      unfold F9.B6 F9.B5
      refine ldI_own oG rfl (ld1_own oG rfl ⟨by omega, ?_⟩)
      rw [one_shl (by omega) (by omega), Int.toNat_natCast, show 2 ^ i = setN [(i : Int)] by simp [setN]]
      refine isCut_ok (h.le l0G) hg (isS_one hlt) fun G3 l13 => asB_mk ?_
      have hF3 := hF.le l13
      have lG3 := AHeap.le_trans lG l13
      refine pif_cases (fun hc => ?_) fun hc => ?_
      · unfold F9.B4
        have hlf := filtB_length (fun i => cutB n.toNat es [(i : Int)]) i
        refine hF3.sl.pushN E_int (by decide) lG3.1 (n := 1) (ys := [.int .i64 (i : Int)]) rfl rfl (by simp; omega) (by simp) fun v3 G4 k4 _ _ f4 => ?_
        unfold F9.B3
        rw [wrap_id (by omega) (by omega)]
        refine ⟨⟨rfl, rfl, k4.le lG3 (Nat.le_refl _), i + 1, by omega, by omega, ?_⟩, by simp; omega⟩
        rw [brTo_succ, hc]; simpa using f4
      · unfold F9.B3
        rw [wrap_id (by omega) (by omega)]
        refine ⟨⟨rfl, rfl, lG3, i + 1, by omega, by omega, ?_⟩, by simp; omega⟩
        rw [brTo_succ, hc]; simpa using hF3
    · have hie : i = es.length := by have := of_decide_eq_false hb; omega
      subst hie
      unfold F9.B1
      exact k x5 G l0G (hF.less l1.1)
  · rw [if_neg hg] at k ⊢
    rw [if_neg hg] at k
    refine pif_t rfl ?_
    unfold F9.B10
    exact k _ _ l12 (.inl ⟨rfl, .inl rfl⟩)

/-- Whether a function is asked for sets, the heap growing only. -/
theorem choose_pure {m n : Nat} (hm : m ≤ 62) (hn : n ≤ 64) {doV : Value} (hd : doV.oneCell' = true) {q : List Int → Bool}
    (hdo : ∀ l G, H.le G → l ∈ cmb m n 0 → ∀ K : Value → AHeap → Prop, (∀ G', G.le G' → K (.bool (q l)) G') → callV Tryz.prog T0 doV [.int .u64 (setN l : Nat)] G K)
    (k : ∀ G, H.le G → K (.bool ((cmb m n 0).any q)) G) : AC Tryz.prog T0 78 [.int .i64 (m : Nat), .int .i64 (n : Nat), doV] H K :=
  choose_ok hm hn hd (J := fun B _ G => B.le G) (q := q) (fun B _ _ => AHeap.le_refl _) (fun B _ G hJ b o _ ho => hJ.2 b o ho)
    (fun B done l G hB _ hJ hl _ K hK => hdo l G (AHeap.le_trans hB hJ) hl K fun G' hG' => hK G' (AHeap.le_trans hJ hG')) fun B G hB _ hJ => k G (AHeap.le_trans hB hJ)
noncomputable def ecVal (n : Int) (es : List (Int × Int)) : Int := if conCode n es = 0 then ecN n es else 0
theorem implEdgeCon_ok (h : Edges H v es) (hl : es.length ≤ 1048576) (k : ∀ G, H.le G → K (.tuple ⟨[.int .i64 (ecVal n es), .int .i64 (conCode n es)]⟩) G) : AC Tryz.prog T0 18 [.agg ⟨[.int .i64 n, v]⟩] H K := by
  apply F18.ac
  unfold F18.B9
  refine newK_f (all_iv (edges_one' h)) fun H1 l1 n1' o1 => ?_
  unfold F18.B8
  refine ldI_own o1 rfl (ld1_own o1 rfl (connectedCode_ok (h.le l1) hl fun H2 l2 => asI_mk ?_))
  have l12 := AHeap.le_trans l1 l2
  unfold ecVal at k
  unfold F18.B7
  refine pif_cases (fun hb => ?_) fun hb => ?_
  · have hne := bne_iff_ne.1 hb
    unfold F18.B6
    rw [if_neg hne] at k
    exact k H2 l12
  have h0 : conCode n es = 0 := bne_eq_false_iff_eq.1 hb
  rw [if_pos h0, h0] at k
  obtain ⟨hg, hc1⟩ := conCode_zero h0
  have n0 := hg.ed.lo; have n1 := hg.ed.hi
  have h30 : es.length ≤ 30 := by have := hg.ed.len; omega
  unfold F18.B5 F18.L2
  refine ⟨fun x1 x5 G => H.length = x1 ∧ H1.le G ∧ ∃ i : Nat, x5 = i ∧ 1 ≤ i ∧ i ≤ 3 ∧ (2 ≤ i → (cmb es.length 1 0).any (cutB n.toNat es) = false) ∧ (3 ≤ i → (cmb es.length 2 0).any (cutB n.toNat es) = false), fun _ x5 _ => 3 - x5.toNat, ⟨rfl, l2, 1, rfl, by omega, by omega, fun h => absurd h (by omega), fun h => absurd h (by omega)⟩, ?_⟩
  rintro x1 x5 G ⟨rfl, lG, i, rfl, hi1, hi3, c1, c2⟩
  have l0G := AHeap.le_trans l1 lG
  have oG := o1.le lG
  unfold F18.B4
  refine ld1_own oG rfl (ldI_own oG rfl (ld1_own oG rfl (lengthE_ok (h.le l0G) (asI_mk ⟨AHeap.le_refl _, ?_⟩))))
  refine choose_pure (q := cutB n.toNat es) (by omega) (by omega) rfl (fun l G' hG' hm K hK => callV_mk (isCut_ok (h.le (AHeap.le_trans l0G hG')) hg (mem_cmb hm).2.1 hK)) fun G' hG' => asB_mk ?_
  have l0G' := AHeap.le_trans l0G hG'
  have i3 : i = 1 ∨ i = 2 ∨ i = 3 := by omega
  refine pif_cases (fun hb => ?_) fun hb => ?_
  · have hb : (cmb es.length i 0).any (cutB n.toNat es) = false := by rwa [Bool.not_eq_true'] at hb
    unfold F18.B3
    rw [wrap_id (by omega) (by omega)]
    rcases i3 with rfl | rfl | rfl
    · exact ⟨⟨rfl, AHeap.le_trans lG hG', 2, rfl, by omega, by omega, fun _ => hb, fun h => absurd h (by omega)⟩, by simp⟩
    · exact ⟨⟨rfl, AHeap.le_trans lG hG', 3, rfl, by omega, by omega, fun _ => c1 (by omega), fun _ => hb⟩, by simp⟩
    · rw [star_cut hg hc1] at hb; cases hb
  · have hb : (cmb es.length i 0).any (cutB n.toNat es) = true := by rwa [Bool.not_eq_false'] at hb
    unfold F18.B1
    have e : ecN n es = i := by
      unfold ecN
      rcases i3 with rfl | rfl | rfl
      · rw [if_pos hb]; rfl
      · rw [if_neg (by rw [c1 (by omega)]; decide), if_pos hb]; rfl
      · rw [if_neg (by rw [c1 (by omega)]; decide), if_neg (by rw [c2 (by omega)]; decide)]; rfl
    rw [e] at k
    exact k G' l0G'
end Go.Proofs
/- Contracts: sides with a cycle, both sides. -/
set_option linter.unusedVariables false
set_option linter.unusedSimpArgs false
set_option maxRecDepth 100000
namespace Go.Proofs
open Go.Abs

variable {H G : AHeap} {v u f : Value} {l m c D : List Int} {es fs : List (Int × Int)} {K : Value → AHeap → Prop} {n : Int}

/-- A row of counts. -/
structure CntR (V : List Int) (N : Nat) (f : Nat → Nat) : Prop where
  len : V.length = N
  at_ : ∀ w, w < N → V.getD w 0 = (f w : Nat)
theorem CntR.bnd {V : List Int} {N B : Nat} {f : Nat → Nat} (h : CntR V N f) (hf : ∀ w, f w ≤ B) : ∀ c ∈ V, 0 ≤ c ∧ c ≤ B := fun c hc => by
  obtain ⟨i, hi, rfl⟩ := List.getElem_of_mem hc
  have := h.at_ i (by rw [← h.len]; exact hi)
  rw [getD_of hi] at this
  have := hf i
  omega
theorem CntR.zero (N : Nat) : CntR (List.replicate N 0) N fun _ => 0 := ⟨List.length_replicate, fun w hw => by simp [List.getD, hw]⟩
theorem CntR.bump {V : List Int} {N x : Nat} {f g : Nat → Nat} (h : CntR V N f) (hx : x < N) (hg : ∀ w, g w = f w + if (x : Int) = w then 1 else 0) : CntR (bump1 V (x : Int)) N g :=
  ⟨by rw [bump1_length]; exact h.len, fun w hw => by rw [bump1_get V (x : Int) (by rw [h.len]; exact hw) (by omega), h.at_ w hw, hg w]; split <;> omega⟩
theorem CntR.congr {V : List Int} {N : Nat} {f g : Nat → Nat} (h : CntR V N f) (hg : ∀ w, w < N → f w = g w) : CntR V N g := ⟨h.len, fun w hw => by rw [h.at_ w hw, hg w hw]⟩
theorem bump_row {b N : Nat} {V : List Int} {e : TypeId} {x : Int} {K : AHeap → Prop} (ho : Own H b e (LI V)) (hl : V.length = N) (h0 : 0 ≤ x) (h1 : x < N) (hb : ∀ c ∈ V, 0 ≤ c ∧ c ≤ 1000000000000) (k : ∀ G, But b H G → Own G b e (LI (bump1 V x)) → K G) :
    idxK (.slice (some ⟨b, 0, none⟩) N (N + 1)) x 1 (fun b2 o3 => ldI .i64 H b2 o3 (fun v4 => idxK (.slice (some ⟨b, 0, none⟩) N (N + 1)) x 1 (fun b5 o6 => stK H b5 o6 [(Value.int .i64 (IntKind.i64.wrap (v4 + 1)))] K))) := by
  subst hl
  exact bump_at ho h0 h1 hb k
/-- Edges so far whose first end has a number. -/
def inTo (D : List Int) (fs : List (Int × Int)) (i w : Nat) : Nat := ((fs.take i).filter fun e => decide (D.getD e.1.toNat 0 = (w : Int))).length
theorem inTo_succ {i : Nat} (h : i < fs.length) (w : Nat) : inTo D fs (i + 1) w = inTo D fs i w + if D.getD (fs.getD i (0, 0)).1.toNat 0 = (w : Int) then 1 else 0 := by
  unfold inTo
  rw [List.take_succ_eq_append_getElem h, List.filter_append, List.length_append, ← getD_of (d := (0, 0)) h]
  congr 1
  rw [List.filter_cons, List.filter_nil]
  by_cases e : D.getD (fs.getD i (0, 0)).1.toNat 0 = (w : Int)
  · rw [if_pos (decide_eq_true e), if_pos e]; rfl
  · rw [if_neg (by simpa using e), if_neg e]; rfl
theorem inTo_le (i w : Nat) : inTo D fs i w ≤ i := by
  unfold inTo
  exact Nat.le_trans (List.length_filter_le _ _) (by rw [List.length_take]; omega)
theorem cn_bound (f : Nat → Bool) : ∀ k, cn f k ≤ k
  | 0 => Nat.le_refl _
  | k + 1 => by have := cn_bound f k; rw [cn]; split <;> omega
theorem cycTo_succ (fs : List (Int × Int)) (n k : Nat) : cycTo fs n (k + 1) = cycTo fs n k + if (vLeadB fs k && hasCyc fs n k) then 1 else 0 := rfl

theorem l03Cycles_ok (h : Edges H v es) (hg : IsG n es) (hc : Ints H u l) (hS : IsS l es.length) (k : ∀ G, H.le G → K (.tuple ⟨[.int .i64 ((sidesL (restL es (bitB l)) n.toNat).length : Nat), .int .i64 (cycM (restL es (bitB l)) n.toNat : Nat)]⟩) G) :
    AC Tryz.prog T0 107 [.agg ⟨[.int .i64 n, v]⟩, u] H K := by
  have n0 := hg.ed.lo; have n1 := hg.ed.hi
  have h30 : es.length ≤ 30 := by have := hg.ed.len; omega
  have hfl : (restL es (bitB l)).length ≤ es.length := restTo_length _ _ _
  have hfr := rest_ends (p := bitB l) hg
  obtain ⟨fs, hfs⟩ : ∃ fs, fs = restL es (bitB l) := ⟨_, rfl⟩
  rw [← hfs] at k hfl hfr
  apply F107.ac
  unfold F107.B24
  refine newK_f (all_iv (edges_one' h)) fun H1 l1 n1' o1 => ?_
  unfold F107.B23
  refine ldI_own o1 rfl (ld1_own o1 rfl (l03Rest_ok (h.le l1) (by omega) (hc.le l1) hS fun x6 H2 l2 f2 => ?_))
  rw [← hfs] at f2
  have l12 := AHeap.le_trans l1 l2
  have o2 := o1.le l2
  unfold F107.B22
  refine ldI_own o2 rfl (l01Leaders_ok f2.edges (by omega) (by omega) (by omega) hfr fun b0 D H3 l3 oD hb0 hD => ?_)
  have l13 := AHeap.le_trans l12 l3
  have o3 := o2.le l3
  have hDl : D.length = n.toNat := hD.led.1
  have e3 := f2.edges.le l3
  have hDr : ∀ w, w < n.toNat → ∃ q : Nat, D.getD w 0 = q ∧ q < n.toNat := fun w hw => by
    obtain ⟨q, q1, q2, _⟩ := hD.led.2 w hw
    exact ⟨q, q1, by omega⟩
  have go : ∀ G c8 c9, H3.le G → Own G c8 2 (LI (List.replicate n.toNat 0)) → Own G c9 2 (LI (List.replicate n.toNat 0)) → c8 ≠ c9 → H3.length ≤ c8 → H3.length ≤ c9 →
      F107.B20 K H.length x6 (.slice (some ⟨b0, 0, none⟩) n.toNat (n.toNat + 1)) (.slice (some ⟨c8, 0, none⟩) n.toNat (n.toNat + 1)) (.slice (some ⟨c9, 0, none⟩) n.toNat (n.toNat + 1)) G := by
    intro G c8 c9 lG p8 p9 hne h8 h9
    unfold F107.B20 F107.L16
    refine ⟨fun x2 y6 x7 x8 x9 x10 G => H.length = x2 ∧ x6 = y6 ∧ .slice (some ⟨b0, 0, none⟩) n.toNat (n.toNat + 1) = x7 ∧ .slice (some ⟨c8, 0, none⟩) n.toNat (n.toNat + 1) = x8 ∧ .slice (some ⟨c9, 0, none⟩) n.toNat (n.toNat + 1) = x9 ∧ H3.le G ∧ ∃ (i : Nat) (V : List Int), x10 = i ∧ i ≤ n.toNat ∧ Own G c8 2 (LI V) ∧ Own G c9 2 (LI (List.replicate n.toNat 0)) ∧ CntR V n.toNat fun w => cn (fun u => decide (D.getD u 0 = (w : Int))) i,
      fun _ _ _ _ _ x10 _ => n.toNat - x10.toNat, ⟨rfl, rfl, rfl, rfl, rfl, lG, 0, _, rfl, by omega, p8, p9, CntR.zero _⟩, ?_⟩
    rintro x2 y6 x7 x8 x9 x10 G ⟨rfl, rfl, rfl, rfl, rfl, lG, i, V, rfl, hi, p8, p9, hV⟩
    have oG := o3.le lG
    have oi := own_ints (c := n.toNat + 1) (oD.le lG)
    rw [hDl] at oi
    unfold F107.B19
    refine ldI_own oG rfl (pif_cases (fun hb => ?_) fun hb => ?_)
    · have hlt : i < n.toNat := by have := of_decide_eq_true hb; omega
      obtain ⟨q, hq, hqn⟩ := hDr i hlt
      unfold F107.B18
      refine oi.rd (by omega) (by omega) ?_
      rw [Int.toNat_natCast, hq]
      refine bump_row p8 hV.len (by omega) (by omega) (fun c hc => by have := hV.bnd (B := n.toNat) (fun w => Nat.le_trans (cn_bound _ _) hi) c hc; omega) fun G2 b2 p8' => ?_
      unfold F107.B17
      rw [wrap_id (by omega) (by omega)]
      refine ⟨⟨rfl, rfl, rfl, rfl, rfl, b2.le lG h8, i + 1, _, by omega, by omega, p8', b2.own p9 (fun e => hne e.symm), hV.bump hqn fun w => ?_⟩, by simp; omega⟩
      rw [cn, hq]
      by_cases e : (q : Int) = (w : Int)
      · rw [if_pos (decide_eq_true e), if_pos e]
      · rw [if_neg (by simpa using e), if_neg e]
    have hin : i = n.toNat := by have := of_decide_eq_false hb; omega
    subst hin
    clear oG oi
    unfold F107.B15 F107.L11
    refine ⟨fun x2 y6 x7 x8 x9 x11 G => H.length = x2 ∧ x6 = y6 ∧ .slice (some ⟨b0, 0, none⟩) n.toNat (n.toNat + 1) = x7 ∧ .slice (some ⟨c8, 0, none⟩) n.toNat (n.toNat + 1) = x8 ∧ .slice (some ⟨c9, 0, none⟩) n.toNat (n.toNat + 1) = x9 ∧ H3.le G ∧ ∃ (i : Nat) (I : List Int), x11 = i ∧ i ≤ fs.length ∧ Own G c8 2 (LI V) ∧ Own G c9 2 (LI I) ∧ CntR I n.toNat (inTo D fs i),
      fun _ _ _ _ _ x11 _ => fs.length - x11.toNat, ⟨rfl, rfl, rfl, rfl, rfl, lG, 0, _, rfl, by omega, p8, p9, (CntR.zero _).congr fun w _ => by unfold inTo; rfl⟩, ?_⟩
    clear p8 p9 lG
    rintro x2 y6 x7 x8 x9 x11 G ⟨rfl, rfl, rfl, rfl, rfl, lG, i, I, rfl, hi, p8, p9, hI⟩
    have oi := own_ints (c := n.toNat + 1) (oD.le lG)
    rw [hDl] at oi
    have eG := e3.le lG
    unfold F107.B14
    refine eG.len (pif_cases (fun hb => ?_) fun hb => ?_)
    · have hlt : i < fs.length := by have := of_decide_eq_true hb; omega
      have hm : fs.getD i (0, 0) ∈ fs := by rw [getD_of hlt]; exact List.getElem_mem _
      have hr := hfr _ hm
      obtain ⟨q, hq, hqn⟩ := hDr (fs.getD i (0, 0)).1.toNat (by omega)
      obtain ⟨bb, oo, hk, q1, q2⟩ := eG.idx (show (0 : Int) ≤ i by omega) (by omega)
      simp only [Int.toNat_natCast] at q1 q2
      unfold F107.B13
      refine hk _ (ldI_mk q1 (oi.rd (by omega) (by omega) ?_))
      rw [hq]
      refine bump_row p9 hI.len (by omega) (by omega) (fun c hc => by have := hI.bnd (B := fs.length) (fun w => Nat.le_trans (inTo_le _ _) hi) c hc; omega) fun G2 b2 p9' => ?_
      unfold F107.B12
      rw [wrap_id (by omega) (by omega)]
      refine ⟨⟨rfl, rfl, rfl, rfl, rfl, b2.le lG h9, i + 1, _, by omega, by omega, b2.own p8 hne, p9', hI.bump hqn fun w => ?_⟩, by simp; omega⟩
      rw [inTo_succ hlt, hq]
    have hin : i = fs.length := by have := of_decide_eq_false hb; omega
    subst hin
    clear oi eG
    have hI2 : ∀ w, w < n.toNat → vLeadB fs w = true → I.getD w 0 = (insN fs w : Nat) := fun w hw hl => by
      rw [hI.at_ w hw]
      unfold inTo
      rw [List.take_length, lead_inner hD (fun e he => by have := hfr e he; omega) hw hl]
    have hV2 : ∀ w, w < n.toNat → vLeadB fs w = true → V.getD w 0 = ((sideL fs n.toNat w).length : Nat) := fun w hw hl => by
      rw [hV.at_ w hw, lead_count hD hw hl]
    unfold F107.B10 F107.B9 F107.L2
    refine ⟨fun x2 x7 x8 x9 x12 x13 x14 G' => H.length = x2 ∧ .slice (some ⟨b0, 0, none⟩) n.toNat (n.toNat + 1) = x7 ∧ .slice (some ⟨c8, 0, none⟩) n.toNat (n.toNat + 1) = x8 ∧ .slice (some ⟨c9, 0, none⟩) n.toNat (n.toNat + 1) = x9 ∧ G = G' ∧ ∃ i : Nat, x14 = i ∧ i ≤ n.toNat ∧ x12 = (cn (vLeadB fs) i : Nat) ∧ x13 = (cycTo fs n.toNat i : Nat),
      fun _ _ _ _ _ _ x14 _ => n.toNat - x14.toNat, ⟨rfl, rfl, rfl, rfl, rfl, 0, rfl, by omega, rfl, rfl⟩, ?_⟩
    rintro x2 x7 x8 x9 x12 x13 x14 G' ⟨rfl, rfl, rfl, rfl, rfl, i, rfl, hi, rfl, rfl⟩
    have oG := o3.le lG
    have oi := own_ints (c := n.toNat + 1) (oD.le lG)
    rw [hDl] at oi
    have o8 := own_ints (c := n.toNat + 1) p8
    rw [hV.len] at o8
    have o9 := own_ints (c := n.toNat + 1) p9
    rw [hI.len] at o9
    have hb1 := cn_bound (vLeadB fs) i
    have hb2 : cycTo fs n.toNat i ≤ i := cn_bound _ i
    unfold F107.B8
    refine ldI_own oG rfl (pif_cases (fun hb => ?_) fun hb => ?_)
    · have hlt : i < n.toNat := by have := of_decide_eq_true hb; omega
      have hself := hD.self hlt
      rw [← vLeadB_iff] at hself
      unfold F107.B7
      refine oi.rd (by omega) (by omega) ?_
      rw [Int.toNat_natCast]
      refine pif_cases (fun hs => ?_) fun hs => ?_
      · have hl : vLeadB fs i = false := by
          cases hx : vLeadB fs i with
          | false => rfl
          | true => exact absurd (hself.2 hx) (bne_iff_ne.1 hs)
        unfold F107.B3
        rw [wrap_id (by omega) (by omega)]
        refine ⟨⟨rfl, rfl, rfl, rfl, rfl, i + 1, by omega, by omega, ?_, ?_⟩, by simp; omega⟩
        · rw [cn, hl]; rfl
        · rw [cycTo_succ, hl]; rfl
      · have hl : vLeadB fs i = true := hself.1 (bne_eq_false_iff_eq.1 hs)
        have e1 : cn (vLeadB fs) (i + 1) = cn (vLeadB fs) i + 1 := by rw [cn, hl]; rfl
        have e2 : cycTo fs n.toNat (i + 1) = cycTo fs n.toNat i + if hasCyc fs n.toNat i then 1 else 0 := by rw [cycTo_succ, hl, Bool.true_and]
        unfold F107.B6
        rw [wrap_id (by omega) (by omega)]
        unfold F107.B5
        refine o9.rd (by omega) (by have := hI.len; omega) (o8.rd (by omega) (by have := hV.len; omega) ?_)
        rw [Int.toNat_natCast, hI2 i hlt hl, hV2 i hlt hl]
        refine pif_cases (fun hs => ?_) fun hs => ?_
        · have hh : hasCyc fs n.toNat i = true := by unfold hasCyc; rw [decide_eq_true_iff]; have := of_decide_eq_true hs; omega
          rw [hh] at e2
          unfold F107.B4 F107.B3
          rw [wrap_id (by omega) (by omega), wrap_id (by omega) (by omega)]
          exact ⟨⟨rfl, rfl, rfl, rfl, rfl, i + 1, by omega, by omega, by omega, by rw [e2]; simp⟩, by simp; omega⟩
        · have hh : hasCyc fs n.toNat i = false := by unfold hasCyc; rw [decide_eq_false_iff_not]; have := of_decide_eq_false hs; omega
          rw [hh] at e2
          unfold F107.B3
          rw [wrap_id (by omega) (by omega)]
          exact ⟨⟨rfl, rfl, rfl, rfl, rfl, i + 1, by omega, by omega, by omega, by rw [e2]; simp⟩, by simp; omega⟩
    · have hin : i = n.toNat := by have := of_decide_eq_false hb; omega
      subst hin
      unfold F107.B1
      rw [← sidesL_cn]
      exact k G (AHeap.le_trans l13 lG)
  unfold F107.B21
  refine ldI_own o3 rfl (ldI_own o3 rfl ⟨?_, ?_⟩)
  · refine mkR_int (by omega) (by omega) (by decide) fun G1 g1 m1 p1 => mkR_int (by omega) (by omega) (by decide) fun G2 g2 m2 p2 => ?_
    rw [rep_one] at p1 p2
    exact go G2 _ _ (AHeap.le_trans g1 g2) (p1.le g2) p2 (by omega) (Nat.le_refl _) g1.1
  · refine mkR_int (by omega) (by omega) (by decide) fun G1 g1 m1 p1 => mkR_int (by omega) (by omega) (by decide) fun G2 g2 m2 p2 => ?_
    rw [rep_one] at p1 p2
    exact go G2 _ _ (AHeap.le_trans g1 g2) p2 (p1.le g2) (by omega) g1.1 (Nat.le_refl _)

theorem l03Cyclic_ok (h : Edges H v es) (hg : IsG n es) (hc : Ints H u l) (hS : IsS l es.length) (k : ∀ G, H.le G → K (.bool (cyclicB n.toNat es l)) G) :
    AC Tryz.prog T0 95 [.agg ⟨[.int .i64 n, v]⟩, u] H K := by
  have n0 := hg.ed.lo; have n1 := hg.ed.hi
  have h30 : es.length ≤ 30 := by have := hg.ed.len; omega
  apply F95.ac
  unfold F95.B3
  refine newK_f (all_iv (edges_one' h)) fun H1 l1 n1' o1 => ?_
  unfold F95.B2
  refine ldI_own o1 rfl (ld1_own o1 rfl (l03Cycles_ok (h.le l1) hg (hc.le l1) hS fun H2 l2 => tup2_mk (asI_mk (asI_mk ?_))))
  have l12 := AHeap.le_trans l1 l2
  have o2 := o1.le l2
  unfold F95.B1
  unfold cyclicB cutB at k
  refine pif_cases (fun hb => ?_) fun hb => ?_
  · have h2 : 2 ≤ cycM (restL es (bitB l)) n.toNat := by have := of_decide_eq_true hb; omega
    refine ldI_own o2 rfl (ld1_own o2 rfl (parts_ok (h.le l12) ⟨by omega, by omega⟩ (by omega) (isG_ends hg) fun H3 l3 => asI_mk ?_))
    have k := k H3 (AHeap.le_trans l12 l3)
    rw [decide_eq_true h2, Bool.true_and] at k
    have e : decide ((sidesL es n.toNat).length < (sidesL (restL es (bitB l)) n.toNat).length) = decide ((((sidesL (restL es (bitB l)) n.toNat).length : Nat) : Int) > (((sidesL es n.toNat).length : Nat) : Int)) := by
      rw [decide_eq_decide]; omega
    rw [e] at k
    exact k
  · have h2 : ¬ 2 ≤ cycM (restL es (bitB l)) n.toNat := by have := of_decide_eq_false hb; omega
    have k := k H2 l12
    rw [decide_eq_false h2, Bool.false_and] at k
    exact k
end Go.Proofs
