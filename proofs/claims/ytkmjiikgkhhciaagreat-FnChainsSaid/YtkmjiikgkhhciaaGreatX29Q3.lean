/- Contracts and plain mathematics for a law, merged. -/
import Derived.Test.YtkmjiikgkhhciaaGreatX29Q2
set_option linter.unusedVariables false
set_option linter.unusedSimpArgs false
set_option maxRecDepth 100000
namespace Go.Proofs
open Go.Abs

variable {H G Hb H0 : AHeap} {v u f w : Value} {l m D : List Int} {es fs : List (Int × Int)} {K : Value → AHeap → Prop} {bs : Nat} {n : Int}

theorem LI_one : ∀ (l : List Int), (LI l).all Value.oneCell' = true
 | [] => rfl
 | x :: l => by show (Value.int .i64 x :: LI l).all Value.oneCell' = true; rw [List.all_cons, LI_one l]; rfl
theorem LE_one : ∀ (l : List (Int × Int)), (LE l).all Value.oneCell' = true
 | [] => rfl
 | x :: l => by rw [LE_cons, List.all_cons, List.all_cons, LE_one l]; rfl
theorem push_edges {m0 : Nat} (fs : List (Int × Int)) {cs : List Value} {c : Nat} (hF : Fresh m0 H v 78 2 (LE es)) (hm : m0 ≤ H.length) (hc : cs = LE fs) (hn : c = fs.length) (h0 : 0 < fs.length) (hl : es.length + fs.length ≤ 1000)
    (k : ∀ v' G, Keep m0 H G → Fresh m0 G v' 78 2 (LE (es ++ fs)) → K v' G) :
    newK H cs 78 (fun b1 H2 => apK T0 78 H2 v (.slice (some ⟨b1, 0, none⟩) c (c + 1)) K) := by
  subst hc; subst hn
  refine newK_f (LE_one fs) fun H2 l2 n2 o2 => ?_
  have hE : Edges H2 (.slice (some ⟨H.length, 0, none⟩) fs.length (fs.length + 1)) fs := Fresh.edges (m := 0) (e := 78) (.inr ⟨_, fs.length, Nat.zero_le _, rfl, o2, by rw [LE_length]⟩)
  exact app_edges (hF.sl.le l2) (Nat.le_trans hm l2.1) hE h0 (by omega) fun v' G k1 _ f => k v' G ((Keep.of_le l2).trans k1) f
theorem EdR.nil : EdR n [] := fun e he => absurd he (by simp)
theorem EdR.cons {a b : Int} (h1 : 0 ≤ a ∧ a < n) (h2 : 0 ≤ b ∧ b < n) (h : EdR n es) : EdR n ((a, b) :: es) := fun e he => by
 rcases List.mem_cons.1 he with rfl | he
 ·exact ⟨h1.1, h1.2, h2.1, h2.2⟩
 ·exact h e he
theorem EdR.app (h : EdR n es) (g : EdR n fs) : EdR n (es ++ fs) := fun e he => by
 rcases List.mem_append.1 he with he | he
 ·exact h e he
 ·exact g e he
theorem EdR.up {n' : Int} (h : EdR n es) (hn : n ≤ n') : EdR n' es := fun e he => by
 have := h e he; omega
def NamK (n : Int) (c : Nat) (H : AHeap) (K : Value → AHeap → Prop) : Prop := ∀ v es G, H.le G → Fresh H.length G v 78 2 (LE es) → Gd n es → es.length ≤ c → K (.tuple ⟨[.agg ⟨[.int .i64 n, v]⟩, .bool true]⟩) G
theorem made_tail {c : Nat} (k : NamK n c H0 K) (l0 : H0.le H) (o : Own H H0.length 26 [.int .i64 0, .slice none 0 0]) (h : Edges H v es) (hr : EdR n es) (h0 : 0 < es.length) (hl : es.length ≤ c) (hc : c ≤ 40 := by decide) :
    AC Tryz.prog T0 141 [.int .i64 n, v] H (fun v1 H2 => agg2 v1 (fun v3 v4 => asI .i64 v3 (fun v5 => stK H2 H0.length 0 [.int .i64 v5, v4] (fun H7 => ldI .i64 H7 H0.length 0 (fun v8 => ld1 H7 H0.length 1 (fun v9 => K (.tuple ⟨[.agg ⟨[.int .i64 v8, v9]⟩, .bool true]⟩) H7)))))) := by
  have hlt := o.lt
  have hg : Gd n es := ⟨h0, by omega, hr⟩
  refine l01Made_ok h (by omega) fun v2 G2 l2 f2 => agg2_mk (asI_mk ?_)
  refine stK_f (new := [.int .i64 n, v2]) (o.le l2) (by simp) (mem_iv (fresh_one f2)) rfl fun G5 b5 o5 => ldI_own o5 rfl (ld1_own o5 rfl ?_)
  have hll := l0.1
  exact k v2 _ G5 (b5.le (AHeap.le_trans l0 l2) (Nat.le_refl _)) ((f2.but b5 hlt).less hll) hg.made (by rw [srtE_length, List.length_map]; exact hl)
structure NmS (H0 H : AHeap) (v : Value) (es : List (Int × Int)) : Prop where
 kp : Keep (H0.length + 1) H0 H
 ob : Own H H0.length 26 [.int .i64 0, .slice none 0 0]
 f : Fresh (H0.length + 1) H v 78 2 (LE es)
theorem NmS.len (h : NmS H0 H v es) : H0.length + 1 ≤ H.length := h.ob.lt
theorem NmS.le0 (h : NmS H0 H v es) : H0.le H := h.kp.le (AHeap.le_refl _) (Nat.le_succ _)
theorem NmS.le (h : NmS H0 H v es) (l : H.le G) : NmS H0 G v es := ⟨h.kp.trans (.of_le l), h.ob.le l, h.f.le l⟩
theorem NmS.push (fs : List (Int × Int)) {cs : List Value} {c : Nat} (h : NmS H0 H v es) (hc : cs = LE fs) (hn : c = fs.length) (h0 : 0 < fs.length) (hl : es.length + fs.length ≤ 1000) (k : ∀ v' G, NmS H0 G v' (es ++ fs) → K v' G) :
    newK H cs 78 (fun b1 H2 => apK T0 78 H2 v (.slice (some ⟨b1, 0, none⟩) c (c + 1)) K) :=
  push_edges fs h.f h.len hc hn h0 hl fun v' G k1 f => k v' G ⟨h.kp.trans k1, k1.own h.ob (Nat.lt_succ_self _), f⟩
theorem NmS.cyc (D : List Int) {cs : List Value} {c : Nat} (h : NmS H0 H v es) (hc : cs = LI D) (hn : c = D.length) (hr : EdR n es) (hD : ∀ x ∈ D, 0 ≤ x ∧ x < n) (hl : es.length + D.length ≤ 1000) (k : ∀ v' es' G, NmS H0 G v' es' → EdR n es' → es'.length = es.length + D.length → K v' G) :
    newK H cs 2 (fun b1 H2 => AC Tryz.prog T0 142 [v, .slice (some ⟨b1, 0, none⟩) c (c + 1)] H2 K) := by
  subst hc; subst hn
  refine newK_f (LI_one D) fun H2 l2 n2 o2 => ?_
  have h2 := h.le l2
  exact l01Cycle_ok h2.f h2.len o2 (fun e => by have := (h.f.bk_lt e).2; omega) hr hD hl fun v' es' G k1 f r e _ => k v' es' G ⟨h2.kp.trans k1, k1.own h2.ob (Nat.lt_succ_self _), f⟩ r e
theorem NmS.made {c : Nat} (k : NamK n c H0 K) (h : NmS H0 H v es) (hr : EdR n es) (h0 : 0 < es.length) (hl : es.length ≤ c) (hc : c ≤ 40 := by decide) :
    AC Tryz.prog T0 141 [.int .i64 n, v] H (fun v1 H2 => agg2 v1 (fun v3 v4 => asI .i64 v3 (fun v5 => stK H2 H0.length 0 [.int .i64 v5, v4] (fun H7 => ldI .i64 H7 H0.length 0 (fun v8 => ld1 H7 H0.length 1 (fun v9 => K (.tuple ⟨[.agg ⟨[.int .i64 v8, v9]⟩, .bool true]⟩) H7)))))) :=
  made_tail k h.le0 h.ob h.f.edges hr h0 hl hc
theorem nm_theta (k : NamK 2 40 H0 K) (h : NmS H0 H v []) : F67.B2 K H0.length H := by
 unfold F67.B2
 refine newK_f rfl fun H2 l2 n2 o2 => ?_
 have h2 := h.le l2
 have hE : Edges H2 (.slice (some ⟨H.length, 0, none⟩) 3 (3 + 1)) [(0, 1), (0, 1), (0, 1)] := Fresh.edges (m := 0) (e := 78) (.inr ⟨_, 3, Nat.zero_le _, rfl, o2, rfl⟩)
 exact made_tail k h2.le0 h2.ob hE (by refine .cons ?_ ?_ (.cons ?_ ?_ (.cons ?_ ?_ .nil)) <;> decide) (by decide) (by decide)
theorem nm_k4 (k : NamK 4 40 H0 K) (h : NmS H0 H v []) : F67.B3 K H0.length H := by
 unfold F67.B3
 refine newK_f rfl fun H2 l2 n2 o2 => ?_
 have h2 := h.le l2
 have hE : Edges H2 (.slice (some ⟨H.length, 0, none⟩) 6 (6 + 1)) k4A := Fresh.edges (m := 0) (e := 78) (.inr ⟨_, 6, Nat.zero_le _, rfl, o2, rfl⟩)
 exact made_tail k h2.le0 h2.ob hE (by unfold k4A; refine .cons ?_ ?_ (.cons ?_ ?_ (.cons ?_ ?_ (.cons ?_ ?_ (.cons ?_ ?_ (.cons ?_ ?_ .nil))))) <;> decide) (by decide) (by decide)
theorem nm_k33 (k : NamK 6 40 H0 K) (h : NmS H0 H v []) : F67.B9 K H0.length v H := by
 unfold F67.B9 F67.L5
 refine ⟨fun x2 x4 x5 G => H0.length = x2 ∧ ∃ (i : Nat) (es : List (Int × Int)), x5 = i ∧ i ≤ 3 ∧ NmS H0 G x4 es ∧ EdR 6 es ∧ es.length = 3 * i, fun _ _ x5 _ => 3 - x5.toNat, ⟨rfl, 0, [], rfl, by omega, h, .nil, rfl⟩, ?_⟩
 rintro x2 x4 x5 G ⟨rfl, i, es, rfl, hi, hS, hE, hl⟩
 unfold F67.B8
 refine pif_cases (fun hb => ?_) fun hb => ?_
 ·have hlt := of_decide_eq_true hb
  unfold F67.B7
  refine hS.push [((i : Int), 3), ((i : Int), 4), ((i : Int), 5)] rfl rfl (by simp) (by simp; omega) fun v' G' h' => ?_
  unfold F67.B6
  rw [wrap_id (by omega) (by omega)]
  exact ⟨⟨rfl, i + 1, _, by omega, by omega, h', hE.app (by refine .cons ?_ ?_ (.cons ?_ ?_ (.cons ?_ ?_ .nil)) <;> omega), by simp; omega⟩, by simp; omega⟩
 ·have hge := of_decide_eq_false hb
  unfold F67.B4
  exact hS.made k hE (by omega) (by omega)
theorem nm_prism (k : NamK 6 40 H0 K) (h : NmS H0 H v []) : F67.B11 K H0.length v H := by
 unfold F67.B11
 refine h.cyc (n := 6) [0, 1, 2] rfl rfl .nil (fun x hx => by simp at hx; omega) (by decide) fun v1 es1 G1 h1 r1 e1 => h1.cyc (n := 6) [3, 4, 5] rfl rfl r1 (fun x hx => by simp at hx; omega) (by rw [e1]; decide) fun v2 es2 G2 h2 r2 e2 => ?_
 unfold F67.B10
 have hl2 : es2.length = 6 := by rw [e2, e1]; rfl
 refine h2.push [(0, 3), (1, 4), (2, 5)] rfl rfl (by simp) (by simp; omega) fun v3 G3 h3 => ?_
 exact h3.made k (n := 6) (r2.app (by refine .cons ?_ ?_ (.cons ?_ ?_ (.cons ?_ ?_ .nil)) <;> decide)) (by simp) (by simp; omega)
theorem cube_bit : ∀ i : Fin 8, ∀ j : Fin 3, ((IntKind.i64.wrap ((BitVec.ofInt 64 (i.val : Int) &&& BitVec.ofInt 64 ((2 ^ j.val : Nat) : Int)).toNat : Int) : Int) == 0) = true → i.val + 2 ^ j.val < 8 := by decide +kernel
theorem cube_zero : ∀ j : Fin 3, ((IntKind.i64.wrap ((BitVec.ofInt 64 (((0 : Nat) : Int)) &&& BitVec.ofInt 64 ((2 ^ j.val : Nat) : Int)).toNat : Int) : Int) == 0) = true := by decide +kernel
theorem nm_cube (k : NamK 8 40 H0 K) (h : NmS H0 H v []) : F67.B22 K H0.length v H := by
 unfold F67.B22 F67.L13
 refine ⟨fun x2 x4 x6 G => H0.length = x2 ∧ ∃ (i : Nat) (es : List (Int × Int)), x6 = i ∧ i ≤ 8 ∧ NmS H0 G x4 es ∧ EdR 8 es ∧ es.length ≤ 3 * i ∧ (0 < i → 0 < es.length), fun _ _ x6 _ => 8 - x6.toNat, ⟨rfl, 0, [], rfl, by omega, h, .nil, by simp, by simp⟩, ?_⟩
 rintro x2 x4 x6 G ⟨rfl, i, es, rfl, hi, hS, hE, hl, hp⟩
 unfold F67.B21
 refine pif_cases (fun hb => ?_) fun hb => ?_
 ·have hlt := of_decide_eq_true hb
  unfold F67.B20 F67.L15
  refine ⟨fun x2 x4 x6 x7 G => H0.length = x2 ∧ (i : Int) = x6 ∧ ∃ (j : Nat) (es : List (Int × Int)), x7 = ((2 ^ j : Nat) : Int) ∧ j ≤ 3 ∧ NmS H0 G x4 es ∧ EdR 8 es ∧ es.length ≤ 3 * i + j ∧ (0 < i ∨ 0 < j → 0 < es.length), fun _ _ _ x7 _ => 8 - x7.toNat, ⟨rfl, rfl, 0, es, rfl, by omega, hS, hE, by omega, fun h => hp (by omega)⟩, ?_⟩
  rintro x2 x4 x6 x7 G ⟨rfl, rfl, j, es, rfl, hj, hS, hE, hl, hp⟩
  unfold F67.B19
  have p3 : j = 0 ∨ j = 1 ∨ j = 2 ∨ j = 3 := by omega
  refine pif_cases (fun hc => ?_) fun hc => ?_
  ·have hj3 : j < 3 := by
    have hc := of_decide_eq_true hc
    rcases p3 with rfl | rfl | rfl | rfl <;> first | omega | (exact absurd hc (by decide))
   have h2 : 2 ^ (j + 1) = 2 * 2 ^ j := by rw [Nat.pow_succ, Nat.mul_comm]
   have h4 : 2 ^ j ≤ 4 ∧ 1 ≤ 2 ^ j := by
    have : j = 0 ∨ j = 1 ∨ j = 2 := by omega
    rcases this with rfl | rfl | rfl <;> decide
   unfold F67.B18
   refine pif_cases (fun hd => ?_) fun hd => ?_
   ·have hlt8 := cube_bit ⟨i, by omega⟩ ⟨j, hj3⟩ hd
    simp only at hlt8
    unfold F67.B17
    rw [wrap_id (by omega) (by omega)]
    refine hS.push [((i : Int), (i : Int) + ((2 ^ j : Nat) : Int))] rfl rfl (by simp) (by simp; omega) fun v' G' h' => ?_
    unfold F67.B16
    rw [wrap_id (by omega) (by omega)]
    exact ⟨⟨rfl, rfl, j + 1, _, by rw [h2]; omega, by omega, h', hE.app (.cons (by omega) (by omega) .nil), by simp; omega, fun _ => by simp⟩, by show 8 - (2 * ((2 ^ j : Nat) : Int)).toNat < 8 - (((2 ^ j : Nat) : Int)).toNat; generalize 2 ^ j = q at h4 ⊢; omega⟩
   ·unfold F67.B16
    rw [wrap_id (by omega) (by omega)]
    refine ⟨⟨rfl, rfl, j + 1, es, by rw [h2]; omega, by omega, hS, hE, by omega, fun _ => ?_⟩, by show 8 - (2 * ((2 ^ j : Nat) : Int)).toNat < 8 - (((2 ^ j : Nat) : Int)).toNat; generalize 2 ^ j = q at h4 ⊢; omega⟩
    by_cases h0 : i = 0
    ·subst h0
     have hz := cube_zero ⟨j, hj3⟩
     rw [hd] at hz; cases hz
    ·exact hp (by omega)
  ·have hj3 : j = 3 := by
    have hc := of_decide_eq_false hc
    rcases p3 with rfl | rfl | rfl | rfl <;> first | rfl | (exact absurd (by decide) hc)
   subst hj3
   unfold F67.B14
   rw [wrap_id (by omega) (by omega)]
   exact ⟨⟨rfl, i + 1, es, by omega, by omega, hS, hE, by omega, fun _ => hp (.inr (by decide))⟩, by simp; omega⟩
 ·have hge := of_decide_eq_false hb
  unfold F67.B12
  exact hS.made k hE (hp (by omega)) (by omega)
theorem nm_petersen (k : NamK 10 15 H0 K) (h : NmS H0 H v []) : F67.B28 K H0.length v H := by
 unfold F67.B28 F67.L24
 refine ⟨fun x2 x4 x8 G => H0.length = x2 ∧ ∃ (i : Nat) (es : List (Int × Int)), x8 = i ∧ i ≤ 5 ∧ NmS H0 G x4 es ∧ EdR 10 es ∧ es.length = 3 * i, fun _ _ x8 _ => 5 - x8.toNat, ⟨rfl, 0, [], rfl, by omega, h, .nil, rfl⟩, ?_⟩
 rintro x2 x4 x8 G ⟨rfl, i, es, rfl, hi, hS, hE, hl⟩
 unfold F67.B27
 refine pif_cases (fun hb => ?_) fun hb => ?_
 ·have hlt := of_decide_eq_true hb
  unfold F67.B26
  rw [wrap_id (x := (i : Int) + 1) (by omega) (by omega), wrap_id (x := (i : Int) + 5) (by omega) (by omega), wrap_id (x := (i : Int) + 2) (by omega) (by omega)]
  have t0 : 0 ≤ Int.tmod ((i : Int) + 1) 5 := Int.tmod_nonneg _ (by omega)
  have t1 : Int.tmod ((i : Int) + 1) 5 < 5 := Int.tmod_lt_of_pos _ (by omega)
  have s0 : 0 ≤ Int.tmod ((i : Int) + 2) 5 := Int.tmod_nonneg _ (by omega)
  have s1 : Int.tmod ((i : Int) + 2) 5 < 5 := Int.tmod_lt_of_pos _ (by omega)
  obtain ⟨a, ha⟩ : ∃ a, a = Int.tmod ((i : Int) + 1) 5 := ⟨_, rfl⟩
  obtain ⟨b, hb⟩ : ∃ b, b = Int.tmod ((i : Int) + 2) 5 := ⟨_, rfl⟩
  rw [← ha] at t0 t1 ⊢
  rw [← hb] at s0 s1 ⊢
  rw [wrap_id (x := b + 5) (by omega) (by omega)]
  refine hS.push [((i : Int), a), ((i : Int), (i : Int) + 5), ((i : Int) + 5, b + 5)] rfl rfl (by simp) (by simp; omega) fun v' G' h' => ?_
  unfold F67.B25
  rw [wrap_id (by omega) (by omega)]
  exact ⟨⟨rfl, i + 1, _, by omega, by omega, h', hE.app (by refine .cons ?_ ?_ (.cons ?_ ?_ (.cons ?_ ?_ .nil)) <;> omega), by simp; omega⟩, by simp; omega⟩
 ·have hge := of_decide_eq_false hb
  unfold F67.B23
  exact hS.made k hE (by omega) (by omega)
theorem nm_flower (k : NamK 20 40 H0 K) (h : NmS H0 H v []) : F67.B44 K H0.length v H := by
 unfold F67.B44 F67.L40
 refine ⟨fun x2 x4 x12 G => H0.length = x2 ∧ ∃ (i : Nat) (es : List (Int × Int)), x12 = i ∧ i ≤ 5 ∧ NmS H0 G x4 es ∧ EdR 20 es ∧ es.length = 3 * i, fun _ _ x12 _ => 5 - x12.toNat, ⟨rfl, 0, [], rfl, by omega, h, .nil, rfl⟩, ?_⟩
 rintro x2 x4 x12 G ⟨rfl, i, es, rfl, hi, hS, hE, hl⟩
 unfold F67.B43
 refine pif_cases (fun hb => ?_) fun hb => ?_
 ·have hlt := of_decide_eq_true hb
  unfold F67.B42
  rw [wrap_id (x := (i : Int) + 5) (by omega) (by omega), wrap_id (x := (i : Int) + 10) (by omega) (by omega), wrap_id (x := (i : Int) + 15) (by omega) (by omega)]
  refine hS.push [((i : Int), (i : Int) + 5), ((i : Int), (i : Int) + 10), ((i : Int), (i : Int) + 15)] rfl rfl (by simp) (by simp; omega) fun v' G' h' => ?_
  unfold F67.B41
  rw [wrap_id (by omega) (by omega)]
  exact ⟨⟨rfl, i + 1, _, by omega, by omega, h', hE.app (by refine .cons ?_ ?_ (.cons ?_ ?_ (.cons ?_ ?_ .nil)) <;> omega), by simp; omega⟩, by simp; omega⟩
 ·have hge := of_decide_eq_false hb
  unfold F67.B39
  refine hS.cyc (n := 20) [5, 6, 7, 8, 9] rfl rfl hE (fun x hx => by simp at hx; omega) (by simp; omega) fun v1 es1 G1 h1 r1 e1 => ?_
  unfold F67.B38
  have e1 : es1.length = es.length + 5 := e1
  refine h1.cyc (n := 20) [10, 11, 12, 13, 14, 15, 16, 17, 18, 19] rfl rfl r1 (fun x hx => by simp at hx; omega) (by simp; omega) fun v2 es2 G2 h2 r2 e2 => ?_
  have e2 : es2.length = es1.length + 10 := e2
  exact h2.made k r2 (by omega) (by omega)
theorem nm_bridge (k : NamK 10 40 H0 K) (h : NmS H0 H v []) : F67.B50 K H0.length v H := by
 unfold F67.B50 F67.L46
 refine ⟨fun x2 x4 x13 G => H0.length = x2 ∧ ∃ (i : Nat) (es : List (Int × Int)), x13 = 5 * (i : Int) ∧ i ≤ 2 ∧ NmS H0 G x4 es ∧ EdR 10 es ∧ es.length = 7 * i, fun _ _ x13 _ => 10 - x13.toNat, ⟨rfl, 0, [], rfl, by omega, h, .nil, rfl⟩, ?_⟩
 rintro x2 x4 x13 G ⟨rfl, i, es, rfl, hi, hS, hE, hl⟩
 unfold F67.B49
 refine pif_cases (fun hb => ?_) fun hb => ?_
 ·have hlt := of_decide_eq_true hb
  unfold F67.B48
  obtain ⟨x, hx⟩ : ∃ x, x = 5 * (i : Int) := ⟨_, rfl⟩
  rw [← hx]
  rw [wrap_id (x := x + 1) (by omega) (by omega), wrap_id (x := x + 2) (by omega) (by omega), wrap_id (x := x + 3) (by omega) (by omega), wrap_id (x := x + 4) (by omega) (by omega)]
  refine hS.push [(x, x + 2), (x, x + 3), (x + 1, x + 2), (x + 1, x + 3), (x + 2, x + 3), (x, x + 4), (x + 1, x + 4)] rfl rfl (by simp) (by simp; omega) fun v' G' h' => ?_
  unfold F67.B47
  rw [wrap_id (by omega) (by omega)]
  exact ⟨⟨rfl, i + 1, _, by omega, by omega, h', hE.app (by refine .cons ?_ ?_ (.cons ?_ ?_ (.cons ?_ ?_ (.cons ?_ ?_ (.cons ?_ ?_ (.cons ?_ ?_ (.cons ?_ ?_ .nil)))))) <;> omega), by simp; omega⟩, by show 10 - (x + 5).toNat < 10 - x.toNat; omega⟩
 ·have hge := of_decide_eq_false hb
  unfold F67.B45
  refine hS.push [(4, 9)] rfl rfl (by simp) (by simp; omega) fun v' G' h' => ?_
  exact h'.made k (n := 10) (hE.app (.cons (by decide) (by decide) .nil)) (by simp) (by simp; omega)
theorem named_start {nm : ByteArray} (h : ∀ H1 v, NmS H H1 v [] → F67.B60 K nm H.length v H1) : AC Tryz.prog T0 67 [.string nm] H K := by
 apply F67.ac
 unfold F67.B62
 refine newK_f rfl fun H1 l1 n1 o1 => ?_
 unfold F67.B61
 refine newK_f rfl fun H2 l2 n2 o2 => ?_
 exact h H2 _ ⟨.of_le (AHeap.le_trans l1 l2), o1.le l2, .inr ⟨_, 0, by omega, rfl, o2, rfl⟩⟩
theorem named_petersen (k : NamK 10 15 H K) : AC Tryz.prog T0 67 [.string ⟨#[112, 101, 116, 101, 114, 115, 101, 110]⟩] H K := by
 refine named_start fun H1 v h => ?_
 unfold F67.B60 F67.B59
 refine pif_f (by decide +kernel) ?_
 unfold F67.B58
 refine pif_f (by decide +kernel) ?_
 unfold F67.B57
 refine pif_f (by decide +kernel) ?_
 unfold F67.B56
 refine pif_f (by decide +kernel) ?_
 unfold F67.B55
 refine pif_f (by decide +kernel) ?_
 unfold F67.B54
 exact pif_t (by decide +kernel) (nm_petersen k h)
theorem nm_tietze (k : NamK 12 40 H0 K) (h : NmS H0 H v []) : F67.B37 K H0.length v H := by
 unfold F67.B37
 refine named_petersen fun v0 es0 G0 l0 f0 g0 c0 => tup2_mk (agg2_mk (asI_mk (asB_mk (newK_f rfl fun H2 l2 n2 o2 => stK_f (new := [.int .i64 10, v0]) o2 (by simp) (mem_iv (fresh_one f0)) rfl fun H3 b3 o3 => ?_))))
 have l3 : G0.le H3 := b3.le l2 (Nat.le_refl _)
 have h3 := h.le (AHeap.le_trans l0 l3)
 have f3 := f0.le l3
 have hl0 := l0.1
 unfold F67.B36 F67.L31
 refine ⟨fun x2 x4 x9 x11 G => H0.length = x2 ∧ G0.length = x9 ∧ ∃ (i : Nat) (es : List (Int × Int)), x11 = i ∧ i ≤ es0.length ∧ NmS H0 G x4 es ∧ EdR 12 es ∧ es.length ≤ i ∧ Own G G0.length 26 [.int .i64 10, v0] ∧ Fresh H.length G v0 78 2 (LE es0) ∧ ∀ b, bk x4 = some b → b ≠ G0.length ∧ bk v0 ≠ some b, fun _ _ _ x11 _ => es0.length - x11.toNat, ⟨rfl, rfl, 0, [], rfl, by omega, h3, .nil, by simp, o3, f3, fun b hb => ?_⟩, ?_⟩
 ·have h4 := (h.f.bk_lt hb).2
  exact ⟨by omega, fun e => by have := (f0.bk_lt e).1; omega⟩
 rintro x2 x4 x9 x11 G ⟨rfl, rfl, i, es, rfl, hi, hS, hE, hl, oG, fG, hbk⟩
 have eG := fG.edges
 unfold F67.B35
 refine ld1_own oG rfl (eG.len (pif_cases (fun hb => ?_) fun hb => ?_))
 ·have hlt : i < es0.length := by have := of_decide_eq_true hb; omega
  have hm : es0.getD i (0, 0) ∈ es0 := by rw [getD_of hlt]; exact List.getElem_mem _
  have hr := g0.rng _ hm
  have hr12 : EdR 12 (es ++ [es0.getD i (0, 0)]) := fun e he => by
   rcases List.mem_append.1 he with he | he
   ·exact hE e he
   ·rw [List.mem_singleton.1 he]; omega
  obtain ⟨bb, oo, hk, q1, q2⟩ := eG.idx (show (0 : Int) ≤ i by omega) (by omega)
  simp only [Int.toNat_natCast] at q1 q2
  unfold F67.B34
  refine ld1_own oG rfl (hk _ (ldI_mk q1 (pif_cases (fun hc => ?_) fun hc => ?_)))
  ·unfold F67.B33
   refine ld1_own oG rfl (hk _ (ldI_mk q1 (ldI_mk q2 ?_)))
   refine push_edge (x := es0.getD i (0, 0)) hS.f hS.len (by omega) fun v' G' k1 ot nb f' => ?_
   unfold F67.B32
   rw [wrap_id (by omega) (by omega)]
   refine ⟨⟨rfl, rfl, i + 1, _, by omega, by omega, ⟨hS.kp.trans k1, k1.own hS.ob (Nat.lt_succ_self _), f'⟩, hr12, by simp; omega, ot _ _ (fun e => (hbk _ e).1 rfl) oG, fresh_oth fG fun b o hb ho => ot b o (fun e => (hbk b e).2 hb) ho, fun b hb => ?_⟩, by simp; omega⟩
   have h4 := nb b hb
   have h5 := oG.lt
   exact ⟨by omega, fun e => by have := (fG.bk_lt e).2; omega⟩
  ·unfold F67.B32
   rw [wrap_id (by omega) (by omega)]
   exact ⟨⟨rfl, rfl, i + 1, es, by omega, by omega, hS, hE, by omega, oG, fG, hbk⟩, by simp; omega⟩
 ·unfold F67.B30
  refine hS.cyc (n := 12) [0, 10, 11] rfl rfl hE (fun x hx => by simp at hx; omega) (by simp; omega) fun v1 es1 G1 h1 r1 e1 => ?_
  have e1 : es1.length = es.length + 3 := e1
  unfold F67.B29
  refine h1.push [(0, 1), (10, 4), (11, 5)] rfl rfl (by simp) (by simp; omega) fun v2 G2 h2 => ?_
  exact h2.made k (n := 12) (r1.app (by refine .cons ?_ ?_ (.cons ?_ ?_ (.cons ?_ ?_ .nil)) <;> decide)) (by simp) (by simp; omega)
def nameL : List ByteArray := [⟨#[116, 104, 101, 116, 97]⟩, ⟨#[107, 52]⟩, ⟨#[107, 51, 51]⟩, ⟨#[112, 114, 105, 115, 109]⟩, ⟨#[99, 117, 98, 101]⟩, ⟨#[112, 101, 116, 101, 114, 115, 101, 110]⟩, ⟨#[116, 105, 101, 116, 122, 101]⟩, ⟨#[102, 108, 111, 119, 101, 114, 53]⟩, ⟨#[98, 114, 105, 100, 103, 101]⟩]
theorem named_tietze (k : NamK 12 40 H K) : AC Tryz.prog T0 67 [.string ⟨#[116, 105, 101, 116, 122, 101]⟩] H K := by
 refine named_start fun H1 v h => ?_
 unfold F67.B60 F67.B59
 refine pif_f (by decide +kernel) ?_
 unfold F67.B58
 refine pif_f (by decide +kernel) ?_
 unfold F67.B57
 refine pif_f (by decide +kernel) ?_
 unfold F67.B56
 refine pif_f (by decide +kernel) ?_
 unfold F67.B55
 refine pif_f (by decide +kernel) ?_
 unfold F67.B54
 refine pif_f (by decide +kernel) ?_
 unfold F67.B53
 exact pif_t (by decide +kernel) (nm_tietze k h)
theorem l01Named_ok {nm : ByteArray} (hn : nm ∈ nameL) (k : ∀ n, 2 ≤ n → n ≤ 20 → NamK n 40 H K) : AC Tryz.prog T0 67 [.string nm] H K := by
 unfold nameL at hn
 simp only [List.mem_cons, List.not_mem_nil, or_false] at hn
 rcases hn with rfl | rfl | rfl | rfl | rfl | rfl | rfl | rfl | rfl
 ·refine named_start fun H1 v h => ?_
  unfold F67.B60 F67.B59
  exact pif_t (by decide +kernel) (nm_theta (k 2 (by decide) (by decide)) h)
 ·refine named_start fun H1 v h => ?_
  unfold F67.B60 F67.B59
  refine pif_f (by decide +kernel) ?_
  unfold F67.B58
  exact pif_t (by decide +kernel) (nm_k4 (k 4 (by decide) (by decide)) h)
 ·refine named_start fun H1 v h => ?_
  unfold F67.B60 F67.B59
  refine pif_f (by decide +kernel) ?_
  unfold F67.B58
  refine pif_f (by decide +kernel) ?_
  unfold F67.B57
  exact pif_t (by decide +kernel) (nm_k33 (k 6 (by decide) (by decide)) h)
 ·refine named_start fun H1 v h => ?_
  unfold F67.B60 F67.B59
  refine pif_f (by decide +kernel) ?_
  unfold F67.B58
  refine pif_f (by decide +kernel) ?_
  unfold F67.B57
  refine pif_f (by decide +kernel) ?_
  unfold F67.B56
  exact pif_t (by decide +kernel) (nm_prism (k 6 (by decide) (by decide)) h)
 ·refine named_start fun H1 v h => ?_
  unfold F67.B60 F67.B59
  refine pif_f (by decide +kernel) ?_
  unfold F67.B58
  refine pif_f (by decide +kernel) ?_
  unfold F67.B57
  refine pif_f (by decide +kernel) ?_
  unfold F67.B56
  refine pif_f (by decide +kernel) ?_
  unfold F67.B55
  exact pif_t (by decide +kernel) (nm_cube (k 8 (by decide) (by decide)) h)
 ·exact named_petersen fun v es G l f g c => k 10 (by decide) (by decide) v es G l f g (by omega)
 ·exact named_tietze (k 12 (by decide) (by decide))
 ·refine named_start fun H1 v h => ?_
  unfold F67.B60 F67.B59
  refine pif_f (by decide +kernel) ?_
  unfold F67.B58
  refine pif_f (by decide +kernel) ?_
  unfold F67.B57
  refine pif_f (by decide +kernel) ?_
  unfold F67.B56
  refine pif_f (by decide +kernel) ?_
  unfold F67.B55
  refine pif_f (by decide +kernel) ?_
  unfold F67.B54
  refine pif_f (by decide +kernel) ?_
  unfold F67.B53
  refine pif_f (by decide +kernel) ?_
  unfold F67.B52
  exact pif_t (by decide +kernel) (nm_flower (k 20 (by decide) (by decide)) h)
 ·refine named_start fun H1 v h => ?_
  unfold F67.B60 F67.B59
  refine pif_f (by decide +kernel) ?_
  unfold F67.B58
  refine pif_f (by decide +kernel) ?_
  unfold F67.B57
  refine pif_f (by decide +kernel) ?_
  unfold F67.B56
  refine pif_f (by decide +kernel) ?_
  unfold F67.B55
  refine pif_f (by decide +kernel) ?_
  unfold F67.B54
  refine pif_f (by decide +kernel) ?_
  unfold F67.B53
  refine pif_f (by decide +kernel) ?_
  unfold F67.B52
  refine pif_f (by decide +kernel) ?_
  unfold F67.B51
  exact pif_t (by decide +kernel) (nm_bridge (k 10 (by decide) (by decide)) h)
end Go.Proofs
namespace Go.Proofs
open Go.Abs

variable {H G G' Hb H0 : AHeap} {v u f w : Value} {l m D : List Int} {es fs : List (Int × Int)} {K : Value → AHeap → Prop} {bs : Nat} {n : Int}

theorem sl_edges {m0 : Nat} {t : TypeId} (h : Sl m0 H v t 2 (LE es)) : Edges H v es := by
 rcases h with ⟨h1, h2⟩ | ⟨b, n, pre, post, h1, rfl, h3, h4⟩
 ·have : es = [] := by
   cases es with
   | nil => rfl
   | cons x l => rw [LE_cons] at h1; cases h1
  subst this
  rcases h2 with rfl | ⟨a, rfl⟩
  ·exact .inl ⟨rfl, rfl⟩
  ·exact .inr ⟨a, 0, rfl, .inl rfl⟩
 ·have hn : n = es.length := by rw [LE_length] at h4; omega
  subst hn
  refine .inr ⟨_, _, rfl, .inr ⟨rfl, fun i x hx => ?_⟩⟩
  have hi : i < es.length := lt_of_get hx
  have hg := LE_get es i x hx
  have key : ∀ j, j < (LE es).length → H.cell b (pre.length + j) = (LE es)[j]? := fun j hj => by
   rw [h3.cell, List.append_assoc, List.getElem?_append_right (Nat.le_add_right _ _), Nat.add_sub_cancel_left, List.getElem?_append_left hj]
  have hl := LE_length es
  refine ⟨?_, ?_⟩
  ·rw [key _ (by omega)]; exact hg.1
  ·rw [Nat.add_assoc, key _ (by omega)]; exact hg.2
theorem Src.but {x : Nat} (h : Src Hb bs G) (b : But x G G') (hx : bs < x) : Src Hb bs G' := by
 obtain ⟨h1, h2, cv, l, a, y, h3, h4, h5, h6, h7⟩ := h
 exact ⟨b.le h1 (by omega), h2, cv, l, a, y, h3, h4, b.own h5 (by omega), h6, h7⟩
theorem Kb.but {x : Nat} (h : Kb bs H G) (b : But x G G') (hx : H.length ≤ x) : Kb bs H G' := ⟨by rw [b.len]; exact h.len, fun q o hq ho => by
 have := lt_of_get ho
 rw [b.same q (by omega)]; exact h.old q o hq ho⟩
theorem Kb.own {b : Nat} {t : TypeId} {cs : List Value} (h : Kb bs H G) (o : Own H b t cs) (hb : b ≠ bs) : Own G b t cs := h.old b _ hb o
theorem fresh_kb {m0 : Nat} {t : TypeId} {z : Nat} {cs : List Value} (h : Fresh m0 H v t z cs) (k : Kb bs H G) (hm : bs < m0) : Fresh m0 G v t z cs := fresh_oth h fun b o hb ho => k.old b o (by have := (h.bk_lt hb).1; omega) ho
theorem draw_tail {x2 : Nat} (s : Src Hb bs G) (kb : Kb bs H G) (hbs : bs < x2) (hx : H.length ≤ x2) (ob : Own G x2 26 [.int .i64 0, .slice none 0 0]) (h1 : v.oneCell' = true) (k : ∀ G', But x2 G G' → Kb bs H G' → Src Hb bs G' → K (.agg ⟨[.int .i64 n, v]⟩) G') :
    stK G x2 0 [.int .i64 n, v] (fun H7 => ldI .i64 H7 x2 0 (fun v8 => ld1 H7 x2 1 (fun v9 => K (.agg ⟨[.int .i64 v8, v9]⟩) H7))) := by
  refine stK_f (new := [.int .i64 n, v]) ob (by simp) (mem_iv h1) rfl fun G5 b5 o5 => ldI_own o5 rfl (ld1_own o5 rfl ?_)
  exact k G5 b5 (kb.but b5 hx) (s.but b5 hbs)
structure Gd2 (n : Int) (es : List (Int × Int)) : Prop where
 pos : 0 < es.length
 len : es.length ≤ 2000
 rng : EdR n es
 lo : 2 ≤ n
 hi : n ≤ 200
theorem name_get {i c : Nat} (h : i < c) (hc : c ≤ 9) : ∃ nm ∈ nameL, ((nameL.take c).map Value.string)[i]? = some (.string nm) := by
 have hi : i < nameL.length := by have : nameL.length = 9 := rfl; omega
 refine ⟨nameL[i], List.getElem_mem hi, ?_⟩
 rw [List.getElem?_map, List.getElem?_take_of_lt h, List.getElem?_eq_getElem hi]; rfl

theorem l01Small_ok (hs : Src Hb bs H) (k : ∀ v' n es G, Kb bs H G → Src Hb bs G → Fresh H.length G v' 78 2 (LE es) → Gd n es → 2 ≤ n → n ≤ 20 → K (.agg ⟨[.int .i64 n, v']⟩) G) :
    AC Tryz.prog T0 82 [.pointer (some ⟨bs, 0, none⟩)] H K := by
  have hbs := hs.lt
  apply F82.ac
  unfold F82.B6
  refine newK_f rfl fun H1 l1 n1 o1 => ?_
  unfold F82.B5
  refine l01Next_ok (hs.le l1) fun r G1 k1 s1 r0 r1 _ => asI_mk (pif_cases (fun hb => ?_) fun hb => ?_)
  · unfold F82.B4
    have kb1 : Kb bs H G1 := (Kb.of_le l1).trans k1
    have ob1 := k1.own o1 (by omega)
    refine newK_f rfl fun G2 l2 n2 o2 => ?_
    have kb2 := kb1.trans (.of_le l2)
    have hG1 := kb1.len
    unfold F82.B3
    refine lenK_of (l01Next_ok (s1.le l2) fun r' G3 k3 s3 r0' r1' _ => asI_mk ?_)
    have hr := r1' (by decide)
    obtain ⟨nm, hnm, hget⟩ := name_get (i := r'.toNat) (c := 6) (by omega) (by decide)
    have o3 := k3.own o2 (by omega)
    have kb3 := kb2.trans k3
    have hG3 := kb3.len
    have ob3 := k3.own (ob1.le l2) (by omega)
    refine own_idx r0' hr (ld1_own o3 hget (asS_mk (l01Named_ok hnm fun n a0 a1 v0 es0 G4 l4 f4 g4 c4 => tup2_mk (agg2_mk (asI_mk (asB_mk (newK_f rfl fun G5 l5 n5 o5 => stK_f (new := [.int .i64 n, v0]) o5 (by simp) (mem_iv (fresh_one f4)) rfl fun G6 b6 o6 => ?_)))))))
    have l6 : G4.le G6 := b6.le l5 (Nat.le_refl _)
    have l36 := AHeap.le_trans l4 l6
    have f6 := f4.le l6
    have s6 := s3.le l36
    have ob6 := ob3.le l36
    have kb6 := kb3.trans (.of_le l36)
    have hG6 := kb6.len
    have hl4 := l4.1
    unfold F82.B2
    refine ldI_own o6 rfl (ld1_own o6 rfl (ldI_own o6 rfl (l01DrawOrder_ok s6 (by omega) fun w D G7 k7 s7 f7 hDl hDr => ?_)))
    have o7 := k7.own o6 (by omega)
    have ob7 := k7.own ob6 (by omega)
    have kb7 := kb6.trans k7
    have f67 := fresh_kb f6 k7 (by omega)
    refine ⟨ldI_own o7 rfl (ld1_own o7 rfl ⟨rfl, rfl⟩), ?_⟩
    refine l01Renamed_ok f67.edges g4 f7.ints hDl hDr fun v' es' G8 l8 f8 g8 => agg2_mk (asI_mk (draw_tail (s7.le l8) (kb7.trans (.of_le l8)) hbs (Nat.le_refl _) (ob7.le l8) (fresh_one f8) fun G9 b9 kb9 s9 => ?_))
    have hG7 := ob7.lt
    exact k v' n es' G9 kb9 s9 (f8.but b9 (by omega) |>.less (by omega)) g8 a0 a1
  · unfold F82.B1
    have kb1 : Kb bs H G1 := (Kb.of_le l1).trans k1
    have ob1 := k1.own o1 (by omega)
    have hG1 := k1.len
    refine newK_f rfl fun G2 l2 n2 o2 => ?_
    refine l01Pick_ok (l := [2, 4, 4, 6, 6, 8, 8, 10]) (s1.le l2) (own_ints (l := [2, 4, 4, 6, 6, 8, 8, 10]) o2) (by decide) (by decide) (fun x hx => by simp at hx; omega) (fun G3 k3 => own_ints (l := [2, 4, 4, 6, 6, 8, 8, 10]) (k3.own o2 (by omega))) fun r' G3 k3 s3 hr => asI_mk ?_
    have hr : 2 ≤ r' ∧ r' ≤ 10 ∧ r' % 2 = 0 := by simp at hr; omega
    have kb3 := (kb1.trans (.of_le l2)).trans k3
    have ob3 := k3.own (ob1.le l2) (by omega)
    have hG3 := k3.len
    have hG2 := l2.1
    refine l01DrawOf_ok s3 hr.1 (by omega) hr.2.2 fun v' es' G4 k4 s4 f4 g4 => agg2_mk (asI_mk (draw_tail s4 (kb3.trans k4) hbs (Nat.le_refl _) (k4.own ob3 (by omega)) (fresh_one f4) fun G9 b9 kb9 s9 => ?_))
    exact k v' r' es' G9 kb9 s9 (f4.but b9 (by omega) |>.less (by omega)) g4 hr.1 (by omega)

theorem l01Beside_ok {n2 : Int} (h : Edges H v es) (g : Edges H w fs) (hg : Gd n es) (hf : Gd n2 fs) (a0 : 2 ≤ n) (a1 : n ≤ 100) (b0 : 2 ≤ n2) (b1 : n2 ≤ 100) (k : ∀ v' es' G, H.le G → Fresh H.length G v' 78 2 (LE es') → Gd2 (n + n2) es' → K (.agg ⟨[.int .i64 (n + n2), v']⟩) G) :
    AC Tryz.prog T0 153 [.agg ⟨[.int .i64 n, v]⟩, .agg ⟨[.int .i64 n2, w]⟩] H K := by
  have gl := hg.len; have fl := hf.len; have gp := hg.pos
  apply F153.ac
  unfold F153.B8
  refine newK_f (all_iv (edges_one' h)) fun H1 l1 n1 o1 => newK_f (all_iv (edges_one' g)) fun H2 l2 n2' o2 => newK_f rfl fun H3 l3 n3 o3 => ?_
  have o13 := (o1.le l2).le l3
  have o23 := o2.le l3
  have l03 := AHeap.le_trans l1 (AHeap.le_trans l2 l3)
  have hl03 := l03.1
  unfold F153.B7
  refine newK_f rfl fun H4 l4 n4 o4 => ld1_own (o13.le l4) rfl ?_
  have l04 := AHeap.le_trans l03 l4
  refine app_edges (m0 := H3.length) (es := []) (Fresh.sl (.inr ⟨_, 0, Nat.le_refl _, rfl, o4, rfl⟩)) l4.1 (h.le l04) gp (by simp; omega) fun v5 H5 k5 _ f5 => ?_
  have kp5 := (Keep.of_le l4).trans k5
  rw [List.nil_append] at f5
  unfold F153.B6 F153.L2
  refine ⟨fun x2 x3 x4 x5 x6 G => H.length = x2 ∧ H1.length = x3 ∧ H2.length = x4 ∧ Keep H3.length H3 G ∧ ∃ (i : Nat) (es' : List (Int × Int)), x6 = i ∧ i ≤ fs.length ∧ Fresh H3.length G x5 78 2 (LE es') ∧ EdR (n + n2) es' ∧ es'.length = es.length + i, fun _ _ _ _ x6 _ => fs.length - x6.toNat, ⟨rfl, rfl, rfl, kp5, 0, es, rfl, by omega, f5, hg.rng.up (by omega), rfl⟩, ?_⟩
  rintro x2 x3 x4 x5 x6 G ⟨rfl, rfl, rfl, kp, i, es', rfl, hi, hF, hE, hl⟩
  have lG : H.le G := kp.le l03 hl03
  have p1 := kp.own o13 (o13.lt); have p2 := kp.own o23 (o23.lt); have p3 := kp.own o3 (o3.lt)
  have hgG := g.le lG
  unfold F153.B5
  refine ld1_own p2 rfl (hgG.len (pif_cases (fun hb => ?_) fun hb => ?_))
  · have hlt : i < fs.length := by have := of_decide_eq_true hb; omega
    have hm : fs.getD i (0, 0) ∈ fs := by rw [getD_of hlt]; exact List.getElem_mem _
    have hr := hf.rng _ hm
    obtain ⟨bb, oo, hk, q1, q2⟩ := hgG.idx (show (0 : Int) ≤ i by omega) (by omega)
    simp only [Int.toNat_natCast] at q1 q2
    unfold F153.B4
    refine ld1_own p2 rfl (hk _ (ldI_mk q1 (ldI_own p1 rfl (ld1_own p2 rfl (hk _ (ldI_mk q2 (ldI_own p1 rfl ?_)))))))
    rw [wrap_id (by omega) (by omega), wrap_id (by omega) (by omega)]
    refine push_edge (x := ((fs.getD i (0, 0)).1 + n, (fs.getD i (0, 0)).2 + n)) hF kp.len (by omega) fun v3 G4 k4 _ _ f4 => ?_
    unfold F153.B3
    rw [wrap_id (by omega) (by omega)]
    exact ⟨⟨rfl, rfl, rfl, kp.trans k4, i + 1, _, by omega, by omega, f4, hE.snoc ⟨by omega, by omega⟩ ⟨by omega, by omega⟩, by simp; omega⟩, by simp; omega⟩
  · have hge := of_decide_eq_false hb
    unfold F153.B1
    refine ldI_own p1 rfl (ldI_own p2 rfl ?_)
    rw [wrap_id (by omega) (by omega)]
    refine l01Made_ok hF.edges (by omega) fun v' G2 l2' f2 => agg2_mk (asI_mk ?_)
    have hkl := kp.len
    refine stK_f (new := [.int .i64 (n + n2), v']) (p3.le l2') (by simp) (mem_iv (fresh_one f2)) rfl fun G5 b5 o5 => ldI_own o5 rfl (ld1_own o5 rfl ?_)
    have h3 := o3.lt
    have h12 := l1.1
    have h22 := l2.1
    exact k v' _ G5 (b5.le (AHeap.le_trans lG l2') (by omega)) ((f2.but b5 (by omega)).less (by omega)) ⟨by rw [srtE_length, List.length_map]; omega, by rw [srtE_length, List.length_map]; omega, hE.made, by omega, by omega⟩
theorem Gd.two (h : Gd n es) (a : 2 ≤ n) (b : n ≤ 200) : Gd2 n es := ⟨h.pos, by have := h.len; omega, h.rng, a, b⟩

theorem l01Draw_ok (hs : Src Hb bs H) (k : ∀ v' n es G, Kb bs H G → Src Hb bs G → Fresh H.length G v' 78 2 (LE es) → Gd2 n es → K (.agg ⟨[.int .i64 n, v']⟩) G) :
    AC Tryz.prog T0 96 [.pointer (some ⟨bs, 0, none⟩)] H K := by
  have hbs := hs.lt
  apply F96.ac
  unfold F96.B8
  refine newK_f rfl fun H1 l1 n1 o1 => ?_
  unfold F96.B7
  refine l01Next_ok (hs.le l1) fun r G1 k1 s1 r0 r1 _ => asI_mk ?_
  have kb1 : Kb bs H G1 := (Kb.of_le l1).trans k1
  have ob1 := k1.own o1 (by omega)
  have hG1 := k1.len
  refine pif_cases (fun hb => ?_) fun hb => ?_
  · unfold F96.B6
    apply F152.ac
    unfold F152.B2 F152.B1
    refine newK_f rfl fun G2 l2 n2 o2 => ?_
    have kb2 := kb1.trans (.of_le l2)
    unfold F96.B5
    refine lenK_of (l01Next_ok (s1.le l2) fun r' G3 k3 s3 r0' r1' _ => asI_mk ?_)
    have hr := r1' (by decide)
    obtain ⟨nm, hnm, hget⟩ := name_get (i := r'.toNat) (c := 9) (by omega) (by decide)
    have o3 := k3.own o2 (by omega)
    have kb3 := kb2.trans k3
    have hG3 := kb3.len
    have ob3 := k3.own (ob1.le l2) (by omega)
    refine own_idx r0' hr (ld1_own o3 hget (asS_mk (l01Named_ok hnm fun n a0 a1 v0 es0 G4 l4 f4 g4 c4 => tup2_mk (agg2_mk (asI_mk (asB_mk (newK_f rfl fun G5 l5 n5 o5 => stK_f (new := [.int .i64 n, v0]) o5 (by simp) (mem_iv (fresh_one f4)) rfl fun G6 b6 o6 => ?_)))))))
    have l6 : G4.le G6 := b6.le l5 (Nat.le_refl _)
    have l36 := AHeap.le_trans l4 l6
    have f6 := f4.le l6
    have s6 := s3.le l36
    have ob6 := ob3.le l36
    have kb6 := kb3.trans (.of_le l36)
    have hG6 := kb6.len
    have hl4 := l4.1
    unfold F96.B4
    refine ldI_own o6 rfl (ld1_own o6 rfl (ldI_own o6 rfl (l01DrawOrder_ok s6 (by omega) fun w D G7 k7 s7 f7 hDl hDr => ?_)))
    have o7 := k7.own o6 (by omega)
    have ob7 := k7.own ob6 (by omega)
    have kb7 := kb6.trans k7
    have f67 := fresh_kb f6 k7 (by omega)
    refine ⟨ldI_own o7 rfl (ld1_own o7 rfl ⟨rfl, rfl⟩), ?_⟩
    refine l01Renamed_ok f67.edges g4 f7.ints hDl hDr fun v' es' G8 l8 f8 g8 => agg2_mk (asI_mk (draw_tail (s7.le l8) (kb7.trans (.of_le l8)) hbs (Nat.le_refl _) (ob7.le l8) (fresh_one f8) fun G9 b9 kb9 s9 => ?_))
    have hG7 := ob7.lt
    exact k v' n es' G9 kb9 s9 (f8.but b9 (by omega) |>.less (by omega)) (g8.two a0 (by omega))
  · unfold F96.B3
    refine l01Next_ok s1 fun r' G2 k2 s2 r0' r1' _ => asI_mk ?_
    have kb2 := kb1.trans k2
    have ob2 := k2.own ob1 (by omega)
    have hG2 := k2.len
    refine pif_cases (fun hb => ?_) fun hb => ?_
    · unfold F96.B2
      refine l01Small_ok s2 fun va na ea G3 k3 s3 f3 g3 a0 a1 => agg2_mk (asI_mk ?_)
      have hG3 := k3.len
      refine l01Small_ok s3 fun vb nb eb G4 k4 s4 f4 g4 b0 b1 => agg2_mk (asI_mk ?_)
      have f34 := fresh_kb f3 k4 (by omega)
      have kb4 := (kb2.trans k3).trans k4
      have ob4 := k4.own (k3.own ob2 (by omega)) (by omega)
      have hG4 := k4.len
      refine l01Beside_ok f34.edges f4.edges g3 g4 a0 (by omega) b0 (by omega) fun v' es' G8 l8 f8 g8 => agg2_mk (asI_mk (draw_tail (s4.le l8) (kb4.trans (.of_le l8)) hbs (Nat.le_refl _) (ob4.le l8) (fresh_one f8) fun G9 b9 kb9 s9 => ?_))
      exact k v' _ es' G9 kb9 s9 (f8.but b9 (by omega) |>.less (by omega)) g8
    · unfold F96.B1
      refine newK_f rfl fun G3 l3 n3 o3 => ?_
      refine l01Pick_ok (l := [2, 4, 6, 8, 10, 12, 14, 20]) (s2.le l3) (own_ints (l := [2, 4, 6, 8, 10, 12, 14, 20]) o3) (by decide) (by decide) (fun x hx => by simp at hx; omega) (fun G3 k3 => own_ints (l := [2, 4, 6, 8, 10, 12, 14, 20]) (k3.own o3 (by omega))) fun r' G4 k4 s4 hr => asI_mk ?_
      have hr : 2 ≤ r' ∧ r' ≤ 20 ∧ r' % 2 = 0 := by simp at hr; omega
      have kb4 := (kb2.trans (.of_le l3)).trans k4
      have ob4 := k4.own (ob2.le l3) (by omega)
      have hG4 := k4.len
      have hG3 := l3.1
      refine l01DrawOf_ok s4 hr.1 (by omega) hr.2.2 fun v' es' G5 k5 s5 f5 g5 => agg2_mk (asI_mk (draw_tail s5 (kb4.trans k5) hbs (Nat.le_refl _) (k5.own ob4 (by omega)) (fresh_one f5) fun G9 b9 kb9 s9 => ?_))
      exact k v' r' es' G9 kb9 s9 (f5.but b9 (by omega) |>.less (by omega)) (g5.two hr.1 (by omega))
end Go.Proofs
namespace Go.Proofs
open Go.Abs

variable {H G G' Hb H0 : AHeap} {v u f w : Value} {l m D : List Int} {es fs : List (Int × Int)} {K : Value → AHeap → Prop} {bs : Nat} {n : Int}

theorem sl_kb {t : TypeId} {z : Nat} {cs : List Value} (h : Sl (bs + 1) H v t z cs) (k : Kb bs H G) : Sl (bs + 1) G v t z cs := by
 rcases h with h | ⟨b, n, pre, post, h1, h2, h3, h4⟩
 ·exact .inl h
 ·exact .inr ⟨b, n, pre, post, h1, h2, k.old b _ (by omega) h3, h4⟩
theorem sl_one {m0 : Nat} {t : TypeId} {z : Nat} {cs : List Value} (h : Sl m0 H v t z cs) : v.oneCell' = true := by
 rcases h with ⟨_, rfl | ⟨a, rfl⟩⟩ | ⟨b, n, pre, post, _, rfl, _⟩ <;> rfl
theorem LE_drop : ∀ (l : List (Int × Int)), (LE l).drop 2 = LE (l.drop 1)
 | [] => rfl
 | x :: l => rfl
theorem put_edge {m0 : Nat} {r a b : Int} {K : AHeap → Prop} (f : Fresh m0 G v 78 2 (LE es)) (h0 : 0 ≤ r) (h1 : r < es.length) (k : ∀ c G', m0 ≤ c → bk v = some c → But c G G' → Fresh m0 G' v 78 2 (LE (es.set r.toNat (a, b))) → K G') :
    idxK v r 2 (fun bb oo => stK G bb oo [.int .i64 a, .int .i64 b] K) := by
  have hlt : r.toNat < es.length := by omega
  rcases f with ⟨h, _⟩ | ⟨c, q, hc, rfl, o, hq⟩
  · have := congrArg List.length h
    rw [LE_length, List.length_nil] at this; omega
  · have hqe : q = es.length := by rw [LE_length] at hq; omega
    subst hqe
    refine own_idx2 h0 h1 (stK_f o (by rw [LE_length]; simp; omega) (by simp [Value.oneCell']) (LE_set es (a, b) hlt) fun G' b' o' => k c G' hc rfl b' (.inr ⟨c, es.length, hc, rfl, o', by rw [LE_length, List.length_set]⟩))
structure BdS (Hb H : AHeap) (bs : Nat) (n : Int) (v : Value) (es : List (Int × Int)) (x5 : Value) (fs : List (Int × Int)) (G : AHeap) : Prop where
 kb : Kb bs H G
 s : Src Hb bs G
 o3 : Own G H.length 26 [.int .i64 n, v]
 o4 : Own G (H.length + 1) 26 [.int .i64 0, .slice none 0 0]
 f : Fresh (H.length + 2) G x5 78 2 (LE fs)
 lt : bs < H.length
theorem BdS.step {x5 : Value} (h : BdS Hb H bs n v es x5 fs G) (k : Kb bs G G') (s : Src Hb bs G') : BdS Hb H bs n v es x5 fs G' :=
 ⟨h.kb.trans k, s, k.own h.o3 (by have := h.lt; omega), k.own h.o4 (by have := h.lt; omega), fresh_kb h.f k (by have := h.lt; omega), h.lt⟩
theorem BdS.le {x5 : Value} (h : BdS Hb H bs n v es x5 fs G) (l : G.le G') : BdS Hb H bs n v es x5 fs G' := h.step (.of_le l) (h.s.le l)
theorem BdS.but {x5 : Value} {c : Nat} {fs' : List (Int × Int)} (h : BdS Hb H bs n v es x5 fs G) (b : But c G G') (hc : H.length + 2 ≤ c) (f : Fresh (H.length + 2) G' x5 78 2 (LE fs')) : BdS Hb H bs n v es x5 fs' G' :=
 ⟨h.kb.but b (by omega), h.s.but b (by have := h.lt; omega), b.own h.o3 (by omega), b.own h.o4 (by omega), f, h.lt⟩
theorem BdS.reread {x5 : Value} (h : BdS Hb H bs n v es x5 fs G) : ldI .i64 G H.length 0 (fun v7 => ((Value.int .i64 v7) = (Value.int .i64 n)) ∧ (G = G)) := ldI_own h.o3 rfl ⟨rfl, rfl⟩
def BadK (Hb H : AHeap) (bs : Nat) (v : Value) (K : Value → AHeap → Prop) : Prop := ∀ v' n' es' G, Kb bs H G → Src Hb bs G → Sl (bs + 1) G v' 78 2 (LE es') → (∀ b, bk v' = some b → bk v = some b ∨ H.length ≤ b) → es'.length ≤ 2000 → -2 ≤ n' → n' ≤ 202 → K (.agg ⟨[.int .i64 n', v']⟩) G
theorem bad_put {x5 : Value} {n' : Int} {gs : List (Int × Int)} (k : BadK Hb H bs v K) (h : BdS Hb H bs n v es x5 fs G) (hs : Sl (bs + 1) G w 78 2 (LE gs)) (hw : bk w ≠ some (H.length + 1)) (hv : ∀ b, bk w = some b → bk v = some b ∨ H.length ≤ b) (hl : gs.length ≤ 2000) (h0 : -2 ≤ n') (h1 : n' ≤ 202) :
    stK G (H.length + 1) 0 [.int .i64 n', w] (fun H7 => ldI .i64 H7 (H.length + 1) 0 (fun v8 => ld1 H7 (H.length + 1) 1 (fun v9 => K (.agg ⟨[.int .i64 v8, v9]⟩) H7))) := by
  have hbs := h.lt
  exact draw_tail h.s h.kb (by omega) (by omega) h.o4 (sl_one hs) fun G9 b9 kb9 s9 => k w n' gs G9 kb9 s9 (sl_but2 hs b9 hw) hv hl h0 h1
theorem bad_B1 {x5 y : Value} {gs : List (Int × Int)} (k : BadK Hb H bs v K) (h : BdS Hb H bs n v es x5 fs G) (hs : Sl (H.length + 2) G y 78 2 (LE gs)) (hl : gs.length ≤ 2000) (h0 : 2 ≤ n) (h1 : n ≤ 200) : F68.B1 K H.length (H.length + 1) y G := by
 have hbs := h.lt
 unfold F68.B1
 refine ldI_own h.o3 rfl (pif_t (sl_one hs) (bad_put k h (hs.less (by omega)) (fun e => by have := (hs.lt e).1; omega) (fun b e => .inr (by have := (hs.lt e).1; omega)) hl (by omega) (by omega)))
theorem l01Bad_ok (hs : Src Hb bs H) (h : Sl (bs + 1) H v 78 2 (LE es)) (hg : Gd2 n es) (k : BadK Hb H bs v K) :
    AC Tryz.prog T0 68 [.pointer (some ⟨bs, 0, none⟩), .agg ⟨[.int .i64 n, v]⟩] H K := by
  have hbs := hs.lt
  have gl := hg.len; have gp := hg.pos; have n0 := hg.lo; have n1 := hg.hi
  have hE := sl_edges h
  apply F68.ac
  unfold F68.B15
  refine newK_f (all_iv (edges_one' hE)) fun H1 l1 m1 o1 => newK_f rfl fun H2 l2 m2 o2 => ?_
  rw [m1] at o2 ⊢
  have o12 := o1.le l2
  have l02 := AHeap.le_trans l1 l2
  unfold F68.B14
  refine newK_f rfl fun H4 l4 n4 o4 => ld1_own (o12.le l4) rfl ?_
  have l04 := AHeap.le_trans l02 l4
  have e2 : H2.length = H.length + 2 := by rw [m2, m1]
  refine app_edges (m0 := H2.length) (es := []) (Fresh.sl (.inr ⟨_, 0, Nat.le_refl _, rfl, o4, rfl⟩)) l4.1 (hE.le l04) gp (by simp; omega) fun x5 H5 k5 _ f5 => ?_
  rw [List.nil_append] at f5
  have kp := (Keep.of_le l4).trans k5
  have l05 : H.le H5 := kp.le l02 l02.1
  unfold F68.B13
  have st5 : BdS Hb H bs n v es x5 es H5 := ⟨.of_le l05, hs.le l05, kp.own o12 o12.lt, kp.own o2 o2.lt, by rw [e2] at f5; exact f5, hbs⟩
  refine l01Next_ok st5.s fun r G1 k1 s1 r0 r1 _ => asI_mk ?_
  have st := st5.step k1 s1
  have hvG := sl_kb (h.le l05) k1
  have fin2 : ∀ G (r a b : Int), BdS Hb H bs n v es x5 es G → 0 ≤ r → r < es.length → idxK x5 r 2 (fun bb oo => stK G bb oo [.int .i64 a, .int .i64 b] (fun H20 => F68.B1 K H.length (H.length + 1) x5 H20)) := fun G r a b hS h0 h1 =>
    put_edge hS.f h0 h1 fun c G' hc _ b' f' => bad_B1 k (hS.but b' hc f') f'.sl (by rw [List.length_set]; exact gl) n0 n1
  unfold F68.B12
  refine pif_cases (fun hb => ?_) fun hb => ?_
  · unfold F68.B2
    refine ldI_own st.o3 rfl ?_
    rw [wrap_id (by omega) (by omega)]
    refine newK_f rfl fun G2 l2 n2 o2 => ?_
    have hG1 := st.o4.lt
    refine l01Pick_ok (l := [0, 3, 22, -2, n + 2]) (st.le l2).s (own_ints (l := [0, 3, 22, -2, n + 2]) o2) (by simp) (by simp) (fun x hx => by simp at hx; omega) (fun G3 k3 => own_ints (l := [0, 3, 22, -2, n + 2]) (k3.own o2 (by omega))) fun r' G3 k3 s3 hr => asI_mk ?_
    have hr : -2 ≤ r' ∧ r' ≤ 202 := by simp at hr; omega
    have st3 := (st.le l2).step k3 s3
    refine pif_t (fresh_one st3.f) (bad_put k st3 (st3.f.sl.less (by omega)) (fun e => by have := (st3.f.bk_lt e).1; omega) (fun b e => .inr (by have := (st3.f.bk_lt e).1; omega)) gl hr.1 hr.2)
  unfold F68.B11
  refine pif_cases (fun hb => ?_) fun hb => ?_
  · unfold F68.B3
    have hG1 := st.o4.lt
    have hlen : ∀ {K : Nat → Prop}, K es.length → lenK x5 K := fun k' => st.f.edges.len k'
    have pk : ∀ {G2 : AHeap} {b : Nat}, Own G2 b 2 [.int .i64 (-1), .int .i64 n, .int .i64 0] → b ≠ bs → BdS Hb H bs n v es x5 es G2 → ∀ (Q : Value → AHeap → Prop), (∀ r' G3, BdS Hb H bs n v es x5 es G3 → Q (.int .i64 r') G3) → AC Tryz.prog T0 83 [.pointer (some ⟨bs, 0, none⟩), .slice (some ⟨b, 0, none⟩) 3 (3 + 1)] G2 Q := fun {G2 b} o hb st2 Q hQ => by
      refine l01Pick_ok (l := [-1, n, 0]) st2.s (own_ints (l := [-1, n, 0]) o) (by simp) (by simp) (fun x hx => by simp at hx; omega) (fun G3 k3 => own_ints (l := [-1, n, 0]) (k3.own o hb)) fun r' G3 k3 s3 hr => hQ r' G3 (st2.step k3 s3)
    refine hlen (ldI_own st.o3 rfl (ldI_own st.o3 rfl ⟨?_, ?_⟩))
    · refine l01Next_ok st.s fun q G2 k2 s2 q0 q1 _ => asI_mk ?_
      have st2 := st.step k2 s2
      have hq := q1 (by omega)
      refine ⟨st2.reread, st2.reread, ⟨?_, ?_⟩⟩
      · refine l01Next_ok st2.s fun a G3 k3 s3 a0 a1 _ => asI_mk ?_
        have st3 := st2.step k3 s3
        refine ⟨st3.reread, newK_f rfl fun G4 l4 n4 o4 => pk o4 (by have := st3.o4.lt; omega) (st3.le l4) _ fun r' G5 st5 => asI_mk (fin2 G5 q a r' st5 q0 hq)⟩
      · refine newK_f rfl fun G4 l4 n4 o4 => ?_
        have st4 := st2.le l4
        refine l01Next_ok st4.s fun a G3 k3 s3 a0 a1 _ => asI_mk ?_
        have st3 := st4.step k3 s3
        have hne : G2.length ≠ bs := by have := st2.o4.lt; omega
        exact ⟨st3.reread, pk (k3.own o4 hne) hne st3 _ fun r' G5 st5 => asI_mk (fin2 G5 q a r' st5 q0 hq)⟩
    · refine newK_f rfl fun G4 l4 n4 o4 => ?_
      have st4 := st.le l4
      have hne : G1.length ≠ bs := by have := st.o4.lt; omega
      refine l01Next_ok st4.s fun q G2 k2 s2 q0 q1 _ => asI_mk ?_
      have st2 := st4.step k2 s2
      have hq := q1 (by omega)
      refine ⟨st2.reread, st2.reread, l01Next_ok st2.s fun a G3 k3 s3 a0 a1 _ => asI_mk ?_⟩
      have st3 := st2.step k3 s3
      exact ⟨st3.reread, pk (k3.own (k2.own o4 hne) hne) hne st3 _ fun r' G5 st5 => asI_mk (fin2 G5 q a r' st5 q0 hq)⟩
  unfold F68.B10
  refine pif_cases (fun hb => ?_) fun hb => ?_
  · have eG := st.f.edges
    unfold F68.B6
    obtain ⟨bb, oo, hk, q1, q2⟩ := eG.idx (show (0 : Int) ≤ 0 by omega) (by omega)
    refine hk _ (ldI_mk q1 (ldI_mk q2 (newK_f rfl fun G2 l2 n2 o2 => stK_f (new := [.int .i64 (es.getD 0 (0, 0)).1, .int .i64 (es.getD 0 (0, 0)).2]) o2 (by simp) (by simp [Value.oneCell']) rfl fun G3 b3 o3 => ?_)))
    have l3 : G1.le G3 := b3.le l2 (Nat.le_refl _)
    have st3 := st.le l3
    have hlen3 : ∀ {K : Nat → Prop}, K es.length → lenK x5 K := fun k' => st.f.edges.len k'
    have hx6 := st.o4.lt
    unfold F68.B5
    refine hlen3 ?_
    rw [wrap_id (by omega) (by omega)]
    obtain ⟨bb, oo, hk, q1, q2⟩ := st3.f.edges.idx (show (0 : Int) ≤ (es.length : Int) - 1 by omega) (by omega)
    refine hk _ (ldI_mk q1 (ldI_mk q2 (put_edge st3.f (by omega) (by omega) fun c G4 hc hcb b4 f4 => ?_)))
    have st4 := st3.but b4 hc f4
    have o6 := b4.own o3 (by have := (st.f.bk_lt hcb).2; omega)
    · unfold F68.B4
      refine f4.edges.len (ldI_own o6 rfl (ldI_own o6 rfl ?_))
      rw [List.length_set, wrap_id (by omega) (by omega)]
      exact put_edge f4 (by omega) (by rw [List.length_set]; omega) fun c G' hc _ b' f' => bad_B1 k (st4.but b' hc f') f'.sl (by rw [List.length_set, List.length_set]; exact gl) n0 n1
  unfold F68.B9
  refine pif_cases (fun hb => ?_) fun hb => ?_
  · unfold F68.B7
    refine st.f.sl.drop (i := 1) (n := es.length) (LE_length es) (by decide) gp gp fun v' h' => ?_
    rw [Nat.one_mul, LE_drop] at h'
    exact bad_B1 k st h' (by rw [List.length_drop]; omega) n0 n1
  · unfold F68.B8
    refine ldI_own st.o3 rfl (ld1_own st.o3 rfl (bad_put k st hvG (fun e => by have := (h.lt e).2; omega) (fun b e => .inl e) gl (by omega) (by omega)))
theorem l01Spoil_ok (hs : Src Hb bs H) (k : ∀ v' n' es' G, Kb bs H G → Src Hb bs G → Sl H.length G v' 78 2 (LE es') → es'.length ≤ 2000 → -2 ≤ n' → n' ≤ 202 → K (.agg ⟨[.int .i64 n', v']⟩) G) : AC Tryz.prog T0 71 [.pointer (some ⟨bs, 0, none⟩)] H K := by
 have hbs := hs.lt
 apply F71.ac
 unfold F71.B2
 refine newK_f rfl fun H1 l1 n1 o1 => ?_
 unfold F71.B1
 refine l01Draw_ok (hs.le l1) fun v1 n1' es1 G1 k1 s1 f1 g1 => agg2_mk (asI_mk ?_)
 have hk1 := k1.len
 refine l01Bad_ok s1 (f1.sl.less (by omega)) g1 fun v2 n2 es2 G2 k2 s2 h2 hv c2 a0 a1 => agg2_mk (asI_mk ?_)
 have kb2 := ((Kb.of_le l1).trans k1).trans k2
 have hne : ∀ b, bk v2 = some b → H1.length ≤ b := fun b hb => by
  rcases hv b hb with e | e
  ·exact (f1.bk_lt e).1
  ·omega
 refine draw_tail s2 kb2 hbs (Nat.le_refl _) (k2.own (k1.own o1 (by omega)) (by omega)) (sl_one h2) fun G9 b9 kb9 s9 => ?_
 have h9 := sl_but2 h2 b9 (fun e => by have := hne _ e; omega)
 refine k v2 n2 es2 G9 kb9 s9 ?_ c2 a0 a1
 rcases h9 with h | ⟨b, q, pre, post, q1, rfl, q3, q4⟩
 ·exact .inl h
 ·exact .inr ⟨b, q, pre, post, by have := hne b rfl; omega, rfl, q3, q4⟩
end Go.Proofs
namespace Go.Proofs
open Go.Abs

variable {H G G' Hb H0 : AHeap} {v u f w : Value} {l m D : List Int} {es fs : List (Int × Int)} {K : Value → AHeap → Prop} {bs : Nat} {n : Int}

theorem put_graph {x2 m0 : Nat} (o : Own G x2 26 [.int .i64 0, .slice none 0 0]) (l : H.le G) (hx : H.length ≤ x2) (hs : Sl m0 G v 78 2 (LE es)) (hm : x2 < m0) (k : ∀ G', But x2 G G' → H.le G' → Sl m0 G' v 78 2 (LE es) → K (.agg ⟨[.int .i64 n, v]⟩) G') :
    stK G x2 0 [.int .i64 n, v] (fun H7 => ldI .i64 H7 x2 0 (fun v8 => ld1 H7 x2 1 (fun v9 => K (.agg ⟨[.int .i64 v8, v9]⟩) H7))) := by
  refine stK_f (new := [.int .i64 n, v]) o (by simp) (mem_iv (sl_one hs)) rfl fun G5 b5 o5 => ldI_own o5 rfl (ld1_own o5 rfl ?_)
  exact k G5 b5 (b5.le l hx) (hs.but b5 hm)
end Go.Proofs
namespace Go.Proofs
open Go.Abs

variable {H G G' Hb H0 : AHeap} {v u f w : Value} {l m D : List Int} {es fs : List (Int × Int)} {K : Value → AHeap → Prop} {bs : Nat} {n : Int}

theorem Kb.keep (h : Kb bs H G) (k : Keep H.length G G') : Kb bs H G' := ⟨Nat.le_trans h.len k.len, fun q o hq ho => k.old q o (lt_of_get ho) (h.old q o hq ho)⟩
theorem Src.keep {m0 : Nat} (h : Src Hb bs G) (k : Keep m0 G G') (hm : bs < m0) : Src Hb bs G' := by
 obtain ⟨h1, h2, cv, l, a, y, h3, h4, h5, h6, h7⟩ := h
 exact ⟨k.le h1 (by omega), h2, cv, l, a, y, h3, h4, k.own h5 hm, h6, h7⟩
end Go.Proofs
namespace Go.Proofs
open Go.Abs

variable {H G G' Hb H0 : AHeap} {v u f w : Value} {l m D : List Int} {es fs : List (Int × Int)} {K : Value → AHeap → Prop} {bs : Nat} {n : Int}

def DrwL (H : AHeap) (K : Value → AHeap → Prop) : Prop := ∀ v n es w l G, H.le G → Sl H.length G v 78 2 (LE es) → Fresh H.length G w 2 1 (LI l) → es.length ≤ 2000 → l.length ≤ 3000 → -2 ≤ n → n ≤ 202 → K (.tuple ⟨[.agg ⟨[.int .i64 n, v]⟩, w]⟩) G
theorem with_tail {x2 : Nat} (k : DrwL H K) (l1 : H.le G) (hx : H.length ≤ x2) (o : Own G x2 26 [.int .i64 0, .slice none 0 0]) (hv : Sl (x2 + 1) G v 78 2 (LE es)) (hw : Fresh (x2 + 1) G w 2 1 (LI l)) (h1 : es.length ≤ 2000) (h2 : l.length ≤ 3000) (h3 : -2 ≤ n) (h4 : n ≤ 202) :
    stK G x2 0 [.int .i64 n, v] (fun H3 => ldI .i64 H3 x2 0 (fun v4 => ld1 H3 x2 1 (fun v5 => K (.tuple ⟨[.agg ⟨[.int .i64 v4, v5]⟩, w]⟩) H3))) :=
  put_graph (K := fun v G => K (.tuple ⟨[v, w]⟩) G) o l1 hx hv (Nat.lt_succ_self _) fun G' b' lG eG => k v n es w l G' lG (eG.less (by omega)) ((hw.but b' (by omega)).less (by omega)) h1 h2 h3 h4
end Go.Proofs
namespace Go.Proofs
open Go.Abs

variable {H G G' Hb H0 : AHeap} {v u f w : Value} {l m c D : List Int} {es fs : List (Int × Int)} {K : Value → AHeap → Prop} {bs : Nat} {n : Int}

theorem fresh_up {m0 m1 : Nat} {t : TypeId} {z : Nat} {cs : List Value} (h : Fresh m0 H v t z cs) (hb : ∀ b, bk v = some b → m1 ≤ b) : Fresh m1 H v t z cs := by
 rcases h with h | ⟨b, q, _, rfl, h3, h4⟩
 ·exact .inl h
 ·exact .inr ⟨b, q, hb b rfl, rfl, h3, h4⟩
theorem rowF_ge {A : Nat → Prop} {B m0 : Nat} {ls : List (List Int)} (h : RowsF A B H v ls) (hA : ∀ b, A b → m0 ≤ b) {i : Nat} (hi : i < ls.length) {K : Value → Prop} (k : ∀ w, Fresh m0 H w 2 1 (LI (ls.getD i [])) → K w) : idxK v i 1 (fun b o => ld1 H b o K) := by
 obtain ⟨vs, h1, h2, h3, h4⟩ := h
 obtain ⟨w, g1, g2, g3⟩ := h4 i hi
 exact Sl_rd h1.sl (by omega) (by omega) (by rw [Int.toNat_natCast]; exact g1) (k w (fresh_up g2 fun b hb => hA b (g3 b hb).1))
theorem rowsF_kb {A : Nat → Prop} {B : Nat} {ls : List (List Int)} (h : RowsF A B H v ls) (k : Kb bs H G) (hA : ∀ b, A b → b ≠ bs) : RowsF A B G v ls := h.move fun b o ha _ ho => k.old b o (hA b ha) ho
theorem fresh_row {m0 : Nat} (h : Fresh m0 H v 2 1 (LI l)) (h0 : 0 < l.length) : ∃ b, m0 ≤ b ∧ v = .slice (some ⟨b, 0, none⟩) l.length (l.length + 1) ∧ Own H b 2 (LI l) := by
 rcases h with ⟨h, _⟩ | ⟨b, q, hb, rfl, h3, h4⟩
 ·have := congrArg List.length h
  rw [List.length_map, List.length_nil] at this; omega
 ·have : q = l.length := by rw [List.length_map] at h4; omega
  subst this
  exact ⟨b, hb, rfl, h3⟩
theorem LI_at {i : Nat} (h : i < l.length) : (LI l)[i]? = some (.int .i64 (l.getD i 0)) := by simp [h]
theorem tmod3 {a r : Int} (ha : 0 ≤ a ∧ a ≤ 2) (hr : 0 ≤ r ∧ r < 2) : IntKind.i64.wrap (IntKind.i64.wrap (a + 1) + r) = a + 1 + r ∧ 0 ≤ Int.tmod (a + 1 + r) 3 ∧ Int.tmod (a + 1 + r) 3 ≤ 2 ∧ Int.tmod (a + 1 + r) 3 ≠ a := by
 refine ⟨by rw [wrap_id (x := a + 1) (by omega) (by omega), wrap_id (by omega) (by omega)], ?_⟩
 have h1 : a = 0 ∨ a = 1 ∨ a = 2 := by omega
 have h2 : r = 0 ∨ r = 1 := by omega
 rcases h1 with rfl | rfl | rfl <;> rcases h2 with rfl | rfl <;> decide
theorem l02DrawOf_ok (hs : Src Hb bs H) (h : Sl (bs + 1) H v 78 2 (LE es)) (hl : es.length ≤ 2000) (k : ∀ v' l G, Kb bs H G → Src Hb bs G → Fresh H.length G v' 2 1 (LI l) → l.length ≤ 2000 → (∀ x ∈ l, 0 ≤ x ∧ x ≤ 2) → K v' G) :
    AC Tryz.prog T0 136 [.pointer (some ⟨bs, 0, none⟩), .agg ⟨[.int .i64 n, v]⟩] H K := by
  have hbs := hs.lt
  have hE := sl_edges h
  apply F136.ac
  unfold F136.B20
  refine newK_f (all_iv (edges_one' hE)) fun H1 l1 n1' o1 => ?_
  have hl1 := l1.1
  unfold F136.B19
  refine ldI_own o1 rfl (ld1_own o1 rfl (l01Is_ok (hE.le l1) (by omega) fun H2 l2 => asB_mk ?_))
  have l12 := AHeap.le_trans l1 l2
  have o2 := o1.le l2
  refine pif_cases (fun hg => ?_) fun hg => ?_
  · unfold F136.B18
    refine newK_f rfl fun H3 l3 n3 o3 => ?_
    have l13 := AHeap.le_trans l12 l3
    exact k _ [] H3 (.of_le l13) (hs.le l13) (.inr ⟨_, 0, l12.1, rfl, o3, rfl⟩) (by simp) (fun x hx => by cases hx)
  have hg : IsG n es := by simpa using hg
  have n0 := hg.ed.lo; have n1 := hg.ed.hi
  have h30 : es.length ≤ 30 := by have := hg.ed.len; omega
  have hpos : 0 < es.length := by have := hg.ed.len; omega
  have hlt1 := o1.lt
  -- any colours
  have rand : ∀ G, Kb bs H1 G → Src Hb bs G → Own G H.length 26 [.int .i64 n, v] → Sl (bs + 1) G v 78 2 (LE es) → F136.B15 K (.pointer (some ⟨bs, 0, none⟩)) H.length G := by
    intro G kb s oG hv
    have kbl := kb.len
    unfold F136.B15
    refine newK_f rfl fun G1 g1 m1 p1 => ?_
    unfold F136.B14 F136.L10
    refine ⟨fun x0 x3 x6 x7 G' => .pointer (some ⟨bs, 0, none⟩) = x0 ∧ H.length = x3 ∧ Kb bs H1 G' ∧ Src Hb bs G' ∧ G.length ≤ G'.length ∧ ∃ (i : Nat) (l : List Int), x7 = i ∧ i ≤ es.length ∧ Fresh G.length G' x6 2 1 (LI l) ∧ l.length = i ∧ ∀ x ∈ l, 0 ≤ x ∧ x ≤ 2, fun _ _ _ x7 _ => es.length - x7.toNat,
      ⟨rfl, rfl, kb.trans (.of_le g1), s.le g1, g1.1, 0, [], rfl, by omega, .inr ⟨_, 0, Nat.le_refl _, rfl, p1, rfl⟩, rfl, fun x hx => by cases hx⟩, ?_⟩
    rintro x0 x3 x6 x7 G2 ⟨rfl, rfl, kb2, s2, hgl, i, l, rfl, hi, hF, hll, hr⟩
    have o2' : Own G2 H.length 26 [.int .i64 n, v] := kb2.own o1 (by omega)
    have hE2 : Edges G2 v es := sl_edges (sl_kb (h.le l1) kb2)
    unfold F136.B13
    refine ld1_own o2' rfl (hE2.len (pif_cases (fun hb => ?_) fun hb => ?_))
    · have hlt : i < es.length := by have := of_decide_eq_true hb; omega
      unfold F136.B12
      refine l01Next_ok s2 fun r G3 k3 s3 r0 r1 _ => asI_mk ?_
      have hr3 := r1 (by decide)
      have hF3 := fresh_kb hF k3 (by omega)
      have hm : G.length ≤ G3.length := by have := k3.len; omega
      refine hF3.sl.pushN E_int (by decide) hm (n := 1) (ys := [.int .i64 r]) rfl rfl (by simp; omega) (by simp) fun v3 G4 k4 _ _ f4 => ?_
      unfold F136.B11
      rw [wrap_id (by omega) (by omega)]
      refine ⟨⟨rfl, rfl, (kb2.trans k3).keep (k4.less (by omega)), s3.keep k4 (by omega), by have := k4.len; omega, i + 1, l ++ [r], by omega, by omega, by simpa using f4, by simp; omega, fun x hx => ?_⟩, by simp; omega⟩
      rcases List.mem_append.1 hx with hx | hx
      · exact hr x hx
      · rw [List.mem_singleton.1 hx]; omega
    · unfold F136.B9
      exact k x6 l G2 ((Kb.of_le l1).trans kb2) s2 (hF.less (by omega)) (by omega) hr
  unfold F136.B17
  refine ldI_own o2 rfl (ld1_own o2 rfl (l02Normal_ok (mo := 5) (hE.le l12) hg (by decide) fun x5 H3 l3 hR => ?_))
  have l13 := AHeap.le_trans l2 l3
  have o3 := o2.le l3
  have l03 := AHeap.le_trans l12 l3
  obtain ⟨LS, hLS⟩ : ∃ LS, LS = (nrmL es es.length []).take (5 + 1) := ⟨_, rfl⟩
  rw [← hLS] at hR
  have hcol : ∀ l ∈ LS, IsC es l := fun l hl => by
    rw [hLS] at hl
    exact nrmL_isC es.length [] ⟨fun x hx => absurd hx (by simp), fun j hj => absurd hj (by simp)⟩ (by simp) l (List.mem_of_mem_take hl)
  have hLl : LS.length ≤ 6 := by rw [hLS, List.length_take]; omega
  have s3 := hs.le l03
  have hl12 := l12.1
  unfold F136.B16
  refine hR.len (pif_cases (fun _ => rand H3 (.of_le l13) s3 o3 (h.le l03)) fun hz => l01Next_ok s3 fun r0 G1 k1 s1 _ _ _ => asI_mk (pif_cases (fun _ => rand G1 ((Kb.of_le l13).trans k1) s1 (k1.own o3 (by omega)) (sl_kb (h.le l03) k1)) fun _ => ?_))
  have hLpos : 0 < LS.length := by have := beq_eq_false_iff_ne.1 hz; omega
  unfold F136.B8
  have hR1 := rowsF_kb hR k1 fun b hb => by omega
  refine hR1.len (l01Next_ok s1 fun q G2 k2 s2 q0 q1 _ => asI_mk ?_)
  have hq := q1 (by omega)
  have hR2 := rowsF_kb hR1 k2 fun b hb => by omega
  obtain ⟨q, rfl⟩ : ∃ q' : Nat, q = q' := ⟨q.toNat, by omega⟩
  have hql : q < LS.length := by omega
  refine rowF_ge (m0 := H2.length) hR2 (fun b hb => hb) hql fun x8 fx8 => ?_
  have hc0 := hcol _ (List.getElem_mem hql)
  rw [← getD_of (d := []) hql] at hc0
  have k12 := (Kb.of_le l13).trans (k1.trans k2)
  unfold F136.B7
  refine l01Next_ok s2 fun t G3 k3 s3' t0 t1 _ => asI_mk ?_
  have ht3 := t1 (by decide)
  unfold F136.L2
  refine ⟨fun x0 x3 x8 x9 G => .pointer (some ⟨bs, 0, none⟩) = x0 ∧ H.length = x3 ∧ Kb bs H1 G ∧ Src Hb bs G ∧ 0 ≤ x9 ∧ x9 < 3 ∧ ∃ c, Fresh H2.length G x8 2 1 (LI c) ∧ IsC es c, fun _ _ _ x9 _ => x9.toNat, ⟨rfl, rfl, k12.trans k3, s3', t0, ht3, _, fresh_kb fx8 k3 (by omega), hc0⟩, ?_⟩
  clear hR hR1 hR2 fx8 hc0 k12 s3' k3 s2 k2 s1 k1 hLS
  rintro x0 x3 x8 x9 G ⟨rfl, rfl, kb, s, h9, h93, c, fc, hc⟩
  have oG := kb.own o1 (by omega)
  have hcl := hc.len
  unfold F136.B6
  refine pif_cases (fun hb => ?_) fun hb => ?_
  · have hp := of_decide_eq_true hb
    obtain ⟨b, hb', rfl, ob⟩ := fresh_row fc (by omega)
    unfold F136.B5
    refine lenK_of (l01Next_ok s fun e G4 k4 s4 e0 e1 _ => asI_mk ?_)
    have he := e1 (by omega)
    obtain ⟨e, rfl⟩ : ∃ e' : Nat, e = e' := ⟨e.toNat, by omega⟩
    have o4 := k4.own oG (by omega)
    have ob4 := k4.own ob (by omega)
    have hbd := hc.get e
    unfold F136.B4
    refine ldI_own o4 rfl (ld1_own o4 rfl (own_idx (by omega) (by omega) (ldI_own ob4 (by rw [Int.toNat_natCast]; exact LI_at (by omega)) (l01Next_ok s4 fun y G5 k5 s5 y0 y1 _ => asI_mk ?_))))
    have hy := y1 (by decide)
    have o5 := k5.own o4 (by omega)
    have ob5 := k5.own ob4 (by omega)
    obtain ⟨w1, w2, w3, w4⟩ := tmod3 hbd ⟨y0, hy⟩
    rw [w1]
    have kb5 := (kb.trans k4).trans k5
    have hE5 : Edges G5 v es := sl_edges (sl_kb (h.le l1) kb5)
    have ic5 : Ints G5 (.slice (some ⟨b, 0, none⟩) c.length (c.length + 1)) c := own_ints ob5
    refine ⟨ldI_own o5 rfl (ld1_own o5 rfl ⟨rfl, rfl⟩), ldI_own ob5 (by rw [Int.toNat_natCast]; exact LI_at (by omega)) ⟨rfl, rfl⟩, l02Exchange_ok (e := e) hE5 hg ic5 hc (by omega) ⟨w2, w3⟩ fun v12 G6 l6 f6 => ?_⟩
    unfold F136.B3
    rw [wrap_id (by omega) (by omega)]
    have hGl5 := kb5.len
    have hob5 := ob5.lt
    have hk4 := k4.len
    have hk5 := k5.len
    have hob := ob.lt
    exact ⟨⟨rfl, rfl, kb5.trans (.of_le l6), s5.le l6, by omega, by omega, _, f6.less (by omega), exTo_isC hc (by omega) ⟨w2, w3⟩ w4⟩, by show (x9 - 1).toNat < x9.toNat; omega⟩
  · unfold F136.B1
    exact k x8 c G ((Kb.of_le l1).trans kb) s (fc.less (by omega)) (by omega) hc.rng
end Go.Proofs
namespace Go.Proofs
open Go.Abs

variable {H G G' Hb H0 : AHeap} {v u f w : Value} {l m c D : List Int} {es fs : List (Int × Int)} {K : Value → AHeap → Prop} {bs : Nat} {n : Int}

theorem l02Draw_ok (hB : Byts H u l) (hl : l.length ≤ 4096) (k : DrwL H K) : AC Tryz.prog T0 132 [u] H K := by
 apply F132.ac
 unfold F132.B4
 refine newK_f rfl fun H1 l1 n1 o1 => ?_
 unfold F132.B3
 refine l01From_ok (hB.le l1) hl fun G1 g1 s1 => ?_
 have hs1 := s1.lt
 have hlt := o1.lt
 unfold F132.B2
 refine l01Spoil_ok s1 fun v2 n2 es2 G2 k2 s2 h2 c2 a0 a1 => agg2_mk (asI_mk (newK_f rfl fun G4 l4 n4 o4 => stK_f (new := [.int .i64 n2, v2]) o4 (by simp) (mem_iv (sl_one h2)) rfl fun G5 b5 o5 => ?_))
 have l5 : G2.le G5 := b5.le l4 (Nat.le_refl _)
 have ob2 := k2.own (o1.le g1) (by omega)
 have hs2 := s2.lt
 unfold F132.B1
 refine ldI_own o5 rfl (ld1_own o5 rfl (ldI_own o5 rfl (ld1_own o5 rfl (l02DrawOf_ok (s2.le l5) ((h2.le l5).less (by omega)) c2 fun v' l' G6 k6 s6 f6 hl6 hr => ?_))))
 have o6 := k6.own o5 (by omega)
 have hl5 := l5.1
 exact ⟨ldI_own o6 rfl (ld1_own o6 rfl ⟨rfl, rfl⟩), with_tail k (AHeap.le_trans l1 s6.1) (Nat.le_refl _) (k6.own (ob2.le l5) (by omega)) ((sl_kb ((h2.le l5).less (by omega)) k6).less (by omega)) (f6.less (by omega)) c2 (by omega) a0 a1⟩
theorem drawNumbers_ok (hB : Byts H u l) (hl : l.length ≤ 4096) (k : DrwL H K) : AC Tryz.prog T0 53 [u] H K := by
 apply F53.ac
 unfold F53.B2
 refine newK_f rfl fun H1 l1 n1 o1 => ?_
 unfold F53.B1
 refine l02Draw_ok (hB.le l1) hl fun v2 n2 es2 w2 l2 G2 g2 h2 f2 c1 c2 c3 c4 => tup2_mk (agg2_mk (asI_mk ?_))
 rw [n1] at h2 f2
 exact with_tail k (AHeap.le_trans l1 g2) (Nat.le_refl _) (o1.le g2) h2 f2 c1 c2 c3 c4
theorem drawReached_ok (hB : Byts H u l) (hl : l.length ≤ 4096) (k : DrwL H K) : AC Tryz.prog T0 56 [u] H K := by
 apply F56.ac
 unfold F56.B4
 refine newK_f rfl fun H1 l1 n1 o1 => ?_
 unfold F56.B3
 refine l01From_ok (hB.le l1) hl fun G1 g1 s1 => ?_
 have hs1 := s1.lt
 have hlt := o1.lt
 unfold F56.B2
 refine l01Small_ok s1 fun v2 n2 es2 G2 k2 s2 f2 g2 a0 a1 => agg2_mk (asI_mk (newK_f rfl fun G4 l4 n4 o4 => stK_f (new := [.int .i64 n2, v2]) o4 (by simp) (mem_iv (fresh_one f2)) rfl fun G5 b5 o5 => ?_))
 have l5 : G2.le G5 := b5.le l4 (Nat.le_refl _)
 have ob2 := k2.own (o1.le g1) (by omega)
 have hs2 := s2.lt
 have hgl := g2.len
 have h2 := f2.sl
 unfold F56.B1
 refine ldI_own o5 rfl (ld1_own o5 rfl (ldI_own o5 rfl (ld1_own o5 rfl (l02DrawOf_ok (s2.le l5) ((h2.le l5).less (by omega)) (by omega) fun v' l' G6 k6 s6 f6 hl6 hr => ?_))))
 have o6 := k6.own o5 (by omega)
 have hl5 := l5.1
 exact ⟨ldI_own o6 rfl (ld1_own o6 rfl ⟨rfl, rfl⟩), with_tail k (AHeap.le_trans l1 s6.1) (Nat.le_refl _) (k6.own (ob2.le l5) (by omega)) ((sl_kb ((h2.le l5).less (by omega)) k6).less (by omega)) (f6.less (by omega)) (by omega) (by omega) (by omega) (by omega)⟩
def DrwE (H : AHeap) (K : Value → AHeap → Prop) : Prop := ∀ v n es w l e c G, H.le G → Sl H.length G v 78 2 (LE es) → Fresh H.length G w 2 1 (LI l) → es.length ≤ 2000 → l.length ≤ 3000 → -2 ≤ n → n ≤ 202 → K (.tuple ⟨[.agg ⟨[.int .i64 n, v]⟩, w, .int .i64 e, .int .i64 c]⟩) G
theorem l02With_ok (hB : Byts H u l) (hl : l.length ≤ 4096) (k : DrwE H K) : AC Tryz.prog T0 125 [u] H K := by
 apply F125.ac
 unfold F125.B8
 refine newK_f rfl fun H1 l1 n1 o1 => ?_
 unfold F125.B7
 refine l01From_ok (hB.le l1) hl fun G1 g1 s1 => ?_
 have hs1 := s1.lt
 have hlt := o1.lt
 unfold F125.B6
 refine l01Spoil_ok s1 fun v2 n2 es2 G2 k2 s2 h2 c2 a0 a1 => agg2_mk (asI_mk (newK_f rfl fun G4 l4 n4 o4 => stK_f (new := [.int .i64 n2, v2]) o4 (by simp) (mem_iv (sl_one h2)) rfl fun G5 b5 o5 => ?_))
 have l5 : G2.le G5 := b5.le l4 (Nat.le_refl _)
 have ob2 := k2.own (o1.le g1) (by omega)
 have hs2 := s2.lt
 have hl5 := l5.1
 unfold F125.B5
 refine ldI_own o5 rfl (ld1_own o5 rfl (l02DrawOf_ok (s2.le l5) ((h2.le l5).less (by omega)) c2 fun v' l' G6 k6 s6 f6 hl6 hr => ?_))
 have o6 := k6.own o5 (by omega)
 have ob6 := k6.own (ob2.le l5) (by omega)
 have h6 : Sl (H1.length + 1) G6 v2 78 2 (LE es2) := sl_kb ((h2.le l5).less (by omega)) k6
 unfold F125.B4
 refine f6.ints.len (l01Next_ok s6 fun y G7 k7 s7 y0 y1 _ => asI_mk (l01Next_ok s7 fun e G8 k8 s8 e0 _ _ => asI_mk ?_))
 have f8 := fresh_kb (fresh_kb f6 k7 (by omega)) k8 (by omega)
 have k68 := k7.trans k8
 -- without a look
 have fin1 : ∀ G, Kb H1.length G6 G → Src H1 H1.length G → F125.B1 K H.length (.pointer (some ⟨H1.length, 0, none⟩)) G2.length v' e G := by
  intro G kG sG
  have oG := kG.own o6 (by omega)
  unfold F125.B1
  refine ldI_own oG rfl (ld1_own oG rfl (l01Next_ok sG fun c G9 k9 s9 c0 c1 _ => asI_mk ?_))
  have o9 := k9.own oG (by omega)
  have k69 := kG.trans k9
  refine ⟨ldI_own o9 rfl (ld1_own o9 rfl ⟨rfl, rfl⟩), ?_⟩
  have f9 := fresh_kb f6 k69 (by omega)
  exact put_graph (K := fun v G => K (.tuple ⟨[v, v', .int .i64 e, .int .i64 c]⟩) G) (k69.own ob6 (by omega)) (AHeap.le_trans l1 s9.1) (Nat.le_refl _) (sl_kb h6 k69) (by omega) fun G' b' lG eG => k v2 n2 es2 v' l' e c G' lG (eG.less (by omega)) ((f9.but b' (by omega)).less (by omega)) c2 (by omega) a0 a1
 unfold F125.B3
 refine f8.ints.len (pif_cases (fun hb => ?_) fun hb => fin1 G8 k68 s8)
 have hb := of_decide_eq_true hb
 refine l01Next_ok s8 fun z G9 k9 s9 z0 z1 _ => asI_mk (pif_cases (fun hz => ?_) fun hz => fin1 G9 (k68.trans k9) s9)
 have k69 := k68.trans k9
 have o9 := k69.own o6 (by omega)
 have ob9 := k69.own ob6 (by omega)
 obtain ⟨b, hbb, rfl, f9⟩ := fresh_row (fresh_kb f6 k69 (by omega)) (by omega)
 obtain ⟨e, rfl⟩ : ∃ e' : Nat, e = e' := ⟨e.toNat, by omega⟩
 unfold F125.B2
 refine ldI_own o9 rfl (ld1_own o9 rfl (own_idx (by omega) (by omega) (ldI_own f9 (by rw [Int.toNat_natCast]; exact LI_at (by omega)) (l01Next_ok s9 fun y' G10 k10 s10 y0' y1' _ => asI_mk ?_))))
 have o10 := k10.own o9 (by omega)
 have k610 := k69.trans k10
 have f10 := k10.own f9 (by omega)
 refine ⟨ldI_own o10 rfl (ld1_own o10 rfl ⟨rfl, rfl⟩), ldI_own f10 (by rw [Int.toNat_natCast]; exact LI_at (by omega)) ⟨rfl, rfl⟩, ?_⟩
 refine stK_f (new := [.int .i64 n2, v2]) (k10.own ob9 (by omega)) (by simp) (mem_iv (sl_one (sl_kb h6 k610))) rfl fun G11 b11 o11 => ?_
 have f11 := b11.own f10 (by omega)
 refine ⟨ldI_own f11 (by rw [Int.toNat_natCast]; exact LI_at (by omega)) ⟨rfl, rfl⟩, ldI_own o11 rfl (ld1_own o11 rfl ?_)⟩
 exact k v2 n2 es2 _ l' _ _ G11 (b11.le (AHeap.le_trans l1 s10.1) (Nat.le_refl _)) (((sl_kb h6 k610).but b11 (by omega)).less (by omega)) (.inr ⟨b, _, by omega, rfl, f11, by simp⟩) c2 (by omega) a0 a1
theorem drawExchange_ok (hB : Byts H u l) (hl : l.length ≤ 4096) (k : DrwE H K) : AC Tryz.prog T0 48 [u] H K := by
 apply F48.ac
 unfold F48.B2
 refine newK_f rfl fun H1 l1 n1 o1 => ?_
 unfold F48.B1
 refine l02With_ok (hB.le l1) hl fun v2 n2 es2 w2 l2 e c G2 g2 h2 f2 c1 c2 c3 c4 => tup4_mk (agg2_mk (asI_mk (asI_mk (asI_mk ?_))))
 rw [n1] at h2 f2
 exact put_graph (K := fun v G => K (.tuple ⟨[v, w2, .int .i64 e, .int .i64 c]⟩) G) (o1.le g2) (AHeap.le_trans l1 g2) (Nat.le_refl _) h2 (Nat.lt_succ_self _) fun G' b' lG eG => k v2 n2 es2 w2 l2 e c G' lG (eG.less (by omega)) ((f2.but b' (by omega)).less (by omega)) c1 c2 c3 c4
def DrwLL (H : AHeap) (K : Value → AHeap → Prop) : Prop := ∀ v n es w l x m G, H.le G → Sl H.length G v 78 2 (LE es) → Fresh H.length G w 2 1 (LI l) → Fresh H.length G x 2 1 (LI m) → es.length ≤ 2000 → l.length ≤ 3000 → m.length ≤ 100 → -2 ≤ n → n ≤ 202 → K (.tuple ⟨[.agg ⟨[.int .i64 n, v]⟩, w, x]⟩) G
theorem drawCutN_ok (hB : Byts H u l) (hl : l.length ≤ 4096) (k : DrwLL H K) : AC Tryz.prog T0 59 [u] H K := by
 apply F59.ac
 unfold F59.B13
 refine newK_f rfl fun H1 l1 n1 o1 => ?_
 unfold F59.B12
 refine l01From_ok (hB.le l1) hl fun G1 g1 s1 => ?_
 have hs1 := s1.lt
 have hlt := o1.lt
 unfold F59.B11
 refine l01Spoil_ok s1 fun v2 n2 es2 G2 k2 s2 h2 c2 a0 a1 => agg2_mk (asI_mk (newK_f rfl fun G4 l4 n4 o4 => stK_f (new := [.int .i64 n2, v2]) o4 (by simp) (mem_iv (sl_one h2)) rfl fun G5 b5 o5 => ?_))
 have l5 : G2.le G5 := b5.le l4 (Nat.le_refl _)
 have ob2 := k2.own (o1.le g1) (by omega)
 have hs2 := s2.lt
 have hl5 := l5.1
 unfold F59.B10
 refine ldI_own o5 rfl (ld1_own o5 rfl (l02DrawOf_ok (s2.le l5) ((h2.le l5).less (by omega)) c2 fun v' l' G6 k6 s6 f6 hl6 hr => newK_f rfl fun G7 l7 n7 p7 => ?_))
 have k57 : Kb H1.length G5 G6 := k6
 have s7 := s6.le l7
 have f7 := f6.le l7
 have o7 := k57.own o5 (by omega)
 have ob7 := k57.own (ob2.le l5) (by omega)
 have h7 : Sl (H1.length + 1) G6 v2 78 2 (LE es2) := sl_kb ((h2.le l5).less (by omega)) k57
 have hl57 := k57.len
 have hl67 := l7.1
 have hl56 := k6.len
 unfold F59.B9 F59.L4
 refine ⟨fun x2 x5 x6 x7 x8 x9 G => H.length = x2 ∧ .pointer (some ⟨H1.length, 0, none⟩) = x5 ∧ G2.length = x6 ∧ v' = x7 ∧ Kb H1.length G6 G ∧ Src H1 H1.length G ∧ Fresh G5.length G v' 2 1 (LI l') ∧ (∀ b, bk v' = some b → bk x8 ≠ some b) ∧ ∃ (i : Nat) (m : List Int), x9 = i ∧ i ≤ 20 ∧ m.length ≤ i ∧ Fresh G6.length G x8 2 1 (LI m), fun _ _ _ _ _ x9 _ => 20 - x9.toNat,
  ⟨rfl, rfl, rfl, rfl, .of_le l7, s7, f7, fun b hb hb' => ?_, 0, [], rfl, by omega, by simp, .inr ⟨_, 0, Nat.le_refl _, rfl, p7, rfl⟩⟩, ?_⟩
 ·have := (f6.bk_lt hb).2
  have : G6.length = b := Option.some.inj hb'
  omega
 rintro x2 x5 x6 x7 x8 x9 G ⟨rfl, rfl, rfl, rfl, kG, sG, fD, hne, i, m, rfl, hi, hm, hF⟩
 have oG := kG.own o7 (by omega)
 have hGl := kG.len
 unfold F59.B8
 refine ldI_own oG rfl (pif_cases (fun hb => ?_) fun hb => ?_)
 ·have hb := of_decide_eq_true hb
  have hlt : i < 20 := by
   by_cases hx : n2 < 0
   ·rw [if_pos (show 0 > n2 from hx)] at hb; simp at hb; omega
   ·rw [if_neg (show ¬ 0 > n2 by omega)] at hb
    split at hb <;> omega
  unfold F59.B7
  refine l01Next_ok sG fun r G8 k8 s8 r0 r1 _ => asI_mk (pif_cases (fun hr => ?_) fun hr => ?_)
  ·unfold F59.B6
   have hm8 : G6.length ≤ G8.length := by have := k8.len; omega
   have fD8 := fresh_kb fD k8 (by omega)
   have hF8 := fresh_kb hF k8 (by omega)
   refine hF8.sl.pushN E_int (by decide) hm8 (n := 1) (ys := [.int .i64 (i : Int)]) rfl rfl (by simp; omega) (by simp) fun v3 G9 k9 ot9 nb9 f9 => ?_
   unfold F59.B5
   rw [wrap_id (by omega) (by omega)]
   refine ⟨⟨rfl, rfl, rfl, rfl, (kG.trans k8).keep (k9.less (by omega)), s8.keep k9 (by omega), fresh_oth fD8 fun b o hb ho => ot9 b o (fun e => hne b hb e) ho, fun b hb hb' => by have := (fD8.bk_lt hb).2; have := nb9 b hb'; omega, i + 1, m ++ [(i : Int)], by omega, by omega, by simp; omega, by simpa using f9⟩, by simp; omega⟩
  ·unfold F59.B5
   rw [wrap_id (by omega) (by omega)]
   exact ⟨⟨rfl, rfl, rfl, rfl, kG.trans k8, s8, fresh_kb fD k8 (by omega), hne, i + 1, m, by omega, by omega, by omega, fresh_kb hF k8 (by omega)⟩, by simp; omega⟩
 ·have fin : ∀ G y m, Kb H1.length G6 G → Src H1 H1.length G → Fresh G5.length G v' 2 1 (LI l') → Fresh G6.length G y 2 1 (LI m) → m.length ≤ 100 → F59.B1 K H.length G2.length v' y G := by
   intro G y m kG sG fD hF hm
   have oG := kG.own o7 (by omega)
   unfold F59.B1
   refine ldI_own oG rfl (ld1_own oG rfl ?_)
   exact put_graph (K := fun v G => K (.tuple ⟨[v, v', y]⟩) G) (kG.own ob7 (by omega)) (AHeap.le_trans l1 sG.1) (Nat.le_refl _) (sl_kb h7 kG) (by omega) fun G' b' lG eG => k v2 n2 es2 v' l' y m G' lG (eG.less (by omega)) ((fD.but b' (by omega)).less (by omega)) ((hF.but b' (by omega)).less (by omega)) c2 (by omega) hm a0 a1
  unfold F59.B3
  refine l01Next_ok sG fun r G8 k8 s8 r0 r1 _ => asI_mk (pif_cases (fun hr => ?_) fun hr => fin G8 x8 m (kG.trans k8) s8 (fresh_kb fD k8 (by omega)) (fresh_kb hF k8 (by omega)) (by omega))
  unfold F59.B2
  refine newK_f rfl fun G9 l9 n9 o9 => ?_
  have hs8 := s8.lt
  refine l01Pick_ok (l := [0, 20, -1]) (s8.le l9) (own_ints (l := [0, 20, -1]) o9) (by simp) (by simp) (fun x hx => by simp at hx; omega) (fun G3 k3 => own_ints (l := [0, 20, -1]) (k3.own o9 (by omega))) fun r' G10 k10 s10 hr' => asI_mk ?_
  have kk := (k8.trans (.of_le l9)).trans k10
  have fD10 := fresh_kb fD kk (by omega)
  have hF10 := fresh_kb hF kk (by omega)
  have hm10 : G6.length ≤ G10.length := by have := kk.len; omega
  refine hF10.sl.pushN E_int (by decide) hm10 (n := 1) (ys := [.int .i64 r']) rfl rfl (by simp; omega) (by simp) fun v3 G11 k11 ot11 nb11 f11 => ?_
  exact fin G11 v3 (m ++ [r']) ((kG.trans kk).keep (k11.less (by omega))) (s10.keep k11 (by omega)) (fresh_oth fD10 fun b o hb ho => ot11 b o (fun e => hne b hb e) ho) (by simpa using f11) (by simp; omega)
end Go.Proofs
namespace Go.Proofs
open Go.Abs

variable {H G : AHeap} {v u f w : Value} {l m c D : List Int} {es fs : List (Int × Int)} {K : Value → AHeap → Prop} {n : Int}

def twoP (c : List Int) (a b : Int) (j : Nat) : Bool := c.getD j 0 == a || c.getD j 0 == b
theorem chP_two {e : Nat} {a b : Int} (h : c.getD e 0 = a) : chP c e b = twoP c a b := by
 funext j; unfold chP twoP; rw [h]
noncomputable def metA (es : List (Int × Int)) (c : List Int) (a b : Int) (k j : Nat) : Bool := @decide (∃ i, i < k ∧ i < es.length ∧ c.getD i 0 = a ∧ Rch (eAdj es (twoP c a b)) i j) (Classical.propDecidable _)
theorem metA_iff {a b : Int} {k j : Nat} : metA es c a b k j = true ↔ ∃ i, i < k ∧ i < es.length ∧ c.getD i 0 = a ∧ Rch (eAdj es (twoP c a b)) i j := by unfold metA; simp
noncomputable def numTo (es : List (Int × Int)) (c : List Int) (a b : Int) (k : Nat) : Nat := cn (fun i => c.getD i 0 == a && !metA es c a b i i) k
noncomputable def numN (es : List (Int × Int)) (c : List Int) (a b : Int) : Int := (numTo es c a b es.length : Nat)
theorem metA_zero {a b : Int} (j : Nat) : metA es c a b 0 j = false := by
 cases h : metA es c a b 0 j with
 | false => rfl
 | true => obtain ⟨i, h1, _⟩ := metA_iff.1 h; omega
theorem metA_same {a b : Int} {k : Nat} (h : c.getD k 0 ≠ a ∨ metA es c a b k k = true) (j : Nat) : metA es c a b (k + 1) j = metA es c a b k j := by
 rw [Bool.eq_iff_iff, metA_iff, metA_iff]
 constructor
 ·rintro ⟨i, h1, h2, h3, h4⟩
  by_cases e : i = k
  ·subst e
   rcases h with h | h
   ·exact absurd h3 h
   ·obtain ⟨q, g1, g2, g3, g4⟩ := metA_iff.1 h
    exact ⟨q, g1, g2, g3, g4.trans h4⟩
  ·exact ⟨i, by omega, h2, h3, h4⟩
 ·rintro ⟨i, h1, h2⟩; exact ⟨i, by omega, h2⟩
theorem metA_more {a b : Int} {k : Nat} (hk : k < es.length) (h : c.getD k 0 = a) (j : Nat) : metA es c a b (k + 1) j = true ↔ metA es c a b k j = true ∨ Rch (eAdj es (twoP c a b)) k j := by
 rw [metA_iff, metA_iff]
 constructor
 ·rintro ⟨i, h1, h2, h3, h4⟩
  by_cases e : i = k
  ·subst e; exact .inr h4
  ·exact .inl ⟨i, by omega, h2, h3, h4⟩
 ·rintro (⟨i, h1, h2⟩ | h1)
  ·exact ⟨i, by omega, h2⟩
  ·exact ⟨k, by omega, hk, h, h1⟩
theorem numTo_succ (a b : Int) (k : Nat) : numTo es c a b (k + 1) = numTo es c a b k + if (c.getD k 0 == a && !metA es c a b k k) then 1 else 0 := rfl
theorem numTo_le (a b : Int) : ∀ k, numTo es c a b k ≤ k
 | 0 => Nat.le_refl _
 | k + 1 => by have := numTo_le a b k; rw [numTo_succ]; split <;> omega
theorem numN_pos (hg : IsG n es) (hc : IsC es c) {a b : Int} (ha : 0 ≤ a ∧ a ≤ 2) : 1 ≤ numN es c a b := by
 have n0 := hg.ed.lo
 obtain ⟨i, h1, h2, _⟩ := col_some hg hc (w := 0) (by omega) ha
 have : ∃ q, q < es.length ∧ (c.getD q 0 == a && !metA es c a b q q) = true := by
  have key : ∀ q, q < es.length → c.getD q 0 = a → ∃ p, p < es.length ∧ (c.getD p 0 == a && !metA es c a b p p) = true := by
   intro q
   induction q using Nat.strongRecOn with
   | _ q ih =>
    intro hq hqa
    cases hm : metA es c a b q q with
    | false => exact ⟨q, hq, by rw [hqa, hm]; simp⟩
    | true =>
     obtain ⟨p, p1, p2, p3, _⟩ := metA_iff.1 hm
     exact ih p p1 p2 p3
  exact key i h1 h2
 obtain ⟨q, q1, q2⟩ := this
 have := cn_pos (f := fun i => c.getD i 0 == a && !metA es c a b i i) q2 q1
 unfold numN numTo
 omega
noncomputable def cnList (es : List (Int × Int)) (c : List Int) : List Int := [numN es c 0 1, numN es c 0 2, numN es c 1 2]
noncomputable def cnCode (n : Int) (es : List (Int × Int)) (c : List Int) : Int := if IsG n es then (if IsC es c then 0 else 2) else 1
noncomputable def cnVal (n : Int) (es : List (Int × Int)) (c : List Int) : List Int := if cnCode n es c = 0 then cnList es c else []
theorem cnCode_zero (h : cnCode n es c = 0) : IsG n es ∧ IsC es c := by
 unfold cnCode at h
 by_cases hg : IsG n es
 ·rw [if_pos hg] at h
  by_cases hs : IsC es c
  ·exact ⟨hg, hs⟩
  ·rw [if_neg hs] at h; cases h
 ·rw [if_neg hg] at h; cases h
def cpairs : List (Int × Int) := [(0, 1), (0, 2), (1, 2)]

theorem implNumbers_ok (h : Edges H v es) (hl : es.length ≤ 1048576) (hc : Ints H u c) (hcl : c.length ≤ 1048576)
    (k : ∀ v' G, H.le G → Fresh H.length G v' 2 1 (LI (cnVal n es c)) → K (.tuple ⟨[v', .int .i64 (cnCode n es c)]⟩) G) : AC Tryz.prog T0 54 [.agg ⟨[.int .i64 n, v]⟩, u] H K := by
  apply F54.ac
  unfold F54.B22
  refine newK_f (all_iv (edges_one' h)) fun H1 l1 n1' o1 => ?_
  unfold F54.B21
  refine ldI_own o1 rfl (ld1_own o1 rfl (ldI_own o1 rfl (ld1_own o1 rfl (isColouring_any (h.le l1) hl (hc.le l1) hcl fun H2 l2 => asB_mk ⟨l2, graphCode_ok (h.le (AHeap.le_trans l1 l2)) hl fun H3 l3 => asI_mk ?_⟩))))
  have l13 := AHeap.le_trans l1 (AHeap.le_trans l2 l3)
  have o3 := o1.le (AHeap.le_trans l2 l3)
  have e : (if IsG n es then (if decide (IsG n es ∧ IsC es c) = true then 0 else 2) else 1 : Int) = cnCode n es c := by
    unfold cnCode
    by_cases hg : IsG n es
    · rw [if_pos hg, if_pos hg]
      by_cases hcc : IsC es c
      · rw [if_pos (by simpa using ⟨hg, hcc⟩), if_pos hcc]
      · rw [if_neg (by simpa using fun _ => hcc), if_neg hcc]
    · rw [if_neg hg, if_neg hg]
  rw [e]
  unfold cnVal at k
  unfold F54.B20
  refine pif_cases (fun hs => ?_) fun hs => ?_
  · unfold F54.B19
    rw [if_neg (bne_iff_ne.1 hs)] at k
    exact k _ H3 l13 (.inl ⟨rfl, .inl rfl⟩)
  have h0 : cnCode n es c = 0 := bne_eq_false_iff_eq.1 hs
  obtain ⟨hg, hi⟩ := cnCode_zero h0
  rw [if_pos h0, h0] at k
  have h30 : es.length ≤ 30 := by have := hg.ed.len; have := hg.ed.hi; omega
  have hcl := hi.len
  unfold F54.B18 F54.B17
  refine newK_f rfl fun H4 l4 n4 o4 => ?_
  have l14 := AHeap.le_trans l13 l4
  have o14 := o3.le l4
  have hP : Edges H4 (.slice (some ⟨H3.length, 0, none⟩) 3 (3 + 1)) cpairs := Fresh.edges (m := 0) (e := 77) (.inr ⟨_, 3, Nat.zero_le _, rfl, o4, rfl⟩)
  unfold F54.L2
  refine ⟨fun x1 x2 x7 x25 x26 x27 G => u = x1 ∧ H.length = x2 ∧ .slice (some ⟨H3.length, 0, none⟩) 3 (3 + 1) = x25 ∧ 3 = x26 ∧ H4.le G ∧ ∃ i : Nat, x27 = i ∧ i ≤ 3 ∧ Fresh H4.length G x7 2 1 (LI ((cnList es c).take i)), fun _ _ _ _ _ x27 _ => 3 - x27.toNat, ⟨rfl, rfl, rfl, rfl, AHeap.le_refl _, 0, rfl, by omega, .inl ⟨rfl, .inl rfl⟩⟩, ?_⟩
  rintro x1 x2 x7 x25 x26 x27 G ⟨rfl, rfl, rfl, rfl, lG, i, rfl, hi3, hF⟩
  have l0G := AHeap.le_trans l14 lG
  have oG := o14.le lG
  unfold F54.B16
  refine pif_cases (fun hb => ?_) fun hb => ?_
  · have hlt : i < 3 := by have := of_decide_eq_true hb; omega
    obtain ⟨bb, oo, hk, q1, q2⟩ := (hP.le lG).idx (show (0 : Int) ≤ i by omega) (by simp [cpairs]; omega)
    simp only [Int.toNat_natCast] at q1 q2
    obtain ⟨a, ha⟩ : ∃ a, a = (cpairs.getD i (0, 0)).1 := ⟨_, rfl⟩
    obtain ⟨b, hb'⟩ : ∃ b, b = (cpairs.getD i (0, 0)).2 := ⟨_, rfl⟩
    rw [← ha] at q1; rw [← hb'] at q2
    have hab : (0 ≤ a ∧ a ≤ 2) ∧ (0 ≤ b ∧ b ≤ 2) ∧ (cnList es c).take (i + 1) = (cnList es c).take i ++ [numN es c a b] := by
      have : i = 0 ∨ i = 1 ∨ i = 2 := by omega
      rcases this with rfl | rfl | rfl <;> subst ha <;> subst hb' <;> exact ⟨by decide, by decide, rfl⟩
    obtain ⟨ra, rb, htake⟩ := hab
    unfold F54.B15
    refine hk _ (ldI_mk q1 (ldI_mk q2 (newK_f rfl fun G2 l2' n2 o2' => stK_f (new := [.int .i64 a, .int .i64 b]) o2' (by simp) (by simp [Value.oneCell']) rfl fun G3 b3 o3' => ?_)))
    have l3' : G.le G3 := b3.le l2' (Nat.le_refl _)
    unfold F54.B14 F54.B13 F54.B12
    refine (hc.le (AHeap.le_trans l0G l3')).len ?_
    unfold F54.L5
    refine ⟨fun x1 x2 y7 x9 x10 x11 x25 x26 x27 x31 x32 x33 G' => u = x1 ∧ H.length = x2 ∧ x7 = y7 ∧ G.length = x9 ∧ .slice (some ⟨H3.length, 0, none⟩) 3 (3 + 1) = x25 ∧ 3 = x26 ∧ (i : Int) = x27 ∧ u = x31 ∧ (c.length : Int) = x32 ∧ G3.le G' ∧ ∃ t z : Nat, x33 = t ∧ t ≤ es.length ∧ x11 = (numTo es c a b t : Nat) ∧ x10 = ((z : Nat) : Int) ∧ z < 2 ^ 64 ∧ ∀ j, z.testBit j = metA es c a b t j, fun _ _ _ _ _ _ _ _ _ _ _ x33 _ => es.length - x33.toNat,
      ⟨rfl, rfl, rfl, rfl, rfl, rfl, rfl, rfl, rfl, AHeap.le_refl _, 0, 0, rfl, by omega, rfl, rfl, by decide, fun j => by rw [Nat.zero_testBit, metA_zero]⟩, ?_⟩
    rintro x1 x2 y7 x9 x10 x11 x25 x26 x27 x31 x32 x33 G4 ⟨rfl, rfl, rfl, rfl, rfl, rfl, rfl, rfl, rfl, lG4, t, z, rfl, ht, rfl, rfl, hz, hzb⟩
    have l34 := AHeap.le_trans l3' lG4
    have l04 := AHeap.le_trans l0G l34
    have o4' := o3'.le lG4
    have hnt := numTo_le (es := es) (c := c) a b t
    unfold F54.B11
    refine pif_cases (fun hb => ?_) fun hb => ?_
    · have hlt2 : t < es.length := by have := of_decide_eq_true hb; omega
      unfold F54.B10
      refine (hc.le l04).rd (by omega) (by omega) ?_
      rw [Int.toNat_natCast]
      have skip : ∀ G5, G4.le G5 → (c.getD t 0 ≠ a ∨ metA es c a b t t = true) → F54.B6 K (fun z1 z2 z7 z25 z26 z27 G' => (u = z1 ∧ H.length = z2 ∧ .slice (some ⟨H3.length, 0, none⟩) 3 (3 + 1) = z25 ∧ 3 = z26 ∧ H4.le G' ∧ ∃ i : Nat, z27 = i ∧ i ≤ 3 ∧ Fresh H4.length G' z7 2 1 (LI ((cnList es c).take i))) ∧ 3 - z27.toNat < 3 - ((i : Nat) : Int).toNat)
          (fun z1 z2 z7 z9 z10 z11 z25 z26 z27 z31 z32 z33 G' => (u = z1 ∧ H.length = z2 ∧ x7 = z7 ∧ G.length = z9 ∧ .slice (some ⟨H3.length, 0, none⟩) 3 (3 + 1) = z25 ∧ 3 = z26 ∧ (i : Int) = z27 ∧ u = z31 ∧ (c.length : Int) = z32 ∧ G3.le G' ∧ ∃ t z : Nat, z33 = t ∧ t ≤ es.length ∧ z11 = (numTo es c a b t : Nat) ∧ z10 = ((z : Nat) : Int) ∧ z < 2 ^ 64 ∧ ∀ j, z.testBit j = metA es c a b t j) ∧ es.length - z33.toNat < es.length - ((t : Nat) : Int).toNat)
          u H.length x7 G.length (z : Nat) (numTo es c a b t : Nat) (.slice (some ⟨H3.length, 0, none⟩) 3 (3 + 1)) 3 i u (c.length : Nat) (t : Nat) G5 := by
        intro G5 l5 hsk
        unfold F54.B6
        rw [wrap_id (by omega) (by omega)]
        have hn : numTo es c a b (t + 1) = numTo es c a b t := by
          rw [numTo_succ, if_neg]; · rfl
          rw [Bool.and_eq_true, beq_iff_eq, Bool.not_eq_true']
          rintro ⟨h1, h2⟩
          rcases hsk with h | h
          · exact h h1
          · rw [h] at h2; cases h2
        exact ⟨⟨rfl, rfl, rfl, rfl, rfl, rfl, rfl, rfl, rfl, AHeap.le_trans lG4 l5, t + 1, z, by omega, by omega, by rw [hn], rfl, hz, fun j => by rw [hzb, metA_same hsk]⟩, by simp; omega⟩
      unfold F54.B9
      refine ldI_own o4' rfl (pif_cases (fun hc1 => ?_) fun hc1 => skip G4 (AHeap.le_refl _) (.inl fun e => by rw [e] at hc1; simp at hc1))
      have hca := beq_iff_eq.1 hc1
      refine has_ok hz (by omega) (asB_mk ?_)
      rw [Int.toNat_natCast, hzb]
      refine pif_cases (fun hm => ?_) fun hm => skip G4 (AHeap.le_refl _) (.inr (by simpa using hm))
      have hmf : metA es c a b t t = false := by simpa using hm
      unfold F54.B8
      refine ldI_own (oG.le l34) rfl (ld1_own (oG.le l34) rfl (ldI_own o4' rfl (chain_ok (h.le l04) hg (hc.le l04) hcl hlt2 fun s G5 l5 hs64 hslt hsr => asI_mk ?_)))
      rw [chP_two hca] at hsr
      rw [bits_or hz hs64]
      have hn : numTo es c a b (t + 1) = numTo es c a b t + 1 := by
        rw [numTo_succ, if_pos]
        rw [hca, hmf]; simp
      unfold F54.B7 F54.B6
      rw [wrap_id (by omega) (by omega), wrap_id (by omega) (by omega)]
      refine ⟨⟨rfl, rfl, rfl, rfl, rfl, rfl, rfl, rfl, rfl, AHeap.le_trans lG4 l5, t + 1, z ||| s, by omega, by omega, by omega, rfl, or_lt hz hs64, fun j => ?_⟩, by simp; omega⟩
      rw [Bool.eq_iff_iff, Nat.testBit_or, Bool.or_eq_true, hzb, hsr, metA_more hlt2 hca]
    · have hte : t = es.length := by have := of_decide_eq_false hb; omega
      subst hte
      have hF4 := hF.le l34
      have lG4' := AHeap.le_trans lG l34
      unfold F54.B4
      refine hF4.sl.pushN E_int (by decide) lG4'.1 (n := 1) (ys := [.int .i64 (numTo es c a b es.length : Nat)]) rfl rfl (by simp [cnList]; omega) (by simp) fun v3 G5 k5 _ _ f5 => ?_
      unfold F54.B3
      rw [wrap_id (by omega) (by omega)]
      refine ⟨⟨rfl, rfl, rfl, rfl, k5.le lG4' (Nat.le_refl _), i + 1, by omega, by omega, ?_⟩, by simp; omega⟩
      rw [htake]
      have e5 : LI ((cnList es c).take i) ++ [.int .i64 (numTo es c a b es.length : Nat)] = LI ((cnList es c).take i ++ [numN es c a b]) := by
        unfold LI numN; rw [List.map_append]; rfl
      rw [e5] at f5; exact f5
  · have hie : i = 3 := by have := of_decide_eq_false hb; omega
    subst hie
    unfold F54.B1
    exact k x7 G l0G (hF.less (by have := l14.1; omega))
theorem implIsCol_ok (h : Edges H v es) (hl : es.length ≤ 1048576) (hc : Ints H u c) (hcl : c.length ≤ 1048576) (k : ∀ G, H.le G → K (.tuple ⟨[.bool (decide (IsG n es ∧ IsC es c)), .int .i64 (if IsG n es then 0 else 1)]⟩) G) :
    AC Tryz.prog T0 63 [.agg ⟨[.int .i64 n, v]⟩, u] H K := by
  apply F63.ac
  unfold F63.B5
  refine newK_f (all_iv (edges_one' h)) fun H1 l1 n1' o1 => ?_
  unfold F63.B4
  refine ldI_own o1 rfl (ld1_own o1 rfl (graphCode_ok (h.le l1) hl fun H2 l2 => asI_mk ?_))
  have l12 := AHeap.le_trans l1 l2
  have o2 := o1.le l2
  simp only [if_true]
  unfold F63.B3
  by_cases hg : IsG n es
  · rw [if_pos hg] at k ⊢
    refine pif_f rfl ?_
    unfold F63.B1
    exact ldI_own o2 rfl (ld1_own o2 rfl (isColouring_any (h.le l12) hl (hc.le l12) hcl fun G lG => asB_mk (k G (AHeap.le_trans l12 lG))))
  · rw [if_neg hg] at k ⊢
    refine pif_t rfl ?_
    unfold F63.B2
    have k := k H2 l12
    rw [decide_eq_false (fun h : IsG n es ∧ IsC es c => hg h.1)] at k
    exact k
end Go.Proofs
namespace Go.Proofs
open Go.Abs

variable {H G : AHeap} {v u f w : Value} {l m c D : List Int} {es fs : List (Int × Int)} {K : Value → AHeap → Prop} {n : Int}

noncomputable def cuN (es : List (Int × Int)) (c l : List Int) (x : Int) : Nat := cn (fun j => leavB es l j && c.getD j 0 == x) es.length
noncomputable def cuList (es : List (Int × Int)) (c l : List Int) : List Int := [((cuN es c l 0 : Nat) : Int), ((cuN es c l 1 : Nat) : Int), ((cuN es c l 2 : Nat) : Int)]
noncomputable def cuCode (n : Int) (es : List (Int × Int)) (c l : List Int) : Int := if IsG n es then (if IsC es c then (if IsS l n then 0 else 2) else 2) else 1
noncomputable def cuVal (n : Int) (es : List (Int × Int)) (c l : List Int) : List Int := if cuCode n es c l = 0 then cuList es c l else []
theorem cuCode_zero (h : cuCode n es c l = 0) : IsG n es ∧ IsC es c ∧ IsS l n := by
 unfold cuCode at h
 by_cases hg : IsG n es
 ·rw [if_pos hg] at h
  by_cases hc : IsC es c
  ·rw [if_pos hc] at h
   by_cases hs : IsS l n
   ·exact ⟨hg, hc, hs⟩
   ·rw [if_neg hs] at h; cases h
  ·rw [if_neg hc] at h; cases h
 ·rw [if_neg hg] at h; cases h
theorem cnt_three {V : List Int} {f : Nat → Nat} (h : CntR V 3 f) : V = [((f 0 : Nat) : Int), ((f 1 : Nat) : Int), ((f 2 : Nat) : Int)] := by
 refine List.ext_getElem (by rw [h.len]; rfl) fun i h1 h2 => ?_
 have hi : i < 3 := by rw [← h.len]; exact h1
 have := h.at_ i hi
 rw [getD_of h1] at this
 have h3 : i = 0 ∨ i = 1 ∨ i = 2 := by omega
 rcases h3 with rfl | rfl | rfl <;> exact this
def cuTo (c L : List Int) (t w : Nat) : Nat := ((L.take t).filter fun i => c.getD i.toNat 0 == (w : Int)).length
theorem cuTo_succ {L : List Int} {t : Nat} (h : t < L.length) (w : Nat) : cuTo c L (t + 1) w = cuTo c L t w + if c.getD (L.getD t 0).toNat 0 = (w : Int) then 1 else 0 := by
 unfold cuTo
 rw [List.take_succ_eq_append_getElem h, List.filter_append, List.length_append, ← getD_of (d := 0) h]
 congr 1
 rw [List.filter_cons, List.filter_nil]
 by_cases e : c.getD (L.getD t 0).toNat 0 = (w : Int)
 ·rw [if_pos (beq_iff_eq.2 e), if_pos e]; rfl
 ·rw [if_neg (by simpa using e), if_neg e]; rfl
theorem cuTo_le (L : List Int) (t w : Nat) : cuTo c L t w ≤ t := by
 unfold cuTo
 exact Nat.le_trans (List.length_filter_le _ _) (by rw [List.length_take]; omega)
theorem cuTo_all (w : Nat) : cuTo c (leavL es l) (leavL es l).length w = cuN es c l w := by
 unfold cuTo cuN leavL
 rw [List.take_length, ← cn_filt, filtB_and]
theorem own_cnt {b : Nat} {V : List Int} (h : Own G b 2 (LI V)) (hl : V.length = 3) {m0 : Nat} (hb : m0 ≤ b) : Fresh m0 G (.slice (some ⟨b, 0, none⟩) 3 (3 + 1)) 2 1 (LI V) :=
 .inr ⟨b, 3, hb, rfl, h, by rw [List.length_map, hl]⟩

theorem implCutN_ok (h : Edges H v es) (hl : es.length ≤ 1048576) (hc : Ints H u c) (hcl : c.length ≤ 1048576) (hs : Ints H w l) (hsl : l.length ≤ 1048576)
    (k : ∀ v' G, H.le G → Fresh H.length G v' 2 1 (LI (cuVal n es c l)) → K (.tuple ⟨[v', .int .i64 (cuCode n es c l)]⟩) G) : AC Tryz.prog T0 60 [.agg ⟨[.int .i64 n, v]⟩, u, w] H K := by
  apply F60.ac
  unfold F60.B12
  refine newK_f (all_iv (edges_one' h)) fun H1 l1 n1' o1 => ?_
  unfold cuVal at k
  have code : ∀ G, H1.le G → F60.B10 K u w H.length (cuCode n es c l) G := by
    intro G lG
    have l0G := AHeap.le_trans l1 lG
    have oG := o1.le lG
    unfold F60.B10
    refine pif_cases (fun hb => ?_) fun hb => ?_
    · unfold F60.B9
      rw [if_neg (bne_iff_ne.1 hb)] at k
      exact k _ G l0G (.inl ⟨rfl, .inl rfl⟩)
    have h0 : cuCode n es c l = 0 := bne_eq_false_iff_eq.1 hb
    obtain ⟨hg, hi, hS⟩ := cuCode_zero h0
    rw [if_pos h0, h0] at k
    have n0 := hg.ed.lo; have n1 := hg.ed.hi
    have h30 : es.length ≤ 30 := by have := hg.ed.len; omega
    have hcl := hi.len
    unfold F60.B8
    refine mkR_int (by decide) (by decide) (by decide) fun G2 l2 n2 o2 => ?_
    rw [rep_one] at o2
    unfold F60.B7
    refine ldI_own (oG.le l2) rfl (ld1_own (oG.le l2) rfl (setOf_ok (hs.le (AHeap.le_trans l0G l2)) (by omega) (fun x hx => by have := hS.range x hx; omega) (asI_mk ⟨AHeap.le_refl _, leaving_ok (h.le (AHeap.le_trans l0G l2)) hg hS fun x30 G3 l3 f3 => ?_⟩)))
    have hll := leav_le es l
    have hmem : ∀ t, t < (leavL es l).length → ∃ q : Nat, (leavL es l).getD t 0 = q ∧ q < es.length := fun t ht => by
      obtain ⟨q, h1, h2, _⟩ := mem_filtB.1 (show (leavL es l)[t] ∈ filtB (leavB es l) es.length from List.getElem_mem ht)
      exact ⟨q, by rw [getD_of ht]; exact h1, h2⟩
    refine f3.ints.len ?_
    unfold F60.L2
    refine ⟨fun x1 x9 x30' x31 x32 G' => u = x1 ∧ .slice (some ⟨G.length, 0, none⟩) 3 (3 + 1) = x9 ∧ x30 = x30' ∧ ((leavL es l).length : Int) = x31 ∧ But G.length G3 G' ∧ ∃ (t : Nat) (V : List Int), x32 = t ∧ t ≤ (leavL es l).length ∧ Own G' G.length 2 (LI V) ∧ CntR V 3 (cuTo c (leavL es l) t), fun _ _ _ _ x32 _ => (leavL es l).length - x32.toNat,
      ⟨rfl, rfl, rfl, rfl, ⟨rfl, fun _ _ => rfl⟩, 0, _, rfl, by omega, o2.le l3, (CntR.zero 3).congr fun w _ => by unfold cuTo; simp⟩, ?_⟩
    rintro x1 x9 x30' x31 x32 G4 ⟨rfl, rfl, rfl, rfl, b4, t, V, rfl, ht, o4, hV⟩
    have lG4 : H.le G4 := b4.le (AHeap.le_trans l0G (AHeap.le_trans l2 l3)) l0G.1
    have f4 := f3.but b4 (by have := l2.1; omega)
    unfold F60.B6
    refine pif_cases (fun hb => ?_) fun hb => ?_
    · have hlt : t < (leavL es l).length := by have := of_decide_eq_true hb; omega
      obtain ⟨q, hq, hqe⟩ := hmem t hlt
      have hr := hi.get q
      unfold F60.B5
      refine f4.ints.rd (by omega) (by omega) ?_
      rw [Int.toNat_natCast, hq]
      obtain ⟨x, hx⟩ : ∃ x : Nat, c.getD q 0 = x := ⟨(c.getD q 0).toNat, by omega⟩
      unfold F60.B4
      refine (hc.le lG4).rd (by omega) (by omega) ?_
      rw [Int.toNat_natCast, hx]
      refine bump_row (N := 3) o4 hV.len (by omega) (by omega) (fun c' hc' => by have := hV.bnd (B := es.length) (fun w => Nat.le_trans (cuTo_le _ _ _) (by omega)) c' hc'; omega) fun G5 b5 o5 => ?_
      unfold F60.B3
      rw [wrap_id (by omega) (by omega)]
      refine ⟨⟨rfl, rfl, rfl, rfl, ⟨by rw [b5.len, b4.len], fun d hd => by rw [b5.same d hd, b4.same d hd]⟩, t + 1, _, by omega, by omega, o5, hV.bump (by omega) fun w => ?_⟩, by simp; omega⟩
      rw [cuTo_succ hlt, hq, Int.toNat_natCast, hx]
    · have hte : t = (leavL es l).length := by have := of_decide_eq_false hb; omega
      subst hte
      have hV2 := cnt_three hV
      rw [cuTo_all, cuTo_all, cuTo_all] at hV2
      unfold F60.B1
      refine k _ G4 lG4 (own_cnt (V := cuList es c l) ?_ rfl l0G.1)
      have : V = cuList es c l := hV2
      rw [← this]; exact o4
  unfold F60.B11
  refine ldI_own o1 rfl (ld1_own o1 rfl (ldI_own o1 rfl (ld1_own o1 rfl (isColouring_any (h.le l1) hl (hc.le l1) hcl fun H2 l2 => asB_mk ⟨l2, ?_⟩))))
  refine pif_cases (fun hb => ?_) fun hb => ?_
  · obtain ⟨hg, hi⟩ := of_decide_eq_true hb
    have n0 := hg.ed.lo; have n1 := hg.ed.hi
    refine ldI_own (o1.le l2) rfl (isSet_ok (hs.le (AHeap.le_trans l1 l2)) (by omega) (by omega) (by omega) (asB_mk ⟨AHeap.le_refl _, graphCode_ok (h.le (AHeap.le_trans l1 l2)) hl fun H3 l3 => asI_mk ?_⟩))
    have e : (if IsG n es then (if decide (IsS l n) = true then 0 else 2) else 1 : Int) = cuCode n es c l := by unfold cuCode; rw [if_pos hg, if_pos hg, if_pos hi]; simp
    rw [e]
    exact code H3 (AHeap.le_trans l2 l3)
  · have hn : ¬ (IsG n es ∧ IsC es c) := of_decide_eq_false hb
    refine graphCode_ok (h.le (AHeap.le_trans l1 l2)) hl fun H3 l3 => asI_mk ?_
    have e : (if IsG n es then (if (false : Bool) = true then 0 else 2) else 1 : Int) = cuCode n es c l := by
      unfold cuCode
      by_cases hg : IsG n es
      · rw [if_pos hg, if_pos hg, if_neg fun hc => hn ⟨hg, hc⟩]; rfl
      · rw [if_neg hg, if_neg hg]
    rw [e]
    exact code H3 (AHeap.le_trans l2 l3)

theorem specCutN_ok (h : Edges H v es) (hl : es.length ≤ 1048576) (hc : Ints H u c) (hcl : c.length ≤ 1048576) (hs : Ints H w l) (hsl : l.length ≤ 1048576)
    (k : ∀ v' G, H.le G → Fresh H.length G v' 2 1 (LI (cuVal n es c l)) → K (.tuple ⟨[v', .int .i64 (cuCode n es c l)]⟩) G) : AC Tryz.prog T0 61 [.agg ⟨[.int .i64 n, v]⟩, u, w] H K := by
  apply F61.ac
  unfold F61.B20
  refine newK_f (all_iv (edges_one' h)) fun H1 l1 n1' o1 => ?_
  unfold F61.B19
  refine ldI_own o1 rfl (ld1_own o1 rfl (pif_t (ints_one hc) (newK_f (by simp [ints_one hc]) fun H2 l2 n2 o2 => l02Code_ok (h.le (AHeap.le_trans l1 l2)) hl (hc.le (AHeap.le_trans l1 l2)) hcl o2 fun H3 l3 => asI_mk ?_)))
  have l03 := AHeap.le_trans l1 (AHeap.le_trans l2 l3)
  have o3 := o1.le (AHeap.le_trans l2 l3)
  unfold cuVal at k
  unfold F61.B18
  by_cases hg : IsG n es
  rotate_left
  · have e : cuCode n es c l = 1 := by unfold cuCode; rw [if_neg hg]
    rw [if_neg (by rw [e]; decide), e] at k
    rw [if_neg hg]
    refine pif_t rfl ?_
    unfold F61.B17
    exact k _ H3 l03 (.inl ⟨rfl, .inl rfl⟩)
  rw [if_pos hg]
  by_cases hi : IsC es c
  rotate_left
  · have e : cuCode n es c l = 2 := by unfold cuCode; rw [if_pos hg, if_neg hi]
    rw [if_neg (by rw [e]; decide), e] at k
    rw [if_neg hi]
    refine pif_t rfl ?_
    unfold F61.B17
    exact k _ H3 l03 (.inl ⟨rfl, .inl rfl⟩)
  rw [if_pos hi]
  refine pif_f rfl ?_
  have hcode : cuCode n es c l = if IsS l n then 0 else 2 := by unfold cuCode; rw [if_pos hg, if_pos hi]
  have n0 := hg.ed.lo; have n1 := hg.ed.hi
  have h30 : es.length ≤ 30 := by have := hg.ed.len; omega
  have hcl := hi.len
  unfold F61.B16
  refine ldI_own o3 rfl (mkR_int (by omega) (by omega) (by decide) fun H4 l4 n4 o4 => ?_)
  rw [rep_b] at o4
  have l04 := AHeap.le_trans l03 l4
  have o14 := o3.le l4
  have h3l := l03.1
  have h1lt := o3.lt
  unfold F61.B15 F61.L9
  refine ⟨fun x1 x2 x3 x9 x10 G => u = x1 ∧ w = x2 ∧ H.length = x3 ∧ .slice (some ⟨H3.length, 0, none⟩) n.toNat (n.toNat + 1) = x9 ∧ But H3.length H4 G ∧ ∃ (i : Nat) (S : List Bool), x10 = i ∧ i ≤ l.length ∧ S.length = n.toNat ∧ Own G H3.length 4 (LB S) ∧ (∀ j, j < n.toNat → (S.getD j false = true ↔ (j : Int) ∈ l.take i)) ∧ ∀ j : Nat, j < i → 0 ≤ l.getD j 0 ∧ l.getD j 0 ≤ n - 1 ∧ (0 < j → l.getD (j - 1) 0 < l.getD j 0), fun _ _ _ _ x10 _ => l.length - x10.toNat,
    ⟨rfl, rfl, rfl, rfl, ⟨rfl, fun _ _ => rfl⟩, 0, _, rfl, by omega, List.length_replicate, o4, fun j hj => by simp [List.getD, hj], fun j hj => absurd hj (by omega)⟩, ?_⟩
  rintro x1 x2 x3 x9 x10 G ⟨rfl, rfl, rfl, rfl, bG, i, S, rfl, hil, hSl, oS, hSS, hp⟩
  have lG : H.le G := bG.le l04 h3l
  have oG := bG.own o14 (by omega)
  have hsG := hs.le lG
  unfold F61.B14
  refine hsG.len (pif_cases (fun hb => ?_) fun hb => ?_)
  · have hlt : i < l.length := by have := of_decide_eq_true hb; omega
    have no : ¬ (0 ≤ l.getD i 0 ∧ l.getD i 0 ≤ n - 1 ∧ (0 < i → l.getD (i - 1) 0 < l.getD i 0)) → ∀ N, F61.B12 K N G := by
      intro hno N
      have e : cuCode n es c l = 2 := by rw [hcode, if_neg fun hs : IsS l n => hno (hs i hlt)]
      rw [if_neg (by rw [e]; decide), e] at k
      unfold F61.B12
      exact k _ G lG (.inl ⟨rfl, .inl rfl⟩)
    unfold F61.B13
    refine hsG.rd (by omega) (by omega) (ldI_own oG rfl ?_)
    rw [Int.toNat_natCast, wrap_id (by omega) (by omega)]
    refine l01In_ok (asB_mk (pif_cases (fun hc1 => ?_) fun hc1 => ?_))
    · rw [Bool.not_eq_true'] at hc1
      exact no (fun hy => of_decide_eq_false hc1 ⟨hy.1, hy.2.1⟩) _
    rw [Bool.not_eq_false'] at hc1
    have hin := of_decide_eq_true hc1
    have put : (0 < i → l.getD (i - 1) 0 < l.getD i 0) → F61.B11 K (fun z1 z2 z3 z9 z10 G' => (u = z1 ∧ w = z2 ∧ H.length = z3 ∧ .slice (some ⟨H3.length, 0, none⟩) n.toNat (n.toNat + 1) = z9 ∧ But H3.length H4 G' ∧ ∃ (i : Nat) (S : List Bool), z10 = i ∧ i ≤ l.length ∧ S.length = n.toNat ∧ Own G' H3.length 4 (LB S) ∧ (∀ j, j < n.toNat → (S.getD j false = true ↔ (j : Int) ∈ l.take i)) ∧ ∀ j : Nat, j < i → 0 ≤ l.getD j 0 ∧ l.getD j 0 ≤ n - 1 ∧ (0 < j → l.getD (j - 1) 0 < l.getD j 0)) ∧ l.length - z10.toNat < l.length - ((i : Nat) : Int).toNat)
        u w H.length (.slice (some ⟨H3.length, 0, none⟩) n.toNat (n.toNat + 1)) i G := by
      intro hasc
      obtain ⟨x, hxe⟩ : ∃ x : Nat, l.getD i 0 = x := ⟨(l.getD i 0).toNat, by omega⟩
      have hxn : x < n.toNat := by omega
      unfold F61.B11
      refine hsG.rd (by omega) (by omega) ?_
      rw [Int.toNat_natCast, hxe]
      refine own_idx (by omega) (by omega) (stK_1 oS (by simp; omega) rfl fun G2 b2 p2 => ?_)
      rw [Int.toNat_natCast] at p2
      have p2 : Own G2 H3.length 4 (LB (S.set x true)) := by simpa using p2
      unfold F61.B10
      rw [wrap_id (by omega) (by omega)]
      refine ⟨⟨rfl, rfl, rfl, rfl, ⟨by rw [b2.len, bG.len], fun d hd => by rw [b2.same d hd, bG.same d hd]⟩, i + 1, _, by omega, by omega, by simp [hSl], p2, fun j hj => ?_, fun j hj => ?_⟩, by simp; omega⟩
      · rw [setB (by omega), insB, Bool.or_eq_true, hSS j hj, decide_eq_true_iff, List.take_succ_eq_append_getElem hlt, List.mem_append, List.mem_singleton, ← getD_of (d := 0) hlt, hxe]
        exact or_congr Iff.rfl ⟨fun e => by omega, fun e => by omega⟩
      · by_cases e : j = i
        · subst e; exact ⟨hin.1, hin.2, hasc⟩
        · exact hp j (by omega)
    refine pif_cases (fun hc2 => ?_) fun hc2 => put fun h0 => by have := of_decide_eq_false hc2; omega
    have hi0 : 0 < i := by have := of_decide_eq_true hc2; omega
    rw [wrap_id (x := (i : Int) - 1) (by omega) (by omega)]
    refine hsG.rd (by omega) (by omega) (hsG.rd (by omega) (by omega) ?_)
    rw [show ((i : Int) - 1).toNat = i - 1 by omega, Int.toNat_natCast]
    refine pif_cases (fun hd => ?_) fun hd => put fun _ => by have := of_decide_eq_false hd; omega
    exact no (fun hy => by have := of_decide_eq_true hd; have := hy.2.2 hi0; omega) _
  have hie : i = l.length := by have := of_decide_eq_false hb; omega
  subst hie
  have hS : IsS l n := fun j hj => hp j hj
  have h0 : cuCode n es c l = 0 := by rw [hcode, if_pos hS]
  rw [if_pos h0, h0] at k
  have hSb : ∀ j, j < n.toNat → S.getD j false = bitB l j := fun j hj => by
    have := hSS j hj
    rw [List.take_length] at this
    rw [Bool.eq_iff_iff, this, bitB_mem hS]
  have hrange := isG_ends hg
  unfold F61.B8
  refine mkR_int (by decide) (by decide) (by decide) fun G2 l2 n2 o2 => ?_
  rw [rep_one] at o2
  have oS2 := oS.le l2
  have oG2 := oG.le l2
  have hGlt := oS.lt
  have hGlt2 := oG.lt
  unfold F61.B7 F61.L2
  refine ⟨fun x1 x3 x9 x11 x12 G' => u = x1 ∧ H.length = x3 ∧ .slice (some ⟨H3.length, 0, none⟩) n.toNat (n.toNat + 1) = x9 ∧ .slice (some ⟨G.length, 0, none⟩) 3 (3 + 1) = x11 ∧ But G.length G2 G' ∧ ∃ (t : Nat) (V : List Int), x12 = t ∧ t ≤ es.length ∧ Own G' G.length 2 (LI V) ∧ CntR V 3 (fun w => cn (fun j => leavB es l j && c.getD j 0 == (w : Int)) t), fun _ _ _ _ x12 _ => es.length - x12.toNat,
    ⟨rfl, rfl, rfl, rfl, ⟨rfl, fun _ _ => rfl⟩, 0, _, rfl, by omega, o2, (CntR.zero 3).congr fun w _ => rfl⟩, ?_⟩
  rintro x1 x3 x9 x11 x12 G4 ⟨rfl, rfl, rfl, rfl, b4, t, V, rfl, ht, o4', hV⟩
  have lG4 : H.le G4 := b4.le (AHeap.le_trans lG l2) lG.1
  have oS4 := b4.own oS2 (by omega)
  have oG4 := b4.own oG2 (by omega)
  unfold F61.B6
  refine (hc.le lG4).len (pif_cases (fun hb => ?_) fun hb => ?_)
  · have hlt : t < es.length := by have := of_decide_eq_true hb; omega
    have hm : es.getD t (0, 0) ∈ es := by rw [getD_of hlt]; exact List.getElem_mem _
    have hre := hrange _ hm
    obtain ⟨bb, oo, hk, q1, q2⟩ := (h.le lG4).idx (show (0 : Int) ≤ t by omega) (by omega)
    simp only [Int.toNat_natCast] at q1 q2
    have hb1 := hSb (es.getD t (0, 0)).1.toNat (by omega)
    have hb2 := hSb (es.getD t (0, 0)).2.toNat (by omega)
    have hr := hi.get t
    obtain ⟨x, hx⟩ : ∃ x : Nat, c.getD t 0 = x := ⟨(c.getD t 0).toNat, by omega⟩
    unfold F61.B5
    refine ld1_own oG4 rfl (hk _ (ldI_mk q1 (own_idx (by omega) (by omega) (ld1_own oS4 (LB_get (by omega)) (asB_mk (ld1_own oG4 rfl (hk _ (ldI_mk q2 (own_idx (by omega) (by omega) (ld1_own oS4 (LB_get (by omega)) (asB_mk ?_)))))))))))
    rw [hb1, hb2]
    refine pif_cases (fun hc1 => ?_) fun hc1 => ?_
    · have hlv : leavB es l t = true := hc1
      unfold F61.B4
      refine (hc.le lG4).rd (by omega) (by omega) ?_
      rw [Int.toNat_natCast, hx]
      refine bump_row (N := 3) o4' hV.len (by omega) (by omega) (fun c' hc' => by have := hV.bnd (B := es.length) (fun w => Nat.le_trans (cn_bound _ _) ht) c' hc'; omega) fun G5 b5 o5 => ?_
      unfold F61.B3
      rw [wrap_id (by omega) (by omega)]
      refine ⟨⟨rfl, rfl, rfl, rfl, ⟨by rw [b5.len, b4.len], fun d hd => by rw [b5.same d hd, b4.same d hd]⟩, t + 1, _, by omega, by omega, o5, hV.bump (by omega) fun w => ?_⟩, by simp; omega⟩
      rw [cn, hlv, hx, Bool.true_and]
      by_cases e : (x : Int) = (w : Int)
      · rw [if_pos (beq_iff_eq.2 e), if_pos e]
      · rw [if_neg (by simpa using e), if_neg e]
    · have hlv : leavB es l t = false := hc1
      unfold F61.B3
      rw [wrap_id (by omega) (by omega)]
      refine ⟨⟨rfl, rfl, rfl, rfl, b4, t + 1, V, by omega, by omega, o4', hV.congr fun w _ => ?_⟩, by simp; omega⟩
      rw [cn, hlv]; rfl
  · have hte : t = es.length := by have := of_decide_eq_false hb; omega
    subst hte
    have hV2 := cnt_three hV
    unfold F61.B1
    refine k _ G4 lG4 (own_cnt (V := cuList es c l) ?_ rfl lG.1)
    have : V = cuList es c l := hV2
    rw [← this]; exact o4'
end Go.Proofs
namespace Go.Proofs
open Go.Abs

variable {H G : AHeap} {v u f w : Value} {l m c D : List Int} {es fs : List (Int × Int)} {K : Value → AHeap → Prop} {n : Int}

noncomputable def cnDone (es : List (Int × Int)) (c : List Int) (a b : Nat) : List Int := (cpairs.filter fun p => decide (p.1 < (a : Int) ∨ p.1 = (a : Int) ∧ p.2 < (b : Int))).map fun p => numN es c p.1 p.2
theorem cnDone_next {a b : Nat} (ha : a < b) (hb : b < 3) : cnDone es c a (b + 1) = cnDone es c a b ++ [numN es c a b] := by
 have : (a = 0 ∧ b = 1) ∨ (a = 0 ∧ b = 2) ∨ (a = 1 ∧ b = 2) := by omega
 rcases this with ⟨rfl, rfl⟩ | ⟨rfl, rfl⟩ | ⟨rfl, rfl⟩ <;> rfl
theorem cnDone_up {a : Nat} (ha : a < 3) : cnDone es c a 3 = cnDone es c (a + 1) (a + 2) := by
 have : a = 0 ∨ a = 1 ∨ a = 2 := by omega
 rcases this with rfl | rfl | rfl <;> rfl
theorem cnDone_all : cnDone es c 3 4 = cnList es c := rfl
theorem cnDone_len (a b : Nat) : (cnDone es c a b).length ≤ 3 := by
 unfold cnDone
 rw [List.length_map]
 exact Nat.le_trans (List.length_filter_le _ _) (by decide)

theorem specNumbers_ok (h : Edges H v es) (hl : es.length ≤ 1048576) (hc : Ints H u c) (hcl : c.length ≤ 1048576)
    (k : ∀ v' G, H.le G → Fresh H.length G v' 2 1 (LI (cnVal n es c)) → K (.tuple ⟨[v', .int .i64 (cnCode n es c)]⟩) G) : AC Tryz.prog T0 55 [.agg ⟨[.int .i64 n, v]⟩, u] H K := by
  apply F55.ac
  unfold F55.B28
  refine newK_f (all_iv (edges_one' h)) fun H1 l1 n1' o1 => ?_
  unfold F55.B27
  refine ldI_own o1 rfl (ld1_own o1 rfl (pif_t (ints_one hc) (newK_f (by simp [ints_one hc]) fun H2 l2 n2 o2 => l02Code_ok (h.le (AHeap.le_trans l1 l2)) hl (hc.le (AHeap.le_trans l1 l2)) hcl o2 fun H3 l3 => asI_mk ?_)))
  have l13 := AHeap.le_trans l1 (AHeap.le_trans l2 l3)
  have o3 := o1.le (AHeap.le_trans l2 l3)
  rw [show (if IsG n es then (if IsC es c then 0 else 2) else 1 : Int) = cnCode n es c from rfl]
  unfold cnVal at k
  unfold F55.B26
  refine pif_cases (fun hs => ?_) fun hs => ?_
  · unfold F55.B25
    rw [if_neg (bne_iff_ne.1 hs)] at k
    exact k _ H3 l13 (.inl ⟨rfl, .inl rfl⟩)
  have h0 : cnCode n es c = 0 := bne_eq_false_iff_eq.1 hs
  obtain ⟨hg, hi⟩ := cnCode_zero h0
  rw [if_pos h0, h0] at k
  have h30 : es.length ≤ 30 := by have := hg.ed.len; have := hg.ed.hi; omega
  have hcl := hi.len
  unfold F55.B24
  refine newK_f rfl fun H4 l4 n4 o4 => ?_
  have l14 := AHeap.le_trans l13 l4
  have o14 := o3.le l4
  have hl13 := l13.1
  unfold F55.B23 F55.L2
  refine ⟨fun x1 x2 x7 x8 G => u = x1 ∧ H.length = x2 ∧ H3.le G ∧ ∃ a : Nat, x8 = a ∧ a ≤ 3 ∧ Fresh H3.length G x7 2 1 (LI (cnDone es c a (a + 1))), fun _ _ _ x8 _ => 3 - x8.toNat, ⟨rfl, rfl, l4, 0, rfl, by omega, .inr ⟨_, 0, Nat.le_refl _, rfl, o4, rfl⟩⟩, ?_⟩
  rintro x1 x2 x7 x8 G ⟨rfl, rfl, lG, a, rfl, ha, hF⟩
  unfold F55.B22
  refine pif_cases (fun hb => ?_) fun hb => ?_
  rotate_left
  · have hae : a = 3 := by have := of_decide_eq_false hb; omega
    subst hae
    unfold F55.B1
    rw [cnDone_all] at hF
    exact k x7 G (AHeap.le_trans l13 lG) (hF.less hl13)
  have ha3 : a < 3 := by have := of_decide_eq_true hb; omega
  unfold F55.B21
  rw [wrap_id (by omega) (by omega)]
  unfold F55.L4
  refine ⟨fun x1 x2 x7 x8 x9 G => u = x1 ∧ H.length = x2 ∧ (a : Int) = x8 ∧ H3.le G ∧ ∃ b : Nat, x9 = b ∧ a < b ∧ b ≤ 3 ∧ Fresh H3.length G x7 2 1 (LI (cnDone es c a b)), fun _ _ _ _ x9 _ => 3 - x9.toNat, ⟨rfl, rfl, rfl, lG, a + 1, by omega, by omega, by omega, hF⟩, ?_⟩
  clear hF lG
  rintro x1 x2 x7 x8 x9 G ⟨rfl, rfl, rfl, lG, b, rfl, hab, hb3, hF⟩
  unfold F55.B20
  refine pif_cases (fun hb => ?_) fun hb => ?_
  rotate_left
  · have hbe : b = 3 := by have := of_decide_eq_false hb; omega
    subst hbe
    unfold F55.B3
    rw [wrap_id (by omega) (by omega)]
    refine ⟨⟨rfl, rfl, lG, a + 1, by omega, by omega, ?_⟩, by simp; omega⟩
    rw [cnDone_up ha3] at hF; exact hF
  have hb2 : b < 3 := by have := of_decide_eq_true hb; omega
  have l0G := AHeap.le_trans l13 lG
  unfold F55.B19
  refine (hc.le l0G).len (mkR_int (by omega) (by omega) (by decide) fun G2 l2' n2' o2' => ?_)
  rw [rep_b, Int.toNat_natCast] at o2'
  have hGl := lG.1
  unfold F55.B18 F55.L7
  refine ⟨fun x1 x2 y7 x8 x9 x10 x11 x12 G' => u = x1 ∧ H.length = x2 ∧ x7 = y7 ∧ (a : Int) = x8 ∧ (b : Int) = x9 ∧ .slice (some ⟨G.length, 0, none⟩) c.length (c.length + 1) = x10 ∧ G.le G' ∧ ∃ (t : Nat) (S : List Bool), x12 = t ∧ t ≤ es.length ∧ x11 = (numTo es c a b t : Nat) ∧ S.length = c.length ∧ Own G' G.length 4 (LB S) ∧ ∀ j, j < es.length → S.getD j false = metA es c a b t j, fun _ _ _ _ _ _ _ x12 _ => es.length - x12.toNat,
    ⟨rfl, rfl, rfl, rfl, rfl, by rw [Int.toNat_natCast], l2', 0, _, rfl, by omega, rfl, List.length_replicate, o2', fun j hj => by rw [metA_zero]; simp [List.getD, show j < c.length by omega]⟩, ?_⟩
  rintro x1 x2 y7 x8 x9 x10 x11 x12 G4 ⟨rfl, rfl, rfl, rfl, rfl, rfl, lG4, t, S, rfl, ht, rfl, hSl, oS, hSm⟩
  have l04 := AHeap.le_trans l0G lG4
  have l34 := AHeap.le_trans lG lG4
  have o4' := o3.le l34
  have hnt := numTo_le (es := es) (c := c) (a : Int) (b : Int) t
  unfold F55.B17
  refine (hc.le l04).len (pif_cases (fun hb => ?_) fun hb => ?_)
  · have hlt2 : t < es.length := by have := of_decide_eq_true hb; omega
    have skip : (c.getD t 0 ≠ (a : Int) ∨ metA es c a b t t = true) → F55.B8 K (fun z1 z2 z7 z8 G' => (u = z1 ∧ H.length = z2 ∧ H3.le G' ∧ ∃ a : Nat, z8 = a ∧ a ≤ 3 ∧ Fresh H3.length G' z7 2 1 (LI (cnDone es c a (a + 1)))) ∧ 3 - z8.toNat < 3 - ((a : Nat) : Int).toNat)
        (fun z1 z2 z7 z8 z9 G' => (u = z1 ∧ H.length = z2 ∧ (a : Int) = z8 ∧ H3.le G' ∧ ∃ b : Nat, z9 = b ∧ a < b ∧ b ≤ 3 ∧ Fresh H3.length G' z7 2 1 (LI (cnDone es c a b))) ∧ 3 - z9.toNat < 3 - ((b : Nat) : Int).toNat)
        (fun z1 z2 z7 z8 z9 z10 z11 z12 G' => (u = z1 ∧ H.length = z2 ∧ x7 = z7 ∧ (a : Int) = z8 ∧ (b : Int) = z9 ∧ .slice (some ⟨G.length, 0, none⟩) c.length (c.length + 1) = z10 ∧ G.le G' ∧ ∃ (t : Nat) (S : List Bool), z12 = t ∧ t ≤ es.length ∧ z11 = (numTo es c a b t : Nat) ∧ S.length = c.length ∧ Own G' G.length 4 (LB S) ∧ ∀ j, j < es.length → S.getD j false = metA es c a b t j) ∧ es.length - z12.toNat < es.length - ((t : Nat) : Int).toNat)
        u H.length x7 a b (.slice (some ⟨G.length, 0, none⟩) c.length (c.length + 1)) (numTo es c a b t : Nat) (t : Nat) G4 := by
      intro hsk
      unfold F55.B8
      rw [wrap_id (by omega) (by omega)]
      have hn : numTo es c a b (t + 1) = numTo es c a b t := by
        rw [numTo_succ, if_neg]; · rfl
        rw [Bool.and_eq_true, beq_iff_eq, Bool.not_eq_true']
        rintro ⟨h1, h2⟩
        rcases hsk with h | h
        · exact h h1
        · rw [h] at h2; cases h2
      exact ⟨⟨rfl, rfl, rfl, rfl, rfl, rfl, lG4, t + 1, S, by omega, by omega, by rw [hn], hSl, oS, fun j hj => by rw [hSm j hj, metA_same hsk]⟩, by simp; omega⟩
    unfold F55.B16
    refine (hc.le l04).rd (by omega) (by omega) ?_
    rw [Int.toNat_natCast]
    refine pif_cases (fun hc1 => skip (.inl (bne_iff_ne.1 hc1))) fun hc1 => ?_
    have hca : c.getD t 0 = (a : Int) := bne_eq_false_iff_eq.1 hc1
    refine own_idx (by omega) (by omega) (ld1_own oS (LB_get (by omega)) (asB_mk ?_))
    rw [Int.toNat_natCast, hSm t hlt2]
    refine pif_cases (fun hm => skip (.inr hm)) fun hm => ?_
    have hn : numTo es c a b (t + 1) = numTo es c a b t + 1 := by
      rw [numTo_succ, if_pos]
      rw [hca, hm]; simp
    unfold F55.B15
    rw [wrap_id (by omega) (by omega)]
    unfold F55.B14
    refine ldI_own o4' rfl (ld1_own o4' rfl (l02Chain_ok (h.le l04) hg (hc.le l04) hcl hlt2 fun b0 S2 G5 l5 oS2 hb0 hS2l hS2 => ?_))
    rw [chP_two hca] at hS2
    have oS5 := oS.le l5
    have hltS := oS.lt
    unfold F55.B13 F55.L9
    refine ⟨fun x1 x2 y7 x8 x9 x10 x11 x12 x13 x14 G' => u = x1 ∧ H.length = x2 ∧ x7 = y7 ∧ (a : Int) = x8 ∧ (b : Int) = x9 ∧ .slice (some ⟨G.length, 0, none⟩) c.length (c.length + 1) = x10 ∧ ((numTo es c a b (t + 1) : Nat) : Int) = x11 ∧ (t : Int) = x12 ∧ .slice (some ⟨b0, 0, none⟩) es.length (es.length + 1) = x13 ∧ But G.length G5 G' ∧ ∃ (q : Nat) (Z : List Bool), x14 = q ∧ q ≤ es.length ∧ Z.length = c.length ∧ Own G' G.length 4 (LB Z) ∧ ∀ j, j < es.length → Z.getD j false = (if j < q then metA es c a b (t + 1) j else metA es c a b t j), fun _ _ _ _ _ _ _ _ _ x14 _ => es.length - x14.toNat,
      ⟨rfl, rfl, rfl, rfl, rfl, rfl, by rw [hn]; omega, rfl, rfl, ⟨rfl, fun _ _ => rfl⟩, 0, S, rfl, by omega, hSl, oS5, fun j hj => by rw [if_neg (by omega)]; exact hSm j hj⟩, ?_⟩
    rintro x1 x2 y7 x8 x9 x10 x11 x12 x13 x14 G6 ⟨rfl, rfl, rfl, rfl, rfl, rfl, rfl, rfl, rfl, b6, q, Z, rfl, hq, hZl, oZ, hZ⟩
    have lG6 : G.le G6 := b6.le (AHeap.le_trans lG4 l5) (Nat.le_refl _)
    have l06 := AHeap.le_trans l0G lG6
    have o6 := b6.own oS2 (by omega)
    unfold F55.B12
    refine (hc.le l06).len (pif_cases (fun hb => ?_) fun hb => ?_)
    · have hlt3 : q < es.length := by have := of_decide_eq_true hb; omega
      have more : metA es c a b (t + 1) q = (metA es c a b t q || S2.getD q false) := by
        rw [Bool.eq_iff_iff, Bool.or_eq_true, metA_more hlt2 hca, hS2]
      have hZq := hZ q hlt3
      rw [if_neg (by omega)] at hZq
      have upd : ∀ y G7, y = metA es c a b (t + 1) q → But G.length G6 G7 → Own G7 G.length 4 (LB (Z.set q y)) → F55.B10 K (fun z1 z2 z7 z8 G' => (u = z1 ∧ H.length = z2 ∧ H3.le G' ∧ ∃ a : Nat, z8 = a ∧ a ≤ 3 ∧ Fresh H3.length G' z7 2 1 (LI (cnDone es c a (a + 1)))) ∧ 3 - z8.toNat < 3 - ((a : Nat) : Int).toNat)
          (fun z1 z2 z7 z8 z9 G' => (u = z1 ∧ H.length = z2 ∧ (a : Int) = z8 ∧ H3.le G' ∧ ∃ b : Nat, z9 = b ∧ a < b ∧ b ≤ 3 ∧ Fresh H3.length G' z7 2 1 (LI (cnDone es c a b))) ∧ 3 - z9.toNat < 3 - ((b : Nat) : Int).toNat)
          (fun z1 z2 z7 z8 z9 z10 z11 z12 G' => (u = z1 ∧ H.length = z2 ∧ x7 = z7 ∧ (a : Int) = z8 ∧ (b : Int) = z9 ∧ .slice (some ⟨G.length, 0, none⟩) c.length (c.length + 1) = z10 ∧ G.le G' ∧ ∃ (t : Nat) (S : List Bool), z12 = t ∧ t ≤ es.length ∧ z11 = (numTo es c a b t : Nat) ∧ S.length = c.length ∧ Own G' G.length 4 (LB S) ∧ ∀ j, j < es.length → S.getD j false = metA es c a b t j) ∧ es.length - z12.toNat < es.length - ((t : Nat) : Int).toNat)
          (fun z1 z2 z7 z8 z9 z10 z11 z12 z13 z14 G' => (u = z1 ∧ H.length = z2 ∧ x7 = z7 ∧ (a : Int) = z8 ∧ (b : Int) = z9 ∧ .slice (some ⟨G.length, 0, none⟩) c.length (c.length + 1) = z10 ∧ ((numTo es c a b (t + 1) : Nat) : Int) = z11 ∧ (t : Int) = z12 ∧ .slice (some ⟨b0, 0, none⟩) es.length (es.length + 1) = z13 ∧ But G.length G5 G' ∧ ∃ (q : Nat) (Z : List Bool), z14 = q ∧ q ≤ es.length ∧ Z.length = c.length ∧ Own G' G.length 4 (LB Z) ∧ ∀ j, j < es.length → Z.getD j false = (if j < q then metA es c a b (t + 1) j else metA es c a b t j)) ∧ es.length - z14.toNat < es.length - ((q : Nat) : Int).toNat)
          u H.length x7 a b (.slice (some ⟨G.length, 0, none⟩) c.length (c.length + 1)) (numTo es c a b (t + 1) : Nat) (t : Nat) (.slice (some ⟨b0, 0, none⟩) es.length (es.length + 1)) (q : Nat) G7 := by
        intro y G7 hy b7 o7
        unfold F55.B10
        rw [wrap_id (by omega) (by omega)]
        refine ⟨⟨rfl, rfl, rfl, rfl, rfl, rfl, rfl, rfl, rfl, ⟨by rw [b7.len, b6.len], fun d hd => by rw [b7.same d hd, b6.same d hd]⟩, q + 1, _, by omega, by omega, by simp [hZl], o7, fun j hj => ?_⟩, by simp; omega⟩
        by_cases e : q = j
        · subst e
          rw [if_pos (by omega), List.getD, List.getElem?_set_self (by omega)]
          exact hy
        · rw [List.getD, List.getElem?_set_ne e, ← List.getD, hZ j hj]
          by_cases e2 : j < q
          · rw [if_pos e2, if_pos (by omega)]
          · rw [if_neg e2, if_neg (by omega)]
      unfold F55.B11
      refine own_idx (by omega) (by omega) (ld1_own oZ (LB_get (by omega)) (asB_mk ?_))
      rw [Int.toNat_natCast, hZq]
      refine pif_cases (fun hm2 => ?_) fun hm2 => ?_
      · refine own_idx (by omega) (by omega) (stK_1 oZ (by simp; omega) rfl fun G7 b7 o7 => ?_)
        rw [Int.toNat_natCast] at o7
        exact upd true G7 (by rw [more, hm2]; rfl) b7 (by simpa using o7)
      · refine own_idx (by omega) (by omega) (ld1_own o6 (LB_get (by omega)) (asB_mk (own_idx (by omega) (by omega) (stK_1 oZ (by simp; omega) rfl fun G7 b7 o7 => ?_))))
        simp only [Int.toNat_natCast] at o7
        exact upd (S2.getD q false) G7 (by rw [more, hm2]; rfl) b7 (by simpa using o7)
    · have hqe : q = es.length := by have := of_decide_eq_false hb; omega
      subst hqe
      unfold F55.B8
      rw [wrap_id (by omega) (by omega)]
      exact ⟨⟨rfl, rfl, rfl, rfl, rfl, rfl, lG6, t + 1, Z, by omega, by omega, rfl, hZl, oZ, fun j hj => by rw [hZ j hj, if_pos hj]⟩, by simp; omega⟩
  · have hte : t = es.length := by have := of_decide_eq_false hb; omega
    subst hte
    have hF4 := hF.le lG4
    have hlen := cnDone_len (es := es) (c := c) a b
    unfold F55.B6
    refine hF4.sl.pushN E_int (by decide) l34.1 (n := 1) (ys := [.int .i64 (numTo es c a b es.length : Nat)]) rfl rfl (by simp; omega) (by simp) fun v3 G5 k5 _ _ f5 => ?_
    unfold F55.B5
    rw [wrap_id (by omega) (by omega)]
    refine ⟨⟨rfl, rfl, rfl, k5.le l34 (Nat.le_refl _), b + 1, by omega, by omega, by omega, ?_⟩, by simp; omega⟩
    rw [cnDone_next hab hb2]
    have e5 : LI (cnDone es c a b) ++ [.int .i64 (numTo es c a b es.length : Nat)] = LI (cnDone es c a b ++ [numN es c a b]) := by
      unfold LI numN; rw [List.map_append]; rfl
    rw [e5] at f5; exact f5
end Go.Proofs
namespace Go.Proofs
open Go.Abs

variable {H G : AHeap} {v u f : Value} {l m c D : List Int} {es fs : List (Int × Int)} {K : Value → AHeap → Prop}

theorem usedG_none {N m : Nat} : UsedOk es N (List.replicate m (-1)) (List.replicate N 0) := by
 refine ⟨by simp, fun w hw => ?_⟩
 have e : (List.replicate N 0).getD w 0 = 0 := by simp [List.getD, hw]
 rw [e]
 refine ⟨by decide, fun k => ?_⟩
 simp only [Nat.zero_testBit, Bool.false_eq_true, false_iff]
 rintro ⟨j, h1, h2, _⟩
 rw [List.length_replicate] at h1
 have : (List.replicate m (-1 : Int)).getD j 0 = -1 := by simp [List.getD, h1]
 omega
theorem repG_get {m i : Nat} (h : i < m) : (List.replicate m (-1 : Int)).getD i 0 = -1 := by simp [List.getD, h]
section
variable {n : Int} {H0 : AHeap} {pb cb ub : Nat} {tP : TypeId} {qE fV : Value} {X : Nat → Prop} {J : List (List Int) → AHeap → Prop} {q : List Int → Bool} {N Bd : Nat}
theorem startG_ok {E : List Int} {done : List (List Int)} (hC : Caller es H0 pb cb ub fV X Bd J q N) (hg : IsG n es) (he : Edges H0 v es) (hE : Ints H0 qE E) (hEl : E.length ≤ 1000) (hEr : ∀ x ∈ E, 0 ≤ x ∧ x < es.length) (hcb : H0.length ≤ cb) (hub : H0.length ≤ ub) (hne : cb ≠ ub) (hp1 : pb ≠ cb) (hp2 : pb ≠ ub) (h0 : H0.le G) (hBd : Bd ≤ G.length)
    (oP : Own G pb tP [.int .i64 n, v, qE, .slice (some ⟨cb, 0, none⟩) es.length (es.length + 1), .slice (some ⟨ub, 0, none⟩) n.toNat (n.toNat + 1), fV])
    (oc : Own G cb 2 (LI (blank es))) (ou : Own G ub 81 (LU (List.replicate n.toNat 0))) (hJ : J done G) (hN : done.length + (ptL es E (blank es)).length ≤ N)
    (k : ∀ G', Fnd X G G' → J (done ++ upTo q (ptL es E (blank es))) G' → K (.bool ((ptL es E (blank es)).any q)) G') :
    AC Tryz.prog T0 181 [.pointer (some ⟨pb, 0, none⟩)] G K := by
  have n0 := hg.ed.lo; have n1 := hg.ed.hi
  have h30 : es.length ≤ 30 := by have := hg.ed.len; omega
  have hbl : (blank es).length = es.length := by unfold blank; simp
  apply F181.ac
  unfold F181.B17 F181.B16
  refine nilK_mk (asP_mk (ldI_own oP rfl ?_))
  unfold F181.L2
  refine ⟨fun x0 x11 x12 G' => .pointer (some ⟨pb, 0, none⟩) = x0 ∧ n = x11 ∧ G.le G' ∧ ∃ i : Nat, x12 = i ∧ i ≤ n.toNat, fun _ _ x12 _ => n.toNat - x12.toNat, ⟨rfl, rfl, AHeap.le_refl _, 0, rfl, by omega⟩, ?_⟩
  rintro x0 x11 x12 G1 ⟨rfl, rfl, l1, i, rfl, hi⟩
  unfold F181.B15
  have oP1 := oP.le l1
  refine pif_cases (fun hb => ?_) fun hb => ?_
  · have hin : i < n.toNat := by have := of_decide_eq_true hb; omega
    unfold F181.B14 F181.B13 F181.B12
    refine nilK_mk (asP_mk (ldI_own oP1 rfl (ld1_own oP1 rfl (at_ok (he.le (AHeap.le_trans h0 l1)) (by omega) fun w G2 l2 hW => ?_))))
    have h3 := hg.three (v := (i : Int)) (by omega) (by omega)
    refine hW.len (by decide) (n := 3) (by rw [List.length_map, h3]) ?_
    unfold F181.L4
    refine ⟨fun x0 x4 x11 x12 x20 x21 x22 G' => .pointer (some ⟨pb, 0, none⟩) = x0 ∧ n = x11 ∧ ((i : Nat) : Int) = x12 ∧ w = x20 ∧ ((3 : Nat) : Int) = x21 ∧ G2 = G' ∧ ∃ t : Nat, x22 = t ∧ t ≤ 3, fun _ _ _ _ _ _ x22 _ => 3 - x22.toNat, ⟨rfl, rfl, rfl, rfl, rfl, rfl, 0, rfl, by omega⟩, ?_⟩
    rintro x0 x4 x11 x12 x20 x21 x22 G' ⟨rfl, rfl, rfl, rfl, rfl, rfl, t, rfl, ht⟩
    have l12 := AHeap.le_trans l1 l2
    have oP2 := oP.le l12
    have oi := own_ints (c := es.length + 1) (oc.le l12)
    rw [hbl] at oi
    unfold F181.B11
    refine pif_cases (fun hb => ?_) fun hb => ?_
    · have ht3 : t < 3 := by have := of_decide_eq_true hb; omega
      obtain ⟨j, hj1, hj2, hj3⟩ := at_get (es := es) (w := (i : Int)) (t := t) (by omega)
      unfold F181.B10
      refine hW.ints.rd (by omega) (by omega) ?_
      rw [Int.toNat_natCast, hj1]
      unfold F181.B9
      refine nilK_mk (asP_mk (ld1_own oP2 rfl (oi.rd (by omega) (by omega) ?_)))
      rw [Int.toNat_natCast]
      have : (blank es).getD j 0 = -1 := repG_get hj2
      rw [this]
      refine pif_t rfl ?_
      unfold F181.B5
      rw [wrap_id (by omega) (by omega)]
      exact ⟨⟨rfl, rfl, rfl, rfl, rfl, rfl, t + 1, by omega, by omega⟩, by show 3 - ((t : Int) + 1).toNat < 3 - (t : Int).toNat; omega⟩
    · unfold F181.B3
      rw [wrap_id (by omega) (by omega)]
      exact ⟨⟨rfl, rfl, l12, i + 1, by omega, by omega⟩, by show n.toNat - ((i : Int) + 1).toNat < n.toNat - (i : Int).toNat; omega⟩
  · unfold F181.B1
    have hl1 := l1.1
    refine paintG_ok hC hg he hE hEl hEr hcb hub hne hp1 hp2 E.length 0 _ _ done G1 _ (by omega) (by omega) (AHeap.le_trans h0 l1) (by omega) oP1 (oc.le l1) (ou.le l1) hbl usedG_none (hC.st _ _ _ hJ (.le l1)) (by rw [List.drop_zero]; exact hN) fun G2 f2 hJ2 => asB_mk ?_
    rw [List.drop_zero] at hJ2 ⊢
    exact k G2 ((Fnd.le l1).trans f2) hJ2
end
theorem painterG_ok {n : Int} {qE fV : Value} (hg : IsG n es) (he : Edges H v es) (hq : qE.oneCell' = true) (hf : fV.oneCell' = true)
    (k : ∀ pb cb ub tP G, H.le G → H.length ≤ pb → H.length ≤ cb → H.length ≤ ub → cb ≠ ub → pb ≠ cb → pb ≠ ub → Own G pb tP [.int .i64 n, v, qE, .slice (some ⟨cb, 0, none⟩) es.length (es.length + 1), .slice (some ⟨ub, 0, none⟩) n.toNat (n.toNat + 1), fV] →
      Own G cb 2 (LI (blank es)) → Own G ub 81 (LU (List.replicate n.toNat 0)) → K (.pointer (some ⟨pb, 0, none⟩)) G) :
    AC Tryz.prog T0 179 [.agg ⟨[.int .i64 n, v]⟩, qE, .bool false, fV] H K := by
  have n0 := hg.ed.lo; have n1 := hg.ed.hi
  have h30 : es.length ≤ 30 := by have := hg.ed.len; omega
  have hv := edges_one' he
  apply F179.ac
  unfold F179.B10
  refine newK_f (all_iv hv) fun H1 l1 n1' o1 => ?_
  have fin : ∀ (G G' : AHeap) (cb ub pb : Nat) (tP : TypeId), H1.le G → H1.length ≤ cb → H1.length ≤ ub → H1.length ≤ pb → cb ≠ ub → pb ≠ cb → pb ≠ ub → Own G pb tP [.int .i64 n, v, qE, .slice (some ⟨cb, 0, none⟩) es.length (es.length + 1), .slice (some ⟨ub, 0, none⟩) n.toNat (n.toNat + 1), fV] →
      Own G cb 2 (LI (List.replicate es.length (-1))) → Own G ub 81 (LU (List.replicate n.toNat 0)) → F179.B8 K false H.length (.pointer (some ⟨pb, 0, none⟩)) G := by
    intro G G' cb ub pb tP hG h1 h2 h6 h3 h4 h5 oP oc ou
    unfold F179.B8
    refine pif_f rfl ?_
    unfold F179.B1
    have := l1.1
    exact k pb cb ub tP G (AHeap.le_trans l1 hG) (by omega) (by omega) (by omega) h3 h4 h5 oP oc ou
  unfold F179.B9
  refine ldI_own o1 rfl (ld1_own o1 rfl (ld1_own o1 rfl ((he.le l1).len (ldI_own o1 rfl ⟨newK_f rfl fun H2 l2 n2 o2 => ⟨?_, ?_⟩, ?_⟩))))
  · refine repeat_ok (t := -1) (by simpa using o2) (by omega) (by omega) fun H3 l3 o3 => ?_
    have l13 := AHeap.le_trans l2 l3
    refine ⟨ldI_own (o1.le l13) rfl (ld1_own (o1.le l13) rfl ⟨rfl, rfl⟩), ldI_own (o1.le l13) rfl ⟨rfl, rfl⟩, mkR_int (by omega) (by omega) (by decide) fun H4 l4 n4 o4 => pif_t hq (pif_t rfl (pif_t rfl (pif_t hf (newK_f (by simp only [List.all_cons, List.all_nil, hv, hq, hf]; rfl) fun H5 l5 n5 o5 => ?_))))⟩
    rw [rep_u] at o4
    have := lt_of_get o3
    have := l2.1
    exact fin H5 H5 _ _ _ _ (AHeap.le_trans l13 (AHeap.le_trans l4 l5)) (by omega) (by have := l3.1; omega) (by have := l3.1; have := l4.1; omega) (by omega) (by have := l4.1; omega) (by omega) o5 (o3.le (AHeap.le_trans l4 l5)) (o4.le l5)
  · refine mkR_int (by omega) (by omega) (by decide) fun H3 l3 n3 o3 => repeat_ok (t := -1) (by simpa using o2.le l3) (by omega) (by omega) fun H4 l4 o4 => ?_
    have l14 := AHeap.le_trans l2 (AHeap.le_trans l3 l4)
    refine ⟨ldI_own (o1.le l14) rfl (ld1_own (o1.le l14) rfl ⟨rfl, rfl⟩), ldI_own (o1.le l14) rfl ⟨rfl, rfl⟩, pif_t hq (pif_t rfl (pif_t rfl (pif_t hf (newK_f (by simp only [List.all_cons, List.all_nil, hv, hq, hf]; rfl) fun H5 l5 n5 o5 => ?_))))⟩
    rw [rep_u] at o3
    have := lt_of_get o4
    have := l2.1
    exact fin H5 H5 _ _ _ _ (AHeap.le_trans l14 l5) (by have := l3.1; omega) (by omega) (by have := l3.1; have := l4.1; omega) (by omega) (by omega) (by have := l4.1; omega) o5 (o4.le l5) (o3.le (AHeap.le_trans l4 l5))
  · refine mkR_int (by omega) (by omega) (by decide) fun H2 l2 n2 o2 => newK_f rfl fun H3 l3 n3 o3 => repeat_ok (t := -1) (by simpa using o3) (by omega) (by omega) fun H4 l4 o4 => ?_
    have l14 := AHeap.le_trans l2 (AHeap.le_trans l3 l4)
    refine ⟨ldI_own (o1.le l14) rfl (ld1_own (o1.le l14) rfl ⟨rfl, rfl⟩), ldI_own (o1.le l14) rfl ⟨rfl, rfl⟩, pif_t hq (pif_t rfl (pif_t rfl (pif_t hf (newK_f (by simp only [List.all_cons, List.all_nil, hv, hq, hf]; rfl) fun H5 l5 n5 o5 => ?_))))⟩
    rw [rep_u] at o2
    have := lt_of_get o4
    exact fin H5 H5 _ _ _ _ (AHeap.le_trans l14 l5) (by have := l2.1; have := l3.1; omega) (by omega) (by have := l2.1; have := l3.1; have := l4.1; omega) (by have := l3.1; omega) (by omega) (by have := l3.1; have := l4.1; omega) o5 (o4.le l5) (o2.le (AHeap.le_trans l3 (AHeap.le_trans l4 l5)))

theorem partEdges_ok {n : Int} (h : Edges H v es) (hg : IsG n es) (k : ∀ v' G, H.le G → RowsF (fun b => H.length ≤ b) G.length G v' (partL es n.toNat) → K v' G) :
    AC Tryz.prog T0 178 [.agg ⟨[.int .i64 n, v]⟩] H K := by
  have n0 := hg.ed.lo; have n1 := hg.ed.hi
  have h30 : es.length ≤ 30 := by have := hg.ed.len; omega
  have hz : restL es (fun j => (0 : Nat).testBit j) = es := restL_none es fun j => Nat.zero_testBit j
  apply F178.ac
  unfold F178.B18
  refine newK_f (all_iv (edges_one' h)) fun H1 l1 n1' o1 => ?_
  unfold F178.B17 F178.B16
  refine ldI_own o1 rfl (ld1_own o1 rfl (sides_ok (s := 0) (h.le l1) hg (by decide) fun q H2 l2 hR => ?_))
  rw [hz] at hR
  have l12 := AHeap.le_trans l1 l2
  have o2 := o1.le l2
  have hll := leadL_length es n.toNat
  have hpl := partL_length (es := es) n.toNat
  have hsn := sidesN_le es n.toNat
  refine hR.len ?_
  unfold F178.L2
  refine ⟨fun x1 x3 x11 x12 x13 G => H.length = x1 ∧ q = x11 ∧ (((sidesL es n.toNat).length : Nat) : Int) = x12 ∧ Keep H2.length H2 G ∧ ∃ i : Nat, x13 = i ∧ i ≤ (sidesL es n.toNat).length ∧ RowsF (fun b => H2.length ≤ b) G.length G x3 ((partL es n.toNat).take i), fun _ _ _ _ x13 _ => (sidesL es n.toNat).length - x13.toNat,
    ⟨rfl, rfl, rfl, .refl, 0, rfl, by omega, .nil⟩, ?_⟩
  rintro x1 x3 x11 x12 x13 G ⟨rfl, rfl, rfl, kp, i, rfl, hi, hX⟩
  have lG : H.le G := kp.le l12 l12.1
  have hRG := hR.keep kp
  have oG := kp.own o2 o2.lt
  have hGl := kp.len
  unfold F178.B15
  refine pif_cases (fun hb => ?_) fun hb => ?_
  · have hlt : i < (sidesL es n.toNat).length := by have := of_decide_eq_true hb; omega
    have hlt' : i < (leadL es n.toNat).length := by omega
    obtain ⟨s1, s2, s3⟩ := leadL_get hlt'
    have hpg := partL_get hlt'
    obtain ⟨w, hw⟩ : ∃ w, w = (leadL es n.toNat)[i] := ⟨_, rfl⟩
    rw [← hw] at s1 s2 s3 hpg
    unfold F178.B14
    refine hRG.row hlt fun y fy => ?_
    rw [s1] at fy
    have hside : ∀ x ∈ sideL es n.toNat w, 0 ≤ x ∧ x < 64 := fun x hx => by obtain ⟨j, rfl, hj, _⟩ := mem_sideL.1 hx; omega
    have hs64 : setN (sideL es n.toNat w) < 2 ^ 64 := setN_lt fun x hx => (hside x hx).2
    have hslen : (sideL es n.toNat w).length ≤ n.toNat := filtB_length _ _
    unfold F178.B13
    refine setOf_ok fy.ints (by omega) hside (asI_mk ?_)
    unfold F178.B12 F178.B11
    refine ld1_own oG rfl ((h.le lG).len ?_)
    unfold F178.L5
    refine ⟨fun x1 y3 x6 x7 x11 x12 x13 x20 x21 x22 G' => H.length = x1 ∧ x3 = y3 ∧ ((setN (sideL es n.toNat w) : Nat) : Int) = x6 ∧ q = x11 ∧ (((sidesL es n.toNat).length : Nat) : Int) = x12 ∧ (i : Int) = x13 ∧ v = x20 ∧ (es.length : Int) = x21 ∧ Keep G.length G G' ∧ ∃ t : Nat, x22 = t ∧ t ≤ es.length ∧ Fresh G.length G' x7 2 1 (LI (filtB (partB es w) t)), fun _ _ _ _ _ _ _ _ _ x22 _ => es.length - x22.toNat,
      ⟨rfl, rfl, rfl, rfl, rfl, rfl, rfl, rfl, .refl, 0, rfl, by omega, .inl ⟨rfl, .inl rfl⟩⟩, ?_⟩
    rintro x1 y3 x6 x7 x11 x12 x13 x20 x21 x22 G' ⟨rfl, rfl, rfl, rfl, rfl, rfl, rfl, rfl, kp', t, rfl, ht, hF⟩
    have lG' : H.le G' := kp'.le lG lG.1
    unfold F178.B10
    refine pif_cases (fun hb => ?_) fun hb => ?_
    · have hlt2 : t < es.length := by have := of_decide_eq_true hb; omega
      have hm : es.getD t (0, 0) ∈ es := by rw [getD_of hlt2]; exact List.getElem_mem _
      have hr := isG_ends hg _ hm
      obtain ⟨bb, oo, hk, q1, q2⟩ := (h.le lG').idx (show (0 : Int) ≤ t by omega) (by omega)
      simp only [Int.toNat_natCast] at q1 q2
      have hfl := filtB_length (partB es w) t
      unfold F178.B9
      refine hk _ (ldI_mk q1 (ldI_mk q2 (newK_f rfl fun G2 l2' n2 o2' => stK_f (new := [.int .i64 (es.getD t (0, 0)).1, .int .i64 (es.getD t (0, 0)).2]) o2' (by simp) (by simp [Value.oneCell']) rfl fun G3 b3 o3 => ?_)))
      have l3 : G'.le G3 := b3.le l2' (Nat.le_refl _)
      have b1 : (setN (sideL es n.toNat w)).testBit (es.getD t (0, 0)).1.toNat = partB es w t := side_bit (by omega)
      unfold F178.B8
      refine ldI_own o3 rfl (has_ok hs64 hr.1 (asB_mk ?_))
      rw [b1]
      have kp3 := kp'.trans (.of_le l3)
      have hF3 := hF.le l3
      refine pif_cases (fun hc => ?_) fun hc => ?_
      · unfold F178.B7
        refine hF3.sl.pushN E_int (by decide) kp3.len (n := 1) (ys := [.int .i64 (t : Int)]) rfl rfl (by simp; omega) (by simp) fun v3 G4 k4 _ _ f4 => ?_
        unfold F178.B6
        rw [wrap_id (by omega) (by omega)]
        refine ⟨⟨rfl, rfl, rfl, rfl, rfl, rfl, rfl, rfl, kp3.trans k4, t + 1, by omega, by omega, ?_⟩, by simp; omega⟩
        rw [filtB_succ, hc]; simpa using f4
      · unfold F178.B6
        rw [wrap_id (by omega) (by omega)]
        refine ⟨⟨rfl, rfl, rfl, rfl, rfl, rfl, rfl, rfl, kp3, t + 1, by omega, by omega, ?_⟩, by simp; omega⟩
        rw [filtB_succ, hc]; simpa using hF3
    · have hte : t = es.length := by have := of_decide_eq_false hb; omega
      subst hte
      have hX' := hX.keep kp'
      have hx3 : ∀ b, bk x3 = some b → H2.length ≤ b := fun b hb => by
        obtain ⟨vs, _, _, q3, _⟩ := hX
        exact (q3 b hb).1
      unfold F178.B4
      refine hX'.push kp'.len (fun b hb => by omega) hF (by rw [List.length_take]; omega) fun v' G4 ot nb hlen hR4 => ?_
      unfold F178.B3
      rw [wrap_id (by omega) (by omega)]
      have hgl' := kp'.len
      refine ⟨⟨rfl, rfl, rfl, ⟨by omega, fun b o hb ho => ot b o (fun e => by have := hx3 b e; omega) (kp'.old b o (by have := kp.len; omega) (kp.old b o hb ho))⟩, i + 1, by omega, by omega, ?_⟩, by simp; omega⟩
      rw [List.take_succ_eq_append_getElem (by omega), ← getD_of (d := []) (by omega), hpg]
      exact hR4
  · have hie : i = (sidesL es n.toNat).length := by have := of_decide_eq_false hb; omega
    subst hie
    unfold F178.B1
    rw [List.take_of_length_le (by omega)] at hX
    exact k x3 G lG (hX.mono (fun b hb => by have := l12.1; omega) (Nat.le_refl _))

theorem countColourings_ok {n : Int} (h : Edges H v es) (hg : IsG n es) (k : ∀ G, H.le G → K (.int .i64 (colN es n.toNat : Nat)) G) :
    AC Tryz.prog T0 140 [.agg ⟨[.int .i64 n, v]⟩] H K := by
  have n0 := hg.ed.lo; have n1 := hg.ed.hi
  have h30 : es.length ≤ 30 := by have := hg.ed.len; omega
  have p30 : (3 : Nat) ^ 30 = 205891132094649 := by decide
  apply F140.ac
  unfold F140.B11
  refine newK_f (all_iv (edges_one' h)) fun H1 l1 n1' o1 => ?_
  unfold F140.B10 F140.B9
  refine ldI_own o1 rfl (ld1_own o1 rfl (partEdges_ok (h.le l1) hg fun x8 H2 l2 hR => ?_))
  have l12 := AHeap.le_trans l1 l2
  have o2 := o1.le l2
  have hpl := partL_length (es := es) n.toNat
  have hsn := sidesN_le es n.toNat
  refine hR.len ?_
  unfold F140.L2
  refine ⟨fun x1 x3 y8 x9 x10 G => H.length = x1 ∧ x8 = y8 ∧ (((partL es n.toNat).length : Nat) : Int) = x9 ∧ H2.le G ∧ ∃ i : Nat, x10 = i ∧ i ≤ (partL es n.toNat).length ∧ x3 = (colTo es n.toNat i : Nat), fun _ _ _ _ x10 _ => (partL es n.toNat).length - x10.toNat, ⟨rfl, rfl, rfl, AHeap.le_refl _, 0, rfl, by omega, rfl⟩, ?_⟩
  rintro x1 x3 y8 x9 x10 G ⟨rfl, rfl, rfl, lG, i, rfl, hi, rfl⟩
  have l0G := AHeap.le_trans l12 lG
  have oG := o2.le lG
  have hRG := hR.le lG
  unfold F140.B8
  refine pif_cases (fun hb => ?_) fun hb => ?_
  · have hlt : i < (partL es n.toNat).length := by have := of_decide_eq_true hb; omega
    have hE : (partL es n.toNat).getD i [] ∈ partL es n.toNat := by rw [getD_of hlt]; exact List.getElem_mem hlt
    have hsucc := colTo_succ hlt
    have hle1 := colTo_le hg (i + 1)
    obtain ⟨E, hEe⟩ : ∃ E, E = (partL es n.toNat).getD i [] := ⟨_, rfl⟩
    rw [← hEe] at hE hsucc
    have hEr : ∀ x ∈ E, 0 ≤ x ∧ x < es.length := fun x hx => by
      unfold partL at hE
      obtain ⟨w, _, rfl⟩ := List.mem_map.1 hE
      exact partE_rng hx
    have hEl : E.length ≤ es.length := by
      unfold partL at hE
      obtain ⟨w, _, rfl⟩ := List.mem_map.1 hE
      exact filtB_length _ _
    have hpt : partN es E ≤ 3 ^ 30 := Nat.le_trans (ptL_len E _ fun x hx => (hEr x hx).1) (Nat.pow_le_pow_right (by decide) (by omega))
    unfold F140.B7
    refine hRG.row hlt fun y fy => ?_
    rw [← hEe] at fy
    unfold F140.B6
    refine newK_f rfl fun G1 g1 m1 p1 => ?_
    have oG1 := oG.le g1
    have hfv : (Value.func (.func 180) ⟨[]⟩ ⟨[.pointer (some ⟨G.length, 0, none⟩)]⟩).oneCell' = true := rfl
    unfold F140.B5
    refine ldI_own oG1 rfl (ld1_own oG1 rfl (painterG_ok hg ((h.le l0G).le g1) (ints_one fy.ints) hfv fun pb cb ub tP G2 g2 q0 q1 q2 q3 q4 q5 oP oc ou => ?_))
    have px : ∀ {b}, G1.length ≤ b → b ≠ G.length := fun {b} hb => by omega
    have hC : Caller es G pb cb ub (.func (.func 180) ⟨[]⟩ ⟨[.pointer (some ⟨G.length, 0, none⟩)]⟩) (fun b => b = G.length) (G.length + 1) (fun done G' => Own G' G.length 2 [.int .i64 (done.length : Nat)]) (fun _ => false) (partN es E) := by
      refine ⟨fun b hb e => by omega, px q0, px q1, px q2, fun b e => by omega, fun done A B hA t => t.old _ _ (fun e => px q1 e.symm) (fun e => px q2 e.symm) hA, fun done c' A hA oc' hl' hJ hd K' hK' => callV_mk ?_⟩
      apply F180.ac
      unfold F180.B3 F180.B2
      refine asP_mk (ldI_own hJ rfl (asP_mk (stK_1 hJ (by simp) rfl fun A2 b2 o2' => ?_)))
      rw [wrap_id (by omega) (by omega)] at o2'
      unfold F180.B1
      refine hK' A2 ⟨Nat.le_of_eq b2.len.symm, fun b o hb ho => by rw [b2.same b hb]; exact ho⟩ ?_
      have e : (((done ++ [c']).length : Nat) : Int) = (done.length : Int) + 1 := by simp
      rw [e]; simpa using o2'
    refine startG_ok (done := []) hC hg (h.le l0G) fy.ints (by omega) hEr (by omega) (by omega) q3 q4 q5 (AHeap.le_trans g1 g2) (by have := g2.1; omega) oP oc ou (by simpa using p1.le g2) (by simp [partN]) fun G3 f3 hJ3 => asB_mk ?_
    rw [upTo_all (by simp), List.nil_append] at hJ3
    have l3 : G.le G3 := f3.base (AHeap.le_trans g1 g2) fun b hb e => by omega
    unfold F140.B4
    refine ldI_own hJ3 rfl ?_
    unfold F140.B3
    have hmul : ((colTo es n.toNat i : Nat) : Int) * (((ptL es E (blank es)).length : Nat) : Int) = ((colTo es n.toNat (i + 1) : Nat) : Int) := by
      rw [hsucc]; unfold partN; rw [Int.natCast_mul]
    rw [hmul, wrap_id (by omega) (by omega), wrap_id (by omega) (by omega)]
    exact ⟨⟨rfl, rfl, rfl, AHeap.le_trans lG l3, i + 1, by omega, by omega, rfl⟩, by simp; omega⟩
  · have hie : i = (partL es n.toNat).length := by have := of_decide_eq_false hb; omega
    subst hie
    unfold F140.B1
    rw [colTo_all]
    exact k G l0G
noncomputable def ccnVal (n : Int) (es : List (Int × Int)) : Int := if IsG n es then (colN es n.toNat : Nat) else 0
theorem implCountCol_ok {n : Int} (h : Edges H v es) (hl : es.length ≤ 1048576) (k : ∀ G, H.le G → K (.tuple ⟨[.int .i64 (ccnVal n es), .int .i64 (if IsG n es then 0 else 1)]⟩) G) :
    AC Tryz.prog T0 62 [.agg ⟨[.int .i64 n, v]⟩] H K := by
  apply F62.ac
  unfold F62.B5
  refine newK_f (all_iv (edges_one' h)) fun H1 l1 n1' o1 => ?_
  unfold F62.B4
  refine ldI_own o1 rfl (ld1_own o1 rfl (graphCode_ok (h.le l1) hl fun H2 l2 => asI_mk ?_))
  have l12 := AHeap.le_trans l1 l2
  have o2 := o1.le l2
  simp only [if_true]
  unfold ccnVal at k
  unfold F62.B3
  by_cases hg : IsG n es
  · rw [if_pos hg] at k ⊢
    rw [if_pos hg] at k
    refine pif_f rfl ?_
    unfold F62.B1
    exact ldI_own o2 rfl (ld1_own o2 rfl (countColourings_ok (h.le l12) hg fun G lG => asI_mk (k G (AHeap.le_trans l12 lG))))
  · rw [if_neg hg] at k ⊢
    rw [if_neg hg] at k
    refine pif_t rfl ?_
    unfold F62.B2
    exact k H2 l12
end Go.Proofs
namespace Go.Proofs
open Go.Abs

variable {H G : AHeap} {v u f : Value} {l m c D : List Int} {es fs : List (Int × Int)} {K : Value → AHeap → Prop} {n : Int}

theorem likeInts_ok (h : Ints H v l) (g : Ints H u l) (hl : l.length ≤ 1000000000) (k : K (.bool true) H) : AC Tryz.prog T0 11 [v, u] H K := by
 apply F11.ac
 unfold F11.B10 F11.B9
 refine h.len (g.len (pif_f (by simp) ?_))
 unfold F11.B7 F11.L2
 refine ⟨fun x0 x1 x5 G => v = x0 ∧ u = x1 ∧ H = G ∧ ∃ i : Nat, x5 = i ∧ i ≤ l.length, fun _ _ x5 _ => l.length - x5.toNat, ⟨rfl, rfl, rfl, 0, rfl, by omega⟩, ?_⟩
 rintro x0 x1 x5 G ⟨rfl, rfl, rfl, i, rfl, hi⟩
 unfold F11.B6
 refine h.len (pif_cases (fun hb => ?_) fun hb => ?_)
 ·have hlt : i < l.length := by have := of_decide_eq_true hb; omega
  unfold F11.B5
  refine h.rd (by omega) (by omega) (g.rd (by omega) (by omega) (pif_f (by simp) ?_))
  unfold F11.B3
  rw [wrap_id (by omega) (by omega)]
  exact ⟨⟨rfl, rfl, rfl, i + 1, by omega, by omega⟩, by simp; omega⟩
 ·unfold F11.B1
  exact k
theorem big_ok (h : Byts H v l) (k : K (.bool (decide ((l.length : Int) > 4096))) H) : AC Tryz.prog T0 7 [v] H K := by
 apply F7.ac
 unfold F7.B2 F7.B1
 exact h.len k
end Go.Proofs
namespace Go.Proofs
open Go.Abs

variable {H G : AHeap} {v u f x4 x7 x11 : Value} {l m c D : List Int} {es fs : List (Int × Int)} {n e b : Int} {K : Value → AHeap → Prop}

abbrev QC9 : Value → AHeap → Prop := fun v _ => v = .bool true
theorem hasInt_ok {x : Int} (h : Ints H v l) (hx : x ∈ l) (hl : l.length ≤ 1000000000) (k : K (.bool true) H) : AC Tryz.prog T0 64 [v, .int .i64 x] H K := by
 apply F64.ac
 unfold F64.B8 F64.B7 F64.L2
 refine ⟨fun x0 x1 x5 G => v = x0 ∧ x = x1 ∧ H = G ∧ ∃ i : Nat, x5 = i ∧ i ≤ l.length ∧ ∀ j, j < i → l.getD j 0 ≠ x, fun _ _ x5 _ => l.length - x5.toNat, ⟨rfl, rfl, rfl, 0, rfl, by omega, fun j hj => absurd hj (by omega)⟩, ?_⟩
 rintro x0 x1 x5 G ⟨rfl, rfl, rfl, i, rfl, hi, hn⟩
 unfold F64.B6
 refine h.len (pif_cases (fun hb => ?_) fun hb => ?_)
 ·have hlt : i < l.length := by have := of_decide_eq_true hb; omega
  unfold F64.B5
  refine h.rd (by omega) (by omega) (pif_cases (fun he => ?_) fun he => ?_)
  ·unfold F64.B4; exact k
  ·have hne := beq_eq_false_iff_ne.1 he
   rw [Int.toNat_natCast] at hne
   unfold F64.B3
   rw [wrap_id (by omega) (by omega)]
   refine ⟨⟨rfl, rfl, rfl, i + 1, by omega, by omega, fun j hj => ?_⟩, by simp; omega⟩
   by_cases hji : j = i
   ·rw [hji]; exact hne
   ·exact hn j (by omega)
 ·have hie : i = l.length := by have := of_decide_eq_false hb; omega
  subst hie
  obtain ⟨j, hj, rfl⟩ := List.getElem_of_mem hx
  exact absurd (getD_of hj) (hn j hj)
structure ChS (es : List (Int × Int)) (c : List Int) (n e b : Int) (v x4 x7 x11 : Value) (x3 : Nat) (G : AHeap) : Prop where
 o : Own G x3 26 [.int .i64 n, v]
 E : Edges G v es
 hc : Ints G x4 c
 hx : Ints G x7 (exList n es c e b)
 hh : Ints G x11 (chList n es c e b)
 l1 : es.length ≤ 2000
 l2 : c.length ≤ 3000
theorem ChS.le {x3 : Nat} (h : ChS es c n e b v x4 x7 x11 x3 H) (l : H.le G) : ChS es c n e b v x4 x7 x11 x3 G := ⟨h.o.le l, h.E.le l, h.hc.le l, h.hx.le l, h.hh.le l, h.l1, h.l2⟩
theorem exList_len (h : es.length ≤ 2000) : (exList n es c e b).length ≤ 2000 := by
 unfold exList
 split
 ·rw [exTo_length]; omega
 ·simp
theorem chList_len (h : es.length ≤ 2000) : (chList n es c e b).length ≤ 2000 := by
 unfold chList
 split
 ·have := filtB_length (rchB (eAdj es (chP c e.toNat b)) e.toNat) es.length; omega
 ·simp
theorem chains_end {x3 : Nat} (h : ChS es c n e b v x4 x7 x11 x3 G) : F6.B5 QC9 x3 x4 e x7 (chCode n es c e b) x11 (chCode n es c e b) G := by
 have hl1 := h.l1
 have hxl : (exList n es c e b).length ≤ 2000 := exList_len hl1
 have hhl : (chList n es c e b).length ≤ 2000 := chList_len hl1
 unfold F6.B5
 refine pif_cases (fun hb => ?_) fun hb => ?_
 ·have hne : chCode n es c e b ≠ 0 := by simpa using hb
  unfold F6.B4
  refine h.hx.len (pif_t ?_ ?_)
  ·unfold exList; rw [if_neg hne]; rfl
  ·rw [beq_self_eq_true]
 have h0 : chCode n es c e b = 0 := by simpa using hb
 obtain ⟨hg, hci⟩ := chCode_zero h0
 obtain ⟨hc, he, hb3, hne⟩ := hci
 have e1 : exList n es c e b = exTo es c e.toNat b es.length := by unfold exList; rw [if_pos h0]
 have e2 : chList n es c e b = filtB (chB es c e.toNat b) es.length := by unfold chList; rw [if_pos h0]; rfl
 have hlt : e.toNat < es.length := by omega
 have hcl := hc.len
 have hc' : IsC es (exTo es c e.toNat b es.length) := exTo_isC hc hlt hb3 fun h => hne h.symm
 unfold F6.B3
 refine ldI_own h.o rfl (ld1_own h.o rfl (implIsCol_ok h.E (by omega) h.hx (by omega) fun G1 l1 => tup2_mk (asB_mk (asI_mk ?_))))
 have g := h.le l1
 rw [if_pos hg, e1, decide_eq_true (And.intro hg hc')]
 unfold F6.B2
 refine ldI_own g.o rfl (ld1_own g.o rfl (g.hc.rd (by omega) (by omega) (implExchange_ok g.E (by omega) g.hx (by omega) fun w G2 l2 f2 => tup2_mk (asI_mk ?_))))
 have g2 := g.le l2
 have h0' : chCode n es (exList n es c e b) e (c.getD e.toNat 0) = 0 := by
  unfold chCode
  rw [if_pos hg, if_pos]
  rw [e1]
  have h0 : chP c e.toNat b e.toNat = true := by unfold chP; simp
  have hee : rchB (eAdj es (chP c e.toNat b)) e.toNat e.toNat = true := rchB_iff.2 .refl
  have hce : (exTo es c e.toNat b es.length).getD e.toNat 0 = b := by rw [exTo_get hlt]; unfold exAt; rw [if_pos hee]; omega
  refine ⟨hc', by omega, hc.get _, ?_⟩
  rw [hce]; exact fun h => hne h.symm
 have e3 : exList n es (exList n es c e b) e (c.getD e.toNat 0) = c := by
  have : exList n es (exList n es c e b) e (c.getD e.toNat 0) = exTo es (exList n es c e b) e.toNat (c.getD e.toNat 0) es.length := by
   unfold exList; rw [if_pos]; exact h0'
  rw [this, e1, ex_back hc hlt hb3 fun h => hne h.symm]
 rw [e3] at f2
 rw [h0', h0]
 have hev := chain_even hg hc hlt hb3 fun h => hne h.symm
 have hmem : e ∈ chList n es c e b := by
  rw [e2]
  exact mem_filtB.2 ⟨e.toNat, by omega, hlt, rchB_iff.2 .refl⟩
 unfold F6.B1
 refine pif_t rfl (hasInt_ok g2.hh hmem (by omega) (asB_mk (pif_t rfl (g2.hh.len (pif_t ?_ (pif_t rfl (pif_t rfl (pif_t rfl (likeInts_ok f2.ints g2.hc (by omega) (asB_mk rfl))))))))))
 rw [beq_iff_eq, Int.tmod_eq_emod_of_nonneg (by omega), e2, cn_filt]
 omega
theorem cnVal_len (n : Int) (es : List (Int × Int)) (c : List Int) : (cnVal n es c).length ≤ 3 := by
 unfold cnVal
 split <;> simp [cnList]
theorem chains_7 {x3 : Nat} {x17 : Value} {c1 : List Int} {n1 : Int} {es1 : List (Int × Int)} (h : ChS es c n e b v x4 x7 x11 x3 G) (h17 : Ints G x17 (cnVal n1 es1 c1)) :
    F6.B7 QC9 x3 x4 e x7 (chCode n es c e b) x11 (chCode n es c e b) x17 (cnCode n1 es1 c1) G := by
  unfold F6.B7
  refine pif_cases (fun hb => ?_) fun hb => chains_end h
  have h0 : cnCode n1 es1 c1 = 0 := beq_iff_eq.1 hb
  obtain ⟨hg, hc⟩ := cnCode_zero h0
  have e1 : cnVal n1 es1 c1 = cnList es1 c1 := by unfold cnVal; rw [if_pos h0]
  rw [e1] at h17
  have p1 := numN_pos hg hc (a := 0) (b := 1) (by omega)
  have p2 := numN_pos hg hc (a := 0) (b := 2) (by omega)
  have p3 := numN_pos hg hc (a := 1) (b := 2) (by omega)
  refine h17.rd (by omega) (by simp [cnList]) (pif_f (decide_eq_false ?_) (h17.rd (by omega) (by simp [cnList]) (pif_f (decide_eq_false ?_) (h17.rd (by omega) (by simp [cnList]) (pif_f (decide_eq_false ?_) (chains_end h))))))
  · show ¬ numN es1 c1 0 1 < 1; omega
  · show ¬ numN es1 c1 0 2 < 1; omega
  · show ¬ numN es1 c1 1 2 < 1; omega
theorem crCode_zero (h : crCode n es c = 0) : IsG n es ∧ IsC es c ∧ ∃ k, crOut es c = some k ∧ crVal n es c = k := by
 unfold crCode at h
 by_cases hg : IsG n es
 ·rw [if_pos hg] at h
  by_cases hc : IsC es c
  ·rw [if_pos hc] at h
   cases ho : crOut es c with
   | none => rw [ho] at h; cases h
   | some k => exact ⟨hg, hc, k, rfl, by unfold crVal; rw [if_pos hg, if_pos hc, ho]⟩
  ·rw [if_neg hc] at h; cases h
 ·rw [if_neg hg] at h; cases h
theorem chains_11 {x3 x21 : Nat} {x17 w : Value} {c1 c2 : List Int} {n1 n2 : Int} {es1 es2 : List (Int × Int)} (h : ChS es c n e b v x4 x7 x11 x3 G) (h17 : Ints G x17 (cnVal n1 es1 c1)) (o21 : Own G x21 26 [.int .i64 n2, w]) (hE : Edges G w es2) (hl : es2.length ≤ 2000) :
    F6.B11 QC9 x3 x4 e x7 (chCode n es c e b) x11 (chCode n es c e b) x17 (cnCode n1 es1 c1) x21 (crVal n2 es2 c2) (crCode n2 es2 c2) G := by
  unfold F6.B11
  refine pif_cases (fun hb => ?_) fun hb => chains_7 h h17
  obtain ⟨hg, hc, k, hk, hv⟩ := crCode_zero (beq_iff_eq.1 hb)
  obtain ⟨h6, L, hL, hn, hall⟩ := crOut_list hg hc hk
  have hle := col_le hg hn hall
  unfold F6.B10
  refine ldI_own o21 rfl (ld1_own o21 rfl (implCountCol_ok hE (by omega) fun G1 l1 => tup2_mk (asI_mk (asI_mk ?_))))
  rw [if_pos hg, hv]
  have : ccnVal n2 es2 = ((colN es2 n2.toNat : Nat) : Int) := by unfold ccnVal; rw [if_pos hg]
  rw [this]
  unfold F6.B9
  refine pif_f rfl (pif_f (decide_eq_false (by omega)) (pif_f ?_ (chains_7 (h.le l1) (h17.le l1))))
  rw [bne_eq_false_iff_eq, Int.tmod_eq_emod_of_nonneg (by omega)]
  omega
theorem cuVal_len (n : Int) (es : List (Int × Int)) (c l : List Int) : (cuVal n es c l).length ≤ 3 := by
 unfold cuVal
 split <;> simp [cuList]
theorem chains_23 {x3 x21 : Nat} {x17 w : Value} {c1 c2 : List Int} {n1 n2 : Int} {es1 es2 : List (Int × Int)} (hB : Byts G u l) (hlb : l.length ≤ 4096) (h : ChS es c n e b v x4 x7 x11 x3 G) (h17 : Ints G x17 (cnVal n1 es1 c1)) (o21 : Own G x21 26 [.int .i64 n2, w]) (hE : Edges G w es2) (hl : es2.length ≤ 2000) :
    F6.B23 QC9 u x3 x4 e x7 (chCode n es c e b) x11 (chCode n es c e b) x17 (cnCode n1 es1 c1) x21 (crVal n2 es2 c2) (crCode n2 es2 c2) G := by
  unfold F6.B23
  refine drawCutN_ok hB hlb fun v3 n3 es3 w3 c3 y3 s3 G1 l1 hS fw fy b1 b2 b3 _ _ => tup3_mk (agg2_mk (asI_mk (newK_f rfl fun G2 l2 m2 p2 => stK_f (new := [.int .i64 n3, v3]) p2 (by simp) (mem_iv (sl_one hS)) rfl fun G3 q3 p3 => ?_)))
  have l3 : G1.le G3 := q3.le l2 (Nat.le_refl _)
  have l03 := AHeap.le_trans l1 l3
  have hE3 := (sl_edges hS).le l3
  have hw3 := fw.ints.le l3
  have hy3 := fy.ints.le l3
  unfold F6.B22
  refine ldI_own p3 rfl (ld1_own p3 rfl (implCutN_ok hE3 (by omega) hw3 (by omega) hy3 (by omega) fun x30 G4 l4 f4 => tup2_mk (asI_mk ?_)))
  have p4 := p3.le l4
  unfold F6.B21
  refine ldI_own p4 rfl (ld1_own p4 rfl (specCutN_ok (hE3.le l4) (by omega) (hw3.le l4) (by omega) (hy3.le l4) (by omega) fun x32 G5 l5 f5 => tup2_mk (asI_mk ?_)))
  have l05 := AHeap.le_trans l03 (AHeap.le_trans l4 l5)
  have h30 := f4.ints.le l5
  have hy5 := (hy3.le l4).le l5
  have hcl := cuVal_len n3 es3 c3 s3
  have fin : F6.B11 QC9 x3 x4 e x7 (chCode n es c e b) x11 (chCode n es c e b) x17 (cnCode n1 es1 c1) x21 (crVal n2 es2 c2) (crCode n2 es2 c2) G5 :=
    chains_11 (h.le l05) (h17.le l05) (o21.le l05) (hE.le l05) hl
  unfold F6.B20
  refine pif_f (by simp) (likeInts_ok h30 f5.ints (by omega) (asB_mk (pif_f rfl ?_)))
  unfold F6.B18
  refine pif_cases (fun hb => ?_) fun hb => fin
  have h0 : cuCode n3 es3 c3 s3 = 0 := beq_iff_eq.1 hb
  obtain ⟨hg, hc, hs⟩ := cuCode_zero h0
  have e1 : cuVal n3 es3 c3 s3 = cuList es3 c3 s3 := by unfold cuVal; rw [if_pos h0]
  rw [e1] at h30
  unfold F6.B17 F6.L12
  refine ⟨fun a3 a4 a5 a7 a8 a11 a12 a17 a18 a21 a23 a24 a29 a30 a34 G' => x3 = a3 ∧ x4 = a4 ∧ e = a5 ∧ x7 = a7 ∧ chCode n es c e b = a8 ∧ x11 = a11 ∧ chCode n es c e b = a12 ∧ x17 = a17 ∧ cnCode n1 es1 c1 = a18 ∧ x21 = a21 ∧ crVal n2 es2 c2 = a23 ∧ crCode n2 es2 c2 = a24 ∧ y3 = a29 ∧ x30 = a30 ∧ G5 = G' ∧ ∃ i : Nat, a34 = i ∧ i ≤ 3,
    fun _ _ _ _ _ _ _ _ _ _ _ _ _ _ a34 _ => 3 - a34.toNat, ⟨rfl, rfl, rfl, rfl, rfl, rfl, rfl, rfl, rfl, rfl, rfl, rfl, rfl, rfl, rfl, 0, rfl, by omega⟩, ?_⟩
  rintro a3 a4 a5 a7 a8 a11 a12 a17 a18 a21 a23 a24 a29 a30 a34 G' ⟨rfl, rfl, rfl, rfl, rfl, rfl, rfl, rfl, rfl, rfl, rfl, rfl, rfl, rfl, rfl, i, rfl, hi⟩
  unfold F6.B16
  refine pif_cases (fun hb => ?_) fun hb => fin
  have hlt : i < 3 := by have := of_decide_eq_true hb; omega
  have hget : (cuList es3 c3 s3).getD i 0 = ((cuN es3 c3 s3 (i : Int) : Nat) : Int) := by
    rcases (show i = 0 ∨ i = 1 ∨ i = 2 by omega) with rfl | rfl | rfl <;> rfl
  have hle : cuN es3 c3 s3 (i : Int) ≤ es3.length := by unfold cuN; rw [← cn_filt]; exact filtB_length _ _
  have hp := cut_parity hg hc hs (x := (i : Int)) (by omega)
  unfold F6.B15
  refine h30.rd (by omega) (by simp [cuList]; omega) (hy5.len (pif_f ?_ ?_))
  · rw [Int.toNat_natCast, hget, wrap_id (by omega) (by omega), bne_eq_false_iff_eq]
    rw [Int.tmod_eq_emod]
    have h2 : (2 : Int) ∣ (((cuN es3 c3 s3 (i : Int) : Nat) : Int) - (s3.length : Int)) := Int.dvd_of_emod_eq_zero hp
    have hp' : (((cuN es3 c3 s3 (i : Int) : Nat) : Int) - (s3.length : Int)) % 2 = 0 := hp
    simp [h2, hp']
  · unfold F6.B13
    rw [wrap_id (by omega) (by omega)]
    exact ⟨⟨rfl, rfl, rfl, rfl, rfl, rfl, rfl, rfl, rfl, rfl, rfl, rfl, rfl, rfl, rfl, i + 1, by omega, by omega⟩, by simp; omega⟩
theorem chains_33 {x3 : Nat} (hB : Byts G u l) (hlb : l.length ≤ 4096) (h : ChS es c n e b v x4 x7 x11 x3 G) :
    F6.B33 QC9 u x3 x4 e x7 (chCode n es c e b) x11 (chCode n es c e b) G := by
  unfold F6.B33
  refine drawNumbers_ok hB hlb fun v1 n1 es1 w1 c1 G1 l1 hS fw b1 b2 _ _ => tup2_mk (agg2_mk (asI_mk (newK_f rfl fun G2 l2 m2 p2 => stK_f (new := [.int .i64 n1, v1]) p2 (by simp) (mem_iv (sl_one hS)) rfl fun G3 q3 p3 => ?_)))
  have l3 : G1.le G3 := q3.le l2 (Nat.le_refl _)
  have l03 := AHeap.le_trans l1 l3
  have hE3 := (sl_edges hS).le l3
  have hw3 := fw.ints.le l3
  unfold F6.B32
  refine ldI_own p3 rfl (ld1_own p3 rfl (implNumbers_ok hE3 (by omega) hw3 (by omega) fun x17 G4 l4 f4 => tup2_mk (asI_mk ?_)))
  have p4 := p3.le l4
  unfold F6.B31
  refine ldI_own p4 rfl (ld1_own p4 rfl (specNumbers_ok (hE3.le l4) (by omega) (hw3.le l4) (by omega) fun x19 G5 l5 f5 => tup2_mk (asI_mk ?_)))
  have l05 := AHeap.le_trans l03 (AHeap.le_trans l4 l5)
  have h17 := f4.ints.le l5
  have hcl := cnVal_len n1 es1 c1
  unfold F6.B30
  refine pif_f (by simp) (likeInts_ok h17 f5.ints (by omega) (asB_mk (pif_f rfl ?_)))
  unfold F6.B28
  refine drawReached_ok (hB.le l05) hlb fun v2 n2 es2 w2 c2 G6 l6 hS2 fw2 b3 b4 _ _ => tup2_mk (agg2_mk (asI_mk (newK_f rfl fun G7 l7 m7 p7 => stK_f (new := [.int .i64 n2, v2]) p7 (by simp) (mem_iv (sl_one hS2)) rfl fun G8 q8 p8 => ?_)))
  have l8 : G6.le G8 := q8.le l7 (Nat.le_refl _)
  have hE8 := (sl_edges hS2).le l8
  have hw8 := fw2.ints.le l8
  unfold F6.B27
  refine ldI_own p8 rfl (ld1_own p8 rfl (implReach_ok hE8 (by omega) hw8 (by omega) fun G9 l9 => tup2_mk (asI_mk (asI_mk ?_))))
  have p9 := p8.le l9
  unfold F6.B26
  refine ldI_own p9 rfl (ld1_own p9 rfl (specReach_ok (hE8.le l9) (by omega) (hw8.le l9) (by omega) fun G10 l10 => tup2_mk (asI_mk (asI_mk ?_))))
  have l810 := AHeap.le_trans l9 l10
  have l510 := AHeap.le_trans l6 (AHeap.le_trans l8 l810)
  have l010 := AHeap.le_trans l05 l510
  unfold F6.B25
  exact pif_f (by simp) (pif_f (by simp) (chains_23 (hB.le l010) hlb (h.le l010) (h17.le l510) (p8.le l810) (hE8.le l810) b3))
theorem fnChains_law (H : AHeap) (vs : List Value) (hv : AVs T0 H [22] vs) : AC Tryz.prog T0 6 vs H (fun v _ => v = .bool true) := by
 obtain ⟨v0, vs, rfl, a0, rfl⟩ := hv
 obtain ⟨l, hB, hlen⟩ := av_bytes a0
 apply F6.ac
 unfold F6.B45 F6.B44
 refine big_ok hB (asB_mk (pif_cases (fun _ => by unfold F6.B43; rfl) fun hs => ?_))
 have hl : l.length ≤ 4096 := by have := of_decide_eq_false hs; omega
 unfold F6.B42
 refine drawExchange_ok hB hl fun v n es w c e b G lG hS fw c1 c2 c3 c4 => tup4_mk (agg2_mk (asI_mk (asI_mk (asI_mk (newK_f rfl fun H2 l2 n2 o2 => stK_f (new := [.int .i64 n, v]) o2 (by simp) (mem_iv (sl_one hS)) rfl fun H3 b3 o3 => ?_)))))
 have l3 : G.le H3 := b3.le l2 (Nat.le_refl _)
 have hE := (sl_edges hS).le l3
 have hw := fw.ints.le l3
 have l03 := AHeap.le_trans lG l3
 unfold F6.B41
 refine ldI_own o3 rfl (ld1_own o3 rfl (implExchange_ok hE (by omega) hw (by omega) fun x7 H4 l4 f4 => tup2_mk (asI_mk ?_)))
 have o4 := o3.le l4; have hE4 := hE.le l4; have hw4 := hw.le l4
 unfold F6.B40
 refine ldI_own o4 rfl (ld1_own o4 rfl (specExchange_ok hE4 (by omega) hw4 (by omega) fun x9 H5 l5 f5 => tup2_mk (asI_mk ?_)))
 have o5 := o4.le l5; have hE5 := hE4.le l5; have hw5 := hw4.le l5
 have f45 := f4.ints.le l5
 have hxl : (exList n es c e b).length ≤ 2000 := exList_len c1
 have hhl : (chList n es c e b).length ≤ 2000 := chList_len c1
 unfold F6.B39
 refine pif_f (by simp) (likeInts_ok f45 f5.ints (by omega) (asB_mk (pif_f rfl ?_)))
 unfold F6.B37
 refine ldI_own o5 rfl (ld1_own o5 rfl (implChain_ok hE5 (by omega) hw5 (by omega) fun x11 H6 l6 f6 => tup2_mk (asI_mk ?_)))
 have o6 := o5.le l6; have hE6 := hE5.le l6; have hw6 := hw5.le l6
 unfold F6.B36
 refine ldI_own o6 rfl (ld1_own o6 rfl (specChain_ok hE6 (by omega) hw6 (by omega) fun x13 H7 l7 f7 => tup2_mk (asI_mk ?_)))
 have f67 := f6.ints.le l7
 have l07 := AHeap.le_trans l03 (AHeap.le_trans l4 (AHeap.le_trans l5 (AHeap.le_trans l6 l7)))
 unfold F6.B35
 refine pif_f (by simp) (likeInts_ok f67 f7.ints (by omega) (asB_mk (pif_f rfl ?_)))
 exact chains_33 (hB.le l07) hl ⟨o6.le l7, hE6.le l7, hw6.le l7, (f45.le l6).le l7, f67, c1, by omega⟩
end Go.Proofs
