/- Contracts: edges at a vertex; chains, the program's way. -/
import Derived.Test.YtfcflpcmjlbedaaU9
import Derived.Test.YtfcflpcmjlbedaaM4
import Derived.Test.YtfcflpcmjlbedaaK1
set_option linter.unusedVariables false
set_option linter.unusedSimpArgs false
set_option maxRecDepth 100000
namespace Go.Proofs
open Go.Abs

variable {H : AHeap} {v u f : Value} {l m c : List Int} {es fs : List (Int × Int)} {K : Value → AHeap → Prop}

theorem E_int : Elem T0 2 1 := ⟨tiInt, T0_int.1, T0_int.2.1, by rw [T0_int.2.2.1]; decide, T0_int.2.2.2⟩
abbrev NI (Q : List Nat) : List Int := Q.map Int.ofNat
def lenV : Value → Nat
  | .slice _ n _ => n
  | _ => 0
theorem Sl_lenV {m : Nat} {t : TypeId} {cs : List Value} (h : Sl m H v t 1 cs) : lenV v = cs.length := by
  rcases h with ⟨rfl, rfl | ⟨a, rfl⟩⟩ | ⟨b, n, pre, post, _, rfl, _, h⟩
  · rfl
  · rfl
  · simp [lenV, h]

theorem isOn_ok {e : Int × Int} {x : Int} (k : ∀ G, H.le G → K (.bool (on e x)) G) : AC Try.prog T0 109 [ve e, .int .i64 x] H K := by
  apply F109.ac
  unfold F109.B2
  refine newK_f rfl fun H1 l1 n1 o1 => ?_
  unfold F109.B1
  have k := k _ l1
  refine ldI_own o1 rfl (pif_cases (fun hb => ?_) fun hb => ?_)
  · rw [show on e x = true by unfold on; rw [hb]; rfl] at k; exact k
  · rw [show on e x = (e.2 == x) by unfold on; rw [hb]; rfl] at k
    exact ldI_own o1 rfl k

theorem at_ok {n x : Int} (h : Edges H v es) (hl : es.length ≤ 1048576) (k : ∀ v' G, H.le G → Sl H.length G v' 2 1 (LI (atL es x)) → K v' G) : AC Try.prog T0 89 [.agg ⟨[.int .i64 n, v]⟩, .int .i64 x] H K := by
  apply F89.ac
  unfold F89.B10
  refine newK_f (all_iv (edges_one' h)) fun H1 l1 n1 o1 => ?_
  unfold F89.B9 F89.B8
  refine ld1_own o1 rfl ((h.le l1).len ?_)
  unfold F89.L2
  refine ⟨fun x1 x5 x9 x10 x11 G => x = x1 ∧ v = x9 ∧ (es.length : Int) = x10 ∧ H.le G ∧ ∃ i : Nat, x11 = i ∧ i ≤ es.length ∧ Sl H.length G x5 2 1 (LI (atTo es x i)), fun _ _ _ _ x11 _ => es.length - x11.toNat, ⟨rfl, rfl, rfl, l1, 0, rfl, by omega, .nil⟩, ?_⟩
  rintro x1 x5 x9 x10 x11 G ⟨rfl, rfl, rfl, hG, i, rfl, hi, hF⟩
  unfold F89.B7
  refine pif_cases (fun hb => ?_) fun hb => ?_
  · have hlt : i < es.length := by have := of_decide_eq_true hb; omega
    unfold F89.B6
    obtain ⟨b, o, hk, c1, c2⟩ := (h.le hG).idx (show (0 : Int) ≤ i by omega) (by omega)
    simp only [Int.toNat_natCast] at c1 c2
    refine hk _ (ldI_mk c1 (ldI_mk c2 (newK_f rfl fun H2 l2 n2 o2 => stK_f o2 (by simp) (by simp [Value.oneCell']) rfl fun H3 b3 o3 => ?_)))
    have l3 : G.le H3 := b3.le l2 (Nat.le_refl _)
    unfold F89.B5
    refine ldI_own o3 rfl (ldI_own o3 rfl (isOn_ok (e := es.getD i (0, 0)) fun H4 l4 => asB_mk ?_))
    have l4 := AHeap.le_trans l3 l4
    have hF := hF.le l4
    have lG := AHeap.le_trans hG l4
    refine pif_cases (fun hs => ?_) fun hs => ?_
    · unfold F89.B4
      refine hF.pushN E_int (by decide) lG.1 (n := 1) (ys := [.int .i64 i]) rfl rfl (by have := atTo_length es x i; simp; omega) (by simp) fun v' G2 k2 _ _ f2 => ?_
      unfold F89.B3
      rw [wrap_id (by omega) (by omega)]
      refine ⟨⟨rfl, rfl, rfl, k2.le lG (Nat.le_refl _), i + 1, by omega, by omega, ?_⟩, by simp; omega⟩
      rw [atTo_succ, if_pos hs]
      simpa using f2.sl
    · unfold F89.B3
      rw [wrap_id (by omega) (by omega)]
      refine ⟨⟨rfl, rfl, rfl, lG, i + 1, by omega, by omega, ?_⟩, by simp; omega⟩
      rw [atTo_succ, if_neg (by rw [hs]; decide), List.append_nil]; exact hF
  · have hge : i = es.length := by have := of_decide_eq_false hb; omega
    subst hge
    unfold F89.B1
    exact k _ _ hG hF

/-- Edges of a kind that have a vertex in common. -/
def eAdj (es : List (Int × Int)) (p : Nat → Bool) (i j : Nat) : Prop := j < es.length ∧ p j = true ∧ share (es.getD i (0, 0)) (es.getD j (0, 0))
/-- A state inside a round: the edge x is looked at; of which edges one is past. -/
structure InX (es : List (Int × Int)) (p : Nat → Bool) (e x M : Nat) (D : Nat → Prop) (S : Nat → Bool) (Q : List Nat) : Prop where
  ex : Ex (eAdj es p) e S (x :: Q)
  bnd : ∀ y, S y = true → y < es.length
  mu : 2 * unseen S es.length + (Q.length + 1) ≤ M
  past : ∀ j, D j → S j = true
theorem InX.more {es : List (Int × Int)} {p : Nat → Bool} {e x M : Nat} {D D' : Nat → Prop} {S : Nat → Bool} {Q : List Nat} (h : InX es p e x M D S Q) (hd : ∀ j, D' j → D j ∨ S j = true) : InX es p e x M D' S Q :=
  ⟨h.ex, h.bnd, h.mu, fun j hj => (hd j hj).elim (h.past j) id⟩
theorem InX.push {es : List (Int × Int)} {p : Nat → Bool} {e x M y : Nat} {D D' : Nat → Prop} {S S' : Nat → Bool} {Q : List Nat} (h : InX es p e x M D S Q) (hy : eAdj es p x y) (hn : S y = false) (hs : ∀ j, S' j = insB S y j) (hd : ∀ j, D' j → D j ∨ j = y) : InX es p e x M D' S' (Q ++ [y]) := by
  obtain rfl : S' = insB S y := funext hs
  have hx : S x = true := h.ex.q x (by simp)
  refine ⟨h.ex.push hx hy, fun z hz => ?_, ?_, fun j hj => ?_⟩
  · by_cases e' : z = y
    · rw [e']; exact hy.1
    · exact h.bnd z (insB_ne hz e')
  · have := unseen_ins (n := es.length) hy.1 hn
    have := h.mu
    simp; omega
  · rcases hd j hj with hj | rfl
    · exact insB_of (h.past j hj)
    · exact insB_self _ _
theorem InX.pop {es : List (Int × Int)} {p : Nat → Bool} {e x M : Nat} {D : Nat → Prop} {S : Nat → Bool} {Q : List Nat} (h : InX es p e x M D S Q) (hd : ∀ j, j < es.length → p j = true → (on (es.getD j (0, 0)) (en (es.getD x (0, 0)) 0) = true ∨ on (es.getD j (0, 0)) (en (es.getD x (0, 0)) 1) = true) → D j) : Ex (eAdj es p) e S Q ∧ 2 * unseen S es.length + Q.length < M := by
  refine ⟨h.ex.pop fun y hy => ?_, by have := h.mu; omega⟩
  obtain ⟨h1, h2, w, h3, h4⟩ := hy
  refine h.past y (hd y h1 h2 ?_)
  rcases on_cases h3 with rfl | rfl
  · exact .inl h4
  · exact .inr h4
theorem or_bit {s y : Nat} (j : Nat) : (s ||| 2 ^ y).testBit j = insB (fun j => s.testBit j) y j := by
  simp [insB, Nat.testBit_or, Nat.testBit_two_pow]
/-- Past the first m ends' edges. -/
def PastE (es : List (Int × Int)) (p : Nat → Bool) (x m : Nat) (j : Nat) : Prop := j < es.length ∧ p j = true ∧ ∃ m', m' < m ∧ on (es.getD j (0, 0)) (en (es.getD x (0, 0)) m') = true
/-- And past the first t edges at the next end. -/
def PastT (es : List (Int × Int)) (p : Nat → Bool) (x m t : Nat) (j : Nat) : Prop := PastE es p x m j ∨ (p j = true ∧ ∃ t', t' < t ∧ (atL es (en (es.getD x (0, 0)) m)).getD t' 0 = j ∧ t' < (atL es (en (es.getD x (0, 0)) m)).length)
theorem PastT.fin {es : List (Int × Int)} {p : Nat → Bool} {x m : Nat} {j : Nat} (h : PastE es p x (m + 1) j) : PastT es p x m (atL es (en (es.getD x (0, 0)) m)).length j := by
  obtain ⟨h1, h2, m', h3, h4⟩ := h
  by_cases e : m' = m
  · subst e
    have hm : (j : Int) ∈ atL es (en (es.getD x (0, 0)) m') := mem_atL.2 ⟨j, rfl, h1, h4⟩
    obtain ⟨t, ht, hte⟩ := List.getElem_of_mem hm
    exact .inr ⟨h2, t, ht, by rw [getD_of ht, hte], ht⟩
  · exact .inl ⟨h1, h2, m', by omega, h4⟩
theorem PastT.step {es : List (Int × Int)} {p : Nat → Bool} {x m t : Nat} {j : Nat} (h : PastT es p x m (t + 1) j) : PastT es p x m t j ∨ (p j = true ∧ (atL es (en (es.getD x (0, 0)) m)).getD t 0 = j) := by
  rcases h with h | ⟨h1, t', h2, h3, h4⟩
  · exact .inl (.inl h)
  · by_cases e : t' = t
    · subst e; exact .inr ⟨h1, h3⟩
    · exact .inl (.inr ⟨h1, t', by omega, h3, h4⟩)
theorem at_get {es : List (Int × Int)} {w : Int} {t : Nat} (h : t < (atL es w).length) : ∃ i : Nat, (atL es w).getD t 0 = i ∧ i < es.length ∧ on (es.getD i (0, 0)) w = true := by
  obtain ⟨i, h1, h2, h3⟩ := mem_atL.1 (List.getElem_mem h)
  exact ⟨i, by rw [getD_of h]; exact h1, h2, h3⟩
/-- A state that is told by bits and a queue. -/
def BitQ (m0 : Nat) (X : (Nat → Bool) → List Nat → Prop) (w : Int) (q : Value) (G : AHeap) : Prop := ∃ (s : Nat) (Q : List Nat), w = ((s : Nat) : Int) ∧ s < 2 ^ 64 ∧ X (fun j => s.testBit j) Q ∧ Sl m0 G q 2 1 (LI (NI Q))

/-- The colours of a chain. -/
def chP (c : List Int) (e : Nat) (b : Int) (j : Nat) : Bool := c.getD j 0 == c.getD e 0 || c.getD j 0 == b

theorem chain_ok {n b : Int} {e : Nat} (h : Edges H v es) (hg : IsG n es) (hc : Ints H u c) (hcl : c.length = es.length) (he : e < es.length)
    (k : ∀ (s : Nat) G, H.le G → s < 2 ^ 64 → (∀ j, s.testBit j = true → j < es.length) → (∀ j, s.testBit j = true ↔ Rch (eAdj es (chP c e b)) e j) → K (.int .u64 (s : Nat)) G) : AC Try.prog T0 56 [.agg ⟨[.int .i64 n, v]⟩, u, .int .i64 (e : Nat), .int .i64 b] H K := by
  have h30 : es.length ≤ 30 := by have := hg.ed.len; have := hg.ed.hi; omega
  apply F56.ac
  unfold F56.B20
  refine newK_f (all_iv (edges_one' h)) fun H1 l1 n1 o1 => ?_
  unfold F56.B19
  refine ⟨by omega, ?_⟩
  rw [one_shl (by omega) (by omega), Int.toNat_natCast]
  have p64 : 2 ^ e < 2 ^ 64 := Nat.pow_lt_pow_right (by decide) (by omega)
  unfold F56.B18
  refine newK_f rfl fun H2 l2 n2 o2 => ?_
  unfold F56.L2
  refine ⟨fun x1 x2 x3 x4 x9 x10 G => u = x1 ∧ (e : Int) = x2 ∧ b = x3 ∧ H.length = x4 ∧ H1.le G ∧ BitQ H1.length (fun S Q => Ex (eAdj es (chP c e b)) e S Q ∧ (∀ y, S y = true → y < es.length) ∧ 2 * unseen S es.length + Q.length ≤ 61) x9 x10 G,
    fun _ _ _ _ x9 x10 _ => 2 * unseen (fun j => x9.toNat.testBit j) es.length + lenV x10, ⟨rfl, rfl, rfl, rfl, l2, 2 ^ e, [e], rfl, p64, ⟨.init fun x => ?_, fun y hy => ?_, by have := unseen_le (fun j => (2 ^ e).testBit j) es.length; simp; omega⟩, (Fresh.sl (.inr ⟨_, 1, Nat.le_refl _, rfl, o2, rfl⟩))⟩, ?_⟩
  · rw [Nat.testBit_two_pow]; simp [eq_comm]
  · have hy : (2 ^ e).testBit y = true := hy
    rw [Nat.testBit_two_pow] at hy; have := of_decide_eq_true hy; omega
  rintro x1 x2 x3 x4 x9 x10 G ⟨rfl, rfl, rfl, rfl, hG, s, Q, rfl, hs, ⟨hE, hB, hU⟩, hQ⟩
  have lG := AHeap.le_trans l1 hG
  have oG := o1.le hG
  unfold F56.B17
  refine hQ.len (by decide) (n := Q.length) (by simp) (pif_cases (fun hb => ?_) fun hb => ?_)
  · have hpos : 0 < Q.length := by have := of_decide_eq_true hb; omega
    cases Q with
    | nil => simp at hpos
    | cons x Q =>
    have hxl : x < es.length := hB x (hE.q x (by simp))
    obtain ⟨d1, d2, d3, d4, d5⟩ := hg.ed.ends es[x] (List.getElem_mem hxl)
    rw [← getD_of (d := (0, 0)) hxl] at d1 d2 d3 d4 d5
    have hmu : 2 * unseen (fun j => (((s : Nat) : Int).toNat).testBit j) es.length + lenV x10 = 2 * unseen (fun j => s.testBit j) es.length + (Q.length + 1) := by
      rw [Sl_lenV hQ]; simp
    have hU : 2 * unseen (fun j => s.testBit j) es.length + (Q.length + 1) ≤ 61 := hU
    unfold F56.B16
    refine ld1_own oG rfl (hQ.ints.rd (by decide) (by simp) ?_)
    rw [show (NI (x :: Q)).getD (0 : Int).toNat 0 = (x : Int) from rfl]
    obtain ⟨bb, oo, hk, c1, c2⟩ := (h.le lG).idx (show (0 : Int) ≤ x by omega) (by omega)
    simp only [Int.toNat_natCast] at c1 c2
    refine hk _ (ldI_mk c1 (ldI_mk c2 ?_))
    unfold F56.L4
    refine ⟨fun x1 x2 x3 x4 x9 x10 x30a x30b x31 G => u = x1 ∧ (e : Int) = x2 ∧ b = x3 ∧ H.length = x4 ∧ (es.getD x (0, 0)).1 = x30a ∧ (es.getD x (0, 0)).2 = x30b ∧ H1.le G ∧ ∃ m : Nat, x31 = m ∧ m ≤ 2 ∧ BitQ H1.length (fun S Q' => ∃ R, Q' = x :: R ∧ InX es (chP c e b) e x (2 * unseen (fun j => s.testBit j) es.length + (Q.length + 1)) (PastE es (chP c e b) x m) S R) x9 x10 G,
      fun _ _ _ _ _ _ _ _ x31 _ => 2 - x31.toNat, ⟨rfl, rfl, rfl, rfl, rfl, rfl, hG, 0, rfl, by omega, s, x :: Q, rfl, hs, ⟨Q, rfl, hE, hB, Nat.le_refl _, fun j ⟨_, _, m', h, _⟩ => absurd h (by omega)⟩, hQ⟩, ?_⟩
    clear hQ hE hB hG oG lG hk c1 c2
    rintro x1 x2 x3 x4 x9 x10' x30a x30b x31 G ⟨rfl, rfl, rfl, rfl, rfl, rfl, hG, m, rfl, hm, s', _, rfl, hs', ⟨R, rfl, hX⟩, hQ⟩
    have lG := AHeap.le_trans l1 hG
    have oG := o1.le hG
    unfold F56.B15
    refine pif_cases (fun hb => ?_) fun hb => ?_
    · have hm2 : m < 2 := by have := of_decide_eq_true hb; omega
      unfold F56.B14
      have hat : ([.int .i64 (es.getD x (0, 0)).1, .int .i64 (es.getD x (0, 0)).2] : List Value)[(m : Int).toNat * 1]? = some (.int .i64 (en (es.getD x (0, 0)) m)) := by
        rcases (by omega : m = 0 ∨ m = 1) with rfl | rfl <;> rfl
      refine bndK_iff.2 ⟨by omega, by omega, ?_⟩
      unfold atK
      rw [hat]
      refine asI_mk ?_
      unfold F56.B13
      refine ldI_own oG rfl (ld1_own oG rfl (at_ok (h.le lG) (by omega) fun w G2 hG2 hF => ?_))
      have hv : 0 ≤ en (es.getD x (0, 0)) m ∧ en (es.getD x (0, 0)) m < n := by unfold en; split <;> omega
      have h3 := hg.three hv.1 hv.2
      refine hF.len (by decide) (n := 3) (by rw [List.length_map, h3]) ?_
      have lG2 := AHeap.le_trans hG hG2
      have hFm := hF.less (m' := H1.length) hG.1
      unfold F56.L6
      refine ⟨fun x1 x2 x3 x4 x9 x10 x30a x30b x31 x36 x37 x38 G => u = x1 ∧ (e : Int) = x2 ∧ b = x3 ∧ H.length = x4 ∧ (es.getD x (0, 0)).1 = x30a ∧ (es.getD x (0, 0)).2 = x30b ∧ (m : Int) = x31 ∧ w = x36 ∧ 3 = x37 ∧ H1.le G ∧ Sl 0 G w 2 1 (LI (atL es (en (es.getD x (0, 0)) m))) ∧ (∀ b, bk w = some b → bk x10 ≠ some b) ∧
          ∃ t : Nat, x38 = t ∧ t ≤ 3 ∧ BitQ H1.length (fun S Q' => ∃ R, Q' = x :: R ∧ InX es (chP c e b) e x (2 * unseen (fun j => s.testBit j) es.length + (Q.length + 1)) (PastT es (chP c e b) x m t) S R) x9 x10 G,
        fun _ _ _ _ _ _ _ _ _ _ _ x38 _ => 3 - x38.toNat, ⟨rfl, rfl, rfl, rfl, rfl, rfl, rfl, rfl, rfl, lG2, hF.less (Nat.zero_le _), (fun b hb hb' => by have := (hF.lt hb).1; have := (hQ.lt hb').2; omega), 0, rfl, by omega, s', x :: R, rfl, hs', ⟨R, rfl, hX.more fun j hj => .inl ?_⟩, hQ.le hG2⟩, ?_⟩
      · rcases hj with hj | ⟨_, t', h, _⟩
        · exact hj
        · exact absurd h (by omega)
      clear hX hQ hF hFm hG2 lG2 oG lG hG
      rintro x1 x2 x3 x4 x9 x10' x30a x30b x31 x36 x37 x38 G3 ⟨rfl, rfl, rfl, rfl, rfl, rfl, rfl, rfl, rfl, hG, hW, hA, t, rfl, ht, s3, _, rfl, hs3, ⟨R3, rfl, hX⟩, hQ⟩
      have lG := AHeap.le_trans l1 hG
      have hc := hc.le lG
      unfold F56.B12
      refine pif_cases (fun hb => ?_) fun hb => ?_
      · have ht3 : t < 3 := by have := of_decide_eq_true hb; omega
        obtain ⟨i, hi1, hi2, hi3⟩ := at_get (es := es) (w := en (es.getD x (0, 0)) m) (t := t) (by omega)
        have hxi : share (es.getD x (0, 0)) (es.getD i (0, 0)) := ⟨_, on_en, hi3⟩
        have hpast : ∀ j, PastT es (chP c e b) x m (t + 1) j → PastT es (chP c e b) x m t j ∨ (chP c e b j = true ∧ j = i) := fun j hj => (PastT.step hj).imp id fun ⟨h1, h2⟩ => ⟨h1, by omega⟩
        unfold F56.B11
        refine hW.ints.rd (by omega) (by omega) ?_
        simp only [Int.toNat_natCast, hi1]
        unfold F56.B10
        refine has_ok hs3 (by omega) (asB_mk ?_)
        simp only [Int.toNat_natCast]
        refine pif_cases (fun hb => ?_) fun hb => ?_
        · have hn : s3.testBit i = false := by simpa using hb
          refine hc.rd (by omega) (by omega) (hc.rd (by omega) (by omega) (pif_cases (fun h1 => ?_) fun h1 => hc.rd (by omega) (by omega) (pif_cases (fun h2 => ?_) fun h2 => ?_)))
          rotate_right
          · have hp : chP c e b i = false := by
              simp only [Int.toNat_natCast] at h1 h2
              unfold chP; rw [h1, h2]; rfl
            unfold F56.B7
            rw [wrap_id (by omega) (by omega)]
            refine ⟨⟨rfl, rfl, rfl, rfl, rfl, rfl, rfl, rfl, rfl, hG, hW, hA, t + 1, by omega, by omega, s3, x :: R3, rfl, hs3, ⟨R3, rfl, hX.more fun j hj => ?_⟩, hQ⟩, by simp; omega⟩
            rcases hpast j hj with h | ⟨h, rfl⟩
            · exact .inl h
            · rw [hp] at h; cases h
          all_goals
            have hp : chP c e b i = true := by
              simp only [Int.toNat_natCast] at h1
              try simp only [Int.toNat_natCast] at h2
              unfold chP; first | (rw [h1]; rfl) | (rw [h2]; simp)
            have pi : 2 ^ i < 2 ^ 64 := Nat.pow_lt_pow_right (by decide) (by omega)
            unfold F56.B9
            refine ⟨by omega, ?_⟩
            rw [one_shl (by omega) (by omega), Int.toNat_natCast, bits_or hs3 pi]
            unfold F56.B8
            refine hQ.pushN E_int (by decide) hG.1 (n := 1) (ys := [.int .i64 i]) rfl rfl (by have := hX.mu; simp; omega) (by simp) fun v' G4 k4 ot4 nb4 f4 => ?_
            unfold F56.B7
            rw [wrap_id (by omega) (by omega)]
            refine ⟨⟨rfl, rfl, rfl, rfl, rfl, rfl, rfl, rfl, rfl, k4.le hG (Nat.le_refl _), hW.oth ot4 hA, (fun b hb hb' => by have := (hW.lt hb).2; have := nb4 b hb'; omega), t + 1, by omega, by omega, s3 ||| 2 ^ i, x :: (R3 ++ [i]), rfl, or_lt hs3 pi, ⟨R3 ++ [i], rfl, hX.push ⟨hi2, hp, hxi⟩ hn or_bit fun j hj => ?_⟩, ?_⟩, by simp; omega⟩
            · exact (hpast j hj).imp id fun h => h.2
            · have := f4.sl
              simpa using this
        · have hn : s3.testBit i = true := by simpa using hb
          unfold F56.B7
          rw [wrap_id (by omega) (by omega)]
          refine ⟨⟨rfl, rfl, rfl, rfl, rfl, rfl, rfl, rfl, rfl, hG, hW, hA, t + 1, by omega, by omega, s3, x :: R3, rfl, hs3, ⟨R3, rfl, hX.more fun j hj => ?_⟩, hQ⟩, by simp; omega⟩
          rcases hpast j hj with h | ⟨h, rfl⟩
          · exact .inl h
          · exact .inr hn
      · have ht3 : t = 3 := by have := of_decide_eq_false hb; omega
        subst ht3
        unfold F56.B5
        rw [wrap_id (by omega) (by omega)]
        exact ⟨⟨rfl, rfl, rfl, rfl, rfl, rfl, hG, m + 1, by omega, by omega, s3, x :: R3, rfl, hs3, ⟨R3, rfl, hX.more fun j hj => .inl (by rw [← h3]; exact PastT.fin hj)⟩, hQ⟩, by simp; omega⟩
    · have hm2 : m = 2 := by have := of_decide_eq_false hb; omega
      subst hm2
      unfold F56.B3
      obtain ⟨hE, hlt⟩ := hX.pop fun j h1 h2 h3 => ⟨h1, h2, h3.elim (fun h => ⟨0, by omega, h⟩) fun h => ⟨1, by omega, h⟩⟩
      refine hQ.drop (i := 1) (n := R.length + 1) (by simp) (by decide) (by omega) (by omega) fun v' hv' => ?_
      have hv' : Sl H1.length G v' 2 1 (LI (NI R)) := by simpa using hv'
      refine ⟨⟨rfl, rfl, rfl, rfl, hG, s', R, rfl, hs', ⟨hE, hX.bnd, by omega⟩, hv'⟩, ?_⟩
      show 2 * unseen (fun j => (((s' : Nat) : Int).toNat).testBit j) es.length + lenV v' < 2 * unseen (fun j => (((s : Nat) : Int).toNat).testBit j) es.length + lenV x10
      rw [hmu, Sl_lenV hv']
      simpa using hlt
  · have hz : Q = [] := by
      have := of_decide_eq_false hb
      cases Q with
      | nil => rfl
      | cons x Q => simp at this
    subst hz
    unfold F56.B1
    exact k s G lG hs hB hE.fin
end Go.Proofs
