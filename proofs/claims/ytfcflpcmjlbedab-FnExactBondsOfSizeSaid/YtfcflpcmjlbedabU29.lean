/- Contracts: how far the vertices are. -/
import Derived.Test.YtfcflpcmjlbedabU28
import Derived.Test.YtfcflpcmjlbedabU12
import Derived.Test.YtfcflpcmjlbedabM8
set_option linter.unusedVariables false
set_option linter.unusedSimpArgs false
set_option maxRecDepth 100000
namespace Go.Proofs
open Go.Abs

variable {H G : AHeap} {v u f : Value} {l m c D : List Int} {es fs : List (Int × Int)} {K : Value → AHeap → Prop}

theorem other_ok {e : Int × Int} {x : Int} (h1 : 0 ≤ e.1 ∧ e.1 ≤ 1000000) (h2 : 0 ≤ e.2 ∧ e.2 ≤ 1000000) (h3 : 0 ≤ x ∧ x ≤ 1000000) (k : ∀ G, H.le G → K (.int .i64 (e.1 + e.2 - x)) G) : AC Try.prog T0 181 [ve e, .int .i64 x] H K := by
  apply F181.ac
  unfold F181.B2
  refine newK_f rfl fun H1 l1 n1 o1 => ?_
  unfold F181.B1
  have k := k _ l1
  refine ldI_own o1 rfl (ldI_own o1 rfl ?_)
  rw [wrap_id (x := e.1 + e.2) (by omega) (by omega), wrap_id (by omega) (by omega)]
  exact k

/-- What is not too far. -/
def farB (D : List Int) (w : Nat) : Bool := decide (w < D.length ∧ 0 ≤ D.getD w 0)
theorem farB_lt {w : Nat} (h : farB D w = true) : w < D.length := (of_decide_eq_true h).1
theorem farB_iff {w : Nat} (h : w < D.length) : farB D w = true ↔ 0 ≤ D.getD w 0 := by unfold farB; rw [decide_eq_true_iff]; exact ⟨fun h => h.2, fun h' => ⟨h, h'⟩⟩
theorem farB_set {y : Nat} {d : Int} (h : y < D.length) (hd : 0 ≤ d) : farB (D.set y d) = insB (farB D) y := by
  funext j
  unfold farB insB
  rw [List.length_set]
  by_cases e : y = j
  · subst e; rw [getD_set_self h]; simp [h, hd]
  · rw [getD_set_ne e]; simp [e]
structure FarOk (n : Nat) (D : List Int) : Prop where
  len : D.length = n
  rng : ∀ w, w < n → -1 ≤ D.getD w 0 ∧ D.getD w 0 + unseen (farB D) n ≤ 21
theorem FarOk.set {n x y : Nat} (h : FarOk n D) (hx : farB D x = true) (hy : y < n) (hf : farB D y = false) : FarOk n (D.set y (D.getD x 0 + 1)) := by
  have hl := h.len
  have hxl := farB_lt hx
  have hx0 := (farB_iff hxl).1 hx
  have hu := unseen_ins (S := farB D) hy hf
  refine ⟨by simp [hl], fun w hw => ?_⟩
  rw [farB_set (by omega) (by omega)]
  by_cases e : y = w
  · subst e
    rw [getD_set_self (by omega)]
    have := h.rng x (by omega)
    omega
  · rw [getD_set_ne e]
    have := h.rng w hw
    omega
/-- A state inside a round. -/
structure InV (adj : Nat → Nat → Prop) (a x n M : Nat) (D' : Nat → Prop) (S : Nat → Bool) (R : List Nat) : Prop where
  ex : Ex adj a S (x :: R)
  bnd : ∀ y, S y = true → y < n
  mu : 2 * unseen S n + (R.length + 1) ≤ M
  past : ∀ j, D' j → S j = true
section
variable {adj : Nat → Nat → Prop} {a x n M : Nat} {D' D2 : Nat → Prop} {S : Nat → Bool} {R : List Nat}
theorem InV.more (h : InV adj a x n M D' S R) (hd : ∀ j, D2 j → D' j ∨ S j = true) : InV adj a x n M D2 S R :=
  ⟨h.ex, h.bnd, h.mu, fun j hj => (hd j hj).elim (h.past j) id⟩
theorem InV.push {y : Nat} (h : InV adj a x n M D' S R) (hy : adj x y) (hyn : y < n) (hn : S y = false) (hd : ∀ j, D2 j → D' j ∨ j = y) : InV adj a x n M D2 (insB S y) (R ++ [y]) := by
  have hx : S x = true := h.ex.q x (by simp)
  refine ⟨h.ex.push hx hy, fun z hz => ?_, ?_, fun j hj => ?_⟩
  · by_cases e' : z = y
    · rw [e']; exact hyn
    · exact h.bnd z (insB_ne hz e')
  · have := unseen_ins (n := n) hyn hn
    have := h.mu
    simp; omega
  · rcases hd j hj with hj | rfl
    · exact insB_of (h.past j hj)
    · exact insB_self _ _
theorem InV.pop (h : InV adj a x n M D' S R) (hd : ∀ j, adj x j → D' j) : Ex adj a S R ∧ 2 * unseen S n + R.length < M :=
  ⟨h.ex.pop fun y hy => h.past y (hd y hy), by have := h.mu; omega⟩
end
/-- Past the first t edges at a vertex. -/
def PastV (es : List (Int × Int)) (p : Nat → Bool) (x t : Nat) (j : Nat) : Prop := ∃ t', t' < t ∧ t' < (atL es x).length ∧ p ((atL es x).getD t' 0).toNat = false ∧ (j : Int) = (es.getD ((atL es x).getD t' 0).toNat (0, 0)).1 + (es.getD ((atL es x).getD t' 0).toNat (0, 0)).2 - x
theorem PastV.step {p : Nat → Bool} {x t j i : Nat} (h : PastV es p x (t + 1) j) (hi : (atL es x).getD t 0 = i) : PastV es p x t j ∨ (p i = false ∧ (j : Int) = (es.getD i (0, 0)).1 + (es.getD i (0, 0)).2 - x) := by
  obtain ⟨t', h1, h2, h3, h4⟩ := h
  by_cases e : t' = t
  · subst e; rw [hi, Int.toNat_natCast] at h3 h4; exact .inr ⟨h3, h4⟩
  · exact .inl ⟨t', by omega, h2, h3, h4⟩
theorem PastV.fin {p : Nat → Bool} {x j : Nat} (h : vAdj (restL es p) x j) : PastV es p x (atL es x).length j := by
  have : ∃ i, i < es.length ∧ p i = false ∧ on (es.getD i (0, 0)) x = true ∧ (j : Int) = (es.getD i (0, 0)).1 + (es.getD i (0, 0)).2 - x := by
    rcases h with h | h
    · obtain ⟨i, h1, h2, h3⟩ := mem_restL.1 h
      exact ⟨i, h1, h2, by rw [← h3]; unfold on; simp, by rw [← h3]; simp only; omega⟩
    · obtain ⟨i, h1, h2, h3⟩ := mem_restL.1 h
      exact ⟨i, h1, h2, by rw [← h3]; unfold on; simp, by rw [← h3]; simp only; omega⟩
  obtain ⟨i, h1, h2, h3, h4⟩ := this
  have hm : (i : Int) ∈ atL es x := mem_atL.2 ⟨i, rfl, h1, h3⟩
  obtain ⟨t, ht, hte⟩ := List.getElem_of_mem hm
  have e : (atL es x).getD t 0 = i := by rw [getD_of ht, hte]
  exact ⟨t, ht, ht, by rw [e]; exact h2, by rw [e]; exact h4⟩
theorem adj_of {p : Nat → Bool} {x y i : Nat} (h1 : i < es.length) (h2 : p i = false) (h3 : on (es.getD i (0, 0)) x = true) (h4 : (y : Int) = (es.getD i (0, 0)).1 + (es.getD i (0, 0)).2 - x) : vAdj (restL es p) x y := by
  unfold on at h3
  simp only [Bool.or_eq_true, beq_iff_eq] at h3
  rcases h3 with h | h
  · refine .inl (mem_restL.2 ⟨i, h1, h2, ?_⟩)
    rw [← h, show (y : Int) = (es.getD i (0, 0)).2 by omega]
  · refine .inr (mem_restL.2 ⟨i, h1, h2, ?_⟩)
    rw [← h, show (y : Int) = (es.getD i (0, 0)).1 by omega]

theorem on_oth {e : Int × Int} {x : Int} (h : on e x = true) : e.1 + e.2 - x = e.1 ∨ e.1 + e.2 - x = e.2 := by
  unfold on at h
  simp only [Bool.or_eq_true, beq_iff_eq] at h
  omega
/-- A state of far vertices and a queue. -/
def FarQ (n m0 b0 : Nat) (X : (Nat → Bool) → List Nat → Prop) (x7 q : Value) (G : AHeap) : Prop := x7 = .slice (some ⟨b0, 0, none⟩) n (n + 1) ∧ ∃ (D : List Int) (Q : List Nat), Own G b0 2 (LI D) ∧ FarOk n D ∧ X (farB D) Q ∧ Sl m0 G q 2 1 (LI (NI Q))
def rowFar (G : AHeap) (b : Nat) : Nat → Bool :=
  match G[b]? with
  | some (some (.row cs _ _)) => farB (cs.map fun | .int _ x => x | _ => 0)
  | _ => fun _ => false
theorem rowFar_own {b : Nat} {t : TypeId} (h : Own G b t (LI D)) : rowFar G b = farB D := by
  unfold rowFar; rw [h]; simp only [LI, List.map_map]
  congr 1
  conv => rhs; rw [← List.map_id D]
  rfl

theorem distances_ok {n : Int} {a s : Nat} (h : Edges H v es) (hg : IsG n es) (hs : s < 2 ^ 64) (ha : a < n.toNat)
    (k : ∀ b0 D G, H.le G → H.length ≤ b0 → Own G b0 2 (LI D) → D.length = n.toNat → (∀ w, w < n.toNat → (0 ≤ D.getD w 0 ↔ Rch (vAdj (restL es fun j => s.testBit j)) a w)) → K (.slice (some ⟨b0, 0, none⟩) n.toNat (n.toNat + 1)) G) :
    AC Try.prog T0 161 [.agg ⟨[.int .i64 n, v]⟩, .int .i64 (a : Nat), .int .u64 (s : Nat)] H K := by
  have n0 := hg.ed.lo; have n1 := hg.ed.hi
  have h30 : es.length ≤ 30 := by have := hg.ed.len; omega
  apply F161.ac
  unfold F161.B17
  refine newK_f (all_iv (edges_one' h)) fun H1 l1 _ o1 => ?_
  unfold F161.B16
  refine newK_f rfl fun H2 l2 _ o2 => ldI_own (o1.le l2) rfl (repeat_ok (t := -1) (by simpa using o2) (by omega) (by omega) fun H3 l3 o3 => ?_)
  have l13 := AHeap.le_trans l2 l3
  obtain ⟨b0, hb0⟩ : ∃ b0, b0 = H2.length := ⟨_, rfl⟩
  have hb0l : H1.length ≤ b0 := by rw [hb0]; exact l2.1
  rw [← hb0] at o3
  rw [← hb0]
  clear o2 hb0
  unfold F161.B15
  refine own_idx (by omega) (by omega) (stK_1 o3 (by simp; omega) rfl fun H4 b4 o4 => ?_)
  rw [Int.toNat_natCast, show LI (List.replicate n.toNat (-1)) = (List.replicate n.toNat (-1)).map (Value.int .i64) from rfl, ← List.map_set] at o4
  have o4 : Own H4 b0 2 (LI ((List.replicate n.toNat (-1)).set a 0)) := o4
  have hb03 : b0 < H4.length := o4.lt
  have l14 : H1.le H4 := b4.le l13 hb0l
  unfold F161.B14
  refine newK_f rfl fun H5 l5 _ o5 => ?_
  obtain ⟨p, hp⟩ : ∃ p : Nat → Bool, p = fun j => s.testBit j := ⟨_, rfl⟩
  rw [← hp] at k
  have D0 : ∀ w, w < n.toNat → ((List.replicate n.toNat (-1)).set a (0 : Int)).getD w 0 = if a = w then 0 else -1 := by
    intro w hw
    by_cases e : a = w
    · subst e; rw [if_pos rfl]; exact getD_set_self (by simp; omega)
    · rw [if_neg e, getD_set_ne e]; simp [List.getD, hw]
  have F0 : ∀ w, farB ((List.replicate n.toNat (-1)).set a (0 : Int)) w = true ↔ w = a := by
    intro w
    by_cases hw : w < n.toNat
    · rw [farB_iff (by simp; omega), D0 w hw]
      by_cases e : a = w
      · subst e; simp
      · rw [if_neg e]; exact ⟨fun h => absurd h (by decide), fun h => absurd h.symm e⟩
    · exact ⟨fun h => absurd (farB_lt h) (by simp; omega), fun h => by omega⟩
  unfold F161.L2
  refine ⟨fun x2 x3 x7 x8 G => ((s : Nat) : Int) = x2 ∧ H.length = x3 ∧ H1.le G ∧ H4.length ≤ G.length ∧ FarQ n.toNat H4.length b0 (fun S Q => Ex (vAdj (restL es p)) a S Q ∧ (∀ y, S y = true → y < n.toNat) ∧ 2 * unseen S n.toNat + Q.length ≤ 41) x7 x8 G,
    fun _ _ _ x8 G => 2 * unseen (rowFar G b0) n.toNat + lenV x8, ⟨rfl, rfl, AHeap.le_trans l14 l5, l5.1, rfl, _, [a], o4.le l5, ⟨by simp, fun w hw => ?_⟩, ⟨.init F0, fun y hy => ?_, ?_⟩, Fresh.sl (.inr ⟨_, 1, Nat.le_refl _, rfl, o5, rfl⟩)⟩, ?_⟩
  · rw [D0 w hw]
    have := unseen_le (farB ((List.replicate n.toNat (-1)).set a (0 : Int))) n.toNat
    split <;> omega
  · rw [(F0 y).1 hy]; exact ha
  · have := unseen_le (farB ((List.replicate n.toNat (-1)).set a (0 : Int))) n.toNat
    simp; omega
  clear o5 l5 D0 F0 o4 o3 b4
  rintro x2 x3 x7 x8 G ⟨rfl, rfl, hG, hM4, rfl, D, Q, oD, hD, ⟨hE, hB, hU⟩, hQ⟩
  have oG := o1.le hG
  unfold F161.B13
  refine hQ.len (by decide) (n := Q.length) (by simp) (pif_cases (fun hb => ?_) fun hb => ?_)
  · have hpos : 0 < Q.length := by have := of_decide_eq_true hb; omega
    cases Q with
    | nil => simp at hpos
    | cons x Q =>
    have hxl : x < n.toNat := hB x (hE.q x (by simp))
    have hmu : 2 * unseen (rowFar G b0) n.toNat + lenV x8 = 2 * unseen (farB D) n.toNat + (Q.length + 1) := by
      rw [Sl_lenV hQ, rowFar_own oD]; simp
    have hU : 2 * unseen (farB D) n.toNat + (Q.length + 1) ≤ 41 := hU
    obtain ⟨M, hM⟩ : ∃ M, M = 2 * unseen (farB D) n.toNat + (Q.length + 1) := ⟨_, rfl⟩
    unfold F161.B12
    refine ldI_own oG rfl (ld1_own oG rfl (hQ.ints.rd (by decide) (by simp) ?_))
    rw [show (NI (x :: Q)).getD (0 : Int).toNat 0 = (x : Int) from rfl]
    have lG := AHeap.le_trans l1 hG
    refine at_ok (h.le lG) (by omega) fun w G2 hG2 hF => ?_
    have h3 := hg.three (v := (x : Int)) (by omega) (by omega)
    refine hF.len (by decide) (n := 3) (by rw [List.length_map, h3]) ?_
    have lG2 := AHeap.le_trans hG hG2
    have hbG : b0 < G.length := oD.lt
    unfold F161.L4
    refine ⟨fun x2 x3 x7 x8 x30 x31 x32 G => ((s : Nat) : Int) = x2 ∧ H.length = x3 ∧ w = x30 ∧ 3 = x31 ∧ H1.le G ∧ H4.length ≤ G.length ∧ Sl H4.length G w 2 1 (LI (atL es x)) ∧ (∀ b, bk w = some b → bk x8 ≠ some b) ∧
        ∃ t : Nat, x32 = t ∧ t ≤ 3 ∧ FarQ n.toNat H4.length b0 (fun S Q' => ∃ R, Q' = x :: R ∧ InV (vAdj (restL es p)) a x n.toNat M (PastV es p x t) S R) x7 x8 G,
      fun _ _ _ _ _ _ x32 _ => 3 - x32.toNat, ⟨rfl, rfl, rfl, rfl, lG2, Nat.le_trans hM4 hG2.1, hF.less hM4, (fun b hb hb' => by have := (hF.lt hb).1; have := (hQ.lt hb').2; omega), 0, rfl, by omega, rfl, D, x :: Q, oD.le hG2, hD, ⟨Q, rfl, hE, hB, by omega, fun j ⟨t', h, _⟩ => absurd h (by omega)⟩, hQ.le hG2⟩, ?_⟩
    clear hQ hE hB hF hG2 lG2 oG lG hG hM4 hbG oD hD
    rintro x2 x3 x7 x8' x30 x31 x32 G3 ⟨rfl, rfl, rfl, rfl, hG, hM4, hW, hA, t, rfl, ht, rfl, D3, _, oD, hD, ⟨R, rfl, hX⟩, hQ⟩
    have lG := AHeap.le_trans l1 hG
    have oG := o1.le hG
    unfold F161.B11
    refine pif_cases (fun hb => ?_) fun hb => ?_
    · have ht3 : t < 3 := by have := of_decide_eq_true hb; omega
      obtain ⟨i, hi1, hi2, hi3⟩ := at_get (es := es) (w := (x : Int)) (t := t) (by omega)
      obtain ⟨d1, d2, d3, d4, d5⟩ := hg.ed.ends es[i] (List.getElem_mem hi2)
      rw [← getD_of (d := (0, 0)) hi2] at d1 d2 d3 d4 d5
      obtain ⟨y, hy⟩ : ∃ y : Nat, (es.getD i (0, 0)).1 + (es.getD i (0, 0)).2 - (x : Int) = y := ⟨((es.getD i (0, 0)).1 + (es.getD i (0, 0)).2 - (x : Int)).toNat, by rcases on_oth hi3 with e | e <;> omega⟩
      have hyn : y < n.toNat := by rcases on_oth hi3 with e | e <;> omega
      have hstep : ∀ j, PastV es p x (t + 1) j → PastV es p x t j ∨ (p i = false ∧ j = y) := fun j hj => (PastV.step hj hi1).imp id fun ⟨h1, h2⟩ => ⟨h1, by omega⟩
      unfold F161.B10
      refine hW.ints.rd (by omega) (by omega) ?_
      simp only [Int.toNat_natCast, hi1]
      unfold F161.B9
      obtain ⟨bb, oo, hk, c1, c2⟩ := (h.le lG).idx (show (0 : Int) ≤ i by omega) (by omega)
      simp only [Int.toNat_natCast] at c1 c2
      refine ld1_own oG rfl (hk _ (ldI_mk c1 (ldI_mk c2 (hQ.ints.rd (by decide) (by simp) ?_))))
      rw [show (NI (x :: R)).getD (0 : Int).toNat 0 = (x : Int) from rfl]
      refine other_ok (e := es.getD i (0, 0)) (by omega) (by omega) (by omega) fun G4 l4 => asI_mk ?_
      rw [hy]
      have hG := AHeap.le_trans hG l4
      have hM4 := Nat.le_trans hM4 l4.1
      have hW := hW.le l4
      have oD := oD.le l4
      have hQ := hQ.le l4
      have oi := own_ints (c := n.toNat + 1) oD
      rw [hD.len] at oi
      have hyl : y < D3.length := by rw [hD.len]; exact hyn
      have hxl3 : x < D3.length := by rw [hD.len]; exact hxl
      have pi' : p i = s.testBit i := by rw [hp]
      unfold F161.B8
      refine oi.rd (by omega) (by omega) (pif_cases (fun hb => ?_) fun hb => ?_)
      · have hn : farB D3 y = false := by
          have := of_decide_eq_true hb
          rw [Int.toNat_natCast] at this
          cases hf : farB D3 y with
          | false => rfl
          | true => have := (farB_iff hyl).1 hf; omega
        refine has_ok hs (by omega) (asB_mk ?_)
        rw [Int.toNat_natCast, ← pi']
        refine pif_cases (fun hb => ?_) fun hb => ?_
        · have hpi : p i = false := by simpa using hb
          have hx3 : farB D3 x = true := hX.ex.q x (by simp)
          have hx0 := (farB_iff hxl3).1 hx3
          have hr := (hD.rng x hxl).2
          unfold F161.B7
          refine hQ.ints.rd (by decide) (by simp) ?_
          rw [show (NI (x :: R)).getD (0 : Int).toNat 0 = (x : Int) from rfl]
          refine oi.rd (by omega) (by omega) (own_idx (by omega) (by omega) (stK_1 oD (by simp; omega) rfl fun G5 b5 o5 => ?_))
          rw [Int.toNat_natCast, Int.toNat_natCast, wrap_id (by omega) (by omega)] at o5
          have o5 : Own G5 b0 2 (LI (D3.set y (D3.getD x 0 + 1))) := by rw [← List.map_set] at o5; exact o5
          have hD5 := hD.set hx3 hyn hn
          have hG5 := b5.le hG hb0l
          have hQ5 := hQ.but b5 hb03
          have hW5 := hW.but b5 hb03
          unfold F161.B6
          refine hQ5.pushN E_int (by decide) (by rw [b5.len]; exact hM4) (n := 1) (ys := [.int .i64 y]) rfl rfl (by have := hX.mu; simp; omega) (by simp) fun v' G6 k6 ot6 nb6 f6 => ?_
          unfold F161.B5
          rw [wrap_id (by omega) (by omega)]
          refine ⟨⟨rfl, rfl, rfl, rfl, k6.le hG5 (by omega), by have := k6.len; have := b5.len; omega, hW5.oth ot6 hA, (fun b hb hb' => by have := (hW5.lt hb).2; have := nb6 b hb'; omega), t + 1, by omega, by omega, rfl, _, x :: (R ++ [y]), k6.own o5 hb03, hD5, ⟨R ++ [y], rfl, ?_⟩, by simpa using f6.sl⟩, by simp; omega⟩
          rw [farB_set hyl (by omega)]
          exact hX.push (adj_of hi2 hpi hi3 hy.symm) hyn hn fun j hj => (hstep j hj).imp id fun h => h.2
        · have hpi : p i = true := by simpa using hb
          unfold F161.B5
          rw [wrap_id (by omega) (by omega)]
          refine ⟨⟨rfl, rfl, rfl, rfl, hG, hM4, hW, hA, t + 1, by omega, by omega, rfl, D3, x :: R, oD, hD, ⟨R, rfl, hX.more fun j hj => ?_⟩, hQ⟩, by simp; omega⟩
          rcases hstep j hj with h | ⟨h, rfl⟩
          · exact .inl h
          · rw [hpi] at h; cases h
      · have hn : farB D3 y = true := by
          have := of_decide_eq_false hb
          rw [Int.toNat_natCast] at this
          exact (farB_iff hyl).2 (by omega)
        unfold F161.B5
        rw [wrap_id (by omega) (by omega)]
        refine ⟨⟨rfl, rfl, rfl, rfl, hG, hM4, hW, hA, t + 1, by omega, by omega, rfl, D3, x :: R, oD, hD, ⟨R, rfl, hX.more fun j hj => ?_⟩, hQ⟩, by simp; omega⟩
        rcases hstep j hj with h | ⟨h, rfl⟩
        · exact .inl h
        · exact .inr hn
    · have ht3 : t = 3 := by have := of_decide_eq_false hb; omega
      subst ht3
      unfold F161.B3
      obtain ⟨hE, hlt⟩ := hX.pop fun j hj => by rw [← h3]; exact PastV.fin hj
      refine hQ.drop (i := 1) (n := R.length + 1) (by simp) (by decide) (by omega) (by omega) fun v' hv' => ?_
      have hv' : Sl H4.length G3 v' 2 1 (LI (NI R)) := by simpa using hv'
      refine ⟨⟨rfl, rfl, hG, hM4, rfl, D3, R, oD, hD, ⟨hE, hX.bnd, by omega⟩, hv'⟩, ?_⟩
      show 2 * unseen (rowFar G3 b0) n.toNat + lenV v' < 2 * unseen (rowFar G b0) n.toNat + lenV x8
      rw [hmu, Sl_lenV hv', rowFar_own oD]
      simpa [hM] using hlt
  · have hz : Q = [] := by
      have := of_decide_eq_false hb
      cases Q with
      | nil => rfl
      | cons x Q => simp at this
    subst hz
    unfold F161.B1
    refine k b0 D G (AHeap.le_trans l1 hG) (by have := l1.1; omega) oD hD.len fun w hw => ?_
    rw [← farB_iff (by have := hD.len; omega)]
    exact hE.fin w
end Go.Proofs
