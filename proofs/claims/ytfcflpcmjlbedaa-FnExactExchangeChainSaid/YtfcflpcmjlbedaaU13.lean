/- Contracts: chains, the reference's way; lists of one's own. -/
import Derived.Test.YtfcflpcmjlbedaaU12
set_option linter.unusedVariables false
set_option linter.unusedSimpArgs false
set_option maxRecDepth 100000
namespace Go.Proofs
open Go.Abs

variable {H : AHeap} {v u f : Value} {l m c : List Int} {es fs : List (Int × Int)} {K : Value → AHeap → Prop}

theorem ints_cells (h : Ints H v l) : cellsAt H v 1 l.length (LI l) := by
  refine ⟨by simp, ?_⟩
  rcases h with ⟨rfl, rfl⟩ | ⟨a, c, rfl, h⟩
  · exact ⟨none, 0, rfl, .inl rfl⟩
  · refine ⟨some a, c, rfl, ?_⟩
    rcases h with rfl | ⟨h1, h2⟩
    · exact .inl rfl
    · refine .inr ⟨a.block, a.off, ?_, fun i u hu => ?_⟩
      · cases a; cases h1; rfl
      · rw [List.getElem?_map] at hu
        cases hx : l[i]? with
        | none => rw [hx] at hu; cases hu
        | some x => rw [hx] at hu; cases hu; exact h2 i x hx
theorem own_app (h : Ints H v l) (hl : l.length ≤ 4294967296) (k : ∀ v' G, H.le G → Fresh H.length G v' 2 1 (LI l) → K v' G) :
    newK H [] 2 (fun b1 H2 => apK T0 2 H2 (.slice (some ⟨b1, 0, none⟩) 0 (0 + 1)) v K) := by
  refine newK_f rfl fun H2 l2 n2 o2 => ?_
  have f2 : Fresh H.length H2 (.slice (some ⟨H.length, 0, none⟩) 0 (0 + 1)) 2 1 [] := .inr ⟨_, 0, Nat.le_refl _, rfl, o2, rfl⟩
  refine f2.sl.app E_int (by decide) l2.1 (ints_cells (h.le l2)) (by simpa using hl) (fun h0 => ?_) fun v' G k3 _ _ f3 => ?_
  · exact k _ _ l2 (by rw [h0]; exact f2)
  · exact k _ _ (k3.le l2 (Nat.le_refl _)) f3
theorem l01Own_ok (h : Ints H v l) (hl : l.length ≤ 4294967296) (k : ∀ v' G, H.le G → Fresh H.length G v' 2 1 (LI l) → K v' G) : AC Try.prog T0 63 [v] H K := by
  apply F63.ac
  unfold F63.B2 F63.B1
  exact own_app h hl k
theorem clone_ok (h : Ints H v l) (hl : l.length ≤ 4294967296) (k : ∀ v' G, H.le G → Fresh H.length G v' 2 1 (LI l) → K v' G) : AC Try.prog T0 94 [v] H K := by
  apply F94.ac
  unfold F94.B4 F94.B3
  rcases h with ⟨rfl, rfl⟩ | ⟨a, c, rfl, h⟩
  · show F94.B2 K H
    unfold F94.B2
    exact k _ _ (AHeap.le_refl _) (.inl ⟨rfl, .inl rfl⟩)
  · show F94.B1 K _ H
    unfold F94.B1
    exact own_app (.inr ⟨a, c, rfl, h⟩) hl k

/-- A state that is told by a row of Bools and a list with a place in it. -/
def BolQ (b0 N : Nat) (X : (Nat → Bool) → List Nat → Prop) (q : Value) (i : Int) (G : AHeap) : Prop :=
  ∃ (S : List Bool) (L : List Nat) (k : Nat), i = (k : Int) ∧ k ≤ L.length ∧ S.length = N ∧ Own G b0 4 (LB S) ∧ X (fun j => S.getD j false) (L.drop k) ∧ L.length + unseen (fun j => S.getD j false) N ≤ N + 1 ∧ Sl (b0 + 1) G q 2 1 (LI (NI L))
theorem setB {S : List Bool} {y : Nat} (h : y < S.length) (j : Nat) : (S.set y true).getD j false = insB (fun j => S.getD j false) y j := by
  unfold insB
  simp only [List.getD, List.getElem?_set]
  by_cases e : y = j
  · subst e; simp [h]
  · simp [e]
theorem LB_get {S : List Bool} {i : Nat} (h : i < S.length) : (LB S)[i]? = some (.bool (S.getD i false)) := by simp [h]
theorem getB_lt {S : List Bool} {j : Nat} (h : S.getD j false = true) : j < S.length := by
  rcases Nat.lt_or_ge j S.length with h' | h'
  · exact h'
  · simp [List.getD, List.getElem?_eq_none h'] at h

theorem l02Chain_ok {n b : Int} {e : Nat} (h : Edges H v es) (hg : IsG n es) (hc : Ints H u c) (hcl : c.length = es.length) (he : e < es.length)
    (k : ∀ b0 (S : List Bool) G, H.le G → Own G b0 4 (LB S) → H.length ≤ b0 → S.length = es.length → (∀ j, S.getD j false = true ↔ Rch (eAdj es (chP c e b)) e j) → K (.slice (some ⟨b0, 0, none⟩) es.length (es.length + 1)) G) :
    AC Try.prog T0 54 [.agg ⟨[.int .i64 n, v]⟩, u, .int .i64 (e : Nat), .int .i64 b] H K := by
  have h30 : es.length ≤ 30 := by have := hg.ed.len; have := hg.ed.hi; omega
  apply F54.ac
  unfold F54.B21
  refine newK_f (all_iv (edges_one' h)) fun H1 l1 n1 o1 => ?_
  unfold F54.B20
  refine (hc.le l1).len (mkR_int (by omega) (by omega) (by decide) fun H2 l2 n2 o2 => newK_f rfl fun H3 l3 n3 o3 => ?_)
  rw [Int.toNat_natCast, hcl] at o2
  rw [Int.toNat_natCast, hcl]
  rw [rep_b] at o2
  unfold F54.B19
  refine own_idx (by omega) (by omega) (stK_1 (o2.le l3) (by simp; omega) rfl fun H4 b4 o4 => ?_)
  have l4 : H1.le H4 := b4.le (AHeap.le_trans l2 l3) (Nat.le_refl _)
  have q4 : Sl (H1.length + 1) H4 (.slice (some ⟨H2.length, 0, none⟩) 1 (1 + 1)) 2 1 (LI (NI [e])) := Sl.but (Fresh.sl (.inr ⟨_, 1, by omega, rfl, o3, rfl⟩)) b4 (by omega)
  have s4 : ∀ x, ((List.replicate es.length false).set e true).getD x false = true ↔ x = e := by
    intro x
    rw [setB (by simpa using he)]
    unfold insB
    simp only [List.getD, List.getElem?_replicate]
    split <;> simp [eq_comm]
  have u4 := unseen_le (fun j => ((List.replicate es.length false).set e true).getD j false) es.length
  unfold F54.B18 F54.L2
  refine ⟨fun x1 x2 x3 x4 x9 x10 x11 G => u = x1 ∧ (e : Int) = x2 ∧ b = x3 ∧ H.length = x4 ∧ .slice (some ⟨H1.length, 0, none⟩) es.length (es.length + 1) = x9 ∧ H1.le G ∧ BolQ H1.length es.length (fun S Q => Ex (eAdj es (chP c e b)) e S Q ∧ ∀ y, S y = true → y < es.length) x10 x11 G,
    fun _ _ _ _ _ _ x11 _ => es.length + 1 - x11.toNat, ⟨rfl, rfl, rfl, rfl, rfl, l4, (List.replicate es.length false).set e true, [e], 0, rfl, by simp, by simp, by simpa using o4, ⟨.init s4, fun y hy => by have := (s4 y).1 hy; omega⟩, by simp only [List.length_singleton]; omega, q4⟩, ?_⟩
  rintro x1 x2 x3 x4 x9 x10 x11 G ⟨rfl, rfl, rfl, rfl, rfl, hG, S, L, i0, rfl, hi0, hS, oS, ⟨hE, hB⟩, hU, hQ⟩
  have lG := AHeap.le_trans l1 hG
  have oG := o1.le hG
  unfold F54.B17
  refine hQ.len (by decide) (n := L.length) (by simp) (pif_cases (fun hb => ?_) fun hb => ?_)
  · have hlt : i0 < L.length := by have := of_decide_eq_true hb; omega
    have hdr : L.drop i0 = L[i0] :: L.drop (i0 + 1) := List.drop_eq_getElem_cons hlt
    obtain ⟨x, hx⟩ : ∃ x, L[i0] = x := ⟨_, rfl⟩
    rw [hdr, hx] at hE
    have hxl : x < es.length := hB x (hE.q x (by simp))
    obtain ⟨d1, d2, d3, d4, d5⟩ := hg.ed.ends es[x] (List.getElem_mem hxl)
    rw [← getD_of (d := (0, 0)) hxl] at d1 d2 d3 d4 d5
    obtain ⟨M, hM⟩ : ∃ M, M = 2 * unseen (fun j => S.getD j false) es.length + ((L.drop (i0 + 1)).length + 1) := ⟨_, rfl⟩
    unfold F54.B16 F54.L4
    refine ⟨fun x1 x2 x3 x4 x9 x10 x11 x12 G => u = x1 ∧ (e : Int) = x2 ∧ b = x3 ∧ H.length = x4 ∧ .slice (some ⟨H1.length, 0, none⟩) es.length (es.length + 1) = x9 ∧ H1.le G ∧ (i0 : Int) = x11 ∧ ∃ m : Nat, x12 = m ∧ m ≤ 2 ∧ BolQ H1.length es.length (fun S Q' => ∃ R, Q' = x :: R ∧ InX es (chP c e b) e x M (PastE es (chP c e b) x m) S R) x10 x11 G,
      fun _ _ _ _ _ _ _ x12 _ => 2 - x12.toNat, ⟨rfl, rfl, rfl, rfl, rfl, hG, rfl, 0, rfl, by omega, S, L, i0, rfl, hi0, hS, oS, ⟨_, by rw [hdr, hx], hE, hB, Nat.le_of_eq hM.symm, fun j ⟨_, _, m', h, _⟩ => absurd h (by omega)⟩, hU, hQ⟩, ?_⟩
    clear hQ hE hB hG oG lG hU oS hdr hi0 hlt hM hS hx
    rintro x1 x2 x3 x4 x9 x10' x11 x12 G ⟨rfl, rfl, rfl, rfl, rfl, hG, rfl, m, rfl, hm, S', L', i', hi', hil, hS, oS, ⟨R, hdr, hX⟩, hU, hQ⟩
    obtain rfl : i0 = i' := by omega
    have lG := AHeap.le_trans l1 hG
    have oG := o1.le hG
    have hlt : i0 < L'.length := by
      rcases Nat.lt_or_ge i0 L'.length with h | h
      · exact h
      · rw [List.drop_of_length_le h] at hdr; cases hdr
    have hx : L'[i0] = x := by
      have := List.drop_eq_getElem_cons hlt
      rw [hdr] at this
      exact (List.cons.inj this).1.symm
    unfold F54.B15
    refine pif_cases (fun hb => ?_) fun hb => ?_
    · have hm2 : m < 2 := by have := of_decide_eq_true hb; omega
      unfold F54.B14
      obtain ⟨bb, oo, hk, c1, c2⟩ := (h.le lG).idx (show (0 : Int) ≤ x by omega) (by omega)
      simp only [Int.toNat_natCast] at c1 c2
      refine ldI_own oG rfl (ld1_own oG rfl (ld1_own oG rfl (hQ.ints.rd (by omega) (by simpa using hlt) ?_)))
      rw [Int.toNat_natCast, getD_of (by simpa using hlt), List.getElem_map, hx]
      refine hk _ (bndK_iff.2 ⟨by omega, by omega, ldI_mk (cell_en c1 c2 hm2) (l01At_ok (h.le lG) (by omega) fun w G2 hG2 hF => ?_)⟩)
      have hv : 0 ≤ en (es.getD x (0, 0)) m ∧ en (es.getD x (0, 0)) m < n := by unfold en; split <;> omega
      have h3 := hg.three hv.1 hv.2
      have lG2 := AHeap.le_trans hG hG2
      have hb0 : H1.length < G.length := oS.lt
      have hF := hF.sl
      unfold F54.B13 F54.L6
      refine ⟨fun x1 x2 x3 x4 x9 x10 x11 x12 x13 x14 G => u = x1 ∧ (e : Int) = x2 ∧ b = x3 ∧ H.length = x4 ∧ .slice (some ⟨H1.length, 0, none⟩) es.length (es.length + 1) = x9 ∧ (i0 : Int) = x11 ∧ (m : Int) = x12 ∧ w = x13 ∧ H1.le G ∧ Sl (H1.length + 1) G w 2 1 (LI (atL es (en (es.getD x (0, 0)) m))) ∧ (∀ b, bk w = some b → bk x10 ≠ some b) ∧
          ∃ t : Nat, x14 = t ∧ t ≤ 3 ∧ BolQ H1.length es.length (fun S Q' => ∃ R, Q' = x :: R ∧ InX es (chP c e b) e x M (PastT es (chP c e b) x m t) S R) x10 x11 G,
        fun _ _ _ _ _ _ _ _ _ x14 _ => 3 - x14.toNat, ⟨rfl, rfl, rfl, rfl, rfl, rfl, rfl, rfl, lG2, hF.less (by omega), (fun b hb hb' => by have := (hF.lt hb).1; have := (hQ.lt hb').2; omega), 0, rfl, by omega, S', L', i0, rfl, hil, hS, oS.le hG2, ⟨R, hdr, hX.more fun j hj => .inl ?_⟩, hU, hQ.le hG2⟩, ?_⟩
      · rcases hj with hj | ⟨_, t', h, _⟩
        · exact hj
        · exact absurd h (by omega)
      clear hX hQ hF hG2 lG2 oG lG hG hU oS hdr hil hlt hi' hx hS hb0
      rintro x1 x2 x3 x4 x9 x10' x11 x12 x13 x14 G3 ⟨rfl, rfl, rfl, rfl, rfl, rfl, rfl, rfl, hG, hW, hA, t, rfl, ht, S3, L3, i', hi', hil, hS, oS, ⟨R3, hdr, hX⟩, hU, hQ⟩
      obtain rfl : i0 = i' := by omega
      have lG := AHeap.le_trans l1 hG
      have hc := hc.le lG
      unfold F54.B12
      refine pif_cases (fun hb => ?_) fun hb => ?_
      · have ht3 : t < 3 := by have := of_decide_eq_true hb; omega
        obtain ⟨i, hi1, hi2, hi3⟩ := at_get (es := es) (w := en (es.getD x (0, 0)) m) (t := t) (by omega)
        have hxi : share (es.getD x (0, 0)) (es.getD i (0, 0)) := ⟨_, on_en, hi3⟩
        have hpast : ∀ j, PastT es (chP c e b) x m (t + 1) j → PastT es (chP c e b) x m t j ∨ (chP c e b j = true ∧ j = i) := fun j hj => (PastT.step hj).imp id fun ⟨h1, h2⟩ => ⟨h1, by omega⟩
        unfold F54.B11
        refine hW.ints.rd (by omega) (by omega) ?_
        simp only [Int.toNat_natCast, hi1]
        unfold F54.B10
        have hiS : i < S3.length := by omega
        refine own_idx (by omega) (by omega) (ld1_own oS (by rw [Int.toNat_natCast]; exact LB_get hiS) (asB_mk ?_))
        refine pif_cases (fun hb => ?_) fun hb => ?_
        · have hn : S3.getD i false = false := by simpa using hb
          refine hc.rd (by omega) (by omega) (hc.rd (by omega) (by omega) (pif_cases (fun h1 => ?_) fun h1 => hc.rd (by omega) (by omega) (pif_cases (fun h2 => ?_) fun h2 => ?_)))
          rotate_right
          · have hp : chP c e b i = false := by
              simp only [Int.toNat_natCast] at h1 h2
              unfold chP; rw [h1, h2]; rfl
            unfold F54.B7
            rw [wrap_id (by omega) (by omega)]
            refine ⟨⟨rfl, rfl, rfl, rfl, rfl, rfl, rfl, rfl, hG, hW, hA, t + 1, by omega, by omega, S3, L3, i0, rfl, hil, hS, oS, ⟨R3, hdr, hX.more fun j hj => ?_⟩, hU, hQ⟩, by simp; omega⟩
            rcases hpast j hj with h | ⟨h, rfl⟩
            · exact .inl h
            · rw [hp] at h; cases h
          all_goals
            have hp : chP c e b i = true := by
              simp only [Int.toNat_natCast] at h1
              try simp only [Int.toNat_natCast] at h2
              unfold chP; first | (rw [h1]; rfl) | (rw [h2]; simp)
            unfold F54.B9
            refine own_idx (by omega) (by omega) (stK_1 oS (by simpa using hiS) rfl fun G4 b4 o4 => ?_)
            have hG4 := b4.le hG (Nat.le_refl _)
            have o4 : Own G4 H1.length 4 (LB (S3.set i true)) := by simpa using o4
            unfold F54.B8
            refine (hQ.but b4 (by omega)).pushN E_int (by decide) o4.lt (n := 1) (ys := [.int .i64 i]) rfl rfl (by simp; omega) (by simp) fun v' G5 k5 ot5 nb5 f5 => ?_
            unfold F54.B7
            rw [wrap_id (by omega) (by omega)]
            have hnew : unseen (fun j => (S3.set i true).getD j false) es.length + 1 = unseen (fun j => S3.getD j false) es.length := by
              rw [show (fun j => (S3.set i true).getD j false) = insB (fun j => S3.getD j false) i from funext (setB hiS)]
              exact unseen_ins hi2 hn
            refine ⟨⟨rfl, rfl, rfl, rfl, rfl, rfl, rfl, rfl, k5.le hG4 (Nat.le_succ _), (hW.but b4 (by omega)).oth ot5 hA, (fun b hb hb' => by have := (hW.lt hb).2; have := nb5 b hb'; have := b4.len; omega), t + 1, by omega, by omega, S3.set i true, L3 ++ [i], i0, rfl, by simp; omega, by simpa using hS, k5.own o4 (Nat.lt_succ_self _), ⟨R3 ++ [i], by rw [List.drop_append_of_le_length hil, hdr]; rfl, hX.push ⟨hi2, hp, hxi⟩ hn (setB hiS) fun j hj => ?_⟩, by rw [List.length_append, List.length_singleton]; omega, ?_⟩, by simp; omega⟩
            · exact (hpast j hj).imp id fun h => h.2
            · have := f5.sl
              simpa using this
        · have hn : S3.getD i false = true := by simpa using hb
          unfold F54.B7
          rw [wrap_id (by omega) (by omega)]
          refine ⟨⟨rfl, rfl, rfl, rfl, rfl, rfl, rfl, rfl, hG, hW, hA, t + 1, by omega, by omega, S3, L3, i0, rfl, hil, hS, oS, ⟨R3, hdr, hX.more fun j hj => ?_⟩, hU, hQ⟩, by simp; omega⟩
          rcases hpast j hj with h | ⟨h, rfl⟩
          · exact .inl h
          · exact .inr hn
      · have ht3 : t = 3 := by have := of_decide_eq_false hb; omega
        subst ht3
        unfold F54.B5
        rw [wrap_id (by omega) (by omega)]
        exact ⟨⟨rfl, rfl, rfl, rfl, rfl, hG, rfl, m + 1, by omega, by omega, S3, L3, i0, rfl, hil, hS, oS, ⟨R3, hdr, hX.more fun j hj => .inl (by rw [← h3]; exact PastT.fin hj)⟩, hU, hQ⟩, by simp; omega⟩
    · have hm2 : m = 2 := by have := of_decide_eq_false hb; omega
      subst hm2
      unfold F54.B3
      obtain ⟨hE, hlt'⟩ := hX.pop fun j h1 h2 h3 => ⟨h1, h2, h3.elim (fun h => ⟨0, by omega, h⟩) fun h => ⟨1, by omega, h⟩⟩
      have hR : L'.drop (i0 + 1) = R := by
        have := List.drop_eq_getElem_cons hlt
        rw [hdr] at this
        exact (List.cons.inj this).2.symm
      rw [wrap_id (by omega) (by omega)]
      exact ⟨⟨rfl, rfl, rfl, rfl, rfl, hG, S', L', i0 + 1, by omega, by omega, hS, oS, ⟨by rw [hR]; exact hE, hX.bnd⟩, hU, hQ⟩, by simp; omega⟩
  · have hz : L.drop i0 = [] := List.drop_of_length_le (by have := of_decide_eq_false hb; omega)
    rw [hz] at hE
    unfold F54.B1
    exact k _ S G lG oS l1.1 hS hE.fin
end Go.Proofs
