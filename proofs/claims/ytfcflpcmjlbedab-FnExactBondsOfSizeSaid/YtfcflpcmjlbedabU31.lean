/- Contracts: bonds, the program's way. -/
import Derived.Test.YtfcflpcmjlbedabU30
import Derived.Test.YtfcflpcmjlbedabM9
set_option linter.unusedVariables false
set_option linter.unusedSimpArgs false
set_option maxRecDepth 100000
namespace Go.Proofs
open Go.Abs

variable {H G : AHeap} {v u f : Value} {l m c D : List Int} {es fs : List (Int × Int)} {K : Value → AHeap → Prop} {A : Nat → Prop} {B : Nat} {ls : List (List Int)}

theorem RowsF.rowB (h : RowsF A B H v ls) {i : Nat} (hi : i < ls.length) {K : Value → Prop} (k : ∀ w, Fresh 0 H w 2 1 (LI (ls.getD i [])) → (∀ b, bk w = some b → b < B) → K w) : idxK v i 1 (fun b o => ld1 H b o K) := by
  obtain ⟨vs, h1, h2, h3, h4⟩ := h
  obtain ⟨w, g1, g2, g3⟩ := h4 i hi
  exact Sl_rd h1.sl (by omega) (by omega) (by rw [Int.toNat_natCast]; exact g1) (k w g2 fun b hb => (g3 b hb).2.1)

theorem place_cl {n x : Int} {b6 pb : Nat} {c0 : Nat} {t : TypeId} (h : Edges H v es) (hd : ∀ e ∈ es, 0 ≤ e.1 ∧ e.1 < n ∧ 0 ≤ e.2 ∧ e.2 < n) {x2 : Nat} (o2 : Own H x2 t [.int .i64 n, v]) (o6 : Own H b6 121 [.slice (some ⟨pb, 0, none⟩) n.toNat c0]) (oP : Own H pb 3 (LI D)) (hD : D.length = n.toNat) (h0 : 0 ≤ x) (h1 : x < es.length) :
    Cl H (.func (.func 129) ⟨[]⟩ ⟨[.pointer (some ⟨b6, 0, none⟩), .pointer (some ⟨x2, 0, none⟩)]⟩) (.int .i64 x) (D.getD (es.getD x.toNat (0, 0)).1.toNat 0 != D.getD (es.getD x.toNat (0, 0)).2.toNat 0) := by
  intro G hG K k
  refine callV_mk ?_
  apply F129.ac
  unfold F129.B2 F129.B1
  have hx : x.toNat < es.length := by omega
  obtain ⟨d1, d2, d3, d4⟩ := hd es[x.toNat] (List.getElem_mem hx)
  rw [← getD_of (d := (0, 0)) hx] at d1 d2 d3 d4
  have o2 := o2.le hG
  have o6 := o6.le hG
  have oi := own_ints (c := c0) (oP.le hG)
  rw [hD] at oi
  obtain ⟨bb, oo, hk, e1, e2⟩ := (h.le hG).idx h0 h1
  refine asP_mk (ld1_own o6 rfl (asP_mk (ld1_own o2 rfl (hk _ (ldI_mk e1 (oi.rd (by omega) (by omega) (asP_mk (ld1_own o6 rfl (asP_mk (ld1_own o2 rfl (hk _ (ldI_mk e2 (oi.rd (by omega) (by omega) ?_)))))))))))))
  exact k _ (AHeap.le_refl _)

theorem isBond_ok {n : Int} (h : Edges H v es) (hg : IsG n es) (hS : IsS l es.length) (k : ∀ G, H.le G → K (.bool (decide (Bond n.toNat es l))) G) :
    AC Try.prog T0 87 [.agg ⟨[.int .i64 n, v]⟩, .int .u64 (setN l : Nat)] H K := by
  have n0 := hg.ed.lo; have n1 := hg.ed.hi
  have h30 : es.length ≤ 30 := by have := hg.ed.len; omega
  have hs : setN l < 2 ^ 64 := setN_lt fun x hx => by have := hS.range x hx; omega
  have hends : ∀ e ∈ es, 0 ≤ e.1 ∧ e.1 < n ∧ 0 ≤ e.2 ∧ e.2 < n := fun e he => by have := hg.ed.ends e he; omega
  apply F87.ac
  unfold F87.B17
  refine newK_f (all_iv (edges_one' h)) fun H1 l1 _ o1 => ?_
  unfold F87.B16
  refine ldI_own o1 rfl (ld1_own o1 rfl (sides_ok (h.le l1) hg hs fun q H2 l2 hR => ?_))
  have hz : restL es (fun j => (0 : Nat).testBit j) = es := restL_none es fun j => Nat.zero_testBit j
  have l12 := AHeap.le_trans l1 l2
  have o2 := o1.le l2
  obtain ⟨fs, hfs⟩ : ∃ fs, fs = restL es (bitB l) := ⟨_, rfl⟩
  have hR : RowsF (fun b => H1.length ≤ b) H2.length H2 q (sidesL fs n.toNat) := by rw [hfs]; exact hR
  have hBond : ∀ b : Bool, (b = true ↔ Bond n.toNat es l) → ∀ G, H.le G → K (.bool b) G := fun b hb G hG => by
    have := k G hG
    rwa [show decide (Bond n.toNat es l) = b from (dec_eq hb).symm] at this
  have hBd : Bond n.toNat es l ↔ (sidesL fs n.toNat).length = (sidesL es n.toNat).length + 1 ∧ ∀ x ∈ l, ¬ Rch (vAdj fs) (es.getD x.toNat (0, 0)).1.toNat (es.getD x.toNat (0, 0)).2.toNat := by rw [hfs]; exact Iff.rfl
  have sl1 := sidesTo_length fs n.toNat n.toNat
  have sl2 := sidesTo_length es n.toNat n.toNat
  have sl1 : (sidesL fs n.toNat).length ≤ n.toNat := sl1
  have sl2 : (sidesL es n.toNat).length ≤ n.toNat := sl2
  unfold F87.B15
  refine hR.len (ldI_own o2 rfl (ld1_own o2 rfl (sides_ok (s := 0) (h.le l12) hg (by decide) fun q2 H3 l3 hR3 => ?_)))
  rw [hz] at hR3
  have l13 := AHeap.le_trans l12 l3
  refine hR3.len ?_
  rw [wrap_id (by omega) (by omega)]
  refine pif_cases (fun hb => ?_) fun hb => ?_
  · unfold F87.B14
    have hne := bne_iff_ne.1 hb
    exact hBond false ⟨(fun h => by cases h), fun h => by have := (hBd.1 h).1; omega⟩ _ l13
  · have he := bne_eq_false_iff_eq.1 hb
    have o3 := o2.le l3
    unfold F87.B13
    refine ldI_own o3 rfl (mkR_int (by omega) (by omega) (by decide) fun H4 l4 n4 o4 => newK_f rfl fun H5 l5 _ o5 => pif_t rfl (stK_f o5 (by simp) (by simp [Value.oneCell']) rfl fun H6 b6 o6 => ?_))
    rw [rep_one] at o4
    have l36 : H3.le H6 := b6.le (AHeap.le_trans l4 l5) l4.1
    have l16 := AHeap.le_trans l13 l36
    have o4 := b6.own (o4.le l5) (by have := o4.lt; omega)
    have hR0 := hR.le l3
    have hR := hR.le (AHeap.le_trans l3 l36)
    have h23 := l3.1
    have h36 : H3.length < H6.length := o4.lt
    have h46 : H4.length < H6.length := by have := o6.lt; omega
    have h34 : H3.length < H4.length := by omega
    unfold F87.B12
    refine hR.len ?_
    unfold F87.L2
    refine ⟨fun x1 x2 x6 x24 x25 x26 G => ((setN l : Nat) : Int) = x1 ∧ H.length = x2 ∧ H4.length = x6 ∧ q = x24 ∧ ((sidesL fs n.toNat).length : Int) = x25 ∧ H3.le G ∧ H6.length ≤ G.length ∧ Own G H4.length 121 [.slice (some ⟨H3.length, 0, none⟩) n.toNat (n.toNat + 1)] ∧ ∃ i : Nat, x26 = i ∧ i ≤ (sidesL fs n.toNat).length ∧ ∃ P, Own G H3.length 3 (LI P) ∧ PlaceTo fs n.toNat P i 0,
      fun _ _ _ _ _ x26 _ => (sidesL fs n.toNat).length - x26.toNat, ⟨rfl, rfl, rfl, rfl, rfl, l36, Nat.le_refl _, by simpa using o6, 0, rfl, by omega, _, o4, .init (by simp)⟩, ?_⟩
    clear o4 o6 o5 b6 l5 l4
    rintro x1 x2 x6 x24 x25 x26 G ⟨rfl, rfl, rfl, rfl, rfl, hG, hG6, oB, i, rfl, hi, P, oP, hP⟩
    have lG := AHeap.le_trans l13 hG
    unfold F87.B11
    refine pif_cases (fun hb => ?_) fun hb => ?_
    · have hil : i < (sidesL fs n.toNat).length := by have := of_decide_eq_true hb; omega
      have hRG := hR0.le hG
      have hsl := side_length (fs := fs) hil
      unfold F87.B10
      refine hRG.rowB hil fun w hw hwb => ?_
      unfold F87.B9
      refine hw.ints.len ?_
      unfold F87.L4
      refine ⟨fun x1 x2 x6 x7 x24 x25 x26 x31 x32 x33 G' => ((setN l : Nat) : Int) = x1 ∧ H.length = x2 ∧ H4.length = x6 ∧ (i : Int) = x7 ∧ q = x24 ∧ ((sidesL fs n.toNat).length : Int) = x25 ∧ (i : Int) = x26 ∧ w = x31 ∧ (((sidesL fs n.toNat).getD i []).length : Int) = x32 ∧ H3.le G' ∧ H6.length ≤ G'.length ∧ Own G' H4.length 121 [.slice (some ⟨H3.length, 0, none⟩) n.toNat (n.toNat + 1)] ∧ Fresh 0 G' w 2 1 (LI ((sidesL fs n.toNat).getD i [])) ∧
          ∃ t : Nat, x33 = t ∧ t ≤ ((sidesL fs n.toNat).getD i []).length ∧ ∃ P, Own G' H3.length 3 (LI P) ∧ PlaceTo fs n.toNat P i t,
        fun _ _ _ _ _ _ _ _ _ x33 _ => ((sidesL fs n.toNat).getD i []).length - x33.toNat, ⟨rfl, rfl, rfl, rfl, rfl, rfl, rfl, rfl, rfl, hG, hG6, oB, hw, 0, rfl, by omega, P, oP, hP⟩, ?_⟩
      clear hw hRG lG oB oP hP hG hG6
      rintro x1 x2 x6 x7 x24 x25 x26 x31 x32 x33 G3 ⟨rfl, rfl, rfl, rfl, rfl, rfl, rfl, rfl, rfl, hG, hG6, oB, hw, t, rfl, ht, P, oP, hP⟩
      unfold F87.B8
      refine pif_cases (fun hb => ?_) fun hb => ?_
      · have htl : t < ((sidesL fs n.toNat).getD i []).length := by have := of_decide_eq_true hb; omega
        obtain ⟨y, hy, hyn⟩ := side_range hil (List.getElem_mem htl)
        rw [← getD_of (d := 0) htl] at hy
        have hput := hP.put hil htl
        have hPl := hP.1
        unfold F87.B7
        refine hw.ints.rd (by omega) (by omega) ?_
        rw [Int.toNat_natCast]
        rw [hy] at hput ⊢
        unfold F87.B6
        refine ld1_own oB rfl (own_idx (by omega) (by omega) (stK_1 oP (by simp; omega) rfl fun G4 b4 o4 => ?_))
        rw [← List.map_set] at o4
        unfold F87.B5
        rw [wrap_id (by omega) (by omega)]
        refine ⟨⟨rfl, rfl, rfl, rfl, rfl, rfl, rfl, rfl, rfl, b4.le hG (Nat.le_refl _), by rw [b4.len]; exact hG6, b4.own oB (by omega), hw.keep (b4.keep (m := H3.length) (Nat.le_refl _)) fun b k e => ?_, t + 1, by omega, by omega, _, o4, hput⟩, by show ((sidesL fs n.toNat).getD i []).length - ((t : Int) + 1).toNat < ((sidesL fs n.toNat).getD i []).length - (t : Int).toNat; omega⟩
        subst e
        have := hwb b rfl
        omega
      · have htl : t = ((sidesL fs n.toNat).getD i []).length := by have := of_decide_eq_false hb; omega
        subst htl
        unfold F87.B3
        rw [wrap_id (by omega) (by omega)]
        exact ⟨⟨rfl, rfl, rfl, rfl, rfl, hG, hG6, oB, i + 1, by omega, by omega, P, oP, hP.next⟩, by simp; omega⟩
    · have hil : i = (sidesL fs n.toNat).length := by have := of_decide_eq_false hb; omega
      subst hil
      unfold F87.B1
      refine list_ok hs fun w G2 l2' f2 => ?_
      rw [hS.bits (by omega)] at f2
      have lG2 := AHeap.le_trans lG l2'
      have hll : l.length ≤ es.length := by have := bitsTo_length (setN l) es.length; rw [hS.filt]; exact filtB_length _ _
      refine areAllL_ok (p := fun x => P.getD (es.getD x.toNat (0, 0)).1.toNat 0 != P.getD (es.getD x.toNat (0, 0)).2.toNat 0) f2.ints (by omega) rfl (fun x hx => ?_) fun G3 l3' => asB_mk (hBond _ ?_ _ (AHeap.le_trans lG2 l3'))
      · have := hS.range x hx
        exact place_cl (h.le lG2) hends ((o3.le hG).le l2') (oB.le l2') (oP.le l2') hP.1 (by omega) (by omega)
      · rw [hBd, List.all_eq_true]
        refine ⟨fun h => ⟨by omega, fun x hx => ?_⟩, fun h x hx => ?_⟩
        all_goals
          have hr := hS.range x hx
          obtain ⟨d1, d2, d3, d4⟩ := hends es[x.toNat] (List.getElem_mem (show x.toNat < es.length by omega))
          rw [← getD_of (d := (0, 0)) (show x.toNat < es.length by omega)] at d1 d2 d3 d4
          have key := hP.iff (a := (es.getD x.toNat (0, 0)).1.toNat) (b := (es.getD x.toNat (0, 0)).2.toNat) (by omega) (by omega)
        · rw [← key]; exact bne_iff_ne.1 (h x hx)
        · exact bne_iff_ne.2 fun e => h.2 x hx (key.1 e)
end Go.Proofs
