/- Contracts: the cycles of a set of edges, the reference's way. -/
import Derived.Test.YtfcflpcmjlbedabU16
import Derived.Test.YtfcflpcmjlbedabU17
set_option linter.unusedVariables false
set_option linter.unusedSimpArgs false
set_option maxRecDepth 100000
namespace Go.Proofs
open Go.Abs

variable {H G : AHeap} {v u f : Value} {l m c : List Int} {es fs : List (Int × Int)} {K : Value → AHeap → Prop} {A : Nat → Prop} {B : Nat} {ls : List (List Int)}

theorem comp_filter {es : List (Int × Int)} {p : Nat → Bool} {l : List Int} (hl : l = filtB p es.length) {e : Nat} (he : e < es.length ∧ p e = true) : l.filter (fun y => rchB (eAdj es p) e y.toNat) = compL es p e := by
  have hasc : Asc l := by rw [hl]; exact filtB_asc _ _
  refine Asc.ext (List.Pairwise.filter _ hasc) (compL_asc e) fun x => ?_
  rw [List.mem_filter, mem_compL]
  constructor
  · rintro ⟨h1, h2⟩
    rw [hl] at h1
    obtain ⟨j, rfl, h3, _⟩ := mem_filtB.1 h1
    exact ⟨j, rfl, h3, rchB_iff.1 h2⟩
  · rintro ⟨j, rfl, h1, h2⟩
    refine ⟨?_, rchB_iff.2 h2⟩
    rw [hl]
    exact mem_filtB.2 ⟨j, rfl, h1, (eRch_in h2 he).2⟩
theorem part_take {es : List (Int × Int)} {p : Nat → Bool} {l : List Int} (hl : l = filtB p es.length) {t e : Nat} (ht : t < l.length) (he : l[t] = (e : Int)) (hlead : cLeadB es p e = true) : (l.take t).filter (fun y => rchB (eAdj es p) e y.toNat) = [] := by
  have hasc : Asc l := by rw [hl]; exact filtB_asc _ _
  have hm : ∀ x, x ∈ l ↔ ∃ j : Nat, x = j ∧ j < es.length ∧ p j = true := fun x => by rw [hl]; exact mem_filtB
  rw [List.filter_eq_nil_iff]
  intro y hy hr
  rw [asc_take hasc ht] at hy
  obtain ⟨j, rfl, h1, h2⟩ := (hm y).1 hy.1
  obtain ⟨e', h3, h4, h5⟩ := (hm _).1 (List.getElem_mem ht)
  obtain rfl : e = e' := by omega
  exact cLeadB_iff.1 hlead j (by omega) h2 (eRch_symm (rchB_iff.1 hr) ⟨h4, h5⟩)
theorem filt_take {q : Int → Bool} {l : List Int} {k : Nat} (h : k < l.length) : (l.take (k + 1)).filter q = (l.take k).filter q ++ if q l[k] then [l[k]] else [] := by
  rw [List.take_succ_eq_append_getElem h, List.filter_append]
  congr 1
  cases hq : q l[k] <;> simp [hq]

theorem l07Cycles_ok {n : Int} (h : Edges H v es) (hg : IsG n es) (hc : Ints H u l) (hs : IsS l es.length)
    (k : ∀ v' G, H.le G → RowsF (fun b => H.length ≤ b) G.length G v' (cycOf es (bitB l) l) → K v' G) : AC Try.prog T0 50 [.agg ⟨[.int .i64 n, v]⟩, u] H K := by
  have n0 := hg.ed.lo; have n1 := hg.ed.hi
  have h30 : es.length ≤ 30 := by have := hg.ed.len; omega
  have hll := hs.short
  have hsr : ∀ x ∈ l, 0 ≤ x ∧ x < es.length := hs.range
  obtain ⟨p, hp⟩ : ∃ p, p = bitB l := ⟨_, rfl⟩
  have hl := hs.filt
  rw [← hp] at hl k
  have hmem : ∀ x, x ∈ l ↔ ∃ j : Nat, x = j ∧ j < es.length ∧ p j = true := fun x => by rw [hl]; exact mem_filtB
  have hat : ∀ i (hi : i < l.length), ∃ e : Nat, l[i] = (e : Int) ∧ e < es.length ∧ p e = true := fun i hi => (hmem _).1 (List.getElem_mem hi)
  have hend : ∀ e, e < es.length → 0 ≤ (es.getD e (0, 0)).1 ∧ (es.getD e (0, 0)).1 < n ∧ 0 ≤ (es.getD e (0, 0)).2 ∧ (es.getD e (0, 0)).2 < n := fun e he => by
    obtain ⟨d1, d2, d3, d4, d5⟩ := hg.ed.ends es[e] (List.getElem_mem he)
    rw [getD_of he]; omega
  apply F50.ac
  unfold F50.B23
  refine newK_f (all_iv (edges_one' h)) fun H1 l1 n1' o1 => ?_
  unfold F50.B22
  refine newK_f rfl fun H2 l2 n2 o2 => ?_
  unfold F50.B21 F50.L17
  refine ⟨fun x1 x2 x5 x6 G => u = x1 ∧ H.length = x2 ∧ H1.le G ∧ ∃ i : Nat, x6 = i ∧ i ≤ l.length ∧ Fresh H1.length G x5 100 2 (LE (keptL es (l.take i))), fun _ _ _ x6 _ => l.length - x6.toNat, ⟨rfl, rfl, l2, 0, rfl, by omega, .inr ⟨_, 0, Nat.le_refl _, rfl, o2, rfl⟩⟩, ?_⟩
  rintro x1 x2 x5 x6 Gk ⟨rfl, rfl, hGk, i, rfl, hi, hF⟩
  have lGk := AHeap.le_trans l1 hGk
  have oGk := o1.le hGk
  unfold F50.B20
  refine (hc.le lGk).len (pif_cases (fun hb => ?_) fun hb => ?_)
  · have hlt : i < l.length := by have := of_decide_eq_true hb; omega
    have hx := hsr l[i] (List.getElem_mem hlt)
    unfold F50.B19
    refine ld1_own oGk rfl ((hc.le lGk).rd (by omega) (by omega) ?_)
    rw [Int.toNat_natCast, getD_of hlt]
    obtain ⟨b, o, hk, c1, c2⟩ := (h.le lGk).idx hx.1 hx.2
    refine hk _ (ldI_mk c1 (ldI_mk c2 ?_))
    refine hF.sl.pushN E_edge (by decide) hGk.1 (n := 1) (ys := [.int .i64 (es.getD (l[i]).toNat (0, 0)).1, .int .i64 (es.getD (l[i]).toNat (0, 0)).2]) rfl rfl (by rw [LE_length]; unfold keptL; simp; omega) (by simp) fun v' G2 k2 _ _ f2 => ?_
    unfold F50.B18
    rw [wrap_id (by omega) (by omega)]
    refine ⟨⟨rfl, rfl, k2.le hGk (Nat.le_refl _), i + 1, by omega, by omega, ?_⟩, by simp; omega⟩
    rw [kept_get hlt, LE_append]; exact f2
  · have hge : i = l.length := by have := of_decide_eq_false hb; omega
    subst hge
    rw [List.take_length] at hF
    have hK : Edges Gk x5 (keptL es l) := hF.edges
    have hKl : (keptL es l).length = l.length := by unfold keptL; simp
    have hKg : ∀ i (hi : i < l.length), (keptL es l).getD i (0, 0) = es.getD (l[i]).toNat (0, 0) := fun i hi => by unfold keptL; simp [List.getD, hi]
    have hKf : ∀ e ∈ keptL es l, 0 ≤ e.1 ∧ e.1 < n ∧ 0 ≤ e.2 ∧ e.2 < n := by
      intro e he
      unfold keptL at he
      obtain ⟨x, hx, rfl⟩ := List.mem_map.1 he
      exact hend _ (by have := hsr x hx; omega)
    have fin : ∀ (G : AHeap) (D : List Int) (bl bm bo : Nat), Gk.le G → Own G bl 2 (LI D) → Own G bm 4 (LB (List.replicate l.length false)) → Own G bo 25 [] → Gk.length ≤ bl → Gk.length ≤ bm → Gk.length ≤ bo → bl ≠ bm → bo ≠ bm → bo ≠ bl → Leads n.toNat (keptL es l) D →
        F50.B15 K u x5 (.slice (some ⟨bl, 0, none⟩) n.toNat (n.toNat + 1)) (.slice (some ⟨bm, 0, none⟩) l.length (l.length + 1)) (.slice (some ⟨bo, 0, none⟩) 0 (0 + 1)) G := by
      intro G0 D bl bm bo hG0 oD oM oO hbl hbm hbo e1 e2 e3 hD
      have same : ∀ i j (hi : i < l.length) (hj : j < l.length), (D.getD (es.getD (l[i]).toNat (0, 0)).1.toNat 0 == D.getD (es.getD (l[j]).toNat (0, 0)).1.toNat 0) = rchB (eAdj es p) (l[j]).toNat (l[i]).toNat := by
        intro i j hi hj
        obtain ⟨a, ha, ha1, ha2⟩ := hat i hi
        obtain ⟨b, hb, hb1, hb2⟩ := hat j hj
        rw [ha, hb, Int.toNat_natCast, Int.toNat_natCast]
        have da := hend a ha1; have db := hend b hb1
        have hi := hD.iff (a := (es.getD b (0, 0)).1.toNat) (b := (es.getD a (0, 0)).1.toNat) (by omega) (by omega)
        have hpart := part_iff (es := es) (p := p) (fun e he => by
          obtain ⟨j, hj, rfl⟩ := List.getElem_of_mem he
          have := hend j hj
          rw [getD_of hj] at this; omega) ⟨hb1, hb2⟩ ⟨ha1, ha2⟩
        rw [← hl] at hpart
        rw [Bool.eq_iff_iff, beq_iff_eq, rchB_iff, ← hpart, ← hi]
        exact eq_comm
      unfold F50.B15 F50.L2
      obtain ⟨A, hA⟩ : ∃ A : Nat → Prop, A = fun b => Gk.length ≤ b ∧ b ≠ bm ∧ b ≠ bl := ⟨_, rfl⟩
      have hnew : ∀ {G : AHeap} {b : Nat}, Own G bm 4 (LB (List.replicate l.length false)) ∨ True → Gk.length ≤ b → b ≠ bm → b ≠ bl → A b := fun _ h1 h2 h3 => by rw [hA]; exact ⟨h1, h2, h3⟩
      refine ⟨fun x1 x5' x7 x8 x9 x10 G => u = x1 ∧ x5 = x5' ∧ .slice (some ⟨bl, 0, none⟩) n.toNat (n.toNat + 1) = x7 ∧ .slice (some ⟨bm, 0, none⟩) l.length (l.length + 1) = x8 ∧ Gk.le G ∧ Own G bl 2 (LI D) ∧ ∃ (t : Nat) (M : List Bool), x10 = t ∧ t ≤ l.length ∧ M.length = l.length ∧ Own G bm 4 (LB M) ∧ RowsF A G.length G x9 (cycOf es p (l.take t)) ∧
          ∀ i (hi : i < l.length), M.getD i false = true ↔ ∃ y ∈ l.take t, cLeadB es p y.toNat = true ∧ Rch (eAdj es p) y.toNat (l[i]).toNat,
        fun _ _ _ _ _ x10 _ => l.length - x10.toNat, ⟨rfl, rfl, rfl, rfl, hG0, oD, 0, _, rfl, by omega, by simp, oM, .nil1 oO (hnew (G := G0) (.inr trivial) hbo e2 e3) oO.lt, fun i hi => ?_⟩, ?_⟩
      · have : (List.replicate l.length false).getD i false = false := by simp [List.getD, hi]
        rw [this]; simp
      clear oM oO hG0 oD
      rintro x1 x5' x7 x8 x9 x10 G1 ⟨rfl, rfl, rfl, rfl, hG1, oD, t, M, rfl, ht, hM, oM, hR, hm⟩
      have lG1 := AHeap.le_trans lGk hG1
      unfold F50.B14
      refine (hc.le lG1).len (pif_cases (fun hb => ?_) fun hb => ?_)
      · have htl : t < l.length := by have := of_decide_eq_true hb; omega
        obtain ⟨e, he1, he2, he3⟩ := hat t htl
        have hmet := met_iff (n := 0) hl htl
        rw [← hm t htl] at hmet
        rw [he1, Int.toNat_natCast] at hmet
        unfold F50.B13
        refine own_idx (by omega) (by omega) (ld1_own oM (by rw [Int.toNat_natCast]; exact LB_get (by omega)) (asB_mk (pif_cases (fun hs' => ?_) fun hs' => ?_)))
        · have hnl := hmet.1 hs'
          unfold F50.B3
          rw [wrap_id (by omega) (by omega)]
          refine ⟨⟨rfl, rfl, rfl, rfl, hG1, oD, t + 1, M, by omega, by omega, hM, oM, ?_, fun i hi => ?_⟩, by simp; omega⟩
          · rw [cycOf_take htl, he1, Int.toNat_natCast, hnl]; simpa using hR
          · rw [hm i hi, List.take_succ_eq_append_getElem htl]
            constructor
            · rintro ⟨y, h1, h2⟩; exact ⟨y, List.mem_append.2 (.inl h1), h2⟩
            · rintro ⟨y, h1, h2⟩
              rcases List.mem_append.1 h1 with h1 | h1
              · exact ⟨y, h1, h2⟩
              · rw [List.mem_singleton] at h1
                rw [h1, he1, Int.toNat_natCast, hnl] at h2
                cases h2.1
        · have hlead : cLeadB es p e = true := by
            cases hle : cLeadB es p e with
            | true => rfl
            | false => rw [hmet.2 hle] at hs'; cases hs'
          unfold F50.B12
          refine newK_f rfl fun H3 l3 n3 o3 => ?_
          have hb3 := oM.lt; have hb4 := oD.lt
          unfold F50.B11 F50.L5
          refine ⟨fun x1 x5' x7 x8 x9' x10 x11 x12 G => u = x1 ∧ x5 = x5' ∧ .slice (some ⟨bl, 0, none⟩) n.toNat (n.toNat + 1) = x7 ∧ .slice (some ⟨bm, 0, none⟩) l.length (l.length + 1) = x8 ∧ x9 = x9' ∧ (t : Int) = x10 ∧ Gk.le G ∧ G1.length ≤ G.length ∧ Own G bl 2 (LI D) ∧ ∃ (i : Nat) (M : List Bool), x12 = i ∧ t ≤ i ∧ i ≤ l.length ∧ M.length = l.length ∧ Own G bm 4 (LB M) ∧ RowsF A G1.length G x9 (cycOf es p (l.take t)) ∧
              Fresh G1.length G x11 2 1 (LI ((l.take i).filter (fun y => rchB (eAdj es p) e y.toNat))) ∧ ∀ j (hj : j < l.length), M.getD j false = true ↔ (∃ y ∈ l.take t, cLeadB es p y.toNat = true ∧ Rch (eAdj es p) y.toNat (l[j]).toNat) ∨ (t ≤ j ∧ j < i ∧ Rch (eAdj es p) e (l[j]).toNat),
            fun _ _ _ _ _ _ _ x12 _ => l.length - x12.toNat, ⟨rfl, rfl, rfl, rfl, rfl, rfl, AHeap.le_trans hG1 l3, l3.1, oD.le l3, t, M, rfl, Nat.le_refl _, by omega, hM, oM.le l3, hR.le l3, ?_, fun j hj => ?_⟩, ?_⟩
          · rw [part_take hl htl he1 hlead]
            exact .inr ⟨_, 0, Nat.le_refl _, rfl, o3, rfl⟩
          · rw [hm j hj]
            exact ⟨.inl, fun h => h.elim id fun h => absurd h.2.1 (by omega)⟩
          clear hm hM oM oD hs' hmet
          rintro x1 x5' x7 x8 x9' x10 x11 x12 G4 ⟨rfl, rfl, rfl, rfl, rfl, rfl, hG4, hlen4, oD, i, M, rfl, hti, hi, hM, oM, hR, hF4, hm⟩
          have lG4 := AHeap.le_trans lGk hG4
          unfold F50.B10
          refine (hc.le lG4).len (pif_cases (fun hb => ?_) fun hb => ?_)
          · have hil : i < l.length := by have := of_decide_eq_true hb; omega
            have hDi := own_ints (c := n.toNat + 1) oD
            rw [hD.led.1] at hDi
            obtain ⟨e', hf1, hf2, hf3⟩ := hat i hil
            have da := hend e' hf2; have db := hend e he2
            have hr : rchB (eAdj es p) e (l[i]).toNat = (D.getD (es.getD e' (0, 0)).1.toNat 0 == D.getD (es.getD e (0, 0)).1.toNat 0) := by
              have := same i t hil htl
              rw [he1, hf1, Int.toNat_natCast, Int.toNat_natCast] at this
              rw [hf1, Int.toNat_natCast, this]
            unfold F50.B9
            obtain ⟨b, o, hk, c1, c2⟩ := (hK.le hG4).idx (i := (i : Int)) (by omega) (by omega)
            obtain ⟨b', o', hk', c1', c2'⟩ := (hK.le hG4).idx (i := (t : Int)) (by omega) (by omega)
            rw [Int.toNat_natCast, hKg i hil, hf1, Int.toNat_natCast] at c1
            rw [Int.toNat_natCast, hKg t htl, he1, Int.toNat_natCast] at c1'
            refine hk _ (ldI_mk c1 (hDi.rd (by omega) (by rw [hD.led.1]; omega) (hk' _ (ldI_mk c1' (hDi.rd (by omega) (by rw [hD.led.1]; omega) ?_)))))
            rw [← hr]
            refine pif_cases (fun hs' => ?_) fun hs' => ?_
            · unfold F50.B8
              refine own_idx (by omega) (by omega) (stK_1 oM (by simp; omega) rfl fun G5 b5 o5 => ?_)
              rw [Int.toNat_natCast, ← List.map_set] at o5
              have hG5 := b5.le hG4 hbm
              have hx := hsr l[i] (List.getElem_mem hil)
              unfold F50.B7
              refine (hc.le (AHeap.le_trans lGk hG5)).rd (by omega) (by omega) ?_
              rw [Int.toNat_natCast, getD_of hil]
              refine (hF4.but b5 hb3).sl.pushN E_int (by decide) (by have := b5.len; omega) (n := 1) (ys := [.int .i64 l[i]]) rfl rfl (by have : ((l.take i).filter (fun y => rchB (eAdj es p) e y.toNat)).length ≤ i := Nat.le_trans (List.length_filter_le _ _) (by rw [List.length_take]; omega); simp only [List.length_map, List.length_singleton]; omega) (by simp) fun v' G6 k6 ot6 nb6 f6 => ?_
              unfold F50.B6
              rw [wrap_id (by omega) (by omega)]
              refine ⟨⟨rfl, rfl, rfl, rfl, rfl, rfl, k6.le hG5 hG1.1, by have := k6.len; have := b5.len; omega, k6.own (b5.own oD e1) hb4, i + 1, M.set i true, by omega, by omega, by omega, by simpa using hM, k6.own o5 hb3, (hR.but b5 (fun h => by rw [hA] at h; exact h.2.1 rfl)).keep k6, ?_, fun j hj => ?_⟩, by simp; omega⟩
              · rw [filt_take hil, if_pos hs']; simpa using f6
              · have hmj := hm j hj
                by_cases ej : i = j
                · subst ej
                  have : (M.set i true).getD i false = true := by simp [List.getD, show i < M.length by omega]
                  rw [this]
                  exact ⟨fun _ => .inr ⟨hti, by omega, rchB_iff.1 hs'⟩, fun _ => rfl⟩
                · have : (M.set i true).getD j false = M.getD j false := by simp [List.getD, List.getElem?_set, ej]
                  rw [this, hmj]
                  constructor
                  · rintro (h | ⟨h1, h2, h3⟩)
                    · exact .inl h
                    · exact .inr ⟨h1, by omega, h3⟩
                  · rintro (h | ⟨h1, h2, h3⟩)
                    · exact .inl h
                    · exact .inr ⟨h1, by omega, h3⟩
            · unfold F50.B6
              rw [wrap_id (by omega) (by omega)]
              refine ⟨⟨rfl, rfl, rfl, rfl, rfl, rfl, hG4, hlen4, oD, i + 1, M, by omega, by omega, by omega, hM, oM, hR, ?_, fun j hj => ?_⟩, by simp; omega⟩
              · rw [filt_take hil, if_neg (by rw [hs']; decide), List.append_nil]; exact hF4
              · rw [hm j hj]
                constructor
                · rintro (h | ⟨h1, h2, h3⟩)
                  · exact .inl h
                  · exact .inr ⟨h1, by omega, h3⟩
                · rintro (h | ⟨h1, h2, h3⟩)
                  · exact .inl h
                  · by_cases ej : j = i
                    · subst ej
                      rw [rchB_iff.2 h3] at hs'; cases hs'
                    · exact .inr ⟨h1, by omega, h3⟩
          · have hge : i = l.length := by have := of_decide_eq_false hb; omega
            subst hge
            rw [List.take_length, comp_filter hl ⟨he2, he3⟩] at hF4
            have hcl : (cycOf es p (l.take t)).length ≤ 30 := by
              unfold cycOf; rw [List.length_map]
              exact Nat.le_trans (List.length_filter_le _ _) (by rw [List.length_take]; omega)
            unfold F50.B4
            refine hR.push hlen4 (fun b hb => hnew (G := G4) (.inr trivial) (by have := hG1.1; omega) (by omega) (by omega)) hF4 (by omega) fun v' G7 ot7 nb7 len7 hR7 => ?_
            have k7 : ∀ b o, (Gk.length ≤ b → ¬ A b) → G4[b]? = some (some o) → G7[b]? = some (some o) := by
              intro b o hb ho
              refine ot7 b o (fun hv => ?_) ho
              obtain ⟨vs, _, _, q3, _⟩ := hR
              have := (q3 b hv).1
              exact hb (by rw [hA] at this; exact this.1) this
            unfold F50.B3
            rw [wrap_id (by omega) (by omega)]
            refine ⟨⟨rfl, rfl, rfl, rfl, ⟨by have := hG4.1; omega, fun b o ho => k7 b o (fun hb => by have := lt_of_get ho; omega) (hG4.2 b o ho)⟩, k7 bl _ (fun _ h => by rw [hA] at h; exact h.2.2 rfl) oD, t + 1, M, by omega, by omega, hM, k7 bm _ (fun _ h => by rw [hA] at h; exact h.2.1 rfl) oM, ?_, fun j hj => ?_⟩, by simp; omega⟩
            · rw [cycOf_take htl, he1, Int.toNat_natCast, hlead]; exact hR7
            · rw [hm j hj, List.take_succ_eq_append_getElem htl]
              constructor
              · rintro (⟨y, h1, h2⟩ | ⟨h1, h2, h3⟩)
                · exact ⟨y, List.mem_append.2 (.inl h1), h2⟩
                · exact ⟨l[t], List.mem_append.2 (.inr (by simp)), by rw [he1]; exact hlead, by rw [he1]; exact h3⟩
              · rintro ⟨y, h1, h2, h3⟩
                rcases List.mem_append.1 h1 with h1 | h1
                · exact .inl ⟨y, h1, h2, h3⟩
                · rw [List.mem_singleton] at h1
                  rw [h1, he1, Int.toNat_natCast] at h3
                  refine .inr ⟨?_, hj, h3⟩
                  rcases Nat.lt_or_ge j t with hjt | hjt
                  · have hin : l[j] ∈ (l.take t).filter (fun y => rchB (eAdj es p) e y.toNat) := by
                      rw [List.mem_filter]
                      refine ⟨?_, rchB_iff.2 h3⟩
                      have : (l.take t)[j]'(by simp; omega) = l[j] := List.getElem_take ..
                      rw [← this]; exact List.getElem_mem _
                    rw [part_take hl htl he1 hlead] at hin
                    cases hin
                  · exact hjt
      · have hge : t = l.length := by have := of_decide_eq_false hb; omega
        subst hge
        rw [List.take_length] at hR
        unfold F50.B1
        exact k _ _ lG1 (hR.mono (fun b hb => by rw [hA] at hb; have := lGk.1; omega) (Nat.le_refl _))
    clear hb hi
    unfold F50.B16
    refine ldI_own oGk rfl ((hc.le lGk).len ⟨?_, ?_, ?_⟩)
    · refine l01Leaders_ok hK (by omega) (by omega) n1 hKf fun bl D G2 l2 o2 hbl hD => ⟨?_, ?_⟩
      · refine mkR_int (by omega) (by omega) (by decide) fun G3 l3 n3 o3 => newK_f rfl fun G4 l4 n4 o4 => ?_
        rw [Int.toNat_natCast, rep_b] at o3
        rw [Int.toNat_natCast]
        have := o2.lt; have := l2.1
        exact fin G4 D bl _ _ (AHeap.le_trans l2 (AHeap.le_trans l3 l4)) (o2.le (AHeap.le_trans l3 l4)) (o3.le l4) o4 hbl (by omega) (by omega) (by omega) (by omega) (by omega) hD
      · refine newK_f rfl fun G3 l3 n3 o3 => mkR_int (by omega) (by omega) (by decide) fun G4 l4 n4 o4 => ?_
        rw [Int.toNat_natCast, rep_b] at o4
        rw [Int.toNat_natCast]
        have := o2.lt; have := l2.1
        exact fin G4 D bl _ _ (AHeap.le_trans l2 (AHeap.le_trans l3 l4)) (o2.le (AHeap.le_trans l3 l4)) o4 (o3.le l4) hbl (by omega) (by omega) (by omega) (by omega) (by omega) hD
    · refine mkR_int (by omega) (by omega) (by decide) fun G2 l2 n2 o2 => ⟨?_, ?_⟩
      · refine l01Leaders_ok (hK.le l2) (by omega) (by omega) n1 hKf fun bl D G3 l3 o3 hbl hD => newK_f rfl fun G4 l4 n4 o4 => ?_
        rw [Int.toNat_natCast, rep_b] at o2
        rw [Int.toNat_natCast]
        have := o3.lt; have := l3.1
        exact fin G4 D bl _ _ (AHeap.le_trans l2 (AHeap.le_trans l3 l4)) (o3.le l4) (o2.le (AHeap.le_trans l3 l4)) o4 (by omega) (by omega) (by omega) (by omega) (by omega) (by omega) hD
      · refine newK_f rfl fun G3 l3 n3 o3 => l01Leaders_ok (hK.le (AHeap.le_trans l2 l3)) (by omega) (by omega) n1 hKf fun bl D G4 l4 o4 hbl hD => ?_
        rw [Int.toNat_natCast, rep_b] at o2
        rw [Int.toNat_natCast]
        have := o4.lt; have := l4.1
        exact fin G4 D bl _ _ (AHeap.le_trans l2 (AHeap.le_trans l3 l4)) o4 (o2.le (AHeap.le_trans l3 l4)) (o3.le l4) (by omega) (by omega) (by omega) (by omega) (by omega) (by omega) hD
    · refine newK_f rfl fun G2 l2 n2 o2 => ⟨?_, ?_⟩
      · refine l01Leaders_ok (hK.le l2) (by omega) (by omega) n1 hKf fun bl D G3 l3 o3 hbl hD => mkR_int (by omega) (by omega) (by decide) fun G4 l4 n4 o4 => ?_
        rw [Int.toNat_natCast, rep_b] at o4
        rw [Int.toNat_natCast]
        have := o3.lt; have := l3.1
        exact fin G4 D bl _ _ (AHeap.le_trans l2 (AHeap.le_trans l3 l4)) (o3.le l4) o4 (o2.le (AHeap.le_trans l3 l4)) (by omega) (by omega) (by omega) (by omega) (by omega) (by omega) hD
      · refine mkR_int (by omega) (by omega) (by decide) fun G3 l3 n3 o3 => l01Leaders_ok (hK.le (AHeap.le_trans l2 l3)) (by omega) (by omega) n1 hKf fun bl D G4 l4 o4 hbl hD => ?_
        rw [Int.toNat_natCast, rep_b] at o3
        rw [Int.toNat_natCast]
        have := o4.lt; have := l4.1
        exact fin G4 D bl _ _ (AHeap.le_trans l2 (AHeap.le_trans l3 l4)) o4 (o3.le l4) (o2.le (AHeap.le_trans l3 l4)) (by omega) (by omega) (by omega) (by omega) (by omega) (by omega) hD
end Go.Proofs
