/- Contracts: the list of matchings, both sides. -/
import Derived.Test.YtfcflpcmjlbedaaDoorU40
import Derived.Test.YtfcflpcmjlbedaaDoorU17
import Derived.Test.YtfcflpcmjlbedaaDoorU19
set_option linter.unusedVariables false
set_option linter.unusedSimpArgs false
set_option maxRecDepth 100000
namespace Go.Proofs
open Go.Abs

variable {H G : AHeap} {v u f : Value} {l m c D : List Int} {es fs : List (Int × Int)} {K : Value → AHeap → Prop} {A A' : Nat → Prop} {B : Nat} {ls ms : List (List Int)}

def over60 (d : List (List Int)) : Bool := decide (d.length > 60)
theorem over60_any : ∀ (a d : List (List Int)), d.length ≤ 60 → anyD over60 d a = decide (d.length + a.length > 60)
  | [], d, h => by unfold anyD; symm; rw [decide_eq_false_iff_not]; simp; omega
  | x :: a, d, h => by
    rw [anyD]
    by_cases hx : d.length + 1 > 60
    · have : over60 (d ++ [x]) = true := by unfold over60; simp; omega
      rw [this, Bool.true_or]; symm; rw [decide_eq_true_iff, List.length_cons]; omega
    · have : over60 (d ++ [x]) = false := by unfold over60; simp; omega
      rw [this, Bool.false_or, over60_any a (d ++ [x]) (by simp; omega)]
      simp only [List.length_append, List.length_cons, List.length_nil]
      congr 1
      rw [eq_iff_iff]; omega
theorem listed_ok {n : Int} (hg : IsG n es) (hT : Tab H) (h : Edges H v es)
    (k : ∀ w G, H.le G → Fresh H.length G w 52 1 (LU ((upToD over60 [] (mats n es)).map setN)) → K (.tuple ⟨[w, .bool (!(decide ((mats n es).length > 60)))]⟩) G) : AC Tryd.prog T0 38 [.agg ⟨[.int .i64 n, v]⟩] H K := by
  have hrow := mats_row hg
  have h30 : es.length ≤ 30 := by have := hg.ed.len; have := hg.ed.hi; omega
  apply F38.ac
  unfold F38.B4
  refine newK_f (all_iv (edges_one' h)) fun H1 l1 n1 o1 => ?_
  unfold F38.B3
  refine newK_f rfl fun H2 l2 n2 o2 => ?_
  obtain ⟨co, hco⟩ : ∃ co, co = H1.length := ⟨_, rfl⟩
  rw [← hco] at o2 ⊢
  have l12 := AHeap.le_trans l1 l2
  have b1 := l1.1
  have o12 := o1.le l2
  have hml := mats_length hg
  unfold F38.B2
  refine ldI_own o12 rfl (ld1_own o12 rfl (matchings_ok hg (H0 := H) (Pv0 := fun x => x = co) (q := over60)
    (J := fun done Pv G => ∃ w, Own G co 61 [w] ∧ Fresh (co + 1) G w 52 1 (LU (done.map setN)) ∧ (∀ x, Pv x ↔ (x = co ∨ bk w = some x)) ∧ co + 1 ≤ G.length)
    h l12 (fun x hx => by omega) hT rfl ⟨_, o2, .inl ⟨rfl, .inl rfl⟩, fun x => ⟨.inl, fun h => h.elim id fun h => by cases h⟩, by omega⟩ ?_ ?_ ?_ ?_))
  · rintro done Pv G G2 ⟨w, h1, h2, h3, h4⟩ hle
    exact ⟨w, h1.le hle, h2.le hle, h3, by have := hle.1; omega⟩
  · rintro done Pv G x ⟨w, h1, h2, h3, h4⟩ hx
    rcases (h3 x).1 hx with rfl | hb
    · exact h1.lt
    · exact (h2.bk_lt hb).2
  · rintro done Pv l G ⟨w, h1, h2, h3, h4⟩ hF hlm hdn K hK
    have hsl : setN l < 2 ^ 64 := setN_lt fun x hx => by have := (hrow l hlm).1.range x hx; omega
    refine callV_mk ?_
    apply F57.ac
    unfold F57.B3 F57.B2
    refine asP_mk (ld1_own h1 rfl ?_)
    refine h2.sl.pushN E_set (by decide) h4 (n := 1) (ys := [.int .u64 (setN l : Nat)]) rfl rfl (by simp; omega) (by simp) fun v' G2 k2 ot nb f2 => ?_
    have v1 : v'.oneCell' = true := by
      rcases f2 with ⟨_, rfl | ⟨a, rfl⟩⟩ | ⟨b, n', _, rfl, _⟩ <;> rfl
    have oc2 := k2.own h1 (by omega)
    refine pif_t v1 (asP_mk (stK_f oc2 (by simp) (by simpa using v1) rfl fun G3 b3 o3 => ?_))
    have f3 := f2.but b3 (by omega)
    have o3 : Own G3 co 61 [v'] := by simpa using o3
    unfold F57.B1
    refine asP_mk (ld1_own o3 rfl (f3.sl.len (by decide) (n := done.length + 1) (by simp) ?_))
    have e : decide ((((done.length + 1 : Nat) : Int) : Int) > 60) = over60 (done ++ [l]) := by
      unfold over60; rw [List.length_append, List.length_singleton]; congr 1; rw [eq_iff_iff]; omega
    rw [e]
    refine hK G3 (fun x => x = co ∨ bk v' = some x) ⟨v', o3, by rw [List.map_append]; simpa using f3, fun x => Iff.rfl, by rw [b3.len]; have := k2.len; omega⟩ ⟨by rw [b3.len]; exact k2.len, fun x hx => ?_, fun x o hx ho => ?_⟩
    · rcases hx with rfl | hx
      · exact .inl ((h3 x).2 (.inl rfl))
      · exact .inr (nb x hx)
    · have hn : ¬ (x = co ∨ bk w = some x) := fun h => hx ((h3 x).2 h)
      rw [b3.same x (fun e => hn (.inl e))]
      exact ot x o (fun e => hn (.inr e)) ho
  · rintro G Pv ⟨w, h1, h2, h3, h4⟩ hF
    have hbG := (hF.base l12 (fun x hx => by omega)).1
    refine asB_mk ?_
    unfold F38.B1
    refine ld1_own h1 rfl ?_
    have e := over60_any (mats n es) [] (by simp)
    rw [List.length_nil, Nat.zero_add] at e
    rw [e]
    exact k w G hbG (h2.less (by omega))

noncomputable def maCode (n : Int) (es : List (Int × Int)) : Int := if IsG n es then (if (mats n es).length > 60 then 3 else 0) else 1
noncomputable def maList (n : Int) (es : List (Int × Int)) : List (List Int) := if maCode n es = 0 then mats n es else []
theorem maCode_zero {n : Int} (h : maCode n es = 0) : IsG n es ∧ (mats n es).length ≤ 60 := by
  unfold maCode at h
  by_cases hg : IsG n es
  · rw [if_pos hg] at h
    by_cases hs : (mats n es).length > 60
    · rw [if_pos hs] at h; cases h
    · exact ⟨hg, by omega⟩
  · rw [if_neg hg] at h; cases h
theorem tot_bound {c : Nat} : ∀ (ls : List (List Int)), (∀ l ∈ ls, l.length ≤ c) → totL ls ≤ ls.length * c
  | [], _ => by simp [totL]
  | x :: ls, h => by
    have h1 := tot_bound ls fun y hy => h y (by simp [hy])
    have h2 := h x (by simp)
    unfold totL at h1 ⊢
    rw [List.map_cons, List.sum_cons, List.length_cons, Nat.add_mul]
    omega
theorem maList_small {n : Int} : (maList n es).length ≤ 1048576 ∧ (∀ l ∈ maList n es, l.length ≤ 4294967296) ∧ totL (maList n es) ≤ 1000000000000 := by
  unfold maList
  by_cases h : maCode n es = 0
  · rw [if_pos h]
    obtain ⟨hg, h1⟩ := maCode_zero h
    have hr : ∀ l ∈ mats n es, l.length ≤ 30 := fun l hl => (mats_row hg l hl).2
    refine ⟨by omega, fun l hl => by have := hr l hl; omega, ?_⟩
    have := tot_bound _ hr
    omega
  · rw [if_neg h]; exact ⟨by simp, by simp, by simp [totL]⟩
theorem specMa_ok {n : Int} (h : Edges H v es) (hl : es.length ≤ 1048576)
    (k : ∀ v' G, H.le G → RowsF (fun b => H.length ≤ b) G.length G v' (maList n es) → K (.tuple ⟨[v', .int .i64 (maCode n es)]⟩) G) : AC Tryd.prog T0 18 [.agg ⟨[.int .i64 n, v]⟩] H K := by
  apply F18.ac
  unfold F18.B7
  refine newK_f (all_iv (edges_one' h)) fun H1 l1 _ o1 => ?_
  unfold F18.B6
  refine ldI_own o1 rfl (ld1_own o1 rfl (l01Is_ok (h.le l1) hl fun H2 l2 => asB_mk ?_))
  have l12 := AHeap.le_trans l1 l2
  have o2 := o1.le l2
  refine pif_cases (fun hs => ?_) fun hs => ?_
  · have hg : ¬ IsG n es := by simpa using hs
    have e : maCode n es = 1 := by unfold maCode; rw [if_neg hg]
    unfold F18.B5
    have k := k (.slice none 0 0) _ l12
    unfold maList at k
    rw [e] at k
    exact k .nil
  have hg : IsG n es := by simpa using hs
  unfold F18.B4
  refine ldI_own o2 rfl (ld1_own o2 rfl (l04All_ok hg (h.le l12) fun q H3 l3 hR => ?_))
  have l13 := AHeap.le_trans l12 l3
  have b1 := l12.1
  unfold F18.B3
  refine hR.len (pif_cases (fun hb => ?_) fun hb => ?_)
  · have hgt : (mats n es).length > 60 := by have := of_decide_eq_true hb; omega
    have e : maCode n es = 3 := by unfold maCode; rw [if_pos hg, if_pos hgt]
    unfold F18.B2
    have k := k (.slice none 0 0) _ l13
    unfold maList at k
    rw [e] at k
    exact k .nil
  · have hgt : ¬ (mats n es).length > 60 := by have := of_decide_eq_false hb; omega
    have e : maCode n es = 0 := by unfold maCode; rw [if_pos hg, if_neg hgt]
    unfold F18.B1
    have k := k q _ l13
    unfold maList at k
    rw [e, if_pos rfl] at k
    exact k (hR.mono (fun b hb => by omega) (Nat.le_refl _))
theorem implMa_ok {n : Int} (hT : Tab H) (h : Edges H v es) (hl : es.length ≤ 1048576)
    (k : ∀ v' G, H.le G → RowsF (fun b => H.length ≤ b) G.length G v' (maList n es) → K (.tuple ⟨[v', .int .i64 (maCode n es)]⟩) G) : AC Tryd.prog T0 19 [.agg ⟨[.int .i64 n, v]⟩] H K := by
  apply F19.ac
  unfold F19.B15
  refine newK_f (all_iv (edges_one' h)) fun H1 l1 _ o1 => ?_
  unfold F19.B14
  refine ldI_own o1 rfl (ld1_own o1 rfl (graphCode_ok (b := true) (h.le l1) hl fun H2 l2 => asI_mk ?_))
  have l12 := AHeap.le_trans l1 l2
  have o2 := o1.le l2
  have e : (if IsG n es then (if true = true then 0 else 2) else 1 : Int) = grCode n es := by unfold grCode; simp
  rw [e]
  unfold F19.B13
  refine pif_cases (fun hs => ?_) fun hs => ?_
  · have hg : ¬ IsG n es := fun h => by unfold grCode at hs; rw [if_pos h] at hs; simp at hs
    have e0 : grCode n es = 1 := by unfold grCode; rw [if_neg hg]
    have e : maCode n es = 1 := by unfold maCode; rw [if_neg hg]
    unfold F19.B12
    have k := k (.slice none 0 0) _ l12
    unfold maList at k
    rw [e] at k
    rw [e0]
    exact k .nil
  have hg : IsG n es := by
    unfold grCode at hs
    by_cases h : IsG n es
    · exact h
    · rw [if_neg h] at hs; simp at hs
  have hrow := mats_row hg
  have h30 : es.length ≤ 30 := by have := hg.ed.len; have := hg.ed.hi; omega
  unfold F19.B11
  refine ldI_own o2 rfl (ld1_own o2 rfl (listed_ok hg (hT.le l12) (h.le l12) fun w H3 l3 f3 => tup2_mk (asB_mk ?_)))
  have l13 := AHeap.le_trans l12 l3
  unfold F19.B10
  refine pif_cases (fun hs => ?_) fun hs => ?_
  · have hgt : (mats n es).length > 60 := by simpa using hs
    have e : maCode n es = 3 := by unfold maCode; rw [if_pos hg, if_pos hgt]
    unfold F19.B9
    have k := k (.slice none 0 0) _ l13
    unfold maList at k
    rw [e] at k
    exact k .nil
  have hgt : ¬ (mats n es).length > 60 := by simpa using hs
  have e : maCode n es = 0 := by unfold maCode; rw [if_pos hg, if_neg hgt]
  unfold maList at k
  rw [e, if_pos rfl] at k
  have hup : upToD over60 [] (mats n es) = mats n es := upToD_all (by rw [over60_any _ _ (by simp)]; simp; omega)
  rw [hup] at f3
  obtain ⟨Z, hZ⟩ : ∃ Z, Z = (mats n es).map setN := ⟨_, rfl⟩
  rw [← hZ] at f3
  have hZl : Z.length = (mats n es).length := by rw [hZ, List.length_map]
  have hZ64 : ∀ z ∈ Z, z < 2 ^ 64 := by
    intro z hz
    rw [hZ] at hz
    obtain ⟨l, hl, rfl⟩ := List.mem_map.1 hz
    exact setN_lt fun x hx => by have := (hrow l hl).1.range x hx; omega
  have hZb : Z.map bitsL = mats n es := by
    rw [hZ, List.map_map]
    conv => rhs; rw [← List.map_id (mats n es)]
    exact List.map_congr_left fun l hl => (hrow l hl).1.bits (by omega)
  unfold F19.B8 F19.B7
  refine f3.sl.len (by decide) (n := Z.length) (by simp) ?_
  unfold F19.L2
  refine ⟨fun x7 x22 x23 x24 G => w = x22 ∧ (Z.length : Int) = x23 ∧ H3.le G ∧ ∃ t : Nat, x24 = t ∧ t ≤ Z.length ∧ RowsF (fun b => H3.length ≤ b) G.length G x7 ((Z.take t).map bitsL), fun _ _ _ x24 _ => Z.length - x24.toNat, ⟨rfl, rfl, AHeap.le_refl _, 0, rfl, by omega, .nil⟩, ?_⟩
  rintro x7 x22 x23 x24 G ⟨rfl, rfl, hG, t, rfl, ht, hR⟩
  unfold F19.B6
  refine pif_cases (fun hb => ?_) fun hb => ?_
  · have htl : t < Z.length := by have := of_decide_eq_true hb; omega
    unfold F19.B5
    refine Sl_rdI (f3.sl.le hG) (by omega) (by simp; omega) (by rw [Int.toNat_natCast]; exact LU_get htl) ?_
    rw [getD_of htl]
    unfold F19.B4
    refine list_ok (hZ64 _ (List.getElem_mem htl)) fun w2 G2 l2' f2 => ?_
    refine (hR.le l2').push l2'.1 (fun b hb => Nat.le_trans hG.1 hb) f2 (by rw [List.length_map, List.length_take]; omega) fun v' G3 ot nb hlen hR2 => ?_
    unfold F19.B3
    rw [wrap_id (by omega) (by omega)]
    refine ⟨⟨rfl, rfl, ?_, t + 1, by omega, by omega, ?_⟩, by simp; omega⟩
    · refine ⟨by have := hG.1; have := l2'.1; omega, fun b o ho => ot b o (fun hv => ?_) (l2'.2 _ _ (hG.2 _ _ ho))⟩
      obtain ⟨vs, _, _, q3, _⟩ := hR
      have := (q3 b hv).1
      have := lt_of_get ho
      omega
    · rw [List.take_succ_eq_append_getElem htl, List.map_append]; exact hR2
  · have hge : t = Z.length := by have := of_decide_eq_false hb; omega
    subst hge
    rw [List.take_length, hZb] at hR
    unfold F19.B1
    have := l13.1
    exact k _ _ (AHeap.le_trans l13 hG) (hR.mono (fun b hb => by omega) (Nat.le_refl _))
end Go.Proofs
