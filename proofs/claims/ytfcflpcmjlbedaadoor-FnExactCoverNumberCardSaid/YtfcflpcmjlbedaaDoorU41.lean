/- Contracts: the list of matchings, both sides. -/
import Derived.Test.YtfcflpcmjlbedaaDoorU40
import Derived.Test.YtfcflpcmjlbedaaDoorU17
import Derived.Test.YtfcflpcmjlbedaaDoorU19
set_option linter.unusedVariables false
set_option linter.unusedSimpArgs false
set_option maxRecDepth 100000
namespace Go.Proofs
open Go.Abs

variable {H G : AHeap} {v u f : Value} {l m c D : List Int} {es fs : List (Int × Int)} {K : Value → AHeap → Prop} {A A' : Nat → Prop} {B : Nat} {ls ms : List (List Int)}

def over60 (d : List (List Int)) : Bool := decide (d.length > 60)
theorem over60_any : ∀ (a d : List (List Int)), d.length ≤ 60 → anyD over60 d a = decide (d.length + a.length > 60)
  | [], d, h => by unfold anyD; symm; rw [decide_eq_false_iff_not]; simp; omega
  | x :: a, d, h => by
    rw [anyD]
    by_cases hx : d.length + 1 > 60
    · have : over60 (d ++ [x]) = true := by unfold over60; simp; omega
      rw [this, Bool.true_or]; symm; rw [decide_eq_true_iff, List.length_cons]; omega
    · have : over60 (d ++ [x]) = false := by unfold over60; simp; omega
      rw [this, Bool.false_or, over60_any a (d ++ [x]) (by simp; omega)]
      simp only [List.length_append, List.length_cons, List.length_nil]
      congr 1
      rw [eq_iff_iff]; omega
theorem listed_ok {n : Int} (hg : IsG n es) (hT : Tab H) (h : Edges H v es)
    (k : ∀ w G, H.le G → Fresh H.length G w 52 1 (LU ((upToD over60 [] (mats n es)).map setN)) → K (.tuple ⟨[w, .bool (!(decide ((mats n es).length > 60)))]⟩) G) : AC Tryd.prog T0 38 [.agg ⟨[.int .i64 n, v]⟩] H K := by
  have hrow := mats_row hg
  have h30 : es.length ≤ 30 := by have := hg.ed.len; have := hg.ed.hi; omega
  apply F38.ac
  unfold F38.B4
  refine newK_f (all_iv (edges_one' h)) fun H1 l1 n1 o1 => ?_
  unfold F38.B3
  refine newK_f rfl fun H2 l2 n2 o2 => ?_
  obtain ⟨co, hco⟩ : ∃ co, co = H1.length := ⟨_, rfl⟩
  rw [← hco] at o2 ⊢
  have l12 := AHeap.le_trans l1 l2
  have b1 := l1.1
  have o12 := o1.le l2
  have hml := mats_length hg
  unfold F38.B2
  refine ldI_own o12 rfl (ld1_own o12 rfl (matchings_ok hg (H0 := H) (Pv0 := fun x => x = co) (q := over60)
    (J := fun done Pv G => ∃ w, Own G co 61 [w] ∧ Fresh (co + 1) G w 52 1 (LU (done.map setN)) ∧ (∀ x, Pv x ↔ (x = co ∨ bk w = some x)) ∧ co + 1 ≤ G.length)
    h l12 (fun x hx => by omega) hT rfl ⟨_, o2, .inl ⟨rfl, .inl rfl⟩, fun x => ⟨.inl, fun h => h.elim id fun h => by cases h⟩, by omega⟩ ?_ ?_ ?_ ?_))
  · rintro done Pv G G2 ⟨w, h1, h2, h3, h4⟩ hle
    exact ⟨w, h1.le hle, h2.le hle, h3, by have := hle.1; omega⟩
  · rintro done Pv G x ⟨w, h1, h2, h3, h4⟩ hx
    rcases (h3 x).1 hx with rfl | hb
    · exact h1.lt
    · exact (h2.bk_lt hb).2
  · rintro done Pv l G ⟨w, h1, h2, h3, h4⟩ hF hlm hdn K hK
    have hsl : setN l < 2 ^ 64 := setN_lt fun x hx => by have := (hrow l hlm).1.range x hx; omega
    refine callV_mk ?_
    apply F57.ac
    unfold F57.B3 F57.B2
    refine asP_mk (ld1_own h1 rfl ?_)
    refine h2.sl.pushN E_set (by decide) h4 (n := 1) (ys := [.int .u64 (setN l : Nat)]) rfl rfl (by simp; omega) (by simp) fun v' G2 k2 ot nb f2 => ?_
    have v1 : v'.oneCell' = true := by
      rcases f2 with ⟨_, rfl | ⟨a, rfl⟩⟩ | ⟨b, n', _, rfl, _⟩ <;> rfl
    have oc2 := k2.own h1 (by omega)
    refine pif_t v1 (asP_mk (stK_f oc2 (by simp) (by simpa using v1) rfl fun G3 b3 o3 => ?_))
    have f3 := f2.but b3 (by omega)
    have o3 : Own G3 co 61 [v'] := by simpa using o3
    unfold F57.B1
    refine asP_mk (ld1_own o3 rfl (f3.sl.len (by decide) (n := done.length + 1) (by simp) ?_))
    have e : decide ((((done.length + 1 : Nat) : Int) : Int) > 60) = over60 (done ++ [l]) := by
      unfold over60; rw [List.length_append, List.length_singleton]; congr 1; rw [eq_iff_iff]; omega
    rw [e]
    refine hK G3 (fun x => x = co ∨ bk v' = some x) ⟨v', o3, by rw [List.map_append]; simpa using f3, fun x => Iff.rfl, by rw [b3.len]; have := k2.len; omega⟩ ⟨by rw [b3.len]; exact k2.len, fun x hx => ?_, fun x o hx ho => ?_⟩
    · rcases hx with rfl | hx
      · exact .inl ((h3 x).2 (.inl rfl))
      · exact .inr (nb x hx)
    · have hn : ¬ (x = co ∨ bk w = some x) := fun h => hx ((h3 x).2 h)
      rw [b3.same x (fun e => hn (.inl e))]
      exact ot x o (fun e => hn (.inr e)) ho
  · rintro G Pv ⟨w, h1, h2, h3, h4⟩ hF
    have hbG := (hF.base l12 (fun x hx => by omega)).1
    refine asB_mk ?_
    unfold F38.B1
    refine ld1_own h1 rfl ?_
    have e := over60_any (mats n es) [] (by simp)
    rw [List.length_nil, Nat.zero_add] at e
    rw [e]
    exact k w G hbG (h2.less (by omega))

end Go.Proofs
