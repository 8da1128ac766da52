/- Contracts: the cycles of a set of edges, the program's way. -/
import Derived.Test.YtfcflpcmjlbedaaDoorK2
import Derived.Test.YtfcflpcmjlbedaaDoorU15
set_option linter.unusedVariables false
set_option linter.unusedSimpArgs false
set_option maxRecDepth 100000
namespace Go.Proofs
open Go.Abs

variable {H G : AHeap} {v u f : Value} {l m c : List Int} {es fs : List (Int × Int)} {K : Value → AHeap → Prop} {A : Nat → Prop} {B : Nat} {ls : List (List Int)}

noncomputable def tiSet : TI := (T0 52).getD ⟨.bool, 0, 0, undef⟩
theorem E_set : Elem T0 52 1 := ⟨tiSet, by kernel_rfl, by kernel_rfl, of_decide_eq_true (by kernel_rfl), by kernel_rfl⟩
theorem LU_get {Z : List Nat} {i : Nat} (h : i < Z.length) : (LU Z)[i]? = some (.int .u64 (Z.getD i 0 : Nat)) := by simp [h]

theorem indexU_ok {p : Nat → Bool} {Z : List Nat} {m0 : Nat} (h : Sl m0 H v 52 1 (LU Z)) (hl : Z.length ≤ 4611686018427387904) (hf : ∀ e ∈ Z, Cl H f (.int .u64 (e : Nat)) (p e)) (k : ∀ r G, H.le G → decide (r ≥ 0) = Z.any p → K (.int .i64 r) G) :
    AC Tryd.prog T0 58 [v, f] H K := by
  apply F58.ac
  unfold F58.B9 F58.B8
  refine h.len (by decide) (n := Z.length) (by simp) ?_
  unfold F58.L2
  refine ⟨fun x0 x1 x7 x8 G => v = x0 ∧ f = x1 ∧ (Z.length : Int) = x7 ∧ H.le G ∧ ∃ n : Nat, x8 = n ∧ n ≤ Z.length ∧ ∀ i : Nat, i < n → p (Z.getD i 0) = false, fun _ _ _ x8 _ => Z.length - x8.toNat, ⟨rfl, rfl, rfl, AHeap.le_refl _, 0, rfl, by omega, fun i hi => absurd hi (by omega)⟩, ?_⟩
  rintro x0 x1 x7 x8 G ⟨rfl, rfl, rfl, hG, n, rfl, hn', hp⟩
  unfold F58.B7
  refine pif_cases (fun hb => ?_) fun hb => ?_
  · have hn : n < Z.length := by have := of_decide_eq_true hb; omega
    unfold F58.B6 F58.B5
    refine Sl_rdI (h.le hG) (by omega) (by simp; omega) (by rw [Int.toNat_natCast]; exact LU_get hn) ?_
    rw [getD_of hn]
    refine hf Z[n] (List.getElem_mem hn) G hG _ fun G2 hG2 => asB_mk (pif_cases (fun hb => ?_) fun hb => ?_)
    · unfold F58.B4
      refine k _ _ (AHeap.le_trans hG hG2) ?_
      rw [List.any_eq_true.2 ⟨Z[n], List.getElem_mem hn, hb⟩]; simp
    · unfold F58.B3
      rw [wrap_id (by omega) (by omega)]
      refine ⟨⟨rfl, rfl, rfl, AHeap.le_trans hG hG2, n + 1, by omega, by omega, fun i hi => ?_⟩, by simp; omega⟩
      by_cases he : i = n
      · subst he; rw [getD_of hn]; exact hb
      · exact hp i (by omega)
  · have hge : n = Z.length := by have := of_decide_eq_false hb; omega
    unfold F58.B1
    refine k _ _ hG ?_
    have : Z.any p = false := by
      rw [List.any_eq_false]
      intro e he
      obtain ⟨i, hi, rfl⟩ := List.getElem_of_mem he
      have := hp i (by omega)
      rw [getD_of hi] at this; simp [this]
    rw [this]; simp
theorem containsU_ok {p : Nat → Bool} {Z : List Nat} {m0 : Nat} (h : Sl m0 H v 52 1 (LU Z)) (hl : Z.length ≤ 4611686018427387904) (hf : ∀ e ∈ Z, Cl H f (.int .u64 (e : Nat)) (p e)) (k : ∀ G, H.le G → K (.bool (Z.any p)) G) :
    AC Tryd.prog T0 40 [v, f] H K := by
  apply F40.ac
  unfold F40.B2 F40.B1
  refine indexU_ok h hl hf fun r G hG hr => asI_mk ?_
  rw [hr]; exact k G hG

end Go.Proofs
