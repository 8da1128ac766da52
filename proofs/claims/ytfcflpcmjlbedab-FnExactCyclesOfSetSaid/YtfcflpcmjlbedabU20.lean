/- Contracts: cycles of a set, whether a set is a cycle, both sides. -/
import Derived.Test.YtfcflpcmjlbedabU18
import Derived.Test.YtfcflpcmjlbedabU19
set_option linter.unusedVariables false
set_option linter.unusedSimpArgs false
set_option maxRecDepth 100000
namespace Go.Proofs
open Go.Abs

variable {H G : AHeap} {v u f : Value} {l m c : List Int} {es fs : List (Int × Int)} {K : Value → AHeap → Prop} {A : Nat → Prop} {B : Nat} {ls : List (List Int)}

theorem set_bits {l : List Int} {n : Nat} (h : IsS l n) : filtB (fun j => (setN l).testBit j) n = l := h.filt.symm
theorem set_lt {l : List Int} {n : Nat} (h : IsS l n) (hn : n ≤ 64) : setN l < 2 ^ 64 := setN_lt fun x hx => by have := h.range x hx; omega
theorem cycOf_length {es : List (Int × Int)} {p : Nat → Bool} {l : List Int} : (cycOf es p l).length ≤ l.length := by
  unfold cycOf; rw [List.length_map]; exact List.length_filter_le _ _

/-- What both answer. -/
noncomputable def cyCode (n : Int) (es : List (Int × Int)) (l : List Int) : Int := if IsG n es then (if IsS l es.length then (if EvenS n es (bitB l) then 0 else 5) else 2) else 1
noncomputable def cyList (n : Int) (es : List (Int × Int)) (l : List Int) : List (List Int) := if cyCode n es l = 0 then cycOf es (bitB l) l else []
noncomputable def edCode (n : Int) (es : List (Int × Int)) (l : List Int) : Int := if IsG n es then (if IsS l es.length then 0 else 2) else 1
theorem edCode_zero {n : Int} (h : edCode n es l = 0) : IsG n es ∧ IsS l es.length := by
  unfold edCode at h
  by_cases hg : IsG n es
  · rw [if_pos hg] at h
    by_cases hs : IsS l es.length
    · exact ⟨hg, hs⟩
    · rw [if_neg hs] at h; cases h
  · rw [if_neg hg] at h; cases h
theorem cyCode_ed {n : Int} (h : edCode n es l ≠ 0) : cyCode n es l = edCode n es l := by
  unfold edCode at h; unfold cyCode edCode
  by_cases hg : IsG n es
  · rw [if_pos hg] at h ⊢
    by_cases hs : IsS l es.length
    · rw [if_pos hs] at h; exact absurd rfl h
    · rw [if_neg hs, if_pos hg, if_neg hs]
  · rw [if_neg hg, if_neg hg]
theorem cyCode_in {n : Int} (h : edCode n es l = 0) : cyCode n es l = if EvenS n es (bitB l) then 0 else 5 := by
  obtain ⟨hg, hs⟩ := edCode_zero h
  unfold cyCode; rw [if_pos hg, if_pos hs]

theorem specCycles_ok {n : Int} (h : Edges H v es) (hl : es.length ≤ 1048576) (hc : Ints H u l) (hcl : l.length ≤ 1048576)
    (k : ∀ v' G, H.le G → RowsF (fun b => H.length ≤ b) G.length G v' (cyList n es l) → K (.tuple ⟨[v', .int .i64 (cyCode n es l)]⟩) G) : AC Try.prog T0 24 [.agg ⟨[.int .i64 n, v]⟩, u] H K := by
  apply F24.ac
  unfold F24.B7
  refine newK_f (all_iv (edges_one' h)) fun H1 l1 n1 o1 => ?_
  unfold F24.B6
  refine ldI_own o1 rfl (ld1_own o1 rfl (l03Edges_ok (h.le l1) hl (hc.le l1) hcl fun H2 l2 => asI_mk ?_))
  have l12 := AHeap.le_trans l1 l2
  rw [show (if IsG n es then (if IsS l es.length then 0 else 2) else 1 : Int) = edCode n es l from rfl]
  unfold F24.B5
  refine pif_cases (fun hs => ?_) fun hs => ?_
  · have hne := bne_iff_ne.1 hs
    unfold F24.B4
    have k := k (.slice none 0 0) H2 l12 (by rw [cyList, if_neg (by rw [cyCode_ed hne]; exact hne)]; exact .nil)
    rw [cyCode_ed hne] at k; exact k
  · have h0 : edCode n es l = 0 := bne_eq_false_iff_eq.1 hs
    obtain ⟨hg, hS⟩ := edCode_zero h0
    have hcode := cyCode_in h0
    unfold F24.B3
    refine ldI_own (o1.le l2) rfl (ld1_own (o1.le l2) rfl (l07Even_ok (h.le l12) hg (hc.le l12) hS fun H3 l3 => asB_mk ?_))
    have l13 := AHeap.le_trans l12 l3
    refine pif_cases (fun hb => ?_) fun hb => ?_
    · rw [Bool.not_eq_true'] at hb
      rw [if_neg (of_decide_eq_false hb)] at hcode
      unfold F24.B2
      have k := k (.slice none 0 0) H3 l13 (by rw [cyList, if_neg (by rw [hcode]; decide)]; exact .nil)
      rw [hcode] at k; exact k
    · rw [Bool.not_eq_false'] at hb
      rw [if_pos (of_decide_eq_true hb)] at hcode
      unfold F24.B1
      refine ldI_own ((o1.le l2).le l3) rfl (ld1_own ((o1.le l2).le l3) rfl (l07Cycles_ok (h.le l13) hg (hc.le l13) hS fun v' H4 l4 hR => ?_))
      have k := k v' H4 (AHeap.le_trans l13 l4) (by rw [cyList, if_pos hcode]; exact hR.mono (fun b hb => Nat.le_trans l13.1 hb) (Nat.le_refl _))
      rw [hcode] at k; exact k

theorem implCycles_ok {n : Int} (h : Edges H v es) (hl : es.length ≤ 1048576) (hc : Ints H u l) (hcl : l.length ≤ 1048576)
    (k : ∀ v' G, H.le G → RowsF (fun b => H.length ≤ b) G.length G v' (cyList n es l) → K (.tuple ⟨[v', .int .i64 (cyCode n es l)]⟩) G) : AC Try.prog T0 25 [.agg ⟨[.int .i64 n, v]⟩, u] H K := by
  apply F25.ac
  unfold F25.B7
  refine newK_f (all_iv (edges_one' h)) fun H1 l1 n1 o1 => ?_
  unfold F25.B6
  refine ldI_own o1 rfl (ld1_own o1 rfl (edgesCode_ok (h.le l1) hl (hc.le l1) hcl fun H2 l2 => asI_mk ?_))
  have l12 := AHeap.le_trans l1 l2
  rw [show (if IsG n es then (if IsS l es.length then 0 else 2) else 1 : Int) = edCode n es l from rfl]
  unfold F25.B5
  refine pif_cases (fun hs => ?_) fun hs => ?_
  · have hne := bne_iff_ne.1 hs
    unfold F25.B4
    have k := k (.slice none 0 0) H2 l12 (by rw [cyList, if_neg (by rw [cyCode_ed hne]; exact hne)]; exact .nil)
    rw [cyCode_ed hne] at k; exact k
  · have h0 : edCode n es l = 0 := bne_eq_false_iff_eq.1 hs
    obtain ⟨hg, hS⟩ := edCode_zero h0
    have hcode := cyCode_in h0
    have h30 : es.length ≤ 30 := by have := hg.ed.len; have := hg.ed.hi; omega
    have hsl := set_lt hS (by omega)
    have hll := hS.short
    have hrr : ∀ x ∈ l, 0 ≤ x ∧ x < 64 := fun x hx => by have := hS.range x hx; omega
    unfold F25.B3
    refine ldI_own (o1.le l2) rfl (ld1_own (o1.le l2) rfl (setOf_ok (hc.le l12) (by omega) hrr (asI_mk ⟨AHeap.le_refl _, isEven_ok (h.le l12) hg hsl fun H3 l3 => asB_mk ?_⟩)))
    have l13 := AHeap.le_trans l12 l3
    rw [show (fun j => (setN l).testBit j) = bitB l from rfl]
    refine pif_cases (fun hb => ?_) fun hb => ?_
    · rw [Bool.not_eq_true'] at hb
      rw [if_neg (of_decide_eq_false hb)] at hcode
      unfold F25.B2
      have k := k (.slice none 0 0) H3 l13 (by rw [cyList, if_neg (by rw [hcode]; decide)]; exact .nil)
      rw [hcode] at k; exact k
    · rw [Bool.not_eq_false'] at hb
      rw [if_pos (of_decide_eq_true hb)] at hcode
      unfold F25.B1
      refine ldI_own ((o1.le l2).le l3) rfl (ld1_own ((o1.le l2).le l3) rfl (setOf_ok (hc.le l13) (by omega) hrr (asI_mk ⟨AHeap.le_refl _, cycles_ok (h.le l13) hg hsl (fun j hj => bitB_lt hS hj) fun w H4 l4 f4 => ?_⟩)))
      rw [set_bits hS, show (fun j => (setN l).testBit j) = bitB l from rfl] at f4
      have hzb : ∀ z ∈ cycN es (bitB l) l, z < 2 ^ 64 := by
        intro z hz
        unfold cycN at hz
        obtain ⟨y, _, rfl⟩ := List.mem_map.1 hz
        exact compN_lt (by omega)
      refine lists_ok f4.sl (by have : (cycN es (bitB l) l).length ≤ l.length := (by unfold cycN; rw [List.length_map]; exact List.length_filter_le _ _); omega) hzb fun v' H5 l5 hR => ?_
      rw [cycN_lists (by omega)] at hR
      have l14 := AHeap.le_trans l13 l4
      have k := k v' H5 (AHeap.le_trans l14 l5) (by rw [cyList, if_pos hcode]; exact hR.mono (fun b hb => Nat.le_trans l14.1 hb) (Nat.le_refl _))
      rw [hcode] at k; exact k

theorem tot_small : ∀ {ls : List (List Int)}, (∀ l ∈ ls, l.length ≤ 1000) → totL ls ≤ ls.length * 1000
  | [], _ => Nat.le_refl _
  | l :: ls, h => by
    have h1 := tot_small (ls := ls) fun x hx => h x (by simp [hx])
    have h2 := h l (by simp)
    simp [totL] at h1 ⊢; omega
theorem rows_small {ls : List (List Int)} (h1 : ls.length ≤ 100000) (h2 : ∀ l ∈ ls, l.length ≤ 1000) : ls.length ≤ 1048576 ∧ (∀ l ∈ ls, l.length ≤ 4294967296) ∧ totL ls ≤ 1000000000000 :=
  ⟨by omega, fun l hl => by have := h2 l hl; omega, by have := tot_small h2; omega⟩
theorem cycOf_row {es : List (Int × Int)} {p : Nat → Bool} {l m : List Int} (h : m ∈ cycOf es p l) : m.length ≤ es.length := by
  unfold cycOf at h
  obtain ⟨x, _, rfl⟩ := List.mem_map.1 h
  exact filtB_length _ _
theorem cyCode_zero {n : Int} (h : cyCode n es l = 0) : IsG n es ∧ IsS l es.length := by
  by_cases he : edCode n es l = 0
  · exact edCode_zero he
  · rw [cyCode_ed he] at h; exact absurd h he
theorem cyList_small {n : Int} : (cyList n es l).length ≤ 1048576 ∧ (∀ m ∈ cyList n es l, m.length ≤ 4294967296) ∧ totL (cyList n es l) ≤ 1000000000000 := by
  unfold cyList
  split
  · rename_i h
    obtain ⟨hg, hs⟩ := cyCode_zero h
    have h30 : es.length ≤ 30 := by have := hg.ed.len; have := hg.ed.hi; omega
    have := hs.short
    have := cycOf_length (es := es) (p := bitB l) (l := l)
    exact rows_small (by omega) fun m hm => by have := cycOf_row hm; omega
  · exact rows_small (by simp) (by simp)

end Go.Proofs
