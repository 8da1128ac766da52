/- Plain mathematics: all matchings, in order. -/
import Derived.Test.YtfcflpcmjlbedaaDoorM9
set_option linter.unusedVariables false
set_option linter.unusedSimpArgs false
namespace Go.Proofs
open Go.Abs

/-- The least number without a bit; n, if there is none less than n. -/
def fv (s : Nat) : Nat → Nat
  | 0 => 0
  | n + 1 => if fv s n < n then fv s n else if s.testBit n then n + 1 else n
theorem fv_spec (s : Nat) : ∀ n, fv s n ≤ n ∧ (∀ j, j < fv s n → s.testBit j = true) ∧ (fv s n < n → s.testBit (fv s n) = false)
  | 0 => ⟨Nat.le_refl _, fun j hj => by simp [fv] at hj, fun h => by simp [fv] at h⟩
  | n + 1 => by
    obtain ⟨h1, h2, h3⟩ := fv_spec s n
    unfold fv
    by_cases h : fv s n < n
    · rw [if_pos h]; exact ⟨by omega, h2, fun _ => h3 h⟩
    · have he : fv s n = n := by omega
      rw [if_neg h]
      rw [he] at h2
      by_cases hb : s.testBit n = true
      · rw [if_pos hb]
        refine ⟨Nat.le_refl _, fun j hj => ?_, fun h => absurd h (by omega)⟩
        by_cases e : j = n
        · subst e; exact hb
        · exact h2 j (by omega)
      · rw [if_neg hb]
        exact ⟨by omega, h2, fun _ => by simpa using hb⟩
theorem fv_le (s n : Nat) : fv s n ≤ n := (fv_spec s n).1
theorem fv_below {s n j : Nat} (h : j < fv s n) : s.testBit j = true := (fv_spec s n).2.1 j h
theorem fv_at {s n : Nat} (h : fv s n < n) : s.testBit (fv s n) = false := (fv_spec s n).2.2 h
theorem fv_eq {s n v : Nat} (h1 : v ≤ n) (h2 : ∀ j, j < v → s.testBit j = true) (h3 : v < n → s.testBit v = false) : fv s n = v := by
  rcases Nat.lt_trichotomy (fv s n) v with h | h | h
  · have := h2 _ h
    rw [fv_at (by omega)] at this; cases this
  · exact h
  · have := fv_below h
    have := fv_le s n
    rw [h3 (by omega)] at *; simp_all
/-- The other end of an edge. -/
def othN (es : List (Int × Int)) (e : Int) (v : Nat) : Nat := ((es.getD e.toNat (0, 0)).1 + (es.getD e.toNat (0, 0)).2 - v).toNat
/-- All matchings of the vertices without a bit, in order, k edges each at the most. -/
def matL (es : List (Int × Int)) (n : Nat) : Nat → Nat → List (List Int)
  | 0, s => if fv s n = n then [[]] else []
  | k + 1, s => if fv s n = n then [[]] else (atL es (fv s n)).flatMap fun e => if s.testBit (othN es e (fv s n)) then [] else (matL es n k (s ||| 2 ^ fv s n ||| 2 ^ othN es e (fv s n))).map (e :: ·)
/-- Those that begin with one of the first t edges. -/
def matTo (es : List (Int × Int)) (n k s t : Nat) : List (List Int) := ((atL es (fv s n)).take t).flatMap fun e => if s.testBit (othN es e (fv s n)) then [] else (matL es n k (s ||| 2 ^ fv s n ||| 2 ^ othN es e (fv s n))).map (e :: ·)
theorem matL_end {es : List (Int × Int)} {n s : Nat} (h : fv s n = n) : ∀ k, matL es n k s = [[]]
  | 0 => by unfold matL; rw [if_pos h]
  | k + 1 => by unfold matL; rw [if_pos h]
theorem matL_to {es : List (Int × Int)} {n k s : Nat} (h : fv s n < n) : matL es n (k + 1) s = matTo es n k s (atL es (fv s n)).length := by
  unfold matTo; rw [List.take_length, matL, if_neg (by omega)]
theorem matTo_succ {es : List (Int × Int)} {n k s t : Nat} (h : t < (atL es (fv s n)).length) : matTo es n k s (t + 1) = matTo es n k s t ++ if s.testBit (othN es ((atL es (fv s n)).getD t 0) (fv s n)) then [] else (matL es n k (s ||| 2 ^ fv s n ||| 2 ^ othN es ((atL es (fv s n)).getD t 0) (fv s n))).map ((atL es (fv s n)).getD t 0 :: ·) := by
  unfold matTo
  rw [List.take_succ_eq_append_getElem h, List.flatMap_append, getD_of h]
  simp
/-- How many vertices have no bit. -/
def left (s n : Nat) : Nat := unseen (fun j => s.testBit j) n
theorem or_insB (s y : Nat) : (fun j => (s ||| 2 ^ y).testBit j) = insB (fun j => s.testBit j) y := by
  funext j; simp [insB, Nat.testBit_or, Nat.testBit_two_pow]
theorem left_two {s n v w : Nat} (hv : v < n) (hw : w < n) (h1 : s.testBit v = false) (h2 : s.testBit w = false) (hne : v ≠ w) : left (s ||| 2 ^ v ||| 2 ^ w) n + 2 = left s n := by
  unfold left
  rw [or_insB, or_insB]
  have a := unseen_ins (S := fun j => s.testBit j) hv h1
  have b := unseen_ins (S := insB (fun j => s.testBit j) v) hw (by simp [insB, h2, hne])
  omega
section
variable {n : Int} {es : List (Int × Int)}
theorem srt_le (h : Srt es) {i j : Nat} (hij : i ≤ j) (hj : j < es.length) : (es.getD i (0, 0)).1 ≤ (es.getD j (0, 0)).1 := by
  induction j with
  | zero => have : i = 0 := by omega
            subst this; exact Int.le_refl _
  | succ j ih =>
    by_cases e : i = j + 1
    · subst e; exact Int.le_refl _
    · have a := ih (by omega) (by omega)
      have b := h j hj
      unfold ltE at b
      omega
/-- An edge at the least vertex that is left. -/
structure FirstE (n : Int) (es : List (Int × Int)) (s i w : Nat) : Prop where
  lt : i < es.length
  fst : (es.getD i (0, 0)).1 = fv s n.toNat
  snd : (es.getD i (0, 0)).2 = w
  wn : w < n.toNat
  vw : fv s n.toNat < w
theorem firstE (hg : IsG n es) {s i w : Nat} (hi : i < es.length) (ho : on (es.getD i (0, 0)) (fv s n.toNat) = true) (hw : (w : Int) = (es.getD i (0, 0)).1 + (es.getD i (0, 0)).2 - fv s n.toNat) (hs : s.testBit w = false) : FirstE n es s i w := by
  obtain ⟨d1, d2, d3, d4, d5⟩ := hg.ed.ends es[i] (List.getElem_mem hi)
  have up := hg.up es[i] (List.getElem_mem hi)
  rw [← getD_of (d := (0, 0)) hi] at d1 d2 d3 d4 d5 up
  unfold on at ho
  simp only [Bool.or_eq_true, beq_iff_eq] at ho
  have nlt : ¬ w < fv s n.toNat := fun h => by rw [fv_below h] at hs; cases hs
  refine ⟨hi, ?_, ?_, ?_, ?_⟩ <;> omega
theorem isS_asc {l : List Int} {m : Nat} (ha : Asc l) (hr : ∀ x ∈ l, 0 ≤ x ∧ x < m) : IsS l m := by
  intro i hi
  have := hr _ (List.getElem_mem hi)
  rw [getD_of hi]
  refine ⟨this.1, by omega, fun h0 => ?_⟩
  unfold Asc at ha
  rw [List.pairwise_iff_getElem] at ha
  rw [getD_of (by omega)]
  exact ha _ _ (by omega) hi (by omega)
theorem mem_matL (hg : IsG n es) : ∀ {k s : Nat} {l : List Int}, l ∈ matL es n.toNat k s → Asc l ∧ ∀ x ∈ l, 0 ≤ x ∧ x < es.length ∧ (fv s n.toNat : Int) ≤ (es.getD x.toNat (0, 0)).1
  | 0, s, l, h => by
    unfold matL at h
    split at h
    · rw [List.mem_singleton] at h; subst h
      exact ⟨List.Pairwise.nil, fun x hx => by cases hx⟩
    · cases h
  | k + 1, s, l, h => by
    by_cases he : fv s n.toNat = n.toNat
    · rw [matL_end he, List.mem_singleton] at h; subst h
      exact ⟨List.Pairwise.nil, fun x hx => by cases hx⟩
    · unfold matL at h
      rw [if_neg he, List.mem_flatMap] at h
      obtain ⟨e, hm, hl⟩ := h
      obtain ⟨i, rfl, hi, ho⟩ := mem_atL.1 hm
      by_cases hb : s.testBit (othN es (i : Int) (fv s n.toNat)) = true
      · rw [if_pos hb] at hl; cases hl
      · rw [if_neg hb, List.mem_map] at hl
        obtain ⟨m, hm', rfl⟩ := hl
        have hlt : fv s n.toNat < n.toNat := by have := fv_le s n.toNat; omega
        have hw : (othN es (i : Int) (fv s n.toNat) : Int) = (es.getD i (0, 0)).1 + (es.getD i (0, 0)).2 - fv s n.toNat := by
          obtain ⟨d1, d2, d3, d4, d5⟩ := hg.ed.ends es[i] (List.getElem_mem hi)
          rw [← getD_of (d := (0, 0)) hi] at d1 d2 d3 d4 d5
          unfold on at ho
          simp only [Bool.or_eq_true, beq_iff_eq] at ho
          unfold othN; rw [Int.toNat_natCast]; omega
        have fe := firstE hg hi ho hw (by simpa using hb)
        obtain ⟨ha, hr⟩ := mem_matL hg hm'
        have hfv : fv s n.toNat < fv (s ||| 2 ^ fv s n.toNat ||| 2 ^ othN es (i : Int) (fv s n.toNat)) n.toNat := by
          rcases Nat.lt_or_ge (fv s n.toNat) (fv (s ||| 2 ^ fv s n.toNat ||| 2 ^ othN es (i : Int) (fv s n.toNat)) n.toNat) with h | h
          · exact h
          · have := fv_at (s := s ||| 2 ^ fv s n.toNat ||| 2 ^ othN es (i : Int) (fv s n.toNat)) (n := n.toNat) (by omega)
            rw [Nat.testBit_or, Nat.testBit_or, Bool.or_eq_false_iff, Bool.or_eq_false_iff, Nat.testBit_two_pow] at this
            have h2 : fv (s ||| 2 ^ fv s n.toNat ||| 2 ^ othN es (i : Int) (fv s n.toNat)) n.toNat ≠ fv s n.toNat := fun e => by rw [e] at this; simp at this
            have := this.1.1
            rw [fv_below (s := s) (n := n.toNat) (by omega)] at this; cases this
        refine ⟨List.pairwise_cons.2 ⟨fun y hy => ?_, ha⟩, fun x hx => ?_⟩
        · obtain ⟨y0, y1, y2⟩ := hr y hy
          rcases Int.lt_or_le (i : Int) y with h | h
          · exact h
          · have := srt_le hg.srt (i := y.toNat) (j := i) (by omega) hi
            have := fe.fst
            omega
        · rcases List.mem_cons.1 hx with rfl | hx
          · have := fe.fst
            rw [Int.toNat_natCast]; omega
          · obtain ⟨y0, y1, y2⟩ := hr x hx
            omega
theorem matL_isS (hg : IsG n es) {k s : Nat} {l : List Int} (h : l ∈ matL es n.toNat k s) : IsS l es.length := by
  obtain ⟨h1, h2⟩ := mem_matL hg h
  exact isS_asc h1 fun x hx => ⟨(h2 x hx).1, (h2 x hx).2.1⟩
theorem matL_length (hg : IsG n es) : ∀ k s, (matL es n.toNat k s).length ≤ 3 ^ k
  | 0, s => by unfold matL; split <;> simp
  | k + 1, s => by
    by_cases he : fv s n.toNat = n.toNat
    · rw [matL_end he]; exact Nat.pos_of_ne_zero (by simp)
    · have hlt := fv_le s n.toNat
      have h3 := hg.three (v := (fv s n.toNat : Int)) (by omega) (by omega)
      rw [matL_to (by omega), matTo, List.take_length]
      have := flatMap_len (c := 3 ^ k) (atL es (fv s n.toNat : Int)) (f := fun e => if s.testBit (othN es e (fv s n.toNat)) then [] else (matL es n.toNat k (s ||| 2 ^ fv s n.toNat ||| 2 ^ othN es e (fv s n.toNat))).map (e :: ·)) fun e _ => by
        split
        · simp
        · rw [List.length_map]; exact matL_length hg k _
      rw [h3] at this
      rw [Nat.pow_succ, Nat.mul_comm]; exact this
end
end Go.Proofs
