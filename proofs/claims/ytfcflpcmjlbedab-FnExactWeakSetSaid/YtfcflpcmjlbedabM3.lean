/- Plain mathematics: edges at vertices, colourings, matchings. -/
import Derived.Test.YtfcflpcmjlbedabM2
set_option linter.unusedVariables false
set_option linter.unusedSimpArgs false
namespace Go.Proofs
open Go.Abs

def on (e : Int × Int) (v : Int) : Bool := e.1 == v || e.2 == v
/-- The edges at a vertex, as numbers, among the first k. -/
def atTo (es : List (Int × Int)) (v : Int) (k : Nat) : List Int := ((List.range k).filter (fun i => on (es.getD i (0, 0)) v)).map Int.ofNat
def atL (es : List (Int × Int)) (v : Int) : List Int := atTo es v es.length
theorem atTo_succ (es : List (Int × Int)) (v : Int) (k : Nat) : atTo es v (k + 1) = atTo es v k ++ (if on (es.getD k (0, 0)) v then [(k : Int)] else []) := by
  unfold atTo
  rw [List.range_succ, List.filter_append, List.map_append]
  congr 1
  cases h : on (es.getD k (0, 0)) v <;> simp only [List.filter_cons, h, List.filter_nil] <;> rfl
theorem atTo_length (es : List (Int × Int)) (v : Int) (k : Nat) : (atTo es v k).length ≤ k := by
  unfold atTo; rw [List.length_map]
  exact Nat.le_trans (List.length_filter_le _ _) (by simp)
theorem mem_atL {es : List (Int × Int)} {v : Int} {x : Int} : x ∈ atL es v ↔ ∃ i : Nat, x = i ∧ i < es.length ∧ on (es.getD i (0, 0)) v = true := by
  unfold atL atTo
  rw [List.mem_map]
  constructor
  · rintro ⟨i, hi, rfl⟩
    rw [List.mem_filter, List.mem_range] at hi
    exact ⟨i, rfl, hi⟩
  · rintro ⟨i, rfl, h1, h2⟩
    exact ⟨i, by rw [List.mem_filter, List.mem_range]; exact ⟨h1, h2⟩, rfl⟩

theorem bump1_get (cs : List Int) (v : Int) {i : Nat} (hi : i < cs.length) (hv : 0 ≤ v) : (bump1 cs v).getD i 0 = cs.getD i 0 + if v = i then 1 else 0 := by
  unfold bump1
  simp only [List.getD, List.getElem?_set]
  by_cases h : v = i
  · subst h; simp [hi]
  · have : v.toNat ≠ i := by omega
    simp [this, h]
theorem counts_at {n : Int} {es : List (Int × Int)} (hd : IsEd n es) {v : Nat} (hv : (v : Int) < n) : ∀ k, k ≤ es.length → (counts n (es.take k)).getD v 0 = ((atTo es v k).length : Int) := by
  intro k
  induction k with
  | zero =>
    intro _
    have : v < n.toNat := by omega
    simp [counts, atTo, this]
  | succ k ih =>
    intro hk
    have hk' : k < es.length := by omega
    obtain ⟨e1, e2, e3, e4, e5⟩ := hd.ends es[k] (List.getElem_mem hk')
    have hl : v < (counts n (es.take k)).length := by rw [counts_length]; omega
    rw [counts_take n es hk', bump, bump1_get _ _ (by rw [bump1_length]; exact hl) e3, bump1_get _ _ hl e1, ih (by omega), atTo_succ, List.length_append, getD_of hk']
    unfold on
    by_cases h1 : es[k].1 = v
    · have h2 : es[k].2 ≠ v := by omega
      simp [h1, h2]
    · by_cases h2 : es[k].2 = v <;> simp [h1, h2]
theorem IsG.three {n : Int} {es : List (Int × Int)} (hg : IsG n es) {v : Int} (h0 : 0 ≤ v) (h1 : v < n) : (atL es v).length = 3 := by
  obtain ⟨k, rfl⟩ : ∃ k : Nat, v = k := ⟨v.toNat, by omega⟩
  have := counts_at hg.ed h1 es.length (Nat.le_refl _)
  rw [List.take_length] at this
  have hl : k < (counts n es).length := by rw [counts_length]; omega
  rw [getD_of hl, hg.cub _ (List.getElem_mem hl)] at this
  unfold atL; omega

def share (a b : Int × Int) : Prop := ∃ v, on a v = true ∧ on b v = true
def ends (es : List (Int × Int)) (l : List Int) : List Int := l.flatMap fun i => [(es.getD i.toNat (0, 0)).1, (es.getD i.toNat (0, 0)).2]
theorem nodup_sub {l m : List Int} (h : l.Nodup) (hs : ∀ x ∈ l, x ∈ m) : l.length ≤ m.length := by
  induction l generalizing m with
  | nil => simp
  | cons a l ih =>
    rw [List.nodup_cons] at h
    have ha := hs a (by simp)
    have := ih (m := m.erase a) h.2 fun x hx => by
      rw [List.mem_erase_of_ne (by rintro rfl; exact h.1 hx)]; exact hs x (by simp [hx])
    rw [List.length_erase_of_mem ha] at this
    have := List.length_pos_of_mem ha
    simp; omega
def upto (n : Nat) : List Int := (List.range n).map Int.ofNat
end Go.Proofs
