/- Contracts: free edges, both sides. -/
import Derived.Test.YtfcflpcmjlbedaaDoorU39
import Derived.Test.YtfcflpcmjlbedaaDoorU38
import Derived.Test.YtfcflpcmjlbedaaDoorU5
set_option linter.unusedVariables false
set_option linter.unusedSimpArgs false
set_option maxRecDepth 100000
namespace Go.Proofs
open Go.Abs

variable {H G : AHeap} {v u f : Value} {l m c D : List Int} {es fs : List (Int × Int)} {K : Value → AHeap → Prop} {A A' : Nat → Prop} {B : Nat} {ls ms : List (List Int)}

theorem l04Has_ok {x : Int} (h : Ints H v l) (hl : l.length ≤ 4611686018427387904) (k : K (.bool (decide (x ∈ l))) H) : AC Tryd.prog T0 49 [v, .int .i64 x] H K := by
  apply F49.ac
  unfold F49.B8 F49.B7 F49.L2
  refine ⟨fun x0 x1 x5 G => x0 = v ∧ x1 = x ∧ 0 ≤ x5 ∧ x5 ≤ l.length ∧ G = H ∧ ∀ i : Nat, (i : Int) < x5 → l.getD i 0 ≠ x, fun _ _ x5 _ => l.length - x5.toNat, ⟨rfl, rfl, by omega, by omega, rfl, fun i hi => absurd hi (by omega)⟩, ?_⟩
  rintro x0 x1 x5 G ⟨rfl, rfl, h0, h1, rfl, hp⟩
  unfold F49.B6
  refine h.len (pif_cases (fun hb => ?_) fun hb => ?_)
  · have hlt : x5 < l.length := of_decide_eq_true hb
    obtain ⟨i, rfl⟩ : ∃ i : Nat, x5 = i := ⟨x5.toNat, by omega⟩
    have hi : i < l.length := by omega
    unfold F49.B5
    refine h.rd h0 hlt ?_
    simp only [Int.toNat_natCast]
    refine pif_cases (fun hs => ?_) fun hs => ?_
    · unfold F49.B4
      rw [getD_of hi] at hs
      rw [decide_eq_true (by rw [← beq_iff_eq.1 hs]; exact List.getElem_mem hi)] at k; exact k
    · unfold F49.B3
      rw [wrap_id (by omega) (by omega)]
      refine ⟨⟨rfl, rfl, by omega, by omega, rfl, fun j hj => ?_⟩, by simp; omega⟩
      by_cases he : j = i
      · subst he; exact beq_eq_false_iff_ne.1 hs
      · exact hp j (by omega)
  · have hge : ¬ x5 < l.length := of_decide_eq_false hb
    unfold F49.B1
    rw [decide_eq_false (fun hx => by
      obtain ⟨i, hi, rfl⟩ := List.getElem_of_mem hx
      have := hp i (by omega)
      rw [getD_of hi] at this; exact this rfl)] at k; exact k

/-- How many lists have a number. -/
def withN (ls : List (List Int)) (x : Int) : Nat := (ls.filter fun l => decide (x ∈ l)).length
theorem withN_le (ls : List (List Int)) (x : Int) : withN ls x ≤ ls.length := List.length_filter_le _ _
theorem withN_take {x : Int} {i : Nat} (h : i < ls.length) : withN (ls.take (i + 1)) x = withN (ls.take i) x + if x ∈ ls.getD i [] then 1 else 0 := by
  unfold withN
  rw [List.take_succ_eq_append_getElem h, List.filter_append, List.length_append, getD_of h]
  by_cases hx : x ∈ ls[i] <;> simp [hx]
theorem withN_pos {x : Int} : 0 < withN ls x ↔ ∃ l ∈ ls, x ∈ l := by
  unfold withN
  rw [List.length_pos_iff_exists_mem]
  constructor
  · rintro ⟨l, hl⟩
    rw [List.mem_filter] at hl
    exact ⟨l, hl.1, of_decide_eq_true hl.2⟩
  · rintro ⟨l, h1, h2⟩
    exact ⟨l, List.mem_filter.2 ⟨h1, decide_eq_true h2⟩⟩
theorem l04With_ok {x : Int} (h : RowsF A B H v ls) (hl : ls.length ≤ 1000000) (hr : ∀ l ∈ ls, l.length ≤ 1000000) (k : K (.int .i64 (withN ls x : Nat)) H) : AC Tryd.prog T0 28 [v, .int .i64 x] H K := by
  apply F28.ac
  unfold F28.B9 F28.B8 F28.B7 F28.L2
  refine ⟨fun x0 x1 x5 x6 G => v = x0 ∧ x = x1 ∧ H = G ∧ ∃ i : Nat, x6 = i ∧ i ≤ ls.length ∧ x5 = (withN (ls.take i) x : Nat), fun _ _ _ x6 _ => ls.length - x6.toNat, ⟨rfl, rfl, rfl, 0, rfl, by omega, by simp [withN]⟩, ?_⟩
  rintro x0 x1 x5 x6 G ⟨rfl, rfl, rfl, i, rfl, hi, rfl⟩
  have hw := withN_le (ls.take i) x
  rw [List.length_take] at hw
  unfold F28.B6
  refine h.len (pif_cases (fun hb => ?_) fun hb => ?_)
  · have hil : i < ls.length := by have := of_decide_eq_true hb; omega
    have hs := withN_take (x := x) hil
    unfold F28.B5
    refine h.row hil fun w fw => l04Has_ok fw.ints (by rw [getD_of hil]; have := hr _ (List.getElem_mem hil); omega) (asB_mk (pif_cases (fun hb => ?_) fun hb => ?_))
    · have hx : x ∈ ls.getD i [] := of_decide_eq_true hb
      rw [if_pos hx] at hs
      unfold F28.B4 F28.B3
      rw [wrap_id (by omega) (by omega), wrap_id (by omega) (by omega)]
      exact ⟨⟨rfl, rfl, rfl, i + 1, by omega, by omega, by omega⟩, by show ls.length - ((i : Int) + 1).toNat < ls.length - (i : Int).toNat; omega⟩
    · have hx : ¬ x ∈ ls.getD i [] := of_decide_eq_false hb
      rw [if_neg hx] at hs
      unfold F28.B3
      rw [wrap_id (by omega) (by omega)]
      exact ⟨⟨rfl, rfl, rfl, i + 1, by omega, by omega, by omega⟩, by show ls.length - ((i : Int) + 1).toNat < ls.length - (i : Int).toNat; omega⟩
  · have hil : i = ls.length := by have := of_decide_eq_false hb; omega
    subst hil
    unfold F28.B1
    rw [List.take_length]; exact k

noncomputable def grCode (n : Int) (es : List (Int × Int)) : Int := if IsG n es then 0 else 1
theorem mats_row {n : Int} (hg : IsG n es) : ∀ l ∈ mats n es, IsS l es.length ∧ l.length ≤ 30 := fun l hl => by
  have h := matL_isS hg hl
  have h30 : es.length ≤ 30 := by have := hg.ed.len; have := hg.ed.hi; omega
  have hs : l.length ≤ es.length := by rw [h.filt]; exact filtB_length _ _
  exact ⟨h, by omega⟩
theorem every_ok {n : Int} (h : Edges H v es) (hl : es.length ≤ 60) (k : ∀ G, H.le G → K (.int .u64 ((2 ^ es.length - 1 : Nat) : Int)) G) : AC Tryd.prog T0 31 [.agg ⟨[.int .i64 n, v]⟩] H K := by
  apply F31.ac
  unfold F31.B2
  refine newK_f (all_iv (edges_one' h)) fun H1 l1 _ o1 => ?_
  unfold F31.B1
  refine ld1_own o1 rfl ((h.le l1).len ⟨by omega, ?_⟩)
  have e1 : IntKind.u64.wrap (1 * 2 ^ (min (Int.toNat ((es.length : Nat) : Int)) 64)) = ((2 ^ es.length : Nat) : Int) := by
    have := one_shl (i := ((es.length : Nat) : Int)) (by omega) (by omega)
    rw [this, Int.toNat_natCast]
  have hp : (2 : Nat) ^ es.length < 2 ^ 61 := Nat.pow_lt_pow_right (by decide) (by omega)
  have h0 := Nat.two_pow_pos es.length
  have e2 : IntKind.u64.wrap (((2 ^ es.length : Nat) : Int) - 1) = ((2 ^ es.length - 1 : Nat) : Int) := by
    generalize 2 ^ es.length = p at hp h0 ⊢
    rw [show ((p : Nat) : Int) - 1 = ((p - 1 : Nat) : Int) by omega, u64_nat (by omega)]
  rw [e1, e2]
  exact k _ l1
theorem bits_andnot {s t : Nat} (h : s < 2 ^ 64) (g : t < 2 ^ 64) : IntKind.u64.wrap ((BitVec.ofInt 64 (s : Int) &&& ~~~(BitVec.ofInt 64 (t : Int))).toNat : Int) = ((s &&& (2 ^ 64 - (t + 1)) : Nat) : Int) := by
  have hs : s &&& (2 ^ 64 - (t + 1)) < 2 ^ 64 := Nat.lt_of_le_of_lt Nat.and_le_left h
  rw [bv_nat, bv_nat, BitVec.toNat_and, BitVec.toNat_not, BitVec.toNat_ofNat, BitVec.toNat_ofNat, Nat.mod_eq_of_lt h, Nat.mod_eq_of_lt g, show 2 ^ 64 - 1 - t = 2 ^ 64 - (t + 1) by omega, u64_nat hs]
theorem andnot_bit {s t j : Nat} (h : s < 2 ^ 64) (g : t < 2 ^ 64) : (s &&& (2 ^ 64 - (t + 1))).testBit j = (s.testBit j && !t.testBit j) := by
  rw [Nat.testBit_and, Nat.testBit_two_pow_sub_succ g]
  by_cases hj : j < 64
  · simp [hj]
  · rw [testBit_big h (by omega)]; simp
def orN (ls : List (List Int)) : Nat := ls.foldl (fun s l => s ||| setN l) 0
theorem orN_snoc (l : List Int) : orN (ls ++ [l]) = orN ls ||| setN l := by unfold orN; rw [List.foldl_append]; rfl
theorem orN_bit_from (j : Nat) : ∀ (ls : List (List Int)) (s : Nat), (ls.foldl (fun s l => s ||| setN l) s).testBit j = true ↔ s.testBit j = true ∨ ∃ l ∈ ls, bitB l j = true
  | [], s => by simp
  | l :: ls, s => by
    rw [List.foldl_cons, orN_bit_from j ls, Nat.testBit_or, Bool.or_eq_true]
    unfold bitB
    constructor
    · rintro ((h | h) | ⟨l', h1, h2⟩)
      · exact .inl h
      · exact .inr ⟨l, by simp, h⟩
      · exact .inr ⟨l', by simp [h1], h2⟩
    · rintro (h | ⟨l', h1, h2⟩)
      · exact .inl (.inl h)
      · rcases List.mem_cons.1 h1 with rfl | h1
        · exact .inl (.inr h2)
        · exact .inr ⟨l', h1, h2⟩
theorem orN_bit {j : Nat} : (orN ls).testBit j = true ↔ ∃ l ∈ ls, bitB l j = true := by
  unfold orN; rw [orN_bit_from]; simp
theorem orN_lt (h : ∀ l ∈ ls, setN l < 2 ^ 64) : orN ls < 2 ^ 64 := by
  have key : ∀ (ls : List (List Int)) (s : Nat), s < 2 ^ 64 → (∀ l ∈ ls, setN l < 2 ^ 64) → ls.foldl (fun s l => s ||| setN l) s < 2 ^ 64 := by
    intro ls
    induction ls with
    | nil => intro s hs _; exact hs
    | cons l ls ih => intro s hs h; exact ih _ (or_lt hs (h l (by simp))) fun l' hl' => h l' (by simp [hl'])
  exact key ls 0 (by decide) h
end Go.Proofs
