/- Contracts: free edges, both sides. -/
import Derived.Test.YtfcflpcmjlbedaaDoorU39
import Derived.Test.YtfcflpcmjlbedaaDoorU38
import Derived.Test.YtfcflpcmjlbedaaDoorU5
set_option linter.unusedVariables false
set_option linter.unusedSimpArgs false
set_option maxRecDepth 100000
namespace Go.Proofs
open Go.Abs

variable {H G : AHeap} {v u f : Value} {l m c D : List Int} {es fs : List (Int × Int)} {K : Value → AHeap → Prop} {A A' : Nat → Prop} {B : Nat} {ls ms : List (List Int)}

theorem l04Has_ok {x : Int} (h : Ints H v l) (hl : l.length ≤ 4611686018427387904) (k : K (.bool (decide (x ∈ l))) H) : AC Tryd.prog T0 49 [v, .int .i64 x] H K := by
  apply F49.ac
  unfold F49.B8 F49.B7 F49.L2
  refine ⟨fun x0 x1 x5 G => x0 = v ∧ x1 = x ∧ 0 ≤ x5 ∧ x5 ≤ l.length ∧ G = H ∧ ∀ i : Nat, (i : Int) < x5 → l.getD i 0 ≠ x, fun _ _ x5 _ => l.length - x5.toNat, ⟨rfl, rfl, by omega, by omega, rfl, fun i hi => absurd hi (by omega)⟩, ?_⟩
  rintro x0 x1 x5 G ⟨rfl, rfl, h0, h1, rfl, hp⟩
  unfold F49.B6
  refine h.len (pif_cases (fun hb => ?_) fun hb => ?_)
  · have hlt : x5 < l.length := of_decide_eq_true hb
    obtain ⟨i, rfl⟩ : ∃ i : Nat, x5 = i := ⟨x5.toNat, by omega⟩
    have hi : i < l.length := by omega
    unfold F49.B5
    refine h.rd h0 hlt ?_
    simp only [Int.toNat_natCast]
    refine pif_cases (fun hs => ?_) fun hs => ?_
    · unfold F49.B4
      rw [getD_of hi] at hs
      rw [decide_eq_true (by rw [← beq_iff_eq.1 hs]; exact List.getElem_mem hi)] at k; exact k
    · unfold F49.B3
      rw [wrap_id (by omega) (by omega)]
      refine ⟨⟨rfl, rfl, by omega, by omega, rfl, fun j hj => ?_⟩, by simp; omega⟩
      by_cases he : j = i
      · subst he; exact beq_eq_false_iff_ne.1 hs
      · exact hp j (by omega)
  · have hge : ¬ x5 < l.length := of_decide_eq_false hb
    unfold F49.B1
    rw [decide_eq_false (fun hx => by
      obtain ⟨i, hi, rfl⟩ := List.getElem_of_mem hx
      have := hp i (by omega)
      rw [getD_of hi] at this; exact this rfl)] at k; exact k

/-- How many lists have a number. -/
def withN (ls : List (List Int)) (x : Int) : Nat := (ls.filter fun l => decide (x ∈ l)).length
theorem withN_le (ls : List (List Int)) (x : Int) : withN ls x ≤ ls.length := List.length_filter_le _ _
theorem withN_take {x : Int} {i : Nat} (h : i < ls.length) : withN (ls.take (i + 1)) x = withN (ls.take i) x + if x ∈ ls.getD i [] then 1 else 0 := by
  unfold withN
  rw [List.take_succ_eq_append_getElem h, List.filter_append, List.length_append, getD_of h]
  by_cases hx : x ∈ ls[i] <;> simp [hx]
theorem withN_pos {x : Int} : 0 < withN ls x ↔ ∃ l ∈ ls, x ∈ l := by
  unfold withN
  rw [List.length_pos_iff_exists_mem]
  constructor
  · rintro ⟨l, hl⟩
    rw [List.mem_filter] at hl
    exact ⟨l, hl.1, of_decide_eq_true hl.2⟩
  · rintro ⟨l, h1, h2⟩
    exact ⟨l, List.mem_filter.2 ⟨h1, decide_eq_true h2⟩⟩
theorem withN_all {x : Int} : withN ls x = ls.length ↔ ∀ l ∈ ls, x ∈ l := by
  unfold withN
  rw [List.length_filter_eq_length_iff]
  exact ⟨fun h l hl => of_decide_eq_true (h l hl), fun h l hl => decide_eq_true (h l hl)⟩
theorem l04With_ok {x : Int} (h : RowsF A B H v ls) (hl : ls.length ≤ 1000000) (hr : ∀ l ∈ ls, l.length ≤ 1000000) (k : K (.int .i64 (withN ls x : Nat)) H) : AC Tryd.prog T0 28 [v, .int .i64 x] H K := by
  apply F28.ac
  unfold F28.B9 F28.B8 F28.B7 F28.L2
  refine ⟨fun x0 x1 x5 x6 G => v = x0 ∧ x = x1 ∧ H = G ∧ ∃ i : Nat, x6 = i ∧ i ≤ ls.length ∧ x5 = (withN (ls.take i) x : Nat), fun _ _ _ x6 _ => ls.length - x6.toNat, ⟨rfl, rfl, rfl, 0, rfl, by omega, by simp [withN]⟩, ?_⟩
  rintro x0 x1 x5 x6 G ⟨rfl, rfl, rfl, i, rfl, hi, rfl⟩
  have hw := withN_le (ls.take i) x
  rw [List.length_take] at hw
  unfold F28.B6
  refine h.len (pif_cases (fun hb => ?_) fun hb => ?_)
  · have hil : i < ls.length := by have := of_decide_eq_true hb; omega
    have hs := withN_take (x := x) hil
    unfold F28.B5
    refine h.row hil fun w fw => l04Has_ok fw.ints (by rw [getD_of hil]; have := hr _ (List.getElem_mem hil); omega) (asB_mk (pif_cases (fun hb => ?_) fun hb => ?_))
    · have hx : x ∈ ls.getD i [] := of_decide_eq_true hb
      rw [if_pos hx] at hs
      unfold F28.B4 F28.B3
      rw [wrap_id (by omega) (by omega), wrap_id (by omega) (by omega)]
      exact ⟨⟨rfl, rfl, rfl, i + 1, by omega, by omega, by omega⟩, by show ls.length - ((i : Int) + 1).toNat < ls.length - (i : Int).toNat; omega⟩
    · have hx : ¬ x ∈ ls.getD i [] := of_decide_eq_false hb
      rw [if_neg hx] at hs
      unfold F28.B3
      rw [wrap_id (by omega) (by omega)]
      exact ⟨⟨rfl, rfl, rfl, i + 1, by omega, by omega, by omega⟩, by show ls.length - ((i : Int) + 1).toNat < ls.length - (i : Int).toNat; omega⟩
  · have hil : i = ls.length := by have := of_decide_eq_false hb; omega
    subst hil
    unfold F28.B1
    rw [List.take_length]; exact k

noncomputable def freeL (n : Int) (es : List (Int × Int)) : List Int := if IsG n es then filtB (fun j => decide (0 < withN (mats n es) j ∧ withN (mats n es) j < (mats n es).length)) es.length else []
noncomputable def grCode (n : Int) (es : List (Int × Int)) : Int := if IsG n es then 0 else 1
theorem mats_row {n : Int} (hg : IsG n es) : ∀ l ∈ mats n es, IsS l es.length ∧ l.length ≤ 30 := fun l hl => by
  have h := matL_isS hg hl
  have h30 : es.length ≤ 30 := by have := hg.ed.len; have := hg.ed.hi; omega
  have hs : l.length ≤ es.length := by rw [h.filt]; exact filtB_length _ _
  exact ⟨h, by omega⟩
theorem specFree_ok {n : Int} (h : Edges H v es) (hl : es.length ≤ 1048576) (k : ∀ v' G, H.le G → Fresh H.length G v' 2 1 (LI (freeL n es)) → K (.tuple ⟨[v', .int .i64 (grCode n es)]⟩) G) : AC Tryd.prog T0 8 [.agg ⟨[.int .i64 n, v]⟩] H K := by
  apply F8.ac
  unfold F8.B12
  refine newK_f (all_iv (edges_one' h)) fun H1 l1 _ o1 => ?_
  unfold F8.B11
  refine ldI_own o1 rfl (ld1_own o1 rfl (l01Is_ok (h.le l1) hl fun H2 l2 => asB_mk ?_))
  have l12 := AHeap.le_trans l1 l2
  have o2 := o1.le l2
  unfold grCode freeL at k
  refine pif_cases (fun hs => ?_) fun hs => ?_
  · have hg : ¬ IsG n es := by simpa using hs
    unfold F8.B10
    have k := k (.slice none 0 0) _ l12
    rw [if_neg hg, if_neg hg] at k
    exact k (.inl ⟨rfl, .inl rfl⟩)
  have hg : IsG n es := by simpa using hs
  rw [if_pos hg, if_pos hg] at k
  have h30 : es.length ≤ 30 := by have := hg.ed.len; have := hg.ed.hi; omega
  have hml := mats_length hg
  unfold F8.B9
  refine ldI_own o2 rfl (ld1_own o2 rfl (l04All_ok hg (h.le l12) fun q H3 l3 hR => newK_f rfl fun H4 l4 n4 o4 => ?_))
  have l13 := AHeap.le_trans l12 l3
  have b1 := l13.1
  have o13 := (o2.le l3).le l4
  unfold F8.B8 F8.L2
  refine ⟨fun x1 x4 x5 x6 G => H.length = x1 ∧ q = x4 ∧ H3.le G ∧ ∃ i : Nat, x6 = i ∧ i ≤ es.length ∧ Fresh H3.length G x5 2 1 (LI (filtB (fun j => decide (0 < withN (mats n es) j ∧ withN (mats n es) j < (mats n es).length)) i)), fun _ _ _ x6 _ => es.length - x6.toNat, ⟨rfl, rfl, l4, 0, rfl, by omega, .inr ⟨_, 0, Nat.le_refl _, rfl, o4, rfl⟩⟩, ?_⟩
  rintro x1 x4 x5 x6 G ⟨rfl, rfl, hG, i, rfl, hi, hF⟩
  have lG := AHeap.le_trans l13 hG
  have oG := (o2.le l3).le hG
  have hRG := hR.le hG
  unfold F8.B7
  refine ld1_own oG rfl ((h.le lG).len (pif_cases (fun hb => ?_) fun hb => ?_))
  · have hil : i < es.length := by have := of_decide_eq_true hb; omega
    have hfl := filtB_length (fun j => decide (0 < withN (mats n es) (j : Nat) ∧ withN (mats n es) (j : Nat) < (mats n es).length)) i
    unfold F8.B6
    refine l04With_ok hRG (by omega) (fun l hl => by have := (mats_row hg l hl).2; omega) (asI_mk ?_)
    have hsucc := filtB_succ (fun j => decide (0 < withN (mats n es) (j : Nat) ∧ withN (mats n es) (j : Nat) < (mats n es).length)) i
    have no : ¬ (0 < withN (mats n es) (i : Nat) ∧ withN (mats n es) (i : Nat) < (mats n es).length) → ∀ N2 : Nat → Value → Value → Int → AHeap → Prop, (∀ v' G', H3.le G' → Fresh H3.length G' v' 2 1 (LI (filtB (fun j => decide (0 < withN (mats n es) j ∧ withN (mats n es) j < (mats n es).length)) (i + 1))) → N2 H.length q v' ((i : Int) + 1) G') → F8.B3 K N2 H.length q x5 i G := by
      intro hn N2 hN
      unfold F8.B3
      rw [wrap_id (by omega) (by omega)]
      refine hN x5 G hG ?_
      rw [hsucc, decide_eq_false hn]; simpa using hF
    have fin : ∀ v' G', H3.le G' → Fresh H3.length G' v' 2 1 (LI (filtB (fun j => decide (0 < withN (mats n es) j ∧ withN (mats n es) j < (mats n es).length)) (i + 1))) → (H.length = H.length ∧ q = q ∧ H3.le G' ∧ ∃ i' : Nat, (i : Int) + 1 = i' ∧ i' ≤ es.length ∧ Fresh H3.length G' v' 2 1 (LI (filtB (fun j => decide (0 < withN (mats n es) j ∧ withN (mats n es) j < (mats n es).length)) i'))) ∧ es.length - ((i : Int) + 1).toNat < es.length - (i : Int).toNat :=
      fun v' G' h1 h2 => ⟨⟨rfl, rfl, h1, i + 1, by omega, by omega, h2⟩, by omega⟩
    unfold F8.B5
    refine pif_cases (fun hb => ?_) fun hb => ?_
    · have h0 := of_decide_eq_true hb
      refine hRG.len (pif_cases (fun hb => ?_) fun hb => ?_)
      · have h1 := of_decide_eq_true hb
        have hyes : 0 < withN (mats n es) (i : Nat) ∧ withN (mats n es) (i : Nat) < (mats n es).length := by omega
        unfold F8.B4
        refine hF.sl.pushN E_int (by decide) hG.1 (n := 1) (ys := [.int .i64 i]) rfl rfl (by rw [List.length_map]; simp only [List.length_cons, List.length_nil]; omega) (by simp) fun v' G2 k2 _ _ f2 => ?_
        unfold F8.B3
        rw [wrap_id (by omega) (by omega)]
        refine fin v' G2 (k2.le hG (Nat.le_refl _)) ?_
        rw [hsucc, decide_eq_true hyes]; simpa using f2
      · have h1 := of_decide_eq_false hb
        exact no (by omega) _ fin
    · have h0 := of_decide_eq_false hb
      exact no (by omega) _ fin
  · have hil : i = es.length := by have := of_decide_eq_false hb; omega
    subst hil
    unfold F8.B1
    exact k _ _ lG (hF.less b1)

theorem every_ok {n : Int} (h : Edges H v es) (hl : es.length ≤ 60) (k : ∀ G, H.le G → K (.int .u64 ((2 ^ es.length - 1 : Nat) : Int)) G) : AC Tryd.prog T0 31 [.agg ⟨[.int .i64 n, v]⟩] H K := by
  apply F31.ac
  unfold F31.B2
  refine newK_f (all_iv (edges_one' h)) fun H1 l1 _ o1 => ?_
  unfold F31.B1
  refine ld1_own o1 rfl ((h.le l1).len ⟨by omega, ?_⟩)
  have e1 : IntKind.u64.wrap (1 * 2 ^ (min (Int.toNat ((es.length : Nat) : Int)) 64)) = ((2 ^ es.length : Nat) : Int) := by
    have := one_shl (i := ((es.length : Nat) : Int)) (by omega) (by omega)
    rw [this, Int.toNat_natCast]
  have hp : (2 : Nat) ^ es.length < 2 ^ 61 := Nat.pow_lt_pow_right (by decide) (by omega)
  have h0 := Nat.two_pow_pos es.length
  have e2 : IntKind.u64.wrap (((2 ^ es.length : Nat) : Int) - 1) = ((2 ^ es.length - 1 : Nat) : Int) := by
    generalize 2 ^ es.length = p at hp h0 ⊢
    rw [show ((p : Nat) : Int) - 1 = ((p - 1 : Nat) : Int) by omega, u64_nat (by omega)]
  rw [e1, e2]
  exact k _ l1
theorem bits_andnot {s t : Nat} (h : s < 2 ^ 64) (g : t < 2 ^ 64) : IntKind.u64.wrap ((BitVec.ofInt 64 (s : Int) &&& ~~~(BitVec.ofInt 64 (t : Int))).toNat : Int) = ((s &&& (2 ^ 64 - (t + 1)) : Nat) : Int) := by
  have hs : s &&& (2 ^ 64 - (t + 1)) < 2 ^ 64 := Nat.lt_of_le_of_lt Nat.and_le_left h
  rw [bv_nat, bv_nat, BitVec.toNat_and, BitVec.toNat_not, BitVec.toNat_ofNat, BitVec.toNat_ofNat, Nat.mod_eq_of_lt h, Nat.mod_eq_of_lt g, show 2 ^ 64 - 1 - t = 2 ^ 64 - (t + 1) by omega, u64_nat hs]
theorem andnot_bit {s t j : Nat} (h : s < 2 ^ 64) (g : t < 2 ^ 64) : (s &&& (2 ^ 64 - (t + 1))).testBit j = (s.testBit j && !t.testBit j) := by
  rw [Nat.testBit_and, Nat.testBit_two_pow_sub_succ g]
  by_cases hj : j < 64
  · simp [hj]
  · rw [testBit_big h (by omega)]; simp
def orN (ls : List (List Int)) : Nat := ls.foldl (fun s l => s ||| setN l) 0
def andN (m : Nat) (ls : List (List Int)) : Nat := ls.foldl (fun s l => s &&& setN l) (2 ^ m - 1)
theorem orN_snoc (l : List Int) : orN (ls ++ [l]) = orN ls ||| setN l := by unfold orN; rw [List.foldl_append]; rfl
theorem andN_snoc {m : Nat} (l : List Int) : andN m (ls ++ [l]) = andN m ls &&& setN l := by unfold andN; rw [List.foldl_append]; rfl
theorem orN_bit_from (j : Nat) : ∀ (ls : List (List Int)) (s : Nat), (ls.foldl (fun s l => s ||| setN l) s).testBit j = true ↔ s.testBit j = true ∨ ∃ l ∈ ls, bitB l j = true
  | [], s => by simp
  | l :: ls, s => by
    rw [List.foldl_cons, orN_bit_from j ls, Nat.testBit_or, Bool.or_eq_true]
    unfold bitB
    constructor
    · rintro ((h | h) | ⟨l', h1, h2⟩)
      · exact .inl h
      · exact .inr ⟨l, by simp, h⟩
      · exact .inr ⟨l', by simp [h1], h2⟩
    · rintro (h | ⟨l', h1, h2⟩)
      · exact .inl (.inl h)
      · rcases List.mem_cons.1 h1 with rfl | h1
        · exact .inl (.inr h2)
        · exact .inr ⟨l', h1, h2⟩
theorem orN_bit {j : Nat} : (orN ls).testBit j = true ↔ ∃ l ∈ ls, bitB l j = true := by
  unfold orN; rw [orN_bit_from]; simp
theorem andN_bit_from (j : Nat) : ∀ (ls : List (List Int)) (s : Nat), (ls.foldl (fun s l => s &&& setN l) s).testBit j = true ↔ s.testBit j = true ∧ ∀ l ∈ ls, bitB l j = true
  | [], s => by simp
  | l :: ls, s => by
    rw [List.foldl_cons, andN_bit_from j ls, Nat.testBit_and, Bool.and_eq_true]
    unfold bitB
    constructor
    · rintro ⟨⟨h1, h2⟩, h3⟩
      refine ⟨h1, fun l' hl' => ?_⟩
      rcases List.mem_cons.1 hl' with rfl | hl'
      · exact h2
      · exact h3 l' hl'
    · rintro ⟨h1, h2⟩
      exact ⟨⟨h1, h2 l (by simp)⟩, fun l' hl' => h2 l' (by simp [hl'])⟩
theorem andN_bit {m j : Nat} : (andN m ls).testBit j = true ↔ j < m ∧ ∀ l ∈ ls, bitB l j = true := by
  unfold andN; rw [andN_bit_from, Nat.testBit_two_pow_sub_one]; simp
theorem orN_lt (h : ∀ l ∈ ls, setN l < 2 ^ 64) : orN ls < 2 ^ 64 := by
  have key : ∀ (ls : List (List Int)) (s : Nat), s < 2 ^ 64 → (∀ l ∈ ls, setN l < 2 ^ 64) → ls.foldl (fun s l => s ||| setN l) s < 2 ^ 64 := by
    intro ls
    induction ls with
    | nil => intro s hs _; exact hs
    | cons l ls ih => intro s hs h; exact ih _ (or_lt hs (h l (by simp))) fun l' hl' => h l' (by simp [hl'])
  exact key ls 0 (by decide) h
theorem andN_lt {m : Nat} (hm : m ≤ 60) : andN m ls < 2 ^ 64 := by
  have key : ∀ (ls : List (List Int)) (s : Nat), s < 2 ^ 64 → ls.foldl (fun s l => s &&& setN l) s < 2 ^ 64 := by
    intro ls
    induction ls with
    | nil => intro s hs; exact hs
    | cons l ls ih => intro s hs; exact ih _ (Nat.lt_of_le_of_lt Nat.and_le_left hs)
  refine key ls _ ?_
  have : (2 : Nat) ^ m < 2 ^ 61 := Nat.pow_lt_pow_right (by decide) (by omega)
  have : (2 : Nat) ^ 61 < 2 ^ 64 := by decide
  omega

theorem implFree_ok {n : Int} (hT : Tab H) (h : Edges H v es) (hl : es.length ≤ 1048576) (k : ∀ v' G, H.le G → Fresh H.length G v' 2 1 (LI (freeL n es)) → K (.tuple ⟨[v', .int .i64 (grCode n es)]⟩) G) : AC Tryd.prog T0 10 [.agg ⟨[.int .i64 n, v]⟩] H K := by
  apply F10.ac
  unfold F10.B7
  refine newK_f (all_iv (edges_one' h)) fun H1 l1 _ o1 => ?_
  unfold F10.B6
  refine ldI_own o1 rfl (ld1_own o1 rfl (graphCode_ok (b := true) (h.le l1) hl fun H2 l2 => asI_mk ?_))
  have l12 := AHeap.le_trans l1 l2
  have o2 := o1.le l2
  have e : (if IsG n es then (if true = true then 0 else 2) else 1 : Int) = grCode n es := by unfold grCode; simp
  rw [e]
  unfold F10.B5
  refine pif_cases (fun hs => ?_) fun hs => ?_
  · have hg : ¬ IsG n es := fun h => by unfold grCode at hs; rw [if_pos h] at hs; simp at hs
    unfold F10.B4
    have k := k (.slice none 0 0) _ l12
    unfold freeL at k
    rw [if_neg hg] at k
    exact k (.inl ⟨rfl, .inl rfl⟩)
  have hg : IsG n es := by
    unfold grCode at hs
    by_cases h : IsG n es
    · exact h
    · rw [if_neg h] at hs; simp at hs
  have e0 : grCode n es = 0 := by unfold grCode; rw [if_pos hg]
  rw [e0] at k
  unfold freeL at k
  rw [if_pos hg] at k
  have h30 : es.length ≤ 30 := by have := hg.ed.len; have := hg.ed.hi; omega
  have hrow := mats_row hg
  have hsn : ∀ l ∈ mats n es, setN l < 2 ^ 64 := fun l hl => setN_lt fun x hx => by have := (hrow l hl).1.range x hx; omega
  unfold F10.B3
  refine ldI_own o2 rfl (ld1_own o2 rfl (every_ok (h.le l12) (by omega) fun H3 l3 => asI_mk (newK_f rfl fun H4 l4 n4 o4 => newK_f rfl fun H5 l5 n5 o5 => stK_f (o4.le l5) (by simp) (by simp [Value.oneCell']) rfl fun H6 b6 o6 => stK_f (b6.own o5 (by omega)) (by simp) (by simp [Value.oneCell']) rfl fun H7 b7 o7 => ?_)))
  have o67 := b7.own o6 (by omega)
  have l37 : H3.le H7 := b7.le (b6.le (AHeap.le_trans l4 l5) (Nat.le_refl _)) (by omega)
  have l17 := AHeap.le_trans (AHeap.le_trans l12 l3) l37
  have o27 := (o2.le l3).le l37
  have hl7 : H7.length = H3.length + 2 := by rw [b7.len, b6.len]; omega
  obtain ⟨a, ha⟩ : ∃ a, a = H3.length := ⟨_, rfl⟩
  obtain ⟨b, hb⟩ : ∃ b, b = H4.length := ⟨_, rfl⟩
  rw [← ha] at o67; rw [← hb] at o7; rw [← ha, ← hb]
  have hab : a + 1 = b := by omega
  clear o6 b6 b7 o5 o4 l5 l4
  have h23 := l3.1
  have h12 := l12.1
  unfold F10.B2
  refine ldI_own o27 rfl (ld1_own o27 rfl (matchings_ok hg (H0 := H) (Pv0 := fun x => x = a ∨ x = b) (q := fun _ => false)
    (J := fun done Pv G => (∀ x, Pv x ↔ (x = a ∨ x = b)) ∧ b < G.length ∧ (∀ l ∈ done, l ∈ mats n es) ∧ Own G a 52 [.int .u64 (orN done : Nat)] ∧ Own G b 52 [.int .u64 (andN es.length done : Nat)])
    h l17 (fun x hx => by omega) hT rfl ⟨fun x => Iff.rfl, by omega, (fun l hl => by cases hl), o67, o7⟩ ?_ ?_ ?_ ?_))
  · rintro done Pv G G2 ⟨h1, h2, h3, h4, h5⟩ hle
    exact ⟨h1, by have := hle.1; omega, h3, h4.le hle, h5.le hle⟩
  · rintro done Pv G x ⟨h1, h2, h3, h4, h5⟩ hx
    have := (h1 x).1 hx; omega
  · rintro done Pv l G ⟨h1, h2, h3, h4, h5⟩ hF hlm _ K hK
    have ho : orN done < 2 ^ 64 := orN_lt fun l' hl' => hsn l' (h3 l' hl')
    have hn : andN es.length done < 2 ^ 64 := andN_lt (by omega)
    have hsl := hsn l hlm
    refine callV_mk ?_
    apply F33.ac
    unfold F33.B4 F33.B3
    refine asP_mk (ldI_own h4 rfl (asP_mk (stK_f h4 (by simp) (by simp [Value.oneCell']) rfl fun G2 b2 o2' => ?_)))
    have h5' := b2.own h5 (by omega)
    unfold F33.B2
    refine asP_mk (ldI_own h5' rfl (asP_mk (stK_f h5' (by simp) (by simp [Value.oneCell']) rfl fun G3 b3 o3' => ?_)))
    rw [bits_or ho hsl, ← orN_snoc] at o2'
    rw [bits_and hn hsl, ← andN_snoc] at o3'
    unfold F33.B1
    refine hK G3 Pv ⟨h1, by rw [b3.len, b2.len]; exact h2, fun l' hl' => ?_, b3.own o2' (by omega), o3'⟩ ⟨by rw [b3.len, b2.len]; exact Nat.le_refl _, fun x hx => .inl hx, fun x o hx ho => ?_⟩
    · rcases List.mem_append.1 hl' with h | h
      · exact h3 l' h
      · rw [List.mem_singleton] at h; rw [h]; exact hlm
    · have hn : ¬ (x = a ∨ x = b) := fun h => hx ((h1 x).2 h)
      rw [b3.same x (by omega), b2.same x (by omega)]; exact ho
  · rintro G Pv ⟨h1, h2, h3, h4, h5⟩ hF
    rw [upToD_all anyD_none] at h4 h5
    have ho : orN (mats n es) < 2 ^ 64 := orN_lt hsn
    have hn : andN es.length (mats n es) < 2 ^ 64 := andN_lt (by omega)
    refine asB_mk ?_
    unfold F10.B1
    refine ldI_own h4 rfl (ldI_own h5 rfl ?_)
    rw [bits_andnot ho hn]
    refine list_ok (Nat.lt_of_le_of_lt Nat.and_le_left ho) fun w G2 l2' f2 => ?_
    have hbG := (hF.base l17 (fun x hx => by omega)).1
    refine k w G2 (AHeap.le_trans hbG l2') ?_
    have hbits : ∀ j, (orN (mats n es) &&& (2 ^ 64 - (andN es.length (mats n es) + 1))).testBit j = true → j < es.length := by
      intro j hj
      rw [andnot_bit ho hn, Bool.and_eq_true, orN_bit] at hj
      obtain ⟨⟨l, h1, h2⟩, _⟩ := hj
      exact bitB_lt (hrow l h1).1 h2
    rw [bitsL_filt (by omega) hbits] at f2
    have e : filtB (fun j => (orN (mats n es) &&& (2 ^ 64 - (andN es.length (mats n es) + 1))).testBit j) es.length = filtB (fun j => decide (0 < withN (mats n es) (j : Nat) ∧ withN (mats n es) (j : Nat) < (mats n es).length)) es.length := by
      refine filtB_congr fun j hj => ?_
      rw [andnot_bit ho hn, Bool.eq_iff_iff, Bool.and_eq_true, orN_bit, decide_eq_true_iff, withN_pos, Bool.not_eq_true', ← Bool.not_eq_true, andN_bit]
      have e1 : (∃ l ∈ mats n es, bitB l j = true) ↔ ∃ l ∈ mats n es, (j : Int) ∈ l := by
        constructor <;> rintro ⟨l, h1, h2⟩
        · exact ⟨l, h1, (bitB_mem (hrow l h1).1 j).1 h2⟩
        · exact ⟨l, h1, (bitB_mem (hrow l h1).1 j).2 h2⟩
      have e2 : (∀ l ∈ mats n es, bitB l j = true) ↔ ∀ l ∈ mats n es, (j : Int) ∈ l :=
        ⟨fun h l hl => (bitB_mem (hrow l hl).1 j).1 (h l hl), fun h l hl => (bitB_mem (hrow l hl).1 j).2 (h l hl)⟩
      rw [e1, e2]
      refine and_congr_right fun _ => ?_
      have hle := withN_le (mats n es) (j : Nat)
      have ha := withN_all (ls := mats n es) (x := (j : Int))
      constructor
      · intro h
        rcases Nat.lt_or_ge (withN (mats n es) (j : Nat)) (mats n es).length with h' | h'
        · exact h'
        · exact absurd ⟨hj, ha.1 (by omega)⟩ h
      · rintro h ⟨_, h'⟩
        have := ha.2 h'; omega
    rw [e] at f2
    exact f2.less hbG.1
theorem freeL_small {n : Int} (hl : es.length ≤ 1048576) : (freeL n es).length ≤ 1048576 := by
  unfold freeL
  split
  · exact Nat.le_trans (filtB_length _ _) hl
  · simp
end Go.Proofs
