/- Contracts: sets as bits, sums of sets. -/
import Derived.Test.YtodklioaeooocaaU5
import Derived.Test.YtodklioaeooocaaU2
import Derived.Test.YtodklioaeooocaaM2
set_option linter.unusedVariables false
set_option linter.unusedSimpArgs false
namespace Go.Proofs
open Go.Abs

variable {H : AHeap} {v u f : Value} {l m : List Int} {es fs : List (Int × Int)} {K : Value → AHeap → Prop}

noncomputable def tiInt : TI := (T0 2).getD ⟨.bool, 0, 0, undef⟩
theorem T0_int : T0 2 = some tiInt ∧ tiInt.size = 1 ∧ tiInt.bytes = 8 ∧ tiInt.fine = true := ⟨by kernel_rfl, by kernel_rfl, by kernel_rfl, by kernel_rfl⟩
theorem push_int {H0 : AHeap} {x : Int} (hF : Fresh H0.length H v 2 1 (LI l)) (h0 : H0.le H) (hs : l.length < 4294967296)
    (k : ∀ v' G, H0.le G → Fresh H0.length G v' 2 1 (LI (l ++ [x])) → (∀ b o, H[b]? = some (some o) → (∀ c n, v ≠ .slice (some ⟨b, c, none⟩) n (n + 1)) → G[b]? = some (some o)) → K v' G) :
    newK H [Value.int .i64 x] 2 (fun b1 H2 => apK T0 2 H2 v (Value.slice (some ⟨b1, 0, none⟩) 1 (1 + 1)) K) := by
  refine newK_f rfl fun H2 l2 n2 o2 => ?_
  obtain ⟨t1, t2, t3, t4⟩ := T0_int
  have hF2 := hF.le l2
  rw [← t2] at hF2
  refine Fresh.push (n := 1) (ys := [.int .i64 x]) t1 (by omega) (by omega) t4 hF2 (AHeap.le_trans h0 l2) ?_ (by decide) (by simp; omega) ?_
  · rw [t2]; exact cellsAt_row o2 (by simp)
  · intro v' G hG hf hk
    rw [t2] at hf
    exact k v' G hG (by simpa using hf) fun b o hb hne => hk b o (l2.2 _ _ hb) hne

theorem setOf_ok (h : Ints H v l) (hl : l.length ≤ 4611686018427387904) (hr : ∀ x ∈ l, 0 ≤ x ∧ x < 64) (k : K (.int .u64 (setN l : Nat)) H) : AC Try.prog T0 27 [v] H K := by
  apply F27.ac
  unfold F27.B9 F27.B8 F27.B7
  refine h.len ?_
  unfold F27.L2
  refine ⟨fun x3 x6 x7 x8 G => x3 = (setN (l.take x8.toNat) : Nat) ∧ x6 = v ∧ x7 = l.length ∧ 0 ≤ x8 ∧ x8 ≤ l.length ∧ G = H, fun _ _ _ x8 _ => l.length - x8.toNat, ⟨rfl, rfl, rfl, by omega, by omega, rfl⟩, ?_⟩
  rintro x3 x6 x7 x8 G ⟨rfl, rfl, rfl, h0, h1, rfl⟩
  unfold F27.B6
  refine pif_cases (fun hb => ?_) fun hb => ?_
  · have hlt : x8 < l.length := of_decide_eq_true hb
    obtain ⟨i, rfl⟩ : ∃ i : Nat, x8 = i := ⟨x8.toNat, by omega⟩
    have hi : i < l.length := by omega
    unfold F27.B5
    refine h.rd h0 hlt ?_
    simp only [Int.toNat_natCast, getD_of hi]
    have hx := hr l[i] (List.getElem_mem hi)
    unfold F27.B4
    refine ⟨hx.1, ?_⟩
    unfold F27.B3
    have hp : 2 ^ (l[i]).toNat < 2 ^ 64 := Nat.pow_lt_pow_right (by decide) (by omega)
    rw [wrap_id (x := (i : Int) + 1) (by omega) (by omega), one_shl hx.1 hx.2, bits_or (setN_lt fun x hx => (hr x (List.mem_of_mem_take hx)).2) hp]
    refine ⟨⟨?_, rfl, rfl, by omega, by omega, rfl⟩, by simp; omega⟩
    rw [show ((i : Int) + 1).toNat = i + 1 by omega, setN_take hi]
  · have hge : ¬ x8 < l.length := of_decide_eq_false hb
    have : x8 = l.length := by omega
    subst this
    unfold F27.B1
    simpa using k

theorem has_ok {s : Nat} {i : Int} (hs : s < 2 ^ 64) (h0 : 0 ≤ i) (k : K (.bool (s.testBit i.toNat)) H) : AC Try.prog T0 41 [.int .u64 (s : Nat), .int .i64 i] H K := by
  apply F41.ac
  unfold F41.B2 F41.B1
  refine ⟨h0, ?_⟩
  rw [has_bit hs h0]; exact k

theorem list_ok {s : Nat} (hs : s < 2 ^ 64) (k : ∀ v' G, H.le G → Fresh H.length G v' 2 1 (LI (bitsL s)) → K v' G) : AC Try.prog T0 28 [.int .u64 (s : Nat)] H K := by
  apply F28.ac
  unfold F28.B9 F28.B8 F28.B7 F28.L2
  refine ⟨fun x0 x3 x4 G => x0 = (s : Nat) ∧ 0 ≤ x4 ∧ x4 ≤ 64 ∧ H.le G ∧ Fresh H.length G x3 2 1 (LI (bitsTo s x4.toNat)), fun _ _ x4 _ => 64 - x4.toNat, ⟨rfl, by omega, by omega, AHeap.le_refl _, .inl ⟨rfl, .inl rfl⟩⟩, ?_⟩
  rintro x0 x3 x4 G ⟨rfl, h0, h1, hG, hF⟩
  obtain ⟨i, rfl⟩ : ∃ i : Nat, x4 = i := ⟨x4.toNat, by omega⟩
  simp only [Int.toNat_natCast] at hF
  unfold F28.B6
  refine ⟨h0, ?_⟩
  rw [shr_nat, show min (Int.toNat (i : Int)) 64 = i by simp; omega]
  refine pif_cases (fun hb => ?_) fun hb => ?_
  · have hi : i < 64 := by
      rcases Nat.lt_or_ge i 64 with h | h
      · exact h
      · have : i = 64 := by omega
        subst this
        rw [Nat.div_eq_of_lt hs] at hb; simp at hb
    unfold F28.B5
    refine has_ok hs h0 (asB_mk (pif_cases (fun hb => ?_) fun hb => ?_))
    · unfold F28.B4
      refine push_int hF hG (by have := bitsTo_length s i; omega) fun v' G2 hG2 hF2 _ => ?_
      unfold F28.B3
      rw [wrap_id (by omega) (by omega)]
      refine ⟨⟨rfl, by omega, by omega, hG2, ?_⟩, by simp; omega⟩
      rw [show ((i : Int) + 1).toNat = i + 1 by omega, bitsTo_succ, if_pos (by simpa using hb)]; exact hF2
    · unfold F28.B3
      rw [wrap_id (by omega) (by omega)]
      refine ⟨⟨rfl, by omega, by omega, hG, ?_⟩, by simp; omega⟩
      rw [show ((i : Int) + 1).toNat = i + 1 by omega, bitsTo_succ, if_neg (by simpa using hb), List.append_nil]; exact hF
  · have hz : s / 2 ^ i = 0 := Int.natCast_eq_zero.1 (bne_eq_false_iff_eq.1 hb)
    unfold F28.B1
    refine k _ _ hG ?_
    have e := bitsTo_end hz (64 - i)
    rw [show i + (64 - i) = 64 by omega] at e
    unfold bitsL
    rw [e]; exact hF

theorem l07Has_ok {x : Int} (h : Ints H v l) (hl : l.length ≤ 4611686018427387904) (k : K (.bool (decide (x ∈ l))) H) : AC Try.prog T0 22 [v, .int .i64 x] H K := by
  apply F22.ac
  unfold F22.B8 F22.B7 F22.L2
  refine ⟨fun x0 x1 x5 G => x0 = v ∧ x1 = x ∧ 0 ≤ x5 ∧ x5 ≤ l.length ∧ G = H ∧ ∀ i : Nat, (i : Int) < x5 → l.getD i 0 ≠ x, fun _ _ x5 _ => l.length - x5.toNat, ⟨rfl, rfl, by omega, by omega, rfl, fun i hi => absurd hi (by omega)⟩, ?_⟩
  rintro x0 x1 x5 G ⟨rfl, rfl, h0, h1, rfl, hp⟩
  unfold F22.B6
  refine h.len (pif_cases (fun hb => ?_) fun hb => ?_)
  · have hlt : x5 < l.length := of_decide_eq_true hb
    obtain ⟨i, rfl⟩ : ∃ i : Nat, x5 = i := ⟨x5.toNat, by omega⟩
    have hi : i < l.length := by omega
    unfold F22.B5
    refine h.rd h0 hlt ?_
    simp only [Int.toNat_natCast]
    refine pif_cases (fun hs => ?_) fun hs => ?_
    · unfold F22.B4
      rw [getD_of hi] at hs
      rw [decide_eq_true (by rw [← beq_iff_eq.1 hs]; exact List.getElem_mem hi)] at k; exact k
    · unfold F22.B3
      rw [wrap_id (by omega) (by omega)]
      refine ⟨⟨rfl, rfl, by omega, by omega, rfl, fun j hj => ?_⟩, by simp; omega⟩
      by_cases he : j = i
      · subst he; exact beq_eq_false_iff_ne.1 hs
      · exact hp j (by omega)
  · have hge : ¬ x5 < l.length := of_decide_eq_false hb
    unfold F22.B1
    rw [decide_eq_false (fun hx => by
      obtain ⟨i, hi, rfl⟩ := List.getElem_of_mem hx
      have := hp i (by omega)
      rw [getD_of hi] at this; exact this rfl)] at k; exact k

/-- The numbers less than n that are in just one of two lists. -/
def oneOf (a b : List Int) (n : Nat) : List Int := ((List.range n).filter (fun (i : Nat) => decide ((i : Int) ∈ a) != decide ((i : Int) ∈ b))).map Int.ofNat
theorem oneOf_succ (a b : List Int) (n : Nat) : oneOf a b (n + 1) = oneOf a b n ++ (if decide ((n : Int) ∈ a) != decide ((n : Int) ∈ b) then [(n : Int)] else []) := by
  unfold oneOf
  rw [List.range_succ, List.filter_append, List.map_append]
  congr 1
  cases h : decide ((n : Int) ∈ a) != decide ((n : Int) ∈ b) <;> simp [h]
theorem oneOf_length (a b : List Int) (n : Nat) : (oneOf a b n).length ≤ n := by
  unfold oneOf; rw [List.length_map]
  exact Nat.le_trans (List.length_filter_le _ _) (by simp)
theorem oneOf_bits {a b : List Int} {n : Nat} (hn : n ≤ 64) (ha : IsS a n) (hb : IsS b n) : bitsL (setN a ^^^ setN b) = oneOf a b n := by
  have key : ∀ k, n + k ≤ 64 → oneOf a b (n + k) = oneOf a b n := by
    intro k
    induction k with
    | zero => intro _; rfl
    | succ k ih =>
      intro h
      rw [← Nat.add_assoc, oneOf_succ, ih (by omega)]
      have h1 : ¬ ((n + k : Nat) : Int) ∈ a := fun h => by have := (ha.range _ h).2; omega
      have h2 : ¬ ((n + k : Nat) : Int) ∈ b := fun h => by have := (hb.range _ h).2; omega
      rw [decide_eq_false h1, decide_eq_false h2]; simp
  rw [← key (64 - n) (by omega), show n + (64 - n) = 64 by omega]
  unfold bitsL bitsTo oneOf
  congr 1
  apply List.filter_congr
  intro i _
  rw [Nat.testBit_xor, setN_bit fun x hx => (ha.range x hx).1, setN_bit fun x hx => (hb.range x hx).1]

/-- What both answer. -/
noncomputable def sumCode (n : Int) (es : List (Int × Int)) (a b : List Int) : Int := if IsG n es then (if IsS a es.length ∧ IsS b es.length then 0 else 2) else 1
noncomputable def sumList (n : Int) (es : List (Int × Int)) (a b : List Int) : List Int := if sumCode n es a b = 0 then oneOf a b es.length else []

theorem specSum_ok {n : Int} {va vb : Value} {a b : List Int} (h : Edges H v es) (hl : es.length ≤ 1048576) (ha : Ints H va a) (la : a.length ≤ 1048576) (hb : Ints H vb b) (lb : b.length ≤ 1048576)
    (k : ∀ v' G, H.le G → Fresh H.length G v' 2 1 (LI (sumList n es a b)) → K (.tuple ⟨[v', .int .i64 (sumCode n es a b)]⟩) G) : AC Try.prog T0 6 [.agg ⟨[.int .i64 n, v]⟩, va, vb] H K := by
  apply F6.ac
  unfold F6.B15
  refine newK_f (all_iv (edges_one' h)) fun H1 l1 n1 o1 => ?_
  unfold F6.B14
  have nil : ∀ c G, H.le G → sumCode n es a b = c → c ≠ 0 → K (.tuple ⟨[.slice none 0 0, .int .i64 c]⟩) G := by
    intro c G hG hc h0
    have := k (.slice none 0 0) G hG (.inl ⟨by rw [sumList, if_neg (by omega)]; rfl, .inl rfl⟩)
    rw [hc] at this; exact this
  refine ldI_own o1 rfl (ld1_own o1 rfl (l03Edges_ok (h.le l1) hl (ha.le l1) la fun H2 l2 => asI_mk ?_))
  have l12 := AHeap.le_trans l1 l2
  have o2 := l2.2 _ _ o1
  unfold F6.B13
  by_cases hg : IsG n es
  · rw [if_pos hg]
    by_cases sa : IsS a es.length
    · rw [if_pos sa]
      refine pif_f rfl ?_
      unfold F6.B11
      refine ldI_own o2 rfl (ld1_own o2 rfl (l03Edges_ok (h.le l12) hl (hb.le l12) lb fun H3 l3 => asI_mk ?_))
      have l13 := AHeap.le_trans l12 l3
      have o3 := l3.2 _ _ o2
      rw [if_pos hg]
      unfold F6.B10
      by_cases sb : IsS b es.length
      · rw [if_pos sb]
        have hc : sumCode n es a b = 0 := by rw [sumCode, if_pos hg, if_pos ⟨sa, sb⟩]
        refine pif_f rfl ?_
        unfold F6.B8
        refine newK_f rfl fun H4 l4 n4 o4 => ?_
        unfold F6.B7 F6.L2
        have o14 := l4.2 _ _ o3
        have l14 := AHeap.le_trans l13 l4
        have ln : H.length < H3.length := by have := l13.1; have := lt_of_get o3; omega
        refine ⟨fun x1 x2 x3 x10 x11 G => x1 = va ∧ x2 = vb ∧ x3 = H.length ∧ 0 ≤ x11 ∧ x11 ≤ es.length ∧ H3.le G ∧ Fresh H3.length G x10 2 1 (LI (oneOf a b x11.toNat)), fun _ _ _ _ x11 _ => es.length - x11.toNat, ⟨rfl, rfl, rfl, by omega, by omega, l4, .inr ⟨_, 0, Nat.le_refl _, rfl, o4, rfl⟩⟩, ?_⟩
        rintro x1 x2 x3 x10 x11 G ⟨rfl, rfl, rfl, h0, h1, hG, hF⟩
        have oG := hG.2 _ _ o3
        have lG := AHeap.le_trans l13 hG
        unfold F6.B6
        refine ld1_own oG rfl ((h.le lG).len (pif_cases (fun hb' => ?_) fun hb' => ?_))
        · have hlt : x11 < es.length := of_decide_eq_true hb'
          obtain ⟨i, rfl⟩ : ∃ i : Nat, x11 = i := ⟨x11.toNat, by omega⟩
          simp only [Int.toNat_natCast] at hF
          unfold F6.B5
          refine l07Has_ok (ha.le lG) (by omega) (asB_mk (l07Has_ok (hb.le lG) (by omega) (asB_mk (pif_cases (fun hs => ?_) fun hs => ?_))))
          · unfold F6.B4
            refine push_int hF hG (by have := oneOf_length a b i; omega) fun v' G2 hG2 hF2 _ => ?_
            unfold F6.B3
            rw [wrap_id (by omega) (by omega)]
            refine ⟨⟨rfl, rfl, rfl, by omega, by omega, hG2, ?_⟩, by simp; omega⟩
            rw [show ((i : Int) + 1).toNat = i + 1 by omega, oneOf_succ, if_pos (by simpa using hs)]; exact hF2
          · unfold F6.B3
            rw [wrap_id (by omega) (by omega)]
            refine ⟨⟨rfl, rfl, rfl, by omega, by omega, hG, ?_⟩, by simp; omega⟩
            rw [show ((i : Int) + 1).toNat = i + 1 by omega, oneOf_succ, if_neg (by simpa using hs), List.append_nil]; exact hF
        · have hge : ¬ x11 < es.length := of_decide_eq_false hb'
          have : x11 = es.length := by omega
          subst this
          unfold F6.B1
          have := k x10 G lG (by rw [sumList, if_pos hc]; exact hF.less (by omega))
          rw [hc] at this; exact this
      · rw [if_neg sb]
        refine pif_t rfl ?_
        unfold F6.B9
        exact nil 2 _ l13 (by rw [sumCode, if_pos hg, if_neg (fun h => sb h.2)]) (by decide)
    · rw [if_neg sa]
      refine pif_t rfl ?_
      unfold F6.B12
      exact nil 2 _ l12 (by rw [sumCode, if_pos hg, if_neg (fun h => sa h.1)]) (by decide)
  · rw [if_neg hg]
    refine pif_t rfl ?_
    unfold F6.B12
    exact nil 1 _ l12 (by rw [sumCode, if_neg hg]) (by decide)

theorem implSum_ok {n : Int} {va vb : Value} {a b : List Int} (h : Edges H v es) (hl : es.length ≤ 1048576) (ha : Ints H va a) (la : a.length ≤ 1048576) (hb : Ints H vb b) (lb : b.length ≤ 1048576)
    (k : ∀ v' G, H.le G → Fresh H.length G v' 2 1 (LI (sumList n es a b)) → K (.tuple ⟨[v', .int .i64 (sumCode n es a b)]⟩) G) : AC Try.prog T0 9 [.agg ⟨[.int .i64 n, v]⟩, va, vb] H K := by
  apply F9.ac
  unfold F9.B5
  refine newK_f (all_iv (edges_one' h)) fun H1 l1 n1 o1 => ?_
  unfold F9.B4
  have fin : ∀ G, H1.le G → F9.B3 K va vb (sumCode n es a b) G := by
    intro G hG
    have lG := AHeap.le_trans l1 hG
    unfold F9.B3
    refine pif_cases (fun hc => ?_) fun hc => ?_
    · unfold F9.B2
      have hc := bne_iff_ne.1 hc
      exact k _ G lG (.inl ⟨by rw [sumList, if_neg hc]; rfl, .inl rfl⟩)
    · have hc : sumCode n es a b = 0 := bne_eq_false_iff_eq.1 hc
      have hh : IsG n es ∧ IsS a es.length ∧ IsS b es.length := by
        unfold sumCode at hc
        by_cases hg : IsG n es
        · rw [if_pos hg] at hc
          by_cases hs : IsS a es.length ∧ IsS b es.length
          · exact ⟨hg, hs⟩
          · rw [if_neg hs] at hc; omega
        · rw [if_neg hg] at hc; omega
      obtain ⟨hg, sa, sb⟩ := hh
      have h30 : es.length ≤ 30 := by have := hg.ed.len; have := hg.ed.hi; omega
      have ra : ∀ x ∈ a, 0 ≤ x ∧ x < 64 := fun x hx => by have := sa.range x hx; omega
      have rb : ∀ x ∈ b, 0 ≤ x ∧ x < 64 := fun x hx => by have := sb.range x hx; omega
      have xl : setN a ^^^ setN b < 2 ^ 64 := Nat.xor_lt_two_pow (setN_lt fun x hx => (ra x hx).2) (setN_lt fun x hx => (rb x hx).2)
      unfold F9.B1
      refine setOf_ok (ha.le lG) (by omega) ra (asI_mk (setOf_ok (hb.le lG) (by omega) rb (asI_mk ?_)))
      rw [bits_xor (setN_lt fun x hx => (ra x hx).2) (setN_lt fun x hx => (rb x hx).2)]
      refine list_ok xl fun v' G2 hG2 hF2 => ?_
      have := k v' G2 (AHeap.le_trans lG hG2) (by rw [sumList, if_pos hc, ← oneOf_bits (by omega) sa sb]; exact hF2.less lG.1)
      rw [hc] at this; exact this
  refine ldI_own o1 rfl (ld1_own o1 rfl (ld1_own o1 rfl (lengthE_ok (h.le l1) (asI_mk ⟨AHeap.le_refl _, isSet_ok (ha.le l1) (by omega) (by omega) (by omega) (asB_mk ⟨AHeap.le_refl _, pif_cases (fun hs => ?_) fun hs => ?_⟩)⟩))))
  · refine ld1_own o1 rfl (lengthE_ok (h.le l1) (asI_mk ⟨AHeap.le_refl _, isSet_ok (hb.le l1) (by omega) (by omega) (by omega) (asB_mk ⟨AHeap.le_refl _, graphCode_ok (h.le l1) hl fun G hG => asI_mk ?_⟩)⟩))
    have := fin G hG
    unfold sumCode at this
    by_cases hg : IsG n es
    · rw [if_pos hg] at this ⊢
      by_cases sb : IsS b es.length
      · rw [if_pos ⟨of_decide_eq_true hs, sb⟩] at this
        rw [decide_eq_true sb]; exact this
      · rw [if_neg (fun h => sb h.2)] at this
        rw [decide_eq_false sb]; exact this
    · rw [if_neg hg] at this ⊢; exact this
  · refine graphCode_ok (h.le l1) hl fun G hG => asI_mk ?_
    have := fin G hG
    unfold sumCode at this
    by_cases hg : IsG n es
    · rw [if_pos hg] at this ⊢
      rw [if_neg (fun h => of_decide_eq_false hs h.1)] at this; exact this
    · rw [if_neg hg] at this ⊢; exact this
end Go.Proofs
