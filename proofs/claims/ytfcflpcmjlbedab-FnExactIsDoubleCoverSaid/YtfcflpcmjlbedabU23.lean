/- Contracts of the laws' helpers over lists of lists that come in. -/
import Derived.Test.YtfcflpcmjlbedabU19
import Derived.Test.YtfcflpcmjlbedabV1
set_option linter.unusedVariables false
set_option linter.unusedSimpArgs false
set_option maxRecDepth 100000
namespace Go.Proofs
open Go.Abs

variable {H G : AHeap} {v u f : Value} {l m c : List Int} {es fs : List (Int × Int)} {K : Value → AHeap → Prop} {A A' : Nat → Prop} {B B' : Nat} {ls ms : List (List Int)}

/-- A readable list of lists. -/
def RowsR (H : AHeap) (v : Value) (ls : List (List Int)) : Prop :=
  (v = .slice none 0 0 ∧ ls = []) ∨ ∃ a c, v = .slice (some a) ls.length c ∧ (ls = [] ∨ (a.spot = none ∧ ∀ i, i < ls.length → ∃ w, H.cell a.block (a.off + i) = some w ∧ Ints H w (ls.getD i [])))
theorem RowsR.le (h : RowsR H v ls) (hl : H.le G) : RowsR G v ls := by
  rcases h with h | ⟨a, c, h1, h2⟩
  · exact .inl h
  · refine .inr ⟨a, c, h1, ?_⟩
    rcases h2 with h2 | ⟨h2, h3⟩
    · exact .inl h2
    · refine .inr ⟨h2, fun i hi => ?_⟩
      obtain ⟨w, h4, h5⟩ := h3 i hi
      exact ⟨w, AHeap.cell_le hl h4, h5.le hl⟩
theorem RowsR.len (h : RowsR H v ls) {K : Nat → Prop} (k : K ls.length) : lenK v K := by
  rcases h with ⟨rfl, rfl⟩ | ⟨a, c, rfl, _⟩ <;> exact k
theorem RowsR.row (h : RowsR H v ls) {i : Nat} (hi : i < ls.length) {K : Value → Prop} (k : ∀ w, Ints H w (ls.getD i []) → K w) : idxK v i 1 (fun b o => ld1 H b o K) := by
  rcases h with ⟨rfl, rfl⟩ | ⟨⟨b, o, sp⟩, c, rfl, h2⟩
  · simp at hi
  · rcases h2 with rfl | ⟨rfl, h3⟩
    · simp at hi
    · obtain ⟨w, h4, h5⟩ := h3 i hi
      exact ⟨by omega, by omega, by rw [Int.toNat_natCast, Nat.mul_one]; exact ld1_mk h4 (k w h5)⟩
theorem RowsR.rowB (h : RowsR H v ls) (hl : H.le G) {i : Nat} (hi : i < ls.length) {K : Value → Prop} (k : ∀ w, Ints H w (ls.getD i []) → K w) : idxK v i 1 (fun b o => ld1 G b o K) := by
  rcases h with ⟨rfl, rfl⟩ | ⟨⟨b, o, sp⟩, c, rfl, h2⟩
  · simp at hi
  · rcases h2 with rfl | ⟨rfl, h3⟩
    · simp at hi
    · obtain ⟨w, h4, h5⟩ := h3 i hi
      exact ⟨by omega, by omega, by rw [Int.toNat_natCast, Nat.mul_one]; exact ld1_mk (AHeap.cell_le hl h4) (k w h5)⟩
theorem RowsR.one (h : RowsR H v ls) : v.oneCell' = true := by
  rcases h with ⟨rfl, _⟩ | ⟨a, c, rfl, _⟩ <;> rfl
theorem RowsF.toR (h : RowsF A B H v ls) : RowsR H v ls := by
  obtain ⟨vs, h1, h2, h3, h4⟩ := h
  rcases h1 with ⟨rfl, h1⟩ | ⟨b, n, _, rfl, ho, hn⟩
  · have : ls = [] := List.length_eq_zero_iff.1 (by rw [← h2]; rfl)
    subst this
    rcases h1 with rfl | ⟨a, rfl⟩
    · exact .inl ⟨rfl, rfl⟩
    · exact .inr ⟨a, 0, rfl, .inl rfl⟩
  · obtain rfl : n = ls.length := by omega
    refine .inr ⟨_, _, rfl, .inr ⟨rfl, fun i hi => ?_⟩⟩
    obtain ⟨w, g1, g2, _⟩ := h4 i hi
    exact ⟨w, by rw [Own.cell ho, Nat.zero_add]; exact g1, g2.ints⟩

theorem chunks_rows {n : Nat} : ∀ (len : Nat) (xs : List Value), Chunked T0 (AT T0 H n) (List.replicate len 25) xs → ∃ ls : List (List Int), ls.length = len ∧ (∀ l ∈ ls, l.length ≤ 9223372036854775807) ∧ ∀ i, i < len → ∃ w, xs[i]? = some w ∧ Ints H w (ls.getD i [])
  | 0, xs, h => ⟨[], rfl, by simp, fun i hi => absurd hi (by omega)⟩
  | len + 1, xs, h => by
    rw [List.replicate_succ] at h
    obtain ⟨h1, h2, h3⟩ := h
    rw [show sz T0 25 = 1 by kernel_rfl] at h1 h2 h3
    obtain ⟨w, l, e, hi, hb, _⟩ := AT_ints (e := 2) (by kernel_rfl) (by kernel_rfl) (by kernel_rfl) h2
    obtain ⟨ls, hl, hb', hr⟩ := chunks_rows len _ h3
    refine ⟨l :: ls, by simp [hl], by simpa using ⟨hb, hb'⟩, fun i hi' => ?_⟩
    cases xs with
    | nil => simp at h1
    | cons y ys =>
      cases i with
      | zero => simp at e; exact ⟨w, by simp [e], by simpa [List.getD] using hi⟩
      | succ i =>
        obtain ⟨w', g1, g2⟩ := hr i (by omega)
        exact ⟨w', by simpa using g1, by simpa [List.getD] using g2⟩
theorem av_rows (h : AV T0 H 27 v) : ∃ ls, RowsR H v ls ∧ ls.length ≤ 9223372036854775807 ∧ ∀ l ∈ ls, l.length ≤ 9223372036854775807 := by
  obtain ⟨n, cs, a, rfl⟩ := AV_flat h (by kernel_rfl)
  rcases AT_slice (e := 25) (by kernel_rfl) a with rfl | rfl | ⟨m, b, len, xs, rfl, h2, h3, h4⟩
  · exact ⟨[], .inl ⟨rfl, rfl⟩, by decide, by simp⟩
  · exact ⟨[], .inr ⟨_, _, rfl, .inl rfl⟩, by decide, by simp⟩
  · obtain ⟨ls, rfl, hb, hr⟩ := chunks_rows len xs h4
    refine ⟨ls, .inr ⟨_, _, rfl, .inr ⟨rfl, fun i hi => ?_⟩⟩, by simpa [maxLen] using h2, hb⟩
    obtain ⟨w, g1, g2⟩ := hr i hi
    exact ⟨w, by rw [cell_own h3, Nat.zero_add]; exact g1, g2⟩

theorem szInt64SS_ok {n : Int} (h : RowsR H v ls) (hl : ls.length ≤ 9223372036854775807) (hr : ∀ l ∈ ls, l.length ≤ 9223372036854775807) (h0 : 0 ≤ n) (h1 : n ≤ 4611686018427387904)
    (k : ∀ r, (0 ≤ r → (ls.length : Int) + totL ls ≤ n) → K (.int .i64 r) H) : AC Try.prog T0 28 [v, .int .i64 n] H K := by
  apply F28.ac
  unfold F28.B12 F28.B11
  refine h.len ?_
  unfold F28.B10
  rw [wrap_id (by omega) (by omega)]
  refine pif_cases (fun hb => ?_) fun hb => ?_
  · unfold F28.B9
    exact k _ fun h => absurd h (by decide)
  · have hb := of_decide_eq_false hb
    unfold F28.B8 F28.L2
    refine ⟨fun x0 x1 x5 G => v = x0 ∧ H = G ∧ ∃ i : Nat, x5 = i ∧ i ≤ ls.length ∧ x1 = n - ls.length - totL (ls.take i) ∧ 0 ≤ x1, fun _ _ x5 _ => ls.length - x5.toNat, ⟨rfl, rfl, 0, rfl, by omega, by simp [totL], by omega⟩, ?_⟩
    rintro x0 x1 x5 G ⟨rfl, rfl, i, rfl, hi, rfl, hp⟩
    unfold F28.B7
    refine h.len (pif_cases (fun hb => ?_) fun hb => ?_)
    · have hlt : i < ls.length := by have := of_decide_eq_true hb; omega
      have ht := totL_take hlt
      unfold F28.B6
      refine h.row hlt fun w hw => szInt64S_ok hw (by rw [getD_of hlt]; exact hr _ (List.getElem_mem hlt)) hp (by omega) (asI_mk ?_)
      unfold F28.B5
      refine pif_cases (fun hs => ?_) fun hs => ?_
      · unfold F28.B4
        exact k _ fun h => absurd h (by decide)
      · have hs := of_decide_eq_false hs
        have hnn : ¬ n - ls.length - totL (ls.take i) - (ls.getD i []).length < 0 := by
          intro hc
          rw [if_pos hc] at hs
          exact hs (by decide)
        rw [if_neg hnn]
        unfold F28.B3
        rw [wrap_id (by omega) (by omega)]
        exact ⟨⟨rfl, rfl, i + 1, by omega, by omega, by omega, by omega⟩, by simp; omega⟩
    · have hge : i = ls.length := by have := of_decide_eq_false hb; omega
      subst hge
      unfold F28.B1
      rw [List.take_length] at hp ⊢
      exact k _ fun _ => by omega

theorem rep_nil (n : Nat) : (List.replicate n [Value.slice none 0 0]).flatten = List.replicate n (Value.slice none 0 0) := by
  induction n with
  | zero => rfl
  | succ n ih => rw [List.replicate_succ, List.replicate_succ, List.flatten_cons, ih]; rfl
theorem toInt64SS_ok (h : RowsR H v ls) (hl : ls.length ≤ 4294967296) (hr : ∀ l ∈ ls, l.length ≤ 4294967296) (k : ∀ v' G, H.le G → RowsF (fun b => H.length ≤ b) G.length G v' ls → K v' G) : AC Try.prog T0 30 [v] H K := by
  apply F30.ac
  unfold F30.B8 F30.B7
  refine h.len (mkR_int (by omega) (by omega) (by decide) fun H1 l1 n1 o1 => ?_)
  rw [Int.toNat_natCast, rep_nil] at o1
  rw [Int.toNat_natCast]
  unfold F30.B6 F30.L2
  refine ⟨fun x0 x3 x4 G => v = x0 ∧ .slice (some ⟨H.length, 0, none⟩) ls.length (ls.length + 1) = x3 ∧ H.le G ∧ ∃ (i : Nat) (vs : List Value), x4 = i ∧ i ≤ ls.length ∧ vs.length = ls.length ∧ Own G H.length 25 vs ∧
      ∀ j, j < i → ∃ w, vs[j]? = some w ∧ Fresh (H.length + 1) G w 2 1 (LI (ls.getD j [])) ∧ ∀ b, bk w = some b → ∀ j' w', j' < j → vs[j']? = some w' → bk w' ≠ some b, fun _ _ x4 _ => ls.length - x4.toNat,
    ⟨rfl, rfl, l1, 0, _, rfl, by omega, by simp, o1, fun j hj => absurd hj (by omega)⟩, ?_⟩
  rintro x0 x3 x4 G ⟨rfl, rfl, hG, i, vs, rfl, hi, hvs, oG, hp⟩
  unfold F30.B5
  refine (h.le hG).len (pif_cases (fun hb => ?_) fun hb => ?_)
  · have hlt : i < ls.length := by have := of_decide_eq_true hb; omega
    unfold F30.B4
    refine (h.le hG).row hlt fun w hw => toInt64S_ok hw (by rw [getD_of hlt]; exact hr _ (List.getElem_mem hlt)) fun w' G2 l2 f2 => own_idx (by omega) (by omega) ?_
    have hw1 : w'.oneCell' = true := ints_one f2.ints
    have hlt0 := oG.lt
    refine pif_t hw1 (stK_1 (oG.le l2) (by omega) hw1 fun G3 b3 o3 => ?_)
    unfold F30.B3
    rw [Int.toNat_natCast] at o3
    rw [wrap_id (by omega) (by omega)]
    refine ⟨⟨rfl, rfl, b3.le (AHeap.le_trans hG l2) (Nat.le_refl _), i + 1, vs.set i w', by omega, by omega, by simpa using hvs, o3, fun j hj => ?_⟩, by simp; omega⟩
    by_cases e : i = j
    · subst e
      refine ⟨w', by simp [show i < vs.length by omega], (f2.less (by omega)).but b3 (by omega), fun b hb j' w2 hj' hw2 hw3 => ?_⟩
      rw [List.getElem?_set_ne (by omega)] at hw2
      obtain ⟨w4, q1, q2, _⟩ := hp j' hj'
      rw [hw2] at q1; cases q1
      have := (q2.bk_lt hw3).2
      have := (f2.bk_lt hb).1
      omega
    · obtain ⟨w4, q1, q2, q3⟩ := hp j (by omega)
      refine ⟨w4, by rw [List.getElem?_set_ne e]; exact q1, (q2.le l2).but b3 (by omega), fun b hb j' w2 hj' hw2 => q3 b hb j' w2 hj' ?_⟩
      rwa [List.getElem?_set_ne (by omega)] at hw2
  · have hge : i = ls.length := by have := of_decide_eq_false hb; omega
    subst hge
    unfold F30.B1
    refine k _ _ hG ⟨vs, .inr ⟨H.length, ls.length, Nat.zero_le _, rfl, oG, by omega⟩, hvs, fun b hb => ?_, fun j hj => ?_⟩
    · cases hb; exact ⟨Nat.le_refl _, oG.lt⟩
    · obtain ⟨w, q1, q2, q3⟩ := hp j hj
      refine ⟨w, q1, q2.less (Nat.zero_le _), fun b hb => ⟨by have := (q2.bk_lt hb).1; omega, (q2.bk_lt hb).2, fun hv => ?_, q3 b hb⟩⟩
      cases hv
      exact absurd (show H.length + 1 ≤ H.length from (q2.bk_lt hb).1) (by omega)
end Go.Proofs
