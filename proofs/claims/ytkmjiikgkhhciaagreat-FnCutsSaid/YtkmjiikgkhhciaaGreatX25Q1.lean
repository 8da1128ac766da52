/- Contracts and plain mathematics for a law, merged. -/
import Derived.Laws.Bits64
import Derived.Test.YtkmjiikgkhhciaaGreatP3
import Derived.Test.YtkmjiikgkhhciaaGreatX25G
/- Contracts of the laws' helpers. -/
set_option linter.unusedVariables false
set_option linter.unusedSimpArgs false
set_option maxRecDepth 100000
namespace Go.Proofs
open Go.Abs

variable {H : AHeap} {v u : Value} {l m : List Int} {es fs : List (Int × Int)} {K : Value → AHeap → Prop}

theorem LE_set (l : List (Int × Int)) {n : Nat} (x : Int × Int) (h : n < l.length) : (LE l).take (n * 2) ++ [.int .i64 x.1, .int .i64 x.2] ++ (LE l).drop (n * 2 + 2) = LE (l.set n x) := by
  induction l generalizing n with
  | nil => simp at h
  | cons y l ih =>
    cases n with
    | zero => simp [LE_cons]
    | succ n =>
      rw [List.set_cons_succ, LE_cons, LE_cons, ← ih (by simpa using h), show (n + 1) * 2 = n * 2 + 2 by omega]
      simp

theorem ints_one {H : AHeap} {v : Value} {l : List Int} (h : Ints H v l) : v.oneCell' = true := by
  rcases h with ⟨rfl, _⟩ | ⟨a, c, rfl, _⟩ <;> rfl

end Go.Proofs
/- Contracts of the laws' helpers that write. -/
set_option linter.unusedVariables false
set_option linter.unusedSimpArgs false
set_option maxRecDepth 100000
namespace Go.Proofs
open Go.Abs

variable {H : AHeap} {v u : Value} {l m : List Int} {es fs : List (Int × Int)} {K : Value → AHeap → Prop}

/-- All but a slice's own block stays. -/
structure Mod (v : Value) (H G : AHeap) : Prop where
  len : H.length ≤ G.length
  same : ∀ c o, H[c]? = some (some o) → (∀ n, v ≠ .slice (some ⟨c, 0, none⟩) n (n + 1)) → G[c]? = some (some o)
theorem Mod.refl : Mod v H H := ⟨Nat.le_refl _, fun _ _ h _ => h⟩
theorem _root_.Go.Abs.Fresh.lt {f : Nat} {e : TypeId} {z : Nat} {cs : List Value} (h : Fresh f H v e z cs) {b n : Nat} (e : v = .slice (some ⟨b, 0, none⟩) n (n + 1)) : f ≤ b ∧ b < H.length := by
  subst e
  rcases h with ⟨_, h | ⟨a, h⟩⟩ | ⟨b', n', h1, h2, h3, _⟩
  · cases h
  · cases h
  · cases h2; exact ⟨h1, lt_of_get h3⟩
theorem Mod.le {B G : AHeap} {f : Nat} {e : TypeId} {z : Nat} {cs : List Value} (hm : Mod v H G) (hf : Fresh f H v e z cs) (hb : B.length ≤ f) (hl : B.le H) : B.le G :=
  ⟨Nat.le_trans hl.1 hm.len, fun c o hc => hm.same c o (hl.2 _ _ hc) fun n hn => by have := (hf.lt hn).1; have := lt_of_get hc; omega⟩
/-- What is newer than what turned stays. -/
theorem Mod.keep {G : AHeap} {m : Nat} {e' : TypeId} {z' : Nat} {cs' : List Value} {g : Value} (hm : Mod v H G) (hf : ∀ b n, v = .slice (some ⟨b, 0, none⟩) n (n + 1) → b < m) (hg : Fresh m H g e' z' cs') : Fresh m G g e' z' cs' := by
  rcases hg with hg | ⟨b, n, h1, h2, h3, h4⟩
  · exact .inl hg
  · exact .inr ⟨b, n, h1, h2, hm.same _ _ h3 fun n hn => by have := hf _ _ hn; omega, h4⟩
theorem _root_.Go.Abs.But.trans {b : Nat} {G G' : AHeap} (h : But b H G) (k : But b G G') : But b H G' := ⟨k.len.trans h.len, fun c hc => (k.same c hc).trans (h.same c hc)⟩
theorem _root_.Go.Abs.But.refl {b : Nat} : But b H H := ⟨rfl, fun _ _ => rfl⟩

end Go.Proofs
/- Contracts: products in two words, a value told again and again. -/
set_option linter.unusedVariables false
set_option linter.unusedSimpArgs false
set_option maxRecDepth 100000
namespace Go.Proofs
open Go.Abs

variable {H : AHeap} {v u f : Value} {l m c : List Int} {es fs : List (Int × Int)} {K : Value → AHeap → Prop}

theorem and32 {y : Int} (h0 : 0 ≤ y) (h1 : y < 4294967296) : IntKind.u64.wrap (((BitVec.ofInt 64 y &&& BitVec.ofInt 64 4294967295).toNat : Nat) : Int) = y := by
  obtain ⟨n, rfl⟩ := Int.eq_ofNat_of_zero_le h0
  have h : (BitVec.ofInt 64 ((n : Nat) : Int) &&& BitVec.ofInt 64 4294967295).toNat = n := by
    rw [BitVec.toNat_and, show (BitVec.ofInt 64 4294967295).toNat = 2 ^ 32 - 1 from by decide, Nat.and_two_pow_sub_one_eq_mod]
    simp only [BitVec.ofInt_natCast, BitVec.toNat_ofNat]
    omega
  rw [h]
  simp only [IntKind.wrap, IntKind.bits, IntKind.signed, Bool.false_and, Bool.false_eq_true, if_false]
  omega
theorem mul64_ok {y : Int} (h0 : 0 ≤ y) (h1 : y < 4294967296) (k : K (.tuple ⟨[.int .u64 0, .int .u64 y]⟩) H) : AC Tryz.prog T0 232 [.int .u64 1, .int .u64 y] H K := by
  apply F232.ac
  have e0 : Int.fdiv y (2 ^ (min (Int.toNat 32) 64)) = 0 := by
    rw [show (2 : Int) ^ (min (Int.toNat 32) 64) = 4294967296 from by decide, Int.fdiv_eq_ediv_of_nonneg _ (by decide)]; omega
  have w : ∀ z : Int, 0 ≤ z → z < 4294967296 → IntKind.u64.wrap z = z := by
    intro z a b; simp only [IntKind.wrap, IntKind.bits, IntKind.signed, Bool.false_and, Bool.false_eq_true, if_false]; omega
  unfold F232.B12 F232.B11 F232.B10
  rw [and32 (by decide) (by decide)]
  refine ⟨by decide, ?_⟩
  rw [show Int.fdiv 1 (2 ^ (min (Int.toNat 32) 64)) = 0 from by decide]
  unfold F232.B9 F232.B8
  rw [and32 h0 h1]
  refine ⟨by decide, ?_⟩
  rw [e0]
  unfold F232.B7 F232.B6
  refine ⟨by decide, ?_⟩
  rw [Int.one_mul, w y h0 h1, e0, Int.zero_mul, w 0 (by decide) (by decide), show (0 : Int) + 0 = 0 from rfl, w 0 (by decide) (by decide)]
  unfold F232.B5 F232.B4
  rw [and32 (by decide) (by decide)]
  refine ⟨by decide, ?_⟩
  rw [show Int.fdiv 0 (2 ^ (min (Int.toNat 32) 64)) = 0 from by decide]
  unfold F232.B3 F232.B2
  refine ⟨by decide, ?_⟩
  simp only [show (1 : Int) * 0 = 0 from rfl, show (0 : Int) * 0 = 0 from rfl, show (0 : Int) + 0 = 0 from rfl, w 0 (by decide) (by decide), show Int.fdiv 0 (2 ^ (min (Int.toNat 32) 64)) = 0 from by decide]
  unfold F232.B1
  rw [Int.one_mul, w y h0 h1]
  exact k
theorem mul_ok {y : Int} (h0 : 0 ≤ y) (h1 : y < 4294967296) (k : K (.tuple ⟨[.int .u64 0, .int .u64 y]⟩) H) : AC Tryz.prog T0 221 [.int .u64 1, .int .u64 y] H K := by
  apply F221.ac
  unfold F221.B3 F221.B2
  refine mul64_ok h0 h1 ?_
  exact k
end Go.Proofs
/- Plain mathematics: graphs. -/
set_option linter.unusedVariables false
set_option linter.unusedSimpArgs false
namespace Go.Proofs
open Go.Abs

structure IsEd (n : Int) (es : List (Int × Int)) : Prop where
  lo : 2 ≤ n
  hi : n ≤ 20
  even : n % 2 = 0
  len : (es.length : Int) = 3 * n / 2
  ends : ∀ e ∈ es, 0 ≤ e.1 ∧ e.1 ≤ n - 1 ∧ 0 ≤ e.2 ∧ e.2 ≤ n - 1 ∧ e.1 ≠ e.2
def bump1 (cs : List Int) (v : Int) : List Int := cs.set v.toNat (cs.getD v.toNat 0 + 1)
def bump (cs : List Int) (e : Int × Int) : List Int := bump1 (bump1 cs e.1) e.2
def counts (n : Int) (es : List (Int × Int)) : List Int := es.foldl bump (List.replicate n.toNat 0)
def ltE (a b : Int × Int) : Prop := a.1 < b.1 ∨ a.1 = b.1 ∧ a.2 < b.2
instance (a b : Int × Int) : Decidable (ltE a b) := by unfold ltE; infer_instance
def Srt (es : List (Int × Int)) : Prop := ∀ i, i + 1 < es.length → ¬ ltE (es.getD (i + 1) (0, 0)) (es.getD i (0, 0))
structure IsG (n : Int) (es : List (Int × Int)) : Prop where
  ed : IsEd n es
  up : ∀ e ∈ es, e.1 < e.2
  srt : Srt es
  cub : ∀ c ∈ counts n es, c = 3
noncomputable instance (n : Int) (es : List (Int × Int)) : Decidable (IsG n es) := Classical.propDecidable _
noncomputable instance (n : Int) (es : List (Int × Int)) : Decidable (IsEd n es) := Classical.propDecidable _
/-- A set of numbers less than n, ascending. -/
def IsS (l : List Int) (n : Int) : Prop := ∀ i, i < l.length → 0 ≤ l.getD i 0 ∧ l.getD i 0 ≤ n - 1 ∧ (0 < i → l.getD (i - 1) 0 < l.getD i 0)
noncomputable instance (l : List Int) (n : Int) : Decidable (IsS l n) := Classical.propDecidable _
def Cub (n : Int) (es : List (Int × Int)) : Prop := ∀ c ∈ counts n es, c = 3
noncomputable instance (n : Int) (es : List (Int × Int)) : Decidable (Cub n es) := Classical.propDecidable _

theorem bump1_length (cs : List Int) (v : Int) : (bump1 cs v).length = cs.length := by simp [bump1]
theorem bump_length (cs : List Int) (e : Int × Int) : (bump cs e).length = cs.length := by simp [bump, bump1_length]
theorem foldl_bump_length : ∀ (es : List (Int × Int)) (cs : List Int), (es.foldl bump cs).length = cs.length
  | [], cs => rfl
  | e :: es, cs => by rw [List.foldl_cons, foldl_bump_length es, bump_length]
theorem counts_length (n : Int) (es : List (Int × Int)) : (counts n es).length = n.toNat := by simp [counts, foldl_bump_length]
theorem counts_take (n : Int) (es : List (Int × Int)) {i : Nat} (h : i < es.length) : counts n (es.take (i + 1)) = bump (counts n (es.take i)) es[i] := by
  unfold counts; rw [List.take_succ_eq_append_getElem h, List.foldl_append]; rfl
theorem bump1_le {cs : List Int} {B : Int} (h : ∀ c ∈ cs, 0 ≤ c ∧ c ≤ B) (v : Int) : ∀ c ∈ bump1 cs v, 0 ≤ c ∧ c ≤ B + 1 := by
  intro c hc
  unfold bump1 at hc
  by_cases hv : v.toNat < cs.length
  · rcases List.mem_or_eq_of_mem_set hc with hc | rfl
    · have := h c hc; omega
    · have := h cs[v.toNat] (List.getElem_mem hv)
      rw [getD_of hv]; omega
  · rw [List.set_eq_of_length_le (by omega)] at hc
    have := h c hc; omega
theorem foldl_bump_le : ∀ (es : List (Int × Int)) (cs : List Int) (B : Int), (∀ c ∈ cs, 0 ≤ c ∧ c ≤ B) → ∀ c ∈ es.foldl bump cs, 0 ≤ c ∧ c ≤ B + 2 * es.length
  | [], cs, B, h, c, hc => by have := h c hc; simp; omega
  | e :: es, cs, B, h, c, hc => by
    have := foldl_bump_le es (bump cs e) (B + 2) (fun c hc => by have := bump1_le (bump1_le h e.1) e.2 c hc; omega) c hc
    simp; omega
theorem counts_le (n : Int) (es : List (Int × Int)) : ∀ c ∈ counts n es, 0 ≤ c ∧ c ≤ 2 * es.length := by
  intro c hc
  have := foldl_bump_le es _ 0 (by intro c hc; rw [List.mem_replicate] at hc; omega) c hc
  omega
end Go.Proofs
/- Contracts: whether a graph is one. -/
set_option linter.unusedVariables false
set_option linter.unusedSimpArgs false
set_option maxRecDepth 100000
namespace Go.Proofs
open Go.Abs

variable {H : AHeap} {v u f : Value} {l m : List Int} {es fs : List (Int × Int)} {K : Value → AHeap → Prop}

theorem within_ok {n a b : Int} (k : K (.bool (decide (a ≤ n ∧ n ≤ b))) H) : AC Tryz.prog T0 77 [.int .i64 n, .int .i64 a, .int .i64 b] H K := by
  apply F77.ac
  unfold F77.B2 F77.B1
  refine pif_cases (fun h => ?_) fun h => ?_
  · have h := of_decide_eq_true h
    simpa [h] using k
  · have h := of_decide_eq_false h
    simpa [h] using k
theorem l01In_ok {n a b : Int} (k : K (.bool (decide (a ≤ n ∧ n ≤ b))) H) : AC Tryz.prog T0 85 [.int .i64 n, .int .i64 a, .int .i64 b] H K := by
  apply F85.ac
  unfold F85.B2 F85.B1
  refine pif_cases (fun h => ?_) fun h => ?_
  · have h := of_decide_eq_true h
    simpa [h] using k
  · have h := of_decide_eq_false h
    have h : ¬ a ≤ n := by omega
    simpa [h] using k
theorem isSize_ok {n : Int} (k : K (.bool (decide (2 ≤ n ∧ n ≤ 20 ∧ n % 2 = 0))) H) : AC Tryz.prog T0 214 [.int .i64 n] H K := by
  apply F214.ac
  unfold F214.B2 F214.B1
  refine within_ok (asB_mk (pif_cases (fun h => ?_) fun h => ?_))
  · have h := of_decide_eq_true h
    have e : Int.tmod n 2 = n % 2 := Int.tmod_eq_emod_of_nonneg (by omega)
    rw [e]
    have : (n % 2 == 0) = decide (2 ≤ n ∧ n ≤ 20 ∧ n % 2 = 0) := by
      by_cases h2 : n % 2 = 0 <;> simp [h2, h]
    rw [this]; exact k
  · have h := of_decide_eq_false h
    rw [decide_eq_false (fun h2 => h ⟨h2.1, h2.2.1⟩)] at k; exact k
theorem lengthE_ok (h : Edges H v es) (k : K (.int .i64 es.length) H) : AC Tryz.prog T0 73 [v] H K := by
  apply F73.ac
  unfold F73.B2 F73.B1
  exact h.len k

/-- What a function's value answers, in a heap and all later ones. -/
def Cl (H : AHeap) (f x : Value) (b : Bool) : Prop := ∀ G, H.le G → ∀ K : Value → AHeap → Prop, (∀ G', G.le G' → K (.bool b) G') → callV Tryz.prog T0 f [x] G K
theorem Cl.le {G : AHeap} {x : Value} {b : Bool} (h : Cl H f x b) (hl : H.le G) : Cl G f x b := fun G' hg => h G' (AHeap.le_trans hl hg)
theorem callV_mk {g : Nat} {xs ys args : List Value} (h : AC Tryz.prog T0 g (xs ++ args ++ ys) H K) : callV Tryz.prog T0 (.func (.func g) ⟨xs⟩ ⟨ys⟩) args H K := h
def ve (e : Int × Int) : Value := .agg ⟨[.int .i64 e.1, .int .i64 e.2]⟩

theorem indexE_ok {p : Int × Int → Bool} (h : Edges H v es) (hl : es.length ≤ 4611686018427387904) (hf : ∀ e ∈ es, Cl H f (ve e) (p e)) (k : ∀ r G, H.le G → decide (r ≥ 0) = es.any p → K (.int .i64 r) G) :
    AC Tryz.prog T0 228 [v, f] H K := by
  apply F228.ac
  unfold F228.B9 F228.B8
  refine h.len ?_
  unfold F228.L2
  refine ⟨fun x0 x1 x7 x8 G => x0 = v ∧ x1 = f ∧ x7 = es.length ∧ 0 ≤ x8 ∧ x8 ≤ es.length ∧ H.le G ∧ ∀ i : Nat, (i : Int) < x8 → p (es.getD i (0, 0)) = false, fun _ _ _ x8 _ => es.length - x8.toNat, ⟨rfl, rfl, rfl, by omega, by omega, AHeap.le_refl _, fun i hi => absurd hi (by omega)⟩, ?_⟩
  rintro x0 x1 x7 x8 G ⟨rfl, rfl, rfl, h0, h1, hG, hp⟩
  unfold F228.B7
  refine pif_cases (fun hb => ?_) fun hb => ?_
  · have hlt : x8 < es.length := of_decide_eq_true hb
    obtain ⟨n, rfl⟩ : ∃ n : Nat, x8 = n := ⟨x8.toNat, by omega⟩
    have hn : n < es.length := by omega
    unfold F228.B6 F228.B5
    obtain ⟨b, o, hk, c1, c2⟩ := (h.le hG).idx h0 hlt
    refine hk _ (ldI_mk c1 (ldI_mk c2 ?_))
    simp only [Int.toNat_natCast, getD_of hn]
    refine hf es[n] (List.getElem_mem hn) G hG _ fun G2 hG2 => asB_mk (pif_cases (fun hb => ?_) fun hb => ?_)
    · unfold F228.B4
      refine k _ _ (AHeap.le_trans hG hG2) ?_
      rw [List.any_eq_true.2 ⟨es[n], List.getElem_mem hn, hb⟩]; simp
    · unfold F228.B3
      rw [wrap_id (by omega) (by omega)]
      refine ⟨⟨rfl, rfl, rfl, by omega, by omega, AHeap.le_trans hG hG2, fun i hi => ?_⟩, by simp; omega⟩
      by_cases he : i = n
      · subst he; rw [getD_of hn]; exact hb
      · exact hp i (by omega)
  · have hge : ¬ x8 < es.length := of_decide_eq_false hb
    unfold F228.B1
    refine k _ _ hG ?_
    have : es.any p = false := by
      rw [List.any_eq_false]
      intro e he
      obtain ⟨i, hi, rfl⟩ := List.getElem_of_mem he
      have := hp i (by omega)
      rw [getD_of hi] at this; simp [this]
    rw [this]; simp
theorem containsE_ok {p : Int × Int → Bool} (h : Edges H v es) (hl : es.length ≤ 4611686018427387904) (hf : ∀ e ∈ es, Cl H f (ve e) (p e)) (k : ∀ G, H.le G → K (.bool (es.any p)) G) :
    AC Tryz.prog T0 216 [v, f] H K := by
  apply F216.ac
  unfold F216.B2 F216.B1
  refine indexE_ok h hl hf fun r G hG hr => asI_mk ?_
  rw [hr]; exact k G hG
theorem areAllE_ok {p : Int × Int → Bool} (h : Edges H v es) (hl : es.length ≤ 4611686018427387904) (hf1 : f.oneCell' = true) (hf : ∀ e ∈ es, Cl H f (ve e) (p e)) (k : ∀ G, H.le G → K (.bool (es.all p)) G) :
    AC Tryz.prog T0 184 [v, f] H K := by
  apply F184.ac
  unfold F184.B2
  refine pif_t hf1 (newK_f (by simp [hf1]) fun H1 l1 n1 o1 => ?_)
  unfold F184.B1
  refine containsE_ok (p := fun e => !p e) (h.le l1) hl (fun e he => ?_) fun G hG => asB_mk ?_
  · intro G hG K k
    refine callV_mk ?_
    apply F217.ac
    unfold F217.B2
    refine newK_f rfl fun H2 l2 n2 o2 => ?_
    unfold F217.B1
    refine asP_mk (ld1_own (l2.2 _ _ (hG.2 _ _ o1)) rfl (ldI_own o2 rfl (ldI_own o2 rfl ?_)))
    exact hf e he _ (AHeap.le_trans l1 (AHeap.le_trans hG l2)) _ fun G' hG' => asB_mk (k _ (AHeap.le_trans l2 hG'))
  · have := k G (AHeap.le_trans l1 hG)
    rw [show (!es.any fun e => !p e) = es.all p by rw [List.all_eq_not_any_not]]
    exact this
theorem indexI_ok {p : Int → Bool} (h : Ints H v l) (hl : l.length ≤ 4611686018427387904) (hf : ∀ e ∈ l, Cl H f (.int .i64 e) (p e)) (k : ∀ r G, H.le G → decide (r ≥ 0) = l.any p → K (.int .i64 r) G) :
    AC Tryz.prog T0 234 [v, f] H K := by
  apply F234.ac
  unfold F234.B9 F234.B8
  refine h.len ?_
  unfold F234.L2
  refine ⟨fun x0 x1 x7 x8 G => x0 = v ∧ x1 = f ∧ x7 = l.length ∧ 0 ≤ x8 ∧ x8 ≤ l.length ∧ H.le G ∧ ∀ i : Nat, (i : Int) < x8 → p (l.getD i 0) = false, fun _ _ _ x8 _ => l.length - x8.toNat, ⟨rfl, rfl, rfl, by omega, by omega, AHeap.le_refl _, fun i hi => absurd hi (by omega)⟩, ?_⟩
  rintro x0 x1 x7 x8 G ⟨rfl, rfl, rfl, h0, h1, hG, hp⟩
  unfold F234.B7
  refine pif_cases (fun hb => ?_) fun hb => ?_
  · have hlt : x8 < l.length := of_decide_eq_true hb
    obtain ⟨n, rfl⟩ : ∃ n : Nat, x8 = n := ⟨x8.toNat, by omega⟩
    have hn : n < l.length := by omega
    unfold F234.B6 F234.B5
    refine (h.le hG).rd h0 hlt ?_
    simp only [Int.toNat_natCast, getD_of hn]
    refine hf l[n] (List.getElem_mem hn) G hG _ fun G2 hG2 => asB_mk (pif_cases (fun hb => ?_) fun hb => ?_)
    · unfold F234.B4
      refine k _ _ (AHeap.le_trans hG hG2) ?_
      rw [List.any_eq_true.2 ⟨l[n], List.getElem_mem hn, hb⟩]; simp
    · unfold F234.B3
      rw [wrap_id (by omega) (by omega)]
      refine ⟨⟨rfl, rfl, rfl, by omega, by omega, AHeap.le_trans hG hG2, fun i hi => ?_⟩, by simp; omega⟩
      by_cases he : i = n
      · subst he; rw [getD_of hn]; exact hb
      · exact hp i (by omega)
  · have hge : ¬ x8 < l.length := of_decide_eq_false hb
    unfold F234.B1
    refine k _ _ hG ?_
    have : l.any p = false := by
      rw [List.any_eq_false]
      intro e he
      obtain ⟨i, hi, rfl⟩ := List.getElem_of_mem he
      have := hp i (by omega)
      rw [getD_of hi] at this; simp [this]
    rw [this]; simp
theorem containsI_ok {p : Int → Bool} (h : Ints H v l) (hl : l.length ≤ 4611686018427387904) (hf : ∀ e ∈ l, Cl H f (.int .i64 e) (p e)) (k : ∀ G, H.le G → K (.bool (l.any p)) G) :
    AC Tryz.prog T0 229 [v, f] H K := by
  apply F229.ac
  unfold F229.B2 F229.B1
  refine indexI_ok h hl hf fun r G hG hr => asI_mk ?_
  rw [hr]; exact k G hG
theorem areAllI_ok {p : Int → Bool} (h : Ints H v l) (hl : l.length ≤ 4611686018427387904) (hf1 : f.oneCell' = true) (hf : ∀ e ∈ l, Cl H f (.int .i64 e) (p e)) (k : ∀ G, H.le G → K (.bool (l.all p)) G) :
    AC Tryz.prog T0 218 [v, f] H K := by
  apply F218.ac
  unfold F218.B2
  refine pif_t hf1 (newK_f (by simp [hf1]) fun H1 l1 n1 o1 => ?_)
  unfold F218.B1
  refine containsI_ok (p := fun e => !p e) (h.le l1) hl (fun e he => ?_) fun G hG => asB_mk ?_
  · intro G hG K k
    refine callV_mk ?_
    apply F230.ac
    unfold F230.B2
    unfold F230.B1
    refine asP_mk (ld1_own (hG.2 _ _ o1) rfl ?_)
    exact hf e he _ (AHeap.le_trans l1 hG) _ fun G' hG' => asB_mk (k _ hG')
  · have := k G (AHeap.le_trans l1 hG)
    rw [show (!l.any fun e => !p e) = l.all p by rw [List.all_eq_not_any_not]]
    exact this
theorem indexL_ok {p : Int → Bool} (h : Ints H v l) (hl : l.length ≤ 4611686018427387904) (hf : ∀ e ∈ l, Cl H f (.int .i64 e) (p e)) (k : ∀ r G, H.le G → decide (r ≥ 0) = l.any p → K (.int .i64 r) G) :
    AC Tryz.prog T0 220 [v, f] H K := by
  apply F220.ac
  unfold F220.B9 F220.B8
  refine h.len ?_
  unfold F220.L2
  refine ⟨fun x0 x1 x7 x8 G => x0 = v ∧ x1 = f ∧ x7 = l.length ∧ 0 ≤ x8 ∧ x8 ≤ l.length ∧ H.le G ∧ ∀ i : Nat, (i : Int) < x8 → p (l.getD i 0) = false, fun _ _ _ x8 _ => l.length - x8.toNat, ⟨rfl, rfl, rfl, by omega, by omega, AHeap.le_refl _, fun i hi => absurd hi (by omega)⟩, ?_⟩
  rintro x0 x1 x7 x8 G ⟨rfl, rfl, rfl, h0, h1, hG, hp⟩
  unfold F220.B7
  refine pif_cases (fun hb => ?_) fun hb => ?_
  · have hlt : x8 < l.length := of_decide_eq_true hb
    obtain ⟨n, rfl⟩ : ∃ n : Nat, x8 = n := ⟨x8.toNat, by omega⟩
    have hn : n < l.length := by omega
    unfold F220.B6 F220.B5
    refine (h.le hG).rd h0 hlt ?_
    simp only [Int.toNat_natCast, getD_of hn]
    refine hf l[n] (List.getElem_mem hn) G hG _ fun G2 hG2 => asB_mk (pif_cases (fun hb => ?_) fun hb => ?_)
    · unfold F220.B4
      refine k _ _ (AHeap.le_trans hG hG2) ?_
      rw [List.any_eq_true.2 ⟨l[n], List.getElem_mem hn, hb⟩]; simp
    · unfold F220.B3
      rw [wrap_id (by omega) (by omega)]
      refine ⟨⟨rfl, rfl, rfl, by omega, by omega, AHeap.le_trans hG hG2, fun i hi => ?_⟩, by simp; omega⟩
      by_cases he : i = n
      · subst he; rw [getD_of hn]; exact hb
      · exact hp i (by omega)
  · have hge : ¬ x8 < l.length := of_decide_eq_false hb
    unfold F220.B1
    refine k _ _ hG ?_
    have : l.any p = false := by
      rw [List.any_eq_false]
      intro e he
      obtain ⟨i, hi, rfl⟩ := List.getElem_of_mem he
      have := hp i (by omega)
      rw [getD_of hi] at this; simp [this]
    rw [this]; simp
theorem containsL_ok {p : Int → Bool} (h : Ints H v l) (hl : l.length ≤ 4611686018427387904) (hf : ∀ e ∈ l, Cl H f (.int .i64 e) (p e)) (k : ∀ G, H.le G → K (.bool (l.any p)) G) :
    AC Tryz.prog T0 189 [v, f] H K := by
  apply F189.ac
  unfold F189.B2 F189.B1
  refine indexL_ok h hl hf fun r G hG hr => asI_mk ?_
  rw [hr]; exact k G hG
theorem areAllL_ok {p : Int → Bool} (h : Ints H v l) (hl : l.length ≤ 4611686018427387904) (hf1 : f.oneCell' = true) (hf : ∀ e ∈ l, Cl H f (.int .i64 e) (p e)) (k : ∀ G, H.le G → K (.bool (l.all p)) G) :
    AC Tryz.prog T0 148 [v, f] H K := by
  apply F148.ac
  unfold F148.B2
  refine pif_t hf1 (newK_f (by simp [hf1]) fun H1 l1 n1 o1 => ?_)
  unfold F148.B1
  refine containsL_ok (p := fun e => !p e) (h.le l1) hl (fun e he => ?_) fun G hG => asB_mk ?_
  · intro G hG K k
    refine callV_mk ?_
    apply F190.ac
    unfold F190.B2
    unfold F190.B1
    refine asP_mk (ld1_own (hG.2 _ _ o1) rfl ?_)
    exact hf e he _ (AHeap.le_trans l1 hG) _ fun G' hG' => asB_mk (k _ hG')
  · have := k G (AHeap.le_trans l1 hG)
    rw [show (!l.any fun e => !p e) = l.all p by rw [List.all_eq_not_any_not]]
    exact this
end Go.Proofs
/- Contracts: whether a graph is one: the program's way. -/
set_option linter.unusedVariables false
set_option linter.unusedSimpArgs false
set_option maxRecDepth 100000
namespace Go.Proofs
open Go.Abs

variable {H : AHeap} {v u f : Value} {l m : List Int} {es fs : List (Int × Int)} {K : Value → AHeap → Prop}

def cmpI (a b : Int) : Int := if a < b then -1 else if a > b then 1 else 0
def cmpE (a b : Int × Int) : Int := if cmpI a.1 b.1 ≠ 0 then cmpI a.1 b.1 else cmpI a.2 b.2
theorem cmpE_neg (a b : Int × Int) : cmpE a b < 0 ↔ ltE a b := by
  unfold cmpE cmpI ltE
  repeat' split
  all_goals omega

theorem edges_one' {H : AHeap} {v : Value} {l : List (Int × Int)} (h : Edges H v l) : v.oneCell' = true := by
  rcases h with ⟨rfl, _⟩ | ⟨a, c, rfl, _⟩ <;> rfl
theorem isNaN_ok {a : Int} (k : K (.bool false) H) : AC Tryz.prog T0 209 [.int .i64 a] H K := by
  apply F209.ac
  unfold F209.B2 F209.B1
  simpa using k
theorem cmpCompare_ok {a b : Int} (k : K (.int .i64 (cmpI a b)) H) : AC Tryz.prog T0 169 [.int .i64 a, .int .i64 b] H K := by
  apply F169.ac
  unfold F169.B14 F169.B13
  refine isNaN_ok (asB_mk ?_)
  unfold F169.B12
  refine isNaN_ok (asB_mk ?_)
  unfold F169.B11
  refine pif_f rfl ?_
  unfold F169.B7
  refine pif_f rfl ?_
  unfold F169.B5
  unfold cmpI at k
  refine pif_cases (fun h => ?_) fun h => ?_
  · unfold F169.B4; rw [if_pos (of_decide_eq_true h)] at k; exact k
  · rw [if_neg (of_decide_eq_false h)] at k
    unfold F169.B3
    refine pif_cases (fun h => ?_) fun h => ?_
    · unfold F169.B2; rw [if_pos (of_decide_eq_true h)] at k; exact k
    · unfold F169.B1; rw [if_neg (of_decide_eq_false h)] at k; exact k

theorem compare2_ok {a b c d : Int} (h : Ints H v [a, b]) (g : Ints H u [c, d]) (k : K (.int .i64 (cmpE (a, b) (c, d))) H) : AC Tryz.prog T0 170 [v, u] H K := by
  apply F170.ac
  unfold F170.B15 F170.B14
  refine h.len ?_
  unfold F170.L4
  refine ⟨fun x0 x1 x9 x10 x11 G => x0 = v ∧ x1 = u ∧ x9 = v ∧ x10 = 2 ∧ G = H ∧ (x11 = 0 ∨ (x11 = 1 ∧ cmpI a c = 0) ∨ (x11 = 2 ∧ cmpI a c = 0 ∧ cmpI b d = 0)), fun _ _ _ _ x11 _ => 2 - x11.toNat, ⟨rfl, rfl, rfl, rfl, rfl, .inl rfl⟩, ?_⟩
  rintro x0 x1 x9 x10 x11 G ⟨rfl, rfl, rfl, rfl, rfl, p⟩
  unfold F170.B13
  rcases p with rfl | ⟨rfl, p⟩ | ⟨rfl, p, q⟩
  · refine pif_t rfl ?_
    unfold F170.B12
    refine h.rd (by decide) (by simp) ?_
    unfold F170.B11
    refine g.len (pif_f rfl ?_)
    unfold F170.B9
    refine g.rd (by decide) (by simp) ?_
    unfold F170.B8
    refine cmpCompare_ok (asI_mk ?_)
    unfold F170.B7
    refine pif_cases (fun hb => ?_) fun hb => ?_
    · unfold F170.B6
      have hb : cmpI a c ≠ 0 := by simpa using hb
      unfold cmpE at k
      rw [if_pos hb] at k; exact k
    · unfold F170.B5
      exact ⟨⟨rfl, rfl, rfl, rfl, rfl, .inr (.inl ⟨rfl, by simpa using hb⟩)⟩, show 2 - (IntKind.i64.wrap (0 + 1)).toNat < 2 - (0 : Int).toNat by decide⟩
  · refine pif_t rfl ?_
    unfold F170.B12
    refine h.rd (by decide) (by simp) ?_
    unfold F170.B11
    refine g.len (pif_f rfl ?_)
    unfold F170.B9
    refine g.rd (by decide) (by simp) ?_
    unfold F170.B8
    refine cmpCompare_ok (asI_mk ?_)
    unfold cmpE at k
    rw [if_neg (by simpa using p)] at k
    unfold F170.B7
    refine pif_cases (fun hb => ?_) fun hb => ?_
    · unfold F170.B6
      exact k
    · unfold F170.B5
      exact ⟨⟨rfl, rfl, rfl, rfl, rfl, .inr (.inr ⟨rfl, p, by simpa using hb⟩)⟩, show 2 - (IntKind.i64.wrap (1 + 1)).toNat < 2 - (1 : Int).toNat by decide⟩
  · refine pif_f rfl ?_
    unfold F170.B3
    refine h.len (g.len (pif_f rfl ?_))
    unfold F170.B1
    unfold cmpE at k
    rw [if_neg (by simpa using p)] at k
    simp only [q] at k; exact k

theorem own_ints {b : Nat} {e : TypeId} {l : List Int} {c : Nat} (h : Own H b e (LI l)) : Ints H (.slice (some ⟨b, 0, none⟩) l.length c) l :=
  .inr ⟨_, _, rfl, .inr ⟨rfl, fun i x hx => by rw [h.cell]; simp [hx]⟩⟩
theorem compareEdges_ok {a b : Int × Int} (k : ∀ G, H.le G → K (.int .i64 (cmpE a b)) G) : AC Tryz.prog T0 187 [ve a, ve b] H K := by
  apply F187.ac
  unfold F187.B2
  refine newK_f rfl fun H1 l1 n1 o1 => newK_f rfl fun H2 l2 n2 o2 => ?_
  unfold F187.B1
  exact compare2_ok (own_ints (l := [a.1, a.2]) (l2.2 _ _ o1)) (own_ints (l := [b.1, b.2]) o2) (asI_mk (k _ (AHeap.le_trans l1 l2)))

theorem isSorted_ok (h : Edges H v es) (hl : es.length ≤ 4611686018427387904) [Decidable (Srt es)] (k : ∀ G, H.le G → K (.bool (decide (Srt es))) G) : AC Tryz.prog T0 186 [v, .func (.func 187) ⟨[]⟩ ⟨[]⟩] H K := by
  apply F186.ac
  unfold F186.B8 F186.B7
  refine h.len ?_
  rw [wrap_id (by omega) (by omega)]
  unfold F186.L2
  refine ⟨fun x0 x1 x5 G => x0 = v ∧ x1 = .func (.func 187) ⟨[]⟩ ⟨[]⟩ ∧ -1 ≤ x5 ∧ x5 < es.length ∧ H.le G ∧ ∀ i, x5 ≤ (i : Nat) → i + 1 < es.length → ¬ ltE (es.getD (i + 1) (0, 0)) (es.getD i (0, 0)), fun _ _ x5 _ => (x5 + 1).toNat, ⟨rfl, rfl, by omega, by omega, AHeap.le_refl _, fun i hi hi2 => absurd hi (by omega)⟩, ?_⟩
  rintro x0 x1 x5 G ⟨rfl, rfl, h0, h1, hG, hp⟩
  unfold F186.B6
  refine pif_cases (fun hb => ?_) fun hb => ?_
  · have hgt : x5 > 0 := of_decide_eq_true hb
    obtain ⟨n, rfl⟩ : ∃ n : Nat, x5 = (n : Int) + 1 := ⟨(x5 - 1).toNat, by omega⟩
    unfold F186.B5
    rw [wrap_id (by omega) (by omega)]
    obtain ⟨b, o, hk, c1, c2⟩ := (h.le hG).idx (show (0 : Int) ≤ (n : Int) + 1 by omega) h1
    obtain ⟨b', o', hk', c1', c2'⟩ := (h.le hG).idx (show (0 : Int) ≤ (n : Int) + 1 - 1 by omega) (by omega)
    refine hk _ (ldI_mk c1 (ldI_mk c2 (hk' _ (ldI_mk c1' (ldI_mk c2' (callV_mk (compareEdges_ok (a := es.getD (((n : Int) + 1).toNat) (0, 0)) (b := es.getD (((n : Int) + 1 - 1).toNat) (0, 0)) fun G2 hG2 => asI_mk ?_)))))))
    rw [show ((n : Int) + 1).toNat = n + 1 by omega, show ((n : Int) + 1 - 1).toNat = n by omega]
    refine pif_cases (fun hb => ?_) fun hb => ?_
    · unfold F186.B4
      have := k _ (AHeap.le_trans hG hG2)
      rw [decide_eq_false (fun hs => hs n (by omega) ((cmpE_neg _ _).1 (of_decide_eq_true hb)))] at this; exact this
    · unfold F186.B3
      rw [wrap_id (by omega) (by omega)]
      refine ⟨⟨rfl, rfl, by omega, by omega, AHeap.le_trans hG hG2, fun i hi hi2 => ?_⟩, show ((n : Int) + 1 - 1 + 1).toNat < ((n : Int) + 1 + 1).toNat by omega⟩
      by_cases he : i = n
      · subst he; exact fun hs => of_decide_eq_false hb ((cmpE_neg _ _).2 hs)
      · exact hp i (by omega) hi2
  · have hle : ¬ x5 > 0 := of_decide_eq_false hb
    unfold F186.B1
    have := k _ hG
    rw [decide_eq_true (show Srt es from fun i hi => hp i (by omega) hi)] at this; exact this

theorem mkR_int {bytes : Nat} {e : TypeId} {zs : List Value} {n : Int} {K : Value → AHeap → Prop} (h0 : 0 ≤ n) (h1 : n ≤ 4294967296) (h2 : bytes ≤ 1024)
    (h : ∀ G, H.le G → G.length = H.length + 1 → Own G H.length e (List.replicate n.toNat zs).flatten → K (.slice (some ⟨H.length, 0, none⟩) n.toNat (n.toNat + 1)) G) : mkR H bytes e zs n n K :=
  ⟨h0, Int.le_refl _, h1, h2, h _ (le_snoc _ _) (by simp) (by simp [Own])⟩
theorem rep_one (n : Nat) : (List.replicate n [Value.int .i64 0]).flatten = LI (List.replicate n 0) := by
  induction n with
  | zero => rfl
  | succ n ih => rw [List.replicate_succ, List.replicate_succ, List.flatten_cons, ih]; rfl

/-- A number of a row of one's own one more. -/
theorem bump_at {b : Nat} {e : TypeId} {cs : List Int} {x : Int} {K : AHeap → Prop} (ho : Own H b e (LI cs)) (h0 : 0 ≤ x) (h1 : x < cs.length) (hb : ∀ c ∈ cs, 0 ≤ c ∧ c ≤ 1000000000000) (k : ∀ G, But b H G → Own G b e (LI (bump1 cs x)) → K G) :
    idxK (.slice (some ⟨b, 0, none⟩) cs.length (cs.length + 1)) x 1 (fun b2 o3 => ldI .i64 H b2 o3 (fun v4 => idxK (.slice (some ⟨b, 0, none⟩) cs.length (cs.length + 1)) x 1 (fun b5 o6 => stK H b5 o6 [(Value.int .i64 (IntKind.i64.wrap (v4 + 1)))] K))) := by
  refine (own_ints (c := cs.length + 1) ho).rd h0 h1 ⟨h0, h1, stK_1 ho (by simp; omega) rfl fun G hG o => k G hG ?_⟩
  have hx : x.toNat < cs.length := by omega
  have := hb cs[x.toNat] (List.getElem_mem hx)
  rw [getD_of hx, wrap_id (by omega) (by omega), ← List.map_set, ← getD_of (d := 0) hx] at o
  simpa [bump1] using o

theorem isThree_cl : ∀ c : Int, Cl H (.func (.func 219) ⟨[]⟩ ⟨[]⟩) (.int .i64 c) (c == 3) := by
  intro c G hG K k
  refine callV_mk ?_
  apply F219.ac
  unfold F219.B2 F219.B1
  exact k _ (AHeap.le_refl _)

theorem isCubic_ok {n : Int} (h : Edges H v es) (hd : IsEd n es) (k : ∀ G, H.le G → K (.bool (decide (Cub n es))) G) : AC Tryz.prog T0 188 [.int .i64 n, v] H K := by
  have := hd.lo; have := hd.hi; have hlen := hd.len
  apply F188.ac
  unfold F188.B10 F188.B9
  refine mkR_int (by omega) (by omega) (by decide) fun H1 l1 n1 o1 => ?_
  unfold F188.B8
  refine h.len ?_
  unfold F188.L2
  rw [rep_one] at o1
  refine ⟨fun x5 x10 x11 x12 G => x5 = .slice (some ⟨H.length, 0, none⟩) n.toNat (n.toNat + 1) ∧ x10 = v ∧ x11 = es.length ∧ 0 ≤ x12 ∧ x12 ≤ es.length ∧ H.le G ∧ Own G H.length 3 (LI (counts n (es.take x12.toNat))), fun _ _ _ x12 _ => es.length - x12.toNat, ⟨rfl, rfl, rfl, by omega, by omega, l1, by simpa [counts] using o1⟩, ?_⟩
  rintro x5 x10 x11 x12 G ⟨rfl, rfl, rfl, h0, h1, hG, ho⟩
  unfold F188.B7
  refine pif_cases (fun hb => ?_) fun hb => ?_
  · have hlt : x12 < es.length := of_decide_eq_true hb
    obtain ⟨i, rfl⟩ : ∃ i : Nat, x12 = i := ⟨x12.toNat, by omega⟩
    have hi : i < es.length := by omega
    unfold F188.B6
    obtain ⟨b, o, hk, c1, c2⟩ := (h.le hG).idx h0 hlt
    refine hk _ (ldI_mk c1 (ldI_mk c2 (newK_f rfl fun H2 l2 n2 o2 => stK_f o2 (by simp) (by simp [Value.oneCell']) rfl fun H3 b3 o3 => ?_)))
    simp only [Int.toNat_natCast, getD_of hi] at o3
    have hGl := lt_of_get ho
    have ho3 := b3.own (l2.2 _ _ ho) (by omega)
    have l3 : H.le H3 := b3.le (AHeap.le_trans hG l2) hG.1
    obtain ⟨e1, e2, e3, e4, _⟩ := hd.ends es[i] (List.getElem_mem hi)
    have cl : (counts n (es.take i)).length = n.toNat := counts_length _ _
    have cb : ∀ c ∈ counts n (es.take i), 0 ≤ c ∧ c ≤ 1000 := fun c hc => by have := counts_le _ _ c hc; simp at this; omega
    unfold F188.B5
    refine ldI_own o3 rfl ?_
    have hs : ∀ cs : List Int, cs.length = n.toNat → (.slice (some ⟨H.length, 0, none⟩) n.toNat (n.toNat + 1) : Value) = .slice (some ⟨H.length, 0, none⟩) cs.length (cs.length + 1) := fun cs h => by rw [h]
    rw [hs _ cl]
    simp only [Int.toNat_natCast] at ho3
    refine bump_at ho3 e1 (by omega) (fun c hc => by have := cb c hc; omega) fun H4 b4 o4 => ?_
    rw [← hs _ cl]
    unfold F188.B4
    have o34 := b4.own o3 (by have := hG.1; omega)
    refine ldI_own o34 rfl ?_
    rw [hs _ ((bump1_length _ _).trans cl)]
    refine bump_at o4 e3 (by rw [bump1_length]; omega) (fun c hc => by have := bump1_le cb _ c hc; omega) fun H5 b5 o5 => ?_
    rw [← hs _ ((bump1_length _ _).trans cl)]
    unfold F188.B3
    rw [wrap_id (by omega) (by omega)]
    refine ⟨⟨rfl, rfl, rfl, by omega, by omega, b5.le (b4.le l3 (Nat.le_refl _)) (Nat.le_refl _), ?_⟩, by simp; omega⟩
    rw [show ((i : Int) + 1).toNat = i + 1 by omega, counts_take n es hi]
    exact o5
  · have hge : ¬ x12 < es.length := of_decide_eq_false hb
    have : x12 = es.length := by omega
    subst this
    simp only [Int.toNat_natCast, List.take_length] at ho
    unfold F188.B1
    have cl : (counts n es).length = n.toNat := counts_length _ _
    have hi := own_ints (c := n.toNat + 1) ho
    rw [cl] at hi
    refine areAllI_ok (p := fun c => c == 3) hi (by omega) rfl (fun c _ => isThree_cl c) fun G2 hG2 => asB_mk ?_
    have := k _ (AHeap.le_trans hG hG2)
    have e : (counts n es).all (fun c => c == 3) = decide (Cub n es) := by
      rw [Bool.eq_iff_iff, List.all_eq_true, decide_eq_true_iff]
      simp [Cub]
    rw [e]; exact this

theorem areEdges_ok {n : Int} (h : Edges H v es) (hl : es.length ≤ 1048576) (k : ∀ G, H.le G → K (.bool (decide (IsEd n es))) G) : AC Tryz.prog T0 183 [.int .i64 n, v] H K := by
  apply F183.ac
  unfold F183.B2
  refine newK_f rfl fun H1 l1 n1 o1 => ?_
  unfold F183.B1
  refine ldI_own o1 rfl (isSize_ok (asB_mk (pif_cases (fun hs => ?_) fun hs => ?_)))
  · obtain ⟨s1, s2, s3⟩ := of_decide_eq_true hs
    refine ldI_own o1 rfl (lengthE_ok (h.le l1) (asI_mk ⟨AHeap.le_refl _, ?_⟩))
    rw [wrap_id (x := 3 * n) (by omega) (by omega), show Int.tdiv (3 * n) 2 = 3 * n / 2 from Int.tdiv_eq_ediv_of_nonneg (by omega), wrap_id (by omega) (by omega)]
    refine pif_cases (fun hs => ?_) fun hs => ?_
    · have hlen : (es.length : Int) = 3 * n / 2 := by simpa using hs
      refine areAllE_ok (p := fun e => decide (0 ≤ e.1 ∧ e.1 ≤ n - 1) && (decide (0 ≤ e.2 ∧ e.2 ≤ n - 1) && (e.1 != e.2))) (h.le l1) (by omega) rfl (fun e he => ?_) fun G hG => asB_mk ?_
      · intro G hG K k
        refine callV_mk ?_
        apply F215.ac
        unfold F215.B2
        refine newK_f rfl fun H2 l2 n2 o2 => ?_
        have o1 := l2.2 _ _ (hG.2 _ _ o1)
        unfold F215.B1
        refine ldI_own o2 rfl (asP_mk (ldI_own o1 rfl (within_ok (asB_mk ?_))))
        rw [wrap_id (by omega) (by omega)]
        have k := k _ l2
        refine pif_cases (fun hb => ?_) fun hb => ?_
        · rw [hb, Bool.true_and] at k
          refine ldI_own o2 rfl (asP_mk (ldI_own o1 rfl (within_ok (asB_mk ?_))))
          rw [wrap_id (by omega) (by omega)]
          refine pif_cases (fun hb => ?_) fun hb => ?_
          · rw [hb, Bool.true_and] at k
            exact ldI_own o2 rfl (ldI_own o2 rfl k)
          · rw [hb, Bool.false_and] at k; exact k
        · rw [hb, Bool.false_and] at k; exact k
      · have := k _ (AHeap.le_trans l1 hG)
        have e : (es.all fun e => decide (0 ≤ e.1 ∧ e.1 ≤ n - 1) && (decide (0 ≤ e.2 ∧ e.2 ≤ n - 1) && (e.1 != e.2))) = decide (IsEd n es) := by
          rw [Bool.eq_iff_iff, List.all_eq_true, decide_eq_true_iff]
          constructor
          · intro h
            refine ⟨s1, s2, s3, hlen, fun e he => ?_⟩
            have := h e he
            simp only [Bool.and_eq_true, decide_eq_true_eq, bne_iff_ne] at this
            exact ⟨this.1.1, this.1.2, this.2.1.1, this.2.1.2, this.2.2⟩
          · intro h e he
            obtain ⟨h1, h2, h3, h4, h5⟩ := h.ends e he
            simp [h1, h2, h3, h4, h5]
        rw [e]; exact this
    · have := k _ l1
      rw [decide_eq_false (fun hd => by have := hd.len; simp at hs; omega)] at this; exact this
  · have := k _ l1
    rw [decide_eq_false (fun hd => of_decide_eq_false hs ⟨hd.lo, hd.hi, hd.even⟩)] at this; exact this

noncomputable instance (es : List (Int × Int)) : Decidable (Srt es) := Classical.propDecidable _
theorem IsGraph_ok {n : Int} (h : Edges H v es) (hl : es.length ≤ 1048576) (k : ∀ G, H.le G → K (.bool (decide (IsG n es))) G) : AC Tryz.prog T0 143 [.agg ⟨[.int .i64 n, v]⟩] H K := by
  apply F143.ac
  unfold F143.B2
  refine newK_f (all_iv (edges_one' h)) fun H1 l1 n1 o1 => ?_
  unfold F143.B1
  refine ldI_own o1 rfl (ld1_own o1 rfl (areEdges_ok (h.le l1) hl fun H2 l2 => asB_mk (pif_cases (fun hb => ?_) fun hb => ?_)))
  · have hd := of_decide_eq_true hb
    have o2 := l2.2 _ _ o1
    refine ld1_own o2 rfl (areAllE_ok (p := fun e => decide (e.1 < e.2)) (h.le (AHeap.le_trans l1 l2)) (by omega) rfl (fun e he => ?_) fun H3 l3 => asB_mk (pif_cases (fun hb => ?_) fun hb => ?_))
    · intro G hG K k
      refine callV_mk ?_
      apply F185.ac
      unfold F185.B2
      refine newK_f rfl fun H2 l2 n2 o2 => ?_
      unfold F185.B1
      exact ldI_own o2 rfl (ldI_own o2 rfl (k _ l2))
    · have hup : ∀ e ∈ es, e.1 < e.2 := fun e he => of_decide_eq_true (List.all_eq_true.1 hb e he)
      have o3 := l3.2 _ _ o2
      have l13 := AHeap.le_trans l1 (AHeap.le_trans l2 l3)
      refine ld1_own o3 rfl (isSorted_ok (h.le l13) (by omega) fun H4 l4 => asB_mk (pif_cases (fun hb => ?_) fun hb => ?_))
      · have o4 := l4.2 _ _ o3
        refine ldI_own o4 rfl (ld1_own o4 rfl (isCubic_ok (h.le (AHeap.le_trans l13 l4)) hd fun H5 l5 => asB_mk ?_))
        have := k _ (AHeap.le_trans l13 (AHeap.le_trans l4 l5))
        have e : decide (IsG n es) = decide (Cub n es) := by
          rw [decide_eq_decide]
          exact ⟨fun h => h.cub, fun h => ⟨hd, hup, of_decide_eq_true hb, h⟩⟩
        rw [e] at this; exact this
      · have := k _ (AHeap.le_trans l13 l4)
        rw [decide_eq_false (fun hg => of_decide_eq_false hb hg.srt)] at this; exact this
    · have := k _ (AHeap.le_trans l1 (AHeap.le_trans l2 l3))
      rw [decide_eq_false (fun hg => by
        have : es.all (fun e => decide (e.1 < e.2)) = true := List.all_eq_true.2 fun e he => decide_eq_true (hg.up e he)
        rw [this] at hb; cases hb)] at this; exact this
  · have := k _ (AHeap.le_trans l1 l2)
    rw [decide_eq_false (fun hg => of_decide_eq_false hb hg.ed)] at this; exact this

theorem graphCode_ok {n : Int} {b : Bool} (h : Edges H v es) (hl : es.length ≤ 1048576) (k : ∀ G, H.le G → K (.int .i64 (if IsG n es then (if b then 0 else 2) else 1)) G) : AC Tryz.prog T0 72 [.agg ⟨[.int .i64 n, v]⟩, .bool b] H K := by
  apply F72.ac
  unfold F72.B6
  refine newK_f (all_iv (edges_one' h)) fun H1 l1 n1 o1 => ?_
  unfold F72.B5
  refine ldI_own o1 rfl (ld1_own o1 rfl (IsGraph_ok (h.le l1) hl fun H2 l2 => asB_mk ?_))
  have k := k _ (AHeap.le_trans l1 l2)
  refine pif_cases (fun hb => ?_) fun hb => ?_
  · unfold F72.B2
    rw [if_neg (of_decide_eq_false (by simpa using hb))] at k; exact k
  · rw [if_pos (of_decide_eq_true (by simpa using hb))] at k
    unfold F72.B4
    cases b
    · exact pif_t rfl k
    · exact pif_f rfl k

theorem isSet_ok {n : Int} (h : Ints H v l) (hl : l.length ≤ 4611686018427387904) (hn : -1000000000000 ≤ n) (hn2 : n ≤ 4611686018427387904) (k : K (.bool (decide (IsS l n))) H) : AC Tryz.prog T0 98 [v, .int .i64 n] H K := by
  apply F98.ac
  unfold F98.B9 F98.B8
  refine h.len ?_
  unfold F98.L2
  refine ⟨fun x0 x1 x7 x8 x9 G => x0 = v ∧ x1 = n ∧ x7 = v ∧ x8 = l.length ∧ 0 ≤ x9 ∧ x9 ≤ l.length ∧ G = H ∧ ∀ i : Nat, (i : Int) < x9 → 0 ≤ l.getD i 0 ∧ l.getD i 0 ≤ n - 1 ∧ (0 < i → l.getD (i - 1) 0 < l.getD i 0), fun _ _ _ _ x9 _ => l.length - x9.toNat, ⟨rfl, rfl, rfl, rfl, by omega, by omega, rfl, fun i hi => absurd hi (by omega)⟩, ?_⟩
  rintro x0 x1 x7 x8 x9 G ⟨rfl, rfl, rfl, rfl, h0, h1, rfl, hp⟩
  unfold F98.B7
  refine pif_cases (fun hb => ?_) fun hb => ?_
  · have hlt : x9 < l.length := of_decide_eq_true hb
    obtain ⟨i, rfl⟩ : ∃ i : Nat, x9 = i := ⟨x9.toNat, by omega⟩
    have hi : i < l.length := by omega
    unfold F98.B6
    refine h.rd h0 hlt ?_
    simp only [Int.toNat_natCast]
    unfold F98.B5
    refine within_ok (asB_mk ?_)
    rw [wrap_id (by omega) (by omega)]
    have no : ¬ (0 ≤ l.getD i 0 ∧ l.getD i 0 ≤ x1 - 1 ∧ (0 < i → l.getD (i - 1) 0 < l.getD i 0)) → ∀ N, F98.B4 K N G := by
      intro hno N
      unfold F98.B4
      rw [decide_eq_false (fun hs : IsS l x1 => hno (hs i hi))] at k; exact k
    have yes : (0 ≤ l.getD i 0 ∧ l.getD i 0 ≤ x1 - 1 ∧ (0 < i → l.getD (i - 1) 0 < l.getD i 0)) → ∀ j : Nat, (j : Int) < (i : Int) + 1 → 0 ≤ l.getD j 0 ∧ l.getD j 0 ≤ x1 - 1 ∧ (0 < j → l.getD (j - 1) 0 < l.getD j 0) := by
      intro hy j hj
      by_cases he : j = i
      · subst he; exact hy
      · exact hp j (by omega)
    refine pif_cases (fun hb => ?_) fun hb => ?_
    · rw [Bool.not_eq_true'] at hb
      exact no (fun hy => of_decide_eq_false hb ⟨hy.1, hy.2.1⟩) _
    · have hb : 0 ≤ l.getD i 0 ∧ l.getD i 0 ≤ x1 - 1 := by simpa using hb
      refine pif_cases (fun hc => ?_) fun hc => ?_
      · have hi0 : 0 < i := by have := of_decide_eq_true hc; omega
        rw [wrap_id (by omega) (by omega)]
        refine h.rd (by omega) (by omega) ?_
        rw [show ((i : Int) - 1).toNat = i - 1 by omega]
        refine pif_cases (fun hd => ?_) fun hd => ?_
        · have := of_decide_eq_true hd
          exact no (fun hy => by have := hy.2.2 hi0; omega) _
        · have := of_decide_eq_false hd
          unfold F98.B3
          rw [wrap_id (by omega) (by omega)]
          exact ⟨⟨rfl, rfl, rfl, rfl, by omega, by omega, rfl, yes ⟨hb.1, hb.2, fun _ => by omega⟩⟩, by simp; omega⟩
      · have := of_decide_eq_false hc
        unfold F98.B3
        rw [wrap_id (by omega) (by omega)]
        exact ⟨⟨rfl, rfl, rfl, rfl, by omega, by omega, rfl, yes ⟨hb.1, hb.2, fun h => by omega⟩⟩, by simp; omega⟩
  · have hge : ¬ x9 < l.length := of_decide_eq_false hb
    unfold F98.B1
    rw [decide_eq_true (show IsS l x1 from fun i hi => hp i (by omega))] at k; exact k
end Go.Proofs
/- Contracts: copies into a row of one's own. -/
set_option linter.unusedVariables false
set_option linter.unusedSimpArgs false
set_option maxRecDepth 100000
namespace Go.Proofs
open Go.Abs

variable {H : AHeap} {l s : List Int}

theorem cp_own {b o n c2 sb so m c : Nat} {K : Nat → AHeap → Prop} (hb : Own H b 2 (LI l)) (hs : Own H sb 2 (LI s)) (hm : 0 < m) (hn : 0 < n) (h1 : so + m ≤ s.length) (h2 : o + n ≤ l.length)
    (k : ∀ G, But b H G → Own G b 2 (LI (l.take o ++ (s.drop so).take (Nat.min m n) ++ l.drop (o + Nat.min m n))) → K (Nat.min m n) G) :
    cpK T0 2 H (.slice (some ⟨b, o, none⟩) n c2) (.slice (some ⟨sb, so, none⟩) m c) K := by
  have hq : Nat.min m n ≤ m ∧ Nat.min m n ≤ n ∧ 0 < Nat.min m n := ⟨Nat.min_le_left _ _, Nat.min_le_right _ _, Nat.lt_min.2 ⟨hm, hn⟩⟩
  have hl : (LI ((s.drop so).take (Nat.min m n))).length = Nat.min m n := by simp only [LI, List.length_map, List.length_take, List.length_drop]; omega
  refine .inr ⟨sb, so, m, c, b, o, n, c2, LI l, LI ((s.drop so).take (Nat.min m n)), rfl, rfl, hb, hq.2.2, ?_, ?_, ?_, k _ But.set ?_⟩
  · rw [hl]; exact (Nat.mul_one _).symm
  · intro i u hu
    rw [hs.cell]
    have hi := lt_of_get hu
    rw [hl] at hi
    simp only [LI, List.getElem?_map] at hu ⊢
    rw [List.getElem?_take_of_lt hi, List.getElem?_drop] at hu
    exact hu
  · rw [hl]; simp only [LI, List.length_map]; omega
  · rw [hl]
    have : b < H.length := lt_of_get hb
    simp only [Own, LI, List.map_append, List.map_take, List.map_drop]
    rw [List.getElem?_set_self this]
end Go.Proofs
/- Plain rules, continued: what lives on while lists of one's own grow. -/
set_option linter.unusedVariables false
set_option linter.unusedSimpArgs false
set_option maxRecDepth 100000
namespace Go.Abs
open Go.RowKit

section
variable {T : TT} {H H0 G : AHeap} {v : Value} {l : List Int} {m : Nat} {t : TypeId} {z : Nat} {cs : List Value}

theorem lenK_of {a : Option Addr} {n c : Nat} {K : Nat → Prop} (k : K n) : lenK (.slice a n c) K := k
/-- All that is older than m lives on. -/
structure Keep (m : Nat) (H G : AHeap) : Prop where
  len : H.length ≤ G.length
  old : ∀ (b : Nat) (o : AObj), b < m → H[b]? = some (some o) → G[b]? = some (some o)
theorem Keep.refl : Keep m H H := ⟨Nat.le_refl _, fun _ _ _ h => h⟩
theorem Keep.trans {G' : AHeap} (h : Keep m H G) (k : Keep m G G') : Keep m H G' := ⟨Nat.le_trans h.len k.len, fun b o hb ho => k.old b o hb (h.old b o hb ho)⟩
theorem Keep.of_le (h : H.le G) : Keep m H G := ⟨h.1, fun b o _ ho => h.2 b o ho⟩
theorem But.keep {b : Nat} (h : But b H G) (hb : m ≤ b) : Keep m H G := ⟨Nat.le_of_eq h.len.symm, fun c o hc ho => by rw [h.same c (by omega)]; exact ho⟩
theorem Keep.less {m' : Nat} (h : Keep m H G) (hm : m' ≤ m) : Keep m' H G := ⟨h.len, fun b o hb ho => h.old b o (by omega) ho⟩
theorem Keep.le (h : Keep m H G) (h0 : H0.le H) (hm : H0.length ≤ m) : H0.le G := ⟨Nat.le_trans h0.1 h.len, fun b o ho => h.old b o (by have := lt_of_get ho; omega) (h0.2 b o ho)⟩
theorem Keep.own {b : Nat} (h : Keep m H G) (o : Own H b t cs) (hb : b < m) : Own G b t cs := h.old b _ hb o
theorem Own.lt {b : Nat} (o : Own H b t cs) : b < H.length := lt_of_get o
theorem Own.le {b : Nat} (o : Own H b t cs) (h : H.le G) : Own G b t cs := h.2 _ _ o
theorem Own.inj {b : Nat} {t' : TypeId} {cs' : List Value} (o : Own H b t cs) (o' : Own H b t' cs') : cs = cs' := by
  have := o.symm.trans o'; simp at this; exact this.1

/-- A slice of a row of one's own. -/
def Sl (m : Nat) (H : AHeap) (v : Value) (t : TypeId) (z : Nat) (cs : List Value) : Prop :=
  (cs = [] ∧ (v = .slice none 0 0 ∨ ∃ a, v = .slice (some a) 0 0)) ∨ ∃ b n pre post, m ≤ b ∧ v = .slice (some ⟨b, List.length pre, none⟩) n (n + 1) ∧ Own H b t (pre ++ cs ++ post) ∧ cs.length = n * z
theorem Fresh.sl (h : Fresh m H v t z cs) : Sl m H v t z cs := by
  rcases h with h | ⟨b, n, h1, h2, h3, h4⟩
  · exact .inl h
  · exact .inr ⟨b, n, [], [], h1, h2, by simpa using h3, h4⟩
theorem Sl.le (h : Sl m H v t z cs) (hl : H.le G) : Sl m G v t z cs := by
  rcases h with h | ⟨b, n, pre, post, h1, h2, h3, h4⟩
  · exact .inl h
  · exact .inr ⟨b, n, pre, post, h1, h2, h3.le hl, h4⟩
theorem Sl.less {m' : Nat} (h : Sl m H v t z cs) (hm : m' ≤ m) : Sl m' H v t z cs := by
  rcases h with h | ⟨b, n, pre, post, h1, h2, h3, h4⟩
  · exact .inl h
  · exact .inr ⟨b, n, pre, post, by omega, h2, h3, h4⟩
theorem Sl.but {b : Nat} (h : Sl m H v t z cs) (hb : But b H G) (hm : b < m) : Sl m G v t z cs := by
  rcases h with h | ⟨c, n, pre, post, h1, h2, h3, h4⟩
  · exact .inl h
  · exact .inr ⟨c, n, pre, post, h1, h2, hb.own h3 (by omega), h4⟩
theorem Fresh.but {b : Nat} (h : Fresh m H v t z cs) (hb : But b H G) (hm : b < m) : Fresh m G v t z cs := by
  rcases h with h | ⟨c, n, h1, h2, h3, h4⟩
  · exact .inl h
  · exact .inr ⟨c, n, h1, h2, hb.own h3 (by omega), h4⟩
theorem Fresh.keep {m' : Nat} (h : Fresh m H v t z cs) (hk : Keep m' H G) (hm : ∀ b n, v = .slice (some ⟨b, 0, none⟩) n (n + 1) → b < m') : Fresh m G v t z cs := by
  rcases h with h | ⟨c, n, h1, h2, h3, h4⟩
  · exact .inl h
  · exact .inr ⟨c, n, h1, h2, hk.own h3 (hm _ _ h2), h4⟩
theorem Sl.nil : Sl m H (.slice none 0 0) t z [] := .inl ⟨rfl, .inl rfl⟩
theorem Sl.ints (h : Sl m H v t 1 (LI l)) : Ints H v l := by
  rcases h with ⟨h1, h2⟩ | ⟨b, n, pre, post, h1, rfl, h3, h4⟩
  · have : l = [] := by simpa using h1
    subst this
    rcases h2 with rfl | ⟨a, rfl⟩
    · exact .inl ⟨rfl, rfl⟩
    · exact .inr ⟨a, 0, rfl, .inl rfl⟩
  · simp at h4
    subst h4
    refine .inr ⟨_, _, rfl, .inr ⟨rfl, fun i x hx => ?_⟩⟩
    have hi : i < l.length := lt_of_get hx
    rw [h3.cell, List.append_assoc, List.getElem?_append_right (Nat.le_add_right _ _), Nat.add_sub_cancel_left, List.getElem?_append_left (by simpa using hi)]
    simp [hx]
theorem Sl.len (h : Sl m H v t z cs) {n : Nat} (hz : 0 < z) (hn : cs.length = n * z) {K : Nat → Prop} (k : K n) : lenK v K := by
  rcases h with ⟨h1, h2⟩ | ⟨b, n', pre, post, h1, rfl, h3, h4⟩
  · subst h1
    have : n = 0 := by
      cases n with
      | zero => rfl
      | succ n => simp [Nat.add_mul] at hn; omega
    subst this
    rcases h2 with rfl | ⟨a, rfl⟩ <;> exact k
  · have : n' = n := Nat.eq_of_mul_eq_mul_right hz (h4.symm.trans hn)
    subst this; exact k
/-- The block that an append may take away. -/
def bk : Value → Option Nat
  | .slice (some a) _ (_ + 1) => some a.block
  | _ => none
theorem Sl.lt (h : Sl m H v t z cs) {b : Nat} (hb : bk v = some b) : m ≤ b ∧ b < H.length := by
  rcases h with ⟨_, rfl | ⟨a, rfl⟩⟩ | ⟨b', n, pre, post, h1, rfl, h3, _⟩
  · cases hb
  · cases hb
  · cases hb; exact ⟨h1, h3.lt⟩
/-- All but a slice's own block lives on. -/
def Oth (v : Value) (H G : AHeap) : Prop := ∀ (b : Nat) (o : AObj), bk v ≠ some b → H[b]? = some (some o) → G[b]? = some (some o)
theorem Sl.oth {w : Value} (h : Sl m H v t z cs) (k : Oth w H G) (hn : ∀ b, bk v = some b → bk w ≠ some b) : Sl m G v t z cs := by
  rcases h with h | ⟨b, n, pre, post, h1, rfl, h3, h4⟩
  · exact .inl h
  · exact .inr ⟨b, n, pre, post, h1, rfl, k b _ (hn b rfl) h3, h4⟩
theorem Fresh.bk_lt (h : Fresh m H v t z cs) {b : Nat} (hb : bk v = some b) : m ≤ b ∧ b < H.length := h.sl.lt hb
/-- A type's elements, as lists take them. -/
def Elem (T : TT) (t : TypeId) (z : Nat) : Prop := ∃ ti, T t = some ti ∧ ti.size = z ∧ ti.bytes ≤ 1024 ∧ ti.fine = true
/-- More at the end of a list of one's own. -/
theorem Sl.app {ys : List Value} {x : Value} {n : Nat} {K : Value → AHeap → Prop} (he : Elem T t z) (hz : 0 < z) (h : Sl m H v t z cs) (hm : m ≤ H.length) (hx : cellsAt H x z n ys) (hs : cs.length + ys.length ≤ 4294967296)
    (k0 : ys = [] → K v H) (k : ∀ v' G, Keep m H G → Oth v H G → (∀ b, bk v' = some b → H.length ≤ b) → Fresh m G v' t z (cs ++ ys) → K v' G) : apK T t H v x K := by
  obtain ⟨ti, e1, rfl, e3, e4⟩ := he
  unfold apK
  rw [e1]
  simp only
  have hyl := hx.1
  by_cases hn : n = 0
  · subst hn
    have : ys = [] := List.length_eq_zero_iff.1 (by omega)
    subst this
    refine ⟨0, [], hx, .inl ⟨rfl, ?_, k0 rfl⟩⟩
    rcases h with ⟨_, rfl | ⟨a, rfl⟩⟩ | ⟨b, n, pre, post, _, rfl, _⟩
    · exact .inr rfl
    · exact .inl ⟨a, 0, 0, rfl⟩
    · exact .inl ⟨_, _, _, rfl⟩
  · refine ⟨n, ys, hx, .inr ⟨by omega, ?_⟩⟩
    have hle : n ≤ n * ti.size := Nat.le_mul_of_pos_right _ hz
    rcases h with ⟨rfl, h1⟩ | ⟨b, n', pre, post, hb, rfl, h3, h4⟩
    · refine ⟨0, [], H, ?_, by simp at hs; omega, e3, e4, hz, k _ _ (Keep.of_le (le_snoc _ _)) (fun b o _ h => (le_snoc _ _).2 b o h) (fun b h => by cases h; exact Nat.le_refl _) ?_⟩
      · rcases h1 with rfl | ⟨a, rfl⟩
        · exact .inl ⟨rfl, rfl, rfl, rfl⟩
        · exact .inr (.inl ⟨a, rfl, rfl, rfl, rfl⟩)
      · rw [Nat.zero_add]; exact (fresh_snoc (by simpa using hyl)).less hm
    · have hml : n' ≤ n' * ti.size := Nat.le_mul_of_pos_right _ hz
      refine ⟨n', cs, H.set b none, .inr (.inr ⟨b, pre.length, n' + 1, _, rfl, h3, by simp; omega, ?_, rfl⟩), by omega, e3, e4, hz, k _ _ ?_ ?_ (fun b h => by cases h; exact Nat.le_refl _) ?_⟩
      · rw [List.append_assoc, List.drop_left, ← h4, List.take_left]
      · refine ⟨by simp, fun d o hd ho => ?_⟩
        have := lt_of_get ho
        rw [List.getElem?_append_left (by simpa using this), List.getElem?_set_ne (by omega)]; exact ho
      · intro d o hd ho
        have := lt_of_get ho
        rw [List.getElem?_append_left (by simpa using this), List.getElem?_set_ne (fun h => hd (by rw [h]; rfl))]; exact ho
      · refine .inr ⟨H.length, n' + n, hm, rfl, ?_, by simp [h4, hyl, Nat.add_mul]⟩
        have : (H.set b none).length = H.length := by simp
        rw [← this]; exact snoc_get _ _
theorem Sl.pushN {ys : List Value} {n : Nat} {K : Value → AHeap → Prop} (he : Elem T t z) (hz : 0 < z) (h : Sl m H v t z cs) (hm : m ≤ H.length) (hy : ys.length = n * z) (h1 : ys.all Value.oneCell' = true) (hs : cs.length + ys.length ≤ 4294967296)
    (k0 : ys ≠ []) (k : ∀ v' G, Keep m H G → Oth v H G → (∀ b, bk v' = some b → H.length ≤ b) → Fresh m G v' t z (cs ++ ys) → K v' G) : newK H ys t (fun b1 H2 => apK T t H2 v (.slice (some ⟨b1, 0, none⟩) n (n + 1)) K) := by
  refine newK_f h1 fun H2 l2 n2 o2 => ?_
  exact Sl.app he hz (h.le l2) (Nat.le_trans hm l2.1) (cellsAt_row o2 hy) hs (fun h => absurd h k0) fun v' G hk ho hn hf => k v' G ((Keep.of_le l2).trans hk) (fun b o hb h => ho b o hb (l2.2 b o h)) (fun b h => Nat.le_trans l2.1 (hn b h)) hf
/-- A list without its first elements. -/
theorem Sl.drop {i : Nat} {n : Nat} {K : Value → Prop} (h : Sl m H v t z cs) (hn : cs.length = n * z) (hz : 0 < z) (h0 : 0 < n) (hi : i ≤ n) (k : ∀ v', Sl m H v' t z (cs.drop (i * z)) → K v') : sliceK H t v (some (.int .i64 (i : Int))) none z K := by
  have hle : i * z ≤ n * z := Nat.mul_le_mul_right z hi
  have hnz : n ≤ n * z := Nat.le_mul_of_pos_right _ hz
  rcases h with ⟨rfl, h1⟩ | ⟨b, n', pre, post, hb, rfl, h3, h4⟩
  · simp at hn; omega
  · have : n' = n := Nat.eq_of_mul_eq_mul_right hz (h4.symm.trans hn)
    subst this
    refine ⟨⟨_, _, h3, by simp; omega⟩, by simp, by simp; omega, by simp, ?_⟩
    refine k _ (.inr ⟨b, n' - i, pre ++ cs.take (i * z), post, hb, ?_, ?_, ?_⟩)
    · simp [Nat.min_eq_left (show i * z ≤ cs.length by omega)]
    · rw [List.append_assoc pre, List.take_append_drop]; exact h3
    · rw [List.length_drop, hn, Nat.sub_mul]
end
end Go.Abs
/- Contracts: a value told again and again. -/
set_option linter.unusedVariables false
set_option linter.unusedSimpArgs false
set_option maxRecDepth 100000
namespace Go.Proofs
open Go.Abs

variable {H : AHeap} {l s : List Int}

theorem repeat_ok {b1 : Nat} {t n : Int} {K : Value → AHeap → Prop} (o : Own H b1 2 (LI [t])) (h0 : 0 ≤ n) (h1 : n ≤ 1000000)
    (k : ∀ G, H.le G → Own G H.length 2 (LI (List.replicate n.toNat t)) → K (.slice (some ⟨H.length, 0, none⟩) n.toNat (n.toNat + 1)) G) :
    AC Tryz.prog T0 192 [.slice (some ⟨b1, 0, none⟩) 1 (1 + 1), .int .i64 n] H K := by
  obtain ⟨N, rfl⟩ := Int.eq_ofNat_of_zero_le h0
  have hu : IntKind.u64.wrap ((N : Nat) : Int) = N := by simp only [IntKind.wrap, IntKind.bits, IntKind.signed, Bool.false_and, Bool.false_eq_true, if_false]; omega
  have hb1 : b1 < H.length := lt_of_get o
  apply F192.ac
  unfold F192.B10 F192.B9
  refine pif_f (by simp) ?_
  unfold F192.B8
  refine lenK_of ?_
  rw [hu, show IntKind.u64.wrap ((1 : Nat) : Int) = 1 from by decide]
  refine mul_ok (by omega) (by omega) ?_
  show F192.B7 K _ 0 N H
  unfold F192.B7
  refine pif_f (by decide) (pif_f (by simp; omega) ?_)
  unfold F192.B6
  rw [wrap_id (by omega) (by omega)]
  refine mkR_int (by omega) (by omega) (by decide) fun H2 l2 n2 o2 => ?_
  rw [rep_one, Int.toNat_natCast] at o2
  simp only [Int.toNat_natCast] at k ⊢
  unfold F192.B5
  have main : ∀ (i : Nat) G, i ≤ N → (0 < i ∨ N = 0) → H.le G → Own G H.length 2 (LI (List.replicate i t ++ List.replicate (N - i) 0)) → F192.L2 K (.slice (some ⟨H.length, 0, none⟩) N (N + 1)) (i : Int) G := by
    intro i G hi hp hl ho
    unfold F192.L2
    refine ⟨fun x7 x8 G => x7 = .slice (some ⟨H.length, 0, none⟩) N (N + 1) ∧ ∃ i : Nat, x8 = i ∧ i ≤ N ∧ (0 < i ∨ N = 0) ∧ H.le G ∧ Own G H.length 2 (LI (List.replicate i t ++ List.replicate (N - i) 0)), fun _ x8 _ => N - x8.toNat, ⟨rfl, i, rfl, hi, hp, hl, ho⟩, ?_⟩
    rintro x7 x8 G ⟨rfl, i, rfl, hi, hp, hl, ho⟩
    unfold F192.B4
    refine lenK_of ?_
    by_cases h : i < N
    · refine pif_t (by simp; omega) ?_
      unfold F192.B3
      refine ⟨⟨_, _, ho, by simp [LI]; omega⟩, by omega, by omega, by omega, ?_⟩
      refine ⟨⟨_, _, ho, by simp [LI]; omega⟩, by omega, by omega, by omega, ?_⟩
      simp only [Int.toNat_natCast, Nat.zero_add, Nat.mul_one, Int.toNat_zero, Nat.zero_mul, Nat.sub_zero]
      refine cp_own ho ho (by omega) (by omega) (by first | (simp; done) | (simp; omega)) (by first | (simp; done) | (simp; omega)) fun G2 b2 o2 => ?_
      have hq : Nat.min i (N - i) ≤ i ∧ Nat.min i (N - i) ≤ N - i ∧ 0 < Nat.min i (N - i) := ⟨Nat.min_le_left _ _, Nat.min_le_right _ _, Nat.lt_min.2 ⟨by omega, by omega⟩⟩
      generalize Nat.min i (N - i) = q at hq o2 ⊢
      rw [wrap_id (by omega) (by omega)]
      refine ⟨⟨by first | trivial | rfl, i + q, by omega, by omega, by omega, b2.le hl (Nat.le_refl _), ?_⟩, by omega⟩
      have e : (List.replicate i t ++ List.replicate (N - i) 0).take i ++ ((List.replicate i t ++ List.replicate (N - i) 0).drop 0).take q ++ (List.replicate i t ++ List.replicate (N - i) 0).drop (i + q) = List.replicate (i + q) t ++ List.replicate (N - (i + q)) 0 := by
        rw [List.take_left' (by simp), List.drop_zero, List.take_append_of_le_length (by simp; omega), List.take_replicate, Nat.min_eq_left hq.1, List.replicate_append_replicate, List.drop_append, List.drop_eq_nil_of_le (by simp), List.nil_append, List.drop_replicate, List.length_replicate]
        congr 2; omega
      rw [e] at o2
      exact o2
    · refine pif_f (by simp; omega) ?_
      unfold F192.B1
      obtain rfl : i = N := by omega
      exact k _ hl (by simpa using ho)
  by_cases hN : N = 0
  · subst hN
    exact .inl ⟨_, _, _, _, _, _, rfl, rfl, .inr rfl, main 0 H2 (by omega) (.inr rfl) l2 (by simpa using o2)⟩
  · refine cp_own o2 (l2.2 _ _ o) (by omega) (by omega) (by simp) (by simp) fun G b2 o3 => ?_
    have hq : Nat.min 1 N = 1 := Nat.min_eq_left (by omega)
    rw [hq] at o3 ⊢
    refine main 1 G (by omega) (.inl (by omega)) (b2.le l2 (Nat.le_refl _)) ?_
    simpa using o3
end Go.Proofs
/- Contracts: whether a graph is one: the reference's way. -/
set_option linter.unusedVariables false
set_option linter.unusedSimpArgs false
set_option maxRecDepth 100000
namespace Go.Proofs
open Go.Abs

variable {H : AHeap} {v u f : Value} {l m : List Int} {es fs : List (Int × Int)} {K : Value → AHeap → Prop}

theorem l01Before_ok {a b : Int × Int} (k : ∀ G, H.le G → K (.bool (decide (ltE a b))) G) : AC Tryz.prog T0 146 [.agg ⟨[.int .i64 a.1, .int .i64 a.2]⟩, .agg ⟨[.int .i64 b.1, .int .i64 b.2]⟩] H K := by
  apply F146.ac
  unfold F146.B2
  refine newK_f rfl fun H1 l1 n1 o1 => newK_f rfl fun H2 l2 n2 o2 => ?_
  have o1 := l2.2 _ _ o1
  have k := k _ (AHeap.le_trans l1 l2)
  unfold F146.B1
  refine ldI_own o1 rfl (ldI_own o2 rfl (pif_cases (fun h => ?_) fun h => ?_))
  · rw [decide_eq_true (show ltE a b from .inl (of_decide_eq_true h))] at k; exact k
  · have h := of_decide_eq_false h
    refine ldI_own o1 rfl (ldI_own o2 rfl (pif_cases (fun g => ?_) fun g => ?_))
    · refine ldI_own o1 rfl (ldI_own o2 rfl ?_)
      have g : a.1 = b.1 := by simpa using g
      have e : decide (a.2 < b.2) = decide (ltE a b) := by rw [decide_eq_decide]; unfold ltE; omega
      rw [e]; exact k
    · have g : a.1 ≠ b.1 := by simpa using g
      rw [decide_eq_false (by unfold ltE; omega)] at k; exact k

theorem l01Ends_ok {n : Int} (h : Edges H v es) (hl : es.length ≤ 1048576) (k : K (.int .i64 (if IsEd n es then 0 else 2)) H) : AC Tryz.prog T0 144 [.int .i64 n, v] H K := by
  apply F144.ac
  unfold F144.B10 F144.B9
  have no : ¬ IsEd n es → F144.B8 K H := by
    intro hno
    unfold F144.B8; rw [if_neg hno] at k; exact k
  refine l01In_ok (asB_mk (pif_cases (fun hs => ?_) fun hs => ?_))
  · rw [Bool.not_eq_true'] at hs
    exact no fun hd => of_decide_eq_false hs ⟨hd.lo, hd.hi⟩
  · rw [Bool.not_eq_false'] at hs
    obtain ⟨s1, s2⟩ := of_decide_eq_true hs
    refine pif_cases (fun hs => ?_) fun hs => ?_
    · exact no fun hd => by have := hd.even; rw [Int.tmod_eq_emod_of_nonneg (by omega)] at hs; simp [this] at hs
    · have s3 : n % 2 = 0 := by rw [Int.tmod_eq_emod_of_nonneg (by omega)] at hs; simpa using hs
      refine h.len ?_
      rw [wrap_id (x := 3 * n) (by omega) (by omega), show Int.tdiv (3 * n) 2 = 3 * n / 2 from Int.tdiv_eq_ediv_of_nonneg (by omega), wrap_id (by omega) (by omega)]
      refine pif_cases (fun hs => ?_) fun hs => ?_
      · exact no fun hd => by have := hd.len; simp [this] at hs
      · have hlen : (es.length : Int) = 3 * n / 2 := by simpa using hs
        unfold F144.B7 F144.L2
        refine ⟨fun x0 x1 x5 G => x0 = n ∧ x1 = v ∧ 0 ≤ x5 ∧ x5 ≤ es.length ∧ G = H ∧ ∀ i : Nat, (i : Int) < x5 → 0 ≤ (es.getD i (0, 0)).1 ∧ (es.getD i (0, 0)).1 ≤ n - 1 ∧ 0 ≤ (es.getD i (0, 0)).2 ∧ (es.getD i (0, 0)).2 ≤ n - 1 ∧ (es.getD i (0, 0)).1 ≠ (es.getD i (0, 0)).2,
          fun _ _ x5 _ => es.length - x5.toNat, ⟨rfl, rfl, by omega, by omega, rfl, fun i hi => absurd hi (by omega)⟩, ?_⟩
        rintro x0 x1 x5 G ⟨rfl, rfl, h0, h1, rfl, hp⟩
        unfold F144.B6
        refine h.len (pif_cases (fun hb => ?_) fun hb => ?_)
        · have hlt : x5 < es.length := of_decide_eq_true hb
          obtain ⟨i, rfl⟩ : ∃ i : Nat, x5 = i := ⟨x5.toNat, by omega⟩
          have hi : i < es.length := by omega
          have no : ¬ (0 ≤ (es.getD i (0, 0)).1 ∧ (es.getD i (0, 0)).1 ≤ x0 - 1 ∧ 0 ≤ (es.getD i (0, 0)).2 ∧ (es.getD i (0, 0)).2 ≤ x0 - 1 ∧ (es.getD i (0, 0)).1 ≠ (es.getD i (0, 0)).2) → ∀ N, F144.B4 K N G := by
            intro hno N
            unfold F144.B4
            rw [if_neg (fun hd => hno (by have := hd.ends _ (List.getElem_mem hi); rw [getD_of hi]; exact this))] at k; exact k
          unfold F144.B5
          obtain ⟨b, o, hk, c1, c2⟩ := h.idx h0 hlt
          simp only [Int.toNat_natCast] at c1 c2
          refine hk _ (ldI_mk c1 (l01In_ok (asB_mk ?_)))
          rw [wrap_id (by omega) (by omega)]
          refine pif_cases (fun hs => ?_) fun hs => ?_
          · rw [Bool.not_eq_true'] at hs
            exact no (fun hy => of_decide_eq_false hs ⟨hy.1, hy.2.1⟩) _
          · rw [Bool.not_eq_false'] at hs
            obtain ⟨t1, t2⟩ := of_decide_eq_true hs
            refine hk _ (ldI_mk c2 (l01In_ok (asB_mk (pif_cases (fun hs => ?_) fun hs => ?_))))
            · rw [Bool.not_eq_true'] at hs
              exact no (fun hy => of_decide_eq_false hs ⟨hy.2.2.1, hy.2.2.2.1⟩) _
            · rw [Bool.not_eq_false'] at hs
              obtain ⟨t3, t4⟩ := of_decide_eq_true hs
              refine hk _ (ldI_mk c1 (hk _ (ldI_mk c2 (pif_cases (fun hs => ?_) fun hs => ?_))))
              · exact no (fun hy => hy.2.2.2.2 (by simpa using hs)) _
              · unfold F144.B3
                rw [wrap_id (x := (i : Int) + 1) (by omega) (by omega)]
                refine ⟨⟨rfl, rfl, by omega, by omega, rfl, fun j hj => ?_⟩, by simp; omega⟩
                by_cases he : j = i
                · subst he; exact ⟨t1, t2, t3, t4, by simpa using hs⟩
                · exact hp j (by omega)
        · have hge : ¬ x5 < es.length := of_decide_eq_false hb
          unfold F144.B1
          rw [if_pos (⟨s1, s2, s3, hlen, fun e he => by
            obtain ⟨i, hi, rfl⟩ := List.getElem_of_mem he
            have := hp i (by omega)
            rwa [getD_of hi] at this⟩ : IsEd x0 es)] at k
          exact k

theorem l01Cubic_ok {n : Int} (h : Edges H v es) (hd : IsEd n es) (k : ∀ G, H.le G → K (.bool (decide (Cub n es))) G) : AC Tryz.prog T0 145 [.int .i64 n, v] H K := by
  have := hd.lo; have := hd.hi; have hlen := hd.len
  apply F145.ac
  unfold F145.B15 F145.B14
  refine mkR_int (by omega) (by omega) (by decide) fun H1 l1 n1 o1 => ?_
  unfold F145.B13 F145.L8
  rw [rep_one] at o1
  refine ⟨fun x0 x1 x5 x6 G => x0 = n ∧ x1 = v ∧ x5 = .slice (some ⟨H.length, 0, none⟩) n.toNat (n.toNat + 1) ∧ 0 ≤ x6 ∧ x6 ≤ es.length ∧ H.le G ∧ Own G H.length 2 (LI (counts n (es.take x6.toNat))), fun _ _ _ x6 _ => es.length - x6.toNat, ⟨rfl, rfl, rfl, by omega, by omega, l1, by simpa [counts] using o1⟩, ?_⟩
  rintro x0 x1 x5 x6 G ⟨rfl, rfl, rfl, h0, h1, hG, ho⟩
  unfold F145.B12
  refine h.len (pif_cases (fun hb => ?_) fun hb => ?_)
  · have hlt : x6 < es.length := of_decide_eq_true hb
    obtain ⟨i, rfl⟩ : ∃ i : Nat, x6 = i := ⟨x6.toNat, by omega⟩
    have hi : i < es.length := by omega
    unfold F145.B11
    obtain ⟨b, o, hk, c1, c2⟩ := (h.le hG).idx h0 hlt
    obtain ⟨e1, e2, e3, e4, _⟩ := hd.ends es[i] (List.getElem_mem hi)
    simp only [Int.toNat_natCast, getD_of hi] at c1 c2 ho
    have cl : (counts x0 (es.take i)).length = x0.toNat := counts_length _ _
    have cb : ∀ c ∈ counts x0 (es.take i), 0 ≤ c ∧ c ≤ 1000 := fun c hc => by have := counts_le _ _ c hc; simp at this; omega
    have hs : ∀ cs : List Int, cs.length = x0.toNat → (.slice (some ⟨H.length, 0, none⟩) x0.toNat (x0.toNat + 1) : Value) = .slice (some ⟨H.length, 0, none⟩) cs.length (cs.length + 1) := fun cs h => by rw [h]
    refine hk _ (ldI_mk c1 ?_)
    rw [hs _ cl]
    refine bump_at ho e1 (by omega) (fun c hc => by have := cb c hc; omega) fun H4 b4 o4 => ?_
    rw [← hs _ cl]
    unfold F145.B10
    have l4 := b4.le hG (Nat.le_refl _)
    obtain ⟨b', o', hk', c1', c2'⟩ := (h.le l4).idx h0 hlt
    simp only [Int.toNat_natCast, getD_of hi] at c1' c2'
    refine hk' _ (ldI_mk c2' ?_)
    rw [hs _ ((bump1_length _ _).trans cl)]
    refine bump_at o4 e3 (by rw [bump1_length]; omega) (fun c hc => by have := bump1_le cb _ c hc; omega) fun H5 b5 o5 => ?_
    rw [← hs _ ((bump1_length _ _).trans cl)]
    unfold F145.B9
    rw [wrap_id (by omega) (by omega)]
    refine ⟨⟨rfl, rfl, rfl, by omega, by omega, b5.le l4 (Nat.le_refl _), ?_⟩, by simp; omega⟩
    rw [show ((i : Int) + 1).toNat = i + 1 by omega, counts_take x0 es hi]
    exact o5
  · have hge : ¬ x6 < es.length := of_decide_eq_false hb
    have : x6 = es.length := by omega
    subst this
    simp only [Int.toNat_natCast, List.take_length] at ho
    have cl : (counts x0 es).length = x0.toNat := counts_length _ _
    have hi := own_ints (c := x0.toNat + 1) ho
    rw [cl] at hi
    unfold F145.B7 F145.L2
    refine ⟨fun y0 y5 y7 G' => y0 = x0 ∧ y5 = .slice (some ⟨H.length, 0, none⟩) x0.toNat (x0.toNat + 1) ∧ 0 ≤ y7 ∧ y7 ≤ x0 ∧ G' = G ∧ ∀ i : Nat, (i : Int) < y7 → (counts x0 es).getD i 0 = 3, fun _ _ y7 _ => (x0 - y7).toNat, ⟨rfl, rfl, by omega, by omega, rfl, fun i hi => absurd hi (by omega)⟩, ?_⟩
    rintro y0 y5 y7 G' ⟨rfl, rfl, g0, g1, rfl, hp⟩
    unfold F145.B6
    have k := k _ hG
    refine pif_cases (fun hb => ?_) fun hb => ?_
    · have hlt : y7 < y0 := of_decide_eq_true hb
      obtain ⟨i, rfl⟩ : ∃ i : Nat, y7 = i := ⟨y7.toNat, by omega⟩
      unfold F145.B5
      refine hi.rd g0 (by omega) ?_
      simp only [Int.toNat_natCast]
      refine pif_cases (fun hs => ?_) fun hs => ?_
      · unfold F145.B4
        have hil : i < (counts y0 es).length := by omega
        rw [getD_of hil] at hs
        rw [decide_eq_false (fun hc : Cub y0 es => by have := hc _ (List.getElem_mem hil); simp [this] at hs)] at k; exact k
      · unfold F145.B3
        rw [wrap_id (by omega) (by omega)]
        refine ⟨⟨rfl, rfl, by omega, by omega, rfl, fun j hj => ?_⟩, show (y0 - ((i : Int) + 1)).toNat < (y0 - (i : Int)).toNat by omega⟩
        by_cases he : j = i
        · subst he; exact bne_eq_false_iff_eq.1 hs
        · exact hp j (by omega)
    · have hge : ¬ y7 < y0 := of_decide_eq_false hb
      unfold F145.B1
      rw [decide_eq_true (show Cub y0 es from fun c hc => by
        obtain ⟨i, hi, rfl⟩ := List.getElem_of_mem hc
        have := hp i (by omega)
        rwa [getD_of hi] at this)] at k
      exact k

theorem l01Is_ok {n : Int} (h : Edges H v es) (hl : es.length ≤ 1048576) (k : ∀ G, H.le G → K (.bool (decide (IsG n es))) G) : AC Tryz.prog T0 75 [.agg ⟨[.int .i64 n, v]⟩] H K := by
  apply F75.ac
  unfold F75.B10
  refine newK_f (all_iv (edges_one' h)) fun H1 l1 n1 o1 => ?_
  unfold F75.B9
  refine ldI_own o1 rfl (ld1_own o1 rfl (l01Ends_ok (h.le l1) hl (asI_mk ?_)))
  refine pif_cases (fun hb => ?_) fun hb => ?_
  · unfold F75.B8
    have k := k _ l1
    rw [decide_eq_false (fun hg => by rw [if_pos hg.ed] at hb; simp at hb)] at k; exact k
  · have hd : IsEd n es := by
      by_cases hd : IsEd n es
      · exact hd
      · rw [if_neg hd] at hb; simp at hb
    refine ldI_own o1 rfl (ld1_own o1 rfl (l01Cubic_ok (h.le l1) hd fun H2 l2 => asB_mk ?_))
    have l12 := AHeap.le_trans l1 l2
    have o2 := l2.2 _ _ o1
    refine pif_cases (fun hb => ?_) fun hb => ?_
    · unfold F75.B8
      rw [Bool.not_eq_true'] at hb
      have k := k _ l12
      rw [decide_eq_false (fun hg => of_decide_eq_false hb hg.cub)] at k; exact k
    · rw [Bool.not_eq_false'] at hb
      have hc : Cub n es := of_decide_eq_true hb
      unfold F75.B7 F75.L2
      refine ⟨fun x1 x3 G => x1 = H.length ∧ 0 ≤ x3 ∧ x3 ≤ es.length ∧ H.le G ∧ Own G H.length 26 [.int .i64 n, v] ∧ ∀ i : Nat, (i : Int) < x3 → ¬ (es.getD i (0, 0)).1 > (es.getD i (0, 0)).2 ∧ (0 < i → ¬ ltE (es.getD i (0, 0)) (es.getD (i - 1) (0, 0))),
        fun _ x3 _ => es.length - x3.toNat, ⟨rfl, by omega, by omega, l12, o2, fun i hi => absurd hi (by omega)⟩, ?_⟩
      rintro x1 x3 G ⟨rfl, h0, h1, hG, ho, hp⟩
      unfold F75.B6
      refine ld1_own ho rfl ((h.le hG).len (pif_cases (fun hb => ?_) fun hb => ?_))
      · have hlt : x3 < es.length := of_decide_eq_true hb
        obtain ⟨i, rfl⟩ : ∃ i : Nat, x3 = i := ⟨x3.toNat, by omega⟩
        have hi : i < es.length := by omega
        have no : ∀ G, H.le G → ¬ (¬ (es.getD i (0, 0)).1 > (es.getD i (0, 0)).2 ∧ (0 < i → ¬ ltE (es.getD i (0, 0)) (es.getD (i - 1) (0, 0)))) → ∀ N, F75.B4 K N G := by
          intro G hG hno N
          unfold F75.B4
          have k := k _ hG
          rw [decide_eq_false (fun hg : IsG n es => hno ⟨by have := hg.up _ (List.getElem_mem hi); rw [getD_of hi]; omega, fun hi0 => by
            have := hg.srt (i - 1) (by omega)
            rwa [show i - 1 + 1 = i by omega] at this⟩)] at k; exact k
        have yes : (¬ (es.getD i (0, 0)).1 > (es.getD i (0, 0)).2 ∧ (0 < i → ¬ ltE (es.getD i (0, 0)) (es.getD (i - 1) (0, 0)))) → ∀ j : Nat, (j : Int) < (i : Int) + 1 → ¬ (es.getD j (0, 0)).1 > (es.getD j (0, 0)).2 ∧ (0 < j → ¬ ltE (es.getD j (0, 0)) (es.getD (j - 1) (0, 0))) := by
          intro hy j hj
          by_cases he : j = i
          · subst he; exact hy
          · exact hp j (by omega)
        unfold F75.B5
        obtain ⟨b, o, hk, c1, c2⟩ := (h.le hG).idx h0 hlt
        simp only [Int.toNat_natCast] at c1 c2
        refine ld1_own ho rfl (hk _ (ldI_mk c1 (ld1_own ho rfl (hk _ (ldI_mk c2 (pif_cases (fun hs => ?_) fun hs => ?_))))))
        · exact no _ hG (fun hy => hy.1 (of_decide_eq_true hs)) _
        · have hs := of_decide_eq_false hs
          refine pif_cases (fun ht => ?_) fun ht => ?_
          · have hi0 : 0 < i := by have := of_decide_eq_true ht; omega
            rw [wrap_id (by omega) (by omega)]
            obtain ⟨b', o', hk', c1', c2'⟩ := (h.le hG).idx (show (0 : Int) ≤ (i : Int) - 1 by omega) (by omega)
            rw [show ((i : Int) - 1).toNat = i - 1 by omega] at c1' c2'
            refine ld1_own ho rfl (hk _ (ldI_mk c1 (ldI_mk c2 (ld1_own ho rfl (hk' _ (ldI_mk c1' (ldI_mk c2' (l01Before_ok fun G2 hG2 => asB_mk (pif_cases (fun hb => ?_) fun hb => ?_)))))))))
            · exact no _ (AHeap.le_trans hG hG2) (fun hy => hy.2 hi0 (of_decide_eq_true hb)) _
            · unfold F75.B3
              rw [wrap_id (by omega) (by omega)]
              exact ⟨⟨rfl, by omega, by omega, AHeap.le_trans hG hG2, hG2.2 _ _ ho, yes ⟨hs, fun _ => of_decide_eq_false hb⟩⟩, by simp; omega⟩
          · have := of_decide_eq_false ht
            unfold F75.B3
            rw [wrap_id (by omega) (by omega)]
            exact ⟨⟨rfl, by omega, by omega, hG, ho, yes ⟨hs, fun h => by omega⟩⟩, by simp; omega⟩
      · have hge : ¬ x3 < es.length := of_decide_eq_false hb
        unfold F75.B1
        have k := k _ hG
        rw [decide_eq_true (⟨hd, fun e he => by
          obtain ⟨i, hi, rfl⟩ := List.getElem_of_mem he
          have h1 := (hp i (by omega)).1
          have h2 := (hd.ends _ (List.getElem_mem hi)).2.2.2.2
          rw [getD_of hi] at h1; omega, fun i hi => by have := (hp (i + 1) (by omega)).2 (by omega); simpa using this, hc⟩ : IsG n es)] at k
        exact k

theorem l03Set_ok {n : Int} (h : Ints H v l) (hl : l.length ≤ 4611686018427387904) (hn : -1000000000000 ≤ n) (hn2 : n ≤ 4611686018427387904) (k : K (.int .i64 (if IsS l n then 0 else 2)) H) : AC Tryz.prog T0 100 [v, .int .i64 n] H K := by
  apply F100.ac
  unfold F100.B8 F100.B7 F100.L2
  refine ⟨fun x0 x1 x9 G => x0 = v ∧ x1 = n ∧ 0 ≤ x9 ∧ x9 ≤ l.length ∧ G = H ∧ ∀ i : Nat, (i : Int) < x9 → 0 ≤ l.getD i 0 ∧ l.getD i 0 ≤ n - 1 ∧ (0 < i → l.getD (i - 1) 0 < l.getD i 0), fun _ _ x9 _ => l.length - x9.toNat, ⟨rfl, rfl, by omega, by omega, rfl, fun i hi => absurd hi (by omega)⟩, ?_⟩
  rintro x0 x1 x9 G ⟨rfl, rfl, h0, h1, rfl, hp⟩
  unfold F100.B6
  refine h.len (pif_cases (fun hb => ?_) fun hb => ?_)
  · have hlt : x9 < l.length := of_decide_eq_true hb
    obtain ⟨i, rfl⟩ : ∃ i : Nat, x9 = i := ⟨x9.toNat, by omega⟩
    have hi : i < l.length := by omega
    unfold F100.B5
    refine h.rd h0 hlt ?_
    simp only [Int.toNat_natCast]
    refine l01In_ok (asB_mk ?_)
    rw [wrap_id (by omega) (by omega)]
    have no : ¬ (0 ≤ l.getD i 0 ∧ l.getD i 0 ≤ x1 - 1 ∧ (0 < i → l.getD (i - 1) 0 < l.getD i 0)) → ∀ N, F100.B4 K N G := by
      intro hno N
      unfold F100.B4
      rw [if_neg (fun hs : IsS l x1 => hno (hs i hi))] at k; exact k
    have yes : (0 ≤ l.getD i 0 ∧ l.getD i 0 ≤ x1 - 1 ∧ (0 < i → l.getD (i - 1) 0 < l.getD i 0)) → ∀ j : Nat, (j : Int) < (i : Int) + 1 → 0 ≤ l.getD j 0 ∧ l.getD j 0 ≤ x1 - 1 ∧ (0 < j → l.getD (j - 1) 0 < l.getD j 0) := by
      intro hy j hj
      by_cases he : j = i
      · subst he; exact hy
      · exact hp j (by omega)
    refine pif_cases (fun hb => ?_) fun hb => ?_
    · rw [Bool.not_eq_true'] at hb
      exact no (fun hy => of_decide_eq_false hb ⟨hy.1, hy.2.1⟩) _
    · rw [Bool.not_eq_false'] at hb
      have hb := of_decide_eq_true hb
      refine pif_cases (fun hc => ?_) fun hc => ?_
      · have hi0 : 0 < i := by have := of_decide_eq_true hc; omega
        rw [wrap_id (x := (i : Int) - 1) (by omega) (by omega)]
        refine h.rd h0 hlt (h.rd (by omega) (by omega) ?_)
        rw [show ((i : Int) - 1).toNat = i - 1 by omega]
        simp only [Int.toNat_natCast]
        refine pif_cases (fun hd => ?_) fun hd => ?_
        · have := of_decide_eq_true hd
          exact no (fun hy => by have := hy.2.2 hi0; omega) _
        · have := of_decide_eq_false hd
          unfold F100.B3
          rw [wrap_id (by omega) (by omega)]
          exact ⟨⟨rfl, rfl, by omega, by omega, rfl, yes ⟨hb.1, hb.2, fun _ => by omega⟩⟩, by simp; omega⟩
      · have := of_decide_eq_false hc
        unfold F100.B3
        rw [wrap_id (by omega) (by omega)]
        exact ⟨⟨rfl, rfl, by omega, by omega, rfl, yes ⟨hb.1, hb.2, fun h => by omega⟩⟩, by simp; omega⟩
  · have hge : ¬ x9 < l.length := of_decide_eq_false hb
    unfold F100.B1
    rw [if_pos (show IsS l x1 from fun i hi => hp i (by omega))] at k; exact k

theorem l03Edges_ok {n : Int} (h : Edges H v es) (hl : es.length ≤ 1048576) (g : Ints H u l) (gl : l.length ≤ 1048576) (k : ∀ G, H.le G → K (.int .i64 (if IsG n es then (if IsS l es.length then 0 else 2) else 1)) G) :
    AC Tryz.prog T0 104 [.agg ⟨[.int .i64 n, v]⟩, u] H K := by
  apply F104.ac
  unfold F104.B4
  refine newK_f (all_iv (edges_one' h)) fun H1 l1 n1 o1 => ?_
  unfold F104.B3
  refine ldI_own o1 rfl (ld1_own o1 rfl (l01Is_ok (h.le l1) hl fun H2 l2 => asB_mk ?_))
  have k := k _ (AHeap.le_trans l1 l2)
  refine pif_cases (fun hb => ?_) fun hb => ?_
  · unfold F104.B2
    rw [Bool.not_eq_true'] at hb
    rw [if_neg (of_decide_eq_false hb)] at k; exact k
  · rw [Bool.not_eq_false'] at hb
    rw [if_pos (of_decide_eq_true hb)] at k
    unfold F104.B1
    exact ld1_own (l2.2 _ _ o1) rfl ((h.le (AHeap.le_trans l1 l2)).len (l03Set_ok (g.le (AHeap.le_trans l1 l2)) (by omega) (by omega) (by omega) (asI_mk k)))
end Go.Proofs
/- Plain mathematics: sets of numbers as bits. -/
set_option linter.unusedVariables false
set_option linter.unusedSimpArgs false
namespace Go.Proofs
open Go.Abs

def setN (l : List Int) : Nat := l.foldl (fun s i => s ||| 2 ^ i.toNat) 0
def bitsTo (s i : Nat) : List Int := ((List.range i).filter (fun j => s.testBit j)).map Int.ofNat
def bitsL (s : Nat) : List Int := bitsTo s 64

theorem u64_nat {x : Nat} (h : x < 2 ^ 64) : IntKind.u64.wrap ((x : Nat) : Int) = x := by
  rw [IntKind.wrap_u64]; omega
theorem bv_nat (s : Nat) : BitVec.ofInt 64 (s : Int) = BitVec.ofNat 64 s := by
  simp
theorem or_lt {s t : Nat} (h : s < 2 ^ 64) (g : t < 2 ^ 64) : s ||| t < 2 ^ 64 := Nat.or_lt_two_pow h g
theorem bits_or {s t : Nat} (h : s < 2 ^ 64) (g : t < 2 ^ 64) : IntKind.u64.wrap ((BitVec.ofInt 64 (s : Int) ||| BitVec.ofInt 64 (t : Int)).toNat : Int) = ((s ||| t : Nat) : Int) := by
  rw [bv_nat, bv_nat, BitVec.toNat_or, BitVec.toNat_ofNat, BitVec.toNat_ofNat, Nat.mod_eq_of_lt h, Nat.mod_eq_of_lt g, u64_nat (or_lt h g)]
theorem bits_and {s t : Nat} (h : s < 2 ^ 64) (g : t < 2 ^ 64) : IntKind.u64.wrap ((BitVec.ofInt 64 (s : Int) &&& BitVec.ofInt 64 (t : Int)).toNat : Int) = ((s &&& t : Nat) : Int) := by
  have : s &&& t < 2 ^ 64 := Nat.lt_of_le_of_lt Nat.and_le_left h
  rw [bv_nat, bv_nat, BitVec.toNat_and, BitVec.toNat_ofNat, BitVec.toNat_ofNat, Nat.mod_eq_of_lt h, Nat.mod_eq_of_lt g, u64_nat this]
theorem one_shl {i : Int} (h0 : 0 ≤ i) (h : i < 64) : IntKind.u64.wrap (1 * 2 ^ (min i.toNat 64)) = ((2 ^ i.toNat : Nat) : Int) := by
  rw [Int.one_mul, show min i.toNat 64 = i.toNat by omega]
  have : (2 : Nat) ^ i.toNat < 2 ^ 64 := Nat.pow_lt_pow_right (by decide) (by omega)
  rw [← u64_nat this]; simp
theorem shr_nat (s : Nat) (i : Nat) : Int.fdiv (s : Int) (2 ^ i) = ((s / 2 ^ i : Nat) : Int) := by
  rw [Int.fdiv_eq_ediv_of_nonneg _ (by exact Int.le_of_lt (Int.pow_pos (by decide)))]
  simp
theorem testBit_big {s : Nat} (h : s < 2 ^ 64) {i : Nat} (hi : 64 ≤ i) : s.testBit i = false :=
  Nat.testBit_lt_two_pow (Nat.lt_of_lt_of_le h (Nat.pow_le_pow_right (by decide) hi))
theorem has_bit {s : Nat} (h : s < 2 ^ 64) {i : Int} (h0 : 0 ≤ i) : ((IntKind.u64.wrap ((BitVec.ofInt 64 (Int.fdiv (s : Int) (2 ^ (min i.toNat 64))) &&& BitVec.ofInt 64 1).toNat : Int) : Int) == 1) = s.testBit i.toNat := by
  have hd : s / 2 ^ (min i.toNat 64) < 2 ^ 64 := Nat.lt_of_le_of_lt (Nat.div_le_self _ _) h
  rw [shr_nat, show (1 : Int) = ((1 : Nat) : Int) from rfl, bits_and hd (by decide), Nat.and_one_is_mod]
  by_cases hi : i.toNat < 64
  · rw [show min i.toNat 64 = i.toNat by omega, Nat.testBit_eq_decide_div_mod_eq]
    have : s / 2 ^ i.toNat % 2 = 0 ∨ s / 2 ^ i.toNat % 2 = 1 := by omega
    rcases this with e | e <;> simp [e]
  · rw [testBit_big h (by omega), show min i.toNat 64 = 64 by omega, Nat.div_eq_of_lt h]; rfl

theorem setN_foldl_lt : ∀ (l : List Int) (s : Nat), (∀ x ∈ l, x < 64) → s < 2 ^ 64 → l.foldl (fun s i => s ||| 2 ^ i.toNat) s < 2 ^ 64
  | [], s, _, h => h
  | x :: l, s, hx, h => setN_foldl_lt l _ (fun y hy => hx y (by simp [hy])) (or_lt h (Nat.pow_lt_pow_right (by decide) (by have := hx x (by simp); omega)))
theorem setN_lt {l : List Int} (h : ∀ x ∈ l, x < 64) : setN l < 2 ^ 64 := setN_foldl_lt l 0 h (by decide)
theorem setN_take {l : List Int} {i : Nat} (h : i < l.length) : setN (l.take (i + 1)) = setN (l.take i) ||| 2 ^ (l[i]).toNat := by
  unfold setN; rw [List.take_succ_eq_append_getElem h, List.foldl_append]; rfl
theorem setN_foldl_bit : ∀ (l : List Int) (s i : Nat), (∀ x ∈ l, 0 ≤ x) → ((l.foldl (fun s i => s ||| 2 ^ i.toNat) s).testBit i = true ↔ s.testBit i = true ∨ (i : Int) ∈ l)
  | [], s, i, _ => by simp
  | x :: l, s, i, h => by
    rw [List.foldl_cons, setN_foldl_bit l _ i fun y hy => h y (by simp [hy]), Nat.testBit_or, Nat.testBit_two_pow]
    have := h x (by simp)
    simp only [Bool.or_eq_true, decide_eq_true_eq, List.mem_cons]
    constructor
    · rintro ((h | h) | h)
      · exact .inl h
      · exact .inr (.inl (by omega))
      · exact .inr (.inr h)
    · rintro (h | h | h)
      · exact .inl (.inl h)
      · exact .inl (.inr (by omega))
      · exact .inr h
theorem setN_bit {l : List Int} (h : ∀ x ∈ l, 0 ≤ x) (i : Nat) : (setN l).testBit i = decide ((i : Int) ∈ l) := by
  rw [Bool.eq_iff_iff, setN, setN_foldl_bit l 0 i h]; simp
theorem bitsTo_succ (s i : Nat) : bitsTo s (i + 1) = bitsTo s i ++ (if s.testBit i then [(i : Int)] else []) := by
  unfold bitsTo
  rw [List.range_succ, List.filter_append, List.map_append]
  congr 1
  by_cases h : s.testBit i <;> simp [h]
theorem bitsTo_end {s i : Nat} (h : s / 2 ^ i = 0) : ∀ k, bitsTo s (i + k) = bitsTo s i
  | 0 => rfl
  | k + 1 => by
    rw [← Nat.add_assoc, bitsTo_succ, bitsTo_end h k]
    have hs : s < 2 ^ i := by
      have := Nat.div_add_mod s (2 ^ i); rw [h] at this
      have := Nat.mod_lt s (Nat.two_pow_pos i); omega
    have : s.testBit (i + k) = false := Nat.testBit_lt_two_pow (Nat.lt_of_lt_of_le hs (Nat.pow_le_pow_right (by decide) (by omega)))
    simp [this]
theorem bitsTo_length (s i : Nat) : (bitsTo s i).length ≤ i := by
  unfold bitsTo; rw [List.length_map]
  exact Nat.le_trans (List.length_filter_le _ _) (by simp)
theorem IsS.range {l : List Int} {n : Int} (h : IsS l n) : ∀ x ∈ l, 0 ≤ x ∧ x < n := by
  intro x hx
  obtain ⟨i, hi, rfl⟩ := List.getElem_of_mem hx
  have := h i hi
  rw [getD_of hi] at this; omega
end Go.Proofs
/- Contracts: sets as bits, sums of sets. -/
set_option linter.unusedVariables false
set_option linter.unusedSimpArgs false
set_option maxRecDepth 100000
namespace Go.Proofs
open Go.Abs

variable {H : AHeap} {v u f : Value} {l m : List Int} {es fs : List (Int × Int)} {K : Value → AHeap → Prop}

noncomputable def tiInt : TI := (T0 2).getD ⟨.bool, 0, 0, undef⟩
theorem T0_int : T0 2 = some tiInt ∧ tiInt.size = 1 ∧ tiInt.bytes = 8 ∧ tiInt.fine = true := ⟨by kernel_rfl, by kernel_rfl, by kernel_rfl, by kernel_rfl⟩
theorem push_int {H0 : AHeap} {x : Int} (hF : Fresh H0.length H v 2 1 (LI l)) (h0 : H0.le H) (hs : l.length < 4294967296)
    (k : ∀ v' G, H0.le G → Fresh H0.length G v' 2 1 (LI (l ++ [x])) → (∀ b o, H[b]? = some (some o) → (∀ c n, v ≠ .slice (some ⟨b, c, none⟩) n (n + 1)) → G[b]? = some (some o)) → K v' G) :
    newK H [Value.int .i64 x] 2 (fun b1 H2 => apK T0 2 H2 v (Value.slice (some ⟨b1, 0, none⟩) 1 (1 + 1)) K) := by
  refine newK_f rfl fun H2 l2 n2 o2 => ?_
  obtain ⟨t1, t2, t3, t4⟩ := T0_int
  have hF2 := hF.le l2
  rw [← t2] at hF2
  refine Fresh.push (n := 1) (ys := [.int .i64 x]) t1 (by omega) (by omega) t4 hF2 (AHeap.le_trans h0 l2) ?_ (by decide) (by simp; omega) ?_
  · rw [t2]; exact cellsAt_row o2 (by simp)
  · intro v' G hG hf hk
    rw [t2] at hf
    exact k v' G hG (by simpa using hf) fun b o hb hne => hk b o (l2.2 _ _ hb) hne

theorem setOf_ok (h : Ints H v l) (hl : l.length ≤ 4611686018427387904) (hr : ∀ x ∈ l, 0 ≤ x ∧ x < 64) (k : K (.int .u64 (setN l : Nat)) H) : AC Tryz.prog T0 89 [v] H K := by
  apply F89.ac
  unfold F89.B9 F89.B8 F89.B7
  refine h.len ?_
  unfold F89.L2
  refine ⟨fun x3 x6 x7 x8 G => x3 = (setN (l.take x8.toNat) : Nat) ∧ x6 = v ∧ x7 = l.length ∧ 0 ≤ x8 ∧ x8 ≤ l.length ∧ G = H, fun _ _ _ x8 _ => l.length - x8.toNat, ⟨rfl, rfl, rfl, by omega, by omega, rfl⟩, ?_⟩
  rintro x3 x6 x7 x8 G ⟨rfl, rfl, rfl, h0, h1, rfl⟩
  unfold F89.B6
  refine pif_cases (fun hb => ?_) fun hb => ?_
  · have hlt : x8 < l.length := of_decide_eq_true hb
    obtain ⟨i, rfl⟩ : ∃ i : Nat, x8 = i := ⟨x8.toNat, by omega⟩
    have hi : i < l.length := by omega
    unfold F89.B5
    refine h.rd h0 hlt ?_
    simp only [Int.toNat_natCast, getD_of hi]
    have hx := hr l[i] (List.getElem_mem hi)
    unfold F89.B4
    refine ⟨hx.1, ?_⟩
    unfold F89.B3
    have hp : 2 ^ (l[i]).toNat < 2 ^ 64 := Nat.pow_lt_pow_right (by decide) (by omega)
    rw [wrap_id (x := (i : Int) + 1) (by omega) (by omega), one_shl hx.1 hx.2, bits_or (setN_lt fun x hx => (hr x (List.mem_of_mem_take hx)).2) hp]
    refine ⟨⟨?_, rfl, rfl, by omega, by omega, rfl⟩, by simp; omega⟩
    rw [show ((i : Int) + 1).toNat = i + 1 by omega, setN_take hi]
  · have hge : ¬ x8 < l.length := of_decide_eq_false hb
    have : x8 = l.length := by omega
    subst this
    unfold F89.B1
    simpa using k

theorem has_ok {s : Nat} {i : Int} (hs : s < 2 ^ 64) (h0 : 0 ≤ i) (k : K (.bool (s.testBit i.toNat)) H) : AC Tryz.prog T0 134 [.int .u64 (s : Nat), .int .i64 i] H K := by
  apply F134.ac
  unfold F134.B2 F134.B1
  refine ⟨h0, ?_⟩
  rw [has_bit hs h0]; exact k

theorem list_ok {s : Nat} (hs : s < 2 ^ 64) (k : ∀ v' G, H.le G → Fresh H.length G v' 2 1 (LI (bitsL s)) → K v' G) : AC Tryz.prog T0 81 [.int .u64 (s : Nat)] H K := by
  apply F81.ac
  unfold F81.B9 F81.B8 F81.B7 F81.L2
  refine ⟨fun x0 x3 x4 G => x0 = (s : Nat) ∧ 0 ≤ x4 ∧ x4 ≤ 64 ∧ H.le G ∧ Fresh H.length G x3 2 1 (LI (bitsTo s x4.toNat)), fun _ _ x4 _ => 64 - x4.toNat, ⟨rfl, by omega, by omega, AHeap.le_refl _, .inl ⟨rfl, .inl rfl⟩⟩, ?_⟩
  rintro x0 x3 x4 G ⟨rfl, h0, h1, hG, hF⟩
  obtain ⟨i, rfl⟩ : ∃ i : Nat, x4 = i := ⟨x4.toNat, by omega⟩
  simp only [Int.toNat_natCast] at hF
  unfold F81.B6
  refine ⟨h0, ?_⟩
  rw [shr_nat, show min (Int.toNat (i : Int)) 64 = i by simp; omega]
  refine pif_cases (fun hb => ?_) fun hb => ?_
  · have hi : i < 64 := by
      rcases Nat.lt_or_ge i 64 with h | h
      · exact h
      · have : i = 64 := by omega
        subst this
        rw [Nat.div_eq_of_lt hs] at hb; simp at hb
    unfold F81.B5
    refine has_ok hs h0 (asB_mk (pif_cases (fun hb => ?_) fun hb => ?_))
    · unfold F81.B4
      refine push_int hF hG (by have := bitsTo_length s i; omega) fun v' G2 hG2 hF2 _ => ?_
      unfold F81.B3
      rw [wrap_id (by omega) (by omega)]
      refine ⟨⟨rfl, by omega, by omega, hG2, ?_⟩, by simp; omega⟩
      rw [show ((i : Int) + 1).toNat = i + 1 by omega, bitsTo_succ, if_pos (by simpa using hb)]; exact hF2
    · unfold F81.B3
      rw [wrap_id (by omega) (by omega)]
      refine ⟨⟨rfl, by omega, by omega, hG, ?_⟩, by simp; omega⟩
      rw [show ((i : Int) + 1).toNat = i + 1 by omega, bitsTo_succ, if_neg (by simpa using hb), List.append_nil]; exact hF
  · have hz : s / 2 ^ i = 0 := Int.natCast_eq_zero.1 (bne_eq_false_iff_eq.1 hb)
    unfold F81.B1
    refine k _ _ hG ?_
    have e := bitsTo_end hz (64 - i)
    rw [show i + (64 - i) = 64 by omega] at e
    unfold bitsL
    rw [e]; exact hF
end Go.Proofs
/- Plain mathematics: edges at vertices, colourings, matchings. -/
set_option linter.unusedVariables false
set_option linter.unusedSimpArgs false
namespace Go.Proofs
open Go.Abs

def on (e : Int × Int) (v : Int) : Bool := e.1 == v || e.2 == v
/-- The edges at a vertex, as numbers, among the first k. -/
def atTo (es : List (Int × Int)) (v : Int) (k : Nat) : List Int := ((List.range k).filter (fun i => on (es.getD i (0, 0)) v)).map Int.ofNat
def atL (es : List (Int × Int)) (v : Int) : List Int := atTo es v es.length
theorem atTo_succ (es : List (Int × Int)) (v : Int) (k : Nat) : atTo es v (k + 1) = atTo es v k ++ (if on (es.getD k (0, 0)) v then [(k : Int)] else []) := by
  unfold atTo
  rw [List.range_succ, List.filter_append, List.map_append]
  congr 1
  cases h : on (es.getD k (0, 0)) v <;> simp only [List.filter_cons, h, List.filter_nil] <;> rfl
theorem atTo_length (es : List (Int × Int)) (v : Int) (k : Nat) : (atTo es v k).length ≤ k := by
  unfold atTo; rw [List.length_map]
  exact Nat.le_trans (List.length_filter_le _ _) (by simp)
theorem mem_atL {es : List (Int × Int)} {v : Int} {x : Int} : x ∈ atL es v ↔ ∃ i : Nat, x = i ∧ i < es.length ∧ on (es.getD i (0, 0)) v = true := by
  unfold atL atTo
  rw [List.mem_map]
  constructor
  · rintro ⟨i, hi, rfl⟩
    rw [List.mem_filter, List.mem_range] at hi
    exact ⟨i, rfl, hi⟩
  · rintro ⟨i, rfl, h1, h2⟩
    exact ⟨i, by rw [List.mem_filter, List.mem_range]; exact ⟨h1, h2⟩, rfl⟩

theorem bump1_get (cs : List Int) (v : Int) {i : Nat} (hi : i < cs.length) (hv : 0 ≤ v) : (bump1 cs v).getD i 0 = cs.getD i 0 + if v = i then 1 else 0 := by
  unfold bump1
  simp only [List.getD, List.getElem?_set]
  by_cases h : v = i
  · subst h; simp [hi]
  · have : v.toNat ≠ i := by omega
    simp [this, h]
theorem counts_at {n : Int} {es : List (Int × Int)} (hd : IsEd n es) {v : Nat} (hv : (v : Int) < n) : ∀ k, k ≤ es.length → (counts n (es.take k)).getD v 0 = ((atTo es v k).length : Int) := by
  intro k
  induction k with
  | zero =>
    intro _
    have : v < n.toNat := by omega
    simp [counts, atTo, this]
  | succ k ih =>
    intro hk
    have hk' : k < es.length := by omega
    obtain ⟨e1, e2, e3, e4, e5⟩ := hd.ends es[k] (List.getElem_mem hk')
    have hl : v < (counts n (es.take k)).length := by rw [counts_length]; omega
    rw [counts_take n es hk', bump, bump1_get _ _ (by rw [bump1_length]; exact hl) e3, bump1_get _ _ hl e1, ih (by omega), atTo_succ, List.length_append, getD_of hk']
    unfold on
    by_cases h1 : es[k].1 = v
    · have h2 : es[k].2 ≠ v := by omega
      simp [h1, h2]
    · by_cases h2 : es[k].2 = v <;> simp [h1, h2]
theorem IsG.three {n : Int} {es : List (Int × Int)} (hg : IsG n es) {v : Int} (h0 : 0 ≤ v) (h1 : v < n) : (atL es v).length = 3 := by
  obtain ⟨k, rfl⟩ : ∃ k : Nat, v = k := ⟨v.toNat, by omega⟩
  have := counts_at hg.ed h1 es.length (Nat.le_refl _)
  rw [List.take_length] at this
  have hl : k < (counts n es).length := by rw [counts_length]; omega
  rw [getD_of hl, hg.cub _ (List.getElem_mem hl)] at this
  unfold atL; omega

def share (a b : Int × Int) : Prop := ∃ v, on a v = true ∧ on b v = true
/-- The first k edges have colours as they have to be. -/
def ColTo (es : List (Int × Int)) (c : List Int) (k : Nat) : Prop := ∀ j, j < k → ∀ i, i < j → share (es.getD i (0, 0)) (es.getD j (0, 0)) → c.getD i 0 ≠ c.getD j 0
structure IsC (es : List (Int × Int)) (c : List Int) : Prop where
  len : c.length = es.length
  rng : ∀ x ∈ c, 0 ≤ x ∧ x ≤ 2
  col : ColTo es c es.length
noncomputable instance (es : List (Int × Int)) (c : List Int) : Decidable (IsC es c) := Classical.propDecidable _

def ends (es : List (Int × Int)) (l : List Int) : List Int := l.flatMap fun i => [(es.getD i.toNat (0, 0)).1, (es.getD i.toNat (0, 0)).2]
def upto (n : Nat) : List Int := (List.range n).map Int.ofNat
end Go.Proofs
/- Contracts: colourings. -/
set_option linter.unusedVariables false
set_option linter.unusedSimpArgs false
set_option maxRecDepth 100000
namespace Go.Proofs
open Go.Abs

variable {H : AHeap} {v u f : Value} {l m c : List Int} {es fs : List (Int × Int)} {K : Value → AHeap → Prop}

theorem l01At_ok {n x : Int} (h : Edges H v es) (hl : es.length ≤ 1048576) (k : ∀ v' G, H.le G → Fresh H.length G v' 2 1 (LI (atL es x)) → K v' G) : AC Tryz.prog T0 175 [.agg ⟨[.int .i64 n, v]⟩, .int .i64 x] H K := by
  apply F175.ac
  unfold F175.B9
  refine newK_f (all_iv (edges_one' h)) fun H1 l1 n1 o1 => ?_
  unfold F175.B8
  refine newK_f rfl fun H2 l2 n2 o2 => ?_
  unfold F175.B7 F175.L2
  refine ⟨fun x1 x2 x5 x6 G => x1 = x ∧ x2 = H.length ∧ 0 ≤ x6 ∧ x6 ≤ es.length ∧ H1.le G ∧ Fresh H1.length G x5 2 1 (LI (atTo es x x6.toNat)), fun _ _ _ x6 _ => es.length - x6.toNat, ⟨rfl, rfl, by omega, by omega, l2, .inr ⟨_, 0, Nat.le_refl _, rfl, o2, rfl⟩⟩, ?_⟩
  rintro x1 x2 x5 x6 G ⟨rfl, rfl, h0, h1, hG, hF⟩
  have oG := hG.2 _ _ o1
  have lG := AHeap.le_trans l1 hG
  unfold F175.B6
  refine ld1_own oG rfl ((h.le lG).len (pif_cases (fun hb => ?_) fun hb => ?_))
  · have hlt : x6 < es.length := of_decide_eq_true hb
    obtain ⟨i, rfl⟩ : ∃ i : Nat, x6 = i := ⟨x6.toNat, by omega⟩
    simp only [Int.toNat_natCast] at hF
    have yes : on (es.getD i (0, 0)) x1 = true → ∀ N : Int → Nat → Value → Int → AHeap → Prop, (∀ x5' G', H1.le G' → Fresh H1.length G' x5' 2 1 (LI (atTo es x1 (i + 1))) → N x1 H.length x5' ((i : Int) + 1) G') → F175.B4 K N x1 H.length x5 i G := by
      intro ho N hN
      unfold F175.B4
      refine push_int hF hG (by have := atTo_length es x1 i; omega) fun v' G2 hG2 hF2 _ => ?_
      unfold F175.B3
      rw [wrap_id (by omega) (by omega)]
      exact hN _ _ hG2 (by rw [atTo_succ, if_pos ho]; exact hF2)
    have fin : ∀ x5' G', H1.le G' → Fresh H1.length G' x5' 2 1 (LI (atTo es x1 (i + 1))) → (x1 = x1 ∧ H.length = H.length ∧ 0 ≤ (i : Int) + 1 ∧ (i : Int) + 1 ≤ es.length ∧ H1.le G' ∧ Fresh H1.length G' x5' 2 1 (LI (atTo es x1 ((i : Int) + 1).toNat))) ∧ es.length - ((i : Int) + 1).toNat < es.length - (i : Int).toNat :=
      fun x5' G' a b => ⟨⟨rfl, rfl, by omega, by omega, a, by rw [show ((i : Int) + 1).toNat = i + 1 by omega]; exact b⟩, by omega⟩
    unfold F175.B5
    obtain ⟨b, o, hk, c1, c2⟩ := (h.le lG).idx h0 hlt
    simp only [Int.toNat_natCast] at c1 c2
    refine ld1_own oG rfl (hk _ (ldI_mk c1 (pif_cases (fun hs => ?_) fun hs => ?_)))
    · exact yes (by unfold on; rw [hs]; rfl) _ fin
    · refine ld1_own oG rfl (hk _ (ldI_mk c2 (pif_cases (fun ht => ?_) fun ht => ?_)))
      · exact yes (by unfold on; rw [hs, ht]; rfl) _ fin
      · unfold F175.B3
        rw [wrap_id (by omega) (by omega)]
        exact fin _ _ hG (by rw [atTo_succ, if_neg (by unfold on; rw [hs, ht]; decide), List.append_nil]; exact hF)
  · have hge : ¬ x6 < es.length := of_decide_eq_false hb
    have : x6 = es.length := by omega
    subst this
    unfold F175.B1
    exact k _ _ lG (hF.less l1.1)

/-- An edge's end. -/
def en (e : Int × Int) (k : Nat) : Int := if k = 0 then e.1 else e.2
theorem on_en {e : Int × Int} {k : Nat} : on e (en e k) = true := by
  unfold on en; split <;> simp
theorem on_cases {e : Int × Int} {v : Int} (h : on e v = true) : v = en e 0 ∨ v = en e 1 := by
  unfold on at h; unfold en
  simp only [Bool.or_eq_true, beq_iff_eq] at h
  rcases h with h | h
  · left; simp [h]
  · right; simp [h]
end Go.Proofs
/- Contracts: colourings and matchings, both sides. -/
set_option linter.unusedVariables false
set_option linter.unusedSimpArgs false
set_option maxRecDepth 100000
namespace Go.Proofs
open Go.Abs

variable {H : AHeap} {v u f : Value} {l m c : List Int} {es fs : List (Int × Int)} {K : Value → AHeap → Prop}

abbrev LU (s : List Nat) : List Value := s.map fun x => Value.int .u64 (x : Nat)
abbrev LB (s : List Bool) : List Value := s.map Value.bool
theorem rep_b (n : Nat) : (List.replicate n [Value.bool false]).flatten = LB (List.replicate n false) := by
  induction n with
  | zero => rfl
  | succ n ih => rw [List.replicate_succ, List.replicate_succ, List.flatten_cons, ih]; rfl
/-- The place of an element in a row of one's own. -/
theorem own_idx {b n : Nat} {x : Int} {K : Nat → Nat → Prop} (h0 : 0 ≤ x) (h1 : x < n) (k : K b x.toNat) : idxK (.slice (some ⟨b, 0, none⟩) n (n + 1)) x 1 K := ⟨h0, h1, by simpa using k⟩

/-- What has been seen of colours at vertices. -/
def Seen (es : List (Int × Int)) (c : List Int) (S : List Nat) (i m : Nat) : Prop :=
  ∀ w, w < S.length → S.getD w 0 < 2 ^ 64 ∧ ∀ k : Nat, (S.getD w 0).testBit k = true ↔ (∃ j, j < i ∧ on (es.getD j (0, 0)) w = true ∧ c.getD j 0 = k) ∨ ((∃ m', m' < m ∧ (w : Int) = en (es.getD i (0, 0)) m') ∧ c.getD i 0 = k)
theorem Seen.next {es : List (Int × Int)} {c : List Int} {S : List Nat} {i : Nat} (h : Seen es c S i 2) : Seen es c S (i + 1) 0 := by
  intro w hw
  obtain ⟨h1, h2⟩ := h w hw
  refine ⟨h1, fun k => (h2 k).trans ⟨?_, ?_⟩⟩
  · rintro (⟨j, hj, ho, hc⟩ | ⟨⟨m', hm, he⟩, hc⟩)
    · exact .inl ⟨j, by omega, ho, hc⟩
    · exact .inl ⟨i, by omega, by rw [he]; exact on_en, hc⟩
  · rintro (⟨j, hj, ho, hc⟩ | ⟨⟨m', hm, he⟩, hc⟩)
    · by_cases h : j = i
      · subst h
        rcases on_cases ho with e | e
        · exact .inr ⟨⟨0, by omega, e⟩, hc⟩
        · exact .inr ⟨⟨1, by omega, e⟩, hc⟩
      · exact .inl ⟨j, by omega, ho, hc⟩
    · omega

end Go.Proofs
/- Plain mathematics: exploring step by step. -/
set_option linter.unusedVariables false
set_option linter.unusedSimpArgs false
namespace Go.Proofs
open Go.Abs

/-- What is reached from e. -/
inductive Rch (adj : Nat → Nat → Prop) (e : Nat) : Nat → Prop
  | refl : Rch adj e e
  | step {x y : Nat} : Rch adj e x → adj x y → Rch adj e y
theorem Rch.trans {adj : Nat → Nat → Prop} {a b c : Nat} (h : Rch adj a b) (k : Rch adj b c) : Rch adj a c := by
  induction k with
  | refl => exact h
  | step _ h2 ih => exact .step ih h2
theorem Rch.symm {adj : Nat → Nat → Prop} (hs : ∀ x y, adj x y → adj y x) {a b : Nat} (h : Rch adj a b) : Rch adj b a := by
  induction h with
  | refl => exact .refl
  | step _ h2 ih => exact (Rch.step .refl (hs _ _ h2)).trans ih
theorem Rch.mono {adj adj' : Nat → Nat → Prop} (hs : ∀ x y, adj x y → adj' x y) {a b : Nat} (h : Rch adj a b) : Rch adj' a b := by
  induction h with
  | refl => exact .refl
  | step _ h2 ih => exact .step ih (hs _ _ h2)
/-- What holds where one begins and goes along holds where one comes. -/
theorem Rch.keep {adj : Nat → Nat → Prop} {P : Nat → Prop} (hs : ∀ x y, adj x y → P x → P y) {a b : Nat} (h : Rch adj a b) (ha : P a) : P b := by
  induction h with
  | refl => exact ha
  | step _ h2 ih => exact hs _ _ h2 ih
noncomputable instance (adj : Nat → Nat → Prop) (a b : Nat) : Decidable (Rch adj a b) := Classical.propDecidable _

def insB (S : Nat → Bool) (y : Nat) : Nat → Bool := fun j => S j || decide (y = j)
theorem insB_self (S : Nat → Bool) (y : Nat) : insB S y y = true := by simp [insB]
theorem insB_of {S : Nat → Bool} {y x : Nat} (h : S x = true) : insB S y x = true := by simp [insB, h]
theorem insB_ne {S : Nat → Bool} {y x : Nat} (h : insB S y x = true) (hne : x ≠ y) : S x = true := by
  simp only [insB, Bool.or_eq_true, decide_eq_true_eq] at h
  exact h.elim id fun h => absurd h.symm hne
def unseen (S : Nat → Bool) : Nat → Nat
  | 0 => 0
  | n + 1 => unseen S n + if S n then 0 else 1
theorem unseen_congr {S S' : Nat → Bool} : ∀ {n : Nat}, (∀ i, i < n → S i = S' i) → unseen S n = unseen S' n
  | 0, _ => rfl
  | n + 1, h => by rw [unseen, unseen, unseen_congr fun i hi => h i (by omega), h n (by omega)]
theorem unseen_ins {S : Nat → Bool} {y : Nat} : ∀ {n : Nat}, y < n → S y = false → unseen (insB S y) n + 1 = unseen S n
  | n + 1, h, hs => by
    rw [unseen, unseen]
    by_cases e : y = n
    · subst e
      rw [unseen_congr (S' := S) fun i hi => by simp [insB]; intro h; omega, insB_self, hs]; simp
    · have : insB S y n = S n := by simp [insB, e]
      rw [this, ← unseen_ins (n := n) (by omega) hs]; omega
theorem unseen_le (S : Nat → Bool) : ∀ n, unseen S n ≤ n
  | 0 => Nat.le_refl _
  | n + 1 => by have := unseen_le S n; rw [unseen]; split <;> omega

/-- A state of an exploration: what is seen, and what waits. -/
structure Ex (adj : Nat → Nat → Prop) (e : Nat) (S : Nat → Bool) (Q : List Nat) : Prop where
  start : S e = true
  q : ∀ x ∈ Q, S x = true
  rch : ∀ x, S x = true → Rch adj e x
  done : ∀ x, S x = true → x ∉ Q → ∀ y, adj x y → S y = true
theorem Ex.init {adj : Nat → Nat → Prop} {e : Nat} {S : Nat → Bool} (h : ∀ x, S x = true ↔ x = e) : Ex adj e S [e] :=
  ⟨(h e).2 rfl, fun x hx => by rw [List.mem_singleton] at hx; exact (h x).2 hx, fun x hx => by rw [(h x).1 hx]; exact .refl, fun x hx hn => absurd ((h x).1 hx) (by simpa using hn)⟩
theorem Ex.congr {adj : Nat → Nat → Prop} {e : Nat} {S S' : Nat → Bool} {Q : List Nat} (h : Ex adj e S Q) (hs : ∀ x, S' x = S x) : Ex adj e S' Q := by
  have : S' = S := funext hs
  rw [this]; exact h
theorem Ex.push {adj : Nat → Nat → Prop} {e : Nat} {S : Nat → Bool} {Q : List Nat} (h : Ex adj e S Q) {x y : Nat} (hx : S x = true) (ha : adj x y) : Ex adj e (insB S y) (Q ++ [y]) := by
  refine ⟨insB_of h.start, fun z hz => ?_, fun z hz => ?_, fun z hz hn w hw => ?_⟩
  · rcases List.mem_append.1 hz with hz | hz
    · exact insB_of (h.q z hz)
    · rw [List.mem_singleton] at hz; rw [hz]; exact insB_self _ _
  · by_cases e' : z = y
    · rw [e']; exact .step (h.rch x hx) ha
    · exact h.rch z (insB_ne hz e')
  · rw [List.mem_append, List.mem_singleton] at hn
    exact insB_of (h.done z (insB_ne hz fun h => hn (.inr h)) (fun h => hn (.inl h)) w hw)
theorem Ex.pop {adj : Nat → Nat → Prop} {e : Nat} {S : Nat → Bool} {x : Nat} {Q : List Nat} (h : Ex adj e S (x :: Q)) (ha : ∀ y, adj x y → S y = true) : Ex adj e S Q := by
  refine ⟨h.start, fun z hz => h.q z (by simp [hz]), h.rch, fun z hz hn w hw => ?_⟩
  by_cases e' : z = x
  · rw [e'] at hw; exact ha w hw
  · exact h.done z hz (by simp [e', hn]) w hw
theorem Ex.fin {adj : Nat → Nat → Prop} {e : Nat} {S : Nat → Bool} (h : Ex adj e S []) (x : Nat) : S x = true ↔ Rch adj e x := by
  refine ⟨h.rch x, fun hr => hr.keep (P := fun x => S x = true) (fun a b hab ha => ?_) h.start⟩
  exact h.done a ha (by simp) b hab
end Go.Proofs
/- Plain mathematics: how many bits a number has. -/
set_option linter.unusedVariables false
set_option linter.unusedSimpArgs false
namespace Go.Proofs
open Go.Abs

end Go.Proofs
/- Plain mathematics: sets as ascending lists; degrees. -/
set_option linter.unusedVariables false
set_option linter.unusedSimpArgs false
namespace Go.Proofs
open Go.Abs

/-- The numbers less than n with a mark. -/
def filtB (S : Nat → Bool) (k : Nat) : List Int := ((List.range k).filter S).map Int.ofNat
theorem filtB_succ (S : Nat → Bool) (k : Nat) : filtB S (k + 1) = filtB S k ++ (if S k then [(k : Int)] else []) := by
  unfold filtB
  rw [List.range_succ, List.filter_append, List.map_append]
  congr 1
  cases h : S k <;> simp [h]
theorem filtB_length (S : Nat → Bool) (k : Nat) : (filtB S k).length ≤ k := by
  unfold filtB; rw [List.length_map]
  exact Nat.le_trans (List.length_filter_le _ _) (by simp)
theorem filtB_congr {S S' : Nat → Bool} {k : Nat} (h : ∀ i, i < k → S i = S' i) : filtB S k = filtB S' k := by
  unfold filtB
  rw [List.filter_congr fun i hi => h i (List.mem_range.1 hi)]
theorem bits_lt {s n : Nat} (h : ∀ j, s.testBit j = true → j < n) : s < 2 ^ n := by
  apply Nat.lt_pow_two_of_testBit
  intro i hi
  cases hb : s.testBit i with
  | false => rfl
  | true => have := h i hb; omega
theorem bitsL_filt {s n : Nat} (hn : n ≤ 64) (h : ∀ j, s.testBit j = true → j < n) : bitsL s = filtB (fun j => s.testBit j) n := by
  have e := bitsTo_end (Nat.div_eq_of_lt (bits_lt h)) (64 - n)
  rw [show n + (64 - n) = 64 by omega] at e
  exact e
theorem mem_filtB {S : Nat → Bool} {k : Nat} {x : Int} : x ∈ filtB S k ↔ ∃ j : Nat, x = j ∧ j < k ∧ S j = true := by
  unfold filtB
  rw [List.mem_map]
  constructor
  · rintro ⟨j, hj, rfl⟩
    rw [List.mem_filter, List.mem_range] at hj
    exact ⟨j, rfl, hj⟩
  · rintro ⟨j, rfl, h⟩
    exact ⟨j, by rw [List.mem_filter, List.mem_range]; exact h, rfl⟩
/-- Ascending. -/
def Asc (l : List Int) : Prop := l.Pairwise (· < ·)
theorem Asc.ext : ∀ {l m : List Int}, Asc l → Asc m → (∀ x, x ∈ l ↔ x ∈ m) → l = m
  | [], [], _, _, _ => rfl
  | [], b :: m, _, _, h => absurd ((h b).2 (by simp)) (by simp)
  | a :: l, [], _, _, h => absurd ((h a).1 (by simp)) (by simp)
  | a :: l, b :: m, hl, hm, h => by
    unfold Asc at hl hm
    rw [List.pairwise_cons] at hl hm
    have hab : a = b := by
      have h1 := (h a).1 (by simp)
      have h2 := (h b).2 (by simp)
      rcases List.mem_cons.1 h1 with rfl | h1
      · rfl
      · rcases List.mem_cons.1 h2 with h2 | h2
        · exact h2.symm
        · have := hl.1 b h2; have := hm.1 a h1; omega
    subst hab
    rw [Asc.ext hl.2 hm.2 fun x => ?_]
    constructor
    · intro hx
      rcases List.mem_cons.1 ((h x).1 (by simp [hx])) with rfl | hx'
      · exact absurd (hl.1 x hx) (Int.lt_irrefl _)
      · exact hx'
    · intro hx
      rcases List.mem_cons.1 ((h x).2 (by simp [hx])) with rfl | hx'
      · exact absurd (hm.1 x hx) (Int.lt_irrefl _)
      · exact hx'
theorem filtB_asc (S : Nat → Bool) (k : Nat) : Asc (filtB S k) := by
  unfold filtB Asc
  refine List.Pairwise.map _ (fun a b (h : a < b) => Int.ofNat_lt.2 h) ?_
  exact List.Pairwise.filter _ List.pairwise_lt_range
theorem IsS.asc {l : List Int} {n : Int} (h : IsS l n) : Asc l := by
  have key : ∀ i j, i < j → j < l.length → l.getD i 0 < l.getD j 0 := by
    intro i j hij hj
    induction j with
    | zero => omega
    | succ j ih =>
      have := (h (j + 1) hj).2.2 (by omega)
      rw [Nat.add_sub_cancel] at this
      by_cases e : i = j
      · subst e; exact this
      · have := ih (by omega) (by omega); omega
  unfold Asc
  rw [List.pairwise_iff_getElem]
  intro i j hi hj hij
  have := key i j hij hj
  rwa [getD_of hi, getD_of hj] at this
theorem asc_isS {l : List Int} {n : Int} (h : Asc l) (hr : ∀ x ∈ l, 0 ≤ x ∧ x < n) : IsS l n := by
  intro i hi
  have := hr _ (List.getElem_mem hi)
  rw [getD_of hi]
  refine ⟨this.1, by omega, fun h0 => ?_⟩
  unfold Asc at h
  rw [List.pairwise_iff_getElem] at h
  rw [getD_of (show i - 1 < l.length by omega)]
  exact h _ _ _ _ (by omega)
/-- A set's bits. -/
def bitB (l : List Int) (j : Nat) : Bool := (setN l).testBit j
theorem bitB_mem {l : List Int} {n : Int} (h : IsS l n) (j : Nat) : bitB l j = true ↔ (j : Int) ∈ l := by
  unfold bitB
  rw [setN_bit fun x hx => (h.range x hx).1]; simp
theorem bitB_lt {l : List Int} {n : Nat} (h : IsS l n) {j : Nat} (hj : bitB l j = true) : j < n := by
  have := h.range _ ((bitB_mem h j).1 hj); omega
theorem IsS.filt {l : List Int} {n : Nat} (h : IsS l n) : l = filtB (bitB l) n := by
  refine Asc.ext h.asc (filtB_asc _ _) fun x => ?_
  rw [mem_filtB]
  constructor
  · intro hx
    have := h.range x hx
    refine ⟨x.toNat, by omega, by omega, (bitB_mem h _).2 ?_⟩
    rwa [show ((x.toNat : Nat) : Int) = x by omega]
  · rintro ⟨j, rfl, _, hj⟩
    exact (bitB_mem h j).1 hj

/-- How many edges of a kind are on a vertex. -/
def degB (es : List (Int × Int)) (p : Nat → Bool) (w : Int) : Nat := (filtB (fun j => on (es.getD j (0, 0)) w && p j) es.length).length
def EvenS (n : Int) (es : List (Int × Int)) (p : Nat → Bool) : Prop := ∀ w : Nat, (w : Int) < n → degB es p w % 2 = 0
noncomputable instance (n : Int) (es : List (Int × Int)) (p : Nat → Bool) : Decidable (EvenS n es p) := Classical.propDecidable _
end Go.Proofs
/- Plain mathematics: the cycles of a set of edges: its connected parts. -/
set_option linter.unusedVariables false
set_option linter.unusedSimpArgs false
namespace Go.Proofs
open Go.Abs

/-- Edges of a kind that have a vertex in common. -/
def eAdj (es : List (Int × Int)) (p : Nat → Bool) (i j : Nat) : Prop := j < es.length ∧ p j = true ∧ share (es.getD i (0, 0)) (es.getD j (0, 0))
noncomputable def rchB (adj : Nat → Nat → Prop) (e : Nat) (j : Nat) : Bool := decide (Rch adj e j)
theorem rchB_iff {adj : Nat → Nat → Prop} {e j : Nat} : rchB adj e j = true ↔ Rch adj e j := by unfold rchB; simp
theorem dec_eq {p : Prop} [Decidable p] {b : Bool} (h : b = true ↔ p) : b = decide p := by
  rw [Bool.eq_iff_iff, h]; simp
section
variable {es : List (Int × Int)} {p : Nat → Bool} {l : List Int}
end
/-- Vertices that an edge joins. -/
def vAdj (fs : List (Int × Int)) (a b : Nat) : Prop := ((a : Int), (b : Int)) ∈ fs ∨ ((b : Int), (a : Int)) ∈ fs
theorem vAdj_symm {fs : List (Int × Int)} (a b : Nat) (h : vAdj fs a b) : vAdj fs b a := Or.symm h
end Go.Proofs
/- Contracts: edges at a vertex; chains, the program's way. -/
set_option linter.unusedVariables false
set_option linter.unusedSimpArgs false
set_option maxRecDepth 100000
namespace Go.Proofs
open Go.Abs

variable {H : AHeap} {v u f : Value} {l m c : List Int} {es fs : List (Int × Int)} {K : Value → AHeap → Prop}

theorem E_int : Elem T0 2 1 := ⟨tiInt, T0_int.1, T0_int.2.1, by rw [T0_int.2.2.1]; decide, T0_int.2.2.2⟩
theorem setB {S : List Bool} {y : Nat} (h : y < S.length) (j : Nat) : (S.set y true).getD j false = insB (fun j => S.getD j false) y j := by
  unfold insB
  simp only [List.getD, List.getElem?_set]
  by_cases e : y = j
  · subst e; simp [h]
  · simp [e]
theorem LB_get {S : List Bool} {i : Nat} (h : i < S.length) : (LB S)[i]? = some (.bool (S.getD i false)) := by simp [h]
abbrev NI (Q : List Nat) : List Int := Q.map Int.ofNat
def lenV : Value → Nat
  | .slice _ n _ => n
  | _ => 0
theorem Sl_lenV {m : Nat} {t : TypeId} {cs : List Value} (h : Sl m H v t 1 cs) : lenV v = cs.length := by
  rcases h with ⟨rfl, rfl | ⟨a, rfl⟩⟩ | ⟨b, n, pre, post, _, rfl, _, h⟩
  · rfl
  · rfl
  · simp [lenV, h]

theorem isOn_ok {e : Int × Int} {x : Int} (k : ∀ G, H.le G → K (.bool (on e x)) G) : AC Tryz.prog T0 195 [ve e, .int .i64 x] H K := by
  apply F195.ac
  unfold F195.B2
  refine newK_f rfl fun H1 l1 n1 o1 => ?_
  unfold F195.B1
  have k := k _ l1
  refine ldI_own o1 rfl (pif_cases (fun hb => ?_) fun hb => ?_)
  · rw [show on e x = true by unfold on; rw [hb]; rfl] at k; exact k
  · rw [show on e x = (e.2 == x) by unfold on; rw [hb]; rfl] at k
    exact ldI_own o1 rfl k

theorem at_ok {n x : Int} (h : Edges H v es) (hl : es.length ≤ 1048576) (k : ∀ v' G, H.le G → Sl H.length G v' 2 1 (LI (atL es x)) → K v' G) : AC Tryz.prog T0 161 [.agg ⟨[.int .i64 n, v]⟩, .int .i64 x] H K := by
  apply F161.ac
  unfold F161.B10
  refine newK_f (all_iv (edges_one' h)) fun H1 l1 n1 o1 => ?_
  unfold F161.B9 F161.B8
  refine ld1_own o1 rfl ((h.le l1).len ?_)
  unfold F161.L2
  refine ⟨fun x1 x5 x9 x10 x11 G => x = x1 ∧ v = x9 ∧ (es.length : Int) = x10 ∧ H.le G ∧ ∃ i : Nat, x11 = i ∧ i ≤ es.length ∧ Sl H.length G x5 2 1 (LI (atTo es x i)), fun _ _ _ _ x11 _ => es.length - x11.toNat, ⟨rfl, rfl, rfl, l1, 0, rfl, by omega, .nil⟩, ?_⟩
  rintro x1 x5 x9 x10 x11 G ⟨rfl, rfl, rfl, hG, i, rfl, hi, hF⟩
  unfold F161.B7
  refine pif_cases (fun hb => ?_) fun hb => ?_
  · have hlt : i < es.length := by have := of_decide_eq_true hb; omega
    unfold F161.B6
    obtain ⟨b, o, hk, c1, c2⟩ := (h.le hG).idx (show (0 : Int) ≤ i by omega) (by omega)
    simp only [Int.toNat_natCast] at c1 c2
    refine hk _ (ldI_mk c1 (ldI_mk c2 (newK_f rfl fun H2 l2 n2 o2 => stK_f o2 (by simp) (by simp [Value.oneCell']) rfl fun H3 b3 o3 => ?_)))
    have l3 : G.le H3 := b3.le l2 (Nat.le_refl _)
    unfold F161.B5
    refine ldI_own o3 rfl (ldI_own o3 rfl (isOn_ok (e := es.getD i (0, 0)) fun H4 l4 => asB_mk ?_))
    have l4 := AHeap.le_trans l3 l4
    have hF := hF.le l4
    have lG := AHeap.le_trans hG l4
    refine pif_cases (fun hs => ?_) fun hs => ?_
    · unfold F161.B4
      refine hF.pushN E_int (by decide) lG.1 (n := 1) (ys := [.int .i64 i]) rfl rfl (by have := atTo_length es x i; simp; omega) (by simp) fun v' G2 k2 _ _ f2 => ?_
      unfold F161.B3
      rw [wrap_id (by omega) (by omega)]
      refine ⟨⟨rfl, rfl, rfl, k2.le lG (Nat.le_refl _), i + 1, by omega, by omega, ?_⟩, by simp; omega⟩
      rw [atTo_succ, if_pos hs]
      simpa using f2.sl
    · unfold F161.B3
      rw [wrap_id (by omega) (by omega)]
      refine ⟨⟨rfl, rfl, rfl, lG, i + 1, by omega, by omega, ?_⟩, by simp; omega⟩
      rw [atTo_succ, if_neg (by rw [hs]; decide), List.append_nil]; exact hF
  · have hge : i = es.length := by have := of_decide_eq_false hb; omega
    subst hge
    unfold F161.B1
    exact k _ _ hG hF

/-- A state inside a round: the edge x is looked at; of which edges one is past. -/
structure InX (es : List (Int × Int)) (p : Nat → Bool) (e x M : Nat) (D : Nat → Prop) (S : Nat → Bool) (Q : List Nat) : Prop where
  ex : Ex (eAdj es p) e S (x :: Q)
  bnd : ∀ y, S y = true → y < es.length
  mu : 2 * unseen S es.length + (Q.length + 1) ≤ M
  past : ∀ j, D j → S j = true
theorem InX.more {es : List (Int × Int)} {p : Nat → Bool} {e x M : Nat} {D D' : Nat → Prop} {S : Nat → Bool} {Q : List Nat} (h : InX es p e x M D S Q) (hd : ∀ j, D' j → D j ∨ S j = true) : InX es p e x M D' S Q :=
  ⟨h.ex, h.bnd, h.mu, fun j hj => (hd j hj).elim (h.past j) id⟩
theorem InX.push {es : List (Int × Int)} {p : Nat → Bool} {e x M y : Nat} {D D' : Nat → Prop} {S S' : Nat → Bool} {Q : List Nat} (h : InX es p e x M D S Q) (hy : eAdj es p x y) (hn : S y = false) (hs : ∀ j, S' j = insB S y j) (hd : ∀ j, D' j → D j ∨ j = y) : InX es p e x M D' S' (Q ++ [y]) := by
  obtain rfl : S' = insB S y := funext hs
  have hx : S x = true := h.ex.q x (by simp)
  refine ⟨h.ex.push hx hy, fun z hz => ?_, ?_, fun j hj => ?_⟩
  · by_cases e' : z = y
    · rw [e']; exact hy.1
    · exact h.bnd z (insB_ne hz e')
  · have := unseen_ins (n := es.length) hy.1 hn
    have := h.mu
    simp; omega
  · rcases hd j hj with hj | rfl
    · exact insB_of (h.past j hj)
    · exact insB_self _ _
theorem InX.pop {es : List (Int × Int)} {p : Nat → Bool} {e x M : Nat} {D : Nat → Prop} {S : Nat → Bool} {Q : List Nat} (h : InX es p e x M D S Q) (hd : ∀ j, j < es.length → p j = true → (on (es.getD j (0, 0)) (en (es.getD x (0, 0)) 0) = true ∨ on (es.getD j (0, 0)) (en (es.getD x (0, 0)) 1) = true) → D j) : Ex (eAdj es p) e S Q ∧ 2 * unseen S es.length + Q.length < M := by
  refine ⟨h.ex.pop fun y hy => ?_, by have := h.mu; omega⟩
  obtain ⟨h1, h2, w, h3, h4⟩ := hy
  refine h.past y (hd y h1 h2 ?_)
  rcases on_cases h3 with rfl | rfl
  · exact .inl h4
  · exact .inr h4
/-- Past the first m ends' edges. -/
def PastE (es : List (Int × Int)) (p : Nat → Bool) (x m : Nat) (j : Nat) : Prop := j < es.length ∧ p j = true ∧ ∃ m', m' < m ∧ on (es.getD j (0, 0)) (en (es.getD x (0, 0)) m') = true
/-- And past the first t edges at the next end. -/
def PastT (es : List (Int × Int)) (p : Nat → Bool) (x m t : Nat) (j : Nat) : Prop := PastE es p x m j ∨ (p j = true ∧ ∃ t', t' < t ∧ (atL es (en (es.getD x (0, 0)) m)).getD t' 0 = j ∧ t' < (atL es (en (es.getD x (0, 0)) m)).length)
theorem PastT.fin {es : List (Int × Int)} {p : Nat → Bool} {x m : Nat} {j : Nat} (h : PastE es p x (m + 1) j) : PastT es p x m (atL es (en (es.getD x (0, 0)) m)).length j := by
  obtain ⟨h1, h2, m', h3, h4⟩ := h
  by_cases e : m' = m
  · subst e
    have hm : (j : Int) ∈ atL es (en (es.getD x (0, 0)) m') := mem_atL.2 ⟨j, rfl, h1, h4⟩
    obtain ⟨t, ht, hte⟩ := List.getElem_of_mem hm
    exact .inr ⟨h2, t, ht, by rw [getD_of ht, hte], ht⟩
  · exact .inl ⟨h1, h2, m', by omega, h4⟩
theorem PastT.step {es : List (Int × Int)} {p : Nat → Bool} {x m t : Nat} {j : Nat} (h : PastT es p x m (t + 1) j) : PastT es p x m t j ∨ (p j = true ∧ (atL es (en (es.getD x (0, 0)) m)).getD t 0 = j) := by
  rcases h with h | ⟨h1, t', h2, h3, h4⟩
  · exact .inl (.inl h)
  · by_cases e : t' = t
    · subst e; exact .inr ⟨h1, h3⟩
    · exact .inl (.inr ⟨h1, t', by omega, h3, h4⟩)
theorem at_get {es : List (Int × Int)} {w : Int} {t : Nat} (h : t < (atL es w).length) : ∃ i : Nat, (atL es w).getD t 0 = i ∧ i < es.length ∧ on (es.getD i (0, 0)) w = true := by
  obtain ⟨i, h1, h2, h3⟩ := mem_atL.1 (List.getElem_mem h)
  exact ⟨i, by rw [getD_of h]; exact h1, h2, h3⟩
end Go.Proofs
/- Contracts: even sets, both sides. -/
set_option linter.unusedVariables false
set_option linter.unusedSimpArgs false
set_option maxRecDepth 100000
namespace Go.Proofs
open Go.Abs

variable {H : AHeap} {v u f : Value} {l m c : List Int} {es fs : List (Int × Int)} {K : Value → AHeap → Prop}

theorem edgesCode_ok {n : Int} (h : Edges H v es) (hl : es.length ≤ 1048576) (hc : Ints H u l) (hcl : l.length ≤ 1048576) (k : ∀ G, H.le G → K (.int .i64 (if IsG n es then (if IsS l es.length then 0 else 2) else 1)) G) :
    AC Tryz.prog T0 88 [.agg ⟨[.int .i64 n, v]⟩, u] H K := by
  apply F88.ac
  unfold F88.B2
  refine newK_f (all_iv (edges_one' h)) fun H1 l1 n1 o1 => ?_
  unfold F88.B1
  refine ldI_own o1 rfl (ld1_own o1 rfl (ld1_own o1 rfl (lengthE_ok (h.le l1) (asI_mk ⟨AHeap.le_refl _, isSet_ok (hc.le l1) (by omega) (by omega) (by omega) (asB_mk ⟨AHeap.le_refl _, graphCode_ok (h.le l1) hl fun G hG => asI_mk ?_⟩)⟩))))
  have k := k _ (AHeap.le_trans l1 hG)
  by_cases hs : IsS l es.length
  · rw [if_pos hs] at k; rw [decide_eq_true hs]; exact k
  · rw [if_neg hs] at k; rw [decide_eq_false hs]; exact k
end Go.Proofs
/- Contracts: leaders of vertices. -/
set_option linter.unusedVariables false
set_option linter.unusedSimpArgs false
set_option maxRecDepth 100000
namespace Go.Proofs
open Go.Abs

variable {H : AHeap} {v u f : Value} {l m c : List Int} {es fs : List (Int × Int)} {K : Value → AHeap → Prop}

/-- Each vertex's number leads to it and is no greater. -/
def Led (n : Nat) (fs : List (Int × Int)) (D : List Int) : Prop := D.length = n ∧ ∀ w, w < n → ∃ k : Nat, D.getD w 0 = k ∧ k ≤ w ∧ Rch (vAdj fs) w k
/-- And joined vertices have the same. -/
structure Leads (n : Nat) (fs : List (Int × Int)) (D : List Int) : Prop where
  led : Led n fs D
  same : ∀ e ∈ fs, D.getD e.1.toNat 0 = D.getD e.2.toNat 0
theorem Leads.rch {n : Nat} {fs : List (Int × Int)} {D : List Int} (h : Leads n fs D) {a b : Nat} (hr : Rch (vAdj fs) a b) : D.getD a 0 = D.getD b 0 := by
  refine hr.keep (P := fun x => D.getD a 0 = D.getD x 0) (fun x y hxy hx => ?_) rfl
  rw [hx]
  rcases hxy with h1 | h1
  · simpa using h.same _ h1
  · simpa using (h.same _ h1).symm
theorem Leads.iff {n : Nat} {fs : List (Int × Int)} {D : List Int} (h : Leads n fs D) {a b : Nat} (ha : a < n) (hb : b < n) : D.getD a 0 = D.getD b 0 ↔ Rch (vAdj fs) a b := by
  refine ⟨fun he => ?_, h.rch⟩
  obtain ⟨k, h1, _, h2⟩ := h.led.2 a ha
  obtain ⟨k', h3, _, h4⟩ := h.led.2 b hb
  obtain rfl : k = k' := by omega
  exact h2.trans (h4.symm vAdj_symm)
/-- One leads oneself exactly if one is the least. -/
theorem Leads.self {n : Nat} {fs : List (Int × Int)} {D : List Int} (h : Leads n fs D) {a : Nat} (ha : a < n) : D.getD a 0 = (a : Int) ↔ ∀ b, b < a → ¬ Rch (vAdj fs) b a := by
  constructor
  · intro he b hb hr
    obtain ⟨k, h1, h2, _⟩ := h.led.2 b (by omega)
    have := h.rch hr
    omega
  · intro hn
    obtain ⟨k, h1, h2, h3⟩ := h.led.2 a ha
    rcases Nat.lt_or_ge k a with hk | hk
    · exact absurd (h3.symm vAdj_symm) (hn k hk)
    · omega
def sumN (D : List Int) : Nat := (D.map Int.toNat).sum
theorem sumN_set {D : List Int} {i : Nat} {x : Int} (hi : i < D.length) : sumN (D.set i x) + (D.getD i 0).toNat = sumN D + x.toNat := by
  induction D generalizing i with
  | nil => simp at hi
  | cons a D ih =>
    cases i with
    | zero => simp [sumN]; omega
    | succ i =>
      have := ih (i := i) (by simpa using hi)
      simp [sumN] at this ⊢; omega
def rowSum (G : AHeap) (b : Nat) : Nat :=
  match G[b]? with
  | some (some (.row cs _ _)) => (cs.map fun | .int _ x => x.toNat | _ => 0).sum
  | _ => 0
theorem rowSum_own {G : AHeap} {b : Nat} {t : TypeId} {D : List Int} (h : Own G b t (LI D)) : rowSum G b = sumN D := by
  unfold rowSum sumN; rw [h]; simp [List.map_map]; rfl
theorem Led.merge {n : Nat} {fs : List (Int × Int)} {D : List Int} (h : Led n fs D) {a b : Nat} (he : ((a : Int), (b : Int)) ∈ fs) (ha : a < n) (hb : b < n) (hne : D.getD a 0 ≠ D.getD b 0) {x : Int} (hx : x = if D.getD b 0 < D.getD a 0 then D.getD b 0 else D.getD a 0) :
    Led n fs ((D.set a x).set b x) ∧ sumN ((D.set a x).set b x) < sumN D := by
  obtain ⟨hl, hp⟩ := h
  obtain ⟨k, h1, h2, h3⟩ := hp a ha
  obtain ⟨k', h4, h5, h6⟩ := hp b hb
  have hab : a ≠ b := fun e => by rw [e] at hne; exact hne rfl
  have adj : vAdj fs a b := .inl he
  have hxk : ∃ q : Nat, x = q ∧ q ≤ k ∧ q ≤ k' ∧ Rch (vAdj fs) a q ∧ Rch (vAdj fs) b q := by
    rw [hx, h1, h4]
    split
    · exact ⟨k', rfl, by omega, Nat.le_refl _, (Rch.step .refl adj).trans h6, h6⟩
    · exact ⟨k, rfl, Nat.le_refl _, by omega, h3, (Rch.step .refl (vAdj_symm _ _ adj)).trans h3⟩
  obtain ⟨q, hq, hq1, hq2, hq3, hq4⟩ := hxk
  refine ⟨⟨by simp [hl], fun w hw => ?_⟩, ?_⟩
  · by_cases e1 : b = w
    · subst e1
      refine ⟨q, ?_, by omega, hq4⟩
      simp [List.getD, hl, hw, hq]
    · by_cases e2 : a = w
      · subst e2
        refine ⟨q, ?_, by omega, hq3⟩
        simp [List.getD, List.getElem?_set, e1, hl, hw, hq]
      · obtain ⟨r, r1, r2⟩ := hp w hw
        refine ⟨r, ?_, r2⟩
        rw [← r1]
        simp [List.getD, List.getElem?_set, e1, e2]
  · have s1 := sumN_set (D := D.set a x) (i := b) (x := x) (by simp [hl, hb])
    have s2 := sumN_set (D := D) (i := a) (x := x) (by omega)
    have e : (D.set a x).getD b 0 = D.getD b 0 := by simp [List.getD, List.getElem?_set, hab]
    rw [e] at s1
    omega

theorem upto_succ (k : Nat) : upto (k + 1) = upto k ++ [(k : Int)] := by
  unfold upto; rw [List.range_succ, List.map_append]; rfl
theorem upto_length (k : Nat) : (upto k).length = k := by simp [upto]
theorem own_ne {b : Nat} {t : TypeId} {n : Nat} {cs : List Value} {G : AHeap} {m0 : Nat} (h : Fresh m0 G v t 1 cs) (hn : cs.length = n) (h0 : 0 < n) : ∃ b, m0 ≤ b ∧ v = .slice (some ⟨b, 0, none⟩) n (n + 1) ∧ Own G b t cs := by
  rcases h with ⟨rfl, _⟩ | ⟨b, k, h1, h2, h3, h4⟩
  · simp at hn; omega
  · obtain rfl : k = n := by omega
    exact ⟨b, h1, h2, h3⟩

theorem l01Leaders_ok {n : Int} (h : Edges H u fs) (hl : fs.length ≤ 1048576) (h0 : 0 < n) (h1 : n ≤ 20) (hf : ∀ e ∈ fs, 0 ≤ e.1 ∧ e.1 < n ∧ 0 ≤ e.2 ∧ e.2 < n)
    (k : ∀ b0 D G, H.le G → Own G b0 2 (LI D) → H.length ≤ b0 → Leads n.toNat fs D → K (.slice (some ⟨b0, 0, none⟩) n.toNat (n.toNat + 1)) G) :
    AC Tryz.prog T0 105 [.int .i64 n, u] H K := by
  apply F105.ac
  unfold F105.B21 F105.B20
  refine newK_f rfl fun H1 l1 n1 o1 => ?_
  unfold F105.B19 F105.L15
  refine ⟨fun x0 x1 x5 x6 G => n = x0 ∧ u = x1 ∧ H.le G ∧ ∃ i : Nat, x6 = i ∧ (i : Int) ≤ n ∧ Fresh H.length G x5 2 1 (LI (upto i)), fun x0 _ _ x6 _ => (x0 - x6).toNat, ⟨rfl, rfl, l1, 0, rfl, by omega, .inr ⟨_, 0, Nat.le_refl _, rfl, o1, rfl⟩⟩, ?_⟩
  rintro x0 x1 x5 x6 G ⟨rfl, rfl, hG, i, rfl, hi, hF⟩
  unfold F105.B18
  refine pif_cases (fun hb => ?_) fun hb => ?_
  · have hlt := of_decide_eq_true hb
    unfold F105.B17
    refine hF.sl.pushN E_int (by decide) hG.1 (n := 1) (ys := [.int .i64 i]) rfl rfl (by have := upto_length i; simp; omega) (by simp) fun v' G2 k2 _ _ f2 => ?_
    unfold F105.B16
    rw [wrap_id (by omega) (by omega)]
    refine ⟨⟨rfl, rfl, k2.le hG (Nat.le_refl _), i + 1, by omega, by omega, ?_⟩, show (n - ((i : Int) + 1)).toNat < (n - (i : Int)).toNat by omega⟩
    rw [upto_succ]; simpa using f2
  · have hge : (i : Int) = n := by have := of_decide_eq_false hb; omega
    obtain ⟨b0, hb0, rfl, oD⟩ := own_ne (b := 0) (n := n.toNat) hF (by rw [List.length_map, upto_length]; omega) (by omega)
    obtain rfl : i = n.toNat := by omega
    have ini : Led n.toNat fs (upto n.toNat) := by
      refine ⟨upto_length _, fun w hw => ⟨w, ?_, Nat.le_refl _, .refl⟩⟩
      unfold upto; simp [List.getD, hw]
    clear hb hge hi
    unfold F105.B14 F105.L2
    refine ⟨fun x1 x5 x7 G => u = x1 ∧ .slice (some ⟨b0, 0, none⟩) n.toNat (n.toNat + 1) = x5 ∧ H.le G ∧ ∃ D, Own G b0 2 (LI D) ∧ Led n.toNat fs D ∧ (x7 = false → ∀ e ∈ fs, D.getD e.1.toNat 0 = D.getD e.2.toNat 0), fun _ _ x7 G => 2 * rowSum G b0 + if x7 then 1 else 0,
      ⟨rfl, rfl, hG, _, oD, ini, fun h => by cases h⟩, ?_⟩
    clear hF oD ini
    rintro x1 x5 x7 G1 ⟨rfl, rfl, hG1, D, oD, hD, hS⟩
    unfold F105.B13
    refine pif_cases (fun hb => ?_) fun hb => ?_
    · subst hb
      have hsum := rowSum_own oD
      unfold F105.B12 F105.B11 F105.L3
      refine ⟨fun x1 x5 x7 x8 G => u = x1 ∧ .slice (some ⟨b0, 0, none⟩) n.toNat (n.toNat + 1) = x5 ∧ H.le G ∧ ∃ (i : Nat) (D' : List Int), x8 = i ∧ i ≤ fs.length ∧ Own G b0 2 (LI D') ∧ Led n.toNat fs D' ∧ ((x7 = true ∧ sumN D' < sumN D) ∨ (x7 = false ∧ D' = D ∧ ∀ j, j < i → D.getD (fs.getD j (0, 0)).1.toNat 0 = D.getD (fs.getD j (0, 0)).2.toNat 0)),
        fun _ _ _ x8 _ => fs.length - x8.toNat, ⟨rfl, rfl, hG1, 0, D, rfl, by omega, oD, hD, .inr ⟨rfl, rfl, fun j hj => absurd hj (by omega)⟩⟩, ?_⟩
      rintro x1 x5 x7 x8 G2 ⟨rfl, rfl, hG2, i, D', rfl, hi, oD', hD', hc⟩
      have hdl := hD'.1
      unfold F105.B10
      refine (h.le hG2).len (pif_cases (fun hb => ?_) fun hb => ?_)
      · have hlt : i < fs.length := by have := of_decide_eq_true hb; omega
        obtain ⟨d1, d2, d3, d4⟩ := hf fs[i] (List.getElem_mem hlt)
        obtain ⟨a, ha⟩ : ∃ a : Nat, (fs[i]).1 = a := ⟨(fs[i]).1.toNat, by omega⟩
        obtain ⟨b, hb'⟩ : ∃ b : Nat, (fs[i]).2 = b := ⟨(fs[i]).2.toNat, by omega⟩
        have hin : ((a : Int), (b : Int)) ∈ fs := by rw [← ha, ← hb']; exact List.getElem_mem hlt
        have hge : fs.getD i (0, 0) = ((a : Int), (b : Int)) := by rw [getD_of hlt, ← ha, ← hb']
        have hi64 := own_ints (c := n.toNat + 1) oD'
        rw [hdl] at hi64
        unfold F105.B9
        obtain ⟨bb, oo, hk, c1, c2⟩ := (h.le hG2).idx (show (0 : Int) ≤ i by omega) (by omega)
        simp only [Int.toNat_natCast, hge] at c1 c2
        refine hk _ (ldI_mk c1 (hi64.rd (by omega) (by omega) (hk _ (ldI_mk c2 (hi64.rd (by omega) (by omega) ?_)))))
        simp only [Int.toNat_natCast]
        unfold F105.B8
        refine pif_cases (fun hs => ?_) fun hs => ?_
        · have hne := bne_iff_ne.1 hs
          unfold F105.B7
          obtain ⟨x, hx⟩ : ∃ x, x = if D'.getD b 0 < D'.getD a 0 then D'.getD b 0 else D'.getD a 0 := ⟨_, rfl⟩
          rw [← hx]
          refine hk _ (ldI_mk c1 (own_idx (by omega) (by omega) (stK_1 oD' (by simp; omega) rfl fun G3 b3 o3 => ?_)))
          rw [Int.toNat_natCast, ← List.map_set] at o3
          unfold F105.B6
          have hG3 := b3.le hG2 (by have := l1.1; omega)
          obtain ⟨bb', oo', hk', c1', c2'⟩ := (h.le hG3).idx (show (0 : Int) ≤ i by omega) (by omega)
          simp only [Int.toNat_natCast, hge] at c1' c2'
          rw [← hx]
          refine hk' _ (ldI_mk c2' (own_idx (by omega) (by omega) (stK_1 o3 (by simp; omega) rfl fun G4 b4 o4 => ?_)))
          rw [Int.toNat_natCast, ← List.map_set] at o4
          obtain ⟨m1, m2⟩ := hD'.merge hin (by omega) (by omega) hne hx
          unfold F105.B5 F105.B4
          rw [wrap_id (by omega) (by omega)]
          refine ⟨⟨rfl, rfl, b4.le hG3 (by have := l1.1; omega), i + 1, _, by omega, by omega, o4, m1, .inl ⟨rfl, ?_⟩⟩, by simp; omega⟩
          rcases hc with ⟨_, hc⟩ | ⟨_, rfl, _⟩
          · omega
          · exact m2
        · have he := bne_eq_false_iff_eq.1 hs
          unfold F105.B4
          rw [wrap_id (by omega) (by omega)]
          refine ⟨⟨rfl, rfl, hG2, i + 1, D', by omega, by omega, oD', hD', ?_⟩, by simp; omega⟩
          rcases hc with hc | ⟨q1, rfl, q3⟩
          · exact .inl hc
          · refine .inr ⟨q1, rfl, fun j hj => ?_⟩
            by_cases e : j = i
            · subst e; rw [hge]; simpa using he
            · exact q3 j (by omega)
      · have hge : i = fs.length := by have := of_decide_eq_false hb; omega
        subst hge
        refine ⟨⟨rfl, rfl, hG2, D', oD', hD', fun hx e he => ?_⟩, ?_⟩
        · rcases hc with ⟨q, _⟩ | ⟨_, rfl, q3⟩
          · rw [hx] at q; cases q
          · obtain ⟨j, hj, rfl⟩ := List.getElem_of_mem he
            have := q3 j hj
            rwa [getD_of hj] at this
        · show 2 * rowSum G2 b0 + (if x7 = true then 1 else 0) < 2 * rowSum G1 b0 + (if true = true then 1 else 0)
          rw [rowSum_own oD', hsum]
          rcases hc with ⟨rfl, q⟩ | ⟨rfl, rfl, _⟩
          · simp; omega
          · simp
    · subst hb
      unfold F105.B1
      exact k b0 D G1 hG1 oD hb0 ⟨hD, hS rfl⟩
end Go.Proofs
/- Contracts: how many parts. -/
set_option linter.unusedVariables false
set_option linter.unusedSimpArgs false
set_option maxRecDepth 100000
namespace Go.Proofs
open Go.Abs

variable {H : AHeap} {u : Value} {fs : List (Int × Int)} {K : Value → AHeap → Prop}

/-- How many of the first n name themselves. -/
def selfs (D : List Int) : Nat → Nat
  | 0 => 0
  | n + 1 => selfs D n + if D.getD n 0 = (n : Int) then 1 else 0
theorem selfs_le (D : List Int) : ∀ n, selfs D n ≤ n
  | 0 => Nat.le_refl _
  | n + 1 => by have := selfs_le D n; unfold selfs; split <;> omega
theorem l01Parts_ok {n : Int} (h : Edges H u fs) (hl : fs.length ≤ 1048576) (h0 : 0 < n) (h1 : n ≤ 20) (hf : ∀ e ∈ fs, 0 ≤ e.1 ∧ e.1 < n ∧ 0 ≤ e.2 ∧ e.2 < n)
    (k : ∀ D G, H.le G → D.length = n.toNat → Leads n.toNat fs D → K (.int .i64 (selfs D n.toNat)) G) :
    AC Tryz.prog T0 92 [.int .i64 n, u] H K := by
  apply F92.ac
  unfold F92.B9 F92.B8
  refine l01Leaders_ok h hl h0 h1 hf fun b0 D G1 l1 o1 _ hD => ?_
  have hlen : D.length = n.toNat := hD.led.1
  unfold F92.B7 F92.L2
  refine ⟨fun x0 x5 x6 x7 G => x0 = n ∧ x5 = .slice (some ⟨b0, 0, none⟩) n.toNat (n.toNat + 1) ∧ G1 = G ∧ ∃ i : Nat, x7 = i ∧ i ≤ n.toNat ∧ x6 = selfs D i, fun _ _ _ x7 _ => n.toNat - x7.toNat, ⟨rfl, rfl, rfl, 0, rfl, by omega, rfl⟩, ?_⟩
  rintro x0 x5 x6 x7 G ⟨rfl, rfl, rfl, i, rfl, hi, rfl⟩
  unfold F92.B6
  have hs := selfs_le D i
  by_cases hlt : i < x0.toNat
  · refine pif_t (by simp; omega) ?_
    unfold F92.B5
    have hg : (LI D)[(i : Int).toNat]? = some (.int .i64 (D.getD i 0)) := by
      simp only [Int.toNat_natCast, LI, List.getElem?_map, List.getD, List.getElem?_eq_getElem (show i < D.length by omega)]; rfl
    refine own_idx (by omega) (by omega) (ldI_own o1 hg ?_)
    by_cases he : D.getD i 0 = (i : Int)
    · refine pif_t (by simpa using he) ?_
      unfold F92.B4 F92.B3
      rw [wrap_id (by omega) (by omega), wrap_id (by omega) (by omega)]
      refine ⟨⟨rfl, rfl, rfl, i + 1, by omega, by omega, ?_⟩, by show x0.toNat - (((i : Nat) : Int) + 1).toNat < x0.toNat - ((i : Nat) : Int).toNat; omega⟩
      show ((selfs D i : Nat) : Int) + 1 = ((selfs D i + (if D.getD i 0 = (i : Int) then 1 else 0) : Nat) : Int); rw [if_pos he]; omega
    · refine pif_f (by simpa using he) ?_
      unfold F92.B3
      rw [wrap_id (by omega) (by omega)]
      refine ⟨⟨rfl, rfl, rfl, i + 1, by omega, by omega, ?_⟩, by show x0.toNat - (((i : Nat) : Int) + 1).toNat < x0.toNat - ((i : Nat) : Int).toNat; omega⟩
      show ((selfs D i : Nat) : Int) = ((selfs D i + (if D.getD i 0 = (i : Int) then 1 else 0) : Nat) : Int); rw [if_neg he]; omega
  · refine pif_f (by simp; omega) ?_
    unfold F92.B1
    obtain rfl : i = x0.toNat := by omega
    exact k D _ l1 hlen hD
end Go.Proofs
/- Contracts: other ends. -/
set_option linter.unusedVariables false
set_option linter.unusedSimpArgs false
set_option maxRecDepth 100000
namespace Go.Proofs
open Go.Abs

variable {H G : AHeap} {v u f : Value} {l m c D : List Int} {es fs : List (Int × Int)} {K : Value → AHeap → Prop} {A A' : Nat → Prop} {B : Nat} {ls ms : List (List Int)}

theorem other_ok {e : Int × Int} {x : Int} (h1 : 0 ≤ e.1 ∧ e.1 ≤ 1000000) (h2 : 0 ≤ e.2 ∧ e.2 ≤ 1000000) (h3 : 0 ≤ x ∧ x ≤ 1000000) (k : ∀ G, H.le G → K (.int .i64 (e.1 + e.2 - x)) G) : AC Tryz.prog T0 193 [ve e, .int .i64 x] H K := by
  apply F193.ac
  unfold F193.B2
  refine newK_f rfl fun H1 l1 n1 o1 => ?_
  unfold F193.B1
  have k := k _ l1
  refine ldI_own o1 rfl (ldI_own o1 rfl ?_)
  rw [wrap_id (x := e.1 + e.2) (by omega) (by omega), wrap_id (by omega) (by omega)]
  exact k

theorem on_oth {e : Int × Int} {x : Int} (h : on e x = true) : e.1 + e.2 - x = e.1 ∨ e.1 + e.2 - x = e.2 := by
  unfold on at h
  simp only [Bool.or_eq_true, beq_iff_eq] at h
  omega
end Go.Proofs
/- Plain mathematics: the parts of what is left, as lists of vertices. -/
set_option linter.unusedVariables false
set_option linter.unusedSimpArgs false
namespace Go.Proofs
open Go.Abs

/-- The edges that are not of a kind. -/
def restTo (es : List (Int × Int)) (p : Nat → Bool) (k : Nat) : List (Int × Int) := ((List.range k).filter fun j => !p j).map fun j => es.getD j (0, 0)
def restL (es : List (Int × Int)) (p : Nat → Bool) : List (Int × Int) := restTo es p es.length
theorem restTo_succ (es : List (Int × Int)) (p : Nat → Bool) (k : Nat) : restTo es p (k + 1) = restTo es p k ++ if p k then [] else [es.getD k (0, 0)] := by
  unfold restTo
  rw [List.range_succ, List.filter_append, List.map_append]
  congr 1
  cases h : p k <;> simp [h]
theorem restTo_length (es : List (Int × Int)) (p : Nat → Bool) (k : Nat) : (restTo es p k).length ≤ k := by
  unfold restTo; rw [List.length_map]
  exact Nat.le_trans (List.length_filter_le _ _) (by simp)
theorem mem_restL {es : List (Int × Int)} {p : Nat → Bool} {e : Int × Int} : e ∈ restL es p ↔ ∃ j, j < es.length ∧ p j = false ∧ e = es.getD j (0, 0) := by
  unfold restL restTo
  rw [List.mem_map]
  constructor
  · rintro ⟨j, hj, rfl⟩
    rw [List.mem_filter, List.mem_range] at hj
    exact ⟨j, hj.1, by simpa using hj.2, rfl⟩
  · rintro ⟨j, h1, h2, rfl⟩
    exact ⟨j, by rw [List.mem_filter, List.mem_range]; exact ⟨h1, by simpa using h2⟩, rfl⟩
theorem restTo_none (es : List (Int × Int)) {p : Nat → Bool} (h : ∀ j, p j = false) : ∀ k, k ≤ es.length → restTo es p k = es.take k
  | 0, _ => by simp [restTo]
  | k + 1, hk => by
    rw [restTo_succ, restTo_none es h k (by omega), h k, List.take_succ_eq_append_getElem (show k < es.length by omega), getD_of (show k < es.length by omega)]; rfl
theorem restL_none (es : List (Int × Int)) {p : Nat → Bool} (h : ∀ j, p j = false) : restL es p = es := by
  unfold restL; rw [restTo_none es h _ (Nat.le_refl _), List.take_length]
theorem restL_sub {es : List (Int × Int)} {p : Nat → Bool} {e : Int × Int} (h : e ∈ restL es p) : e ∈ es := by
  obtain ⟨j, h1, _, rfl⟩ := mem_restL.1 h
  rw [getD_of h1]; exact List.getElem_mem h1

noncomputable def vLeadB (fs : List (Int × Int)) (i : Nat) : Bool := @decide (∀ b, b < i → ¬ Rch (vAdj fs) b i) (Classical.propDecidable _)
theorem vLeadB_iff {fs : List (Int × Int)} {i : Nat} : vLeadB fs i = true ↔ ∀ b, b < i → ¬ Rch (vAdj fs) b i := by unfold vLeadB; simp
noncomputable def sideL (fs : List (Int × Int)) (n v : Nat) : List Int := filtB (rchB (vAdj fs) v) n
/-- The sides with the least vertices less than k. -/
noncomputable def sidesTo (fs : List (Int × Int)) (n k : Nat) : List (List Int) := ((List.range k).filter (vLeadB fs)).map (sideL fs n)
noncomputable def sidesL (fs : List (Int × Int)) (n : Nat) : List (List Int) := sidesTo fs n n
theorem sidesTo_succ (fs : List (Int × Int)) (n k : Nat) : sidesTo fs n (k + 1) = sidesTo fs n k ++ if vLeadB fs k then [sideL fs n k] else [] := by
  unfold sidesTo
  rw [List.range_succ, List.filter_append, List.map_append]
  congr 1
  cases h : vLeadB fs k <;> simp [h]
theorem sidesTo_length (fs : List (Int × Int)) (n k : Nat) : (sidesTo fs n k).length ≤ k := by
  unfold sidesTo; rw [List.length_map]
  exact Nat.le_trans (List.length_filter_le _ _) (by simp)
theorem mem_sideL {fs : List (Int × Int)} {n v : Nat} {x : Int} : x ∈ sideL fs n v ↔ ∃ j : Nat, x = j ∧ j < n ∧ Rch (vAdj fs) v j := by
  unfold sideL; rw [mem_filtB]
  exact ⟨fun ⟨j, h1, h2, h3⟩ => ⟨j, h1, h2, rchB_iff.1 h3⟩, fun ⟨j, h1, h2, h3⟩ => ⟨j, h1, h2, rchB_iff.2 h3⟩⟩
theorem side_get {fs : List (Int × Int)} {n j : Nat} (h : j < (sidesL fs n).length) : ∃ v, v < n ∧ vLeadB fs v = true ∧ (sidesL fs n).getD j [] = sideL fs n v ∧ ((List.range n).filter (vLeadB fs))[j]? = some v := by
  unfold sidesL sidesTo at h ⊢
  rw [List.length_map] at h
  have hm := List.getElem_mem h
  rw [List.mem_filter, List.mem_range] at hm
  refine ⟨_, hm.1, hm.2, ?_, List.getElem?_eq_getElem h⟩
  simp [List.getD, h]
theorem lead_eq {fs : List (Int × Int)} {a b : Nat} (ha : vLeadB fs a = true) (hb : vLeadB fs b = true) (h : Rch (vAdj fs) a b) : a = b := by
  rcases Nat.lt_trichotomy a b with h1 | h1 | h1
  · exact absurd h (vLeadB_iff.1 hb a h1)
  · exact h1
  · exact absurd (h.symm vAdj_symm) (vLeadB_iff.1 ha b h1)
theorem lead_exists {fs : List (Int × Int)} (i : Nat) : ∃ j, j ≤ i ∧ vLeadB fs j = true ∧ Rch (vAdj fs) j i := by
  induction i using Nat.strongRecOn with
  | _ i ih =>
    cases hl : vLeadB fs i with
    | true => exact ⟨i, Nat.le_refl _, hl, .refl⟩
    | false =>
      have : ∃ j, j < i ∧ Rch (vAdj fs) j i := by
        apply Classical.byContradiction
        intro h
        have : vLeadB fs i = true := vLeadB_iff.2 fun b hb hr => h ⟨b, hb, hr⟩
        rw [hl] at this; cases this
      obtain ⟨j, h1, h2⟩ := this
      obtain ⟨j', g1, g2, g3⟩ := ih j h1
      exact ⟨j', by omega, g2, g3.trans h2⟩
theorem side_disj {fs : List (Int × Int)} {n i j : Nat} (hi : i < (sidesL fs n).length) (hj : j < (sidesL fs n).length) {x : Int} (h1 : x ∈ (sidesL fs n).getD i []) (h2 : x ∈ (sidesL fs n).getD j []) : i = j := by
  obtain ⟨a, a1, a2, a3, a4⟩ := side_get hi
  obtain ⟨b, b1, b2, b3, b4⟩ := side_get hj
  rw [a3] at h1; rw [b3] at h2
  obtain ⟨y, rfl, _, h3⟩ := mem_sideL.1 h1
  obtain ⟨y', e, _, h4⟩ := mem_sideL.1 h2
  obtain rfl : y = y' := by omega
  obtain rfl := lead_eq a2 b2 (h3.trans (h4.symm vAdj_symm))
  have nd : ((List.range n).filter (vLeadB fs)).Nodup := List.nodup_range.filter _
  obtain ⟨p1, p2⟩ := List.getElem?_eq_some_iff.1 a4
  obtain ⟨q1, q2⟩ := List.getElem?_eq_some_iff.1 b4
  exact (List.getElem_inj nd).1 (p2.trans q2.symm)
theorem side_cover {fs : List (Int × Int)} {n v : Nat} (h : v < n) : ∃ j, j < (sidesL fs n).length ∧ (v : Int) ∈ (sidesL fs n).getD j [] := by
  obtain ⟨a, a1, a2, a3⟩ := lead_exists (fs := fs) v
  have hm : a ∈ (List.range n).filter (vLeadB fs) := by rw [List.mem_filter, List.mem_range]; exact ⟨by omega, a2⟩
  obtain ⟨j, hj, e⟩ := List.getElem_of_mem hm
  refine ⟨j, by unfold sidesL sidesTo; rw [List.length_map]; exact hj, ?_⟩
  have : (sidesL fs n).getD j [] = sideL fs n a := by
    unfold sidesL sidesTo; simp [List.getD, hj, e]
  rw [this]
  exact mem_sideL.2 ⟨v, rfl, h, a3⟩
theorem side_same {fs : List (Int × Int)} {n j : Nat} (hj : j < (sidesL fs n).length) {x y : Nat} (h1 : (x : Int) ∈ (sidesL fs n).getD j []) (hy : y < n) : (y : Int) ∈ (sidesL fs n).getD j [] ↔ Rch (vAdj fs) x y := by
  obtain ⟨a, a1, a2, a3, _⟩ := side_get hj
  rw [a3] at h1 ⊢
  obtain ⟨x', e, _, h3⟩ := mem_sideL.1 h1
  obtain rfl : x = x' := by omega
  rw [mem_sideL]
  constructor
  · rintro ⟨y', e, _, h4⟩
    obtain rfl : y = y' := by omega
    exact (h3.symm vAdj_symm).trans h4
  · exact fun h => ⟨y, rfl, hy, h3.trans h⟩
theorem side_range {fs : List (Int × Int)} {n j : Nat} (hj : j < (sidesL fs n).length) {x : Int} (h : x ∈ (sidesL fs n).getD j []) : ∃ y : Nat, x = y ∧ y < n := by
  obtain ⟨a, a1, a2, a3, _⟩ := side_get hj
  rw [a3] at h
  obtain ⟨y, h1, h2, _⟩ := mem_sideL.1 h
  exact ⟨y, h1, h2⟩
theorem side_length {fs : List (Int × Int)} {n j : Nat} (hj : j < (sidesL fs n).length) : ((sidesL fs n).getD j []).length ≤ n := by
  obtain ⟨a, a1, a2, a3, _⟩ := side_get hj
  rw [a3]; exact filtB_length _ _
theorem getD_set_ne {l : List Int} {i j : Nat} {x : Int} (h : i ≠ j) : (l.set i x).getD j 0 = l.getD j 0 := by simp [List.getD, List.getElem?_set, h]
theorem getD_set_self {l : List Int} {i : Nat} {x : Int} (h : i < l.length) : (l.set i x).getD i 0 = x := by simp [List.getD, h]
/-- Each vertex's place among the sides. -/
def PlaceTo (fs : List (Int × Int)) (n : Nat) (P : List Int) (k t : Nat) : Prop := P.length = n ∧ (∀ j, j < k → ∀ x : Nat, (x : Int) ∈ (sidesL fs n).getD j [] → P.getD x 0 = j) ∧ ∀ t', t' < t → P.getD (((sidesL fs n).getD k []).getD t' 0).toNat 0 = k
theorem PlaceTo.put {fs : List (Int × Int)} {n : Nat} {P : List Int} {k t : Nat} (h : PlaceTo fs n P k t) (hk : k < (sidesL fs n).length) (ht : t < ((sidesL fs n).getD k []).length) : PlaceTo fs n (P.set (((sidesL fs n).getD k []).getD t 0).toNat k) k (t + 1) := by
  obtain ⟨h1, h2, h3⟩ := h
  have hm := List.getElem_mem ht
  obtain ⟨y, e, hy⟩ := side_range hk hm
  have ey : (((sidesL fs n).getD k []).getD t 0).toNat = y := by rw [getD_of ht, e]; rfl
  rw [e] at hm
  rw [ey]
  refine ⟨by simp [h1], fun j hj x hx => ?_, fun t' ht' => ?_⟩
  · have hjl : j < (sidesL fs n).length := by omega
    by_cases ex : y = x
    · subst ex
      have := side_disj hjl hk hx hm
      omega
    · rw [getD_set_ne ex]; exact h2 j hj x hx
  · by_cases et : t' = t
    · subst et
      rw [ey]; exact getD_set_self (by omega)
    · have := h3 t' (by omega)
      by_cases ex : y = (((sidesL fs n).getD k []).getD t' 0).toNat
      · rw [← ex]; exact getD_set_self (by omega)
      · rw [getD_set_ne ex]; exact this
theorem PlaceTo.next {fs : List (Int × Int)} {n : Nat} {P : List Int} {k : Nat} (h : PlaceTo fs n P k ((sidesL fs n).getD k []).length) : PlaceTo fs n P (k + 1) 0 := by
  obtain ⟨h1, h2, h3⟩ := h
  refine ⟨h1, fun j hj x hx => ?_, fun t' h => absurd h (by omega)⟩
  by_cases e : j = k
  · subst e
    obtain ⟨t, ht, hte⟩ := List.getElem_of_mem hx
    have := h3 t ht
    rw [getD_of ht, hte] at this
    simpa using this
  · exact h2 j (by omega) x hx
theorem PlaceTo.iff {fs : List (Int × Int)} {n : Nat} {P : List Int} (h : PlaceTo fs n P (sidesL fs n).length 0) {a b : Nat} (ha : a < n) (hb : b < n) : P.getD a 0 = P.getD b 0 ↔ Rch (vAdj fs) a b := by
  obtain ⟨_, h2, _⟩ := h
  obtain ⟨i, hi, ia⟩ := side_cover (fs := fs) ha
  obtain ⟨j, hj, jb⟩ := side_cover (fs := fs) hb
  have e1 := h2 i hi a ia
  have e2 := h2 j hj b jb
  constructor
  · intro e
    obtain rfl : i = j := by omega
    exact (side_same hi ia hb).1 jb
  · intro h
    have := (side_same hi ia hb).2 h
    rw [e1, h2 i hi b this]
theorem PlaceTo.init {fs : List (Int × Int)} {n : Nat} {P : List Int} (h : P.length = n) : PlaceTo fs n P 0 0 := ⟨h, fun j hj => absurd hj (by omega), fun t ht => absurd ht (by omega)⟩

/-- A bond. -/
def Bond (n : Nat) (es : List (Int × Int)) (l : List Int) : Prop := (sidesL (restL es (bitB l)) n).length = (sidesL es n).length + 1 ∧ ∀ x ∈ l, ¬ Rch (vAdj (restL es (bitB l))) (es.getD x.toNat (0, 0)).1.toNat (es.getD x.toNat (0, 0)).2.toNat
noncomputable instance (n : Nat) (es : List (Int × Int)) (l : List Int) : Decidable (Bond n es l) := Classical.propDecidable _
end Go.Proofs
/- Contracts: how far the vertices are. -/
set_option linter.unusedVariables false
set_option linter.unusedSimpArgs false
set_option maxRecDepth 100000
namespace Go.Proofs
open Go.Abs

variable {H G : AHeap} {v u f : Value} {l m c D : List Int} {es fs : List (Int × Int)} {K : Value → AHeap → Prop}

/-- What is not too far. -/
def farB (D : List Int) (w : Nat) : Bool := decide (w < D.length ∧ 0 ≤ D.getD w 0)
theorem farB_lt {w : Nat} (h : farB D w = true) : w < D.length := (of_decide_eq_true h).1
theorem farB_iff {w : Nat} (h : w < D.length) : farB D w = true ↔ 0 ≤ D.getD w 0 := by unfold farB; rw [decide_eq_true_iff]; exact ⟨fun h => h.2, fun h' => ⟨h, h'⟩⟩
theorem farB_set {y : Nat} {d : Int} (h : y < D.length) (hd : 0 ≤ d) : farB (D.set y d) = insB (farB D) y := by
  funext j
  unfold farB insB
  rw [List.length_set]
  by_cases e : y = j
  · subst e; rw [getD_set_self h]; simp [h, hd]
  · rw [getD_set_ne e]; simp [e]
structure FarOk (n : Nat) (D : List Int) : Prop where
  len : D.length = n
  rng : ∀ w, w < n → -1 ≤ D.getD w 0 ∧ D.getD w 0 + unseen (farB D) n ≤ 21
theorem FarOk.set {n x y : Nat} (h : FarOk n D) (hx : farB D x = true) (hy : y < n) (hf : farB D y = false) : FarOk n (D.set y (D.getD x 0 + 1)) := by
  have hl := h.len
  have hxl := farB_lt hx
  have hx0 := (farB_iff hxl).1 hx
  have hu := unseen_ins (S := farB D) hy hf
  refine ⟨by simp [hl], fun w hw => ?_⟩
  rw [farB_set (by omega) (by omega)]
  by_cases e : y = w
  · subst e
    rw [getD_set_self (by omega)]
    have := h.rng x (by omega)
    omega
  · rw [getD_set_ne e]
    have := h.rng w hw
    omega
/-- A state inside a round. -/
structure InV (adj : Nat → Nat → Prop) (a x n M : Nat) (D' : Nat → Prop) (S : Nat → Bool) (R : List Nat) : Prop where
  ex : Ex adj a S (x :: R)
  bnd : ∀ y, S y = true → y < n
  mu : 2 * unseen S n + (R.length + 1) ≤ M
  past : ∀ j, D' j → S j = true
section
variable {adj : Nat → Nat → Prop} {a x n M : Nat} {D' D2 : Nat → Prop} {S : Nat → Bool} {R : List Nat}
theorem InV.more (h : InV adj a x n M D' S R) (hd : ∀ j, D2 j → D' j ∨ S j = true) : InV adj a x n M D2 S R :=
  ⟨h.ex, h.bnd, h.mu, fun j hj => (hd j hj).elim (h.past j) id⟩
theorem InV.push {y : Nat} (h : InV adj a x n M D' S R) (hy : adj x y) (hyn : y < n) (hn : S y = false) (hd : ∀ j, D2 j → D' j ∨ j = y) : InV adj a x n M D2 (insB S y) (R ++ [y]) := by
  have hx : S x = true := h.ex.q x (by simp)
  refine ⟨h.ex.push hx hy, fun z hz => ?_, ?_, fun j hj => ?_⟩
  · by_cases e' : z = y
    · rw [e']; exact hyn
    · exact h.bnd z (insB_ne hz e')
  · have := unseen_ins (n := n) hyn hn
    have := h.mu
    simp; omega
  · rcases hd j hj with hj | rfl
    · exact insB_of (h.past j hj)
    · exact insB_self _ _
theorem InV.pop (h : InV adj a x n M D' S R) (hd : ∀ j, adj x j → D' j) : Ex adj a S R ∧ 2 * unseen S n + R.length < M :=
  ⟨h.ex.pop fun y hy => h.past y (hd y hy), by have := h.mu; omega⟩
end
/-- Past the first t edges at a vertex. -/
def PastV (es : List (Int × Int)) (p : Nat → Bool) (x t : Nat) (j : Nat) : Prop := ∃ t', t' < t ∧ t' < (atL es x).length ∧ p ((atL es x).getD t' 0).toNat = false ∧ (j : Int) = (es.getD ((atL es x).getD t' 0).toNat (0, 0)).1 + (es.getD ((atL es x).getD t' 0).toNat (0, 0)).2 - x
theorem PastV.step {p : Nat → Bool} {x t j i : Nat} (h : PastV es p x (t + 1) j) (hi : (atL es x).getD t 0 = i) : PastV es p x t j ∨ (p i = false ∧ (j : Int) = (es.getD i (0, 0)).1 + (es.getD i (0, 0)).2 - x) := by
  obtain ⟨t', h1, h2, h3, h4⟩ := h
  by_cases e : t' = t
  · subst e; rw [hi, Int.toNat_natCast] at h3 h4; exact .inr ⟨h3, h4⟩
  · exact .inl ⟨t', by omega, h2, h3, h4⟩
theorem PastV.fin {p : Nat → Bool} {x j : Nat} (h : vAdj (restL es p) x j) : PastV es p x (atL es x).length j := by
  have : ∃ i, i < es.length ∧ p i = false ∧ on (es.getD i (0, 0)) x = true ∧ (j : Int) = (es.getD i (0, 0)).1 + (es.getD i (0, 0)).2 - x := by
    rcases h with h | h
    · obtain ⟨i, h1, h2, h3⟩ := mem_restL.1 h
      exact ⟨i, h1, h2, by rw [← h3]; unfold on; simp, by rw [← h3]; simp only; omega⟩
    · obtain ⟨i, h1, h2, h3⟩ := mem_restL.1 h
      exact ⟨i, h1, h2, by rw [← h3]; unfold on; simp, by rw [← h3]; simp only; omega⟩
  obtain ⟨i, h1, h2, h3, h4⟩ := this
  have hm : (i : Int) ∈ atL es x := mem_atL.2 ⟨i, rfl, h1, h3⟩
  obtain ⟨t, ht, hte⟩ := List.getElem_of_mem hm
  have e : (atL es x).getD t 0 = i := by rw [getD_of ht, hte]
  exact ⟨t, ht, ht, by rw [e]; exact h2, by rw [e]; exact h4⟩
theorem adj_of {p : Nat → Bool} {x y i : Nat} (h1 : i < es.length) (h2 : p i = false) (h3 : on (es.getD i (0, 0)) x = true) (h4 : (y : Int) = (es.getD i (0, 0)).1 + (es.getD i (0, 0)).2 - x) : vAdj (restL es p) x y := by
  unfold on at h3
  simp only [Bool.or_eq_true, beq_iff_eq] at h3
  rcases h3 with h | h
  · refine .inl (mem_restL.2 ⟨i, h1, h2, ?_⟩)
    rw [← h, show (y : Int) = (es.getD i (0, 0)).2 by omega]
  · refine .inr (mem_restL.2 ⟨i, h1, h2, ?_⟩)
    rw [← h, show (y : Int) = (es.getD i (0, 0)).1 by omega]

/-- A state of far vertices and a queue. -/
def FarQ (n m0 b0 : Nat) (X : (Nat → Bool) → List Nat → Prop) (x7 q : Value) (G : AHeap) : Prop := x7 = .slice (some ⟨b0, 0, none⟩) n (n + 1) ∧ ∃ (D : List Int) (Q : List Nat), Own G b0 2 (LI D) ∧ FarOk n D ∧ X (farB D) Q ∧ Sl m0 G q 2 1 (LI (NI Q))
def rowFar (G : AHeap) (b : Nat) : Nat → Bool :=
  match G[b]? with
  | some (some (.row cs _ _)) => farB (cs.map fun | .int _ x => x | _ => 0)
  | _ => fun _ => false
theorem rowFar_own {b : Nat} {t : TypeId} (h : Own G b t (LI D)) : rowFar G b = farB D := by
  unfold rowFar; rw [h]; simp only [LI, List.map_map]
  congr 1
  conv => rhs; rw [← List.map_id D]
  rfl

theorem distances_ok {n : Int} {a s : Nat} (h : Edges H v es) (hg : IsG n es) (hs : s < 2 ^ 64) (ha : a < n.toNat)
    (k : ∀ b0 D G, H.le G → H.length ≤ b0 → Own G b0 2 (LI D) → D.length = n.toNat → (∀ w, w < n.toNat → (0 ≤ D.getD w 0 ↔ Rch (vAdj (restL es fun j => s.testBit j)) a w)) → K (.slice (some ⟨b0, 0, none⟩) n.toNat (n.toNat + 1)) G) :
    AC Tryz.prog T0 155 [.agg ⟨[.int .i64 n, v]⟩, .int .i64 (a : Nat), .int .u64 (s : Nat)] H K := by
  have n0 := hg.ed.lo; have n1 := hg.ed.hi
  have h30 : es.length ≤ 30 := by have := hg.ed.len; omega
  apply F155.ac
  unfold F155.B17
  refine newK_f (all_iv (edges_one' h)) fun H1 l1 _ o1 => ?_
  unfold F155.B16
  refine newK_f rfl fun H2 l2 _ o2 => ldI_own (o1.le l2) rfl (repeat_ok (t := -1) (by simpa using o2) (by omega) (by omega) fun H3 l3 o3 => ?_)
  have l13 := AHeap.le_trans l2 l3
  obtain ⟨b0, hb0⟩ : ∃ b0, b0 = H2.length := ⟨_, rfl⟩
  have hb0l : H1.length ≤ b0 := by rw [hb0]; exact l2.1
  rw [← hb0] at o3
  rw [← hb0]
  clear o2 hb0
  unfold F155.B15
  refine own_idx (by omega) (by omega) (stK_1 o3 (by simp; omega) rfl fun H4 b4 o4 => ?_)
  rw [Int.toNat_natCast, show LI (List.replicate n.toNat (-1)) = (List.replicate n.toNat (-1)).map (Value.int .i64) from rfl, ← List.map_set] at o4
  have o4 : Own H4 b0 2 (LI ((List.replicate n.toNat (-1)).set a 0)) := o4
  have hb03 : b0 < H4.length := o4.lt
  have l14 : H1.le H4 := b4.le l13 hb0l
  unfold F155.B14
  refine newK_f rfl fun H5 l5 _ o5 => ?_
  obtain ⟨p, hp⟩ : ∃ p : Nat → Bool, p = fun j => s.testBit j := ⟨_, rfl⟩
  rw [← hp] at k
  have D0 : ∀ w, w < n.toNat → ((List.replicate n.toNat (-1)).set a (0 : Int)).getD w 0 = if a = w then 0 else -1 := by
    intro w hw
    by_cases e : a = w
    · subst e; rw [if_pos rfl]; exact getD_set_self (by simp; omega)
    · rw [if_neg e, getD_set_ne e]; simp [List.getD, hw]
  have F0 : ∀ w, farB ((List.replicate n.toNat (-1)).set a (0 : Int)) w = true ↔ w = a := by
    intro w
    by_cases hw : w < n.toNat
    · rw [farB_iff (by simp; omega), D0 w hw]
      by_cases e : a = w
      · subst e; simp
      · rw [if_neg e]; exact ⟨fun h => absurd h (by decide), fun h => absurd h.symm e⟩
    · exact ⟨fun h => absurd (farB_lt h) (by simp; omega), fun h => by omega⟩
  unfold F155.L2
  refine ⟨fun x2 x3 x7 x8 G => ((s : Nat) : Int) = x2 ∧ H.length = x3 ∧ H1.le G ∧ H4.length ≤ G.length ∧ FarQ n.toNat H4.length b0 (fun S Q => Ex (vAdj (restL es p)) a S Q ∧ (∀ y, S y = true → y < n.toNat) ∧ 2 * unseen S n.toNat + Q.length ≤ 41) x7 x8 G,
    fun _ _ _ x8 G => 2 * unseen (rowFar G b0) n.toNat + lenV x8, ⟨rfl, rfl, AHeap.le_trans l14 l5, l5.1, rfl, _, [a], o4.le l5, ⟨by simp, fun w hw => ?_⟩, ⟨.init F0, fun y hy => ?_, ?_⟩, Fresh.sl (.inr ⟨_, 1, Nat.le_refl _, rfl, o5, rfl⟩)⟩, ?_⟩
  · rw [D0 w hw]
    have := unseen_le (farB ((List.replicate n.toNat (-1)).set a (0 : Int))) n.toNat
    split <;> omega
  · rw [(F0 y).1 hy]; exact ha
  · have := unseen_le (farB ((List.replicate n.toNat (-1)).set a (0 : Int))) n.toNat
    simp; omega
  clear o5 l5 D0 F0 o4 o3 b4
  rintro x2 x3 x7 x8 G ⟨rfl, rfl, hG, hM4, rfl, D, Q, oD, hD, ⟨hE, hB, hU⟩, hQ⟩
  have oG := o1.le hG
  unfold F155.B13
  refine hQ.len (by decide) (n := Q.length) (by simp) (pif_cases (fun hb => ?_) fun hb => ?_)
  · have hpos : 0 < Q.length := by have := of_decide_eq_true hb; omega
    cases Q with
    | nil => simp at hpos
    | cons x Q =>
    have hxl : x < n.toNat := hB x (hE.q x (by simp))
    have hmu : 2 * unseen (rowFar G b0) n.toNat + lenV x8 = 2 * unseen (farB D) n.toNat + (Q.length + 1) := by
      rw [Sl_lenV hQ, rowFar_own oD]; simp
    have hU : 2 * unseen (farB D) n.toNat + (Q.length + 1) ≤ 41 := hU
    obtain ⟨M, hM⟩ : ∃ M, M = 2 * unseen (farB D) n.toNat + (Q.length + 1) := ⟨_, rfl⟩
    unfold F155.B12
    refine ldI_own oG rfl (ld1_own oG rfl (hQ.ints.rd (by decide) (by simp) ?_))
    rw [show (NI (x :: Q)).getD (0 : Int).toNat 0 = (x : Int) from rfl]
    have lG := AHeap.le_trans l1 hG
    refine at_ok (h.le lG) (by omega) fun w G2 hG2 hF => ?_
    have h3 := hg.three (v := (x : Int)) (by omega) (by omega)
    refine hF.len (by decide) (n := 3) (by rw [List.length_map, h3]) ?_
    have lG2 := AHeap.le_trans hG hG2
    have hbG : b0 < G.length := oD.lt
    unfold F155.L4
    refine ⟨fun x2 x3 x7 x8 x30 x31 x32 G => ((s : Nat) : Int) = x2 ∧ H.length = x3 ∧ w = x30 ∧ 3 = x31 ∧ H1.le G ∧ H4.length ≤ G.length ∧ Sl H4.length G w 2 1 (LI (atL es x)) ∧ (∀ b, bk w = some b → bk x8 ≠ some b) ∧
        ∃ t : Nat, x32 = t ∧ t ≤ 3 ∧ FarQ n.toNat H4.length b0 (fun S Q' => ∃ R, Q' = x :: R ∧ InV (vAdj (restL es p)) a x n.toNat M (PastV es p x t) S R) x7 x8 G,
      fun _ _ _ _ _ _ x32 _ => 3 - x32.toNat, ⟨rfl, rfl, rfl, rfl, lG2, Nat.le_trans hM4 hG2.1, hF.less hM4, (fun b hb hb' => by have := (hF.lt hb).1; have := (hQ.lt hb').2; omega), 0, rfl, by omega, rfl, D, x :: Q, oD.le hG2, hD, ⟨Q, rfl, hE, hB, by omega, fun j ⟨t', h, _⟩ => absurd h (by omega)⟩, hQ.le hG2⟩, ?_⟩
    clear hQ hE hB hF hG2 lG2 oG lG hG hM4 hbG oD hD
    rintro x2 x3 x7 x8' x30 x31 x32 G3 ⟨rfl, rfl, rfl, rfl, hG, hM4, hW, hA, t, rfl, ht, rfl, D3, _, oD, hD, ⟨R, rfl, hX⟩, hQ⟩
    have lG := AHeap.le_trans l1 hG
    have oG := o1.le hG
    unfold F155.B11
    refine pif_cases (fun hb => ?_) fun hb => ?_
    · have ht3 : t < 3 := by have := of_decide_eq_true hb; omega
      obtain ⟨i, hi1, hi2, hi3⟩ := at_get (es := es) (w := (x : Int)) (t := t) (by omega)
      obtain ⟨d1, d2, d3, d4, d5⟩ := hg.ed.ends es[i] (List.getElem_mem hi2)
      rw [← getD_of (d := (0, 0)) hi2] at d1 d2 d3 d4 d5
      obtain ⟨y, hy⟩ : ∃ y : Nat, (es.getD i (0, 0)).1 + (es.getD i (0, 0)).2 - (x : Int) = y := ⟨((es.getD i (0, 0)).1 + (es.getD i (0, 0)).2 - (x : Int)).toNat, by rcases on_oth hi3 with e | e <;> omega⟩
      have hyn : y < n.toNat := by rcases on_oth hi3 with e | e <;> omega
      have hstep : ∀ j, PastV es p x (t + 1) j → PastV es p x t j ∨ (p i = false ∧ j = y) := fun j hj => (PastV.step hj hi1).imp id fun ⟨h1, h2⟩ => ⟨h1, by omega⟩
      unfold F155.B10
      refine hW.ints.rd (by omega) (by omega) ?_
      simp only [Int.toNat_natCast, hi1]
      unfold F155.B9
      obtain ⟨bb, oo, hk, c1, c2⟩ := (h.le lG).idx (show (0 : Int) ≤ i by omega) (by omega)
      simp only [Int.toNat_natCast] at c1 c2
      refine ld1_own oG rfl (hk _ (ldI_mk c1 (ldI_mk c2 (hQ.ints.rd (by decide) (by simp) ?_))))
      rw [show (NI (x :: R)).getD (0 : Int).toNat 0 = (x : Int) from rfl]
      refine other_ok (e := es.getD i (0, 0)) (by omega) (by omega) (by omega) fun G4 l4 => asI_mk ?_
      rw [hy]
      have hG := AHeap.le_trans hG l4
      have hM4 := Nat.le_trans hM4 l4.1
      have hW := hW.le l4
      have oD := oD.le l4
      have hQ := hQ.le l4
      have oi := own_ints (c := n.toNat + 1) oD
      rw [hD.len] at oi
      have hyl : y < D3.length := by rw [hD.len]; exact hyn
      have hxl3 : x < D3.length := by rw [hD.len]; exact hxl
      have pi' : p i = s.testBit i := by rw [hp]
      unfold F155.B8
      refine oi.rd (by omega) (by omega) (pif_cases (fun hb => ?_) fun hb => ?_)
      · have hn : farB D3 y = false := by
          have := of_decide_eq_true hb
          rw [Int.toNat_natCast] at this
          cases hf : farB D3 y with
          | false => rfl
          | true => have := (farB_iff hyl).1 hf; omega
        refine has_ok hs (by omega) (asB_mk ?_)
        rw [Int.toNat_natCast, ← pi']
        refine pif_cases (fun hb => ?_) fun hb => ?_
        · have hpi : p i = false := by simpa using hb
          have hx3 : farB D3 x = true := hX.ex.q x (by simp)
          have hx0 := (farB_iff hxl3).1 hx3
          have hr := (hD.rng x hxl).2
          unfold F155.B7
          refine hQ.ints.rd (by decide) (by simp) ?_
          rw [show (NI (x :: R)).getD (0 : Int).toNat 0 = (x : Int) from rfl]
          refine oi.rd (by omega) (by omega) (own_idx (by omega) (by omega) (stK_1 oD (by simp; omega) rfl fun G5 b5 o5 => ?_))
          rw [Int.toNat_natCast, Int.toNat_natCast, wrap_id (by omega) (by omega)] at o5
          have o5 : Own G5 b0 2 (LI (D3.set y (D3.getD x 0 + 1))) := by rw [← List.map_set] at o5; exact o5
          have hD5 := hD.set hx3 hyn hn
          have hG5 := b5.le hG hb0l
          have hQ5 := hQ.but b5 hb03
          have hW5 := hW.but b5 hb03
          unfold F155.B6
          refine hQ5.pushN E_int (by decide) (by rw [b5.len]; exact hM4) (n := 1) (ys := [.int .i64 y]) rfl rfl (by have := hX.mu; simp; omega) (by simp) fun v' G6 k6 ot6 nb6 f6 => ?_
          unfold F155.B5
          rw [wrap_id (by omega) (by omega)]
          refine ⟨⟨rfl, rfl, rfl, rfl, k6.le hG5 (by omega), by have := k6.len; have := b5.len; omega, hW5.oth ot6 hA, (fun b hb hb' => by have := (hW5.lt hb).2; have := nb6 b hb'; omega), t + 1, by omega, by omega, rfl, _, x :: (R ++ [y]), k6.own o5 hb03, hD5, ⟨R ++ [y], rfl, ?_⟩, by simpa using f6.sl⟩, by simp; omega⟩
          rw [farB_set hyl (by omega)]
          exact hX.push (adj_of hi2 hpi hi3 hy.symm) hyn hn fun j hj => (hstep j hj).imp id fun h => h.2
        · have hpi : p i = true := by simpa using hb
          unfold F155.B5
          rw [wrap_id (by omega) (by omega)]
          refine ⟨⟨rfl, rfl, rfl, rfl, hG, hM4, hW, hA, t + 1, by omega, by omega, rfl, D3, x :: R, oD, hD, ⟨R, rfl, hX.more fun j hj => ?_⟩, hQ⟩, by simp; omega⟩
          rcases hstep j hj with h | ⟨h, rfl⟩
          · exact .inl h
          · rw [hpi] at h; cases h
      · have hn : farB D3 y = true := by
          have := of_decide_eq_false hb
          rw [Int.toNat_natCast] at this
          exact (farB_iff hyl).2 (by omega)
        unfold F155.B5
        rw [wrap_id (by omega) (by omega)]
        refine ⟨⟨rfl, rfl, rfl, rfl, hG, hM4, hW, hA, t + 1, by omega, by omega, rfl, D3, x :: R, oD, hD, ⟨R, rfl, hX.more fun j hj => ?_⟩, hQ⟩, by simp; omega⟩
        rcases hstep j hj with h | ⟨h, rfl⟩
        · exact .inl h
        · exact .inr hn
    · have ht3 : t = 3 := by have := of_decide_eq_false hb; omega
      subst ht3
      unfold F155.B3
      obtain ⟨hE, hlt⟩ := hX.pop fun j hj => by rw [← h3]; exact PastV.fin hj
      refine hQ.drop (i := 1) (n := R.length + 1) (by simp) (by decide) (by omega) (by omega) fun v' hv' => ?_
      have hv' : Sl H4.length G3 v' 2 1 (LI (NI R)) := by simpa using hv'
      refine ⟨⟨rfl, rfl, hG, hM4, rfl, D3, R, oD, hD, ⟨hE, hX.bnd, by omega⟩, hv'⟩, ?_⟩
      show 2 * unseen (rowFar G3 b0) n.toNat + lenV v' < 2 * unseen (rowFar G b0) n.toNat + lenV x8
      rw [hmu, Sl_lenV hv', rowFar_own oD]
      simpa [hM] using hlt
  · have hz : Q = [] := by
      have := of_decide_eq_false hb
      cases Q with
      | nil => rfl
      | cons x Q => simp at this
    subst hz
    unfold F155.B1
    refine k b0 D G (AHeap.le_trans l1 hG) (by have := l1.1; omega) oD hD.len fun w hw => ?_
    rw [← farB_iff (by have := hD.len; omega)]
    exact hE.fin w
end Go.Proofs
/- Lists of lists of one's own. -/
set_option linter.unusedVariables false
set_option linter.unusedSimpArgs false
set_option maxRecDepth 100000
namespace Go.Proofs
open Go.Abs

variable {H G : AHeap} {v u f : Value} {l m c : List Int} {es fs : List (Int × Int)} {K : Value → AHeap → Prop} {A : Nat → Prop} {B : Nat} {ls : List (List Int)}

noncomputable def tiRow : TI := (T0 28).getD ⟨.bool, 0, 0, undef⟩
theorem E_row : Elem T0 28 1 := ⟨tiRow, by kernel_rfl, by kernel_rfl, of_decide_eq_true (by kernel_rfl), by kernel_rfl⟩
noncomputable def tiEdge : TI := (T0 78).getD ⟨.bool, 0, 0, undef⟩
theorem E_edge : Elem T0 78 2 := ⟨tiEdge, by kernel_rfl, by kernel_rfl, of_decide_eq_true (by kernel_rfl), by kernel_rfl⟩

theorem Sl_rd1 {m0 : Nat} {t : TypeId} {cs : List Value} {i : Int} {K : Nat → Nat → Prop} (h : Sl m0 H v t 1 cs) (h0 : 0 ≤ i) (h1 : i < cs.length) (k : ∀ b o, H.cell b o = cs[i.toNat]? → K b o) : idxK v i 1 K := by
  rcases h with ⟨rfl, _⟩ | ⟨b, n, pre, post, _, rfl, ho, hn⟩
  · simp at h1; omega
  · refine ⟨h0, by omega, k _ _ ?_⟩
    rw [Nat.mul_one, Own.cell ho, List.append_assoc, List.getElem?_append_right (Nat.le_add_right _ _), Nat.add_sub_cancel_left, List.getElem?_append_left (by omega)]
theorem Sl_rd {m0 : Nat} {t : TypeId} {cs : List Value} {i : Int} {x : Value} {K : Value → Prop} (h : Sl m0 H v t 1 cs) (h0 : 0 ≤ i) (h1 : i < cs.length) (hx : cs[i.toNat]? = some x) (k : K x) : idxK v i 1 (fun b o => ld1 H b o K) :=
  Sl_rd1 h h0 h1 fun b o hc => ld1_mk (hc.trans hx) k
/-- A list of lists in rows of one's own, each in its own block, of a kind and older than B. -/
def RowsF (A : Nat → Prop) (B : Nat) (H : AHeap) (v : Value) (ls : List (List Int)) : Prop :=
  ∃ vs : List Value, Fresh 0 H v 28 1 vs ∧ vs.length = ls.length ∧ (∀ b, bk v = some b → A b ∧ b < B) ∧
    ∀ i, i < ls.length → ∃ w, vs[i]? = some w ∧ Fresh 0 H w 2 1 (LI (ls.getD i [])) ∧ ∀ b, bk w = some b → A b ∧ b < B ∧ bk v ≠ some b ∧ ∀ j w', j < i → vs[j]? = some w' → bk w' ≠ some b
theorem RowsF.nil : RowsF A B H (.slice none 0 0) [] := ⟨[], .inl ⟨rfl, .inl rfl⟩, rfl, (fun b h => by cases h), fun i h => absurd h (by simp)⟩
theorem RowsF.nil1 {b : Nat} (ho : Own H b 28 []) (ha : A b) (hb : b < B) : RowsF A B H (.slice (some ⟨b, 0, none⟩) 0 (0 + 1)) [] :=
  ⟨[], .inr ⟨b, 0, Nat.zero_le _, rfl, ho, rfl⟩, rfl, (fun b' h => by cases h; exact ⟨ha, hb⟩), fun i h => absurd h (by simp)⟩
theorem RowsF.mono {A' : Nat → Prop} {B' : Nat} (h : RowsF A B H v ls) (ha : ∀ b, A b → A' b) (hb : B ≤ B') : RowsF A' B' H v ls := by
  obtain ⟨vs, h1, h2, h3, h4⟩ := h
  refine ⟨vs, h1, h2, fun b hbk => ⟨ha b (h3 b hbk).1, by have := (h3 b hbk).2; omega⟩, fun i hi => ?_⟩
  obtain ⟨w, g1, g2, g3⟩ := h4 i hi
  exact ⟨w, g1, g2, fun b hbk => ⟨ha b (g3 b hbk).1, by have := (g3 b hbk).2.1; omega, (g3 b hbk).2.2⟩⟩
theorem fresh_oth {m0 : Nat} {t : TypeId} {z : Nat} {cs : List Value} (h : Fresh m0 H v t z cs) (k : ∀ b o, bk v = some b → H[b]? = some (some o) → G[b]? = some (some o)) : Fresh m0 G v t z cs := by
  rcases h with h | ⟨b, n, h1, rfl, h3, h4⟩
  · exact .inl h
  · exact .inr ⟨b, n, h1, rfl, k b _ rfl h3, h4⟩
theorem RowsF.move (h : RowsF A B H v ls) (k : ∀ b o, A b → b < B → H[b]? = some (some o) → G[b]? = some (some o)) : RowsF A B G v ls := by
  obtain ⟨vs, h1, h2, h3, h4⟩ := h
  refine ⟨vs, fresh_oth h1 fun b o hb ho => k b o (h3 b hb).1 (h3 b hb).2 ho, h2, h3, fun i hi => ?_⟩
  obtain ⟨w, g1, g2, g3⟩ := h4 i hi
  exact ⟨w, g1, fresh_oth g2 fun b o hb ho => k b o (g3 b hb).1 (g3 b hb).2.1 ho, g3⟩
theorem RowsF.le (h : RowsF A B H v ls) (hl : H.le G) : RowsF A B G v ls := h.move fun b o _ _ ho => hl.2 b o ho
theorem RowsF.keep (h : RowsF A B H v ls) (hk : Keep B H G) : RowsF A B G v ls := h.move fun b o _ hb ho => hk.old b o hb ho
theorem RowsF.but {b : Nat} (h : RowsF A B H v ls) (hb : But b H G) (hn : ¬ A b) : RowsF A B G v ls :=
  h.move fun c o ha _ ho => by rw [hb.same c (fun e => hn (e ▸ ha))]; exact ho
theorem RowsF.len (h : RowsF A B H v ls) {K : Nat → Prop} (k : K ls.length) : lenK v K := by
  obtain ⟨vs, h1, h2, _⟩ := h
  exact h1.sl.len (by decide) (n := ls.length) (by omega) k
theorem RowsF.push {w : Value} (h : RowsF A B H v ls) (hB : B ≤ H.length) (hA : ∀ b, B ≤ b → A b) (hw : Fresh B H w 2 1 (LI l)) (hs : ls.length < 4294967296)
    (k : ∀ v' G, Oth v H G → (∀ b, bk v' = some b → H.length ≤ b) → H.length ≤ G.length → RowsF A G.length G v' (ls ++ [l]) → K v' G) :
    pif w.oneCell' (newK H [w] 28 (fun b1 H2 => apK T0 28 H2 v (.slice (some ⟨b1, 0, none⟩) 1 (1 + 1)) K)) False := by
  have hw1 : w.oneCell' = true := ints_one hw.ints
  refine pif_t hw1 ?_
  obtain ⟨vs, h1, h2, h3, h4⟩ := h
  refine h1.sl.pushN E_row (by decide) (Nat.zero_le _) (n := 1) (ys := [w]) rfl (by simpa using hw1) (by simp; omega) (by simp) fun v' G k1 ot nb f' => k v' G ot nb k1.len ?_
  have hbw : ∀ b, bk w = some b → B ≤ b ∧ b < H.length := fun b hb => hw.bk_lt hb
  refine ⟨vs ++ [w], f', by simp [h2], fun b hb => ⟨hA b (by have := nb b hb; omega), (f'.bk_lt hb).2⟩, fun i hi => ?_⟩
  by_cases e : i < ls.length
  · obtain ⟨w', g1, g2, g3⟩ := h4 i e
    refine ⟨w', by rw [List.getElem?_append_left (by omega)]; exact g1, ?_, fun b hb => ?_⟩
    · rw [show (ls ++ [l]).getD i [] = ls.getD i [] by simp [List.getD, List.getElem?_append_left e]]
      exact fresh_oth g2 fun b o hb ho => ot b o (g3 b hb).2.2.1 ho
    · obtain ⟨q1, q2, q3, q4⟩ := g3 b hb
      refine ⟨q1, by have := k1.len; omega, fun hv => by have := nb b hv; omega, fun j w2 hj hw2 => q4 j w2 hj ?_⟩
      rwa [List.getElem?_append_left (by omega)] at hw2
  · have : i = ls.length := by simp at hi; omega
    subst this
    refine ⟨w, by rw [← h2]; simp, ?_, fun b hb => ?_⟩
    · rw [show (ls ++ [l]).getD ls.length [] = l by simp [List.getD]]
      exact fresh_oth (hw.less (Nat.zero_le _)) fun b o hb ho => ot b o (fun hv => by have := (h3 b hv).2; have := (hbw b hb).1; omega) ho
    · have hb' := hbw b hb
      refine ⟨hA b hb'.1, by have := k1.len; omega, fun hv => by have := nb b hv; omega, fun j w2 hj hw2 hw3 => ?_⟩
      rw [List.getElem?_append_left (by omega)] at hw2
      obtain ⟨w4, g1, _, g3⟩ := h4 j hj
      rw [hw2] at g1; cases g1
      have := (g3 b hw3).2.1; omega
theorem RowsF.row (h : RowsF A B H v ls) {i : Nat} (hi : i < ls.length) {K : Value → Prop} (k : ∀ w, Fresh 0 H w 2 1 (LI (ls.getD i [])) → K w) : idxK v i 1 (fun b o => ld1 H b o K) := by
  obtain ⟨vs, h1, h2, h3, h4⟩ := h
  obtain ⟨w, g1, g2, g3⟩ := h4 i hi
  exact Sl_rd h1.sl (by omega) (by omega) (by rw [Int.toNat_natCast]; exact g1) (k w g2)
end Go.Proofs
/- Contracts: the cycles of a set of edges, the program's way. -/
set_option linter.unusedVariables false
set_option linter.unusedSimpArgs false
set_option maxRecDepth 100000
namespace Go.Proofs
open Go.Abs

variable {H G : AHeap} {v u f : Value} {l m c : List Int} {es fs : List (Int × Int)} {K : Value → AHeap → Prop} {A : Nat → Prop} {B : Nat} {ls : List (List Int)}

theorem LU_get {Z : List Nat} {i : Nat} (h : i < Z.length) : (LU Z)[i]? = some (.int .u64 (Z.getD i 0 : Nat)) := by simp [h]

end Go.Proofs
/- Contracts: the sides. -/
set_option linter.unusedVariables false
set_option linter.unusedSimpArgs false
set_option maxRecDepth 100000
namespace Go.Proofs
open Go.Abs

variable {H G : AHeap} {v u f : Value} {l m c D : List Int} {es fs : List (Int × Int)} {K : Value → AHeap → Prop}

theorem sides_ok {n : Int} {s : Nat} (h : Edges H v es) (hg : IsG n es) (hs : s < 2 ^ 64)
    (k : ∀ v' G, H.le G → RowsF (fun b => H.length ≤ b) G.length G v' (sidesL (restL es fun j => s.testBit j) n.toNat) → K v' G) :
    AC Tryz.prog T0 103 [.agg ⟨[.int .i64 n, v]⟩, .int .u64 (s : Nat)] H K := by
  have n0 := hg.ed.lo; have n1 := hg.ed.hi
  apply F103.ac
  unfold F103.B20
  refine newK_f (all_iv (edges_one' h)) fun H1 l1 _ o1 => ?_
  unfold F103.B19 F103.B18 F103.B17
  refine ldI_own o1 rfl ?_
  obtain ⟨fs, hfs⟩ : ∃ fs, fs = restL es fun j => s.testBit j := ⟨_, rfl⟩
  rw [← hfs] at k
  unfold F103.L2
  refine ⟨fun x1 x2 x5 x6 x12 x13 G => ((s : Nat) : Int) = x1 ∧ H.length = x2 ∧ n = x12 ∧ H1.le G ∧ ∃ i : Nat, x13 = i ∧ i ≤ n.toNat ∧ RowsF (fun b => H1.length ≤ b) G.length G x5 (sidesTo fs n.toNat i) ∧
      ∃ z : Nat, x6 = ((z : Nat) : Int) ∧ z < 2 ^ 64 ∧ ∀ w, z.testBit w = true ↔ w < n.toNat ∧ ∃ a, a < i ∧ Rch (vAdj fs) a w,
    fun _ _ _ _ _ x13 _ => n.toNat - x13.toNat, ⟨rfl, rfl, rfl, AHeap.le_refl _, 0, rfl, by omega, .nil, 0, rfl, by decide, fun w => ?_⟩, ?_⟩
  · simp
  rintro x1 x2 x5 x6 x12 x13 G ⟨rfl, rfl, rfl, hG, i, rfl, hi, hR, z, rfl, hz, hzb⟩
  have lG := AHeap.le_trans l1 hG
  have oG := o1.le hG
  unfold F103.B16
  refine pif_cases (fun hb => ?_) fun hb => ?_
  · have hin : i < n.toNat := by have := of_decide_eq_true hb; omega
    have hzi : z.testBit i = !vLeadB fs i := by
      rw [Bool.eq_iff_iff, hzb, Bool.not_eq_true', ← Bool.not_eq_true, vLeadB_iff]
      constructor
      · rintro ⟨_, a, h1, h2⟩ h; exact h a h1 h2
      · intro h
        refine ⟨hin, Classical.byContradiction fun h' => h fun b hb hr => h' ⟨b, hb, hr⟩⟩
    unfold F103.B15 F103.B14
    refine has_ok hz (by omega) (asB_mk ?_)
    rw [Int.toNat_natCast, hzi]
    refine pif_cases (fun hb => ?_) fun hb => ?_
    · have hl : vLeadB fs i = false := by simpa using hb
      unfold F103.B3
      rw [wrap_id (by omega) (by omega)]
      refine ⟨⟨rfl, rfl, rfl, hG, i + 1, by omega, by omega, ?_, z, rfl, hz, fun w => ?_⟩, by simp; omega⟩
      · rw [sidesTo_succ, hl]; simpa using hR
      · rw [hzb]
        refine and_congr_right fun _ => ⟨fun ⟨a, h1, h2⟩ => ⟨a, by omega, h2⟩, fun ⟨a, h1, h2⟩ => ?_⟩
        by_cases e : a = i
        · subst e
          have := (hzb a).1 (by rw [hzi, hl]; rfl)
          obtain ⟨_, b, g1, g2⟩ := this
          exact ⟨b, g1, g2.trans h2⟩
        · exact ⟨a, by omega, h2⟩
    · have hl : vLeadB fs i = true := by simpa using hb
      unfold F103.B13 F103.B12
      refine ldI_own oG rfl (ld1_own oG rfl (distances_ok (h.le lG) hg hs hin fun b0 D G2 l2 hb0 oD hD hfar => ?_))
      rw [← hfs] at hfar
      refine lenK_of ?_
      have hG2 := AHeap.le_trans hG l2
      have hb2 := oD.lt
      have hG2' := hG2.1
      unfold F103.L5
      refine ⟨fun x1 x2 x5' x6 x8 x12 x13 x22 x23 x24 G' => ((s : Nat) : Int) = x1 ∧ H.length = x2 ∧ x5 = x5' ∧ n = x12 ∧ ((i : Nat) : Int) = x13 ∧ .slice (some ⟨b0, 0, none⟩) n.toNat (n.toNat + 1) = x22 ∧ (n.toNat : Int) = x23 ∧ H1.le G' ∧ G2.length ≤ G'.length ∧ Own G' b0 2 (LI D) ∧ RowsF (fun b => H1.length ≤ b) G2.length G' x5 (sidesTo fs n.toNat i) ∧
          ∃ t : Nat, x24 = t ∧ t ≤ n.toNat ∧ Fresh G2.length G' x8 2 1 (LI (filtB (rchB (vAdj fs) i) t)) ∧ ∃ z' : Nat, x6 = ((z' : Nat) : Int) ∧ z' < 2 ^ 64 ∧ ∀ w, z'.testBit w = true ↔ z.testBit w = true ∨ w < t ∧ Rch (vAdj fs) i w,
        fun _ _ _ _ _ _ _ _ _ x24 _ => n.toNat - x24.toNat, ⟨rfl, rfl, rfl, rfl, rfl, rfl, rfl, hG2, Nat.le_refl _, oD, (hR.le l2).mono (fun _ h => h) l2.1, 0, rfl, by omega, .inl ⟨rfl, .inl rfl⟩, z, rfl, hz, fun w => by simp⟩, ?_⟩
      clear oD hR lG oG hG2 hG
      rintro x1 x2 x5' x6 x8 x12 x13 x22 x23 x24 G3 ⟨rfl, rfl, rfl, rfl, rfl, rfl, rfl, hG, hGl, oD, hR, t, rfl, ht, hF, z', rfl, hz', hzb'⟩
      unfold F103.B11
      refine pif_cases (fun hb => ?_) fun hb => ?_
      · have htn : t < n.toNat := by have := of_decide_eq_true hb; omega
        have hft := hfar t htn
        have hfl := filtB_length (rchB (vAdj fs) i) t
        unfold F103.B10
        have oi := own_ints (c := n.toNat + 1) oD
        rw [hD] at oi
        refine oi.rd (by omega) (by omega) ?_
        rw [Int.toNat_natCast]
        unfold F103.B9
        refine pif_cases (fun hb => ?_) fun hb => ?_
        · have hr : Rch (vAdj fs) i t := hft.1 (of_decide_eq_true hb)
          unfold F103.B8
          refine hF.sl.pushN E_int (by decide) hGl (n := 1) (ys := [.int .i64 t]) rfl rfl (by simp; omega) (by simp) fun v' G4 k4 ot4 nb4 f4 => ?_
          unfold F103.B7
          refine ⟨by omega, ?_⟩
          have p64 : 2 ^ t < 2 ^ 64 := Nat.pow_lt_pow_right (by decide) (by omega)
          rw [one_shl (by omega) (by omega), Int.toNat_natCast, bits_or hz' p64]
          unfold F103.B6
          rw [wrap_id (by omega) (by omega)]
          refine ⟨⟨rfl, rfl, rfl, rfl, rfl, rfl, rfl, k4.le hG (by have := hG2'; omega), by have := k4.len; omega, k4.own oD hb2, hR.keep k4, t + 1, by omega, by omega, ?_, z' ||| 2 ^ t, rfl, or_lt hz' p64, fun w => ?_⟩, by simp; omega⟩
          · rw [filtB_succ, rchB_iff.2 hr]; simpa using f4
          · rw [Nat.testBit_or, Nat.testBit_two_pow, Bool.or_eq_true, hzb', decide_eq_true_iff]
            constructor
            · rintro ((h | h) | rfl)
              · exact .inl h
              · exact .inr ⟨by omega, h.2⟩
              · exact .inr ⟨by omega, hr⟩
            · rintro (h | ⟨h1, h2⟩)
              · exact .inl (.inl h)
              · by_cases e : t = w
                · exact .inr e
                · exact .inl (.inr ⟨by omega, h2⟩)
        · have hr : ¬ Rch (vAdj fs) i t := fun h => of_decide_eq_false hb (hft.2 h)
          unfold F103.B6
          rw [wrap_id (by omega) (by omega)]
          refine ⟨⟨rfl, rfl, rfl, rfl, rfl, rfl, rfl, hG, hGl, oD, hR, t + 1, by omega, by omega, ?_, z', rfl, hz', fun w => ?_⟩, by simp; omega⟩
          · rw [filtB_succ, Bool.eq_false_iff.2 fun h => hr (rchB_iff.1 h)]; simpa using hF
          · rw [hzb']
            refine or_congr Iff.rfl ⟨fun ⟨h1, h2⟩ => ⟨by omega, h2⟩, fun ⟨h1, h2⟩ => ⟨?_, h2⟩⟩
            by_cases e : t = w
            · subst e; exact absurd h2 hr
            · omega
      · have htn : t = n.toNat := by have := of_decide_eq_false hb; omega
        subst htn
        have hsl := sidesTo_length fs n.toNat i
        unfold F103.B4
        refine hR.push hGl (fun b hb => by have := hG2'; omega) hF (by omega) fun v' G4 ot nb hlen hR4 => ?_
        unfold F103.B3
        rw [wrap_id (by omega) (by omega)]
        refine ⟨⟨rfl, rfl, rfl, ?_, i + 1, by omega, by omega, ?_, z', rfl, hz', fun w => ?_⟩, by simp; omega⟩
        · refine ⟨by have := hG.1; omega, fun b o ho => ot b o (fun hv => ?_) (hG.2 _ _ ho)⟩
          obtain ⟨vs, _, _, q3, _⟩ := hR
          have := (q3 b hv).1
          have := lt_of_get ho
          omega
        · rw [sidesTo_succ, hl]; exact hR4
        · rw [hzb', hzb]
          constructor
          · rintro (⟨h1, a, h2, h3⟩ | ⟨h1, h2⟩)
            · exact ⟨h1, a, by omega, h3⟩
            · exact ⟨h1, i, by omega, h2⟩
          · rintro ⟨h1, a, h2, h3⟩
            by_cases e : a = i
            · subst e; exact .inr ⟨h1, h3⟩
            · exact .inl ⟨h1, a, by omega, h3⟩
  · have hin : i = n.toNat := by have := of_decide_eq_false hb; omega
    subst hin
    unfold F103.B1
    exact k _ _ lG (hR.mono (fun b hb => by have := l1.1; omega) (Nat.le_refl _))
end Go.Proofs
/- Plain mathematics: sets of so many numbers, in order. -/
set_option linter.unusedVariables false
set_option linter.unusedSimpArgs false
namespace Go.Proofs
open Go.Abs

theorem IsS.bits {l : List Int} {n : Nat} (h : IsS l n) (hn : n ≤ 64) : bitsL (setN l) = l := by
  rw [bitsL_filt hn fun j hj => bitB_lt h hj]
  exact h.filt.symm
end Go.Proofs
/- Contracts: bonds, the program's way. -/
set_option linter.unusedVariables false
set_option linter.unusedSimpArgs false
set_option maxRecDepth 100000
namespace Go.Proofs
open Go.Abs

variable {H G : AHeap} {v u f : Value} {l m c D : List Int} {es fs : List (Int × Int)} {K : Value → AHeap → Prop} {A : Nat → Prop} {B : Nat} {ls : List (List Int)}

theorem RowsF.rowB (h : RowsF A B H v ls) {i : Nat} (hi : i < ls.length) {K : Value → Prop} (k : ∀ w, Fresh 0 H w 2 1 (LI (ls.getD i [])) → (∀ b, bk w = some b → b < B) → K w) : idxK v i 1 (fun b o => ld1 H b o K) := by
  obtain ⟨vs, h1, h2, h3, h4⟩ := h
  obtain ⟨w, g1, g2, g3⟩ := h4 i hi
  exact Sl_rd h1.sl (by omega) (by omega) (by rw [Int.toNat_natCast]; exact g1) (k w g2 fun b hb => (g3 b hb).2.1)

theorem place_cl {n x : Int} {b6 pb : Nat} {c0 : Nat} {t : TypeId} (h : Edges H v es) (hd : ∀ e ∈ es, 0 ≤ e.1 ∧ e.1 < n ∧ 0 ≤ e.2 ∧ e.2 < n) {x2 : Nat} (o2 : Own H x2 t [.int .i64 n, v]) (o6 : Own H b6 138 [.slice (some ⟨pb, 0, none⟩) n.toNat c0]) (oP : Own H pb 3 (LI D)) (hD : D.length = n.toNat) (h0 : 0 ≤ x) (h1 : x < es.length) :
    Cl H (.func (.func 149) ⟨[]⟩ ⟨[.pointer (some ⟨b6, 0, none⟩), .pointer (some ⟨x2, 0, none⟩)]⟩) (.int .i64 x) (D.getD (es.getD x.toNat (0, 0)).1.toNat 0 != D.getD (es.getD x.toNat (0, 0)).2.toNat 0) := by
  intro G hG K k
  refine callV_mk ?_
  apply F149.ac
  unfold F149.B2 F149.B1
  have hx : x.toNat < es.length := by omega
  obtain ⟨d1, d2, d3, d4⟩ := hd es[x.toNat] (List.getElem_mem hx)
  rw [← getD_of (d := (0, 0)) hx] at d1 d2 d3 d4
  have o2 := o2.le hG
  have o6 := o6.le hG
  have oi := own_ints (c := c0) (oP.le hG)
  rw [hD] at oi
  obtain ⟨bb, oo, hk, e1, e2⟩ := (h.le hG).idx h0 h1
  refine asP_mk (ld1_own o6 rfl (asP_mk (ld1_own o2 rfl (hk _ (ldI_mk e1 (oi.rd (by omega) (by omega) (asP_mk (ld1_own o6 rfl (asP_mk (ld1_own o2 rfl (hk _ (ldI_mk e2 (oi.rd (by omega) (by omega) ?_)))))))))))))
  exact k _ (AHeap.le_refl _)

theorem isBond_ok {n : Int} (h : Edges H v es) (hg : IsG n es) (hS : IsS l es.length) (k : ∀ G, H.le G → K (.bool (decide (Bond n.toNat es l))) G) :
    AC Tryz.prog T0 80 [.agg ⟨[.int .i64 n, v]⟩, .int .u64 (setN l : Nat)] H K := by
  have n0 := hg.ed.lo; have n1 := hg.ed.hi
  have h30 : es.length ≤ 30 := by have := hg.ed.len; omega
  have hs : setN l < 2 ^ 64 := setN_lt fun x hx => by have := hS.range x hx; omega
  have hends : ∀ e ∈ es, 0 ≤ e.1 ∧ e.1 < n ∧ 0 ≤ e.2 ∧ e.2 < n := fun e he => by have := hg.ed.ends e he; omega
  apply F80.ac
  unfold F80.B17
  refine newK_f (all_iv (edges_one' h)) fun H1 l1 _ o1 => ?_
  unfold F80.B16
  refine ldI_own o1 rfl (ld1_own o1 rfl (sides_ok (h.le l1) hg hs fun q H2 l2 hR => ?_))
  have hz : restL es (fun j => (0 : Nat).testBit j) = es := restL_none es fun j => Nat.zero_testBit j
  have l12 := AHeap.le_trans l1 l2
  have o2 := o1.le l2
  obtain ⟨fs, hfs⟩ : ∃ fs, fs = restL es (bitB l) := ⟨_, rfl⟩
  have hR : RowsF (fun b => H1.length ≤ b) H2.length H2 q (sidesL fs n.toNat) := by rw [hfs]; exact hR
  have hBond : ∀ b : Bool, (b = true ↔ Bond n.toNat es l) → ∀ G, H.le G → K (.bool b) G := fun b hb G hG => by
    have := k G hG
    rwa [show decide (Bond n.toNat es l) = b from (dec_eq hb).symm] at this
  have hBd : Bond n.toNat es l ↔ (sidesL fs n.toNat).length = (sidesL es n.toNat).length + 1 ∧ ∀ x ∈ l, ¬ Rch (vAdj fs) (es.getD x.toNat (0, 0)).1.toNat (es.getD x.toNat (0, 0)).2.toNat := by rw [hfs]; exact Iff.rfl
  have sl1 := sidesTo_length fs n.toNat n.toNat
  have sl2 := sidesTo_length es n.toNat n.toNat
  have sl1 : (sidesL fs n.toNat).length ≤ n.toNat := sl1
  have sl2 : (sidesL es n.toNat).length ≤ n.toNat := sl2
  unfold F80.B15
  refine hR.len (ldI_own o2 rfl (ld1_own o2 rfl (sides_ok (s := 0) (h.le l12) hg (by decide) fun q2 H3 l3 hR3 => ?_)))
  rw [hz] at hR3
  have l13 := AHeap.le_trans l12 l3
  refine hR3.len ?_
  rw [wrap_id (by omega) (by omega)]
  refine pif_cases (fun hb => ?_) fun hb => ?_
  · unfold F80.B14
    have hne := bne_iff_ne.1 hb
    exact hBond false ⟨(fun h => by cases h), fun h => by have := (hBd.1 h).1; omega⟩ _ l13
  · have he := bne_eq_false_iff_eq.1 hb
    have o3 := o2.le l3
    unfold F80.B13
    refine ldI_own o3 rfl (mkR_int (by omega) (by omega) (by decide) fun H4 l4 n4 o4 => newK_f rfl fun H5 l5 _ o5 => pif_t rfl (stK_f o5 (by simp) (by simp [Value.oneCell']) rfl fun H6 b6 o6 => ?_))
    rw [rep_one] at o4
    have l36 : H3.le H6 := b6.le (AHeap.le_trans l4 l5) l4.1
    have l16 := AHeap.le_trans l13 l36
    have o4 := b6.own (o4.le l5) (by have := o4.lt; omega)
    have hR0 := hR.le l3
    have hR := hR.le (AHeap.le_trans l3 l36)
    have h23 := l3.1
    have h36 : H3.length < H6.length := o4.lt
    have h46 : H4.length < H6.length := by have := o6.lt; omega
    have h34 : H3.length < H4.length := by omega
    unfold F80.B12
    refine hR.len ?_
    unfold F80.L2
    refine ⟨fun x1 x2 x6 x24 x25 x26 G => ((setN l : Nat) : Int) = x1 ∧ H.length = x2 ∧ H4.length = x6 ∧ q = x24 ∧ ((sidesL fs n.toNat).length : Int) = x25 ∧ H3.le G ∧ H6.length ≤ G.length ∧ Own G H4.length 138 [.slice (some ⟨H3.length, 0, none⟩) n.toNat (n.toNat + 1)] ∧ ∃ i : Nat, x26 = i ∧ i ≤ (sidesL fs n.toNat).length ∧ ∃ P, Own G H3.length 3 (LI P) ∧ PlaceTo fs n.toNat P i 0,
      fun _ _ _ _ _ x26 _ => (sidesL fs n.toNat).length - x26.toNat, ⟨rfl, rfl, rfl, rfl, rfl, l36, Nat.le_refl _, by simpa using o6, 0, rfl, by omega, _, o4, .init (by simp)⟩, ?_⟩
    clear o4 o6 o5 b6 l5 l4
    rintro x1 x2 x6 x24 x25 x26 G ⟨rfl, rfl, rfl, rfl, rfl, hG, hG6, oB, i, rfl, hi, P, oP, hP⟩
    have lG := AHeap.le_trans l13 hG
    unfold F80.B11
    refine pif_cases (fun hb => ?_) fun hb => ?_
    · have hil : i < (sidesL fs n.toNat).length := by have := of_decide_eq_true hb; omega
      have hRG := hR0.le hG
      have hsl := side_length (fs := fs) hil
      unfold F80.B10
      refine hRG.rowB hil fun w hw hwb => ?_
      unfold F80.B9
      refine hw.ints.len ?_
      unfold F80.L4
      refine ⟨fun x1 x2 x6 x7 x24 x25 x26 x31 x32 x33 G' => ((setN l : Nat) : Int) = x1 ∧ H.length = x2 ∧ H4.length = x6 ∧ (i : Int) = x7 ∧ q = x24 ∧ ((sidesL fs n.toNat).length : Int) = x25 ∧ (i : Int) = x26 ∧ w = x31 ∧ (((sidesL fs n.toNat).getD i []).length : Int) = x32 ∧ H3.le G' ∧ H6.length ≤ G'.length ∧ Own G' H4.length 138 [.slice (some ⟨H3.length, 0, none⟩) n.toNat (n.toNat + 1)] ∧ Fresh 0 G' w 2 1 (LI ((sidesL fs n.toNat).getD i [])) ∧
          ∃ t : Nat, x33 = t ∧ t ≤ ((sidesL fs n.toNat).getD i []).length ∧ ∃ P, Own G' H3.length 3 (LI P) ∧ PlaceTo fs n.toNat P i t,
        fun _ _ _ _ _ _ _ _ _ x33 _ => ((sidesL fs n.toNat).getD i []).length - x33.toNat, ⟨rfl, rfl, rfl, rfl, rfl, rfl, rfl, rfl, rfl, hG, hG6, oB, hw, 0, rfl, by omega, P, oP, hP⟩, ?_⟩
      clear hw hRG lG oB oP hP hG hG6
      rintro x1 x2 x6 x7 x24 x25 x26 x31 x32 x33 G3 ⟨rfl, rfl, rfl, rfl, rfl, rfl, rfl, rfl, rfl, hG, hG6, oB, hw, t, rfl, ht, P, oP, hP⟩
      unfold F80.B8
      refine pif_cases (fun hb => ?_) fun hb => ?_
      · have htl : t < ((sidesL fs n.toNat).getD i []).length := by have := of_decide_eq_true hb; omega
        obtain ⟨y, hy, hyn⟩ := side_range hil (List.getElem_mem htl)
        rw [← getD_of (d := 0) htl] at hy
        have hput := hP.put hil htl
        have hPl := hP.1
        unfold F80.B7
        refine hw.ints.rd (by omega) (by omega) ?_
        rw [Int.toNat_natCast]
        rw [hy] at hput ⊢
        unfold F80.B6
        refine ld1_own oB rfl (own_idx (by omega) (by omega) (stK_1 oP (by simp; omega) rfl fun G4 b4 o4 => ?_))
        rw [← List.map_set] at o4
        unfold F80.B5
        rw [wrap_id (by omega) (by omega)]
        refine ⟨⟨rfl, rfl, rfl, rfl, rfl, rfl, rfl, rfl, rfl, b4.le hG (Nat.le_refl _), by rw [b4.len]; exact hG6, b4.own oB (by omega), hw.keep (b4.keep (m := H3.length) (Nat.le_refl _)) fun b k e => ?_, t + 1, by omega, by omega, _, o4, hput⟩, by show ((sidesL fs n.toNat).getD i []).length - ((t : Int) + 1).toNat < ((sidesL fs n.toNat).getD i []).length - (t : Int).toNat; omega⟩
        subst e
        have := hwb b rfl
        omega
      · have htl : t = ((sidesL fs n.toNat).getD i []).length := by have := of_decide_eq_false hb; omega
        subst htl
        unfold F80.B3
        rw [wrap_id (by omega) (by omega)]
        exact ⟨⟨rfl, rfl, rfl, rfl, rfl, hG, hG6, oB, i + 1, by omega, by omega, P, oP, hP.next⟩, by simp; omega⟩
    · have hil : i = (sidesL fs n.toNat).length := by have := of_decide_eq_false hb; omega
      subst hil
      unfold F80.B1
      refine list_ok hs fun w G2 l2' f2 => ?_
      rw [hS.bits (by omega)] at f2
      have lG2 := AHeap.le_trans lG l2'
      have hll : l.length ≤ es.length := by have := bitsTo_length (setN l) es.length; rw [hS.filt]; exact filtB_length _ _
      refine areAllL_ok (p := fun x => P.getD (es.getD x.toNat (0, 0)).1.toNat 0 != P.getD (es.getD x.toNat (0, 0)).2.toNat 0) f2.ints (by omega) rfl (fun x hx => ?_) fun G3 l3' => asB_mk (hBond _ ?_ _ (AHeap.le_trans lG2 l3'))
      · have := hS.range x hx
        exact place_cl (h.le lG2) hends ((o3.le hG).le l2') (oB.le l2') (oP.le l2') hP.1 (by omega) (by omega)
      · rw [hBd, List.all_eq_true]
        refine ⟨fun h => ⟨by omega, fun x hx => ?_⟩, fun h x hx => ?_⟩
        all_goals
          have hr := hS.range x hx
          obtain ⟨d1, d2, d3, d4⟩ := hends es[x.toNat] (List.getElem_mem (show x.toNat < es.length by omega))
          rw [← getD_of (d := (0, 0)) (show x.toNat < es.length by omega)] at d1 d2 d3 d4
          have key := hP.iff (a := (es.getD x.toNat (0, 0)).1.toNat) (b := (es.getD x.toNat (0, 0)).2.toNat) (by omega) (by omega)
        · rw [← key]; exact bne_iff_ne.1 (h x hx)
        · exact bne_iff_ne.2 fun e => h.2 x hx (key.1 e)
end Go.Proofs
/- Contracts: bonds, the reference's way. -/
set_option linter.unusedVariables false
set_option linter.unusedSimpArgs false
set_option maxRecDepth 100000
namespace Go.Proofs
open Go.Abs

variable {H G : AHeap} {v u f : Value} {l m c D : List Int} {es fs : List (Int × Int)} {K : Value → AHeap → Prop}

theorem selfs_sides {n : Nat} (h : Leads n fs D) : ∀ k, k ≤ n → selfs D k = (sidesTo fs n k).length
  | 0, _ => by simp [selfs, sidesTo]
  | k + 1, hk => by
    rw [sidesTo_succ, List.length_append, ← selfs_sides h k (by omega), selfs]
    have := h.self (a := k) (by omega)
    rw [← vLeadB_iff] at this
    by_cases hl : vLeadB fs k = true
    · rw [if_pos (this.2 hl), if_pos hl]; rfl
    · rw [if_neg fun h => hl (this.1 h), if_neg hl]; rfl

theorem l03Rest_ok {n : Int} (h : Edges H v es) (hl : es.length ≤ 1048576) (hc : Ints H u l) (hS : IsS l es.length)
    (k : ∀ v' G, H.le G → Fresh H.length G v' 78 2 (LE (restL es (bitB l))) → K v' G) : AC Tryz.prog T0 93 [.agg ⟨[.int .i64 n, v]⟩, u] H K := by
  have hll : l.length ≤ es.length := by rw [hS.filt]; exact filtB_length _ _
  have hasc : ∀ i j, i < j → j < l.length → l.getD i 0 < l.getD j 0 := by
    intro i j hij hj
    have := hS.asc
    unfold Asc at this
    rw [List.pairwise_iff_getElem] at this
    rw [getD_of hj, getD_of (by omega)]
    exact this i j (by omega) hj hij
  apply F93.ac
  unfold F93.B10
  refine newK_f (all_iv (edges_one' h)) fun H1 l1 _ o1 => ?_
  unfold F93.B9
  refine newK_f rfl fun H2 l2 _ o2 => ?_
  unfold F93.B8 F93.L2
  refine ⟨fun x1 x2 x5 x6 x7 G => u = x1 ∧ H.length = x2 ∧ H1.le G ∧ ∃ i t : Nat, x7 = i ∧ x6 = t ∧ i ≤ es.length ∧ t ≤ l.length ∧ (∀ j, j < t → l.getD j 0 < i) ∧ (∀ j, t ≤ j → j < l.length → (i : Int) ≤ l.getD j 0) ∧ Fresh H1.length G x5 78 2 (LE (restTo es (bitB l) i)),
    fun _ _ _ _ x7 _ => es.length - x7.toNat, ⟨rfl, rfl, l2, 0, 0, rfl, rfl, by omega, by omega, fun j hj => absurd hj (by omega), fun j _ hj => ?_, .inr ⟨_, 0, Nat.le_refl _, rfl, o2, rfl⟩⟩, ?_⟩
  · have := (hS j hj).1; omega
  rintro x1 x2 x5 x6 x7 G ⟨rfl, rfl, hG, i, t, rfl, rfl, hi, ht, hlo, hhi, hF⟩
  have lG := AHeap.le_trans l1 hG
  have oG := o1.le hG
  unfold F93.B7
  refine ld1_own oG rfl ((h.le lG).len (pif_cases (fun hb => ?_) fun hb => ?_))
  · have hil : i < es.length := by have := of_decide_eq_true hb; omega
    have hrl := restTo_length es (bitB l) i
    have put : bitB l i = false → (t < l.length → l.getD t 0 ≠ (i : Int)) → ∀ N2 : Value → Nat → Value → Int → Int → AHeap → Prop, (∀ v' G', H1.le G' → Fresh H1.length G' v' 78 2 (LE (restTo es (bitB l) (i + 1))) → N2 u H.length v' (t : Int) ((i : Int) + 1) G') → F93.B4 K N2 u H.length x5 (t : Int) (i : Int) G := by
      intro hb' _ N2 hN
      unfold F93.B4
      obtain ⟨b, o, hk, c1, c2⟩ := (h.le lG).idx (show (0 : Int) ≤ i by omega) (by omega)
      refine ld1_own oG rfl (hk _ (ldI_mk c1 (ldI_mk c2 ?_)))
      refine hF.sl.pushN E_edge (by decide) hG.1 (n := 1) (ys := [.int .i64 (es.getD (i : Int).toNat (0, 0)).1, .int .i64 (es.getD (i : Int).toNat (0, 0)).2]) rfl rfl (by rw [LE_length]; simp; omega) (by simp) fun v' G2 k2 _ _ f2 => ?_
      unfold F93.B3
      rw [wrap_id (by omega) (by omega)]
      refine hN v' G2 (k2.le hG (Nat.le_refl _)) ?_
      rw [restTo_succ, hb', LE_append]
      exact f2
    have hbit : ∀ b, (bitB l i = true ↔ b) → (b ↔ t < l.length ∧ l.getD t 0 = (i : Int)) := by
      intro b hb
      rw [← hb, bitB_mem hS]
      constructor
      · intro hm
        obtain ⟨j, hj, hje⟩ := List.getElem_of_mem hm
        rw [← getD_of (d := 0) hj] at hje
        rcases Nat.lt_trichotomy j t with h1 | h1 | h1
        · have := hlo j h1; omega
        · subst h1; exact ⟨hj, hje⟩
        · have := hasc t j h1 hj
          have := hhi t (Nat.le_refl _) (by omega)
          omega
      · rintro ⟨h1, h2⟩
        rw [← h2, getD_of h1]; exact List.getElem_mem h1
    have hbi := hbit _ Iff.rfl
    have nxt : (t < l.length → l.getD t 0 ≠ (i : Int)) → (∀ j, j < t → l.getD j 0 < ((i + 1 : Nat) : Int)) ∧ (∀ j, t ≤ j → j < l.length → ((i + 1 : Nat) : Int) ≤ l.getD j 0) := by
      intro hn
      refine ⟨fun j hj => by have := hlo j hj; omega, fun j h1 h2 => ?_⟩
      have a1 := hhi t (Nat.le_refl _) (by omega)
      have a2 := hn (by omega)
      by_cases e : t = j
      · subst e; omega
      · have := hasc t j (by omega) h2; omega
    unfold F93.B6
    refine (hc.le lG).len (pif_cases (fun hb => ?_) fun hb => ?_)
    · have htl : t < l.length := by have := of_decide_eq_true hb; omega
      refine (hc.le lG).rd (by omega) (by omega) ?_
      rw [Int.toNat_natCast]
      refine pif_cases (fun hs => ?_) fun hs => ?_
      · have he : l.getD t 0 = (i : Int) := beq_iff_eq.1 hs
        have hb' : bitB l i = true := hbi.2 ⟨htl, he⟩
        unfold F93.B5
        rw [wrap_id (by omega) (by omega)]
        unfold F93.B3
        rw [wrap_id (by omega) (by omega)]
        refine ⟨⟨rfl, rfl, hG, i + 1, t + 1, by omega, by omega, by omega, by omega, fun j hj => ?_, fun j h1 h2 => ?_, ?_⟩, by simp; omega⟩
        · by_cases e : j = t
          · subst e; omega
          · have := hlo j (by omega); omega
        · have := hasc t j (by omega) h2; omega
        · rw [restTo_succ, hb']; simpa using hF
      · have he : l.getD t 0 ≠ (i : Int) := fun e => by rw [e] at hs; simp at hs
        have hb' : bitB l i = false := by
          cases hx : bitB l i with
          | false => rfl
          | true => exact absurd (hbi.1 hx).2 he
        obtain ⟨p1, p2⟩ := nxt fun _ => he
        refine put hb' (fun _ => he) _ fun v' G' g1 g2 => ?_
        exact ⟨⟨rfl, rfl, g1, i + 1, t, by omega, rfl, by omega, ht, p1, p2, g2⟩, by simp; omega⟩
    · have htl : ¬ t < l.length := by have := of_decide_eq_false hb; omega
      have hb' : bitB l i = false := by
        cases hx : bitB l i with
        | false => rfl
        | true => exact absurd (hbi.1 hx).1 htl
      obtain ⟨p1, p2⟩ := nxt fun h => absurd h htl
      refine put hb' (fun h => absurd h htl) _ fun v' G' g1 g2 => ?_
      exact ⟨⟨rfl, rfl, g1, i + 1, t, by omega, rfl, by omega, ht, p1, p2, g2⟩, by simp; omega⟩
  · have hil : i = es.length := by have := of_decide_eq_false hb; omega
    subst hil
    unfold F93.B1
    exact k _ _ lG (hF.less l1.1)

theorem l03Bond_ok {n : Int} (h : Edges H v es) (hg : IsG n es) (hc : Ints H u l) (hS : IsS l es.length) (k : ∀ G, H.le G → K (.bool (decide (Bond n.toNat es l))) G) :
    AC Tryz.prog T0 87 [.agg ⟨[.int .i64 n, v]⟩, u] H K := by
  have n0 := hg.ed.lo; have n1 := hg.ed.hi
  have h30 : es.length ≤ 30 := by have := hg.ed.len; omega
  have hll : l.length ≤ es.length := by rw [hS.filt]; exact filtB_length _ _
  have hends : ∀ e ∈ es, 0 ≤ e.1 ∧ e.1 < n ∧ 0 ≤ e.2 ∧ e.2 < n := fun e he => by have := hg.ed.ends e he; omega
  have hfl : (restL es (bitB l)).length ≤ es.length := restTo_length _ _ _
  have hBond : ∀ b : Bool, (b = true ↔ Bond n.toNat es l) → ∀ G, H.le G → K (.bool b) G := fun b hb G hG => by
    have := k G hG
    rwa [show decide (Bond n.toNat es l) = b from (dec_eq hb).symm] at this
  apply F87.ac
  unfold F87.B16
  refine newK_f (all_iv (edges_one' h)) fun H1 l1 _ o1 => ?_
  unfold F87.B15
  refine ldI_own o1 rfl (ldI_own o1 rfl (ld1_own o1 rfl (l03Rest_ok (h.le l1) (by omega) (hc.le l1) hS fun w H2 l2 f2 => ⟨l2, ?_⟩)))
  have l12 := AHeap.le_trans l1 l2
  have o2 := o1.le l2
  obtain ⟨fs, hfs⟩ : ∃ fs, fs = restL es (bitB l) := ⟨_, rfl⟩
  rw [← hfs] at f2 hfl
  have hfends : ∀ e ∈ fs, 0 ≤ e.1 ∧ e.1 < n ∧ 0 ≤ e.2 ∧ e.2 < n := fun e he => hends e (restL_sub (by rw [hfs] at he; exact he))
  have hBd : Bond n.toNat es l ↔ (sidesL fs n.toNat).length = (sidesL es n.toNat).length + 1 ∧ ∀ x ∈ l, ¬ Rch (vAdj fs) (es.getD x.toNat (0, 0)).1.toNat (es.getD x.toNat (0, 0)).2.toNat := by rw [hfs]; exact Iff.rfl
  refine l01Leaders_ok f2.edges (by omega) (by omega) (by omega) hfends fun b0 D H3 l3 oD _ hD => ?_
  have hDl := hD.led.1
  have l13 := AHeap.le_trans l12 l3
  have o3 := o2.le l3
  unfold F87.B14 F87.L9
  refine ⟨fun x1 x2 x5 x6 x7 G => u = x1 ∧ H.length = x2 ∧ .slice (some ⟨b0, 0, none⟩) n.toNat (n.toNat + 1) = x5 ∧ H3 = G ∧ ∃ i : Nat, x7 = i ∧ i ≤ n.toNat ∧ x6 = selfs D i, fun _ _ _ _ x7 _ => n.toNat - x7.toNat, ⟨rfl, rfl, rfl, rfl, 0, rfl, by omega, rfl⟩, ?_⟩
  rintro x1 x2 x5 x6 x7 G ⟨rfl, rfl, rfl, rfl, i, rfl, hi, rfl⟩
  have hsl := selfs_le D i
  unfold F87.B13
  refine ldI_own o3 rfl (pif_cases (fun hb => ?_) fun hb => ?_)
  · have hin : i < n.toNat := by have := of_decide_eq_true hb; omega
    have oi := own_ints (c := n.toNat + 1) oD
    rw [hDl] at oi
    unfold F87.B12
    refine oi.rd (by omega) (by omega) ?_
    rw [Int.toNat_natCast]
    have hss : selfs D (i + 1) = selfs D i + if D.getD i 0 = (i : Int) then 1 else 0 := rfl
    refine pif_cases (fun hs => ?_) fun hs => ?_
    · have he : D.getD i 0 = (i : Int) := beq_iff_eq.1 hs
      rw [if_pos he] at hss
      unfold F87.B11 F87.B10
      rw [wrap_id (by omega) (by omega), wrap_id (by omega) (by omega)]
      exact ⟨⟨rfl, rfl, rfl, rfl, i + 1, by omega, by omega, by omega⟩, by show n.toNat - ((i : Int) + 1).toNat < n.toNat - (i : Int).toNat; omega⟩
    · have he : D.getD i 0 ≠ (i : Int) := fun e => by rw [e] at hs; simp at hs
      rw [if_neg he] at hss
      unfold F87.B10
      rw [wrap_id (by omega) (by omega)]
      exact ⟨⟨rfl, rfl, rfl, rfl, i + 1, by omega, by omega, by omega⟩, by show n.toNat - ((i : Int) + 1).toNat < n.toNat - (i : Int).toNat; omega⟩
  · have hin : i = n.toNat := by have := of_decide_eq_false hb; omega
    subst hin
    have hcount : selfs D n.toNat = (sidesL fs n.toNat).length := selfs_sides hD _ (Nat.le_refl _)
    unfold F87.B8 F87.L2
    refine ⟨fun x1 x2 x5 x6 x8 G => u = x1 ∧ H.length = x2 ∧ .slice (some ⟨b0, 0, none⟩) n.toNat (n.toNat + 1) = x5 ∧ ((selfs D n.toNat : Nat) : Int) = x6 ∧ H3.le G ∧ ∃ j : Nat, x8 = j ∧ j ≤ l.length ∧ ∀ j', j' < j → D.getD (es.getD (l.getD j' 0).toNat (0, 0)).1.toNat 0 ≠ D.getD (es.getD (l.getD j' 0).toNat (0, 0)).2.toNat 0,
      fun _ _ _ _ x8 _ => l.length - x8.toNat, ⟨rfl, rfl, rfl, rfl, AHeap.le_refl _, 0, rfl, by omega, fun j hj => absurd hj (by omega)⟩, ?_⟩
    rintro x1 x2 x5 x6 x8 G ⟨rfl, rfl, rfl, rfl, hG, j, rfl, hj, hne⟩
    have lG := AHeap.le_trans l13 hG
    have oG := o3.le hG
    have key : ∀ x, x ∈ l → (D.getD (es.getD x.toNat (0, 0)).1.toNat 0 = D.getD (es.getD x.toNat (0, 0)).2.toNat 0 ↔ Rch (vAdj fs) (es.getD x.toNat (0, 0)).1.toNat (es.getD x.toNat (0, 0)).2.toNat) := by
      intro x hx
      have hr := hS.range x hx
      obtain ⟨d1, d2, d3, d4⟩ := hends es[x.toNat] (List.getElem_mem (show x.toNat < es.length by omega))
      rw [← getD_of (d := (0, 0)) (show x.toNat < es.length by omega)] at d1 d2 d3 d4
      exact hD.iff (by omega) (by omega)
    unfold F87.B7
    refine (hc.le lG).len (pif_cases (fun hb => ?_) fun hb => ?_)
    · have hjl : j < l.length := by have := of_decide_eq_true hb; omega
      have hx := hS.range l[j] (List.getElem_mem hjl)
      obtain ⟨d1, d2, d3, d4⟩ := hends es[(l[j]).toNat] (List.getElem_mem (show (l[j]).toNat < es.length by omega))
      rw [← getD_of (d := (0, 0)) (show (l[j]).toNat < es.length by omega)] at d1 d2 d3 d4
      unfold F87.B6
      refine ld1_own oG rfl ((hc.le lG).rd (by omega) (by omega) ?_)
      rw [Int.toNat_natCast, getD_of hjl]
      obtain ⟨b, o, hk, c1, c2⟩ := (h.le lG).idx hx.1 hx.2
      refine hk _ (ldI_mk c1 (ldI_mk c2 (newK_f rfl fun H5 l5 _ o5 => stK_f o5 (by simp) (by simp [Value.oneCell']) rfl fun H6 b6 o6 => ?_)))
      have l6 : G.le H6 := b6.le l5 (Nat.le_refl _)
      have oi := own_ints (c := n.toNat + 1) ((oD.le hG).le l6)
      rw [hDl] at oi
      unfold F87.B5
      refine ldI_own o6 rfl (oi.rd (by omega) (by omega) (ldI_own o6 rfl (oi.rd (by omega) (by omega) (pif_cases (fun hs => ?_) fun hs => ?_))))
      · unfold F87.B4
        have he := beq_iff_eq.1 hs
        exact hBond false ⟨(fun h => by cases h), fun h => absurd ((key _ (List.getElem_mem hjl)).1 he) ((hBd.1 h).2 _ (List.getElem_mem hjl))⟩ _ (AHeap.le_trans lG l6)
      · have he : D.getD (es.getD (l[j]).toNat (0, 0)).1.toNat 0 ≠ D.getD (es.getD (l[j]).toNat (0, 0)).2.toNat 0 := fun e => by rw [e] at hs; simp at hs
        unfold F87.B3
        rw [wrap_id (by omega) (by omega)]
        refine ⟨⟨rfl, rfl, rfl, rfl, AHeap.le_trans hG l6, j + 1, by omega, by omega, fun j' hj' => ?_⟩, by simp; omega⟩
        by_cases e : j' = j
        · subst e; rw [getD_of hjl]; exact he
        · exact hne j' (by omega)
    · have hjl : j = l.length := by have := of_decide_eq_false hb; omega
      subst hjl
      unfold F87.B1
      refine ldI_own oG rfl (ld1_own oG rfl (l01Parts_ok (h.le lG) (by omega) (by omega) (by omega) hends fun D' G2 l2' hD' hL' => asI_mk ?_))
      have hc2 : selfs D' n.toNat = (sidesL es n.toNat).length := selfs_sides hL' _ (Nat.le_refl _)
      have b2 := selfs_le D' n.toNat
      rw [wrap_id (by omega) (by omega)]
      refine hBond _ ?_ _ (AHeap.le_trans lG l2')
      rw [hBd, beq_iff_eq]
      refine ⟨fun e => ⟨by omega, fun x hx hr => ?_⟩, fun h => by have := h.1; omega⟩
      obtain ⟨j, hj, rfl⟩ := List.getElem_of_mem hx
      have := hne j hj
      rw [getD_of hj] at this
      exact this ((key _ hx).2 hr)
end Go.Proofs
/- Lists of lists, continued. -/
set_option linter.unusedVariables false
set_option linter.unusedSimpArgs false
set_option maxRecDepth 100000
namespace Go.Proofs
open Go.Abs

variable {H G : AHeap} {v u f : Value} {l m c D : List Int} {es fs : List (Int × Int)} {K : Value → AHeap → Prop} {A A' : Nat → Prop} {B : Nat} {ls ms : List (List Int)}

end Go.Proofs
/- Contracts: chains, the reference's way; lists of one's own. -/
set_option linter.unusedVariables false
set_option linter.unusedSimpArgs false
set_option maxRecDepth 100000
namespace Go.Proofs
open Go.Abs

variable {H : AHeap} {v u f : Value} {l m c : List Int} {es fs : List (Int × Int)} {K : Value → AHeap → Prop}

theorem ints_cells (h : Ints H v l) : cellsAt H v 1 l.length (LI l) := by
  refine ⟨by simp, ?_⟩
  rcases h with ⟨rfl, rfl⟩ | ⟨a, c, rfl, h⟩
  · exact ⟨none, 0, rfl, .inl rfl⟩
  · refine ⟨some a, c, rfl, ?_⟩
    rcases h with rfl | ⟨h1, h2⟩
    · exact .inl rfl
    · refine .inr ⟨a.block, a.off, ?_, fun i u hu => ?_⟩
      · cases a; cases h1; rfl
      · rw [List.getElem?_map] at hu
        cases hx : l[i]? with
        | none => rw [hx] at hu; cases hu
        | some x => rw [hx] at hu; cases hu; exact h2 i x hx
theorem own_app (h : Ints H v l) (hl : l.length ≤ 4294967296) (k : ∀ v' G, H.le G → Fresh H.length G v' 2 1 (LI l) → K v' G) :
    newK H [] 2 (fun b1 H2 => apK T0 2 H2 (.slice (some ⟨b1, 0, none⟩) 0 (0 + 1)) v K) := by
  refine newK_f rfl fun H2 l2 n2 o2 => ?_
  have f2 : Fresh H.length H2 (.slice (some ⟨H.length, 0, none⟩) 0 (0 + 1)) 2 1 [] := .inr ⟨_, 0, Nat.le_refl _, rfl, o2, rfl⟩
  refine f2.sl.app E_int (by decide) l2.1 (ints_cells (h.le l2)) (by simpa using hl) (fun h0 => ?_) fun v' G k3 _ _ f3 => ?_
  · exact k _ _ l2 (by rw [h0]; exact f2)
  · exact k _ _ (k3.le l2 (Nat.le_refl _)) f3
theorem l01Own_ok (h : Ints H v l) (hl : l.length ≤ 4294967296) (k : ∀ v' G, H.le G → Fresh H.length G v' 2 1 (LI l) → K v' G) : AC Tryz.prog T0 138 [v] H K := by
  apply F138.ac
  unfold F138.B2 F138.B1
  exact own_app h hl k
end Go.Proofs
/- Contracts: all sets of so many numbers, the reference's way; what grows out of lists that are there. -/
set_option linter.unusedVariables false
set_option linter.unusedSimpArgs false
set_option maxRecDepth 100000
namespace Go.Proofs
open Go.Abs

variable {H G : AHeap} {v u f : Value} {l m c D : List Int} {es fs : List (Int × Int)} {K : Value → AHeap → Prop} {A A' : Nat → Prop} {B : Nat} {ls ms : List (List Int)}

end Go.Proofs
/- Contracts: a function called with all sets of so many numbers. -/
set_option linter.unusedVariables false
set_option linter.unusedSimpArgs false
set_option maxRecDepth 100000
namespace Go.Proofs
open Go.Abs

variable {H G : AHeap}

end Go.Proofs
/- Contracts of the laws' helpers over lists of lists. -/
set_option linter.unusedVariables false
set_option linter.unusedSimpArgs false
set_option maxRecDepth 100000
namespace Go.Proofs
open Go.Abs

variable {H G : AHeap} {v u f : Value} {l m c : List Int} {es fs : List (Int × Int)} {K : Value → AHeap → Prop} {A A' : Nat → Prop} {B B' : Nat} {ls ms : List (List Int)}

/-- All but rows of a kind lives on. -/
structure ModA (A : Nat → Prop) (H G : AHeap) : Prop where
  len : H.length ≤ G.length
  same : ∀ (c : Nat) (o : AObj), ¬ A c → H[c]? = some (some o) → G[c]? = some (some o)
theorem ModA.refl : ModA A H H := ⟨Nat.le_refl _, fun _ _ _ h => h⟩
theorem ModA.trans {G' : AHeap} (h : ModA A H G) (k : ModA A G G') : ModA A H G' := ⟨Nat.le_trans h.len k.len, fun c o hc ho => k.same c o hc (h.same c o hc ho)⟩
theorem ModA.le {X : AHeap} (h : ModA A H G) (hb : ∀ b, A b → X.length ≤ b) (hl : X.le H) : X.le G :=
  ⟨Nat.le_trans hl.1 h.len, fun c o hc => h.same c o (fun ha => by have := hb c ha; have := lt_of_get hc; omega) (hl.2 _ _ hc)⟩
def totL (ls : List (List Int)) : Nat := (ls.map List.length).sum
theorem totL_snoc (ls : List (List Int)) (l : List Int) : totL (ls ++ [l]) = totL ls + l.length := by simp [totL]
theorem totL_take {i : Nat} (h : i < ls.length) : totL (ls.take (i + 1)) = totL (ls.take i) + (ls.getD i []).length := by
  rw [List.take_succ_eq_append_getElem h, totL_snoc, getD_of h]
theorem totL_le (i : Nat) : totL (ls.take i) ≤ totL ls := by
  have e : totL ls = totL (ls.take i) + totL (ls.drop i) := by unfold totL; rw [← List.sum_append, ← List.map_append, List.take_append_drop]
  omega

end Go.Proofs
/- Contracts: all bonds of so many edges, both sides. -/
set_option linter.unusedVariables false
set_option linter.unusedSimpArgs false
set_option maxRecDepth 100000
namespace Go.Proofs
open Go.Abs

variable {H G : AHeap} {v u f : Value} {l m c D : List Int} {es fs : List (Int × Int)} {K : Value → AHeap → Prop} {A : Nat → Prop} {B : Nat} {ls : List (List Int)}

end Go.Proofs
/- Plain mathematics: all matchings, in order. -/
set_option linter.unusedVariables false
set_option linter.unusedSimpArgs false
namespace Go.Proofs
open Go.Abs

/-- How many vertices have no bit. -/
def left (s n : Nat) : Nat := unseen (fun j => s.testBit j) n
section
variable {n : Int} {es : List (Int × Int)}
end
end Go.Proofs
/- Plain mathematics: going round a cycle that a matching leaves. -/
set_option linter.unusedVariables false
set_option linter.unusedSimpArgs false
namespace Go.Proofs
open Go.Abs

section
variable {es : List (Int × Int)} {p : Nat → Bool} {l C : List Int} {n : Int}

/-- How many edges of a list are on a vertex. -/
def degC (es : List (Int × Int)) (C : List Int) (x : Nat) : Nat := (C.filter fun i => on (es.getD i.toNat (0, 0)) x).length
theorem degC_snoc (C : List Int) (i : Nat) (x : Nat) : degC es (C ++ [(i : Int)]) x = degC es C x + if on (es.getD i (0, 0)) x then 1 else 0 := by
  unfold degC
  rw [List.filter_append, List.length_append]
  rw [List.filter_cons, Int.toNat_natCast, List.filter_nil]
  cases h : on (es.getD i (0, 0)) x <;> rfl
/-- A walk round a cycle: at an edge 'now' that comes from a vertex w and goes to a vertex v. -/
structure Walk (n : Int) (es : List (Int × Int)) (p : Nat → Bool) (e u0 : Nat) (E : Nat → Prop) (C : List Int) (now w v : Nat) : Prop where
  mem : ∀ i ∈ C, ∃ j : Nat, i = j ∧ j < es.length ∧ p j = true ∧ Rch (eAdj es p) e j ∧ ¬ E j
  nd : C.Nodup
  par : ∀ x : Nat, degC es C x % 2 = 1 ↔ ¬ (x = u0 ↔ x = w)
  lt : now < es.length
  pn : p now = true
  rch : Rch (eAdj es p) e now
  onw : on (es.getD now (0, 0)) w = true
  onv : on (es.getD now (0, 0)) v = true
  ne : w ≠ v
  wn : (w : Int) < n
  vn : (v : Int) < n
  last : (C = [] ∧ now = e ∧ w = u0) ∨ ((e : Int) ∈ C ∧ ∃ c : Nat, (c : Int) ∈ C ∧ c ≠ now ∧ on (es.getD c (0, 0)) w = true)
theorem on_iff2 {i w v x : Nat} (h1 : on (es.getD i (0, 0)) w = true) (h2 : on (es.getD i (0, 0)) v = true) (hne : w ≠ v) : on (es.getD i (0, 0)) x = true ↔ x = w ∨ x = v := by
  unfold on at h1 h2 ⊢
  simp only [Bool.or_eq_true, beq_iff_eq] at h1 h2 ⊢
  omega
variable {e u0 now w v : Nat} {E : Nat → Prop}
theorem Walk.step (h : Walk n es p e u0 E C now w v) (hC : (now : Int) ∉ C) (hE : ¬ E now) {q v' : Nat} (hq : q < es.length) (hp : p q = true) (hqn : q ≠ now) (hov : on (es.getD q (0, 0)) v = true) (hov' : on (es.getD q (0, 0)) v' = true) (hvv : v ≠ v') (hvn : (v' : Int) < n) :
    Walk n es p e u0 E (C ++ [(now : Int)]) q v v' := by
  refine ⟨fun i hi => ?_, ?_, fun x => ?_, hq, hp, .step h.rch ⟨hq, hp, _, h.onv, hov⟩, hov, hov', hvv, h.vn, hvn, .inr ⟨?_, now, by simp, fun e => hqn e.symm, h.onv⟩⟩
  · rcases List.mem_append.1 hi with hi | hi
    · exact h.mem i hi
    · rw [List.mem_singleton] at hi
      exact ⟨now, hi, h.lt, h.pn, h.rch, hE⟩
  · rw [List.nodup_append]
    refine ⟨h.nd, by simp, fun a ha b hb => ?_⟩
    rw [List.mem_singleton] at hb
    rintro rfl
    rw [hb] at ha
    exact hC ha
  · rw [degC_snoc]
    have hp := h.par x
    have ho := on_iff2 (x := x) h.onw h.onv h.ne
    have hne := h.ne
    by_cases h1 : on (es.getD now (0, 0)) x = true
    · rw [if_pos h1]
      have h2 := ho.1 h1
      by_cases hx : x = u0 <;> by_cases hw : x = w <;> by_cases hv : x = v <;> simp [hx, hw, hv] at hp h2 ⊢ <;> omega
    · rw [if_neg h1, Nat.add_zero]
      have h2 : x ≠ w ∧ x ≠ v := ⟨fun e => h1 (ho.2 (.inl e)), fun e => h1 (ho.2 (.inr e))⟩
      rw [hp]
      constructor
      · intro h3 h4; exact h3 ⟨fun e => absurd (h4.1 e) h2.2, fun e => absurd e h2.1⟩
      · intro h3 h4; exact h3 ⟨fun e => absurd (h4.1 e) h2.1, fun e => absurd e h2.2⟩
  · rcases h.last with ⟨_, h2, _⟩ | ⟨h1, _⟩
    · rw [h2]; simp
    · exact List.mem_append_left _ h1
end
end Go.Proofs
/- Plain mathematics: sums of sets of edges, forests, and what is left when ends are cut. -/
set_option linter.unusedVariables false
set_option linter.unusedSimpArgs false
namespace Go.Proofs
open Go.Abs

variable {es : List (Int × Int)} {p q : Nat → Bool} {n : Int} {w : Int}

/-- How many numbers less than k have a mark. -/
def cn (f : Nat → Bool) : Nat → Nat
  | 0 => 0
  | k + 1 => cn f k + if f k then 1 else 0
theorem cn_filt (f : Nat → Bool) : ∀ k, (filtB f k).length = cn f k
  | 0 => rfl
  | k + 1 => by rw [filtB_succ, List.length_append, cn_filt f k, cn]; split <;> rfl
theorem cn_congr {f g : Nat → Bool} : ∀ {k}, (∀ i, i < k → f i = g i) → cn f k = cn g k
  | 0, _ => rfl
  | k + 1, h => by rw [cn, cn, cn_congr fun i hi => h i (by omega), h k (by omega)]
theorem cn_le {f g : Nat → Bool} : ∀ {k}, (∀ i, i < k → f i = true → g i = true) → cn f k ≤ cn g k
  | 0, _ => Nat.le_refl _
  | k + 1, h => by
    have := cn_le (k := k) fun i hi => h i (by omega)
    have := h k (by omega)
    rw [cn, cn]
    cases hf : f k <;> cases hg : g k <;> simp_all
    omega
theorem degB_cn (p : Nat → Bool) (w : Int) : degB es p w = cn (fun j => on (es.getD j (0, 0)) w && p j) es.length := cn_filt _ _
/-- Sums over numbers. -/
def sm (f : Nat → Nat) : Nat → Nat
  | 0 => 0
  | k + 1 => sm f k + f k
theorem sm_congr {f g : Nat → Nat} : ∀ {k}, (∀ i, i < k → f i = g i) → sm f k = sm g k
  | 0, _ => rfl
  | k + 1, h => by rw [sm, sm, sm_congr fun i hi => h i (by omega), h k (by omega)]
theorem sm_add (f g : Nat → Nat) : ∀ k, sm (fun i => f i + g i) k = sm f k + sm g k
  | 0 => rfl
  | k + 1 => by rw [sm, sm, sm, sm_add f g k]; omega
theorem sm_zero : ∀ k, sm (fun _ => 0) k = 0
  | 0 => rfl
  | k + 1 => by rw [sm, sm_zero k]
theorem sm_even {f : Nat → Nat} : ∀ {k}, (∀ i, i < k → f i % 2 = 0) → sm f k % 2 = 0
  | 0, _ => rfl
  | k + 1, h => by have := sm_even (k := k) fun i hi => h i (by omega); have := h k (by omega); rw [sm]; omega
theorem sm_if (f : Nat → Bool) : ∀ k, sm (fun i => if f i then 1 else 0) k = cn f k
  | 0 => rfl
  | k + 1 => by rw [sm, cn, sm_if f k]
theorem sm_swap (f : Nat → Nat → Nat) (m : Nat) : ∀ k, sm (fun i => sm (fun j => f i j) m) k = sm (fun j => sm (fun i => f i j) k) m
  | 0 => by simp only [sm]; exact (sm_zero m).symm
  | k + 1 => by rw [sm, sm_swap f m k, ← sm_add]; exact sm_congr fun i _ => by rw [sm]
theorem sm_one {a : Nat} {c : Nat} : ∀ {k}, a < k → sm (fun i => if i = a then c else 0) k = c
  | k + 1, h => by
    rw [sm]
    by_cases e : a = k
    · subst e
      rw [sm_congr (g := fun _ => 0) fun i hi => if_neg (by omega), sm_zero]; simp
    · rw [sm_one (k := k) (by omega), if_neg (by omega), Nat.add_zero]

/-- Ends of an edge as numbers. -/
structure EndsIn (n : Int) (es : List (Int × Int)) : Prop where
  get : ∀ j, j < es.length → ∃ a b : Nat, es.getD j (0, 0) = ((a : Int), (b : Int)) ∧ a ≠ b ∧ (a : Int) < n ∧ (b : Int) < n
theorem IsG.endsIn (h : IsG n es) : EndsIn n es := ⟨fun j hj => by
  have hm : es.getD j (0, 0) ∈ es := by rw [getD_of hj]; exact List.getElem_mem _
  obtain ⟨h1, h2, h3, h4, h5⟩ := h.ed.ends _ hm
  refine ⟨(es.getD j (0, 0)).1.toNat, (es.getD j (0, 0)).2.toNat, ?_, by omega, by omega, by omega⟩
  rw [Int.toNat_of_nonneg h1, Int.toNat_of_nonneg h3]⟩

/-- All edges that have both ends among some vertices, or none: the degrees of these add up to twice the edges. -/
theorem hands (he : EndsIn n es) (A : Nat → Bool) (p : Nat → Bool) :
    sm (fun w => if A w then degB es p w else 0) n.toNat = sm (fun j => if p j then (if A (es.getD j (0, 0)).1.toNat then 1 else 0) + (if A (es.getD j (0, 0)).2.toNat then 1 else 0) else 0) es.length := by
  have e1 : ∀ w, (if A w then degB es p w else 0) = sm (fun j => if A w && (on (es.getD j (0, 0)) w && p j) then 1 else 0) es.length := fun w => by
    cases hA : A w with
    | false => simp [sm_zero]
    | true => rw [sm_if]; simp only [Bool.true_and, if_true]; rw [degB_cn]
  rw [sm_congr fun w _ => e1 w, sm_swap]
  refine sm_congr fun j hj => ?_
  obtain ⟨a, b, hab, hne, ha, hb⟩ := he.get j hj
  rw [hab]
  cases hp : p j with
  | false => simp [sm_zero]
  | true =>
    simp only [if_true, Int.toNat_natCast, Bool.and_true]
    rw [← sm_one (a := a) (c := if A a then 1 else 0) (k := n.toNat) (by omega), ← sm_one (a := b) (c := if A b then 1 else 0) (k := n.toNat) (by omega), ← sm_add]
    refine sm_congr fun w hw => ?_
    unfold on
    by_cases h1 : w = a
    · subst h1
      simp [hne]
    · by_cases h2 : w = b
      · subst h2
        simp [hne, h1]
      · have g1 : ¬ (a : Int) = w := by omega
        have g2 : ¬ (b : Int) = w := by omega
        simp [h1, h2, g1, g2]

/-- Vertices that an edge of a set joins. -/
def pAdj (es : List (Int × Int)) (p : Nat → Bool) (a b : Nat) : Prop := ∃ j, j < es.length ∧ p j = true ∧ (es.getD j (0, 0) = ((a : Int), (b : Int)) ∨ es.getD j (0, 0) = ((b : Int), (a : Int)))
theorem pAdj_mono (h : ∀ j, j < es.length → p j = true → q j = true) (a b : Nat) (k : pAdj es p a b) : pAdj es q a b := by
  obtain ⟨j, h1, h2, h3⟩ := k
  exact ⟨j, h1, h j h1 h2, h3⟩
/-- An edge of an even set: its ends are joined by the others. -/
theorem even_joins (he : EndsIn n es) (hp : EvenS n es p) {i a b : Nat} (hi : i < es.length) (hpi : p i = true) (hab : es.getD i (0, 0) = ((a : Int), (b : Int))) : Rch (pAdj es fun j => p j && !decide (j = i)) a b := by
  apply Classical.byContradiction
  intro hn
  let A : Nat → Bool := fun w => decide (Rch (pAdj es fun j => p j && !decide (j = i)) a w)
  have h1 := hands he A p
  have h2 : sm (fun w => if A w then degB es p w else 0) n.toNat % 2 = 0 := sm_even fun w hw => by
    split
    · exact hp w (by omega)
    · rfl
  have h3 : sm (fun j => if p j then (if A (es.getD j (0, 0)).1.toNat then 1 else 0) + (if A (es.getD j (0, 0)).2.toNat then 1 else 0) else 0) es.length = sm (fun j => (if p j && !decide (j = i) then (if A (es.getD j (0, 0)).1.toNat then 1 else 0) + (if A (es.getD j (0, 0)).2.toNat then 1 else 0) else 0) + if j = i then 1 else 0) es.length := sm_congr fun j hj => by
    by_cases e : j = i
    · subst e
      have ha : A a = true := decide_eq_true .refl
      have hb : A b = false := decide_eq_false hn
      simp only [hpi, hab, Int.toNat_natCast, ha, hb]; simp
    · simp [e]
  rw [h3, sm_add, sm_one hi] at h1
  have h4 : sm (fun j => if p j && !decide (j = i) then (if A (es.getD j (0, 0)).1.toNat then 1 else 0) + (if A (es.getD j (0, 0)).2.toNat then 1 else 0) else 0) es.length % 2 = 0 := sm_even fun j hj => by
    split
    · rename_i hpj
      obtain ⟨c, d, hcd, _⟩ := he.get j hj
      rw [hcd]
      simp only [Int.toNat_natCast]
      have hA : A c = A d := by
        have f1 : pAdj es (fun j => p j && !decide (j = i)) c d := ⟨j, hj, hpj, .inl hcd⟩
        have f2 : pAdj es (fun j => p j && !decide (j = i)) d c := ⟨j, hj, hpj, .inr hcd⟩
        exact decide_eq_decide.2 ⟨fun r => .step r f1, fun r => .step r f2⟩
      by_cases hd : A d = true
      · rw [if_pos hd, if_pos (hA.trans hd)]
      · rw [if_neg hd, if_neg (by rw [hA]; exact hd)]
    · rfl
  omega
/-- Edges are taken, one after the other, if their ends are not joined yet. -/
structure Forest (es : List (Int × Int)) (t : Nat → Bool) : Prop where
  out : ∀ j, j < es.length → t j = true → ∀ a b : Nat, es.getD j (0, 0) = ((a : Int), (b : Int)) → ¬ Rch (pAdj es fun i => t i && decide (i < j)) a b
  in' : ∀ j, j < es.length → t j = false → ∀ a b : Nat, es.getD j (0, 0) = ((a : Int), (b : Int)) → Rch (pAdj es fun i => t i && decide (i < j)) a b
theorem last_of {f : Nat → Bool} : ∀ {k}, (∃ i, i < k ∧ f i = true) → ∃ i, i < k ∧ f i = true ∧ ∀ j, j < k → f j = true → j ≤ i
  | 0, ⟨i, h, _⟩ => by omega
  | k + 1, ⟨i, h1, h2⟩ => by
    cases hf : f k with
    | true => exact ⟨k, by omega, hf, fun j hj _ => by omega⟩
    | false =>
      have : i ≠ k := by rintro rfl; rw [hf] at h2; cases h2
      obtain ⟨r, r1, r2, r3⟩ := last_of (k := k) ⟨i, by omega, h2⟩
      refine ⟨r, by omega, r2, fun j hj hfj => ?_⟩
      have hjk : j ≠ k := by rintro rfl; rw [hf] at hfj; cases hfj
      exact r3 j (by omega) hfj
theorem Forest.none {t : Nat → Bool} (ht : Forest es t) (he : EndsIn n es) (hp : EvenS n es p) (hs : ∀ j, j < es.length → p j = true → t j = true) : ∀ j, j < es.length → p j = false := by
  intro j hj
  cases hpj : p j with
  | false => rfl
  | true =>
    exfalso
    obtain ⟨i, h1, h2, h3⟩ := last_of (f := p) ⟨j, hj, hpj⟩
    obtain ⟨a, b, hab, _⟩ := he.get i h1
    refine ht.out i h1 (hs i h1 h2) a b hab ((even_joins he hp h1 h2 hab).mono (pAdj_mono fun k hk hk' => ?_))
    simp only [Bool.and_eq_true, Bool.not_eq_true', decide_eq_false_iff_not, decide_eq_true_eq] at hk' ⊢
    exact ⟨hs k hk hk'.1, by have := h3 k hk hk'.1; omega⟩
end Go.Proofs
/- Plain mathematics: edge cuts, sides with a cycle, connectivities. -/
set_option linter.unusedVariables false
set_option linter.unusedSimpArgs false
namespace Go.Proofs
open Go.Abs

variable {es fs gs : List (Int × Int)} {l : List Int} {n : Int}

noncomputable def cutB (n : Nat) (es : List (Int × Int)) (l : List Int) : Bool := decide ((sidesL es n).length < (sidesL (restL es (bitB l)) n).length)
/-- How many edges of a list have their first end on the side of a vertex. -/
noncomputable def insN (fs : List (Int × Int)) (v : Nat) : Nat := (fs.filter fun e => rchB (vAdj fs) v e.1.toNat).length
noncomputable def hasCyc (fs : List (Int × Int)) (n v : Nat) : Bool := decide ((sideL fs n v).length ≤ insN fs v)
/-- How many sides have a cycle. -/
noncomputable def cycTo (fs : List (Int × Int)) (n k : Nat) : Nat := cn (fun v => vLeadB fs v && hasCyc fs n v) k
noncomputable def cycM (fs : List (Int × Int)) (n : Nat) : Nat := cycTo fs n n
noncomputable def cyclicB (n : Nat) (es : List (Int × Int)) (l : List Int) : Bool := decide (2 ≤ cycM (restL es (bitB l)) n) && cutB n es l
theorem sides_cn (fs : List (Int × Int)) (n k : Nat) : (sidesTo fs n k).length = cn (vLeadB fs) k := by
  unfold sidesTo
  rw [List.length_map, ← cn_filt]
  unfold filtB
  rw [List.length_map]
theorem sidesL_cn (fs : List (Int × Int)) (n : Nat) : (sidesL fs n).length = cn (vLeadB fs) n := sides_cn fs n n
theorem cyc_le_sides (fs : List (Int × Int)) (n : Nat) : cycM fs n ≤ (sidesL fs n).length := by
  rw [sidesL_cn]
  unfold cycM cycTo
  refine cn_le fun i _ h => ?_
  rw [Bool.and_eq_true] at h
  exact h.1
end Go.Proofs
/- Plain mathematics: counting what lies inside of sides. -/
set_option linter.unusedVariables false
set_option linter.unusedSimpArgs false
namespace Go.Proofs
open Go.Abs

variable {es fs gs : List (Int × Int)} {l D : List Int} {n : Int} {p : Nat → Bool}

theorem rest_filter (f : Int × Int → Bool) : ∀ k, ((restTo es p k).filter f).length = cn (fun j => !p j && f (es.getD j (0, 0))) k
  | 0 => rfl
  | k + 1 => by
    rw [restTo_succ, List.filter_append, List.length_append, rest_filter f k, cn]
    cases hp : p k with
    | true => simp
    | false =>
      have e : ([es.getD k (0, 0)].filter f).length = if f (es.getD k (0, 0)) then 1 else 0 := by rw [List.filter_cons, List.filter_nil]; split <;> rfl
      simp only [Bool.not_false, Bool.true_and, Bool.false_eq_true, if_false]
      rw [e]
theorem insN_both (he : EndsIn n es) (v : Nat) : insN (restL es p) v = cn (fun j => rchB (vAdj (restL es p)) v (es.getD j (0, 0)).1.toNat && rchB (vAdj (restL es p)) v (es.getD j (0, 0)).2.toNat && !p j) es.length := by
  have h := rest_filter (es := es) (p := p) (fun e => rchB (vAdj (restL es p)) v e.1.toNat) es.length
  unfold insN
  refine h.trans (cn_congr fun j hj => ?_)
  cases hp : p j with
  | true => simp
  | false =>
    obtain ⟨a, b, hab, _⟩ := he.get j hj
    have hadj : vAdj (restL es p) a b := .inl (mem_restL.2 ⟨j, hj, hp, hab.symm⟩)
    rw [hab]
    simp only [Int.toNat_natCast]
    have : rchB (vAdj (restL es p)) v a = rchB (vAdj (restL es p)) v b := by
      rw [Bool.eq_iff_iff, rchB_iff, rchB_iff]
      exact ⟨fun h => .step h hadj, fun h => .step h (vAdj_symm _ _ hadj)⟩
    rw [← this]
    cases rchB (vAdj (restL es p)) v a <;> rfl
theorem lead_count {n : Nat} (hD : Leads n fs D) {v : Nat} (hv : v < n) (hl : vLeadB fs v = true) : cn (fun u => decide (D.getD u 0 = (v : Int))) n = (sideL fs n v).length := by
  unfold sideL
  rw [cn_filt]
  refine cn_congr fun u hu => ?_
  have h1 := (hD.self hv).2 (vLeadB_iff.1 hl)
  have h2 := hD.iff hv hu
  rw [Bool.eq_iff_iff, decide_eq_true_iff, rchB_iff, ← h2, h1]
  exact ⟨fun h => h.symm, fun h => h.symm⟩
theorem lead_inner {n : Nat} (hD : Leads n fs D) (hr : ∀ e ∈ fs, e.1.toNat < n) {v : Nat} (hv : v < n) (hl : vLeadB fs v = true) : (fs.filter fun e => decide (D.getD e.1.toNat 0 = (v : Int))).length = insN fs v := by
  unfold insN
  congr 1
  refine List.filter_congr fun e he => ?_
  have h1 := (hD.self hv).2 (vLeadB_iff.1 hl)
  have h2 := hD.iff hv (hr e he)
  rw [Bool.eq_iff_iff, decide_eq_true_iff, rchB_iff, ← h2, h1]
  exact ⟨fun h => h.symm, fun h => h.symm⟩
/-- The sides' least vertices. -/
noncomputable def leadL (fs : List (Int × Int)) (n : Nat) : List Nat := (List.range n).filter (vLeadB fs)
theorem leadL_length (fs : List (Int × Int)) (n : Nat) : (leadL fs n).length = (sidesL fs n).length := by
  unfold leadL sidesL sidesTo; rw [List.length_map]
theorem leadL_get {n j : Nat} (hj : j < (leadL fs n).length) : (sidesL fs n).getD j [] = sideL fs n (leadL fs n)[j] ∧ (leadL fs n)[j] < n ∧ vLeadB fs (leadL fs n)[j] = true := by
  have hm := List.getElem_mem hj
  have hm2 : (leadL fs n)[j] ∈ (List.range n).filter (vLeadB fs) := hm
  rw [List.mem_filter, List.mem_range] at hm2
  refine ⟨?_, hm2.1, hm2.2⟩
  unfold sidesL sidesTo
  have hj' : j < (((List.range n).filter (vLeadB fs)).map (sideL fs n)).length := by rw [List.length_map]; exact hj
  rw [List.getD, List.getElem?_eq_getElem hj', Option.getD_some, List.getElem_map]; rfl
/-- How many of the first k sides have a cycle. -/
noncomputable def manyTo (fs : List (Int × Int)) (n k : Nat) : Nat := (((leadL fs n).take k).filter (hasCyc fs n)).length
theorem manyTo_succ {n k : Nat} (h : k < (leadL fs n).length) : manyTo fs n (k + 1) = manyTo fs n k + if hasCyc fs n (leadL fs n)[k] then 1 else 0 := by
  unfold manyTo
  rw [List.take_succ_eq_append_getElem h, List.filter_append, List.length_append]
  cases hc : hasCyc fs n (leadL fs n)[k] <;> simp [hc]
theorem manyTo_le (fs : List (Int × Int)) (n k : Nat) : manyTo fs n k ≤ k := by
  unfold manyTo
  exact Nat.le_trans (List.length_filter_le _ _) (by rw [List.length_take]; omega)
theorem manyTo_all (fs : List (Int × Int)) (n : Nat) : manyTo fs n (leadL fs n).length = cycM fs n := by
  unfold manyTo cycM cycTo
  rw [List.take_length, ← cn_filt]
  unfold filtB leadL
  rw [List.length_map, List.filter_filter]
  congr 2
  funext v
  rw [Bool.and_comm]
end Go.Proofs
/- Contracts: edge cuts, bridges and edge connectivity, both sides. -/
set_option linter.unusedVariables false
set_option linter.unusedSimpArgs false
set_option maxRecDepth 100000
namespace Go.Proofs
open Go.Abs

variable {H G : AHeap} {v u f : Value} {l m c D : List Int} {es fs : List (Int × Int)} {K : Value → AHeap → Prop} {n : Int}

theorem setN64 (hg : IsG n es) (hS : IsS l es.length) : setN l < 2 ^ 64 := setN_lt fun x hx => by
  have := hS.range x hx; have := hg.ed.len; have := hg.ed.hi; omega
theorem isG_ends (hg : IsG n es) : ∀ e ∈ es, 0 ≤ e.1 ∧ e.1 < n ∧ 0 ≤ e.2 ∧ e.2 < n := fun e he => by have := hg.ed.ends e he; omega
theorem rest_ends (hg : IsG n es) {p : Nat → Bool} : ∀ e ∈ restL es p, 0 ≤ e.1 ∧ e.1 < n ∧ 0 ≤ e.2 ∧ e.2 < n := fun e he => isG_ends hg e (restL_sub he)
theorem sidesN_le (fs : List (Int × Int)) (n : Nat) : (sidesL fs n).length ≤ n := sidesTo_length fs n n
theorem isCut_ok (h : Edges H v es) (hg : IsG n es) (hS : IsS l es.length) (k : ∀ G, H.le G → K (.bool (cutB n.toNat es l)) G) :
    AC Tryz.prog T0 74 [.agg ⟨[.int .i64 n, v]⟩, .int .u64 (setN l : Nat)] H K := by
  apply F74.ac
  unfold F74.B2
  refine newK_f (all_iv (edges_one' h)) fun H1 l1 _ o1 => ?_
  unfold F74.B1
  refine ldI_own o1 rfl (ld1_own o1 rfl (ldI_own o1 rfl (ld1_own o1 rfl (sides_ok (h.le l1) hg (setN64 hg hS) fun q H2 l2 hR => ⟨l2, ?_⟩))))
  have hz : restL es (fun j => (0 : Nat).testBit j) = es := restL_none es fun j => Nat.zero_testBit j
  have hR : RowsF (fun b => H1.length ≤ b) H2.length H2 q (sidesL (restL es (bitB l)) n.toNat) := hR
  have l12 := AHeap.le_trans l1 l2
  refine hR.len (sides_ok (s := 0) (h.le l12) hg (by decide) fun q2 H3 l3 hR3 => ?_)
  rw [hz] at hR3
  refine hR3.len ?_
  have := k H3 (AHeap.le_trans l12 l3)
  unfold cutB at this
  have e : decide ((sidesL es n.toNat).length < (sidesL (restL es (bitB l)) n.toNat).length) = decide ((((sidesL (restL es (bitB l)) n.toNat).length : Nat) : Int) > (((sidesL es n.toNat).length : Nat) : Int)) := by
    rw [decide_eq_decide]; omega
  rw [e] at this
  exact this
theorem parts_ok {fs : List (Int × Int)} (h : Edges H u fs) (hg : 0 < n ∧ n ≤ 20) (hl : fs.length ≤ 1048576) (hf : ∀ e ∈ fs, 0 ≤ e.1 ∧ e.1 < n ∧ 0 ≤ e.2 ∧ e.2 < n) (k : ∀ G, H.le G → K (.int .i64 ((sidesL fs n.toNat).length : Nat)) G) :
    AC Tryz.prog T0 92 [.int .i64 n, u] H K :=
  l01Parts_ok h hl hg.1 hg.2 hf fun D G l _ hD => by
    rw [show selfs D n.toNat = (sidesL fs n.toNat).length from selfs_sides hD _ (Nat.le_refl _)]
    exact k G l
end Go.Proofs
