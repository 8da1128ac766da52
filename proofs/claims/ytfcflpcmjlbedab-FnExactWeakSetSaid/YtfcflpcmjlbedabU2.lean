/- Contracts of the laws' helpers that write. -/
import Derived.Test.YtfcflpcmjlbedabU1
set_option linter.unusedVariables false
set_option linter.unusedSimpArgs false
set_option maxRecDepth 100000
namespace Go.Proofs
open Go.Abs

variable {H : AHeap} {v u : Value} {l m : List Int} {es fs : List (Int × Int)} {K : Value → AHeap → Prop}

/-- All but a slice's own block stays. -/
structure Mod (v : Value) (H G : AHeap) : Prop where
  len : H.length ≤ G.length
  same : ∀ c o, H[c]? = some (some o) → (∀ n, v ≠ .slice (some ⟨c, 0, none⟩) n (n + 1)) → G[c]? = some (some o)
theorem Mod.refl : Mod v H H := ⟨Nat.le_refl _, fun _ _ h _ => h⟩
theorem _root_.Go.Abs.But.mod {b n : Nat} {G : AHeap} (h : But b H G) : Mod (.slice (some ⟨b, 0, none⟩) n (n + 1)) H G :=
  ⟨Nat.le_of_eq h.len.symm, fun c o hc hne => by rw [h.same c (by rintro rfl; exact hne _ rfl)]; exact hc⟩
theorem _root_.Go.Abs.Fresh.lt {f : Nat} {e : TypeId} {z : Nat} {cs : List Value} (h : Fresh f H v e z cs) {b n : Nat} (e : v = .slice (some ⟨b, 0, none⟩) n (n + 1)) : f ≤ b ∧ b < H.length := by
  subst e
  rcases h with ⟨_, h | ⟨a, h⟩⟩ | ⟨b', n', h1, h2, h3, _⟩
  · cases h
  · cases h
  · cases h2; exact ⟨h1, lt_of_get h3⟩
theorem Mod.le {B G : AHeap} {f : Nat} {e : TypeId} {z : Nat} {cs : List Value} (hm : Mod v H G) (hf : Fresh f H v e z cs) (hb : B.length ≤ f) (hl : B.le H) : B.le G :=
  ⟨Nat.le_trans hl.1 hm.len, fun c o hc => hm.same c o (hl.2 _ _ hc) fun n hn => by have := (hf.lt hn).1; have := lt_of_get hc; omega⟩
/-- What is newer than what turned stays. -/
theorem Mod.keep {G : AHeap} {m : Nat} {e' : TypeId} {z' : Nat} {cs' : List Value} {g : Value} (hm : Mod v H G) (hf : ∀ b n, v = .slice (some ⟨b, 0, none⟩) n (n + 1) → b < m) (hg : Fresh m H g e' z' cs') : Fresh m G g e' z' cs' := by
  rcases hg with hg | ⟨b, n, h1, h2, h3, h4⟩
  · exact .inl hg
  · exact .inr ⟨b, n, h1, h2, hm.same _ _ h3 fun n hn => by have := hf _ _ hn; omega, h4⟩
theorem _root_.Go.Abs.But.trans {b : Nat} {G G' : AHeap} (h : But b H G) (k : But b G G') : But b H G' := ⟨k.len.trans h.len, fun c hc => (k.same c hc).trans (h.same c hc)⟩
theorem _root_.Go.Abs.But.refl {b : Nat} : But b H H := ⟨rfl, fun _ _ => rfl⟩

def marks (k : Int) : Nat → List Int
  | 0 => []
  | n + 1 => marks k n ++ [k + n]
theorem marks_length (k : Int) : ∀ n, (marks k n).length = n
  | 0 => rfl
  | n + 1 => by simp [marks, marks_length k n]
theorem marks_get (k : Int) : ∀ n i, i < n → (marks k n)[i]? = some (k + i)
  | n + 1, i, h => by
    rw [marks]
    by_cases hi : i < n
    · rw [List.getElem?_append_left (by rw [marks_length]; exact hi)]; exact marks_get k n i hi
    · have : i = n := by omega
      subst this
      rw [List.getElem?_append_right (by rw [marks_length]; omega), marks_length]; simp
theorem over_set {α : Type} (p l : List α) (x : α) (h : p.length < l.length) : (p ++ l.drop p.length).set p.length x = (p ++ [x]) ++ l.drop (p.length + 1) := by
  rw [List.set_append_right _ _ (Nat.le_refl _), Nat.sub_self, List.append_assoc, List.drop_eq_getElem_cons h]
  rfl

theorem markInt64S_ok {k : Int} {f : Nat} (hk : 0 ≤ k) (hl : k + l.length ≤ 4611686018427387904) (h : Fresh f H v 2 1 (LI l)) (kk : ∀ G, Mod v H G → Fresh f G v 2 1 (LI (marks k l.length)) → K (.int .i64 (k + l.length)) G) :
    AC Try.prog T0 21 [v, .int .i64 k] H K := by
  apply F21.ac
  unfold F21.B8 F21.B7 F21.L2
  have hi := h.ints
  rcases h with ⟨h1, h2⟩ | ⟨b, n, h1, rfl, h2, h3⟩
  · have : l = [] := by simpa using h1
    subst this
    refine ⟨fun x0 x1 x5 G => x0 = v ∧ x1 = k ∧ x5 = 0 ∧ G = H, fun _ _ _ _ => 0, ⟨rfl, rfl, rfl, rfl⟩, ?_⟩
    rintro x0 x1 x5 G ⟨rfl, rfl, rfl, rfl⟩
    unfold F21.B6
    refine hi.len (pif_f (by simp) ?_)
    unfold F21.B1
    have := kk _ .refl (.inl ⟨rfl, h2⟩)
    simpa using this
  · have hn : n = l.length := by simpa using h3.symm
    subst hn
    refine ⟨fun x0 x1 x5 G => x0 = .slice (some ⟨b, 0, none⟩) l.length (l.length + 1) ∧ x1 = k + x5 ∧ 0 ≤ x5 ∧ x5 ≤ l.length ∧ But b H G ∧ Own G b 2 (LI (marks k x5.toNat ++ l.drop x5.toNat)), fun _ _ x5 _ => l.length - x5.toNat, ⟨rfl, by omega, by omega, by omega, .refl, by simpa [marks] using h2⟩, ?_⟩
    rintro x0 x1 x5 G ⟨rfl, rfl, h0, hle, hb, ho⟩
    unfold F21.B6
    refine hi.len (pif_cases (fun hb' => ?_) fun hb' => ?_)
    · have hlt : x5 < l.length := of_decide_eq_true hb'
      obtain ⟨n, rfl⟩ : ∃ n : Nat, x5 = n := ⟨x5.toNat, by omega⟩
      unfold F21.B5
      refine ⟨h0, hlt, stK_1 ho (by simp [marks_length]; omega) rfl fun G2 b2 o2 => ?_⟩
      unfold F21.B4 F21.B3
      rw [wrap_id (by omega) (by omega), wrap_id (by omega) (by omega)]
      refine ⟨⟨rfl, by omega, by omega, by omega, hb.trans b2, ?_⟩, by simp; omega⟩
      have e1 : (0 + (n : Int).toNat * 1) = (marks k n).length := by rw [marks_length]; simp
      have e2 := over_set (marks k n) l (k + n) (by rw [marks_length]; omega)
      rw [e1, ← List.map_set] at o2
      simp only [Int.toNat_natCast] at o2
      rw [marks_length] at e2
      rw [marks_length, e2] at o2
      rw [show ((n : Int) + 1).toNat = n + 1 by omega]
      exact o2
    · have hge : ¬ x5 < l.length := of_decide_eq_false hb'
      have : x5 = l.length := by omega
      subst this
      unfold F21.B1
      refine kk _ hb.mod (.inr ⟨b, l.length, h1, rfl, ?_, by simp [marks_length]⟩)
      simpa using ho

theorem heldInt64S_ok {k : Int} (hk : 0 ≤ k) (hl : k + l.length ≤ 4611686018427387904) (h : Ints H v l) (he : l = marks k l.length) (kk : K (.int .i64 (k + l.length)) H) : AC Try.prog T0 34 [v, .int .i64 k] H K := by
  apply F34.ac
  unfold F34.B9 F34.B8 F34.L2
  refine ⟨fun x0 x1 x5 G => x0 = v ∧ x1 = k + x5 ∧ 0 ≤ x5 ∧ x5 ≤ l.length ∧ G = H, fun _ _ x5 _ => l.length - x5.toNat, ⟨rfl, by omega, by omega, by omega, rfl⟩, ?_⟩
  rintro x0 x1 x5 G ⟨rfl, rfl, h0, hle, rfl⟩
  unfold F34.B7
  refine h.len (pif_cases (fun hb => ?_) fun hb => ?_)
  · have hlt : x5 < l.length := of_decide_eq_true hb
    obtain ⟨n, rfl⟩ : ∃ n : Nat, x5 = n := ⟨x5.toNat, by omega⟩
    have hn : n < l.length := by omega
    unfold F34.B6
    refine h.rd h0 hlt (pif_f ?_ ?_)
    · have := marks_get k l.length n hn
      rw [← he] at this
      simp only [Int.toNat_natCast, List.getD, this, Option.getD_some, bne_self_eq_false]
    · unfold F34.B4 F34.B3
      rw [wrap_id (by omega) (by omega), wrap_id (by omega) (by omega)]
      exact ⟨⟨rfl, by omega, by omega, by omega, rfl⟩, by simp; omega⟩
  · have hge : ¬ x5 < l.length := of_decide_eq_false hb
    have : x5 = l.length := by omega
    subst this
    unfold F34.B1
    exact kk

theorem LE_set1 (l : List (Int × Int)) {n : Nat} (x : Int) (h : n < l.length) : (LE l).set (n * 2) (.int .i64 x) = LE (l.set n (x, (l.getD n (0, 0)).2)) := by
  induction l generalizing n with
  | nil => simp at h
  | cons y l ih =>
    cases n with
    | zero => simp [LE_cons]
    | succ n =>
      rw [List.set_cons_succ, LE_cons, LE_cons, show (n + 1) * 2 = n * 2 + 1 + 1 by omega, List.set_cons_succ, List.set_cons_succ, ih (by simpa using h)]
      rfl
theorem LE_set2 (l : List (Int × Int)) {n : Nat} (x : Int) (h : n < l.length) : (LE l).set (n * 2 + 1) (.int .i64 x) = LE (l.set n ((l.getD n (0, 0)).1, x)) := by
  induction l generalizing n with
  | nil => simp at h
  | cons y l ih =>
    cases n with
    | zero => simp [LE_cons]
    | succ n =>
      rw [List.set_cons_succ, LE_cons, LE_cons, show (n + 1) * 2 + 1 = n * 2 + 1 + 1 + 1 by omega, List.set_cons_succ, List.set_cons_succ, ih (by simpa using h)]
      rfl

theorem markEdgeS_ok {k : Int} {f : Nat} (hk : 0 ≤ k) (hl : k + 2 * es.length ≤ 4611686018427387904) (h : Fresh f H v 100 2 (LE es)) (kk : ∀ G es', Mod v H G → es'.length = es.length → Fresh f G v 100 2 (LE es') → K (.int .i64 (k + 2 * es.length)) G) :
    AC Try.prog T0 58 [v, .int .i64 k] H K := by
  apply F58.ac
  unfold F58.B12 F58.B11 F58.L2
  have hi := h.edges
  rcases h with ⟨h1, h2⟩ | ⟨b, n, h1, rfl, h2, h3⟩
  · have : es = [] := by cases es with | nil => rfl | cons x l => simp [LE_cons] at h1
    subst this
    refine ⟨fun x0 x1 x5 G => x0 = v ∧ x1 = k ∧ x5 = 0 ∧ G = H, fun _ _ _ _ => 0, ⟨rfl, rfl, rfl, rfl⟩, ?_⟩
    rintro x0 x1 x5 G ⟨rfl, rfl, rfl, rfl⟩
    unfold F58.B10
    refine hi.len (pif_f (by simp) ?_)
    unfold F58.B1
    have := kk _ [] .refl rfl (.inl ⟨rfl, h2⟩)
    simpa using this
  · rw [LE_length] at h3
    have hn : n = es.length := by omega
    subst hn
    refine ⟨fun x0 x1 x5 G => x0 = .slice (some ⟨b, 0, none⟩) es.length (es.length + 1) ∧ x1 = k + 2 * x5 ∧ 0 ≤ x5 ∧ x5 ≤ es.length ∧ But b H G ∧ ∃ es', es'.length = es.length ∧ Own G b 100 (LE es'), fun _ _ x5 _ => es.length - x5.toNat, ⟨rfl, by omega, by omega, by omega, .refl, es, rfl, h2⟩, ?_⟩
    rintro x0 x1 x5 G ⟨rfl, rfl, h0, hle, hb, es', hes, ho⟩
    unfold F58.B10
    refine hi.len (pif_cases (fun hb' => ?_) fun hb' => ?_)
    · have hlt : x5 < es.length := of_decide_eq_true hb'
      obtain ⟨n, rfl⟩ : ∃ n : Nat, x5 = n := ⟨x5.toNat, by omega⟩
      unfold F58.B9 F58.L4
      refine ⟨fun x0 x1 x5 x6 G => x0 = .slice (some ⟨b, 0, none⟩) es.length (es.length + 1) ∧ x5 = n ∧ x1 = k + 2 * n + x6 ∧ 0 ≤ x6 ∧ x6 ≤ 2 ∧ But b H G ∧ ∃ es', es'.length = es.length ∧ Own G b 100 (LE es'), fun _ _ _ x6 _ => 2 - x6.toNat, ⟨rfl, rfl, by omega, by omega, by omega, hb, es', hes, ho⟩, ?_⟩
      rintro x0 x1 x5 x6 G ⟨rfl, rfl, rfl, h60, h62, hb, es', hes, ho⟩
      unfold F58.B8
      refine pif_cases (fun hb' => ?_) fun hb' => ?_
      · have h6 : x6 < 2 := of_decide_eq_true hb'
        unfold F58.B7
        refine ⟨h0, hlt, bndK_iff.2 ⟨h60, h6, stK_1 ho (by rw [LE_length]; simp; omega) rfl fun G2 b2 o2 => ?_⟩⟩
        unfold F58.B6 F58.B5
        rw [wrap_id (by omega) (by omega), wrap_id (by omega) (by omega)]
        refine ⟨⟨rfl, rfl, by omega, by omega, by omega, hb.trans b2, ?_⟩, by simp; omega⟩
        rcases (by omega : x6 = 0 ∨ x6 = 1) with rfl | rfl
        · refine ⟨_, ?_, by rw [show (0 + (n : Int).toNat * 2 + (0 : Int).toNat * 1) = n * 2 by simp, LE_set1 _ _ (by omega)] at o2; exact o2⟩
          simpa using hes
        · refine ⟨_, ?_, by rw [show (0 + (n : Int).toNat * 2 + (1 : Int).toNat * 1) = n * 2 + 1 by simp, LE_set2 _ _ (by omega)] at o2; exact o2⟩
          simpa using hes
      · have h6 : ¬ x6 < 2 := of_decide_eq_false hb'
        unfold F58.B3
        rw [wrap_id (by omega) (by omega)]
        exact ⟨⟨rfl, by omega, by omega, by omega, hb, es', hes, ho⟩, by simp; omega⟩
    · have hge : ¬ x5 < es.length := of_decide_eq_false hb'
      have : x5 = es.length := by omega
      subst this
      unfold F58.B1
      exact kk _ es' hb.mod hes (.inr ⟨b, es.length, h1, rfl, ho, by rw [LE_length, hes]⟩)

theorem markGraph_ok {k z : Int} {f : Nat} (hk : 0 ≤ k) (hl : k + 2 * es.length ≤ 4611686018427387904) (h : Fresh f H v 100 2 (LE es))
    (kk : ∀ G, Mod v H G → K (.int .i64 (k + 2 * es.length)) G) : AC Try.prog T0 20 [.agg ⟨[.int .i64 z, v]⟩, .int .i64 k] H K := by
  apply F20.ac
  unfold F20.B3
  refine newK_f (all_iv (edges_one h.edges)) fun G hG hn ho => ?_
  unfold F20.B2
  refine ld1_own ho rfl (markEdgeS_ok hk hl (h.le hG) fun G2 es' hm _ _ => asI_mk ?_)
  unfold F20.B1
  exact kk _ ⟨Nat.le_trans hG.1 hm.len, fun c o hc hne => hm.same _ _ (hG.2 _ _ hc) hne⟩
end Go.Proofs
