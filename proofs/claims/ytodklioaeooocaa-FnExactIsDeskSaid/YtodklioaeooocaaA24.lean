/- Plain rules, continued: heaps by facts, edges, lists. -/
import Derived.Test.YtodklioaeooocaaA23
set_option linter.unusedVariables false
set_option linter.unusedSimpArgs false
namespace Go.Abs
open Go.RowKit

section
variable {T : TT} {H H0 G : AHeap} {v : Value} {l : List Int}

/-- A heap's row. -/
abbrev Own (H : AHeap) (b : Nat) (e : TypeId) (cs : List Value) : Prop := H[b]? = some (some (.row cs e true))
theorem newK_f {cs : List Value} {e : TypeId} {K : Nat → AHeap → Prop} (h1 : cs.all Value.oneCell' = true) (h : ∀ G, H.le G → G.length = H.length + 1 → Own G H.length e cs → K H.length G) : newK H cs e K :=
  newK_mk h1 (h _ (le_snoc _ _) (by simp) (by simp [Own]))
/-- All but one block stays. -/
structure But (b : Nat) (H G : AHeap) : Prop where
  len : G.length = H.length
  same : ∀ c, c ≠ b → G[c]? = H[c]?
theorem But.le {b : Nat} (h : But b H G) (h0 : H0.le H) (hb : H0.length ≤ b) : H0.le G :=
  ⟨by rw [h.len]; exact h0.1, fun c o hc => by rw [h.same c (by have := lt_of_get hc; omega)]; exact h0.2 _ _ hc⟩
theorem But.own {b c : Nat} (h : But b H G) {e : TypeId} {cs : List Value} (hc : Own H c e cs) (hne : c ≠ b) : Own G c e cs := by rw [Own, h.same c hne]; exact hc
theorem But.cell {b c o : Nat} (h : But b H G) (hne : c ≠ b) : G.cell c o = H.cell c o := by unfold AHeap.cell; rw [h.same c hne]
theorem But.set {b : Nat} {x : Option AObj} : But b H (H.set b x) := ⟨by simp, fun c hc => List.getElem?_set_ne (fun h => hc h.symm)⟩
theorem stK_f {b o : Nat} {old cs new : List Value} {e : TypeId} {K : AHeap → Prop} (hb : Own H b e old) (ho : o + cs.length ≤ old.length) (hx : ∀ v ∈ cs, v.oneCell' = true) (hn : old.take o ++ cs ++ old.drop (o + cs.length) = new)
    (h : ∀ G, But b H G → Own G b e new → K G) : stK H b o cs K := by
  unfold stK; rw [hb]
  subst hn
  exact ⟨ho, hx, h _ .set (by have := lt_of_get hb; simp [Own, this])⟩
theorem stK_1 {b o : Nat} {old : List Value} {e : TypeId} {x : Value} {K : AHeap → Prop} (hb : Own H b e old) (ho : o < old.length) (hx : x.oneCell' = true) (h : ∀ G, But b H G → Own G b e (old.set o x) → K G) : stK H b o [x] K := by
  refine stK_f hb (by simp; omega) (by simpa using hx) ?_ h
  rw [List.set_eq_take_append_cons_drop, if_pos ho]; simp
theorem Own.cell {b o : Nat} {e : TypeId} {cs : List Value} (h : Own H b e cs) : H.cell b o = cs[o]? := cell_own h o
theorem ld1_own {b o : Nat} {e : TypeId} {cs : List Value} {u : Value} {K : Value → Prop} (h : Own H b e cs) (hu : cs[o]? = some u) (k : K u) : ld1 H b o K := ld1_mk (h.cell.trans hu) k
theorem ldI_own {b o : Nat} {e : TypeId} {cs : List Value} {k : IntKind} {n : Int} {K : Int → Prop} (h : Own H b e cs) (hu : cs[o]? = some (.int k n)) (kk : K n) : ldI k H b o K := ldI_mk (h.cell.trans hu) kk

/-- A slice of edges. -/
def Edges (H : AHeap) (v : Value) (l : List (Int × Int)) : Prop :=
  (v = .slice none 0 0 ∧ l = []) ∨ ∃ a c, v = .slice (some a) l.length c ∧ (l = [] ∨ (a.spot = none ∧ ∀ (i : Nat) x, l[i]? = some x → H.cell a.block (a.off + i * 2) = some (.int .i64 x.1) ∧ H.cell a.block (a.off + i * 2 + 1) = some (.int .i64 x.2)))
def LE (l : List (Int × Int)) : List Value := l.flatMap fun e => [.int .i64 e.1, .int .i64 e.2]
theorem LE_length : ∀ (l : List (Int × Int)), (LE l).length = l.length * 2
  | [] => rfl
  | x :: l => by have := LE_length l; simp [LE] at this ⊢; omega
theorem LE_cons (x : Int × Int) (l : List (Int × Int)) : LE (x :: l) = .int .i64 x.1 :: .int .i64 x.2 :: LE l := by simp [LE]
theorem LE_append (l m : List (Int × Int)) : LE (l ++ m) = LE l ++ LE m := by simp [LE]
theorem LE_get : ∀ (l : List (Int × Int)) (i : Nat) (x : Int × Int), l[i]? = some x → (LE l)[i * 2]? = some (.int .i64 x.1) ∧ (LE l)[i * 2 + 1]? = some (.int .i64 x.2)
  | [], i, x, h => by simp at h
  | y :: l, 0, x, h => by simp at h; subst h; simp [LE_cons]
  | y :: l, i + 1, x, h => by
    have := LE_get l i x (by simpa using h)
    rw [LE_cons, show (i + 1) * 2 = i * 2 + 2 by omega]
    simpa using this
theorem Edges.len {l : List (Int × Int)} (h : Edges H v l) {K : Nat → Prop} (k : K l.length) : lenK v K := by
  rcases h with ⟨rfl, rfl⟩ | ⟨a, c, rfl, _⟩ <;> exact k
theorem Edges.le {l : List (Int × Int)} (h : Edges H v l) (hl : H.le G) : Edges G v l := by
  rcases h with h | ⟨a, c, h1, h2⟩
  · exact .inl h
  · refine .inr ⟨a, c, h1, ?_⟩
    rcases h2 with h2 | ⟨h2, h3⟩
    · exact .inl h2
    · exact .inr ⟨h2, fun i x hx => ⟨AHeap.cell_le hl (h3 i x hx).1, AHeap.cell_le hl (h3 i x hx).2⟩⟩
theorem Edges.idx {l : List (Int × Int)} (h : Edges H v l) {i : Int} (h0 : 0 ≤ i) (h1 : i < l.length) :
    ∃ b o, (∀ K : Nat → Nat → Prop, K b o → idxK v i 2 K) ∧ H.cell b o = some (.int .i64 (l.getD i.toNat (0, 0)).1) ∧ H.cell b (o + 1) = some (.int .i64 (l.getD i.toNat (0, 0)).2) := by
  rcases h with ⟨rfl, rfl⟩ | ⟨⟨b, o, sp⟩, c, rfl, h2⟩
  · simp at h1; omega
  · rcases h2 with rfl | ⟨rfl, h3⟩
    · simp at h1; omega
    · have hi : i.toNat < l.length := by omega
      refine ⟨b, o + i.toNat * 2, fun K k => ⟨h0, h1, k⟩, ?_⟩
      have := h3 i.toNat l[i.toNat] (by simp [hi])
      simpa [List.getD, hi] using this
theorem Fresh.edges {m : Nat} {e : TypeId} {l : List (Int × Int)} (h : Fresh m H v e 2 (LE l)) : Edges H v l := by
  rcases h with ⟨h1, h2⟩ | ⟨b, n, _, rfl, h2, h3⟩
  · have : l = [] := by cases l with | nil => rfl | cons x l => simp [LE_cons] at h1
    subst this
    rcases h2 with rfl | ⟨a, rfl⟩
    · exact .inl ⟨rfl, rfl⟩
    · exact .inr ⟨a, 0, rfl, .inl rfl⟩
  · rw [LE_length] at h3
    have : n = l.length := by omega
    subst this
    exact .inr ⟨_, _, rfl, .inr ⟨rfl, fun i x hx => by
      have := LE_get l i x hx
      rw [cell_own h2, cell_own h2, Nat.zero_add]; exact this⟩⟩
/-- A row filled from the front. -/
theorem fill_set {α : Type} (l : List α) (d : α) {n : Nat} (hn : n < l.length) : (l.take n ++ List.replicate (l.length - n) d).set n l[n] = l.take (n + 1) ++ List.replicate (l.length - (n + 1)) d := by
  apply List.ext_getElem?
  intro i
  rw [List.getElem?_set]
  have h1 : (l.take n).length = n := by simp; omega
  have h2 : (l.take (n + 1)).length = n + 1 := by simp; omega
  by_cases hi : n = i
  · subst hi
    rw [if_pos rfl, if_pos (by simp; omega), List.getElem?_append_left (by omega), List.getElem?_take, if_pos (by omega)]
    simp [hn]
  · rw [if_neg hi]
    by_cases hlt : i < n
    · rw [List.getElem?_append_left (by omega), List.getElem?_append_left (by omega)]
      rw [List.getElem?_take, List.getElem?_take, if_pos hlt, if_pos (by omega)]
    · rw [List.getElem?_append_right (by omega), List.getElem?_append_right (by omega), h1, h2]
      rw [List.getElem?_replicate, List.getElem?_replicate]
      split <;> split <;> first | rfl | omega
theorem getD_of {α : Type} {l : List α} {n : Nat} {d : α} (h : n < l.length) : l.getD n d = l[n] := by simp [List.getD, h]
theorem agg1_mk {a : Value} {K : Value → Prop} (h : K a) : agg1 (.agg ⟨[a]⟩) K := h
theorem agg2_mk {a b : Value} {K : Value → Value → Prop} (h : K a b) : agg2 (.agg ⟨[a, b]⟩) K := h
theorem agg3_mk {a b c : Value} {K : Value → Value → Value → Prop} (h : K a b c) : agg3 (.agg ⟨[a, b, c]⟩) K := h
theorem agg4_mk {a b c d : Value} {K : Value → Value → Value → Value → Prop} (h : K a b c d) : agg4 (.agg ⟨[a, b, c, d]⟩) K := h
theorem tup2_mk {a b : Value} {K : Value → Value → Prop} (h : K a b) : tup2 (.tuple ⟨[a, b]⟩) K := h
theorem tup3_mk {a b c : Value} {K : Value → Value → Value → Prop} (h : K a b c) : tup3 (.tuple ⟨[a, b, c]⟩) K := h
theorem all_iv {k : IntKind} {x : Int} {y : Value} (h : y.oneCell' = true) : [Value.int k x, y].all Value.oneCell' = true := by simp [h]; rfl
theorem mem_iv {k : IntKind} {x : Int} {y : Value} (h : y.oneCell' = true) : ∀ v ∈ [Value.int k x, y], v.oneCell' = true := List.all_eq_true.1 (all_iv h)
end
end Go.Abs
