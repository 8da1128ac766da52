/- Plain rules for the printed blocks: lists in the abstract heap. -/
import Derived.Test.YtodklioaeooocaaA22
import Derived.Laws.BitsLemmas
import Derived.Laws.Bits64
set_option linter.unusedVariables false
set_option linter.unusedSimpArgs false
namespace Go.Abs
open Go.RowKit

theorem pif_cases {b : Bool} {A B : Prop} (h1 : b = true → A) (h2 : b = false → B) : pif b A B := by
  cases b
  · exact h2 rfl
  · exact h1 rfl
theorem pif_t {A B : Prop} {b : Bool} (hb : b = true) (h : A) : pif b A B := by subst hb; exact h
theorem pif_f {A B : Prop} {b : Bool} (hb : b = false) (h : B) : pif b A B := by subst hb; exact h
theorem wrap_id {x : Int} (h1 : -9223372036854775808 ≤ x) (h2 : x ≤ 9223372036854775807) : IntKind.i64.wrap x = x := by
  rw [IntKind.wrap_i64]; omega
abbrev LI (l : List Int) : List Value := l.map (Value.int .i64)

/-- A slice of integers. -/
def Ints (H : AHeap) (v : Value) (l : List Int) : Prop :=
  (v = .slice none 0 0 ∧ l = []) ∨ ∃ a c, v = .slice (some a) l.length c ∧ (l = [] ∨ (a.spot = none ∧ ∀ (i : Nat) x, l[i]? = some x → H.cell a.block (a.off + i) = some (.int .i64 x)))

section
variable {P : Program} {T : TT} {H H' : AHeap} {v : Value} {l : List Int}

theorem ld1_mk {b o : Nat} {u : Value} {K : Value → Prop} (hc : H.cell b o = some u) (h : K u) : ld1 H b o K := by unfold ld1; rw [hc]; exact h
theorem ldI_mk {k : IntKind} {b o : Nat} {n : Int} {K : Int → Prop} (hc : H.cell b o = some (.int k n)) (h : K n) : ldI k H b o K := ld1_mk hc (asI_mk h)
theorem newK_mk {cs : List Value} {e : TypeId} {K : Nat → AHeap → Prop} (h1 : cs.all Value.oneCell' = true) (h : K H.length (H ++ [some (.row cs e true)])) : newK H cs e K := pif_mk h1 h
theorem mkR_mk {bytes : Nat} {e : TypeId} {zs : List Value} {n : Nat} {K : Value → AHeap → Prop} (h1 : n ≤ 4294967296) (h2 : bytes ≤ 1024) (h : K (.slice (some ⟨H.length, 0, none⟩) n (n + 1)) (H ++ [some (.row (List.replicate n zs).flatten e true)])) : mkR H bytes e zs n n K :=
  ⟨by omega, Int.le_refl _, by omega, h2, by simpa using h⟩
theorem stK_one {b o : Nat} {old : List Value} {e : TypeId} {x : Value} {K : AHeap → Prop} (hb : H[b]? = some (some (.row old e true))) (ho : o < old.length) (hx : x.oneCell' = true) (h : K (H.set b (some (.row (old.set o x) e true)))) : stK H b o [x] K := by
  unfold stK; rw [hb]
  refine ⟨by simp; omega, by simpa using hx, ?_⟩
  have : old.take o ++ [x] ++ old.drop (o + [x].length) = old.set o x := by
    rw [List.set_eq_take_append_cons_drop, if_pos ho]; simp
  rw [this]; exact h

theorem Ints.len (h : Ints H v l) {K : Nat → Prop} (k : K l.length) : lenK v K := by
  rcases h with ⟨rfl, rfl⟩ | ⟨a, c, rfl, _⟩ <;> exact k
theorem Ints.le (h : Ints H v l) (hl : H.le H') : Ints H' v l := by
  rcases h with h | ⟨a, c, h1, h2⟩
  · exact .inl h
  · refine .inr ⟨a, c, h1, ?_⟩
    rcases h2 with h2 | ⟨h2, h3⟩
    · exact .inl h2
    · exact .inr ⟨h2, fun i x hx => AHeap.cell_le hl (h3 i x hx)⟩
theorem Ints.idx (h : Ints H v l) {i : Int} (h0 : 0 ≤ i) (h1 : i < l.length) : ∃ b o, (∀ K : Nat → Nat → Prop, K b o → idxK v i 1 K) ∧ H.cell b o = some (.int .i64 (l.getD i.toNat 0)) := by
  rcases h with ⟨rfl, rfl⟩ | ⟨⟨b, o, sp⟩, c, rfl, h2⟩
  · simp at h1; omega
  · rcases h2 with rfl | ⟨rfl, h3⟩
    · simp at h1; omega
    · have hi : i.toNat < l.length := by omega
      refine ⟨b, o + i.toNat, fun K k => ⟨h0, h1, by simpa using k⟩, ?_⟩
      have := h3 i.toNat l[i.toNat] (by simp [hi])
      simpa [List.getD, hi] using this
theorem Ints.rd (h : Ints H v l) {i : Int} (h0 : 0 ≤ i) (h1 : i < l.length) {K : Int → Prop} (k : K (l.getD i.toNat 0)) : idxK v i 1 (fun b o => ldI .i64 H b o K) := by
  obtain ⟨b, o, h2, h3⟩ := h.idx h0 h1
  exact h2 _ (ldI_mk h3 k)

theorem le_snoc (H : AHeap) (x : Option AObj) : H.le (H ++ [x]) := AHeap.le_append _ _
theorem snoc_get (H : AHeap) (x : Option AObj) : (H ++ [x])[H.length]? = some x := by simp
theorem snoc_set (H : AHeap) (x y : Option AObj) : (H ++ [x]).set H.length y = H ++ [y] := by simp
theorem cell_own {b : Nat} {cs : List Value} {e : TypeId} {own : Bool} (h : H[b]? = some (some (.row cs e own))) (o : Nat) : H.cell b o = cs[o]? := by unfold AHeap.cell; rw [h]
theorem LI_get (l : List Int) (i : Nat) : (LI l)[i]? = l[i]?.map (Value.int .i64) := by simp

/-- A list in a row of one's own, not before m. -/
def Fresh (m : Nat) (H : AHeap) (v : Value) (e : TypeId) (z : Nat) (cs : List Value) : Prop :=
  (cs = [] ∧ (v = .slice none 0 0 ∨ ∃ a, v = .slice (some a) 0 0)) ∨ ∃ b n, m ≤ b ∧ v = .slice (some ⟨b, 0, none⟩) n (n + 1) ∧ H[b]? = some (some (.row cs e true)) ∧ cs.length = n * z
theorem Fresh.ints {m : Nat} {e : TypeId} (h : Fresh m H v e 1 (LI l)) : Ints H v l := by
  rcases h with ⟨h1, h2⟩ | ⟨b, n, _, rfl, h2, h3⟩
  · have : l = [] := by simpa using h1
    subst this
    rcases h2 with rfl | ⟨a, rfl⟩
    · exact .inl ⟨rfl, rfl⟩
    · exact .inr ⟨a, 0, rfl, .inl rfl⟩
  · simp at h3
    subst h3
    exact .inr ⟨_, _, rfl, .inr ⟨rfl, fun i x hx => by rw [cell_own h2]; simp [hx]⟩⟩
theorem Fresh.le {m : Nat} {e : TypeId} {z : Nat} {cs : List Value} (h : Fresh m H v e z cs) (hl : H.le H') : Fresh m H' v e z cs := by
  rcases h with h | ⟨b, n, h1, h2, h3, h4⟩
  · exact .inl h
  · exact .inr ⟨b, n, h1, h2, hl.2 _ _ h3, h4⟩
theorem Fresh.less {m m' : Nat} {e : TypeId} {z : Nat} {cs : List Value} (h : Fresh m H v e z cs) (hm : m' ≤ m) : Fresh m' H v e z cs := by
  rcases h with h | ⟨b, n, h1, h2, h3, h4⟩
  · exact .inl h
  · exact .inr ⟨b, n, by omega, h2, h3, h4⟩
theorem fresh_snoc {e : TypeId} {z n : Nat} {cs : List Value} (h : cs.length = n * z) : Fresh H.length (H ++ [some (.row cs e true)]) (.slice (some ⟨H.length, 0, none⟩) n (n + 1)) e z cs :=
  .inr ⟨H.length, n, Nat.le_refl _, rfl, by simp, h⟩

/-- The heap apart from some blocks. -/
theorem le_set {H0 : AHeap} (h : H0.le H) {b : Nat} (hb : H0.length ≤ b) (x : Option AObj) : H0.le (H.set b x) := by
  refine ⟨by simpa using h.1, fun c o hc => ?_⟩
  have := lt_of_get hc
  rw [List.getElem?_set_ne (by omega)]; exact h.2 _ _ hc
theorem le_len (h : H.le H') : H.length ≤ H'.length := h.1

/-- One more at the end of a list of one's own. -/
theorem Fresh.push {H0 : AHeap} {e : TypeId} {ti : TI} {cs ys : List Value} {x : Value} {n : Nat} {K : Value → AHeap → Prop} (he : T e = some ti) (hz : 0 < ti.size) (hb : ti.bytes ≤ 1024) (hf : ti.fine = true)
    (h : Fresh H0.length H v e ti.size cs) (h0 : H0.le H) (hx : cellsAt H x ti.size n ys) (hn : 0 < n) (hs : cs.length + ys.length ≤ 4294967296)
    (k : ∀ v' H', H0.le H' → Fresh H0.length H' v' e ti.size (cs ++ ys) → (∀ b o, H[b]? = some (some o) → (∀ c n, v ≠ .slice (some ⟨b, c, none⟩) n (n + 1)) → H'[b]? = some (some o)) → K v' H') : apK T e H v x K := by
  unfold apK
  rw [he]
  have hyl := hx.1
  refine ⟨n, ys, hx, .inr ⟨hn, ?_⟩⟩
  have hle : n ≤ n * ti.size := Nat.le_mul_of_pos_right _ hz
  rcases h with ⟨rfl, h1⟩ | ⟨b, m, hm, rfl, h2, h3⟩
  · refine ⟨0, [], H, ?_, by simp at hs; omega, hb, hf, hz, k _ _ (AHeap.le_trans h0 (le_snoc _ _)) ?_ ?_⟩
    · rcases h1 with rfl | ⟨a, rfl⟩
      · exact .inl ⟨rfl, rfl, rfl, rfl⟩
      · exact .inr (.inl ⟨a, rfl, rfl, rfl, rfl⟩)
    · rw [Nat.zero_add]; exact (fresh_snoc (by simpa using hyl)).less h0.1
    · intro b o h _
      exact (le_snoc _ _).2 _ _ h
  · have hml : m ≤ m * ti.size := Nat.le_mul_of_pos_right _ hz
    have hbl := lt_of_get h2
    refine ⟨m, cs, H.set b none, .inr (.inr ⟨b, 0, m + 1, cs, rfl, h2, by omega, by simp [← h3], rfl⟩), by omega, hb, hf, hz, k _ _ ?_ ?_ ?_⟩
    · exact AHeap.le_trans (le_set h0 hm none) (le_snoc _ _)
    · refine .inr ⟨H.length, m + n, by omega, rfl, ?_, by simp [h3, hyl, Nat.add_mul]⟩
      have : (H.set b none).length = H.length := by simp
      rw [← this]; exact snoc_get _ _
    · intro c o hc hne
      have hcl := lt_of_get hc
      have : b ≠ c := by rintro rfl; exact hne 0 m rfl
      rw [List.getElem?_append_left (by simpa using hcl), List.getElem?_set_ne this]; exact hc
theorem cellsAt_row {b n : Nat} {cs : List Value} {e : TypeId} {own : Bool} {c z : Nat} (h : H[b]? = some (some (.row cs e own))) (hn : cs.length = n * z) : cellsAt H (.slice (some ⟨b, 0, none⟩) n c) z n cs :=
  ⟨hn, _, _, rfl, .inr ⟨b, 0, rfl, fun i u hu => by rw [cell_own h, Nat.zero_add]; exact hu⟩⟩
end
end Go.Abs
