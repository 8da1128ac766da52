/- What comes in, as lists. -/
import Derived.Test.YtodklioaeooocaaA24
import Derived.OpenShut
set_option linter.unusedVariables false
set_option linter.unusedSimpArgs false
namespace Go.Abs
open Go.RowKit

def sFields (o : Option TI) : List TypeId := match o with | some ⟨.struct fs, _, _, _⟩ => fs.toList.map (·.type) | _ => []
def isStruct (o : Option TI) : Bool := match o with | some ⟨.struct _, _, _, _⟩ => true | _ => false
def sElem (o : Option TI) : Option TypeId := match o with | some ⟨.slice e, _, _, _⟩ => some e | _ => none
def sArr (o : Option TI) : Option (Nat × TypeId) := match o with | some ⟨.array m e, _, _, _⟩ => some (m, e) | _ => none
def isI64 (o : Option TI) : Bool := match o with | some ⟨.int .i64, _, _, _⟩ => true | _ => false
def isStr (o : Option TI) : Bool := match o with | some ⟨.string, _, _, _⟩ => true | _ => false
def isBoo (o : Option TI) : Bool := match o with | some ⟨.bool, _, _, _⟩ => true | _ => false

section
variable {T : TT} {H G : AHeap} {v : Value} {n : Nat} {t : TypeId} {cs : List Value}

theorem AT_struct (h : isStruct (T t) = true) (a : AT T H n t cs) : ∃ m, Chunked T (AT T H m) (sFields (T t)) cs := by
  cases n with
  | zero => exact a.elim
  | succ n =>
    unfold AT at a
    split at a
    · rename_i ti hti
      rw [hti] at h ⊢
      obtain ⟨d, _, _, _⟩ := ti
      cases d <;> first | (simp [isStruct] at h; done) | exact ⟨n, a⟩
    · exact a.elim
theorem AT_arr {m : Nat} {e : TypeId} (h : sArr (T t) = some (m, e)) (a : AT T H n t cs) : ∃ k, Chunked T (AT T H k) (List.replicate m e) cs := by
  cases n with
  | zero => exact a.elim
  | succ n =>
    unfold AT at a
    split at a
    · rename_i ti hti
      rw [hti] at h
      obtain ⟨d, _, _, _⟩ := ti
      cases d <;> first | (simp [sArr] at h; done) | skip
      simp [sArr] at h
      obtain ⟨rfl, rfl⟩ := h
      exact ⟨n, a⟩
    · exact a.elim
theorem AT_i64 (h : isI64 (T t) = true) (a : AT T H n t cs) : ∃ x, cs = [.int .i64 x] ∧ -9223372036854775808 ≤ x ∧ x ≤ 9223372036854775807 := by
  cases n with
  | zero => exact a.elim
  | succ n =>
    unfold AT at a
    split at a
    · rename_i ti hti
      rw [hti] at h
      obtain ⟨d, _, _, _⟩ := ti
      cases d <;> first | (simp [isI64] at h; done) | skip
      rename_i k
      cases k <;> first | (simp [isI64] at h; done) | skip
      obtain ⟨x, rfl, hx⟩ := a
      have := Go.bounds_i64 hx
      exact ⟨x, rfl, this.1, this.2⟩
    · exact a.elim
theorem AT_str (h : isStr (T t) = true) (a : AT T H n t cs) : ∃ s, cs = [.string s] ∧ s.size ≤ maxLen := by
  cases n with
  | zero => exact a.elim
  | succ n =>
    unfold AT at a
    split at a
    · rename_i ti hti
      rw [hti] at h
      obtain ⟨d, _, _, _⟩ := ti
      cases d <;> first | (simp [isStr] at h; done) | exact a
    · exact a.elim
theorem AT_boo (h : isBoo (T t) = true) (a : AT T H n t cs) : ∃ b, cs = [.bool b] := by
  cases n with
  | zero => exact a.elim
  | succ n =>
    unfold AT at a
    split at a
    · rename_i ti hti
      rw [hti] at h
      obtain ⟨d, _, _, _⟩ := ti
      cases d <;> first | (simp [isBoo] at h; done) | exact a
    · exact a.elim
theorem AT_slice {e : TypeId} (h : sElem (T t) = some e) (a : AT T H n t cs) : cs = [.slice none 0 0] ∨ cs = [.slice (some ⟨0, 0, none⟩) 0 1] ∨
    ∃ m b len xs, cs = [.slice (some ⟨b, 0, none⟩) len (len + 1)] ∧ len ≤ maxLen ∧ H[b]? = some (some (.row xs e false)) ∧ Chunked T (AT T H m) (List.replicate len e) xs := by
  cases n with
  | zero => exact a.elim
  | succ n =>
    unfold AT at a
    split at a
    · rename_i ti hti
      rw [hti] at h
      obtain ⟨d, _, _, _⟩ := ti
      cases d <;> first | (simp [sElem] at h; done) | skip
      simp [sElem] at h
      subst h
      rcases a with a | a | ⟨b, len, xs, h1, h2, h3, h4⟩
      · exact .inl a
      · exact .inr (.inl a)
      · exact .inr (.inr ⟨n, b, len, xs, h1, h2, h3, h4⟩)
    · exact a.elim
theorem chunks_ints {e : TypeId} (he : isI64 (T e) = true) (hz : sz T e = 1) : ∀ (len : Nat) (xs : List Value), Chunked T (AT T H n) (List.replicate len e) xs → ∃ l : List Int, l.length = len ∧ xs = LI l ∧ ∀ x ∈ l, -9223372036854775808 ≤ x ∧ x ≤ 9223372036854775807
  | 0, xs, h => ⟨[], rfl, h, by simp⟩
  | len + 1, xs, h => by
    rw [List.replicate_succ] at h
    obtain ⟨h1, h2, h3⟩ := h
    rw [hz] at h1 h2 h3
    obtain ⟨x, hx, hr⟩ := AT_i64 he h2
    obtain ⟨l, hl, he, hb⟩ := chunks_ints he hz len _ h3
    refine ⟨x :: l, by simp [hl], ?_, ?_⟩
    · cases xs with
      | nil => simp at h1
      | cons y ys => simp at hx he ⊢; exact ⟨hx, he⟩
    · intro y hy
      rcases List.mem_cons.1 hy with rfl | hy
      · exact hr
      · exact hb y hy
theorem chunks_edges {e i : TypeId} (he : sArr (T e) = some (2, i)) (hi : isI64 (T i) = true) (hzi : sz T i = 1) (hz : sz T e = 2) : ∀ (len : Nat) (xs : List Value), Chunked T (AT T H n) (List.replicate len e) xs → ∃ l : List (Int × Int), l.length = len ∧ xs = LE l
  | 0, xs, h => ⟨[], rfl, h⟩
  | len + 1, xs, h => by
    rw [List.replicate_succ] at h
    obtain ⟨h1, h2, h3⟩ := h
    rw [hz] at h1 h2 h3
    obtain ⟨k, hk⟩ := AT_arr he h2
    obtain ⟨p, hp, hq, _⟩ := chunks_ints hi hzi 2 _ hk
    obtain ⟨l, hl, he⟩ := chunks_edges he hi hzi hz len _ h3
    match p, hp with
    | [a, b], _ =>
      refine ⟨(a, b) :: l, by simp [hl], ?_⟩
      rw [LE_cons, ← he]
      have := List.take_append_drop 2 xs
      rw [hq] at this
      rw [← this]; simp [this]
theorem AT_ints {e : TypeId} (h : sElem (T t) = some e) (he : isI64 (T e) = true) (hz : sz T e = 1) (a : AT T H n t cs) : ∃ v l, cs = [v] ∧ Ints H v l ∧ l.length ≤ 9223372036854775807 ∧ ∀ x ∈ l, -9223372036854775808 ≤ x ∧ x ≤ 9223372036854775807 := by
  rcases AT_slice h a with rfl | rfl | ⟨m, b, len, xs, rfl, h2, h3, h4⟩
  · exact ⟨_, [], rfl, .inl ⟨rfl, rfl⟩, by decide, by simp⟩
  · exact ⟨_, [], rfl, .inr ⟨_, _, rfl, .inl rfl⟩, by decide, by simp⟩
  · obtain ⟨l, rfl, rfl, hb⟩ := chunks_ints he hz len xs h4
    exact ⟨_, l, rfl, .inr ⟨_, _, rfl, .inr ⟨rfl, fun i x hx => by rw [cell_own h3]; simp [hx]⟩⟩, by simpa [maxLen] using h2, hb⟩
theorem AT_edges {e i : TypeId} (h : sElem (T t) = some e) (he : sArr (T e) = some (2, i)) (hi : isI64 (T i) = true) (hzi : sz T i = 1) (hz : sz T e = 2) (a : AT T H n t cs) : ∃ v l, cs = [v] ∧ Edges H v l ∧ l.length ≤ 9223372036854775807 := by
  rcases AT_slice h a with rfl | rfl | ⟨m, b, len, xs, rfl, h2, h3, h4⟩
  · exact ⟨_, [], rfl, .inl ⟨rfl, rfl⟩, by decide⟩
  · exact ⟨_, [], rfl, .inr ⟨_, _, rfl, .inl rfl⟩, by decide⟩
  · obtain ⟨l, rfl, rfl⟩ := chunks_edges he hi hzi hz len xs h4
    exact ⟨_, l, rfl, .inr ⟨_, _, rfl, .inr ⟨rfl, fun i x hx => by
      have := LE_get l i x hx
      rw [cell_own h3, cell_own h3, Nat.zero_add]; exact this⟩⟩, by simpa [maxLen] using h2⟩
theorem AV_flat {v : Value} (h : AV T H t v) (hf : isAg T t = false) : ∃ n cs, AT T H n t cs ∧ v = cs.headD undef := by
  obtain ⟨n, cs, h1, h2⟩ := h
  rw [hf] at h2
  exact ⟨n, cs, h1, h2⟩
theorem AV_agg {v : Value} (h : AV T H t v) (hf : isAg T t = true) : ∃ n cs, AT T H n t cs ∧ v = .agg ⟨cs⟩ := by
  obtain ⟨n, cs, h1, h2⟩ := h
  rw [hf] at h2
  exact ⟨n, cs, h1, h2⟩
end
end Go.Abs
