/- Plain rules, continued: what lives on while lists of one's own grow. -/
import Derived.Test.YtfcflpcmjlbedabP3
set_option linter.unusedVariables false
set_option linter.unusedSimpArgs false
set_option maxRecDepth 100000
namespace Go.Abs
open Go.RowKit

section
variable {T : TT} {H H0 G : AHeap} {v : Value} {l : List Int} {m : Nat} {t : TypeId} {z : Nat} {cs : List Value}

theorem lenK_of {a : Option Addr} {n c : Nat} {K : Nat → Prop} (k : K n) : lenK (.slice a n c) K := k
/-- All that is older than m lives on. -/
structure Keep (m : Nat) (H G : AHeap) : Prop where
  len : H.length ≤ G.length
  old : ∀ (b : Nat) (o : AObj), b < m → H[b]? = some (some o) → G[b]? = some (some o)
theorem Keep.refl : Keep m H H := ⟨Nat.le_refl _, fun _ _ _ h => h⟩
theorem Keep.trans {G' : AHeap} (h : Keep m H G) (k : Keep m G G') : Keep m H G' := ⟨Nat.le_trans h.len k.len, fun b o hb ho => k.old b o hb (h.old b o hb ho)⟩
theorem Keep.of_le (h : H.le G) : Keep m H G := ⟨h.1, fun b o _ ho => h.2 b o ho⟩
theorem But.keep {b : Nat} (h : But b H G) (hb : m ≤ b) : Keep m H G := ⟨Nat.le_of_eq h.len.symm, fun c o hc ho => by rw [h.same c (by omega)]; exact ho⟩
theorem Keep.less {m' : Nat} (h : Keep m H G) (hm : m' ≤ m) : Keep m' H G := ⟨h.len, fun b o hb ho => h.old b o (by omega) ho⟩
theorem Keep.le (h : Keep m H G) (h0 : H0.le H) (hm : H0.length ≤ m) : H0.le G := ⟨Nat.le_trans h0.1 h.len, fun b o ho => h.old b o (by have := lt_of_get ho; omega) (h0.2 b o ho)⟩
theorem Keep.own {b : Nat} (h : Keep m H G) (o : Own H b t cs) (hb : b < m) : Own G b t cs := h.old b _ hb o
theorem Own.lt {b : Nat} (o : Own H b t cs) : b < H.length := lt_of_get o
theorem Own.le {b : Nat} (o : Own H b t cs) (h : H.le G) : Own G b t cs := h.2 _ _ o
theorem Own.inj {b : Nat} {t' : TypeId} {cs' : List Value} (o : Own H b t cs) (o' : Own H b t' cs') : cs = cs' := by
  have := o.symm.trans o'; simp at this; exact this.1

/-- A slice of a row of one's own. -/
def Sl (m : Nat) (H : AHeap) (v : Value) (t : TypeId) (z : Nat) (cs : List Value) : Prop :=
  (cs = [] ∧ (v = .slice none 0 0 ∨ ∃ a, v = .slice (some a) 0 0)) ∨ ∃ b n pre post, m ≤ b ∧ v = .slice (some ⟨b, List.length pre, none⟩) n (n + 1) ∧ Own H b t (pre ++ cs ++ post) ∧ cs.length = n * z
theorem Fresh.sl (h : Fresh m H v t z cs) : Sl m H v t z cs := by
  rcases h with h | ⟨b, n, h1, h2, h3, h4⟩
  · exact .inl h
  · exact .inr ⟨b, n, [], [], h1, h2, by simpa using h3, h4⟩
theorem Sl.le (h : Sl m H v t z cs) (hl : H.le G) : Sl m G v t z cs := by
  rcases h with h | ⟨b, n, pre, post, h1, h2, h3, h4⟩
  · exact .inl h
  · exact .inr ⟨b, n, pre, post, h1, h2, h3.le hl, h4⟩
theorem Sl.less {m' : Nat} (h : Sl m H v t z cs) (hm : m' ≤ m) : Sl m' H v t z cs := by
  rcases h with h | ⟨b, n, pre, post, h1, h2, h3, h4⟩
  · exact .inl h
  · exact .inr ⟨b, n, pre, post, by omega, h2, h3, h4⟩
theorem Sl.but {b : Nat} (h : Sl m H v t z cs) (hb : But b H G) (hm : b < m) : Sl m G v t z cs := by
  rcases h with h | ⟨c, n, pre, post, h1, h2, h3, h4⟩
  · exact .inl h
  · exact .inr ⟨c, n, pre, post, h1, h2, hb.own h3 (by omega), h4⟩
theorem Fresh.but {b : Nat} (h : Fresh m H v t z cs) (hb : But b H G) (hm : b < m) : Fresh m G v t z cs := by
  rcases h with h | ⟨c, n, h1, h2, h3, h4⟩
  · exact .inl h
  · exact .inr ⟨c, n, h1, h2, hb.own h3 (by omega), h4⟩
theorem Fresh.keep {m' : Nat} (h : Fresh m H v t z cs) (hk : Keep m' H G) (hm : ∀ b n, v = .slice (some ⟨b, 0, none⟩) n (n + 1) → b < m') : Fresh m G v t z cs := by
  rcases h with h | ⟨c, n, h1, h2, h3, h4⟩
  · exact .inl h
  · exact .inr ⟨c, n, h1, h2, hk.own h3 (hm _ _ h2), h4⟩
theorem Sl.nil : Sl m H (.slice none 0 0) t z [] := .inl ⟨rfl, .inl rfl⟩
theorem Sl.ints (h : Sl m H v t 1 (LI l)) : Ints H v l := by
  rcases h with ⟨h1, h2⟩ | ⟨b, n, pre, post, h1, rfl, h3, h4⟩
  · have : l = [] := by simpa using h1
    subst this
    rcases h2 with rfl | ⟨a, rfl⟩
    · exact .inl ⟨rfl, rfl⟩
    · exact .inr ⟨a, 0, rfl, .inl rfl⟩
  · simp at h4
    subst h4
    refine .inr ⟨_, _, rfl, .inr ⟨rfl, fun i x hx => ?_⟩⟩
    have hi : i < l.length := lt_of_get hx
    rw [h3.cell, List.append_assoc, List.getElem?_append_right (Nat.le_add_right _ _), Nat.add_sub_cancel_left, List.getElem?_append_left (by simpa using hi)]
    simp [hx]
theorem Sl.len (h : Sl m H v t z cs) {n : Nat} (hz : 0 < z) (hn : cs.length = n * z) {K : Nat → Prop} (k : K n) : lenK v K := by
  rcases h with ⟨h1, h2⟩ | ⟨b, n', pre, post, h1, rfl, h3, h4⟩
  · subst h1
    have : n = 0 := by
      cases n with
      | zero => rfl
      | succ n => simp [Nat.add_mul] at hn; omega
    subst this
    rcases h2 with rfl | ⟨a, rfl⟩ <;> exact k
  · have : n' = n := Nat.eq_of_mul_eq_mul_right hz (h4.symm.trans hn)
    subst this; exact k
/-- The block that an append may take away. -/
def bk : Value → Option Nat
  | .slice (some a) _ (_ + 1) => some a.block
  | _ => none
theorem Sl.lt (h : Sl m H v t z cs) {b : Nat} (hb : bk v = some b) : m ≤ b ∧ b < H.length := by
  rcases h with ⟨_, rfl | ⟨a, rfl⟩⟩ | ⟨b', n, pre, post, h1, rfl, h3, _⟩
  · cases hb
  · cases hb
  · cases hb; exact ⟨h1, h3.lt⟩
/-- All but a slice's own block lives on. -/
def Oth (v : Value) (H G : AHeap) : Prop := ∀ (b : Nat) (o : AObj), bk v ≠ some b → H[b]? = some (some o) → G[b]? = some (some o)
theorem Fresh.bk_lt (h : Fresh m H v t z cs) {b : Nat} (hb : bk v = some b) : m ≤ b ∧ b < H.length := h.sl.lt hb
/-- A type's elements, as lists take them. -/
def Elem (T : TT) (t : TypeId) (z : Nat) : Prop := ∃ ti, T t = some ti ∧ ti.size = z ∧ ti.bytes ≤ 1024 ∧ ti.fine = true
/-- More at the end of a list of one's own. -/
theorem Sl.app {ys : List Value} {x : Value} {n : Nat} {K : Value → AHeap → Prop} (he : Elem T t z) (hz : 0 < z) (h : Sl m H v t z cs) (hm : m ≤ H.length) (hx : cellsAt H x z n ys) (hs : cs.length + ys.length ≤ 4294967296)
    (k0 : ys = [] → K v H) (k : ∀ v' G, Keep m H G → Oth v H G → (∀ b, bk v' = some b → H.length ≤ b) → Fresh m G v' t z (cs ++ ys) → K v' G) : apK T t H v x K := by
  obtain ⟨ti, e1, rfl, e3, e4⟩ := he
  unfold apK
  rw [e1]
  simp only
  have hyl := hx.1
  by_cases hn : n = 0
  · subst hn
    have : ys = [] := List.length_eq_zero_iff.1 (by omega)
    subst this
    refine ⟨0, [], hx, .inl ⟨rfl, ?_, k0 rfl⟩⟩
    rcases h with ⟨_, rfl | ⟨a, rfl⟩⟩ | ⟨b, n, pre, post, _, rfl, _⟩
    · exact .inr rfl
    · exact .inl ⟨a, 0, 0, rfl⟩
    · exact .inl ⟨_, _, _, rfl⟩
  · refine ⟨n, ys, hx, .inr ⟨by omega, ?_⟩⟩
    have hle : n ≤ n * ti.size := Nat.le_mul_of_pos_right _ hz
    rcases h with ⟨rfl, h1⟩ | ⟨b, n', pre, post, hb, rfl, h3, h4⟩
    · refine ⟨0, [], H, ?_, by simp at hs; omega, e3, e4, hz, k _ _ (Keep.of_le (le_snoc _ _)) (fun b o _ h => (le_snoc _ _).2 b o h) (fun b h => by cases h; exact Nat.le_refl _) ?_⟩
      · rcases h1 with rfl | ⟨a, rfl⟩
        · exact .inl ⟨rfl, rfl, rfl, rfl⟩
        · exact .inr (.inl ⟨a, rfl, rfl, rfl, rfl⟩)
      · rw [Nat.zero_add]; exact (fresh_snoc (by simpa using hyl)).less hm
    · have hml : n' ≤ n' * ti.size := Nat.le_mul_of_pos_right _ hz
      refine ⟨n', cs, H.set b none, .inr (.inr ⟨b, pre.length, n' + 1, _, rfl, h3, by simp; omega, ?_, rfl⟩), by omega, e3, e4, hz, k _ _ ?_ ?_ (fun b h => by cases h; exact Nat.le_refl _) ?_⟩
      · rw [List.append_assoc, List.drop_left, ← h4, List.take_left]
      · refine ⟨by simp, fun d o hd ho => ?_⟩
        have := lt_of_get ho
        rw [List.getElem?_append_left (by simpa using this), List.getElem?_set_ne (by omega)]; exact ho
      · intro d o hd ho
        have := lt_of_get ho
        rw [List.getElem?_append_left (by simpa using this), List.getElem?_set_ne (fun h => hd (by rw [h]; rfl))]; exact ho
      · refine .inr ⟨H.length, n' + n, hm, rfl, ?_, by simp [h4, hyl, Nat.add_mul]⟩
        have : (H.set b none).length = H.length := by simp
        rw [← this]; exact snoc_get _ _
theorem Sl.pushN {ys : List Value} {n : Nat} {K : Value → AHeap → Prop} (he : Elem T t z) (hz : 0 < z) (h : Sl m H v t z cs) (hm : m ≤ H.length) (hy : ys.length = n * z) (h1 : ys.all Value.oneCell' = true) (hs : cs.length + ys.length ≤ 4294967296)
    (k0 : ys ≠ []) (k : ∀ v' G, Keep m H G → Oth v H G → (∀ b, bk v' = some b → H.length ≤ b) → Fresh m G v' t z (cs ++ ys) → K v' G) : newK H ys t (fun b1 H2 => apK T t H2 v (.slice (some ⟨b1, 0, none⟩) n (n + 1)) K) := by
  refine newK_f h1 fun H2 l2 n2 o2 => ?_
  exact Sl.app he hz (h.le l2) (Nat.le_trans hm l2.1) (cellsAt_row o2 hy) hs (fun h => absurd h k0) fun v' G hk ho hn hf => k v' G ((Keep.of_le l2).trans hk) (fun b o hb h => ho b o hb (l2.2 b o h)) (fun b h => Nat.le_trans l2.1 (hn b h)) hf
/-- A list without its first elements. -/
theorem Sl.drop {i : Nat} {n : Nat} {K : Value → Prop} (h : Sl m H v t z cs) (hn : cs.length = n * z) (hz : 0 < z) (h0 : 0 < n) (hi : i ≤ n) (k : ∀ v', Sl m H v' t z (cs.drop (i * z)) → K v') : sliceK H t v (some (.int .i64 (i : Int))) none z K := by
  have hle : i * z ≤ n * z := Nat.mul_le_mul_right z hi
  have hnz : n ≤ n * z := Nat.le_mul_of_pos_right _ hz
  rcases h with ⟨rfl, h1⟩ | ⟨b, n', pre, post, hb, rfl, h3, h4⟩
  · simp at hn; omega
  · have : n' = n := Nat.eq_of_mul_eq_mul_right hz (h4.symm.trans hn)
    subst this
    refine ⟨⟨_, _, h3, by simp; omega⟩, by simp, by simp; omega, by simp, ?_⟩
    refine k _ (.inr ⟨b, n' - i, pre ++ cs.take (i * z), post, hb, ?_, ?_, ?_⟩)
    · simp [Nat.min_eq_left (show i * z ≤ cs.length by omega)]
    · rw [List.append_assoc pre, List.take_append_drop]; exact h3
    · rw [List.length_drop, hn, Nat.sub_mul]
end
end Go.Abs
