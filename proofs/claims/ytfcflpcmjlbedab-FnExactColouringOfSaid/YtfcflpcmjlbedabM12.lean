/- Plain mathematics: going round a cycle that a matching leaves. -/
import Derived.Test.YtfcflpcmjlbedabM10
set_option linter.unusedVariables false
set_option linter.unusedSimpArgs false
namespace Go.Proofs
open Go.Abs

section
variable {es : List (Int × Int)} {p : Nat → Bool} {l C : List Int} {n : Int}

theorem nodup_sup {l m : List Int} (hl : l.Nodup) (hs : ∀ x ∈ l, x ∈ m) (hm : m.length ≤ l.length) : ∀ x ∈ m, x ∈ l := by
  intro x hx
  apply Classical.byContradiction
  intro hn
  have := nodup_sub (m := m.erase x) hl fun y hy => by
    rw [List.mem_erase_of_ne (by rintro rfl; exact hn hy)]; exact hs y hy
  rw [List.length_erase_of_mem hx] at this
  have := List.length_pos_of_mem hx
  omega
theorem asc_nodup {l : List Int} (h : Asc l) : l.Nodup := by
  unfold Asc at h
  exact h.imp fun h => by intro e; omega
theorem filtB_nodup (S : Nat → Bool) (k : Nat) : (filtB S k).Nodup := asc_nodup (filtB_asc S k)
/-- How many edges of a list are on a vertex. -/
def degC (es : List (Int × Int)) (C : List Int) (x : Nat) : Nat := (C.filter fun i => on (es.getD i.toNat (0, 0)) x).length
theorem degC_snoc (C : List Int) (i : Nat) (x : Nat) : degC es (C ++ [(i : Int)]) x = degC es C x + if on (es.getD i (0, 0)) x then 1 else 0 := by
  unfold degC
  rw [List.filter_append, List.length_append]
  rw [List.filter_cons, Int.toNat_natCast, List.filter_nil]
  cases h : on (es.getD i (0, 0)) x <;> rfl
theorem degC_cons (C : List Int) (i : Nat) (x : Nat) : degC es ((i : Int) :: C) x = degC es C x + if on (es.getD i (0, 0)) x then 1 else 0 := by
  unfold degC
  rw [List.filter_cons, Int.toNat_natCast]
  cases h : on (es.getD i (0, 0)) x <;> simp
/-- Each vertex is on just one edge of a list. -/
def OneAt (n : Int) (es : List (Int × Int)) (l : List Int) : Prop := ∀ x : Nat, (x : Int) < n → degC es l x = 1
/-- The edges left. -/
def leftP (l : List Int) (j : Nat) : Bool := !bitB l j
theorem left_deg (hg : IsG n es) (hs : IsS l es.length) (ho : OneAt n es l) {x : Nat} (hx : (x : Int) < n) : degB es (leftP l) x = 2 := by
  have h3 := hg.three (v := (x : Int)) (by omega) hx
  have h1 := ho x hx
  unfold degC at h1
  rw [hs.filt] at h1
  have e1 : ((filtB (bitB l) es.length).filter fun i => on (es.getD i.toNat (0, 0)) x).length = ((List.range es.length).filter fun j => on (es.getD j (0, 0)) x && bitB l j).length := by
    unfold filtB
    rw [List.filter_map, List.length_map, List.filter_filter]
    congr 1
  have h1' : ((List.range es.length).filter fun j => on (es.getD j (0, 0)) x && bitB l j).length = 1 := by
    rw [← e1]
    have : filtB (bitB (filtB (bitB l) es.length)) es.length = filtB (bitB l) es.length := by rw [← hs.filt]; exact hs.filt.symm
    rw [← hs.filt] at h1 ⊢
    exact h1
  unfold atL atTo at h3
  rw [List.length_map] at h3
  unfold degB filtB
  rw [List.length_map]
  have key : ∀ L : List Nat, (L.filter fun j => on (es.getD j (0, 0)) x).length = (L.filter fun j => on (es.getD j (0, 0)) x && leftP l j).length + (L.filter fun j => on (es.getD j (0, 0)) x && bitB l j).length := by
    intro L
    induction L with
    | nil => rfl
    | cons a L ih =>
      rw [List.filter_cons, List.filter_cons, List.filter_cons]
      have hlp : leftP l a = !bitB l a := rfl
      rw [hlp]
      cases h1 : on (es.getD a (0, 0)) x <;> cases h2 : bitB l a <;> simp only [Bool.and_true, Bool.and_false, Bool.not_true, Bool.not_false, if_true, if_false, Bool.false_eq_true, List.length_cons] <;> omega
  have := key (List.range es.length)
  omega
/-- A walk round a cycle: at an edge 'now' that comes from a vertex w and goes to a vertex v. -/
structure Walk (n : Int) (es : List (Int × Int)) (p : Nat → Bool) (e u0 : Nat) (E : Nat → Prop) (C : List Int) (now w v : Nat) : Prop where
  mem : ∀ i ∈ C, ∃ j : Nat, i = j ∧ j < es.length ∧ p j = true ∧ Rch (eAdj es p) e j ∧ ¬ E j
  nd : C.Nodup
  par : ∀ x : Nat, degC es C x % 2 = 1 ↔ ¬ (x = u0 ↔ x = w)
  lt : now < es.length
  pn : p now = true
  rch : Rch (eAdj es p) e now
  onw : on (es.getD now (0, 0)) w = true
  onv : on (es.getD now (0, 0)) v = true
  ne : w ≠ v
  wn : (w : Int) < n
  vn : (v : Int) < n
  last : (C = [] ∧ now = e ∧ w = u0) ∨ ((e : Int) ∈ C ∧ ∃ c : Nat, (c : Int) ∈ C ∧ c ≠ now ∧ on (es.getD c (0, 0)) w = true)
theorem on_iff2 {i w v x : Nat} (h1 : on (es.getD i (0, 0)) w = true) (h2 : on (es.getD i (0, 0)) v = true) (hne : w ≠ v) : on (es.getD i (0, 0)) x = true ↔ x = w ∨ x = v := by
  unfold on at h1 h2 ⊢
  simp only [Bool.or_eq_true, beq_iff_eq] at h1 h2 ⊢
  omega
variable {e u0 now w v : Nat} {E : Nat → Prop}
theorem Walk.step (h : Walk n es p e u0 E C now w v) (hC : (now : Int) ∉ C) (hE : ¬ E now) {q v' : Nat} (hq : q < es.length) (hp : p q = true) (hqn : q ≠ now) (hov : on (es.getD q (0, 0)) v = true) (hov' : on (es.getD q (0, 0)) v' = true) (hvv : v ≠ v') (hvn : (v' : Int) < n) :
    Walk n es p e u0 E (C ++ [(now : Int)]) q v v' := by
  refine ⟨fun i hi => ?_, ?_, fun x => ?_, hq, hp, .step h.rch ⟨hq, hp, _, h.onv, hov⟩, hov, hov', hvv, h.vn, hvn, .inr ⟨?_, now, by simp, fun e => hqn e.symm, h.onv⟩⟩
  · rcases List.mem_append.1 hi with hi | hi
    · exact h.mem i hi
    · rw [List.mem_singleton] at hi
      exact ⟨now, hi, h.lt, h.pn, h.rch, hE⟩
  · rw [List.nodup_append]
    refine ⟨h.nd, by simp, fun a ha b hb => ?_⟩
    rw [List.mem_singleton] at hb
    rintro rfl
    rw [hb] at ha
    exact hC ha
  · rw [degC_snoc]
    have hp := h.par x
    have ho := on_iff2 (x := x) h.onw h.onv h.ne
    have hne := h.ne
    by_cases h1 : on (es.getD now (0, 0)) x = true
    · rw [if_pos h1]
      have h2 := ho.1 h1
      by_cases hx : x = u0 <;> by_cases hw : x = w <;> by_cases hv : x = v <;> simp [hx, hw, hv] at hp h2 ⊢ <;> omega
    · rw [if_neg h1, Nat.add_zero]
      have h2 : x ≠ w ∧ x ≠ v := ⟨fun e => h1 (ho.2 (.inl e)), fun e => h1 (ho.2 (.inr e))⟩
      rw [hp]
      constructor
      · intro h3 h4; exact h3 ⟨fun e => absurd (h4.1 e) h2.2, fun e => absurd e h2.1⟩
      · intro h3 h4; exact h3 ⟨fun e => absurd (h4.1 e) h2.1, fun e => absurd e h2.2⟩
  · rcases h.last with ⟨_, h2, _⟩ | ⟨h1, _⟩
    · rw [h2]; simp
    · exact List.mem_append_left _ h1
theorem degC_le (h : ∀ i ∈ C, ∃ j : Nat, i = j ∧ j < es.length ∧ p j = true) (hn : C.Nodup) (x : Nat) : degC es C x ≤ degB es p x := by
  unfold degC degB
  refine nodup_sub (hn.filter _) fun i hi => ?_
  rw [List.mem_filter] at hi
  obtain ⟨j, rfl, h1, h2⟩ := h i hi.1
  rw [mem_filtB]
  refine ⟨j, rfl, h1, ?_⟩
  have := hi.2
  rw [Int.toNat_natCast] at this
  rw [this, h2]; rfl
theorem Walk.stop (h : Walk n es p e u0 E C now w v) (h2 : ∀ x : Nat, (x : Int) < n → degB es p x = 2) (hend : ∀ i, i < es.length → ∀ x : Int, on (es.getD i (0, 0)) x = true → 0 ≤ x ∧ x < n) (hEe : ¬ E e) (hEc : ∀ a b, a < es.length → E a → eAdj es p a b → E b) (hs : (now : Int) ∈ C ∨ E now) :
    ∀ j, Rch (eAdj es p) e j → (j : Int) ∈ C := by
  have hm : ∀ i ∈ C, ∃ j : Nat, i = j ∧ j < es.length ∧ p j = true := fun i hi => by obtain ⟨j, h1, h2, h3, _⟩ := h.mem i hi; exact ⟨j, h1, h2, h3⟩
  have hE : ¬ E now := by
    intro hn
    rcases h.last with ⟨_, h1, _⟩ | ⟨_, c, h1, h3, h4⟩
    · rw [h1] at hn; exact hEe hn
    · obtain ⟨c', e1, e2, e3, _, e5⟩ := h.mem c h1
      obtain rfl : c = c' := by omega
      exact e5 (hEc now c h.lt hn ⟨e2, e3, _, h.onw, h4⟩)
  have hC : (now : Int) ∈ C := hs.elim id fun h => absurd h hE
  obtain ⟨he, c, hc1, hc2, hc3⟩ : (e : Int) ∈ C ∧ ∃ c : Nat, (c : Int) ∈ C ∧ c ≠ now ∧ on (es.getD c (0, 0)) w = true := by
    rcases h.last with ⟨h1, _⟩ | h1
    · rw [h1] at hC; cases hC
    · exact h1
  have hd : degC es C w = 2 := by
    have hle := degC_le hm h.nd w
    rw [h2 w h.wn] at hle
    have : 2 ≤ degC es C w := by
      have := nodup_sub (l := [(now : Int), (c : Int)]) (m := C.filter fun i => on (es.getD i.toNat (0, 0)) w) (by simp; omega) fun x hx => by
        rw [List.mem_filter]
        simp only [List.mem_cons, List.not_mem_nil, or_false] at hx
        rcases hx with rfl | rfl
        · exact ⟨hC, by rw [Int.toNat_natCast]; exact h.onw⟩
        · exact ⟨hc1, by rw [Int.toNat_natCast]; exact hc3⟩
      unfold degC; simpa using this
    omega
  have hw : w = u0 := by
    have := h.par w
    rw [hd] at this
    apply Classical.byContradiction
    intro hn
    have := this.2 fun h => hn (h.2 rfl)
    omega
  have hev : ∀ x, degC es C x % 2 = 0 := by
    intro x
    have := h.par x
    rw [hw] at this
    have h' : ¬ degC es C x % 2 = 1 := fun hh => this.1 hh Iff.rfl
    omega
  intro j hj
  refine hj.keep (P := fun j => (j : Int) ∈ C) (fun a b hab ha => ?_) he
  obtain ⟨hb1, hb2, x, hx1, hx2⟩ := hab
  obtain ⟨a', e1, ha1, _⟩ := hm _ ha
  obtain rfl : a = a' := by omega
  obtain ⟨x0, x1⟩ := hend a ha1 x hx1
  obtain ⟨y, rfl⟩ : ∃ y : Nat, x = y := ⟨x.toNat, by omega⟩
  have hle := degC_le hm h.nd y
  rw [h2 y x1] at hle
  have hpos : 0 < degC es C y := List.length_pos_of_mem (List.mem_filter.2 ⟨ha, by rw [Int.toNat_natCast]; exact hx1⟩)
  have hey := hev y
  have hall := nodup_sup (l := C.filter fun i => on (es.getD i.toNat (0, 0)) y) (m := filtB (fun j => on (es.getD j (0, 0)) y && p j) es.length) (h.nd.filter _) (fun i hi => by
    rw [List.mem_filter] at hi
    obtain ⟨j, rfl, h1, h2⟩ := hm i hi.1
    rw [mem_filtB]
    refine ⟨j, rfl, h1, ?_⟩
    have := hi.2
    rw [Int.toNat_natCast] at this
    rw [this, h2]; rfl) (by
      have := h2 y x1
      unfold degB at this
      unfold degC at hpos hey hle
      omega)
  have := hall b (mem_filtB.2 ⟨b, rfl, hb1, by rw [hx2, hb2]; rfl⟩)
  exact (List.mem_filter.1 this).1
theorem Walk.comp (h : Walk n es p e u0 E C now w v) (hall : ∀ j, Rch (eAdj es p) e j → (j : Int) ∈ C) : C.length = (compL es p e).length ∧ ∀ j : Nat, (j : Int) ∈ C ↔ Rch (eAdj es p) e j := by
  have hiff : ∀ j : Nat, (j : Int) ∈ C ↔ Rch (eAdj es p) e j := fun j => ⟨fun hj => by
    obtain ⟨j', e1, _, _, h4, _⟩ := h.mem _ hj
    obtain rfl : j = j' := by omega
    exact h4, hall j⟩
  refine ⟨Nat.le_antisymm ?_ ?_, hiff⟩
  · refine nodup_sub h.nd fun x hx => ?_
    obtain ⟨j, rfl, h1, _, h3, _⟩ := h.mem x hx
    exact mem_compL.2 ⟨j, rfl, h1, h3⟩
  · refine nodup_sub (asc_nodup (compL_asc e)) fun x hx => ?_
    obtain ⟨j, rfl, _, h3⟩ := mem_compL.1 hx
    exact hall j h3
/-- There is another edge left at a vertex. -/
theorem other_left (h2 : degB es p v = 2) (hnow : now < es.length) : ∃ q, q < es.length ∧ p q = true ∧ q ≠ now ∧ on (es.getD q (0, 0)) v = true := by
  apply Classical.byContradiction
  intro hn
  unfold degB at h2
  have := nodup_sub (m := [(now : Int)]) (filtB_nodup (fun j => on (es.getD j (0, 0)) v && p j) es.length) fun x hx => by
    obtain ⟨j, rfl, h1, h3⟩ := mem_filtB.1 hx
    rw [Bool.and_eq_true] at h3
    rw [List.mem_singleton]
    apply Classical.byContradiction
    intro hne
    exact hn ⟨j, h1, h3.2, fun e => hne (by rw [e]), h3.1⟩
  rw [h2] at this
  simp at this
end
end Go.Proofs
