/- The heap turned: new rows, stores, appends: the relation stands. -/
import Derived.Test.YtodklioaeooocaaA6
set_option linter.unusedVariables false
set_option linter.unusedSimpArgs false
namespace Go.Abs
open Go.RowKit

def Loc.upd (ρ : Loc) (b : Nat) (r : Blk) : Loc := fun x => if x = b then some r else ρ x
theorem Loc.upd_same (ρ : Loc) (b : Nat) (r : Blk) : ρ.upd b r b = some r := by simp [Loc.upd]
theorem Loc.upd_ne (ρ : Loc) {b x : Nat} (r : Blk) (h : x ≠ b) : ρ.upd b r x = ρ x := by simp [Loc.upd, h]

section
variable {P : Program} {T : TT} {G : Nat} {w0 w : World} {ρ : Loc} {H : AHeap} {env : Env} {a : Act}

theorem lt_of_get {α : Type} {l : List α} {i : Nat} {x : α} (h : l[i]? = some x) : i < l.length := by
  rcases Nat.lt_or_ge i l.length with h' | h'
  · exact h'
  · simp [List.getElem?_eq_none h'] at h
theorem lt_of_getA {α : Type} {l : Array α} {i : Nat} {x : α} (h : l[i]? = some x) : i < l.size := by
  rcases Nat.lt_or_ge i l.size with h' | h'
  · exact h'
  · simp [Array.getElem?_eq_none h'] at h

theorem Rel.le_upd (R : Rel T G w0 ρ H w) (r : Blk) : ρ.le (ρ.upd H.length r) := fun b r' h => by
  have := (R.dom b r' h).1
  rw [Loc.upd_ne _ _ (by omega)]; exact h

/-- A row in new memory. -/
theorem Rel.new (R : Rel T G w0 ρ H w) {cs cs' : List Value} (C : Array Value) (e : TypeId) {ti : TI} (he : T e = some ti) (hvs : VRs ρ cs cs') (hone : ∀ v ∈ cs, v.oneCell' = true)
    (hC : ∀ (i : Nat) v', cs'[i]? = some v' → C[i]? = some v') :
    Rel T G w0 (ρ.upd H.length ⟨w.heap.size, 0, C.size, ti.size⟩) (H ++ [some (.row cs e true)]) { w with heap := w.heap.push (.cells C e) } := by
  have hle := R.le_upd ⟨w.heap.size, 0, C.size, ti.size⟩
  have old : ∀ (k : Nat), k < w.heap.size → ({ w with heap := w.heap.push (.cells C e) } : World).heap[k]? = w.heap[k]? := fun k hk => by
    show (w.heap.push _)[k]? = _
    rw [Array.getElem?_push, if_neg (by omega)]
  refine ⟨?_, ?_, ?_, ?_, ?_, ?_⟩
  · have := R.below.size
    exact R.below.trans ⟨rfl, rfl, rfl, by simp, fun k hk => old k (by omega)⟩
  · intro b r h
    by_cases hb : b = H.length
    · subst hb; rw [Loc.upd_same] at h; obtain rfl := Option.some.inj h; simp
    · rw [Loc.upd_ne _ _ hb] at h
      have := R.dom b r h
      simp; omega
  · intro g hg
    obtain ⟨N, s, h⟩ := R.glob g hg
    exact ⟨N, s, hle _ _ h⟩
  · intro b cs2 e2 own hb
    by_cases hbl : b = H.length
    · subst hbl
      simp at hb
      obtain ⟨rfl, rfl, rfl⟩ := hb
      refine ⟨_, C, e, (0, 0), Loc.upd_same _ _ _, ?_, rfl, ?_, fun _ => ⟨rfl, rfl, R.below.size⟩, ti, he, rfl⟩
      · show (w.heap.push _)[w.heap.size]? = _
        simp
      · intro i v hv
        obtain ⟨v', h1, h2⟩ := hvs.get i v hv
        exact ⟨hone v (List.mem_of_getElem? hv), v', by simpa using hC i v' h1, h2.mono hle⟩
    · have hb' : H[b]? = some (some (.row cs2 e2 own)) := by
        have := lt_of_get hb
        simp at this
        rwa [List.getElem?_append_left (by omega)] at hb
      obtain ⟨r, C2, e3, fr, h1, h2, h3, h4, h5, h6⟩ := R.row b cs2 e2 own hb'
      refine ⟨r, C2, e3, fr, hle _ _ h1, ?_, h3, ?_, h5, h6⟩
      · rw [old _ (R.dom _ _ h1).2]; exact h2
      · intro i v hv
        obtain ⟨g1, v', g2, g3⟩ := h4 i v hv
        exact ⟨g1, v', g2, g3.mono hle⟩
  · intro b b' o o' r r' hb hb' ho h1 h2 heq
    have hlen := lt_of_get hb
    have hlen' := lt_of_get hb'
    simp at hlen hlen'
    by_cases h3 : b = H.length <;> by_cases h4 : b' = H.length
    · omega
    · rw [h3, Loc.upd_same] at h1
      rw [Loc.upd_ne _ _ h4] at h2
      have := (R.dom _ _ h2).2
      obtain rfl := Option.some.inj h1
      simp at heq; omega
    · rw [h4, Loc.upd_same] at h2
      rw [Loc.upd_ne _ _ h3] at h1
      have := (R.dom _ _ h1).2
      obtain rfl := Option.some.inj h2
      simp at heq; omega
    · rw [Loc.upd_ne _ _ h3] at h1
      rw [Loc.upd_ne _ _ h4] at h2
      rw [List.getElem?_append_left (by omega)] at hb hb'
      exact R.inj b b' o o' r r' hb hb' ho h1 h2 heq
  · intro b es cl hb
    have hlen := lt_of_get hb
    simp at hlen
    have hb' : H[b]? = some (some (.map es cl)) := by
      by_cases h3 : b = H.length
      · subst h3; simp at hb
      · rwa [List.getElem?_append_left (by omega)] at hb
    obtain ⟨r, h1, h2, h3⟩ := R.map b es cl hb'
    exact ⟨r, hle _ _ h1, by rw [old _ (R.dom _ _ h1).2]; exact h2, h3⟩

/-- A row no more told of. -/
theorem Rel.kill (R : Rel T G w0 ρ H w) (b : Nat) : Rel T G w0 ρ (H.set b none) w := by
  have back : ∀ {x : Nat} {o : AObj}, (H.set b none)[x]? = some (some o) → H[x]? = some (some o) := by
    intro x o h
    by_cases hx : x = b
    · subst hx
      by_cases hl : x < H.length
      · simp [List.getElem?_set_self hl] at h
      · simp [List.getElem?_eq_none (show (H.set x none).length ≤ x by simp; omega)] at h
    · rwa [List.getElem?_set_ne (by omega)] at h
  exact ⟨R.below, fun x r h => by simpa using R.dom x r h, R.glob, fun x cs e own h => R.row x cs e own (back h),
    fun x y o o' r r' h1 h2 => R.inj x y o o' r r' (back h1) (back h2), fun x es cl h => R.map x es cl (back h)⟩

theorem Rel.drew (R : Rel T G w0 ρ H w) (n : Nat) : Rel T G w0 ρ H { w with drawn := n } :=
  ⟨⟨R.below.os, R.below.tape, R.below.output, R.below.size, R.below.block⟩, R.dom, R.glob, R.row, R.inj, R.map⟩

/-- The cells of a row of one's own, turned in memory: whatever abstract block stands for it then. -/
theorem Rel.turn (R : Rel T G w0 ρ H w) {b : Nat} {cs : List Value} {e : TypeId} {r : Blk} {C : Array Value} (hb : H[b]? = some (some (.row cs e true))) (hr : ρ b = some r)
    (C' : Array Value) (hsz : C'.size = C.size) (hw : w.heap[r.blk]? = some (.cells C e (0, 0))) {w' : World} (hw' : w' = { w with heap := w.heap.setIfInBounds r.blk (.cells C' e (0, 0)) })
    {b' : Nat} {sh' : Nat} {H' : AHeap} (ρ' : Loc) (hρ' : ρ.le ρ') {cs' : List Value}
    (hH : ∀ (x : Nat) (o : AObj), H'[x]? = some (some o) → (x = b' ∧ o = .row cs' e true) ∨ (x ≠ b' ∧ x ≠ b ∧ H[x]? = some (some o) ∧ ρ' x = ρ x))
    (hlen : H.length ≤ H'.length) (hdom : ∀ x s, ρ' x = some s → x < H'.length ∧ s.blk < w.heap.size) (hb' : ρ' b' = some { r with sh := sh' })
    (hcells : ∀ (i : Nat) v, cs'[i]? = some v → v.oneCell' = true ∧ ∃ v', C'[sh' + i]? = some v' ∧ VR ρ' v v') : Rel T G w0 ρ' H' w' := by
  subst hw'
  obtain ⟨r1, C1, e1, fr1, g1, g2, g3, g4, g5, ti, g6, g7⟩ := R.row b cs e true hb
  rw [hr] at g1
  obtain rfl := Option.some.inj g1
  rw [hw] at g2
  simp only [Option.some.injEq, Obj.cells.injEq] at g2
  obtain ⟨rfl, rfl, rfl⟩ := g2
  obtain ⟨_, _, g8⟩ := g5 rfl
  have hlt := (R.dom _ _ hr).2
  have other : ∀ (k : Nat), k ≠ r.blk → ({ w with heap := w.heap.setIfInBounds r.blk (.cells C' e (0, 0)) } : World).heap[k]? = w.heap[k]? := fun k hk => by
    show (w.heap.setIfInBounds _ _)[k]? = _
    rw [Array.getElem?_setIfInBounds_ne (by omega)]
  have apart : ∀ {x : Nat} {o : AObj} {s : Blk}, x ≠ b → H[x]? = some (some o) → ρ x = some s → s.blk ≠ r.blk := fun hx ho hs he =>
    hx (R.inj b _ (.row cs e true) _ r _ hb ho (by simp) hr hs he.symm).symm
  refine ⟨R.below.trans ⟨rfl, rfl, rfl, by simp, fun k hk => other k (by omega)⟩, ?_, ?_, ?_, ?_, ?_⟩
  · intro x s h
    have := hdom x s h
    simpa using this
  · intro g hg
    obtain ⟨N, s, h⟩ := R.glob g hg
    exact ⟨N, s, hρ' _ _ h⟩
  · intro x cs2 e2 own hx
    rcases hH x _ hx with ⟨rfl, ho⟩ | ⟨h1, h2, h3, h4⟩
    · simp only [AObj.row.injEq] at ho
      obtain ⟨rfl, rfl, rfl⟩ := ho
      refine ⟨_, C', e2, (0, 0), hb', ?_, ?_, hcells, fun _ => ⟨rfl, rfl, g8⟩, ti, g6, g7⟩
      · show (w.heap.setIfInBounds _ _)[r.blk]? = _
        simp [hlt]
      · show C'.size = r.N
        rw [hsz]; exact g3
    · obtain ⟨s, C2, e3, fr, k1, k2, k3, k4, k5, k6⟩ := R.row x cs2 e2 own h3
      refine ⟨s, C2, e3, fr, hρ' _ _ k1, by rw [other _ (apart h2 h3 k1)]; exact k2, k3, ?_, k5, k6⟩
      intro i v hv
      obtain ⟨q1, v', q2, q3⟩ := k4 i v hv
      exact ⟨q1, v', q2, q3.mono hρ'⟩
  · intro x y o o' s s' hx hy ho hs hs' heq
    rcases hH x _ hx with ⟨rfl, ho1⟩ | ⟨h1, h2, h3, h4⟩ <;> rcases hH y _ hy with ⟨rfl, ho2⟩ | ⟨k1, k2, k3, k4⟩
    · rfl
    · rw [hb'] at hs
      obtain rfl := Option.some.inj hs
      rw [k4] at hs'
      exact absurd heq.symm (apart k2 k3 hs')
    · rw [hb'] at hs'
      obtain rfl := Option.some.inj hs'
      rw [h4] at hs
      exact absurd heq (apart h2 h3 hs)
    · rw [h4] at hs
      rw [k4] at hs'
      exact R.inj x y o o' s s' h3 k3 ho hs hs' heq
  · intro x es cl hx
    rcases hH x _ hx with ⟨rfl, ho⟩ | ⟨h1, h2, h3, h4⟩
    · simp at ho
    · obtain ⟨s, k1, k2, k3⟩ := R.map x es cl h3
      exact ⟨s, hρ' _ _ k1, by rw [other _ (apart h2 h3 k1)]; exact k2, k3⟩
end
end Go.Abs
