/- What comes in: from the model's readings to an abstract heap. -/
import Derived.Test.YtodklioaeooocaaA19
import Derived.ProofKit
set_option linter.unusedVariables false
set_option linter.unusedSimpArgs false
namespace Go.Abs
open Go.RowKit

def sz (T : TT) (t : TypeId) : Nat := match T t with | some ti => ti.size | none => 0
def Chunked (T : TT) (Q : TypeId → List Value → Prop) : List TypeId → List Value → Prop
  | [], cs => cs = []
  | t :: ts, cs => sz T t ≤ cs.length ∧ Q t (cs.take (sz T t)) ∧ Chunked T Q ts (cs.drop (sz T t))
def laid (T : TT) : Nat → List Field → Bool
  | _, [] => true
  | off, f :: fs => f.offset == off && laid T (off + sz T f.type) fs
def total (T : TT) (ts : List TypeId) : Nat := (ts.map (sz T)).sum
def supp (T : TT) : Nat → TypeId → Bool
  | 0, _ => false
  | n + 1, t => match T t with
    | some ti => match ti.desc with
      | .bool | .int _ | .string => ti.size == 1
      | .slice e => supp T n e && sz T e != 0 && ti.size == 1
      | .struct fs => (fs.toList.all fun f => supp T n f.type) && laid T 0 fs.toList && total T (fs.toList.map (·.type)) == ti.size
      | .array m e => supp T n e && m * sz T e == ti.size
      | _ => false
    | none => false

/-- A value's cells, as the abstract heap has them. -/
def AT (T : TT) (H : AHeap) : Nat → TypeId → List Value → Prop
  | 0, _, _ => False
  | n + 1, t, cs => match T t with
    | some ti => match ti.desc with
      | .bool => ∃ b, cs = [.bool b]
      | .int k => ∃ x, cs = [.int k x] ∧ (Lit.int k x).wf = true
      | .string => ∃ s, cs = [.string s] ∧ s.size ≤ maxLen
      | .slice e => cs = [.slice none 0 0] ∨ cs = [.slice (some ⟨0, 0, none⟩) 0 1] ∨
          ∃ b len xs, cs = [.slice (some ⟨b, 0, none⟩) len (len + 1)] ∧ len ≤ maxLen ∧ H[b]? = some (some (.row xs e false)) ∧ Chunked T (AT T H n) (List.replicate len e) xs
      | .struct fs => Chunked T (AT T H n) (fs.toList.map (·.type)) cs
      | .array m e => Chunked T (AT T H n) (List.replicate m e) cs
      | _ => False
    | none => False

section
variable {P : Program} {T : TT} {G : Nat} {w : World} {ρ : Loc} {H : AHeap}

theorem Chunked.mono {Q Q' : TypeId → List Value → Prop} (hq : ∀ t cs, Q t cs → Q' t cs) : ∀ {ts : List TypeId} {cs : List Value}, Chunked T Q ts cs → Chunked T Q' ts cs
  | [], _, h => h
  | _ :: _, _, ⟨h1, h2, h3⟩ => ⟨h1, hq _ _ h2, Chunked.mono hq h3⟩
theorem AT.mono {H' : AHeap} (hl : H.le H') : ∀ {n : Nat} {t : TypeId} {cs : List Value}, AT T H n t cs → AT T H' n t cs
  | 0, _, _, h => h
  | n + 1, t, cs, h => by
    unfold AT at h ⊢
    split at h
    · split at h
      · exact h
      · exact h
      · exact h
      · rcases h with h | h | ⟨b, len, xs, h1, h2, h3, h4⟩
        · exact .inl h
        · exact .inr (.inl h)
        · exact .inr (.inr ⟨b, len, xs, h1, h2, hl.2 _ _ h3, h4.mono fun _ _ => AT.mono hl⟩)
      · exact h.mono fun _ _ => AT.mono hl
      · exact h.mono fun _ _ => AT.mono hl
      · exact h
    · exact h
theorem Chunked.length {Q : TypeId → List Value → Prop} : ∀ {ts : List TypeId} {cs : List Value}, Chunked T Q ts cs → cs.length = total T ts
  | [], cs, h => by simp only [Chunked] at h; subst h; rfl
  | t :: ts, cs, ⟨h1, h2, h3⟩ => by
    have := Chunked.length h3
    simp only [total, List.map_cons, List.sum_cons, List.length_drop] at this ⊢
    omega

theorem mapM_ok {α β : Type} {f : α → Option β} : ∀ {l : List α} {r : List β}, l.mapM f = some r → ∀ x ∈ l, ∃ y, f x = some y
  | [], _, _, x, hx => by cases hx
  | a :: l, r, h, x, hx => by
    simp only [List.mapM_cons, Option.bind_eq_bind, Option.bind_eq_some_iff] at h
    obtain ⟨y, hy, ys, hys, _⟩ := h
    rcases List.mem_cons.1 hx with rfl | hx
    · exact ⟨y, hy⟩
    · exact mapM_ok hys x hx

theorem cellsOf_eq (hT : TT.ok P T) {t : TypeId} {ti : TI} (h : T t = some ti) : P.cellsOf t = ti.size := by
  obtain ⟨_, j, hj, hs, _⟩ := hT t ti h
  simp [Program.cellsOf, hj, hs]
theorem sz_eq {t : TypeId} {ti : TI} (h : T t = some ti) : sz T t = ti.size := by simp [sz, h]

/-- A row that is read only. -/
theorem Rel.old (R : Rel T G w ρ H w) {cs : List Value} {C : Array Value} {e e' : TypeId} {fr : Nat × Nat} {ti : TI} {b sh : Nat} (he : T e = some ti) (hb : w.heap[b]? = some (.cells C e' fr))
    (hc : ∀ (i : Nat) v, cs[i]? = some v → v.oneCell' = true ∧ ∃ v', C[sh + i]? = some v' ∧ VR ρ v v') :
    Rel T G w (ρ.upd H.length ⟨b, sh, C.size, ti.size⟩) (H ++ [some (.row cs e false)]) w := by
  have hle := R.le_upd ⟨b, sh, C.size, ti.size⟩
  have hbs := lt_of_getA hb
  refine ⟨R.below, ?_, ?_, ?_, ?_, ?_⟩
  · intro x r h
    by_cases hx : x = H.length
    · subst hx; rw [Loc.upd_same] at h; obtain rfl := Option.some.inj h; simp; exact hbs
    · rw [Loc.upd_ne _ _ hx] at h
      have := R.dom x r h
      simp; omega
  · intro g hg
    obtain ⟨N, s, h⟩ := R.glob g hg
    exact ⟨N, s, hle _ _ h⟩
  · intro x cs2 e2 own hx
    by_cases hxl : x = H.length
    · subst hxl
      simp at hx
      obtain ⟨rfl, rfl, rfl⟩ := hx
      refine ⟨_, C, e', fr, Loc.upd_same _ _ _, hb, rfl, ?_, fun h => by simp at h, ti, he, rfl⟩
      intro i v hv
      obtain ⟨h1, v', h2, h3⟩ := hc i v hv
      exact ⟨h1, v', h2, h3.mono hle⟩
    · have hx' : H[x]? = some (some (.row cs2 e2 own)) := by
        have := lt_of_get hx
        simp at this
        rwa [List.getElem?_append_left (by omega)] at hx
      obtain ⟨r, C2, e3, fr, h1, h2, h3, h4, h5, h6⟩ := R.row x cs2 e2 own hx'
      refine ⟨r, C2, e3, fr, hle _ _ h1, h2, h3, ?_, h5, h6⟩
      intro i v hv
      obtain ⟨g1, v', g2, g3⟩ := h4 i v hv
      exact ⟨g1, v', g2, g3.mono hle⟩
  · intro x x' o o' r r' hx hx' ho h1 h2 heq
    have hlen := lt_of_get hx
    have hlen' := lt_of_get hx'
    simp at hlen hlen'
    by_cases h3 : x = H.length
    · subst h3
      simp at hx
      exact absurd hx.symm (ho _ _)
    · rw [List.getElem?_append_left (by omega)] at hx
      rw [Loc.upd_ne _ _ h3] at h1
      have big : w.heap.size ≤ r.blk := by
        cases o with
        | row cs1 e1 own =>
          cases own with
          | false => exact absurd rfl (ho _ _)
          | true =>
            obtain ⟨r1, _, _, _, k1, _, _, _, k5, _⟩ := R.row x _ _ _ hx
            rw [h1] at k1; obtain rfl := Option.some.inj k1
            exact (k5 rfl).2.2
        | map es cl =>
          obtain ⟨r1, k1, _, k2⟩ := R.map x _ _ hx
          rw [h1] at k1; obtain rfl := Option.some.inj k1
          exact k2
      have := (R.dom x r h1).2
      omega
  · intro x es cl hx
    by_cases hxl : x = H.length
    · subst hxl; simp at hx
    · have hx' : H[x]? = some (some (.map es cl)) := by
        have := lt_of_get hx
        simp at this
        rwa [List.getElem?_append_left (by omega)] at hx
      obtain ⟨r, h1, h2, h3⟩ := R.map x es cl hx'
      exact ⟨r, hle _ _ h1, h2, h3⟩

/-- What is laid for some cells. -/
def Laid (T : TT) (G : Nat) (w : World) (ρ : Loc) (H : AHeap) (cs : List Value) (Q : AHeap → List Value → Prop) : Prop :=
  ∃ ρ' H' cs', H.le H' ∧ ρ.le ρ' ∧ Rel T G w ρ' H' w ∧ VRs ρ' cs' cs ∧ (∀ v ∈ cs', v.oneCell' = true) ∧ Q H' cs'

theorem lay_list {Q : AHeap → TypeId → List Value → Prop} (hm : ∀ H H' t cs, H.le H' → Q H t cs → Q H' t cs) {C : TypeId → List Value → Prop}
    (one : ∀ t cs, C t cs → ∀ ρ H, Rel T G w ρ H w → Laid T G w ρ H cs (fun H' => Q H' t)) : ∀ (ts : List TypeId) (cs : List Value), Chunked T C ts cs → ∀ ρ H, Rel T G w ρ H w →
      Laid T G w ρ H cs (fun H' => Chunked T (Q H') ts)
  | [], cs, h, ρ, H, R => by
    simp only [Chunked] at h; subst h
    exact ⟨ρ, H, [], AHeap.le_refl _, Loc.le_refl _, R, .nil, by simp, rfl⟩
  | t :: ts, cs, ⟨h1, h2, h3⟩, ρ, H, R => by
    obtain ⟨ρ1, H1, c1, a1, a2, a3, a4, a5, a6⟩ := one _ _ h2 ρ H R
    obtain ⟨ρ2, H2, c2, b1, b2, b3, b4, b5, b6⟩ := lay_list hm one ts _ h3 ρ1 H1 a3
    have hl : c1.length = sz T t := by have := a4.length; simp at this; omega
    refine ⟨ρ2, H2, c1 ++ c2, AHeap.le_trans a1 b1, Loc.le_trans a2 b2, b3, ?_, ?_, ?_⟩
    · have := VRs.append (a4.mono b2) b4
      rwa [List.take_append_drop] at this
    · intro v hv
      rcases List.mem_append.1 hv with hv | hv
      · exact a5 v hv
      · exact b5 v hv
    · refine ⟨by simp [hl], ?_, ?_⟩
      · rw [← hl, List.take_left]; exact hm _ _ _ _ b1 a6
      · rw [← hl, List.drop_left]; exact b6

theorem chunks_of_fields {C : TypeId → List Value → Prop} (cs : List Value) : ∀ (fs : List Field) (off : Nat), laid T off fs = true → (∀ f ∈ fs, C f.type ((cs.drop f.offset).take (sz T f.type))) →
    cs.length = off + total T (fs.map (·.type)) → Chunked T C (fs.map (·.type)) (cs.drop off)
  | [], off, _, _, h => by simp [Chunked, total] at h ⊢; omega
  | f :: fs, off, hl, hc, h => by
    simp only [laid, Bool.and_eq_true, beq_iff_eq] at hl
    simp only [List.map_cons, total, List.sum_cons] at h
    refine ⟨by simp; omega, ?_, ?_⟩
    · have := hc f (by simp); rw [hl.1] at this; exact this
    · have := chunks_of_fields cs fs (off + sz T f.type) hl.2 (fun g hg => hc g (by simp [hg])) (by simp only [total]; omega)
      rwa [List.drop_drop]
theorem chunks_of_rep {C : TypeId → List Value → Prop} {e : TypeId} : ∀ (m : Nat) (cs : List Value), cs.length = m * sz T e → (∀ i, i < m → C e ((cs.drop (i * sz T e)).take (sz T e))) → Chunked T C (List.replicate m e) cs
  | 0, cs, h, _ => by simp at h; subst h; exact rfl
  | m + 1, cs, h, hc => by
    rw [Nat.succ_mul] at h
    refine ⟨by omega, by simpa using hc 0 (by omega), chunks_of_rep m _ (by simp; omega) fun i hi => ?_⟩
    have := hc (i + 1) (by omega)
    rw [List.drop_drop, show sz T e + i * sz T e = (i + 1) * sz T e by rw [Nat.succ_mul]; omega]
    exact this
end
end Go.Abs
