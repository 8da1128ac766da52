/- What comes in: the arguments. -/
import Derived.Test.YtodklioaeooocaaA20
set_option linter.unusedVariables false
set_option linter.unusedSimpArgs false
namespace Go.Abs
open Go.RowKit

section
variable {Hd : Type} {enc : TypeId × Value → Hd} {P : Program} {T : TT} {G : Nat} {w : World} {ρ : Loc} {H : AHeap}

theorem Laid.same (R : Rel T G w ρ H w) {cs : List Value} {Q : AHeap → List Value → Prop} (hs : ∀ v ∈ cs, Abs.scalar v = true) (hq : Q H cs) : Laid T G w ρ H cs Q :=
  ⟨ρ, H, cs, AHeap.le_refl _, Loc.le_refl _, R, VRs.scalars (by simpa using hs), fun v hv => scalar_one (hs v hv), hq⟩

theorem add_at (b o i : Nat) : (⟨b, o, none⟩ : Addr).add i = ⟨b, o + i, none⟩ := by
  unfold Addr.add
  split
  · rename_i h; simp_all
  · rfl

theorem cells_heap {a : Addr} {n : Nat} {cs : List Value} (h : w.cells? 0 a n = some cs) (hn : 0 < n) : a.spot = none ∧ ∃ C e fr, w.heap[a.block]? = some (.cells C e fr) ∧ ∀ (i : Nat) v, cs[i]? = some v → C[a.off + i]? = some v := by
  obtain ⟨_, hl, hc⟩ := World.cells?_some h
  have h0 := hc 0 hn
  obtain ⟨v0, hv0⟩ : ∃ v, cs[0]? = some v := ⟨cs[0], by simp [hl, hn]⟩
  rw [hv0] at h0
  have hs : a.spot = none := by simpa [Addr.add] using World.cell?_spot h0
  obtain ⟨b, o, sp⟩ := a
  simp only at hs; subst hs
  refine ⟨rfl, ?_⟩
  have key : ∀ i v, w.cell? ⟨b, o + i, none⟩ = some v → ∃ C e fr, w.heap[b]? = some (.cells C e fr) ∧ C[o + i]? = some v := by
    intro i v hv
    unfold World.cell? at hv
    simp only at hv
    split at hv
    · rename_i C e fr hb
      exact ⟨C, e, fr, hb, hv⟩
    · cases hv
  have h0' : w.cell? ⟨b, o + 0, none⟩ = some v0 := by simpa [Addr.add] using h0
  obtain ⟨C, e, fr, hb, _⟩ := key 0 v0 h0'
  refine ⟨C, e, fr, hb, fun i v hv => ?_⟩
  have hi : i < n := by rw [← hl]; exact lt_of_get hv
  have := hc i hi
  rw [hv] at this
  obtain ⟨C', e', fr', hb', hv'⟩ := key i v (by rw [add_at] at this; exact this)
  rw [hb] at hb'
  cases hb'
  exact hv'

theorem underlying_of (hT : TT.ok P T) {t : TypeId} {ti : TI} (h : T t = some ti) : P.underlying t = some ti.desc := (hT t ti h).1

theorem lay (hT : TT.ok P T) : ∀ (n : Nat) (t : TypeId) (cs : List Value) (x : DataW Hd × List MemPlace), DataW.trod enc P w 0 (fun _ => true) true n t cs = some x → supp T n t = true →
    ∀ ρ H, Rel T G w ρ H w → Laid T G w ρ H cs (fun H' => AT T H' n t)
  | 0, t, cs, x, h, _, ρ, H, R => by simp [DataW.trod] at h
  | n + 1, t, cs, x, h, hs, ρ, H, R => by
    have one : ∀ t cs, (∃ x, DataW.trod enc P w 0 (fun _ => true) true n t cs = some x) ∧ supp T n t = true → ∀ ρ H, Rel T G w ρ H w → Laid T G w ρ H cs (fun H' => AT T H' n t) :=
      fun t cs ⟨⟨x, hx⟩, hs⟩ => lay hT n t cs x hx hs
    have many := lay_list (T := T) (G := G) (w := w) (Q := fun H' t cs => AT T H' n t cs) (fun H H' t cs hl h => AT.mono hl h) one
    unfold supp at hs
    split at hs
    · rename_i ti hti
      have hu := underlying_of hT hti
      unfold DataW.trod at h
      rw [hu] at h
      have fin : ∀ (Q : AHeap → List Value → Prop), (∀ H cs, Q H cs → AT T H (n + 1) t cs) → Laid T G w ρ H cs Q → Laid T G w ρ H cs (fun H' => AT T H' (n + 1) t) := by
        rintro Q hq ⟨ρ', H', cs', a1, a2, a3, a4, a5, a6⟩
        exact ⟨ρ', H', cs', a1, a2, a3, a4, a5, hq _ _ a6⟩
      split at hs
      · rename_i hd
        rw [hd] at h
        split at h
        all_goals first | (exfalso; simp at *; done) | skip
        rename_i b _
        refine Laid.same R (by simp [Abs.scalar]) ?_
        unfold AT; rw [hti]; simp only [hd]
        exact ⟨b, rfl⟩
      · rename_i k hd
        rw [hd] at h
        split at h
        all_goals first | (exfalso; simp at *; done) | skip
        rename_i k1 k2 z heq
        simp only [Option.some.injEq, TypeDesc.int.injEq] at heq
        subst heq
        split at h
        · rename_i hw
          obtain ⟨rfl, hw⟩ := hw
          refine Laid.same R (by simp [Abs.scalar]) ?_
          unfold AT; rw [hti]; simp only [hd]
          exact ⟨_, rfl, hw⟩
        · cases h
      · rename_i hd
        rw [hd] at h
        split at h
        all_goals first | (exfalso; simp at *; done) | skip
        split at h
        · rename_i hw
          refine Laid.same R (by simp [Abs.scalar]) ?_
          unfold AT; rw [hti]; simp only [hd]
          exact ⟨_, rfl, hw⟩
        · cases h
      · rename_i e hd
        rw [hd] at h
        simp only [Bool.and_eq_true, bne_iff_ne, beq_iff_eq] at hs
        obtain ⟨⟨hse, hz⟩, _⟩ := hs
        obtain ⟨te, hte⟩ : ∃ te, T e = some te := by
          unfold sz at hz; split at hz
          · exact ⟨_, by assumption⟩
          · exact absurd rfl hz
        rw [sz_eq hte] at hz
        have hce := cellsOf_eq hT hte
        split at h
        all_goals first | (exfalso; simp at *; done) | skip
        · refine Laid.same R (by simp [Abs.scalar]) ?_
          unfold AT; rw [hti]; simp only [hd]
          exact .inl (by simp)
        · rename_i e' a len cap heq
          simp only [Option.some.injEq, TypeDesc.slice.injEq] at heq
          subst heq
          rw [hce] at h
          simp only [if_true] at h
          split at h
          · rename_i hb
            simp only [Option.map_eq_some_iff, Option.bind_eq_some_iff] at h
            obtain ⟨elems, he, rest, hr, _⟩ := h
            have hel := mapM_ok he
            have hrl := mapM_ok hr
            have each : ∀ i, i < cap → ∃ cs, w.cells? 0 (a.add (i * te.size)) te.size = some cs ∧ (i < len → ∃ x, DataW.trod enc P w 0 (fun _ => true) true n e cs = some x) := by
              intro i hi
              by_cases hil : i < len
              · obtain ⟨y, hy⟩ := hel i (by simpa using hil)
                obtain ⟨cs, hc, ht⟩ := Option.bind_eq_some_iff.1 hy
                exact ⟨cs, hc, fun _ => ⟨y, ht⟩⟩
              · obtain ⟨y, hy⟩ := hrl (i - len) (by simp; omega)
                rw [show len + (i - len) = i by omega] at hy
                obtain ⟨cs, hc, ht⟩ := Option.bind_eq_some_iff.1 hy
                exact ⟨cs, hc, fun h => absurd h hil⟩
            by_cases hcap : cap = 0
            · subst hcap
              have hlen : len = 0 := by omega
              subst hlen
              refine ⟨ρ, H, [.slice (some ⟨0, 0, none⟩) 0 1], AHeap.le_refl _, Loc.le_refl _, R, ?_, ?_, ?_⟩
              · exact .cons _ _ _ _ (.slice _ _ _ _ _ ⟨Nat.le_refl _, fun h => rfl, .inl ⟨rfl, rfl⟩⟩) .nil
              · intro v hv; simp at hv; subst hv; rfl
              · show AT T _ (n + 1) t _
                unfold AT; rw [hti]; simp only [hd]
                exact .inr (.inl (by simp))
            · obtain ⟨c0, hc0, _⟩ := each 0 (by omega)
              have hc0' : w.cells? 0 a te.size = some c0 := by simpa [Addr.add] using hc0
              obtain ⟨hsp, C, e', fr, hb0, _⟩ := cells_heap hc0' (by omega)
              obtain ⟨b, o, sp⟩ := a
              simp only at hsp hb0
              subst hsp
              have all : ∀ i, i < cap → ∃ cs, cs.length = te.size ∧ (∀ (j : Nat) v, cs[j]? = some v → C[o + i * te.size + j]? = some v) ∧ (i < len → ∃ x, DataW.trod enc P w 0 (fun _ => true) true n e cs = some x) := by
                intro i hi
                obtain ⟨cs, hc, ht⟩ := each i hi
                rw [add_at] at hc
                obtain ⟨_, C2, e2, fr2, hb2, hat⟩ := cells_heap hc (by omega)
                simp only at hb2 hat
                rw [hb0] at hb2
                cases hb2
                exact ⟨cs, (World.cells?_some hc).2.1, hat, ht⟩
              have room : o + cap * te.size ≤ C.size := by
                obtain ⟨cs, hl, hat, _⟩ := all (cap - 1) (by omega)
                have := lt_of_getA (hat (te.size - 1) cs[te.size - 1] (by simp))
                have e1 : cap * te.size = (cap - 1) * te.size + te.size := by
                  obtain ⟨m, rfl⟩ : ∃ m, cap = m + 1 := ⟨cap - 1, by omega⟩
                  simp [Nat.succ_mul]
                omega
              have hle : len * te.size ≤ cap * te.size := Nat.mul_le_mul_right _ hb.2.1
              let X := (C.toList.drop o).take (len * te.size)
              have hX : X.length = len * te.size := by simp [X]; omega
              have hch : Chunked T (fun t cs => (∃ x, DataW.trod enc P w 0 (fun _ => true) true n t cs = some x) ∧ supp T n t = true) (List.replicate len e) X := by
                refine chunks_of_rep len X (by rw [sz_eq hte]; exact hX) fun i hi => ⟨?_, hse⟩
                obtain ⟨cs, hl, hat, ht⟩ := all i (by omega)
                obtain ⟨x, hx⟩ := ht hi
                have : (X.drop (i * sz T e)).take (sz T e) = cs := by
                  rw [sz_eq hte]
                  have hi2 : (i + 1) * te.size ≤ len * te.size := Nat.mul_le_mul_right _ hi
                  rw [Nat.succ_mul] at hi2
                  apply List.ext_getElem?
                  intro j
                  by_cases hj : j < te.size
                  · rw [List.getElem?_take, if_pos hj, List.getElem?_drop]
                    simp only [X]
                    rw [List.getElem?_take, if_pos (by omega), List.getElem?_drop]
                    have := hat j cs[j] (by simp)
                    rw [List.getElem?_eq_getElem (by omega : j < cs.length), ← this, Array.getElem?_toList]
                    congr 1; omega
                  · rw [List.getElem?_take, if_neg hj, List.getElem?_eq_none (by omega)]
                exact ⟨x, by rw [this]; exact hx⟩
              obtain ⟨ρ1, H1, xs, a1, a2, a3, a4, a5, a6⟩ := many _ _ hch ρ H R
              have hxl : xs.length = len * te.size := by rw [a4.length]; exact hX
              refine ⟨ρ1.upd H1.length ⟨b, o, C.size, te.size⟩, H1 ++ [some (.row xs e false)], [.slice (some ⟨H1.length, 0, none⟩) len (len + 1)], AHeap.le_trans a1 (AHeap.le_append _ _), Loc.le_trans a2 (a3.le_upd _),
                a3.old hte hb0 ?_, ?_, ?_, ?_⟩
              · intro i v hv
                obtain ⟨v', h1, h2⟩ := a4.get i v hv
                refine ⟨a5 v (List.mem_of_getElem? hv), v', ?_, h2⟩
                have hi := lt_of_get hv
                simp only [X] at h1
                rw [List.getElem?_take, if_pos (by omega), List.getElem?_drop, Array.getElem?_toList] at h1
                exact h1
              · refine .cons _ _ _ _ (.slice _ _ _ _ _ ⟨hb.2.1, fun h => by omega, .inr ⟨_, Loc.upd_same _ _ _, rfl, by simp, .inr (by simpa using room)⟩⟩) .nil
              · intro v hv; simp at hv; subst hv; rfl
              · show AT T _ (n + 1) t _
                unfold AT; rw [hti]; simp only [hd]
                refine .inr (.inr ⟨_, len, xs, rfl, by omega, by simp, a6.mono fun _ _ h => AT.mono (AHeap.le_append _ _) h⟩)
          · cases h
      · rename_i fs hd
        rw [hd] at h
        simp only [Bool.and_eq_true, List.all_eq_true, beq_iff_eq] at hs
        obtain ⟨⟨hsf, hla⟩, htot⟩ := hs
        split at h
        all_goals first | (exfalso; simp at *; done) | skip
        rename_i cs _ _ fs' heq
        simp only [Option.some.injEq, TypeDesc.struct.injEq] at heq
        subst heq
        split at h
        · rename_i hl
          simp only [Option.map_eq_some_iff] at h
          obtain ⟨xs, hxs, _⟩ := h
          refine fin _ ?_ (many (fs.toList.map (·.type)) cs ?_ ρ H R)
          · intro H cs h
            unfold AT; rw [hti]; simp only [hd]; exact h
          · have := chunks_of_fields (T := T) (C := fun t cs => (∃ x, DataW.trod enc P w 0 (fun _ => true) true n t cs = some x) ∧ supp T n t = true) cs fs.toList 0 hla (fun f hf => ?_) (by rw [cellsOf_eq hT hti] at hl; omega)
            · simpa using this
            · obtain ⟨y, hy⟩ := mapM_ok hxs f hf
              have hsf' := hsf f hf
              obtain ⟨tf, htf⟩ : ∃ tf, T f.type = some tf := by
                cases n with
                | zero => simp [supp] at hsf'
                | succ n => unfold supp at hsf'; split at hsf'; exact ⟨_, by assumption⟩; cases hsf'
              rw [cellsOf_eq hT htf] at hy
              rw [sz_eq htf]
              exact ⟨⟨y, hy⟩, hsf'⟩
        · cases h
      · rename_i m e hd
        rw [hd] at h
        simp only [Bool.and_eq_true, beq_iff_eq] at hs
        obtain ⟨hse, hm⟩ := hs
        split at h
        all_goals first | (exfalso; simp at *; done) | skip
        rename_i cs _ _ m' e' heq
        simp only [Option.some.injEq, TypeDesc.array.injEq] at heq
        obtain ⟨rfl, rfl⟩ := heq
        obtain ⟨te, hte⟩ : ∃ te, T e = some te := by
          cases n with
          | zero => simp [supp] at hse
          | succ n => unfold supp at hse; split at hse; exact ⟨_, by assumption⟩; cases hse
        split at h
        · rename_i hl
          simp only [Option.map_eq_some_iff] at h
          obtain ⟨xs, hxs, _⟩ := h
          refine fin _ ?_ (many (List.replicate m e) cs (chunks_of_rep m cs (by rw [cellsOf_eq hT hti] at hl; omega) fun i hi => ?_) ρ H R)
          · intro H cs h
            unfold AT; rw [hti]; simp only [hd]; exact h
          · obtain ⟨y, hy⟩ := mapM_ok hxs i (by simpa using hi)
            rw [cellsOf_eq hT hte] at hy
            rw [sz_eq hte]
            exact ⟨⟨y, hy⟩, hse⟩
        · cases h
      · cases hs
    · cases hs
end
end Go.Abs
