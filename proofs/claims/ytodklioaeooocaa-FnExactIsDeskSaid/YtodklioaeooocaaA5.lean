/- Every operation that reads or reckons, taken together. -/
import Derived.Test.YtodklioaeooocaaA4
set_option linter.unusedVariables false
set_option linter.unusedSimpArgs false
namespace Go.Abs
open Go.RowKit
section
variable {P : Program} {T : TT} {G : Nat} {w0 w : World} {ρ : Loc} {H : AHeap} {env : Env} {a : Act}

theorem convK_sound (hT : TT.ok P T) {s d : TypeId} {v v' : Value} {K : Value → Prop} (hs : ∃ i, T s = some i) (hv : VR ρ v v') (h : convK T d v K) : Gives P ρ w (convert s d v') K := by
  obtain ⟨si, hs⟩ := hs
  unfold convK at h
  split at h
  · rename_i k sz by_ z n hd
    rw [hv.int_inv]
    refine ⟨_, _, h, .scalar _ rfl, ?_⟩
    have e1 := run_underlying (w := w) hT hs
    have e2 := run_underlying (w := w) hT hd
    simp only [convert, Sem.run_bind, e1, e2, Result.andThen_ok]
    cases si.desc <;> rfl
  · rename_i sz by_ z n hd
    rw [hv.str_inv]
    refine ⟨_, _, h, .scalar _ rfl, ?_⟩
    have e1 := run_underlying (w := w) hT hs
    have e2 := run_underlying (w := w) hT hd
    simp only [convert, Sem.run_bind, e1, e2, Result.andThen_ok]
    cases si.desc <;> rfl
  · exact h.elim

theorem one_cells {v : Value} (h : v.oneCell' = true) : v.cells.toList = [v] := by cases v <;> first | rfl | (simp [Value.oneCell'] at h)
theorem cellsOf_elim {z v : Value} {K : List Value → Prop} (h : cellsOf z v K) : K v.cells.toList := by
  unfold cellsOf at h
  split at h
  · obtain ⟨l, rfl, hk⟩ := asAgg_elim h; exact hk
  · rcases pif_true h with ⟨h1, h⟩ | ⟨_, h⟩
    · rw [one_cells h1]; exact h
    · exact h.elim

/-- One value's cells laid at a place, both ways of writing it. -/
theorem fold_set (l : List Value) : ∀ (k off : Nat) (cs : Array Value), off + k + l.length ≤ cs.size →
    ((l.zipIdx k).foldl (fun cs (x : Value × Nat) => cs.setIfInBounds (off + x.2) x.1) cs).toList = cs.toList.take (off + k) ++ l ++ cs.toList.drop (off + k + l.length) := by
  induction l with
  | nil => intro k off cs h; simp
  | cons v l ih =>
    intro k off cs h
    simp only [List.zipIdx_cons, List.foldl_cons]
    rw [ih (k + 1) off _ (by simp at h ⊢; omega)]
    have hb : off + k < cs.toList.length := by simp at h ⊢; omega
    simp only [Array.toList_setIfInBounds, List.length_cons]
    rw [show off + (k + 1) = off + k + 1 by omega, show off + k + (l.length + 1) = off + k + 1 + l.length by omega]
    rw [List.take_add_one, List.getElem?_set_self (by simpa using hb), List.take_set_of_le (by omega), List.drop_set_of_lt (by omega)]
    simp

theorem fill_sound (place : Nat → Option (Nat × TypeId)) (place' : Nat → Option (Nat × Nat)) (hp : ∀ i off t, place i = some (off, t) → ∃ ti, T t = some ti ∧ place' i = some (off, ti.size)) :
    ∀ (parts : List (Nat × Value)) (parts' : List (Nat × Value)) (cs cs' : List Value) (K : List Value → Prop), parts.map (·.1) = parts'.map (·.1) → VRs ρ (parts.map (·.2)) (parts'.map (·.2)) → VRs ρ cs cs' →
      fillK T place parts cs K → ∃ r r', K r ∧ VRs ρ r r' ∧ Instr.fill place' ⟨cs'⟩ parts' = some ⟨r'⟩
  | [], [], cs, cs', K, _, _, hc, h => ⟨cs, cs', h, hc, rfl⟩
  | [], _ :: _, _, _, _, h, _, _, _ => by simp at h
  | _ :: _, [], _, _, _, h, _, _, _ => by simp at h
  | (i, v) :: rest, (j, v') :: rest', cs, cs', K, hi, hv, hc, h => by
    simp at hi
    obtain ⟨rfl, hi⟩ := hi
    cases hv with
    | cons _ _ _ _ hv1 hv2 =>
    unfold fillK at h
    split at h
    · rename_i off t hpl
      obtain ⟨ti, ht, hpl'⟩ := hp _ _ _ hpl
      simp only [ht] at h
      rcases pif_true h with ⟨hf, h⟩ | ⟨_, h⟩
      · have h := cellsOf_elim h
        have hvs := hv1.cells
        generalize v.cells.toList = vs at h hvs
        rcases pif_true h with ⟨hd, h⟩ | ⟨_, h⟩
        · obtain ⟨hd1, hd2⟩ := of_decide_eq_true hd
          have hl := hvs.length
          have hl2 := hc.length
          unfold Instr.fill
          simp only [hpl']
          rw [if_neg (by simp at hl ⊢; omega)]
          obtain ⟨r, r', g1, g2, g3⟩ := fill_sound place place' hp rest rest' _ (cs'.take off ++ v'.cells.toList ++ cs'.drop (off + vs.length)) K hi hv2 (((hc.take off).append hvs).append (hc.drop _)) h
          refine ⟨r, r', g1, g2, ?_⟩
          rw [← g3]
          congr 1
          apply Array.ext'
          have := fold_set v'.cells.toList 0 off ⟨cs'⟩ (by simp at hl ⊢; omega)
          simp only [Nat.add_zero] at this
          rw [← Array.foldl_toList]
          simp only [Array.toList_zipIdx]
          rw [this]
          simp [hl]
        · exact h.elim
      · exact h.elim
    · exact h.elim
end
end Go.Abs
namespace Go.Abs
open Go.RowKit
section
variable {P : Program} {T : TT} {G : Nat} {w0 w : World} {ρ : Loc} {H : AHeap} {env : Env} {a : Act}

theorem mapM_places (hT : TT.ok P T) (f : Nat → Option (Nat × TypeId)) : ∀ (fs : List Field), (∀ (i : Nat) fl, fs[i]? = some fl → ∃ ti, T fl.type = some ti) →
    ∃ r : List (Nat × Nat), (fs.mapM (fun f : Field => (do pure (f.offset, ← sizeOf f.type) : Sem (Nat × Nat)))).run P w = .ok r w ∧ r.length = fs.length ∧ ∀ (i : Nat) fl ti, fs[i]? = some fl → T fl.type = some ti → r[i]? = some (fl.offset, ti.size)
  | [], _ => ⟨[], by simp [List.mapM_nil], rfl, by simp⟩
  | fl :: fs, h => by
    obtain ⟨ti, hti⟩ := h 0 fl (by simp)
    obtain ⟨r, h1, h2, h3⟩ := mapM_places hT f fs (fun i fl hf => h (i + 1) fl (by simpa using hf))
    refine ⟨(fl.offset, ti.size) :: r, ?_, by simp [h2], ?_⟩
    · simp only [List.mapM_cons, Sem.run_bind, run_sizeOf hT hti, Result.andThen_ok, Sem.run_pure, h1]
    · intro i g tj hg htj
      cases i with
      | zero => simp at hg; subst hg; rw [hti] at htj; obtain rfl := Option.some.inj htj; simp
      | succ i => simp at hg; simpa using h3 i g tj hg htj

theorem build_sound (hT : TT.ok P T) {t : TypeId} {i : TI} (hi : T t = some i) (hf : i.fine = true) (hft : fieldsTold T i = true) (parts parts' : List (Nat × Value)) (K : List Value → Prop) (zs : List Value) (hz : i.zero = .agg ⟨zs⟩)
    (hzs : zs.all scalar = true) (h1 : parts.map (·.1) = parts'.map (·.1)) (h2 : VRs ρ (parts.map (·.2)) (parts'.map (·.2))) (h : fillK T (placeOf i.desc T) parts zs K) :
    Gives P ρ w (Instr.build t ⟨parts'⟩) (fun v => ∃ l, v = .agg ⟨l⟩ ∧ K l) := by
  have hu := run_underlying (w := w) hT hi
  have hzr := run_zeroValue (w := w) hT hi
  cases hd : i.desc with
  | struct fs =>
    have hft' : ∀ (j : Nat) fl, fs.toList[j]? = some fl → ∃ ti, T fl.type = some ti := by
      intro j fl hj
      simp only [fieldsTold, hd, List.all_eq_true] at hft
      exact Option.isSome_iff_exists.1 (hft fl (List.mem_of_getElem? hj))
    obtain ⟨r, hr1, hr2, hr3⟩ := mapM_places (w := w) hT (placeOf i.desc T) fs.toList hft'
    have hplace : ∀ j off tt, placeOf i.desc T j = some (off, tt) → ∃ ti, T tt = some ti ∧ (fun j => r[j]?) j = some (off, ti.size) := by
      intro j off tt hj
      simp only [placeOf, hd, Option.map_eq_some_iff] at hj
      obtain ⟨fl, hfl, e⟩ := hj
      obtain ⟨ti, hti⟩ := hft' j fl hfl
      obtain ⟨rfl, rfl⟩ := Prod.mk.inj e
      exact ⟨ti, hti, hr3 j fl ti hfl hti⟩
    obtain ⟨q, q', g1, g2, g3⟩ := fill_sound (ρ := ρ) _ _ hplace parts parts' zs zs K h1 h2 (VRs.scalars hzs) h
    refine ⟨.agg ⟨q⟩, .agg ⟨q'⟩, ⟨q, rfl, g1⟩, .agg _ _ g2, ?_⟩
    have hm : (fs.mapM (fun f : Field => (do pure (f.offset, ← sizeOf f.type) : Sem (Nat × Nat)))).run P w = .ok r.toArray w := by
      rw [← Array.toArray_toList (xs := fs), List.mapM_toArray, Sem.run_map, hr1]; rfl
    simp only [Instr.build, Sem.run_bind, hzr, hz, Result.andThen_ok, hu, hd, hm]
    have : (fun j : Nat => r.toArray[j]?) = fun j : Nat => r[j]? := by funext j; simp
    simp only [Value.cells, this, g3]
    rfl
  | array n e =>
    cases hte : T e with
    | none => simp [fieldsTold, hd, hte] at hft
    | some ti =>
      have hs := run_sizeOf (w := w) hT hte
      have hplace : ∀ j off tt, placeOf i.desc T j = some (off, tt) → ∃ ti', T tt = some ti' ∧ (fun j => some (j * ti.size, ti.size)) j = some (off, ti'.size) := by
        intro j off tt hj
        simp only [placeOf, hd, hte, Option.map_some, Option.some.injEq] at hj
        obtain ⟨rfl, rfl⟩ := Prod.mk.inj hj
        exact ⟨ti, hte, rfl⟩
      obtain ⟨q, q', g1, g2, g3⟩ := fill_sound (ρ := ρ) _ _ hplace parts parts' zs zs K h1 h2 (VRs.scalars hzs) h
      refine ⟨.agg ⟨q⟩, .agg ⟨q'⟩, ⟨q, rfl, g1⟩, .agg _ _ g2, ?_⟩
      simp only [Instr.build, Sem.run_bind, hzr, hz, Result.andThen_ok, hu, hd, hs, Value.cells, g3]
      rfl
  | _ => simp [TI.fine, hd, hz] at hf

theorem partK_sound (hT : TT.ok P T) {t : TypeId} {cs cs' : List Value} {off : Nat} {K : Value → Prop} (hc : VRs ρ cs cs') (h : partK T t cs off K) : Gives P ρ w (part t ⟨cs'⟩ off) K := by
  unfold partK at h
  split at h
  · rename_i i hi
    rcases pif_true h with ⟨hf, h⟩ | ⟨_, h⟩
    · rcases fine_agg hf with ⟨zs, hz, hs, ha⟩ | ⟨hn, hn2, hs, ha⟩
      · simp only [hz] at h
        rcases pif_true h with ⟨hd, h⟩ | ⟨_, h⟩
        · refine ⟨_, .agg ⟨(cs'.drop off).take i.size⟩, h, .agg _ _ ((hc.drop off).take _), ?_⟩
          simp only [part, Sem.run_bind, run_isAgg hT hi, ha, Result.andThen_ok, if_true, run_sizeOf hT hi, Sem.run_pure]
          congr 2
          apply Array.ext'
          simp [Array.toList_extract, List.extract]
        · exact h.elim
      · have h' : atK cs off K := by
          revert h
          cases hz : i.zero <;> simp only [] <;> first | exact id | (intro h; exact ((hn _ hz).elim))
        unfold atK at h'
        split at h'
        · rename_i v hv
          obtain ⟨v', e, r⟩ := hc.get _ _ hv
          refine ⟨v, v', h', r, ?_⟩
          simp only [part, Sem.run_bind, run_isAgg hT hi, ha, Result.andThen_ok, Bool.false_eq_true, if_false]
          simp [e]
        · exact h'.elim
    · exact h.elim
  · exact h.elim
end
end Go.Abs
