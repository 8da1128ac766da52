/- Every operation that reads or reckons: soundness, and that a greater heap gives the same. -/
import Derived.Test.YtodklioaeooocaaA5
set_option linter.unusedVariables false
set_option linter.unusedSimpArgs false
namespace Go.Abs
open Go.RowKit
section
variable {P : Program} {T : TT} {G : Nat} {w0 w : World} {ρ : Loc} {H : AHeap} {env : Env} {a : Act}

theorem run_indexAt_slice (hT : TT.ok P T) {t e : TypeId} {i ti : TI} (hi : T t = some i) (hd : i.desc = .slice e) (he : T e = some ti) {k : IntKind} {n : Int} {c : Addr} {m cap : Nat} (h0 : 0 ≤ n) (h1 : n < (m : Int)) :
    (Instr.indexAt t (.slice (some c) m cap) (.int k n)).run P w = .ok (.pointer (some (c.add (n.toNat * ti.size)))) w := by
  have hu := run_underlying (w := w) hT hi
  have hs := run_sizeOf (w := w) hT he
  simp only [Instr.indexAt, asIntOf, Sem.run_bind, Sem.run_pure, Result.andThen_ok, hu, hd, pure_bind]
  rw [if_pos ⟨h0, h1⟩]
  simp [hs]
theorem run_indexAt_array (hT : TT.ok P T) {t e : TypeId} {i ti : TI} {len : Nat} (hi : T t = some i) (hd : i.desc = .array len e) (he : T e = some ti) {k : IntKind} {n : Int} {c : Addr} (h0 : 0 ≤ n) (h1 : n < (len : Int)) :
    (Instr.indexAt t (.pointer (some c)) (.int k n)).run P w = .ok (.pointer (some (c.add (n.toNat * ti.size)))) w := by
  have hu := run_underlying (w := w) hT hi
  have hs := run_sizeOf (w := w) hT he
  simp only [Instr.indexAt, asIntOf, Sem.run_bind, Sem.run_pure, Result.andThen_ok, hu, hd, pure_bind, Instr.sureAddr]
  rw [if_pos ⟨h0, h1⟩]
  simp [hs]
theorem run_index_array (hT : TT.ok P T) {t e : TypeId} {i ti : TI} {len : Nat} (hi : T t = some i) (hd : i.desc = .array len e) (he : T e = some ti) {k : IntKind} {n : Int} {cs : Array Value} (h0 : 0 ≤ n) (h1 : n < (len : Int)) :
    (Instr.index t (.agg cs) (.int k n)).run P w = (part e cs (n.toNat * ti.size)).run P w := by
  have hu := run_underlying (w := w) hT hi
  have hs := run_sizeOf (w := w) hT he
  simp only [Instr.index, asIntOf, Sem.run_bind, Sem.run_pure, Result.andThen_ok, hu, hd]
  rw [if_pos ⟨h0, h1⟩]
  simp [hs]
theorem run_index_string (hT : TT.ok P T) {t : TypeId} {i : TI} (hi : T t = some i) (hd : i.desc = .string) {k : IntKind} {n : Int} {s : ByteArray} (h0 : 0 ≤ n) (h1 : n < (s.size : Int)) :
    (Instr.index t (.string s) (.int k n)).run P w = .ok (.int .u8 (s.data.toList.getD n.toNat 0).toNat) w := by
  have hu := run_underlying (w := w) hT hi
  simp only [Instr.index, asIntOf, Sem.run_bind, Sem.run_pure, Result.andThen_ok, hu, hd, if_pos h0]
  have hlt : n.toNat < s.data.size := by have := h1; rw [show s.size = s.data.size from rfl] at this; omega
  have : s[n.toNat]? = some (s.data[n.toNat]) := by
    rw [getElem?_pos s n.toNat (by simpa using hlt)]; rfl
  rw [this]
  simp [List.getD, hlt, Array.getElem?_eq_getElem hlt]
theorem run_fieldAt (hT : TT.ok P T) {s : TypeId} {i ti : TI} {fs : Array Field} {f : Nat} {fl : Field} (hi : T s = some i) (hd : i.desc = .struct fs) (hf : fs.toList[f]? = some fl) (ht : T fl.type = some ti) (hz : ti.size ≠ 0) (c : Addr) :
    (Instr.fieldAt s (.pointer (some c)) f).run P w = .ok (.pointer (some (c.add fl.offset))) w := by
  have hu := run_underlying (w := w) hT hi
  have hs := run_sizeOf (w := w) hT ht
  have hf' : fs[f]? = some fl := by simpa using hf
  simp only [Instr.fieldAt, Sem.run_bind, hu, hd, Result.andThen_ok, hf', Instr.sureAddr, Sem.run_pure, fieldPlace, hs, if_neg hz]
theorem run_field (hT : TT.ok P T) {s : TypeId} {i : TI} {fs : Array Field} {f : Nat} {fl : Field} (hi : T s = some i) (hd : i.desc = .struct fs) (hf : fs.toList[f]? = some fl) (cs : Array Value) :
    (Instr.field s (.agg cs) f).run P w = (part fl.type cs fl.offset).run P w := by
  have hu := run_underlying (w := w) hT hi
  have hf' : fs[f]? = some fl := by simpa using hf
  simp [Instr.field, hu, hd, hf', Go.asAgg]

theorem loOf_elim {v : Option Value} {K : Int → Prop} (h : loOf v K) : (v = none ∧ K 0) ∨ ∃ k n, v = some (.int k n) ∧ K n := by
  unfold loOf at h; split at h
  · exact .inl ⟨rfl, h⟩
  · split at h
    · exact .inr ⟨_, _, rfl, h⟩
    · exact h.elim
theorem hiOf_elim {v : Option Value} {m : Nat} {K : Int → Prop} (h : hiOf v m K) : (v = none ∧ K m) ∨ ∃ k n, v = some (.int k n) ∧ K n := by
  unfold hiOf at h; split at h
  · exact .inl ⟨rfl, h⟩
  · split at h
    · exact .inr ⟨_, _, rfl, h⟩
    · exact h.elim

/-- The bounds, as the model reckons them. -/
theorem run_sliceBounds {isSlice : Bool} {len cap : Nat} {lo hi : Option Value} {l h : Int} (hl : (lo = none ∧ l = 0) ∨ ∃ k, lo = some (.int k l)) (hh : (hi = none ∧ h = len) ∨ ∃ k, hi = some (.int k h))
    (h0 : 0 ≤ l) (h1 : l ≤ h) (h2 : h ≤ (len : Int)) (hc : len ≤ cap) : (Instr.sliceBounds isSlice len cap lo hi none).run P w = .ok (l.toNat, h.toNat, cap) w := by
  have e2 : h ≤ (cap : Int) := by omega
  have e3 : 0 ≤ h := by omega
  rcases hh with ⟨rfl, rfl⟩ | ⟨k, rfl⟩ <;> rcases hl with ⟨rfl, rfl⟩ | ⟨k', rfl⟩ <;>
    simp [Instr.sliceBounds, Instr.sliceBound, asIntOf, h0, h1, e2, e3] <;> omega

theorem sliceK_sound (hT : TT.ok P T) (R : Rel T G w0 ρ H w) {t e : TypeId} {i ti : TI} (hi : T t = some i) (hd : i.desc = .slice e) (he : T e = some ti) (hts : ti.size ≠ 0) {v v' : Value} {lo hi' : Option Value}
    {K : Value → Prop} (hv : VR ρ v v') (h : sliceK H e v lo hi' ti.size K) : Gives P ρ w (Instr.sliceAt t v' lo hi' none) K := by
  have hu := run_underlying (w := w) hT hi
  have hs := run_sizeOf (w := w) hT he
  unfold sliceK at h
  split at h
  · rename_i b o n c
    obtain ⟨⟨cs, own, hrow, hlen⟩, h⟩ := h
    obtain ⟨y, cap', rfl, hsr⟩ := hv.slice_inv
    obtain ⟨hnc, hcz, hsr⟩ := hsr
    have hmain : ∃ l hh : Int, ((lo = none ∧ l = 0) ∨ ∃ k, lo = some (.int k l)) ∧ ((hi' = none ∧ hh = n) ∨ ∃ k, hi' = some (.int k hh)) ∧ 0 ≤ l ∧ l ≤ hh ∧ hh ≤ (n : Int) ∧ K (.slice (some ⟨b, o + l.toNat * ti.size, none⟩) (hh.toNat - l.toNat) (hh.toNat - l.toNat + 1)) := by
      rcases loOf_elim h with ⟨e1, h⟩ | ⟨k, l, e1, h⟩ <;> rcases hiOf_elim h with ⟨e2, h⟩ | ⟨k', hh, e2, h⟩
      · exact ⟨_, _, .inl ⟨e1, rfl⟩, .inl ⟨e2, rfl⟩, h⟩
      · exact ⟨_, _, .inl ⟨e1, rfl⟩, .inr ⟨_, e2⟩, h⟩
      · exact ⟨_, _, .inr ⟨_, e1⟩, .inl ⟨e2, rfl⟩, h⟩
      · exact ⟨_, _, .inr ⟨_, e1⟩, .inr ⟨_, e2⟩, h⟩
    obtain ⟨l, hh, e1, e2, g0, g1, g2, hk⟩ := hmain
    have hb := run_sliceBounds (P := P) (w := w) (isSlice := true) e1 e2 g0 g1 g2 hnc
    refine ⟨_, .slice (some (if cap' = l.toNat then y else y.add (l.toNat * ti.size))) (hh.toNat - l.toNat) (cap' - l.toNat), hk, .slice _ _ _ _ _ ⟨by omega, by omega, ?_⟩, ?_⟩
    · obtain ⟨r, C, e', fr, hr, hw, hN, hcell, _, tj, htj, hsz⟩ := R.row b cs e own hrow
      rw [he] at htj
      obtain rfl := Option.some.inj htj
      rcases hsr with ⟨hn0, hc0⟩ | ⟨r', hr', _, hy, hcap⟩
      · left; omega
      · simp only [] at hr'
        rw [hr] at hr'
        obtain rfl := Option.some.inj hr'
        by_cases hcl : cap' = l.toNat
        · left; omega
        · right
          refine ⟨r, hr, rfl, ?_, ?_⟩
          · rw [if_neg hcl, hy, Addr.add_eq _ rfl]; simp [Nat.add_assoc]
          · right
            show r.sh + (o + l.toNat * ti.size) + (cap' - l.toNat) * r.sz ≤ r.N
            rw [hsz, Nat.sub_mul]
            have hle2 : l.toNat * ti.size ≤ cap' * ti.size := Nat.mul_le_mul_right _ (by omega)
            rcases hcap with hcap | hcap
            · have hn1 : 0 < n := by omega
              have hp : 0 < n * ti.size := Nat.mul_pos hn1 (by omega)
              obtain ⟨_, v', hv', _⟩ := hcell (o + n * ti.size - 1) (cs[o + n * ti.size - 1]'(by omega)) (List.getElem?_eq_getElem _)
              have : r.sh + (o + n * ti.size - 1) < C.size := by
                rcases Nat.lt_or_ge (r.sh + (o + n * ti.size - 1)) C.size with h | h
                · exact h
                · simp [Array.getElem?_eq_none h] at hv'
              rw [hcap] at hle2 ⊢
              omega
            · simp only [hsz] at hcap
              omega
    · simp only [Instr.sliceAt, Sem.run_bind, hu, hd, Result.andThen_ok, Instr.slice, hb, hs, Sem.run_pure]
      by_cases hcl : cap' = l.toNat
      · rw [if_pos hcl, if_pos hcl]
      · rw [if_neg hcl, if_neg hcl]; rfl
  · rename_i n c
    rcases loOf_elim h with ⟨e1, h⟩ | ⟨k, l, e1, h⟩ <;> rcases hiOf_elim h with ⟨e2, h⟩ | ⟨k', hh, e2, h⟩
    all_goals
      obtain ⟨g0, g1, rfl, rfl, hk⟩ := h
      rw [hv.scalar_inv rfl]
      refine ⟨_, _, hk, .scalar _ rfl, ?_⟩
      subst e1
      subst e2
      simp [Instr.sliceAt, hu, hd, Instr.slice, Instr.sliceBounds, Instr.sliceBound, asIntOf, g0, g1, hs]
  · exact h.elim

theorem VRs.map_ev (f : Operand → Value) (g : Operand → Value) : ∀ {l : List Operand}, (∀ x ∈ l, VR ρ (f x) (g x)) → VRs ρ (l.map f) (l.map g)
  | [], _ => .nil
  | x :: l, h => .cons _ _ _ _ (h x (by simp)) (VRs.map_ev f g (fun y hy => h y (by simp [hy])))

theorem loHi_conv {f g : Operand → Value} {lo hi : Option Operand} (hlo : ∀ k l, lo.map f = some (.int k l) → lo.map g = some (.int k l)) (hhi : ∀ k l, hi.map f = some (.int k l) → hi.map g = some (.int k l))
    {n : Nat} {K : Int → Int → Prop} (h : loOf (lo.map f) fun l => hiOf (hi.map f) n fun h => K l h) : (loOf (lo.map g) fun l => hiOf (hi.map g) n fun h => K l h) := by
  rcases loOf_elim h with ⟨e1, h2⟩ | ⟨k, l, e1, h2⟩ <;> rcases hiOf_elim h2 with ⟨e2, h3⟩ | ⟨k', hh, e2, h3⟩
  · simp at e1 e2; subst e1; subst e2; exact h3
  · simp at e1; subst e1; rw [hhi _ _ e2]; exact h3
  · simp at e2; subst e2; rw [hlo _ _ e1]; exact h3
  · rw [hlo _ _ e1, hhi _ _ e2]; exact h3

theorem aRd_sound (hT : TT.ok P T) (R : Rel T G w0 ρ H w) {o : Oper} (hv : ∀ x ∈ o.op.operands, VR ρ (aev env x) (a.eval x)) {K : Value → Prop} (h : aRd T o.op (aev env) H K) :
    ∃ v v', K v ∧ VR ρ v v' ∧ (execOp a.eval o).run P w = .ok (.value v') w := by
  have lift : ∀ {s : Sem Value} {K : Value → Prop}, Gives P ρ w s K → execOp a.eval o = (do pure (.value (← s))) → ∃ v v', K v ∧ VR ρ v v' ∧ (execOp a.eval o).run P w = .ok (.value v') w := by
    intro s K hg he
    obtain ⟨v, v', h1, h2, h3⟩ := hg
    exact ⟨v, v', h1, h2, by rw [he]; simp [h3]⟩
  obtain ⟨dst, op, type, pos, after, guard⟩ := o
  cases op
  case move x => exact ⟨_, _, h, hv x (by simp [Op.operands]), rfl⟩
  case assign x => exact ⟨_, _, h, hv x (by simp [Op.operands]), rfl⟩
  case pick c x y =>
    obtain ⟨b, hb, h⟩ := asB_elim h
    have hc := hv c (by simp [Op.operands])
    rw [hb] at hc
    have hc := hc.bool_inv
    rcases pif_true h with ⟨rfl, h⟩ | ⟨rfl, h⟩
    · exact ⟨_, _, h, hv x (by simp [Op.operands]), by simp [execOp, hc, asBool]⟩
    · exact ⟨_, _, h, hv y (by simp [Op.operands]), by simp [execOp, hc, asBool]⟩
  case load t p =>
    obtain ⟨b, o, hb, h⟩ := asP_elim h
    have hc := hv p (by simp [Op.operands])
    rw [hb] at hc
    obtain ⟨r, hr, hc⟩ := hc.ptr_inv
    obtain ⟨v, v', h1, h2, h3⟩ := ldT_sound hT R h hr rfl
    exact ⟨v, v', h1, h2, by simp [execOp, hc, Instr.loadAt, Instr.sureAddr, h3]⟩
  case nilCheck x =>
    have hc := hv x (by simp [Op.operands])
    simp only [aRd, nilK] at h
    split at h
    · rename_i b o hb
      rw [hb] at hc
      obtain ⟨r, hr, hc'⟩ := hc.ptr_inv
      exact ⟨_, _, h, by rw [hc'] at hc; exact hc, by simp [execOp, hc']⟩
    · rename_i f xs ys hb
      rw [hb] at hc
      obtain ⟨x', y', hc', _⟩ := VR.func_inv (x := xs.toList) (y := ys.toList) hc
      exact ⟨_, _, h, by rw [hc'] at hc; exact hc, by simp [execOp, hc']⟩
    · exact h.elim
  case binOp op t x y u =>
    have h1 := hv x (by simp [Op.operands])
    have h2 := hv y (by simp [Op.operands])
    cases y with
    | const v =>
      simp only [aRd] at h
      rcases pif_true h with ⟨hn, h⟩ | ⟨_, h⟩
      · have := isNilSlice_eq hn
        subst this
        exact lift (nilCmp_sound hT x _ h1 h) rfl
      · exact lift (binK_sound hT x _ h1 h2 h) rfl
    | tmp t => exact lift (binK_sound hT x _ h1 h2 h) rfl
    | global g => exact lift (binK_sound hT x _ h1 h2 h) rfl
    | func f => exact lift (binK_sound hT x _ h1 h2 h) rfl
  case unOp op t x => exact lift (unK_sound (hv x (by simp [Op.operands])) h) rfl
  case convert s d x =>
    rcases pif_true h with ⟨hs, h⟩ | ⟨_, h⟩
    · exact lift (convK_sound hT (Option.isSome_iff_exists.1 hs) (hv x (by simp [Op.operands])) h) rfl
    · exact h.elim
  case makeFunc fn xs ys =>
    cases fn <;> first | exact h.elim | skip
    refine ⟨_, .func _ (xs.map a.eval) (ys.map a.eval), h, ?_, rfl⟩
    have e1 := VRs.map_ev (ρ := ρ) (aev env) a.eval (l := xs.toList) (fun x hx => hv x (by simp [Op.operands]; exact .inl (by simpa using hx)))
    have e2 := VRs.map_ev (ρ := ρ) (aev env) a.eval (l := ys.toList) (fun x hx => hv x (by simp [Op.operands]; exact .inr (by simpa using hx)))
    have := VR.func (ρ := ρ) (by assumption) _ _ _ _ e1 e2
    have e3 : ∀ (z : Array Operand), (z.map a.eval) = ⟨z.toList.map a.eval⟩ := fun z => by apply Array.ext'; simp
    rw [e3, e3]
    exact this
  case fieldAddr s x f =>
    simp only [aRd] at h
    split at h
    · rename_i hi
      split at h
      · rename_i fl hf
        split at h
        · rename_i ti ht
          rcases pif_true h with ⟨hz, h⟩ | ⟨_, h⟩
          · obtain ⟨b, o, hb, h⟩ := asP_elim h
            have hc := hv x (by simp [Op.operands])
            rw [hb] at hc
            obtain ⟨r, hr, hc⟩ := hc.ptr_inv
            refine ⟨_, _, h, .ptr ⟨b, o + fl.offset, none⟩ _ r hr rfl rfl, ?_⟩
            have := run_fieldAt (w := w) hT hi rfl hf ht (by simpa using hz) ⟨r.blk, r.sh + o, none⟩
            rw [Addr.add_eq _ rfl] at this
            simp [execOp, hc, this, Nat.add_assoc]
          · exact h.elim
        · exact h.elim
      · exact h.elim
    · exact h.elim
  case field t x f =>
    simp only [aRd] at h
    split at h
    · rename_i hi
      split at h
      · rename_i fl hf
        obtain ⟨l, hl, h⟩ := asAgg_elim h
        have hc := hv x (by simp [Op.operands])
        rw [hl] at hc
        obtain ⟨l', hc, hls⟩ := hc.agg_inv
        obtain ⟨v, v', h1, h2, h3⟩ := partK_sound (P := P) (w := w) hT hls h
        exact ⟨v, v', h1, h2, by simp [execOp, hc, run_field hT hi rfl hf, h3]⟩
      · exact h.elim
    · exact h.elim
  case indexAddr t x i =>
    have hcx := hv x (by simp [Op.operands])
    have hci := hv i (by simp [Op.operands])
    simp only [aRd] at h
    split at h
    · rename_i k n hi hn
      rw [hn] at hci
      have hci := hci.int_inv
      split at h
      · rename_i ti he
        obtain ⟨b, o, m, c, hb, h0, h1, h⟩ := idxK_elim h
        rw [hb] at hcx
        obtain ⟨y, cap', hcx, hsr⟩ := hcx.slice_inv
        obtain ⟨hle, _, hsr⟩ := hsr
        rcases hsr with ⟨hz, _⟩ | ⟨r, hr, _, hy, _⟩
        · omega
        · refine ⟨_, _, h, .ptr ⟨b, _, none⟩ _ r hr rfl rfl, ?_⟩
          have := run_indexAt_slice (w := w) hT hi rfl he (k := k) (c := y) (cap := cap') h0 h1
          rw [hy, Addr.add_eq _ rfl] at this
          simp [execOp, hcx, hci, hy, this, Nat.add_assoc]
      · exact h.elim
    · rename_i k n hi hn
      rw [hn] at hci
      have hci := hci.int_inv
      split at h
      · rename_i ti he
        obtain ⟨b, o, hb, h⟩ := asP_elim h
        obtain ⟨h0, h1, h⟩ := bndK_iff.1 h
        rw [hb] at hcx
        obtain ⟨r, hr, hcx⟩ := hcx.ptr_inv
        refine ⟨_, _, h, .ptr ⟨b, _, none⟩ _ r hr rfl rfl, ?_⟩
        have := run_indexAt_array (w := w) hT hi rfl he (k := k) (c := ⟨r.blk, r.sh + o, none⟩) h0 h1
        rw [Addr.add_eq _ rfl] at this
        simp [execOp, hcx, hci, this, Nat.add_assoc]
      · exact h.elim
    · exact h.elim
  case index t x i =>
    have hcx := hv x (by simp [Op.operands])
    have hci := hv i (by simp [Op.operands])
    simp only [aRd] at h
    split at h
    · rename_i k n hi hn
      rw [hn] at hci
      have hci := hci.int_inv
      split at h
      · rename_i ti he
        obtain ⟨l, hl, h⟩ := asAgg_elim h
        obtain ⟨h0, h1, h⟩ := bndK_iff.1 h
        rw [hl] at hcx
        obtain ⟨l', hcx, hls⟩ := hcx.agg_inv
        obtain ⟨v, v', g1, g2, g3⟩ := partK_sound (P := P) (w := w) hT hls h
        exact ⟨v, v', shape1_elim g1, g2, by simp [execOp, hcx, hci, run_index_array hT hi rfl he h0 h1, g3]⟩
      · exact h.elim
    · rename_i k n hi hn
      rw [hn] at hci
      have hci := hci.int_inv
      split at h
      · rename_i s hs
        obtain ⟨h0, h1, h⟩ := bndK_iff.1 h
        rw [hs] at hcx
        have hcx := hcx.str_inv
        have := run_index_string (w := w) hT hi rfl (k := k) h0 h1
        exact ⟨_, _, h, .scalar _ rfl, by simp only [execOp, hcx, hci, Sem.run_bind, this]; rfl⟩
      · exact h.elim
    · exact h.elim
  case build t parts =>
    simp only [aRd] at h
    split at h
    · rename_i i hi
      rcases pif_true h with ⟨hf, h⟩ | ⟨_, h⟩
      · rw [Bool.and_eq_true] at hf
        obtain ⟨zs, hz, h⟩ := asAgg_elim h
        rcases pif_true h with ⟨hzs, h⟩ | ⟨_, h⟩
        · have e1 : VRs ρ (List.map (·.2) (parts.toList.map fun p => (p.1, aev env p.2))) (List.map (·.2) (parts.toList.map fun p => (p.1, a.eval p.2))) := by
            have := VRs.map_ev (ρ := ρ) (aev env) a.eval (l := parts.toList.map (·.2)) (fun x hx => hv x (by simpa [Op.operands] using hx))
            rw [List.map_map, List.map_map] at this ⊢
            exact this
          obtain ⟨v, v', ⟨l, rfl, g1⟩, g2, g3⟩ := build_sound (P := P) (w := w) hT hi hf.1 hf.2 _ _ _ zs hz hzs (by simp [List.map_map]) e1 h
          refine ⟨_, v', g1, g2, ?_⟩
          have : (parts.map fun p => (p.1, a.eval p.2)) = ⟨parts.toList.map fun p => (p.1, a.eval p.2)⟩ := by
            apply Array.ext'; simp
          simp only [execOp, Sem.run_bind]
          rw [show (parts.map fun (x : Nat × Operand) => match x with | (i, x) => (i, a.eval x)) = ⟨parts.toList.map fun p => (p.1, a.eval p.2)⟩ from this, g3]
          rfl
        · exact h.elim
      · exact h.elim
    · exact h.elim
  case slice t x lo hi mx =>
    cases mx with
    | some m =>
      cases lo with
      | some l => cases hi <;> exact h.elim
      | none =>
      cases hi with
      | none => exact h.elim
      | some u =>
      have hcx := hv x (by simp [Op.operands])
      have hcu := hv u (by simp [Op.operands])
      have hcm := hv m (by simp [Op.operands])
      simp only [aRd] at h
      split at h
      · rename_i hi'
        have hu := run_underlying (w := w) hT hi'
        split at h
        · rename_i he e1 e2
          have hs := run_sizeOf (w := w) hT he
          rw [e1] at hcu
          rw [e2] at hcm
          unfold clipK at h
          split at h
          · rename_i e3
            rw [e3] at hcx
            obtain ⟨y, c', e4, hle, hcz, hsr⟩ := hcx.slice_inv
            refine ⟨_, .slice (some y) 0 0, h, .slice _ _ _ _ _ ⟨Nat.le_refl _, fun _ => rfl, .inl ⟨rfl, rfl⟩⟩, ?_⟩
            simp [execOp, hcu.int_inv, hcm.int_inv, e4, Instr.sliceAt, hu, Instr.slice, Instr.sliceBounds, Instr.sliceBound, asIntOf, hs]
          · rename_i e3
            rw [e3] at hcx
            refine ⟨_, .slice none 0 0, h, .scalar _ rfl, ?_⟩
            simp [execOp, hcu.int_inv, hcm.int_inv, hcx.scalar_inv rfl, Instr.sliceAt, hu, Instr.slice, Instr.sliceBounds, Instr.sliceBound, asIntOf, hs]
          · exact h.elim
        · exact h.elim
      · exact h.elim
    | none =>
      have hcx := hv x (by simp [Op.operands])
      have hlo : ∀ k l, lo.map (aev env) = some (.int k l) → lo.map a.eval = some (.int k l) := by
        intro k l hl
        cases lo with
        | none => simp at hl
        | some y =>
          have := hv y (by simp [Op.operands])
          simp at hl
          rw [hl] at this
          simp [this.int_inv]
      have hhi : ∀ k l, hi.map (aev env) = some (.int k l) → hi.map a.eval = some (.int k l) := by
        intro k l hl
        cases hi with
        | none => simp at hl
        | some y =>
          have := hv y (by simp [Op.operands])
          simp at hl
          rw [hl] at this
          simp [this.int_inv]
      simp only [aRd] at h
      split at h
      · rename_i e _ _ _ hi'
        split at h
        · rename_i ti he
          rcases pif_true h with ⟨hz, h⟩ | ⟨_, h⟩
          · have h' : sliceK H e (aev env x) (lo.map a.eval) (hi.map a.eval) ti.size K := by
              unfold sliceK at h ⊢
              have hconv : ∀ {n : Nat} {K : Int → Int → Prop}, (loOf (lo.map (aev env)) fun l => hiOf (hi.map (aev env)) n fun h => K l h) → (loOf (lo.map a.eval) fun l => hiOf (hi.map a.eval) n fun h => K l h) := fun h => loHi_conv hlo hhi h
              split at h
              · exact ⟨h.1, hconv h.2⟩
              · exact hconv h
              · exact h.elim
            exact lift (sliceK_sound hT R hi' rfl he (by simpa using hz) hcx h') rfl
          · exact h.elim
        · exact h.elim
      · rename_i hi'
        split at h
        · rename_i s hs
          rw [hs] at hcx
          have hcx := hcx.str_inv
          have hu := run_underlying (w := w) hT hi'
          have hmain : ∃ l hh : Int, ((lo.map a.eval = none ∧ l = 0) ∨ ∃ k, lo.map a.eval = some (.int k l)) ∧ ((hi.map a.eval = none ∧ hh = s.size) ∨ ∃ k, hi.map a.eval = some (.int k hh)) ∧ 0 ≤ l ∧ l ≤ hh ∧ hh ≤ (s.size : Int) ∧ K (.string (s.extract l.toNat hh.toNat)) := by
            rcases loOf_elim h with ⟨e1, h⟩ | ⟨k, l, e1, h⟩ <;> rcases hiOf_elim h with ⟨e2, h⟩ | ⟨k', hh, e2, h⟩
            · simp at e1 e2; exact ⟨_, _, .inl ⟨by simp [e1], rfl⟩, .inl ⟨by simp [e2], rfl⟩, h⟩
            · simp at e1; exact ⟨_, _, .inl ⟨by simp [e1], rfl⟩, .inr ⟨_, hhi _ _ e2⟩, h⟩
            · simp at e2; exact ⟨_, _, .inr ⟨_, hlo _ _ e1⟩, .inl ⟨by simp [e2], rfl⟩, h⟩
            · exact ⟨_, _, .inr ⟨_, hlo _ _ e1⟩, .inr ⟨_, hhi _ _ e2⟩, h⟩
          obtain ⟨l, hh, e1, e2, g0, g1, g2, hk⟩ := hmain
          have hb := run_sliceBounds (P := P) (w := w) (isSlice := false) e1 e2 g0 g1 g2 (Nat.le_refl _)
          refine ⟨_, _, hk, .scalar _ rfl, ?_⟩
          simp only [execOp, Sem.run_bind, Option.map_none, hcx, Instr.sliceAt, hu, Result.andThen_ok, Instr.slice, Option.isSome_none, Bool.false_eq_true, if_false, hb, Sem.run_pure]
        · exact h.elim
      · rename_i n e _ _ _ hi'
        split at h
        · rename_i ti he
          obtain ⟨b, o, hb, h⟩ := asP_elim h
          rw [hb] at hcx
          obtain ⟨r, hr, hcx⟩ := hcx.ptr_inv
          have hu := run_underlying (w := w) hT hi'
          have hs := run_sizeOf (w := w) hT he
          refine ⟨_, .slice (some ⟨r.blk, r.sh + o, none⟩) n n, h, .slice _ _ _ _ _ ⟨Nat.le_refl _, by omega, .inr ⟨r, hr, rfl, rfl, .inl rfl⟩⟩, ?_⟩
          simp [execOp, hcx, Instr.sliceAt, hu, Instr.sureAddr, Instr.sliceBounds, hs, Addr.add]
        · exact h.elim
      · exact h.elim
  case extract x ix =>
    obtain ⟨l, hl, h⟩ := asTup_elim h
    have hcx := hv x (by simp [Op.operands])
    rw [hl] at hcx
    obtain ⟨l', hcx, hls⟩ := hcx.tuple_inv
    split at h
    · rename_i v hv'
      obtain ⟨v', e, r⟩ := hls.get _ _ hv'
      refine ⟨v, v', h, r, ?_⟩
      simp [execOp, hcx, Instr.extract, e]
    · exact h.elim
  all_goals exact h.elim
end
end Go.Abs
