/- Operations that turn the heap: what they give over the abstract heap, and that the model gives the same. -/
import Derived.Test.YtodklioaeooocaaA7
set_option linter.unusedVariables false
set_option linter.unusedSimpArgs false
namespace Go.Abs
open Go.RowKit

def newK (H : AHeap) (cs : List Value) (e : TypeId) (K : Nat → AHeap → Prop) : Prop :=
  pif (cs.all Value.oneCell') (K H.length (H ++ [some (.row cs e true)])) False
/-- The zero value's cells. -/
def zeroK (i : TI) (K : List Value → Prop) : Prop :=
  match i.zero with
  | .agg ⟨zs⟩ => pif (zs.all scalar && decide (zs.length = i.size)) (K zs) False
  | z => pif (scalar z && decide (1 = i.size)) (K [z]) False
def stK (H : AHeap) (b o : Nat) (cs : List Value) (K : AHeap → Prop) : Prop :=
  match H[b]? with
  | some (some (.row old e true)) => o + cs.length ≤ old.length ∧ (∀ v ∈ cs, v.oneCell' = true) ∧ K (H.set b (some (.row (old.take o ++ cs ++ old.drop (o + cs.length)) e true)))
  | _ => False
/-- The cells that a slice tells. -/
def cellsAt (H : AHeap) (v : Value) (sz : Nat) (n : Nat) (xs : List Value) : Prop :=
  xs.length = n * sz ∧ ∃ a c, v = .slice a n c ∧ (n = 0 ∨ ∃ b o, a = some ⟨b, o, none⟩ ∧ ∀ (i : Nat) u, xs[i]? = some u → H.cell b (o + i) = some u)
/-- What is behind a slice that may be appended to. -/
def ownAt (H : AHeap) (e : TypeId) (v : Value) (sz : Nat) (n : Nat) (xs : List Value) (H' : AHeap) : Prop :=
  (v = .slice none 0 0 ∧ n = 0 ∧ xs = [] ∧ H' = H) ∨ (∃ a, v = .slice (some a) 0 0 ∧ n = 0 ∧ xs = [] ∧ H' = H) ∨
  ∃ b o c cs, v = .slice (some ⟨b, o, none⟩) n c ∧ H[b]? = some (some (.row cs e true)) ∧ o + n * sz ≤ cs.length ∧ xs = (cs.drop o).take (n * sz) ∧ H' = H.set b none
def apK (T : TT) (e : TypeId) (H : AHeap) (s x : Value) (K : Value → AHeap → Prop) : Prop :=
  match T e with
  | some ti => ∃ m xs, cellsAt H x ti.size m xs ∧ ((m = 0 ∧ ((∃ a n c, s = .slice (some a) n c) ∨ s = .slice none 0 0) ∧ K s H) ∨
      (0 < m ∧ ∃ n ss H', ownAt H e s ti.size n ss H' ∧ n + m ≤ 4294967296 ∧ ti.bytes ≤ 1024 ∧ ti.fine = true ∧ 0 < ti.size ∧ K (.slice (some ⟨H.length, 0, none⟩) (n + m) (n + m + 1)) (H' ++ [some (.row (ss ++ xs) e true)])))
  | none => False
def mkK (T : TT) (e : TypeId) (H : AHeap) (l c : Value) (K : Value → AHeap → Prop) : Prop :=
  match T e, l, c with
  | some ti, .int _ n, .int _ m => 0 ≤ n ∧ n ≤ m ∧ m ≤ 4294967296 ∧ ti.bytes ≤ 1024 ∧ zeroK ti fun zs => K (.slice (some ⟨H.length, 0, none⟩) n.toNat (n.toNat + 1)) (H ++ [some (.row (List.replicate n.toNat zs).flatten e true)])
  | _, _, _ => False

def aEf (T : TT) (op : Op) (ev : Operand → Value) (H : AHeap) (K : Value → AHeap → Prop) : Prop :=
  match op with
  | .alloc e => match T e with
    | some ti => zeroK ti fun cs => newK H cs e fun b H' => K (.pointer (some ⟨b, 0, none⟩)) H'
    | none => False
  | .box e x => match T e with
    | some ti => cellsOf ti.zero (ev x) fun cs => newK H cs e fun b H' => K (.pointer (some ⟨b, 0, none⟩)) H'
    | none => False
  | .buildSlice t len parts => match T t with
    | some ⟨.slice e, _, _, _⟩ => match T e with
      | some ti => pif (decide (len * ti.size ≤ 2 ^ 24)) (zeroK ti fun zs => fillK T (fun i => some (i * ti.size, e)) (parts.toList.map fun p => (p.1, ev p.2)) (List.replicate len zs).flatten fun cs =>
          newK H cs e fun b H' => K (.slice (some ⟨b, 0, none⟩) len (len + 1)) H') False
      | none => False
    | _ => False
  | .makeSlice t l c => match T t with
    | some ⟨.slice e, _, _, _⟩ => mkK T e H (ev l) (ev c) K
    | _ => False
  | .store t p x => match T t with
    | some ti => cellsOf ti.zero (ev x) fun cs => pif (decide (cs.length = ti.size)) (asP (ev p) fun b o => stK H b o cs fun H' => K undef H') False
    | none => False
  | _ => False

section
variable {P : Program} {T : TT} {G : Nat} {w0 w : World} {ρ : Loc} {H : AHeap} {env : Env} {a : Act}

theorem newK_elim {cs : List Value} {e : TypeId} {K : Nat → AHeap → Prop} (h : newK H cs e K) : (∀ v ∈ cs, v.oneCell' = true) ∧ K H.length (H ++ [some (.row cs e true)]) := by
  rcases pif_true h with ⟨h1, h⟩ | ⟨_, h⟩
  · exact ⟨by simpa using h1, h⟩
  · exact h.elim
theorem zeroK_elim {i : TI} {K : List Value → Prop} (h : zeroK i K) : ∃ zs, i.zero.cells.toList = zs ∧ zs.all scalar = true ∧ zs.length = i.size ∧ K zs := by
  unfold zeroK at h
  split at h
  · rename_i zs hz
    rcases pif_true h with ⟨h1, h⟩ | ⟨_, h⟩
    · rw [Bool.and_eq_true] at h1
      exact ⟨zs, by rw [hz]; rfl, h1.1, of_decide_eq_true h1.2, h⟩
    · exact h.elim
  · rename_i hz
    rcases pif_true h with ⟨h1, h⟩ | ⟨_, h⟩
    · rw [Bool.and_eq_true] at h1
      refine ⟨[i.zero], ?_, by simpa using h1.1, by simpa using of_decide_eq_true h1.2, h⟩
      have := h1.1
      cases hz' : i.zero <;> first | rfl | (rw [hz'] at this; simp [Abs.scalar] at this)
    · exact h.elim
theorem scalar_one {v : Value} (h : Abs.scalar v = true) : v.oneCell' = true := by cases v <;> first | rfl | (simp [Abs.scalar] at h)

/-- What soundness says of an operation that turns the heap. -/
def Turns (P : Program) (T : TT) (G : Nat) (w0 : World) (ρ : Loc) (w : World) (s : Sem Value) (K : Value → AHeap → Prop) : Prop :=
  ∃ v v' ρ' H' w', K v H' ∧ ρ.le ρ' ∧ VR ρ' v v' ∧ Rel T G w0 ρ' H' w' ∧ s.run P w = .ok v' w'

theorem newRow_turns (hT : TT.ok P T) (R : Rel T G w0 ρ H w) {cs cs' : List Value} {e : TypeId} {ti : TI} (he : T e = some ti) (hvs : VRs ρ cs cs') {K : Nat → AHeap → Prop} (h : newK H cs e K) :
    ∃ ρ', K H.length (H ++ [some (.row cs e true)]) ∧ ρ.le ρ' ∧ (∃ r, ρ' H.length = some r ∧ r.blk = w.heap.size ∧ r.sh = 0 ∧ r.N = cs'.length ∧ r.sz = ti.size) ∧
      Rel T G w0 ρ' (H ++ [some (.row cs e true)]) { w with heap := w.heap.push (.cells ⟨cs'⟩ e) } := by
  obtain ⟨h1, h2⟩ := newK_elim h
  exact ⟨_, h2, R.le_upd _, ⟨_, Loc.upd_same _ _ _, rfl, rfl, by simp, rfl⟩, R.new ⟨cs'⟩ e he hvs h1 (by simp)⟩

theorem alloc_turns (hT : TT.ok P T) (R : Rel T G w0 ρ H w) {e : TypeId} {ti : TI} (he : T e = some ti) {K : Value → AHeap → Prop}
    (h : zeroK ti fun cs => newK H cs e fun b H' => K (.pointer (some ⟨b, 0, none⟩)) H') : Turns P T G w0 ρ w (Instr.alloc e true (.tuple #[])) K := by
  obtain ⟨zs, hz, hs, _, h⟩ := zeroK_elim h
  obtain ⟨ρ', h1, h2, ⟨r, h3, h4, h5, _⟩, h6⟩ := newRow_turns hT R he (VRs.scalars hs) h
  refine ⟨_, .pointer (some ⟨w.heap.size, 0, none⟩), ρ', _, _, h1, h2, .ptr _ _ r h3 rfl (by simp [h4, h5]), h6, ?_⟩
  have : ti.zero.cells = ⟨zs⟩ := by rw [← hz]
  simp [Instr.alloc, run_zeroValue hT he, newVar, newRow, this]

theorem box_turns (hT : TT.ok P T) (R : Rel T G w0 ρ H w) {e : TypeId} {ti : TI} (he : T e = some ti) {v v' : Value} (hv : VR ρ v v') {K : Value → AHeap → Prop}
    (h : cellsOf ti.zero v fun cs => newK H cs e fun b H' => K (.pointer (some ⟨b, 0, none⟩)) H') : Turns P T G w0 ρ w (Instr.box e v') K := by
  have h := cellsOf_elim h
  obtain ⟨ρ', h1, h2, ⟨r, h3, h4, h5, _⟩, h6⟩ := newRow_turns hT R he hv.cells h
  refine ⟨_, .pointer (some ⟨w.heap.size, 0, none⟩), ρ', _, _, h1, h2, .ptr _ _ r h3 rfl (by simp [h4, h5]), h6, ?_⟩
  simp [Instr.box, newVar, newRow]

theorem range_mod (zs : List Value) (n : Nat) : (List.range (n * zs.length)).map (fun i => zs[i % zs.length]!) = (List.replicate n zs).flatten := by
  induction n with
  | zero => simp
  | succ n ih =>
    rw [Nat.succ_mul, List.range_add, List.map_append, ih, List.replicate_succ', List.flatten_append]
    congr 1
    rw [List.map_map]
    apply List.ext_getElem
    · simp
    · intro i h1 h2
      simp at h1 h2
      simp [Nat.mod_eq_of_lt h1, List.getElem!_eq_getElem?_getD, h1]

theorem zeros_eq (zs : Array Value) (n : Nat) : (((Array.range (n * zs.size)).map fun i => zs[i % zs.size]!)).toList = (List.replicate n zs.toList).flatten := by
  have := range_mod zs.toList n
  rw [← this]
  simp only [Array.toList_map, Array.toList_range, Array.length_toList]
  apply List.map_congr_left
  intro i _
  simp [Array.getElem!_eq_getD, Array.getD_eq_getD_getElem?, List.getElem!_eq_getElem?_getD]

theorem VRs.flatten_scalars {zs : List Value} (h : zs.all scalar = true) (n : Nat) : VRs ρ (List.replicate n zs).flatten (List.replicate n zs).flatten := by
  apply VRs.scalars
  simp at h ⊢
  exact .inr h

theorem buildSlice_turns (hT : TT.ok P T) (R : Rel T G w0 ρ H w) {t e : TypeId} {i ti : TI} (hi : T t = some i) (hd : i.desc = .slice e) (he : T e = some ti) {len : Nat} (hlen : len * ti.size ≤ 2 ^ 24)
    {parts parts' : List (Nat × Value)} (h1 : parts.map (·.1) = parts'.map (·.1)) (h2 : VRs ρ (parts.map (·.2)) (parts'.map (·.2))) {K : Value → AHeap → Prop}
    (h : zeroK ti fun zs => fillK T (fun i => some (i * ti.size, e)) parts (List.replicate len zs).flatten fun cs => newK H cs e fun b H' => K (.slice (some ⟨b, 0, none⟩) len (len + 1)) H') :
    Turns P T G w0 ρ w (Instr.buildSlice t len ⟨parts'⟩) K := by
  obtain ⟨zs, hz, hs, hzl, h⟩ := zeroK_elim h
  have hu := run_underlying (w := w) hT hi
  have hsz := run_sizeOf (w := w) hT he
  have hzr := run_zeroValue (w := w) hT he
  obtain ⟨r, r', g1, g2, g3⟩ := fill_sound (ρ := ρ) (T := T) _ (fun i => some (i * ti.size, ti.size)) (by
    intro j off tt hj
    simp only [Option.some.injEq] at hj
    obtain ⟨rfl, rfl⟩ := Prod.mk.inj hj
    exact ⟨ti, he, rfl⟩) parts parts' _ _ _ h1 h2 (VRs.flatten_scalars hs len) h
  obtain ⟨ρ', k1, k2, ⟨q, k3, k4, k5, k7, k8⟩, k6⟩ := newRow_turns hT R he g2 g1
  refine ⟨_, .slice (some ⟨w.heap.size, 0, none⟩) len len, ρ', _, _, k1, k2, .slice _ _ _ _ _ ⟨Nat.le_refl _, by omega, .inr ⟨q, k3, rfl, by simp [k4, k5], .inl rfl⟩⟩, k6, ?_⟩
  have hzero : ∀ (z : Array Value), (len * ti.size = 0 ∧ z = #[] ∨ len * ti.size ≠ 0 ∧ z = ti.zero.cells) → ((Array.range (len * ti.size)).map fun i => z[i % z.size]!) = ⟨(List.replicate len zs).flatten⟩ := by
    intro z hz'
    apply Array.ext'
    rcases hz' with ⟨h0, rfl⟩ | ⟨h0, rfl⟩
    · rw [h0]
      have : (List.replicate len zs).flatten.length = 0 := by simp [hzl, h0]
      rw [List.length_eq_zero_iff.1 this]; simp
    · have e1 : ti.zero.cells.size = ti.size := by rw [← hzl, ← hz]; simp
      rw [← hz, ← zeros_eq, e1]
  simp only [Instr.buildSlice, Sem.run_bind, hu, hd, Result.andThen_ok, hsz]
  rw [if_neg (by omega)]
  by_cases h0 : len * ti.size = 0
  · rw [if_pos h0]
    simp only [Sem.run_pure, Result.andThen_ok, Sem.run_bind]
    rw [hzero #[] (.inl ⟨h0, rfl⟩), g3]
    simp [newRow]
  · rw [if_neg h0]
    simp only [Sem.run_bind, hzr, Sem.run_pure, Result.andThen_ok]
    rw [hzero _ (.inr ⟨h0, rfl⟩), g3]
    simp [newRow]

theorem makeSlice_turns (hT : TT.ok P T) (R : Rel T G w0 ρ H w) {t e : TypeId} {i ti : TI} (hi : T t = some i) (hd : i.desc = .slice e) (he : T e = some ti) {k k' : IntKind} {n m : Int} {K : Value → AHeap → Prop}
    (h0 : 0 ≤ n) (h1 : n ≤ m) (h2 : m ≤ 4294967296) (h3 : ti.bytes ≤ 1024)
    (h : zeroK ti fun zs => K (.slice (some ⟨H.length, 0, none⟩) n.toNat (n.toNat + 1)) (H ++ [some (.row (List.replicate n.toNat zs).flatten e true)])) :
    Turns P T G w0 ρ w (Instr.makeSlice t (.int k n) (.int k' m)) K := by
  obtain ⟨zs, hz, hs, hzl, h⟩ := zeroK_elim h
  have hu := run_underlying (w := w) hT hi
  have hsz := run_sizeOf (w := w) hT he
  have hzr := run_zeroValue (w := w) hT he
  obtain ⟨j, hj1, hj2, hj3, hj4⟩ := run_typeInfo (w := w) hT he
  have w1 : IntKind.i64.wrap n = n := by simp [IntKind.wrap, IntKind.bits, IntKind.signed]; omega
  have w2 : IntKind.i64.wrap m = m := by simp [IntKind.wrap, IntKind.bits, IntKind.signed]; omega
  have hle : (List.replicate n.toNat zs).flatten.length ≤ (List.replicate m.toNat zs).flatten.length := by simp; exact Nat.mul_le_mul_right _ (by omega)
  have hone : ∀ v ∈ (List.replicate n.toNat zs).flatten, v.oneCell' = true := by
    intro v hv
    simp at hv hs
    obtain ⟨l, ⟨_, rfl⟩, hv⟩ := hv
    exact scalar_one (hs v hv)
  have hC : ∀ (i : Nat) v', (List.replicate n.toNat zs).flatten[i]? = some v' → (⟨(List.replicate m.toNat zs).flatten⟩ : Array Value)[i]? = some v' := by
    intro i v' hv'
    have : (List.replicate m.toNat zs) = List.replicate n.toNat zs ++ List.replicate (m.toNat - n.toNat) zs := by
      rw [List.replicate_append_replicate]; congr 1; omega
    simp only [List.getElem?_toArray, this, List.flatten_append]
    rw [List.getElem?_append_left (lt_of_get hv')]; exact hv'
  have R' := R.new ⟨(List.replicate m.toNat zs).flatten⟩ e he (VRs.flatten_scalars (ρ := ρ) hs n.toNat) hone hC
  refine ⟨_, .slice (some ⟨w.heap.size, 0, none⟩) n.toNat m.toNat, _, _, _, h, R.le_upd _, .slice _ _ _ _ _ ⟨by omega, by omega, .inr ⟨_, Loc.upd_same _ _ _, rfl, rfl, .inr ?_⟩⟩, R', ?_⟩
  · simp [hzl]
  · have hb : ((j.bytes : Int) * m > 2 ^ 48) = False := by
      rw [hj3]
      simp only [gt_iff_lt, eq_iff_iff, iff_false, Int.not_lt]
      have : (ti.bytes : Int) * m ≤ 1024 * 4294967296 := Int.mul_le_mul (by omega) h2 (by omega) (by omega)
      omega
    simp only [Instr.makeSlice, Sem.run_bind, hu, hd, Result.andThen_ok, asInt, asIntOf, Sem.run_pure, hj1, w1, w2, hb, pure_bind]
    rw [if_neg (by simp; omega)]
    simp only [run_askRoom, Result.andThen_ok, Sem.run_bind, hsz]
    have hzero : ∀ (z : Array Value), (m.toNat * ti.size = 0 ∧ z = #[] ∨ m.toNat * ti.size ≠ 0 ∧ z = ti.zero.cells) → ((Array.range (m.toNat * ti.size)).map fun i => z[i % z.size]!) = ⟨(List.replicate m.toNat zs).flatten⟩ := by
      intro z hz'
      apply Array.ext'
      rcases hz' with ⟨h0, rfl⟩ | ⟨h0, rfl⟩
      · rw [h0]
        have : (List.replicate m.toNat zs).flatten.length = 0 := by simp [hzl, h0]
        rw [List.length_eq_zero_iff.1 this]; simp
      · have e1 : ti.zero.cells.size = ti.size := by rw [← hzl, ← hz]; simp
        rw [← hz, ← zeros_eq, e1]
    by_cases h0 : m.toNat * ti.size = 0
    · rw [if_pos h0]
      simp only [Sem.run_pure, Result.andThen_ok, Sem.run_bind]
      rw [hzero #[] (.inl ⟨h0, rfl⟩)]
      simp [newRow]
    · rw [if_neg h0]
      simp only [Sem.run_bind, hzr, Sem.run_pure, Result.andThen_ok]
      rw [hzero _ (.inr ⟨h0, rfl⟩)]
      simp [newRow]
end
end Go.Abs
