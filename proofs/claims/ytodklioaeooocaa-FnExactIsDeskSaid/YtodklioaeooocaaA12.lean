/- Operations that read or reckon give ONE value, and give it in every greater heap. -/
import Derived.Test.YtodklioaeooocaaA11
set_option linter.unusedVariables false
set_option linter.unusedSimpArgs false
namespace Go.Abs
open Go.RowKit

/-- Does it turn the heap (or may it)? -/
def isEff (o : Oper) : Bool :=
  match o.op with
  | .alloc _ | .box _ _ | .buildSlice _ _ _ | .makeSlice _ _ _ | .store _ _ _ => true
  | .call c => match c.callee with
    | .builtin .len | .builtin .min | .builtin .max => false
    | _ => true
  | _ => false

section
variable {P : Program} {T : TT} {H H' : AHeap} {ev : Operand → Value}

/-- A thing told with a continuation tells one value, and the same one in H'. -/
def One {α : Type} (X Y : (α → Prop) → Prop) : Prop := ∀ K, X K → ∃ x, K x ∧ Y (fun u => u = x)

theorem One.bind {α β : Type} {X Y : (α → Prop) → Prop} {f g : α → (β → Prop) → Prop} (h : One X Y) (hm : ∀ (K K' : α → Prop), Y K → (∀ x, K x → K' x) → Y K') (hf : ∀ x, One (f x) (g x)) :
    One (fun K => X fun x => f x K) (fun K => Y fun x => g x K) := by
  intro K hX
  obtain ⟨x, h1, h2⟩ := h _ hX
  obtain ⟨y, h3, h4⟩ := hf x K h1
  exact ⟨y, h3, hm _ _ h2 fun u hu => by subst hu; exact h4⟩

theorem asI_one (k : IntKind) (v : Value) : One (asI k v) (asI k v) := fun K h => by
  obtain ⟨n, rfl, h'⟩ := asI_elim h; exact ⟨n, h', asI_mk rfl⟩
theorem asB_one (v : Value) : One (asB v) (asB v) := fun K h => by
  obtain ⟨n, rfl, h⟩ := asB_elim h; exact ⟨n, h, rfl⟩
theorem asS_one (v : Value) : One (asS v) (asS v) := fun K h => by
  obtain ⟨n, rfl, h⟩ := asS_elim h; exact ⟨n, h, rfl⟩
theorem asAgg_one (v : Value) : One (asAgg v) (asAgg v) := fun K h => by
  obtain ⟨n, rfl, h⟩ := asAgg_elim h; exact ⟨n, h, rfl⟩
theorem asTup_one (v : Value) : One (asTup v) (asTup v) := fun K h => by
  obtain ⟨n, rfl, h⟩ := asTup_elim h; exact ⟨n, h, rfl⟩
theorem asI_mono {k : IntKind} {v : Value} {K K' : Int → Prop} (h : asI k v K) (hk : ∀ x, K x → K' x) : asI k v K' := by obtain ⟨n, rfl, h'⟩ := asI_elim h; exact asI_mk (hk _ h')
theorem asB_mono {v : Value} {K K' : Bool → Prop} (h : asB v K) (hk : ∀ x, K x → K' x) : asB v K' := by obtain ⟨n, rfl, h⟩ := asB_elim h; exact hk _ h
theorem asS_mono {v : Value} {K K' : ByteArray → Prop} (h : asS v K) (hk : ∀ x, K x → K' x) : asS v K' := by obtain ⟨n, rfl, h⟩ := asS_elim h; exact hk _ h
theorem asAgg_mono {v : Value} {K K' : List Value → Prop} (h : asAgg v K) (hk : ∀ x, K x → K' x) : asAgg v K' := by obtain ⟨n, rfl, h⟩ := asAgg_elim h; exact hk _ h
theorem asTup_mono {v : Value} {K K' : List Value → Prop} (h : asTup v K) (hk : ∀ x, K x → K' x) : asTup v K' := by obtain ⟨n, rfl, h⟩ := asTup_elim h; exact hk _ h
theorem asP_mono {v : Value} {K K' : Nat → Nat → Prop} (h : asP v K) (hk : ∀ x y, K x y → K' x y) : asP v K' := by obtain ⟨b, o, rfl, h⟩ := asP_elim h; exact hk _ _ h
theorem asP_one {β : Type} (v : Value) {f g : Nat → Nat → (β → Prop) → Prop} (hf : ∀ b o, One (f b o) (g b o)) : One (fun K => asP v fun b o => f b o K) (fun K => asP v fun b o => g b o K) := fun K h => by
  obtain ⟨b, o, rfl, h⟩ := asP_elim h
  obtain ⟨x, h1, h2⟩ := hf b o K h
  exact ⟨x, h1, h2⟩
theorem One.val (v : Value) : One (fun K => K v) (fun K => K v) := fun K h => ⟨v, h, rfl⟩
theorem One.pif {α : Type} (b : Bool) {X Y : (α → Prop) → Prop} (h : One X Y) : One (fun K => pif b (X K) False) (fun K => pif b (Y K) False) := fun K hX => by
  rcases pif_true hX with ⟨rfl, hX⟩ | ⟨_, hX⟩
  · obtain ⟨x, h1, h2⟩ := h K hX; exact ⟨x, h1, h2⟩
  · exact hX.elim
theorem One.pif2 {α : Type} (b : Bool) {X Y X' Y' : (α → Prop) → Prop} (h : One X Y) (h' : One X' Y') : One (fun K => Abs.pif b (X K) (X' K)) (fun K => Abs.pif b (Y K) (Y' K)) := fun K hX => by
  rcases pif_true hX with ⟨rfl, hX⟩ | ⟨rfl, hX⟩
  · obtain ⟨x, h1, h2⟩ := h K hX; exact ⟨x, h1, h2⟩
  · obtain ⟨x, h1, h2⟩ := h' K hX; exact ⟨x, h1, h2⟩
theorem One.and {α : Type} {p : Prop} {X Y : (α → Prop) → Prop} (h : One X Y) : One (fun K => p ∧ X K) (fun K => p ∧ Y K) := fun K hX => by
  obtain ⟨x, h1, h2⟩ := h K hX.2; exact ⟨x, h1, hX.1, h2⟩
theorem One.none {α : Type} {Y : (α → Prop) → Prop} : One (fun _ => False) Y := fun _ h => h.elim

theorem shape1_mono {z v : Value} {K K' : Value → Prop} (h : shape1 z v K) (hk : ∀ x, K x → K' x) : shape1 z v K' := by
  unfold shape1 at *
  split at h
  · exact asI_mono h fun _ => hk _
  · exact asB_mono h fun _ => hk _
  · exact asS_mono h fun _ => hk _
  · exact hk _ h
theorem shape1_one (z v : Value) : One (shape1 z v) (shape1 z v) := by
  intro K h
  refine ⟨v, shape1_elim h, ?_⟩
  unfold shape1 at *
  split at h
  · obtain ⟨n, rfl, _⟩ := asI_elim h; exact asI_mk rfl
  · obtain ⟨n, rfl, _⟩ := asB_elim h; rfl
  · obtain ⟨n, rfl, _⟩ := asS_elim h; rfl
  · rfl
theorem ld1_one (hle : H.le H') (b o : Nat) : One (ld1 H b o) (ld1 H' b o) := by
  intro K h
  obtain ⟨v, hv, hk⟩ := ld1_elim h
  refine ⟨v, hk, ?_⟩
  unfold ld1; rw [AHeap.cell_le hle hv]
theorem ld1_mono {b o : Nat} {K K' : Value → Prop} (h : ld1 H b o K) (hk : ∀ x, K x → K' x) : ld1 H b o K' := by
  obtain ⟨v, hv, h⟩ := ld1_elim h
  unfold ld1; rw [hv]; exact hk _ h
theorem ldCells_mono {b : Nat} : ∀ {zs : List Value} {o : Nat} {K K' : List Value → Prop}, ldCells H b o zs K → (∀ x, K x → K' x) → ldCells H b o zs K'
  | [], _, _, _, h, hk => hk _ h
  | z :: zs, o, K, K', h, hk => ld1_mono h fun v hv => shape1_mono hv fun v hv => ldCells_mono hv fun l hl => hk _ hl
theorem ldCells_one (hle : H.le H') (b : Nat) : ∀ (zs : List Value) (o : Nat), One (ldCells H b o zs) (ldCells H' b o zs)
  | [], _ => fun K h => ⟨[], h, rfl⟩
  | z :: zs, o => by
    refine One.bind (X := ld1 H b o) (Y := ld1 H' b o) (f := fun v K => shape1 z v fun v => ldCells H b (o + 1) zs fun l => K (v :: l)) (g := fun v K => shape1 z v fun v => ldCells H' b (o + 1) zs fun l => K (v :: l)) (ld1_one hle b o) (fun _ _ h hk => ld1_mono h hk) fun v => ?_
    refine One.bind (f := fun v K => ldCells H b (o + 1) zs fun l => K (v :: l)) (g := fun v K => ldCells H' b (o + 1) zs fun l => K (v :: l)) (shape1_one z v) (fun _ _ h hk => shape1_mono h hk) fun v => ?_
    refine One.bind (f := fun l K => K (v :: l)) (g := fun l K => K (v :: l)) (ldCells_one hle b zs (o + 1)) (fun _ _ h hk => ldCells_mono h hk) fun l K h => ⟨_, h, rfl⟩

theorem ldT_one (hle : H.le H') (t : TypeId) (b o : Nat) : One (ldT T t H b o) (ldT T t H' b o) := by
  intro K h
  unfold ldT at *
  split at h
  · rename_i i hi
    rcases pif_true h with ⟨hf, h⟩ | ⟨_, h⟩
    · cases hz : i.zero
      case agg cs =>
        obtain ⟨zs⟩ := cs
        simp only [hz] at h
        obtain ⟨l, h1, h2⟩ := ldCells_one hle b zs o _ h
        refine ⟨_, h1, ?_⟩
        rw [hf]
        exact ldCells_mono h2 fun l hl => by rw [hl]
      all_goals
        simp only [hz] at h
        obtain ⟨v, h1, h2⟩ := One.bind (f := fun v K => shape1 _ v K) (g := fun v K => shape1 _ v K) (ld1_one hle b o) (fun _ _ h hk => ld1_mono h hk) (fun v => shape1_one _ v) K h
        refine ⟨v, h1, ?_⟩
        rw [hf]
        exact h2
    · exact h.elim
  · exact h.elim

theorem bitsOf_one (op : BinOp) (k : IntKind) (x y : Int) : One (bitsOf op k x y) (bitsOf op k x y) := by
  intro K h
  cases op <;> first | exact ⟨_, h, rfl⟩ | exact h.elim
theorem shiftK_one (op : BinOp) (k : IntKind) (x y : Int) : One (shiftK op k x y) (shiftK op k x y) := by
  intro K h
  cases op <;> first | exact ⟨_, h.2, h.1, rfl⟩ | exact h.elim
theorem nzK_mk {y : Int} {K : Prop} (h : y ≠ 0) (hk : K) : nzK y K := by
  unfold nzK
  have : (y != 0) = true := by simpa using h
  rw [this]; exact hk
theorem intK_one (op : BinOp) (k : IntKind) (x y : Int) : One (intK op k x y) (intK op k x y) := by
  intro K h
  cases op
  case quo => obtain ⟨h0, h⟩ := nzK_elim h; exact ⟨_, h, nzK_mk h0 rfl⟩
  case rem => obtain ⟨h0, h⟩ := nzK_elim h; exact ⟨_, h, nzK_mk h0 rfl⟩
  case and => exact bitsOf_one .and k x y K (show bitsOf .and k x y K from h)
  case or => exact bitsOf_one .or k x y K (show bitsOf .or k x y K from h)
  case xor => exact bitsOf_one .xor k x y K (show bitsOf .xor k x y K from h)
  case andNot => exact bitsOf_one .andNot k x y K (show bitsOf .andNot k x y K from h)
  all_goals first | exact ⟨_, h, rfl⟩ | exact h.elim
theorem strK_one (op : BinOp) (x y : ByteArray) : One (strK op x y) (strK op x y) := by
  intro K h
  cases op
  case add => exact ⟨_, h.2, h.1, rfl⟩
  all_goals first | exact ⟨_, h, rfl⟩ | exact h.elim

/-- A choice among forms keeps what each form keeps. -/
theorem One.eq {α : Type} {X Y : (α → Prop) → Prop} (h : One X X) (e : X = Y) : One Y Y := e ▸ h

theorem eq2K_one (v u : List Value) (f : Bool → Bool) : One (fun (K : Value → Prop) => eq2K v u fun b => K (Value.bool (f b))) (fun (K : Value → Prop) => eq2K v u fun b => K (Value.bool (f b))) := by
  intro K h
  obtain ⟨x, y, z, t, rfl, rfl, h'⟩ := eq2K_elim (K := fun b => K (Value.bool (f b))) h
  exact ⟨_, h', rfl⟩

theorem eqOp_one (op : BinOp) (b : Bool) : One (eqOp op b) (eqOp op b) := by
  intro K h
  cases op <;> first | exact ⟨_, h, rfl⟩ | exact h.elim
theorem eq2K_mono {v u : List Value} {K K' : Bool → Prop} (h : eq2K v u K) (hk : ∀ x, K x → K' x) : eq2K v u K' := by
  obtain ⟨x, y, z, t, rfl, rfl, h'⟩ := eq2K_elim h
  exact hk _ h'
theorem eq2K_one' (v u : List Value) : One (eq2K v u) (eq2K v u) := by
  intro K h
  obtain ⟨x, y, z, t, rfl, rfl, h'⟩ := eq2K_elim h
  exact ⟨_, h', rfl⟩
theorem intAll_one (op : BinOp) (k : IntKind) (x : Int) (k' : IntKind) (y : Int) : One (intAll op k x k' y) (intAll op k x k' y) := by
  intro K h
  cases op
  case shl => exact shiftK_one .shl k x y K h
  case shr => exact shiftK_one .shr k x y K h
  all_goals exact One.pif _ (intK_one _ k x y) K h
theorem binK_one (op : BinOp) (t : TypeId) (v u : Value) : One (binK T op t v u) (binK T op t v u) := by
  intro K h
  unfold binK at h ⊢
  split at h
  · exact intAll_one _ _ _ _ _ K h
  · exact strK_one _ _ _ K h
  · split at h
    · exact eqOp_one _ _ K h
    · exact h.elim
  · split at h
    · split at h
      · exact One.bind (f := fun b K => eqOp op b K) (g := fun b K => eqOp op b K) (eq2K_one' _ _) (fun _ _ h hk => eq2K_mono h hk) (fun b => eqOp_one op b) K h
      · exact h.elim
    · exact h.elim
  · exact h.elim
theorem isNilK_one (v : Value) : One (isNilK v) (isNilK v) := by
  intro K h
  obtain ⟨a, n, c, rfl, h⟩ := isNilK_elim h
  exact ⟨_, h, rfl⟩
theorem isNilK_mono {v : Value} {K K' : Bool → Prop} (h : isNilK v K) (hk : ∀ x, K x → K' x) : isNilK v K' := by
  obtain ⟨a, n, c, rfl, h⟩ := isNilK_elim h
  exact hk _ h
theorem nilCmp_one (op : BinOp) (t : TypeId) (v : Value) : One (nilCmp T op t v) (nilCmp T op t v) := by
  intro K h
  unfold nilCmp at h ⊢
  split at h
  · exact One.bind (f := fun b K => eqOp op b K) (g := fun b K => eqOp op b K) (isNilK_one _) (fun _ _ h hk => isNilK_mono h hk) (fun b => eqOp_one op b) K h
  · exact h.elim
theorem unK_one (op : UnOp) (v : Value) : One (unK op v) (unK op v) := by
  intro K h
  unfold unK at h ⊢
  split at h
  · exact ⟨_, h, rfl⟩
  · exact ⟨_, h, rfl⟩
  · exact bitsOf_one _ _ _ _ K h
  · exact h.elim
theorem convK_one (d : TypeId) (v : Value) : One (convK T d v) (convK T d v) := by
  intro K h
  unfold convK at h ⊢
  split at h
  · exact ⟨_, h, rfl⟩
  · exact ⟨_, h, rfl⟩
  · exact h.elim
theorem pif_mk {b : Bool} {A B : Prop} (h : b = true) (k : A) : pif b A B := by rw [h]; exact k
theorem atK_one (cs : List Value) (i : Nat) : One (atK cs i) (atK cs i) := by
  intro K h
  unfold atK at h ⊢
  split at h
  · exact ⟨_, h, rfl⟩
  · exact h.elim
theorem atK_mono {cs : List Value} {i : Nat} {K K' : Value → Prop} (h : atK cs i K) (hk : ∀ x, K x → K' x) : atK cs i K' := by
  unfold atK at h ⊢
  split at h
  · exact hk _ h
  · exact h.elim
theorem partK_one (t : TypeId) (cs : List Value) (off : Nat) : One (partK T t cs off) (partK T t cs off) := by
  intro K h
  unfold partK at h ⊢
  split at h
  · rename_i i hi
    rcases pif_true h with ⟨hb, h⟩ | ⟨_, h⟩
    · split at h
      · rename_i hz
        rcases pif_true h with ⟨hb2, h⟩ | ⟨_, h⟩
        · exact ⟨_, h, pif_mk hb (pif_mk hb2 rfl)⟩
        · exact h.elim
      · rename_i hz
        obtain ⟨x, h1, h2⟩ := atK_one _ _ K h
        exact ⟨x, h1, pif_mk hb h2⟩
    · exact h.elim
  · exact h.elim
theorem partK_mono {t : TypeId} {cs : List Value} {off : Nat} {K K' : Value → Prop} (h : partK T t cs off K) (hk : ∀ x, K x → K' x) : partK T t cs off K' := by
  unfold partK at h ⊢
  split at h
  · rcases pif_true h with ⟨hb, h⟩ | ⟨_, h⟩
    · refine pif_mk hb ?_
      split at h
      · rcases pif_true h with ⟨hb2, h⟩ | ⟨_, h⟩
        · exact pif_mk hb2 (hk _ h)
        · exact h.elim
      · exact atK_mono h hk
    · exact h.elim
  · exact h.elim
theorem cellsOf_one (z v : Value) : One (cellsOf z v) (cellsOf z v) := by
  intro K h
  unfold cellsOf at h ⊢
  split at h
  · exact asAgg_one v K h
  · rcases pif_true h with ⟨hb, h⟩ | ⟨_, h⟩
    · exact ⟨_, h, pif_mk hb rfl⟩
    · exact h.elim
theorem cellsOf_mono {z v : Value} {K K' : List Value → Prop} (h : cellsOf z v K) (hk : ∀ x, K x → K' x) : cellsOf z v K' := by
  unfold cellsOf at h ⊢
  split at h
  · exact asAgg_mono h hk
  · rcases pif_true h with ⟨h1, h⟩ | ⟨_, h⟩
    · rw [h1]; exact hk _ h
    · exact h.elim
theorem fillK_one (place : Nat → Option (Nat × TypeId)) : ∀ (parts : List (Nat × Value)) (cs : List Value), One (fillK T place parts cs) (fillK T place parts cs)
  | [], cs => fun K h => ⟨_, h, rfl⟩
  | (i, v) :: rest, cs => fun K h => by
    unfold fillK at h ⊢
    split at h
    · rename_i off t hp
      split at h
      · rename_i ti ht
        rcases pif_true h with ⟨hb, h⟩ | ⟨_, h⟩
        · obtain ⟨x, h1, h2⟩ := One.bind (f := fun vs K => pif (decide (vs.length = ti.size ∧ off + vs.length ≤ cs.length)) (fillK T place rest (cs.take off ++ vs ++ cs.drop (off + vs.length)) K) False) (g := fun vs K => pif (decide (vs.length = ti.size ∧ off + vs.length ≤ cs.length)) (fillK T place rest (cs.take off ++ vs ++ cs.drop (off + vs.length)) K) False)
            (cellsOf_one ti.zero v) (fun _ _ h hk => cellsOf_mono h hk) (fun vs => One.pif _ (fillK_one place rest _)) K h
          exact ⟨x, h1, pif_mk hb h2⟩
        · exact h.elim
      · exact h.elim
    · exact h.elim
theorem idxK_one (v : Value) (i : Int) (sz : Nat) : One (fun (K : Value → Prop) => idxK v i sz fun b o => K (.pointer (some ⟨b, o, none⟩))) (fun (K : Value → Prop) => idxK v i sz fun b o => K (.pointer (some ⟨b, o, none⟩))) := fun K h => by
  obtain ⟨b, o, n, c, rfl, h0, h1, h'⟩ := idxK_elim (K := fun b o => K (.pointer (some ⟨b, o, none⟩))) h
  exact ⟨_, h', h0, h1, rfl⟩
theorem loHi_one (lo hi : Option Value) (n : Nat) (p : Int → Int → Prop) (f : Int → Int → Value) : One (fun (K : Value → Prop) => loOf lo fun l => hiOf hi n fun h => p l h ∧ K (f l h)) (fun (K : Value → Prop) => loOf lo fun l => hiOf hi n fun h => p l h ∧ K (f l h)) := fun K h => by
  rcases loOf_elim h with ⟨e1, h2⟩ | ⟨k, l, e1, h2⟩ <;> rcases hiOf_elim h2 with ⟨e2, h3⟩ | ⟨k', hh, e2, h3⟩ <;> subst e1 <;> subst e2 <;> exact ⟨_, h3.2, h3.1, rfl⟩
theorem rowHas_le (hle : H.le H') {b : Nat} {e : TypeId} {n : Nat} (h : rowHas H b e n) : rowHas H' b e n := by
  obtain ⟨cs, own, h1, h2⟩ := h
  exact ⟨cs, own, hle.2 _ _ h1, h2⟩
theorem sliceK_one (hle : H.le H') (e : TypeId) (v : Value) (lo hi : Option Value) (sz : Nat) : One (sliceK H e v lo hi sz) (sliceK H' e v lo hi sz) := by
  intro K h
  unfold sliceK at h ⊢
  split at h
  · rename_i b o n c
    obtain ⟨h1, h2⟩ := h
    have h2' : loOf lo fun l => hiOf hi n fun h => (0 ≤ l ∧ l ≤ h ∧ h ≤ (n : Int)) ∧ K (.slice (some ⟨b, o + l.toNat * sz, none⟩) (h.toNat - l.toNat) (h.toNat - l.toNat + 1)) := by
      rcases loOf_elim h2 with ⟨e1, h2⟩ | ⟨k, l, e1, h2⟩ <;> rcases hiOf_elim h2 with ⟨e2, h3⟩ | ⟨k', hh, e2, h3⟩ <;> subst e1 <;> subst e2 <;> obtain ⟨g1, g2, g3, g4⟩ := h3 <;> exact ⟨⟨g1, g2, g3⟩, g4⟩
    obtain ⟨x, h3, h4⟩ := loHi_one lo hi n (fun l h => 0 ≤ l ∧ l ≤ h ∧ h ≤ (n : Int)) (fun l h => .slice (some ⟨b, o + l.toNat * sz, none⟩) (h.toNat - l.toNat) (h.toNat - l.toNat + 1)) K h2'
    refine ⟨x, h3, rowHas_le hle h1, ?_⟩
    rcases loOf_elim h4 with ⟨e1, h2⟩ | ⟨k, l, e1, h2⟩ <;> rcases hiOf_elim h2 with ⟨e2, h3⟩ | ⟨k', hh, e2, h3⟩ <;> subst e1 <;> subst e2 <;> obtain ⟨⟨g1, g2, g3⟩, g4⟩ := h3 <;> exact ⟨g1, g2, g3, g4⟩
  · rename_i n c
    have h2' : loOf lo fun l => hiOf hi n fun h => (l = 0 ∧ h = 0 ∧ n = 0 ∧ c = 0) ∧ K (.slice none 0 0) := by
      rcases loOf_elim h with ⟨e1, h2⟩ | ⟨k, l, e1, h2⟩ <;> rcases hiOf_elim h2 with ⟨e2, h3⟩ | ⟨k', hh, e2, h3⟩ <;> subst e1 <;> subst e2 <;> obtain ⟨g1, g2, g3, g5, g4⟩ := h3 <;> exact ⟨⟨g1, g2, g3, g5⟩, g4⟩
    obtain ⟨x, h3, h4⟩ := loHi_one lo hi n (fun l h => l = 0 ∧ h = 0 ∧ n = 0 ∧ c = 0) (fun l h => .slice none 0 0) K h2'
    refine ⟨x, h3, ?_⟩
    rcases loOf_elim h4 with ⟨e1, h2⟩ | ⟨k, l, e1, h2⟩ <;> rcases hiOf_elim h2 with ⟨e2, h3⟩ | ⟨k', hh, e2, h3⟩ <;> subst e1 <;> subst e2 <;> obtain ⟨⟨g1, g2, g3, g5⟩, g4⟩ := h3 <;> exact ⟨g1, g2, g3, g5, g4⟩
  · exact h.elim

theorem fillK_mono (place : Nat → Option (Nat × TypeId)) : ∀ {parts : List (Nat × Value)} {cs : List Value} {K K' : List Value → Prop}, fillK T place parts cs K → (∀ x, K x → K' x) → fillK T place parts cs K'
  | [], cs, K, K', h, hk => hk _ h
  | (i, v) :: rest, cs, K, K', h, hk => by
    unfold fillK at h ⊢
    split at h
    · split at h
      · rcases pif_true h with ⟨hb, h⟩ | ⟨_, h⟩
        · refine pif_mk hb (cellsOf_mono h fun vs h => ?_)
          rcases pif_true h with ⟨hb, h⟩ | ⟨_, h⟩
          · exact pif_mk hb (fillK_mono place h hk)
          · exact h.elim
        · exact h.elim
      · exact h.elim
    · exact h.elim

theorem aRd_one (hle : H.le H') (op : Op) : One (aRd T op ev H) (aRd T op ev H') := by
  intro K h
  cases op
  case move x => exact ⟨_, h, rfl⟩
  case assign x => exact ⟨_, h, rfl⟩
  case pick c x y =>
    obtain ⟨b, hb, h⟩ := asB_elim h
    simp only [aRd, hb]
    rcases pif_true h with ⟨rfl, h⟩ | ⟨rfl, h⟩
    · exact ⟨_, h, rfl⟩
    · exact ⟨_, h, rfl⟩
  case load t p =>
    obtain ⟨b, o, hb, h⟩ := asP_elim h
    simp only [aRd, hb]
    exact ldT_one hle t b o K h
  case nilCheck x =>
    simp only [aRd, nilK] at h ⊢
    split at h
    · exact ⟨_, h, rfl⟩
    · exact ⟨_, h, rfl⟩
    · exact h.elim
  case binOp op t x y u =>
    cases y with
    | const v =>
      simp only [aRd] at h ⊢
      exact One.pif2 _ (nilCmp_one _ _ _) (binK_one _ _ _ _) K h
    | tmp t => exact binK_one _ _ _ _ K h
    | global g => exact binK_one _ _ _ _ K h
    | func f => exact binK_one _ _ _ _ K h
  case unOp op t x => exact unK_one _ _ K h
  case convert s d x =>
    rcases pif_true h with ⟨hs, h⟩ | ⟨_, h⟩
    · obtain ⟨v, h1, h2⟩ := convK_one _ _ K h
      exact ⟨v, h1, pif_mk hs h2⟩
    · exact h.elim
  case makeFunc fn xs ys =>
    cases fn <;> first | exact h.elim | exact ⟨_, h, rfl⟩
  case fieldAddr s x f =>
    simp only [aRd] at h ⊢
    split at h
    · split at h
      · split at h
        · rcases pif_true h with ⟨hz, h⟩ | ⟨_, h⟩
          · obtain ⟨b, o, hb, h⟩ := asP_elim h
            rw [hb]
            exact ⟨_, h, pif_mk hz rfl⟩
          · exact h.elim
        · exact h.elim
      · exact h.elim
    · exact h.elim
  case field t x f =>
    simp only [aRd] at h ⊢
    split at h
    · split at h
      · obtain ⟨l, hl, h⟩ := asAgg_elim h
        rw [hl]
        exact partK_one _ _ _ K h
      · exact h.elim
    · exact h.elim
  case indexAddr t x i =>
    simp only [aRd] at h ⊢
    split at h
    · split at h
      · exact idxK_one _ _ _ K h
      · exact h.elim
    · split at h
      · obtain ⟨b, o, hb, h⟩ := asP_elim h
        obtain ⟨h0, h1, h⟩ := bndK_iff.1 h
        rw [hb]
        exact ⟨_, h, bndK_iff.2 ⟨h0, h1, rfl⟩⟩
      · exact h.elim
    · exact h.elim
  case index t x i =>
    simp only [aRd] at h ⊢
    split at h
    · split at h
      · obtain ⟨l, hl, h⟩ := asAgg_elim h
        obtain ⟨h0, h1, h⟩ := bndK_iff.1 h
        rw [hl]
        obtain ⟨v, h2, h3⟩ := partK_one _ _ _ _ h
        obtain ⟨u, h4, h5⟩ := shape1_one _ _ _ h2
        refine ⟨u, h4, bndK_iff.2 ⟨h0, h1, ?_⟩⟩
        obtain ⟨v', h6, h7⟩ := partK_one (T := T) _ _ _ _ h3
        subst h6
        exact partK_mono h7 (fun x hx => by subst hx; exact h5)
      · exact h.elim
    · split at h
      · obtain ⟨h0, h1, h⟩ := bndK_iff.1 h
        exact ⟨_, h, bndK_iff.2 ⟨h0, h1, rfl⟩⟩
      · exact h.elim
    · exact h.elim
  case build t parts =>
    simp only [aRd] at h ⊢
    split at h
    · rcases pif_true h with ⟨hf, h⟩ | ⟨_, h⟩
      · obtain ⟨zs, hz, h⟩ := asAgg_elim h
        rw [hz]
        rcases pif_true h with ⟨hzs, h⟩ | ⟨_, h⟩
        · obtain ⟨l, h1, h2⟩ := fillK_one _ _ _ _ h
          exact ⟨_, h1, pif_mk hf (pif_mk hzs (fillK_mono _ h2 fun x hx => by rw [hx]))⟩
        · exact h.elim
      · exact h.elim
    · exact h.elim
  case slice t x lo hi mx =>
    cases mx with
    | some m =>
      cases lo with
      | some l => cases hi <;> exact h.elim
      | none =>
      cases hi with
      | none => exact h.elim
      | some u =>
      simp only [aRd] at h ⊢
      split at h
      · split at h
        · unfold clipK at h ⊢
          split at h
          · exact ⟨_, h, rfl⟩
          · exact ⟨_, h, rfl⟩
          · exact h.elim
        · exact h.elim
      · exact h.elim
    | none =>
      simp only [aRd] at h ⊢
      split at h
      · split at h
        · rcases pif_true h with ⟨hz, h⟩ | ⟨_, h⟩
          · obtain ⟨v, h1, h2⟩ := sliceK_one hle _ _ _ _ _ K h
            exact ⟨v, h1, pif_mk hz h2⟩
          · exact h.elim
        · exact h.elim
      · split at h
        · rename_i s _
          have h2' : loOf (lo.map ev) fun l => hiOf (hi.map ev) s.size fun h => (0 ≤ l ∧ l ≤ h ∧ h ≤ (s.size : Int)) ∧ K (.string (s.extract l.toNat h.toNat)) := by
            rcases loOf_elim h with ⟨e1, h2⟩ | ⟨k, l, e1, h2⟩ <;> rcases hiOf_elim h2 with ⟨e2, h3⟩ | ⟨k', hh, e2, h3⟩ <;> rw [e1, e2] <;> obtain ⟨g1, g2, g3, g4⟩ := h3 <;> exact ⟨⟨g1, g2, g3⟩, g4⟩
          obtain ⟨v, h3, h4⟩ := loHi_one (lo.map ev) (hi.map ev) s.size (fun l h => 0 ≤ l ∧ l ≤ h ∧ h ≤ (s.size : Int)) (fun l h => .string (s.extract l.toNat h.toNat)) K h2'
          refine ⟨v, h3, ?_⟩
          rcases loOf_elim h4 with ⟨e1, h2⟩ | ⟨k, l, e1, h2⟩ <;> rcases hiOf_elim h2 with ⟨e2, h3⟩ | ⟨k', hh, e2, h3⟩ <;> rw [e1, e2] <;> obtain ⟨⟨g1, g2, g3⟩, g4⟩ := h3 <;> exact ⟨g1, g2, g3, g4⟩
        · exact h.elim
      · split at h
        · obtain ⟨b, o, hb, h⟩ := asP_elim h
          rw [hb]
          exact ⟨_, h, rfl⟩
        · exact h.elim
      · exact h.elim
  case extract x ix =>
    obtain ⟨l, hl, h⟩ := asTup_elim h
    simp only [aRd, hl]
    split at h
    · rename_i e
      exact ⟨_, h, by simp [asTup, e]⟩
    · exact h.elim
  all_goals exact h.elim

theorem aOp_one {o : Oper} (he : isEff o = false) (hle : H.le H') {K : Value → AHeap → Prop} (h : aOp P T o ev H K) : ∃ v, K v H ∧ aOp P T o ev H' (fun u G => u = v ∧ G = H') := by
  have rd : aRd T o.op ev H (fun v => K v H) → ∃ v, K v H ∧ aRd T o.op ev H' (fun u => u = v ∧ H' = H') := fun h => by
    obtain ⟨v, h1, h2⟩ := aRd_one hle o.op _ h
    exact ⟨v, h1, by simpa using h2⟩
  obtain ⟨dst, op, type, pos, after, guard⟩ := o
  cases op
  case call c =>
    simp only [isEff] at he
    simp only [aOp] at h ⊢
    split at h
    · rename_i hc; simp [hc] at he
    · rename_i hc
      split at h
      · split at h
        · obtain ⟨a, n, cp, hv, h⟩ := lenK_elim h
          refine ⟨_, h, ?_⟩
          simp [hv, lenK]
        · obtain ⟨s, hv, h⟩ := asS_elim h
          refine ⟨_, h, ?_⟩
          simp [hv, asS]
        · exact ⟨_, h, by simp⟩
        · exact h.elim
      · exact h.elim
    · rename_i hc
      unfold bltK at h ⊢
      split at h
      · obtain ⟨a, n, cp, hv, h⟩ := lenK_elim h
        refine ⟨_, h, ?_⟩
        simp [hv, lenK]
      · rcases pif_true h with ⟨hb, h⟩ | ⟨_, h⟩
        · exact ⟨_, h, pif_mk hb (by simp)⟩
        · exact h.elim
      · rcases pif_true h with ⟨hb, h⟩ | ⟨_, h⟩
        · exact ⟨_, h, pif_mk hb (by simp)⟩
        · exact h.elim
      · exact h.elim
    · rename_i hc; simp [hc] at he
    · exact h.elim
  all_goals first | (simp [isEff] at he; done) | exact rd h
end
end Go.Abs
