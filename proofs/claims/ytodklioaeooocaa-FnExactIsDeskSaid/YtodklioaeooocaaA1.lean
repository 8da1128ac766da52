/- The abstract heap, its relation to the model's world, and the relation of values: definitions and first laws. -/
import Derived.Orders
import Derived.Below
set_option linter.unusedVariables false
set_option linter.unusedSimpArgs false
namespace Go.Abs
open Go.RowKit

/-- What an abstract block holds. -/
inductive AObj where
  | row (cells : List Value) (elem : TypeId) (own : Bool)
  | map (es : Array MapEntry) (clock : Nat)

abbrev AHeap := List (Option AObj)

/-- Where an abstract block lies: the block, the shift, the block's size, the element's size. -/
structure Blk where
  blk : Nat
  sh : Nat
  N : Nat
  sz : Nat

abbrev Loc := Nat → Option Blk

def scalar : Value → Bool
  | .bool _ | .int _ _ | .float _ _ | .complex _ _ _ | .string _ | .pointer none | .slice none _ _ | .map none | .nilFunc | .nilIface | .chan none => true
  | _ => false

/-- A slice's place: abstract and concrete. -/
def SR (ρ : Loc) (a : Addr) (len cap : Nat) (c : Addr) (cap' : Nat) : Prop :=
  len ≤ cap' ∧ (cap = 0 → cap' = 0) ∧ ((len = 0 ∧ cap' = 0) ∨
    ∃ r, ρ a.block = some r ∧ a.spot = none ∧ c = ⟨r.blk, r.sh + a.off, none⟩ ∧ (cap' = len ∨ r.sh + a.off + cap' * r.sz ≤ r.N))

mutual
inductive VR (ρ : Loc) : Value → Value → Prop
  | scalar (v : Value) (h : scalar v = true) : VR ρ v v
  | ptr (a c : Addr) (r : Blk) (h : ρ a.block = some r) (ha : a.spot = none) (hc : c = ⟨r.blk, r.sh + a.off, none⟩) : VR ρ (.pointer (some a)) (.pointer (some c))
  | slice (a c : Addr) (len cap cap' : Nat) (h : SR ρ a len cap c cap') : VR ρ (.slice (some a) len cap) (.slice (some c) len cap')
  | map (b : Nat) (r : Blk) (h : ρ b = some r) : VR ρ (.map (some b)) (.map (some r.blk))
  | func (f : FuncId) (xs xs' ys ys' : List Value) (h1 : VRs ρ xs xs') (h2 : VRs ρ ys ys') : VR ρ (.func (.func f) ⟨xs⟩ ⟨ys⟩) (.func (.func f) ⟨xs'⟩ ⟨ys'⟩)
  | agg (xs xs' : List Value) (h : VRs ρ xs xs') : VR ρ (.agg ⟨xs⟩) (.agg ⟨xs'⟩)
  | tuple (xs xs' : List Value) (h : VRs ρ xs xs') : VR ρ (.tuple ⟨xs⟩) (.tuple ⟨xs'⟩)
inductive VRs (ρ : Loc) : List Value → List Value → Prop
  | nil : VRs ρ [] []
  | cons (x x' : Value) (xs xs' : List Value) (h : VR ρ x x') (t : VRs ρ xs xs') : VRs ρ (x :: xs) (x' :: xs')
end

def Loc.le (ρ ρ' : Loc) : Prop := ∀ b r, ρ b = some r → ρ' b = some r
theorem Loc.le_refl (ρ : Loc) : ρ.le ρ := fun _ _ h => h
theorem Loc.le_trans {ρ ρ' ρ'' : Loc} (h : ρ.le ρ') (k : ρ'.le ρ'') : ρ.le ρ'' := fun b r e => k b r (h b r e)

theorem SR.mono {ρ ρ' : Loc} (h : ρ.le ρ') {a c : Addr} {len cap cap' : Nat} (s : SR ρ a len cap c cap') : SR ρ' a len cap c cap' := by
  obtain ⟨h1, h0, h2⟩ := s
  refine ⟨h1, h0, ?_⟩
  rcases h2 with h2 | ⟨r, e, rest⟩
  · exact .inl h2
  · exact .inr ⟨r, h _ _ e, rest⟩

mutual
theorem VR.mono {ρ ρ' : Loc} (h : ρ.le ρ') : ∀ {v v' : Value}, VR ρ v v' → VR ρ' v v'
  | _, _, .scalar v s => .scalar v s
  | _, _, .ptr a c r e ha hc => .ptr a c r (h _ _ e) ha hc
  | _, _, .slice a c len cap cap' s => .slice a c len cap cap' (s.mono h)
  | _, _, .map b r e => .map b r (h _ _ e)
  | _, _, .func f xs xs' ys ys' h1 h2 => .func f xs xs' ys ys' (VRs.mono h h1) (VRs.mono h h2)
  | _, _, .agg xs xs' h1 => .agg xs xs' (VRs.mono h h1)
  | _, _, .tuple xs xs' h1 => .tuple xs xs' (VRs.mono h h1)
theorem VRs.mono {ρ ρ' : Loc} (h : ρ.le ρ') : ∀ {v v' : List Value}, VRs ρ v v' → VRs ρ' v v'
  | _, _, .nil => .nil
  | _, _, .cons x x' xs xs' h1 t => .cons x x' xs xs' (VR.mono h h1) (VRs.mono h t)
end

theorem VRs.length {ρ : Loc} : ∀ {xs ys : List Value}, VRs ρ xs ys → xs.length = ys.length
  | _, _, .nil => rfl
  | _, _, .cons _ _ _ _ _ t => by simp [VRs.length t]

theorem VRs.get {ρ : Loc} : ∀ {xs ys : List Value}, VRs ρ xs ys → ∀ (i : Nat) (v : Value), xs[i]? = some v → ∃ v', ys[i]? = some v' ∧ VR ρ v v'
  | _, _, .nil, i, v, h => by simp at h
  | _, _, .cons x x' xs xs' h1 t, 0, v, h => by simp at h; subst h; exact ⟨x', by simp, h1⟩
  | _, _, .cons x x' xs xs' h1 t, i + 1, v, h => by
    simp at h
    obtain ⟨v', e, r⟩ := VRs.get t i v h
    exact ⟨v', by simpa using e, r⟩

theorem VRs.of_get {ρ : Loc} : ∀ {xs ys : List Value}, xs.length = ys.length → (∀ (i : Nat) (v : Value), xs[i]? = some v → ∃ v', ys[i]? = some v' ∧ VR ρ v v') → VRs ρ xs ys
  | [], [], _, _ => .nil
  | [], _ :: _, h, _ => by simp at h
  | _ :: _, [], h, _ => by simp at h
  | x :: xs, y :: ys, h, g => by
    obtain ⟨v', e, r⟩ := g 0 x (by simp)
    simp at e; subst e
    refine .cons _ _ _ _ r (VRs.of_get (by simpa using h) fun i v hv => ?_)
    obtain ⟨v', e, r⟩ := g (i + 1) v (by simpa using hv)
    exact ⟨v', by simpa using e, r⟩

theorem VRs.append {ρ : Loc} : ∀ {xs ys us vs : List Value}, VRs ρ xs ys → VRs ρ us vs → VRs ρ (xs ++ us) (ys ++ vs)
  | _, _, _, _, .nil, h => h
  | _, _, _, _, .cons x x' xs xs' h1 t, h => .cons _ _ _ _ h1 (VRs.append t h)

theorem VRs.set {ρ : Loc} : ∀ {xs ys : List Value}, VRs ρ xs ys → ∀ (i : Nat) {v v' : Value}, VR ρ v v' → VRs ρ (xs.set i v) (ys.set i v')
  | _, _, .nil, _, _, _, _ => .nil
  | _, _, .cons x x' xs xs' h1 t, 0, _, _, h => .cons _ _ _ _ h t
  | _, _, .cons x x' xs xs' h1 t, i + 1, _, _, h => .cons _ _ _ _ h1 (VRs.set t i h)

theorem VRs.drop {ρ : Loc} : ∀ {xs ys : List Value}, VRs ρ xs ys → ∀ (i : Nat), VRs ρ (xs.drop i) (ys.drop i)
  | _, _, .nil, i => by simp; exact .nil
  | _, _, .cons x x' xs xs' h1 t, 0 => by simpa using VRs.cons _ _ _ _ h1 t
  | _, _, .cons x x' xs xs' h1 t, i + 1 => by simpa using VRs.drop t i

theorem VRs.take {ρ : Loc} : ∀ {xs ys : List Value}, VRs ρ xs ys → ∀ (i : Nat), VRs ρ (xs.take i) (ys.take i)
  | _, _, .nil, i => by simp; exact .nil
  | _, _, .cons x x' xs xs' h1 t, 0 => by simp; exact .nil
  | _, _, .cons x x' xs xs' h1 t, i + 1 => by simpa using .cons _ _ _ _ h1 (VRs.take t i)

theorem VRs.getD {ρ : Loc} {xs ys : List Value} (h : VRs ρ xs ys) (i : Nat) {d d' : Value} (hd : VR ρ d d') : VR ρ (xs.getD i d) (ys.getD i d') := by
  by_cases hi : i < xs.length
  · obtain ⟨v', e, r⟩ := h.get i xs[i] (by simp [hi])
    simp [List.getD, hi, e]; exact r
  · have hl := h.length
    simp only [List.getD, List.getElem?_eq_none (show xs.length ≤ i by omega), List.getElem?_eq_none (show ys.length ≤ i by omega), Option.getD_none]
    exact hd

theorem VRs.replicate {ρ : Loc} {v v' : Value} (h : VR ρ v v') : ∀ n, VRs ρ (List.replicate n v) (List.replicate n v')
  | 0 => .nil
  | n + 1 => by simpa [List.replicate_succ] using VRs.cons _ _ _ _ h (VRs.replicate h n)

theorem VR.undef (ρ : Loc) : VR ρ undef undef := .tuple [] [] .nil

theorem VR.one {ρ : Loc} {v v' : Value} (h : VR ρ v v') : v'.oneCell' = v.oneCell' := by cases h <;> rfl

theorem VR.cells {ρ : Loc} {v v' : Value} (h : VR ρ v v') : VRs ρ v.cells.toList v'.cells.toList := by
  cases h with
  | agg xs xs' h => exact h
  | scalar v h => cases v <;> first | (simp [Abs.scalar] at h; done) | exact .cons _ _ _ _ (.scalar _ h) .nil
  | ptr a c r h ha hc => exact .cons _ _ _ _ (.ptr a c r h ha hc) .nil
  | slice a c l cap cap' h => exact .cons _ _ _ _ (.slice a c l cap cap' h) .nil
  | map b r h => exact .cons _ _ _ _ (.map b r h) .nil
  | func f xs xs' ys ys' h1 h2 => exact .cons _ _ _ _ (.func f xs xs' ys ys' h1 h2) .nil
  | tuple xs xs' h => exact .cons _ _ _ _ (.tuple xs xs' h) .nil

/-- A cell of the abstract heap. -/
def AHeap.cell (H : AHeap) (b o : Nat) : Option Value :=
  match H[b]? with
  | some (some (.row cs _ _)) => cs[o]?
  | _ => none

/-- What is told of a type. -/
structure TI where
  desc : TypeDesc
  size : Nat
  bytes : Nat
  zero : Value
abbrev TT := TypeId → Option TI

structure Rel (T : TT) (G : Nat) (w0 : World) (ρ : Loc) (H : AHeap) (w : World) : Prop where
  below : Below w0.heap.size w0 w
  dom : ∀ b r, ρ b = some r → b < H.length ∧ r.blk < w.heap.size
  glob : ∀ g, g < G → ∃ N s, ρ g = some ⟨g, 0, N, s⟩
  row : ∀ b cs e own, H[b]? = some (some (.row cs e own)) → ∃ r C e' fr, ρ b = some r ∧ w.heap[r.blk]? = some (.cells C e' fr) ∧ C.size = r.N ∧
    (∀ (i : Nat) v, cs[i]? = some v → v.oneCell' = true ∧ ∃ v', C[r.sh + i]? = some v' ∧ VR ρ v v') ∧ (own = true → e' = e ∧ fr = (0, 0) ∧ w0.heap.size ≤ r.blk) ∧ ∃ ti, T e = some ti ∧ r.sz = ti.size
  inj : ∀ b b' o o' r r', H[b]? = some (some o) → H[b']? = some (some o') → (∀ cs e, o ≠ .row cs e false) → ρ b = some r → ρ b' = some r' → r.blk = r'.blk → b = b'
  map : ∀ b es cl, H[b]? = some (some (.map es cl)) → ∃ r, ρ b = some r ∧ w.heap[r.blk]? = some (.map es cl) ∧ w0.heap.size ≤ r.blk

/-- All that lives in H lives in H' unchanged. -/
def AHeap.le (H H' : AHeap) : Prop := H.length ≤ H'.length ∧ ∀ (b : Nat) (o : AObj), H[b]? = some (some o) → H'[b]? = some (some o)
theorem AHeap.le_refl (H : AHeap) : H.le H := ⟨Nat.le_refl _, fun _ _ h => h⟩
theorem AHeap.le_trans {H H' H'' : AHeap} (h : H.le H') (k : H'.le H'') : H.le H'' := ⟨Nat.le_trans h.1 k.1, fun b o e => k.2 b o (h.2 b o e)⟩
theorem AHeap.le_append (H G : AHeap) : H.le (H ++ G) := ⟨by simp, fun b o e => by
  have hb : b < H.length := by rcases Nat.lt_or_ge b H.length with h | h; exact h; simp [List.getElem?_eq_none h] at e
  rw [List.getElem?_append_left hb]; exact e⟩
theorem AHeap.cell_le {H H' : AHeap} (h : H.le H') {b o : Nat} {v : Value} (e : H.cell b o = some v) : H'.cell b o = some v := by
  unfold AHeap.cell at *
  split at e
  · rename_i cs t own hb
    rw [h.2 _ _ hb]; exact e
  · simp at e

theorem Rel.cell {T : TT} {G : Nat} {w0 : World} {ρ : Loc} {H : AHeap} {w : World} (R : Rel T G w0 ρ H w) {b o : Nat} {v : Value} (h : H.cell b o = some v) :
    v.oneCell' = true ∧ ∃ r v', ρ b = some r ∧ w.cell? ⟨r.blk, r.sh + o, none⟩ = some v' ∧ VR ρ v v' := by
  unfold AHeap.cell at h
  split at h
  · rename_i cs e own hb
    obtain ⟨r, C, e', fr, hr, hw, hN, hc, _⟩ := R.row b cs e own hb
    obtain ⟨h1, v', hv, hvr⟩ := hc o v h
    refine ⟨h1, r, v', hr, ?_, hvr⟩
    simp [World.cell?, hw, hv]
  · simp at h
end Go.Abs
