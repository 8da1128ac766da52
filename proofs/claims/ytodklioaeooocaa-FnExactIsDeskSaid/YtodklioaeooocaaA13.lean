/- A region whose order is drawn: one walk, in an order in which what only reads comes as early as it may. -/
import Derived.Test.YtodklioaeooocaaA12
set_option linter.unusedVariables false
set_option linter.unusedSimpArgs false
namespace Go.Abs
open Go.RowKit

def leK (need : Bool) (H H' : AHeap) (X : Prop) : Prop := pif need (H.le H' ∧ X) X
def aOpsD (P : Program) (T : TT) (all : List Oper) : List (Oper × Bool) → Env → AHeap → (Env → AHeap → Prop) → Prop
  | [], env, H, K => K env H
  | (o, need) :: rest, env, H, K => pif (o.op.operands.toList.all (operandOK P.globals.size)) (guardK all o env fun env b =>
      pif b (aOp P T o (aev env) H fun v H' => leK need H H' (aOpsD P T all rest (Env.put env o.dst v) H' K)) (aOpsD P T all rest (Env.put env o.dst undef) H K)) False

def predsOf (o : Oper) : List Nat := (o.after.toList.filter (Region.binds .any ·)).map (·.on)
def maskStep (acc : List Nat) (o : Oper) : Nat := (predsOf o).foldl (fun s j => s ||| 2 ^ j ||| acc.getD j 0) 0
def masks : List Oper → List Nat → List Nat
  | [], acc => acc
  | o :: os, acc => masks os (acc ++ [maskStep acc o])
def bef (ms : List Nat) (i j : Nat) : Bool := (ms.getD j 0).testBit i
def autoLe (o : Oper) : Bool :=
  match o.op with
  | .alloc _ | .box _ _ | .buildSlice _ _ _ | .makeSlice _ _ _ => true
  | _ => false
def heapRd (o : Oper) : Bool :=
  match o.op with
  | .load _ _ | .slice _ _ _ _ _ => true
  | _ => false
def looks (all : List Oper) (o : Oper) : List Tmp := (o.op.operands.toList.filterMap fun | .tmp t => some t | _ => none) ++ (guardTmp all o).toList

def opAt (l : List Oper) (i : Nat) : Oper := l.getD i default
def chk (l : List Oper) (ms : List Nat) : List Nat → List (Nat × Bool) → Bool
  | _, [] => true
  | done, (x, need) :: rest =>
    (predsOf (opAt l x)).all (done.contains ·) &&
    (!isEff (opAt l x) || (rest.all fun y => (predsOf (opAt l y.1)).any fun p => !done.contains p)) &&
    (!isEff (opAt l x) || need || autoLe (opAt l x) || done.all fun y => !heapRd (opAt l y) || bef ms y x) &&
    (isEff (opAt l x) || !need) &&
    chk l ms (done ++ [x]) rest
def nodupB : List Nat → Bool
  | [] => true
  | x :: xs => !xs.contains x && nodupB xs
theorem nodupB_nodup : ∀ {s : List Nat}, nodupB s = true → s.Nodup
  | [], _ => List.nodup_nil
  | x :: xs, h => by
    simp only [nodupB, Bool.and_eq_true, Bool.not_eq_true'] at h
    refine List.nodup_cons.2 ⟨?_, nodupB_nodup h.2⟩
    intro hx
    have h3 : xs.contains x = true := by simpa using hx
    rw [h.1] at h3
    exact Bool.noConfusion h3
def drawOK (l : List Oper) (τ : List (Nat × Bool)) : Bool :=
  let n := l.length
  let ms := masks l []
  decide (τ.length = n) && (List.range n).all (fun i => (τ.map (·.1)).contains i) && τ.all (fun x => x.1 < n) &&
  ((List.range n).all fun j => (predsOf (opAt l j)).all (· < j)) &&
  ((List.range n).all fun i => match (opAt l i).dst with
    | none => true
    | some t => (List.range n).all fun j => i == j || (((opAt l j).dst != some t) && (!(looks l (opAt l j)).contains t || bef ms i j || bef ms j i))) &&
  nodupB (τ.map (·.1)) &&
  chk l ms [] τ

section
variable {P : Program} {T : TT} {w0 w : World} {ρ : Loc} {H : AHeap} {env : Env} {a : Act}

/-- What the masks say. -/
theorem foldl_mask (acc : List Nat) : ∀ (ps : List Nat) (s i : Nat), (ps.foldl (fun s j => s ||| 2 ^ j ||| acc.getD j 0) s).testBit i = true → s.testBit i = true ∨ ∃ p ∈ ps, i = p ∨ (acc.getD p 0).testBit i = true
  | [], s, i, h => .inl h
  | p :: ps, s, i, h => by
    rcases foldl_mask acc ps _ i h with h | ⟨q, hq, h⟩
    · simp only [Nat.testBit_or, Bool.or_eq_true] at h
      rcases h with (h | h) | h
      · exact .inl h
      · rw [Nat.testBit_two_pow] at h
        exact .inr ⟨p, by simp, .inl ((by simpa using h : p = i).symm)⟩
      · exact .inr ⟨p, by simp, .inr h⟩
    · exact .inr ⟨q, by simp [hq], h⟩

theorem masks_closed (D : Nat → Prop) (l0 : List Oper) (hD : ∀ j, D j → ∀ p ∈ predsOf (opAt l0 j), D p) : ∀ (os : List Oper) (acc : List Nat), (∀ k, k < os.length → opAt l0 (acc.length + k) = os.getD k default) →
    (∀ j i, D j → (acc.getD j 0).testBit i = true → D i) → ∀ j i, D j → ((masks os acc).getD j 0).testBit i = true → D i
  | [], acc, _, h, j, i, hj, hb => h j i hj hb
  | o :: os, acc, hl, h, j, i, hj, hb => by
    refine masks_closed D l0 hD os (acc ++ [maskStep acc o]) ?_ ?_ j i hj hb
    · intro k hk
      have := hl (k + 1) (by simpa using hk)
      simp at this ⊢
      rw [← this]; congr 1; omega
    · intro j i hj hb
      by_cases h1 : j < acc.length
      · refine h j i hj ?_
        simpa [List.getD, List.getElem?_append_left h1] using hb
      · by_cases h2 : j = acc.length
        · subst h2
          have ho := hl 0 (by simp)
          simp at ho
          have hb' : (maskStep acc o).testBit i = true := by simpa [List.getD] using hb
          rcases foldl_mask acc _ _ _ hb' with h0 | ⟨p, hp, rfl | hp2⟩
          · simp at h0
          · exact hD _ hj i (by rw [ho]; exact hp)
          · exact h p i (hD _ hj p (by rw [ho]; exact hp)) hp2
        · have : (acc ++ [maskStep acc o]).getD j 0 = 0 := by
            simp [List.getD, List.getElem?_eq_none (show (acc ++ [maskStep acc o]).length ≤ j by simp; omega)]
          rw [this] at hb; simp at hb

theorem bef_closed (D : Nat → Prop) (l : List Oper) (hD : ∀ j, D j → ∀ p ∈ predsOf (opAt l j), D p) {i j : Nat} (hj : D j) (hb : bef (masks l []) i j = true) : D i :=
  masks_closed D l hD l [] (by intro k hk; simp [opAt]) (by simp) j i hj hb

theorem aOp_noheap {o : Oper} (he : isEff o = false) (hh : heapRd o = false) {ev : Operand → Value} {H' : AHeap} {v : Value} (h : aOp P T o ev H (fun u G => u = v ∧ G = H)) : aOp P T o ev H' (fun u G => u = v ∧ G = H') := by
  obtain ⟨dst, op, type, pos, after, guard⟩ := o
  have e1 : ∀ (X : Prop), (X ∧ H = H) = (X ∧ H' = H') := fun X => by simp
  cases op
  case call c =>
    simp only [isEff] at he
    simp only [aOp] at h ⊢
    split at h <;> first | (rename_i hc; simp [hc] at he; done) | skip
    · split at h
      · split at h <;> first | (simp [e1] at h; done) | (simpa [e1] using h) | exact h.elim
      · exact h.elim
    · simpa using h
    · exact h.elim
  case load t p => simp [heapRd] at hh
  case makeFunc fn xs ys => cases fn <;> first | exact h.elim | (simp [aOp, aRd] at h; done) | (simpa [aOp, aRd] using h)
  case slice t x lo hi mx => simp [heapRd] at hh
  all_goals first | (simp [isEff] at he; done) | (simp [aOp, aRd] at h; done) | (simpa [aOp, aRd] using h)

theorem aOp_auto {o : Oper} (ha : autoLe o = true) {ev : Operand → Value} {K : Value → AHeap → Prop} (h : aOp P T o ev H K) : aOp P T o ev H (fun v H' => H.le H' ∧ K v H') := by
  obtain ⟨dst, op, type, pos, after, guard⟩ := o
  have new : ∀ {cs : List Value} {e : TypeId} {K : Nat → AHeap → Prop}, newK H cs e K → newK H cs e (fun b H' => H.le H' ∧ K b H') := by
    intro cs e K h
    rcases pif_true h with ⟨h1, h⟩ | ⟨_, h⟩
    · exact pif_mk h1 ⟨AHeap.le_append _ _, h⟩
    · exact h.elim
  have zero : ∀ {i : TI} {K K' : List Value → Prop}, zeroK i K → (∀ x, K x → K' x) → zeroK i K' := by
    intro i K K' h hk
    unfold zeroK at h ⊢
    split at h
    · rename_i hz
      rcases pif_true h with ⟨h1, h⟩ | ⟨_, h⟩
      · exact pif_mk h1 (hk _ h)
      · exact h.elim
    · rename_i hz
      rcases pif_true h with ⟨h1, h⟩ | ⟨_, h⟩
      · exact pif_mk h1 (hk _ h)
      · exact h.elim
  cases op <;> first | (simp [autoLe] at ha; done) | skip
  case alloc e =>
    simp only [aOp, aEf] at h ⊢
    split at h
    · exact zero h fun cs h => new h
    · exact h.elim
  case box e x =>
    simp only [aOp, aEf] at h ⊢
    split at h
    · exact cellsOf_mono h fun cs h => new h
    · exact h.elim
  case buildSlice t len parts =>
    simp only [aOp, aEf] at h ⊢
    split at h
    · split at h
      · rcases pif_true h with ⟨h1, h⟩ | ⟨_, h⟩
        · exact pif_mk h1 (zero h fun zs h => fillK_mono _ h fun cs h => new h)
        · exact h.elim
      · exact h.elim
    · exact h.elim
  case makeSlice t l c =>
    simp only [aOp, aEf] at h ⊢
    split at h
    · unfold mkK at h ⊢
      split at h
      · obtain ⟨h0, h1, h2, h3, h⟩ := h
        exact ⟨h0, h1, h2, h3, zero h fun zs h => ⟨AHeap.le_append _ _, h⟩⟩
      · exact h.elim
    · exact h.elim
end
end Go.Abs
