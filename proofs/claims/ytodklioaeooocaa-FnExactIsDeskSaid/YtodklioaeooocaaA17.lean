/- Types off the program; ways into a function's code; environments. -/
import Derived.Test.YtodklioaeooocaaA16
import Derived.KernelRfl
set_option linter.unusedVariables false
set_option linter.unusedSimpArgs false
namespace Go.Abs
open Go.RowKit

def tyOf (P : Program) : TT := fun t =>
  match P.info? t with
  | some i => match P.underlying t, i.zero with
    | some d, some z => some ⟨d, i.size, i.bytes, z⟩
    | _, _ => none
  | none => none
theorem tyOf_ok (P : Program) : TT.ok P (tyOf P) := by
  intro t i h
  unfold tyOf at h
  split at h
  · rename_i j hj
    split at h
    · rename_i d z hd hz
      obtain rfl := Option.some.inj h
      exact ⟨hd, j, hj, rfl, rfl, hz⟩
    · cases h
  · cases h

inductive Dir where
  | l | r
/-- The code at the end of a way: the first or second part of a sequence or a condition; what lies in a block, a loop. -/
def codeAt : Code → List Dir → Code
  | c, [] => c
  | .seq x _, .l :: p => codeAt x p
  | .seq _ y, .r :: p => codeAt y p
  | .cond _ x _, .l :: p => codeAt x p
  | .cond _ _ y, .r :: p => codeAt y p
  | .block _ c, .l :: p => codeAt c p
  | .loop c, .l :: p => codeAt c p
  | c, _ => c
def bodyOf (f : Func) : Code := f.body.getD .skip
def opsIn : Code → List Oper
  | .region _ ops _ => ops.toList
  | _ => []

def mkEnv (u : Nat → Value) : Nat → Nat → Env
  | 0, _ => []
  | n + 1, i => u i :: mkEnv u n (i + 1)
theorem mkEnv_length (u : Nat → Value) : ∀ n i, (mkEnv u n i).length = n
  | 0, _ => rfl
  | n + 1, i => by simp [mkEnv, mkEnv_length u n]
theorem mkEnv_get (u : Nat → Value) : ∀ n i k, k < n → (mkEnv u n i)[k]? = some (u (i + k))
  | 0, _, _, h => by omega
  | n + 1, i, 0, _ => by simp [mkEnv]
  | n + 1, i, k + 1, h => by
    simp only [mkEnv, List.getElem?_cons_succ]
    rw [mkEnv_get u n (i + 1) k (by omega)]; congr 2; omega
theorem env_eq {env : Env} {n : Nat} (h : env.length = n) : env = mkEnv (fun t => env.getD t undef) n 0 := by
  apply List.ext_getElem?
  intro k
  by_cases hk : k < n
  · rw [mkEnv_get _ _ _ _ hk]
    simp [List.getD, h, hk, List.getElem?_eq_getElem (show k < env.length by omega)]
  · rw [List.getElem?_eq_none (by omega), List.getElem?_eq_none (by rw [mkEnv_length]; omega)]
def upd (u : Nat → Value) (t : Nat) (v : Value) : Nat → Value := fun x => if x = t then v else u x
theorem upd_eq {u : Nat → Value} {t : Nat} {v : Value} (h : u t = v) : upd u t v = u := by
  funext x
  unfold upd
  split
  · rename_i e; rw [e, h]
  · rfl
end Go.Abs
