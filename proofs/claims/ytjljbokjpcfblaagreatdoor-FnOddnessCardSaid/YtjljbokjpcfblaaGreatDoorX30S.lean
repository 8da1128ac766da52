/- Short forms that the printed blocks use: places in a code as numbers. -/
import Derived.Test.YtjljbokjpcfblaaGreatDoorX30T
set_option linter.unusedVariables false
namespace Go.Abs
def pthN : Nat → Nat → List Dir → List Dir
  | 0, _, l => l
  | k + 1, m, l => cond (Nat.ble m 1) l (pthN k (Nat.div m 2) (cond (Nat.beq (Nat.mod m 2) 0) .l .r :: l))
abbrev pth (m : Nat) := pthN 400 m []
abbrev M (r : EP) := mkQ r (fun _ _ _ => False) r
abbrev V := Value
abbrev W := AHeap
abbrev J : Kd := .i .i64
abbrev R (i : Nat) (o : List Oper) : Code := .region i ⟨o⟩ false
abbrev Y (k : Sk) := NTy k Pr
end Go.Abs
namespace Go.Proofs
open Go.Abs
theorem b {K Rt : EP} {X : Nat → EP} {n : Nat} {ks : Sk} {N : NTy ks Pr} {o : List Oper} {id : Nat} (h : QB Tryz.prog T0 n o K ks N) : ∀ env H, En n ks N env H → AW Tryz.prog T0 (.region id ⟨o⟩ false) env H (mkQ K X Rt) := rB T0_ok h
end Go.Proofs
