/- Short forms that the printed blocks use: places in a code as numbers. -/
import Derived.Test.YtngacbdogjmpaaaGreatX35T
set_option linter.unusedVariables false
namespace Go.Abs
def pthN : Nat → Nat → List Dir → List Dir
  | 0, _, l => l
  | k + 1, m, l => cond (Nat.ble m 1) l (pthN k (Nat.div m 2) (cond (Nat.beq (Nat.mod m 2) 0) .l .r :: l))
abbrev pth (m : Nat) := pthN 400 m []
abbrev M (r : EP) := mkQ r (fun _ _ _ => False) r
abbrev V := Value
abbrev W := AHeap
abbrev J : Kd := .i .i64
abbrev I (n : Int) : Value := .int .i64 n
abbrev li := ldI .i64
abbrev Y (k : Sk) := NTy k Pr
@[reducible] def qFC : (q : List C1) → {β : Type} → (List Value → β) → CTy q β
  | [], _, F => F []
  | .i :: q, _, F => fun n => qFC q fun l => F (.int .i64 n :: l)
  | .b :: q, _, F => fun n => qFC q fun l => F (.bool n :: l)
  | .s :: q, _, F => fun n => qFC q fun l => F (.string n :: l)
  | .v :: q, _, F => fun n => qFC q fun l => F (n :: l)
@[reducible] def qF : (ks : Sk) → {α : Type} → ((Nat → Value) → α) → (Nat → Value) → NTy ks α
  | [], _, F, u => F u
  | (t, .i k) :: ks, _, F, u => fun n => qF ks F (upd u t (.int k n))
  | (t, .b) :: ks, _, F, u => fun n => qF ks F (upd u t (.bool n))
  | (t, .s) :: ks, _, F, u => fun n => qF ks F (upd u t (.string n))
  | (t, .v) :: ks, _, F, u => fun n => qF ks F (upd u t n)
  | (t, .x) :: ks, _, F, u => fun n => qF ks F (upd u t (.pointer (some ⟨n, 0, none⟩)))
  | (t, .p) :: ks, _, F, u => fun b o => qF ks F (upd u t (.pointer (some ⟨b, o, none⟩)))
  | (t, .g q) :: ks, _, F, u => qFC q fun l => qF ks F (upd u t (.agg ⟨l⟩))
theorem qFC_E : ∀ (q : List C1) {β : Type} {F : List Value → β} {N : CTy q β} {G : List Value → β → Prop}, qFC q F = N → (∀ l, G l (F l)) → qC q G N
  | [], _, F, N, G, h, k => by subst h; exact k []
  | .i :: q, _, F, N, G, h, k => fun n => qFC_E q (congrFun h n) fun l => k _
  | .b :: q, _, F, N, G, h, k => fun n => qFC_E q (congrFun h n) fun l => k _
  | .s :: q, _, F, N, G, h, k => fun n => qFC_E q (congrFun h n) fun l => k _
  | .v :: q, _, F, N, G, h, k => fun n => qFC_E q (congrFun h n) fun l => k _
theorem qF_E : ∀ (ks : Sk) {α : Type} {F : (Nat → Value) → α} {N : NTy ks α} {G : (Nat → Value) → α → Prop} (u : Nat → Value), qF ks F u = N → (∀ u, G u (F u)) → qE ks u G N
  | [], _, F, N, G, u, h, k => by subst h; exact k u
  | (t, .i _) :: ks, _, F, N, G, u, h, k => fun n => qF_E ks _ (congrFun h n) k
  | (t, .b) :: ks, _, F, N, G, u, h, k => fun n => qF_E ks _ (congrFun h n) k
  | (t, .s) :: ks, _, F, N, G, u, h, k => fun n => qF_E ks _ (congrFun h n) k
  | (t, .v) :: ks, _, F, N, G, u, h, k => fun n => qF_E ks _ (congrFun h n) k
  | (t, .x) :: ks, _, F, N, G, u, h, k => fun n => qF_E ks _ (congrFun h n) k
  | (t, .p) :: ks, _, F, N, G, u, h, k => fun b o => qF_E ks _ (congrFun (congrFun h b) o) k
  | (t, .g q) :: ks, _, F, N, G, u, h, k => qFC_E q h fun l => qF_E ks _ rfl k
end Go.Abs
namespace Go.Proofs
open Go.Abs
abbrev A := AC Tryz.prog T0
abbrev Z (n : Nat) (ks : Sk) (N : NTy ks Pr) (c : Code) (r : EP) := ∀ env H, En n ks N env H → AW Tryz.prog T0 c env H (M r)
theorem b {Rt : EP} {X : Nat → EP} {n : Nat} {ks : Sk} {N : NTy ks Pr} {o : List Oper} {id : Nat} (K : EP) (h : (qF ks fun u (H : AHeap) => aOps Tryz.prog T0 o o (mkEnv u n 0) H K) = fun _ => N := by kernel_rfl) : ∀ env H, En n ks N env H → AW Tryz.prog T0 (.region id ⟨o⟩ false) env H (mkQ K X Rt) :=
  rB T0_ok fun u => qF_E ks u (congrFun h u) fun _ _ => rfl
end Go.Proofs
