/- PROVED: for every input that the form reads, the given program's laws.FnCovers returns true, and each argument reads behind the call as it read before. Conditions: none beyond the statement's own form. -/
import Derived.Test.YtngacbdogjmpaaaGreatRows
import Derived.Test.YtngacbdogjmpaaaGreatX36Q4
import Derived.WalkKit
import Derived.OpenShut
import Derived.ChangeOld
namespace Go.Proofs.YtngacbdogjmpaaaGreat.fnCovers
open Go.ChangeShapes Go.WideShapes Go.ChangeAt Go.RowKit Go.Abs
set_option linter.unusedVariables false

theorem own : ownKnob Tryz.prog.godebug = none := by kernel_rfl
theorem laidOut : laidOutB Tryz.prog = true := by kernel_rfl
theorem glob : Tryz.prog.globals.size = 0 := by kernel_rfl

set_option maxRecDepth 100000 in
theorem lifted (os : Os) (started : os.Started) (H : Type) (enc : TypeId × Value → H) :
    ReturnsInHanded {} Tryz.checked os 4 .any (Rows.fnCoversSpec.pre6 enc Tryz.prog Tryz.f4 Rows.fnCoversRow.domain false) (Rows.fnCoversSpec.post enc Tryz.prog Tryz.f4 false true false false) := by
  refine returnsInHanded_of_change (C := Tryz.checked) own started (by kernel_rfl) Tryz.func4
    (ChangeSpec.witness6 (enc := enc) (C := Tryz.checked) false ⟨#[], #[.slice none 0 0], []⟩ 8 (by kernel_rfl) (by kernel_rfl) (by kernel_rfl) (by kernel_rfl)) ?_
  intro W base args ds gs before hval0 hW hcnd _
  have hval : ∀ (j : Nat) t v, Tryz.f4.params[j]? = some t → args[j]? = some v → Value.okWide Tryz.prog W .any base t v := hval0
  have hW' := hW
  obtain ⟨p, q, hA0, hV, rfl, hfz, hnd⟩ := hW
  have hA : DataW.TrodAll enc Tryz.prog W 0 (fun _ => true) true Tryz.f4.params.toList args.toList ds p := hA0
  rw [Tryz.params4] at hA hval
  obtain ⟨rfl, rfl⟩ := trodVars_none hV
  have bel : ∀ W', Below W.heap.size W W' → DataW.TrodAll enc Tryz.prog W' 0 (fun b => decide (b < W.heap.size)) true [22] args.toList ds p := fun W' hb => zgk laidOut hb (by kernel_rfl) hA
  have run := zyL Go.Proofs.zA7 (ts := [22]) (f := 4) (by kernel_rfl) (by rw [glob]; exact Nat.zero_le _) Go.Proofs.znj hA (fun j t v h k => hval j t v (by simpa using h) k)
  obtain ⟨v0, vs0, d0, ds0, p0, q0, hargs, rfl, rfl, h0, r0⟩ := trodAll_cons hA
  obtain ⟨rfl, rfl, rfl⟩ := trodAll_nil r0
  refine run.mono fun e W' ⟨he, hb⟩ => ?_
  subst he
  exact ⟨_, rfl, _, _, _, [], _, [], hW', trodAll_mk1 (shut_bool Tryz.underlying4 _), bel W' hb, rfl, hb.frame _, fun h => by cases h⟩

theorem over : Rows.fnCoversRow.holds Tryz.pinned (OpenSpec.ofChange Rows.fnCoversSpec) :=
  OpenClaim.holds_of_wide 4 Tryz.f4 rfl rfl rfl rfl rfl rfl rfl ⟨rfl, rfl, rfl, rfl, rfl⟩ rfl rfl rfl rfl rfl (by kernel_rfl) Tryz.func4 (by kernel_rfl)
    (of_decide_eq_true (by kernel_rfl)) (by unfold Func.isWrapper; first | (rw [if_pos (by decide +kernel)]; kernel_rfl) | (rw [if_neg (by decide +kernel)]; exact ⟨rfl, rfl⟩))
    (fun os started H enc _ => lifted os started H enc)

/-- The statement. -/
theorem proved : Rows.FnCoversSaid := over
#print axioms proved
end Go.Proofs.YtngacbdogjmpaaaGreat.fnCovers
