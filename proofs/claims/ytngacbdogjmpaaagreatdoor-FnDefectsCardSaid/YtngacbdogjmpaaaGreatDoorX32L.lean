/- PROVED: for every input that the form reads, the given program's laws.FnDefects returns true, and each argument reads behind the call as it read before; the one listed variable is tied to the program's text. Conditions: none beyond the statement's own form. -/
import Derived.Test.YtngacbdogjmpaaaGreatDoorRows
import Derived.Test.YtngacbdogjmpaaaGreatDoorCards
import Derived.Test.YtngacbdogjmpaaaGreatDoorTie
import Derived.Test.YtngacbdogjmpaaaGreatDoorX32Q3
import Derived.WalkKit
import Derived.OpenShut
import Derived.ChangeOld
import Derived.ProofKit
import Derived.LaidMore
import Derived.Stop.Joined
import Derived.Lib.LaidTab
import Derived.SevenTiedAt
namespace Go.Proofs.YtngacbdogjmpaaaGreatDoor.fnDefects
open Go.ChangeShapes Go.WideShapes Go.ChangeAt Go.RowKit Go.Abs
set_option linter.unusedVariables false

theorem own : ownKnob Tryz.prog.godebug = none := by kernel_rfl
theorem laidOut : laidOutB Tryz.prog = true := by kernel_rfl
theorem glob : Tryz.prog.globals.size = 1 := by kernel_rfl
theorem gN : Tryz.prog.globalNamed "math/bits.deBruijn64tab" = some 0 := by kernel_rfl
theorem gT : (Tryz.prog.globals[0]?).map (·.type) = some 183 := by kernel_rfl
theorem uT : Tryz.prog.underlying 183 = some (.array 64 5) := by kernel_rfl
theorem uE : Tryz.prog.underlying 5 = some (.int .u8) := by kernel_rfl
theorem cT : Tryz.prog.cellsOf 183 = 64 := by kernel_rfl
theorem cE : Tryz.prog.cellsOf 5 = 1 := by kernel_rfl
noncomputable def tiE : TI := (Go.Proofs.T0 5).getD ⟨.bool, 0, 0, undef⟩
theorem T0_E : Go.Proofs.T0 5 = some tiE := by kernel_rfl
theorem door_met (os : Os) (args : Array Value) : laidMetH Tryz.prog Rows.fnDefectsRow.laid ((World.doorLaid Tryz.prog 14 os).forCall (fun _ _ => 0) ⟨#[], args, []⟩).memory :=
  laidMetH_of_parts3 (fuel := 8) (laidMet_of_run' 8 (by kernel_rfl) (by kernel_rfl)) (by kernel_rfl) (by kernel_rfl)
theorem dbj_len : dbj.length = 64 := by decide
/-- What the condition gives: the table's cells. -/
theorem of_laid {W : World} (h : laidMetH Tryz.prog Rows.fnDefectsRow.laid W) : ∀ i, i < dbj.length → W.cell? ⟨0, i, none⟩ = some (.int .u8 (dbj.getD i 0)) := by
  rw [MakeChecks.laidMetH_plain _ _ _ (by kernel_rfl)] at h
  have h' : laidMet Tryz.prog [("math/bits.deBruijn64tab", Lib.tabData .u8 dbj)] W := h
  exact fun i hi => (Lib.tabIs_of_head gN gT uT uE cE cT h').cell gN i hi
theorem start {W : World} (h : laidMetH Tryz.prog Rows.fnDefectsRow.laid W) : ∃ ρ, Rel Go.Proofs.T0 Tryz.prog.globals.size W ρ (tabHeap Tryz.prog.globals.size 0 5 .u8 dbj) W := by
  have hc := of_laid h
  have h0 : 0 < W.heap.size := by
    rcases Nat.eq_zero_or_pos W.heap.size with e | e
    · have := hc 0 (by decide)
      simp [World.cell?, e] at this
    · exact e
  exact tab_rel (by rw [glob]; omega) (by rw [glob]; decide) T0_E (by decide) hc
theorem tab_of {H : AHeap} (h : (tabHeap Tryz.prog.globals.size 0 5 .u8 dbj).le H) : Go.Proofs.Tab H := by
  refine ⟨5, false, h.2 0 _ ?_⟩
  rw [glob]; rfl

set_option maxRecDepth 100000 in
theorem lifted (os : Os) (started : os.Started) (H : Type) (enc : TypeId × Value → H) :
    ReturnsInHanded {} Tryz.checked os 4 .any (fun w args => (Rows.fnDefectsSpec.pre enc Tryz.prog Tryz.f4 [] false w args ∧ laidMetH Tryz.prog Rows.fnDefectsRow.laid w) ∧ sizedMet enc Tryz.prog Tryz.f4 (OpenSpec.ofChange Rows.fnDefectsSpec) false w args) (Rows.fnDefectsSpec.post enc Tryz.prog Tryz.f4 false true false false) := by
  refine returnsInHanded_of_change_and (C := Tryz.checked) (X := fun w _ => laidMetH Tryz.prog Rows.fnDefectsRow.laid w) (fun _ _ _ hh h => h.of_heap hh) own started (by kernel_rfl) Tryz.func4
    (ChangeSpec.witness_shaped (enc := enc) (C := Tryz.checked) (os := os) (X := fun w _ => laidMetH Tryz.prog Rows.fnDefectsRow.laid w) false (World.doorLaid Tryz.prog 14 os) #[.slice none 0 0] 8 rfl (World.shaped_of_RefB (by kernel_rfl) (by kernel_rfl)) (by kernel_rfl) (by kernel_rfl) (by kernel_rfl) (door_met os _)) ?_
  intro W base args ds gs before hval0 hW _ _ hL _
  have hval : ∀ (j : Nat) t v, Tryz.f4.params[j]? = some t → args[j]? = some v → Value.okWide Tryz.prog W .any base t v := hval0
  have hW' := hW
  obtain ⟨p, q, hA0, hV, rfl, hfz, hnd⟩ := hW
  have hA : DataW.TrodAll enc Tryz.prog W 0 (fun _ => true) true Tryz.f4.params.toList args.toList ds p := hA0
  rw [Tryz.params4] at hA hval
  obtain ⟨rfl, rfl⟩ := trodVars_none hV
  have bel : ∀ W', Below W.heap.size W W' → DataW.TrodAll enc Tryz.prog W' 0 (fun b => decide (b < W.heap.size)) true [22] args.toList ds p := fun W' hb => trodAll_below laidOut hb (by kernel_rfl) hA
  obtain ⟨ρ, R0⟩ := start hL
  have run := law_run_from Go.Proofs.T0_ok (ts := [22]) (f := 4) (by kernel_rfl) R0 (fun H vs hle hav => Go.Proofs.fnDefects_law H (tab_of hle) vs hav) hA (fun j t v h k => hval j t v (by simpa using h) k)
  obtain ⟨v0, vs0, d0, ds0, p0, q0, hargs, rfl, rfl, h0, r0⟩ := trodAll_cons hA
  obtain ⟨rfl, rfl, rfl⟩ := trodAll_nil r0
  refine run.mono fun e W' ⟨he, hb⟩ => ?_
  subst he
  exact ⟨_, rfl, _, _, _, [], _, [], hW', trodAll_mk1 (shut_bool Tryz.underlying4 _), bel W' hb, rfl, hb.frame _, fun h => by cases h⟩

theorem over : Rows.fnDefectsRow.holds Tryz.pinned (OpenSpec.ofChange Rows.fnDefectsSpec) :=
  OpenClaim.holds_of_wide 4 Tryz.f4 rfl rfl rfl rfl rfl rfl rfl ⟨rfl, rfl, rfl, rfl, rfl⟩ rfl rfl rfl rfl rfl (by kernel_rfl) Tryz.func4 (by kernel_rfl)
    (of_decide_eq_true (by kernel_rfl)) (by unfold Func.isWrapper; first | (rw [if_pos (by decide +kernel)]; kernel_rfl) | (rw [if_neg (by decide +kernel)]; exact ⟨rfl, rfl⟩))
    (fun os started H enc _ => lifted os started H enc)

/-- The statement: the tied card. -/
theorem proved : Rows.FnDefectsCardSaid :=
  Claim7.holds_tied_plain_at .later [] [.data] true (true, "ea39f05ce87c4720847221a828bdf061ff6110435856b440f932e7479f544840") false
    over (fun _ h => by cases h) (by kernel_rfl) (fun _ h => by cases h) fnDefects_row_tie rfl ⟨rfl, rfl⟩ (by kernel_rfl) rfl
    (fun f fn hf hfn => by
      obtain rfl : f = 4 := Option.some.inj ((show Tryz.prog.funcNamed Rows.fnDefectsRow.func = some 4 by kernel_rfl).symm.trans hf) |>.symm
      obtain rfl : fn = Tryz.f4 := (Option.some.inj (Tryz.func4.symm.trans hfn)).symm
      refine ⟨by kernel_rfl, fun j t ht => ?_⟩
      rw [Tryz.params4] at ht
      have hall : ([22].all fun t => !Tryz.prog.wantsStandIn t) = true := by kernel_rfl
      have := List.all_eq_true.1 hall t (List.mem_of_getElem? (by simpa using ht))
      exact (show Tryz.prog.wantsStandIn t = false by simpa using this))
    (by kernel_rfl)
#print axioms proved
end Go.Proofs.YtngacbdogjmpaaaGreatDoor.fnDefects
