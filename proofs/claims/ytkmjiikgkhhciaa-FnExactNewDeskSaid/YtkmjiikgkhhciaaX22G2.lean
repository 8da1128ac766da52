import Derived.Test.YtkmjiikgkhhciaaT
set_option linter.unusedVariables false
set_option maxRecDepth 100000
namespace Go.Proofs
open Go.Abs
-- slices.choosePivotCmpFunc[loop.example/g01329/impl.Edge]
namespace F202
noncomputable def ret (P : PT) : EP := retE T0 63 Try.f202 P
abbrev k0 : Sk := [(13,.i .i64)]
noncomputable def o1 := ob Try.f202 [.r,.r,.r,.r,.r,.r,.r,.r,.l,.r,.l,.l]
def B1 (P : PT) (x13 : Int) (H : AHeap) : Prop :=
  P (Value.tuple ⟨[(Value.int .i64 x13), (Value.int .i64 1)]⟩) H
theorem q1 (P : PT) : QB Try.prog T0 63 o1 (ret P) k0 (B1 P) := fun _ _ _  => by kernel_rfl
noncomputable def o2 := ob Try.f202 [.r,.r,.r,.r,.r,.r,.r,.r,.l,.r,.r,.r,.l,.l]
def B2 (P : PT) (x13 : Int) (H : AHeap) : Prop :=
  P (Value.tuple ⟨[(Value.int .i64 x13), (Value.int .i64 2)]⟩) H
theorem q2 (P : PT) : QB Try.prog T0 63 o2 (ret P) k0 (B2 P) := fun _ _ _  => by kernel_rfl
noncomputable def o3 := ob Try.f202 [.r,.r,.r,.r,.r,.r,.r,.r,.l,.r,.r,.r,.r,.l]
def B3 (P : PT) (x13 : Int) (H : AHeap) : Prop :=
  P (Value.tuple ⟨[(Value.int .i64 x13), (Value.int .i64 0)]⟩) H
theorem q3 (P : PT) : QB Try.prog T0 63 o3 (ret P) k0 (B3 P) := fun _ _ _  => by kernel_rfl
abbrev k1 : Sk := [(13,.i .i64),(55,.i .i64)]
noncomputable def o4 := ob Try.f202 [.r,.r,.r,.r,.r,.r,.r,.r,.l,.r,.r,.l]
def B4 (P : PT) (x13 x55 : Int) (H : AHeap) : Prop :=
  pif ((x55 : Int) == 12) (B2 P x13 H) (B3 P x13 H)
theorem q4 (P : PT) : QB Try.prog T0 63 o4 (cnd 60 (En 63 k0 (B2 P)) (En 63 k0 (B3 P))) k1 (B4 P) := fun _ _ _ _  => by kernel_rfl
noncomputable def o5 := ob Try.f202 [.r,.r,.r,.r,.r,.r,.r,.r,.l,.l]
def B5 (P : PT) (x13 x55 : Int) (H : AHeap) : Prop :=
  pif ((x55 : Int) == 0) (B1 P x13 H) (B4 P x13 x55 H)
theorem q5 (P : PT) : QB Try.prog T0 63 o5 (cnd 57 (En 63 k0 (B1 P)) (En 63 k1 (B4 P))) k1 (B5 P) := fun _ _ _ _  => by kernel_rfl
abbrev k2 : Sk := [(11,.x),(13,.i .i64)]
noncomputable def o6 := ob Try.f202 [.r,.r,.r,.r,.r,.r,.r,.l]
def B6 (P : PT) (x11 : Nat) (x13 : Int) (H : AHeap) : Prop :=
  ldI .i64 H x11 0 (fun v1 => B5 P x13 v1 H)
theorem q6 (P : PT) : QB Try.prog T0 63 o6 (En 63 k1 (B5 P)) k2 (B6 P) := fun _ _ _ _  => by kernel_rfl
abbrev k3 : Sk := [(0,.v),(3,.v),(11,.x),(12,.i .i64),(13,.i .i64),(14,.i .i64)]
noncomputable def o7 := ob Try.f202 [.r,.r,.r,.r,.r,.r,.l,.r,.l,.r]
def B7 (P : PT) (x0 x3 : Value) (x11 : Nat) (x12 x13 x14 : Int) (H : AHeap) : Prop :=
  AC Try.prog T0 214 [x0, (Value.int .i64 x12), (Value.int .i64 x13), (Value.int .i64 x14), (Value.pointer (some ⟨x11, 0, none⟩)), x3] H (fun v1 H2 => asI .i64 v1 (fun v3 => B6 P x11 v3 H2))
theorem q7 (P : PT) : QB Try.prog T0 63 o7 (En 63 k2 (B6 P)) k3 (B7 P) := fun _ _ _ _ _ _ _ _  => by kernel_rfl
noncomputable def o8 := ob Try.f202 [.r,.r,.r,.r,.r,.r,.l,.r,.l,.l,.r,.l,.r,.r]
def B8 (P : PT) (x0 x3 : Value) (x11 : Nat) (x12 x13 x14 : Int) (H : AHeap) : Prop :=
  AC Try.prog T0 213 [x0, (Value.int .i64 x14), (Value.pointer (some ⟨x11, 0, none⟩)), x3] H (fun v1 H2 => asI .i64 v1 (fun v3 => B7 P x0 x3 x11 x12 x13 v3 H2))
theorem q8 (P : PT) : QB Try.prog T0 63 o8 (En 63 k3 (B7 P)) k3 (B8 P) := fun _ _ _ _ _ _ _ _  => by kernel_rfl
noncomputable def o9 := ob Try.f202 [.r,.r,.r,.r,.r,.r,.l,.r,.l,.l,.r,.l,.r,.l]
def B9 (P : PT) (x0 x3 : Value) (x11 : Nat) (x12 x13 x14 : Int) (H : AHeap) : Prop :=
  AC Try.prog T0 213 [x0, (Value.int .i64 x13), (Value.pointer (some ⟨x11, 0, none⟩)), x3] H (fun v1 H2 => asI .i64 v1 (fun v3 => B8 P x0 x3 x11 x12 v3 x14 H2))
theorem q9 (P : PT) : QB Try.prog T0 63 o9 (En 63 k3 (B8 P)) k3 (B9 P) := fun _ _ _ _ _ _ _ _  => by kernel_rfl
noncomputable def o10 := ob Try.f202 [.r,.r,.r,.r,.r,.r,.l,.r,.l,.l,.r,.l,.l]
def B10 (P : PT) (x0 x3 : Value) (x11 : Nat) (x12 x13 x14 : Int) (H : AHeap) : Prop :=
  AC Try.prog T0 213 [x0, (Value.int .i64 x12), (Value.pointer (some ⟨x11, 0, none⟩)), x3] H (fun v1 H2 => asI .i64 v1 (fun v3 => B9 P x0 x3 x11 v3 x13 x14 H2))
theorem q10 (P : PT) : QB Try.prog T0 63 o10 (En 63 k3 (B9 P)) k3 (B10 P) := fun _ _ _ _ _ _ _ _  => by kernel_rfl
abbrev k4 : Sk := [(0,.v),(3,.v),(10,.i .i64),(11,.x),(12,.i .i64),(13,.i .i64),(14,.i .i64)]
noncomputable def o11 := ob Try.f202 [.r,.r,.r,.r,.r,.r,.l,.r,.l,.l,.l]
def B11 (P : PT) (x0 x3 : Value) (x10 : Int) (x11 : Nat) (x12 x13 x14 : Int) (H : AHeap) : Prop :=
  pif (decide ((x10 : Int) ≥ 50)) (B10 P x0 x3 x11 x12 x13 x14 H) (B7 P x0 x3 x11 x12 x13 x14 H)
theorem q11 (P : PT) : QB Try.prog T0 63 o11 (cnd 36 (En 63 k3 (B10 P)) (En 63 k3 (B7 P))) k4 (B11 P) := fun _ _ _ _ _ _ _ _ _  => by kernel_rfl
noncomputable def o12 := ob Try.f202 [.r,.r,.r,.r,.r,.r,.l,.l]
def B12 (P : PT) (x0 x3 : Value) (x10 : Int) (x11 : Nat) (x12 x13 x14 : Int) (H : AHeap) : Prop :=
  pif (decide ((x10 : Int) ≥ 8)) (B11 P x0 x3 x10 x11 x12 x13 x14 H) (B6 P x11 x13 H)
theorem q12 (P : PT) : QB Try.prog T0 63 o12 (cnd 34 (En 63 k4 (B11 P)) (En 63 k2 (B6 P))) k4 (B12 P) := fun _ _ _ _ _ _ _ _ _  => by kernel_rfl
abbrev k5 : Sk := [(0,.v),(1,.i .i64),(3,.v),(10,.i .i64),(11,.x),(12,.i .i64),(13,.i .i64)]
noncomputable def o13 := ob Try.f202 [.r,.r,.r,.r,.r,.l]
def B13 (P : PT) (x0 : Value) (x1 : Int) (x3 : Value) (x10 : Int) (x11 : Nat) (x12 x13 : Int) (H : AHeap) : Prop :=
  B12 P x0 x3 x10 x11 x12 x13 (IntKind.i64.wrap (x1 + (IntKind.i64.wrap ((IntKind.i64.wrap (Int.tdiv x10 4)) * 3)))) H
theorem q13 (P : PT) : QB Try.prog T0 63 o13 (En 63 k4 (B12 P)) k5 (B13 P) := fun _ _ _ _ _ _ _ _ _  => by kernel_rfl
abbrev k6 : Sk := [(0,.v),(1,.i .i64),(3,.v),(10,.i .i64),(11,.x),(12,.i .i64)]
noncomputable def o14 := ob Try.f202 [.r,.r,.r,.r,.l]
def B14 (P : PT) (x0 : Value) (x1 : Int) (x3 : Value) (x10 : Int) (x11 : Nat) (x12 : Int) (H : AHeap) : Prop :=
  B13 P x0 x1 x3 x10 x11 x12 (IntKind.i64.wrap (x1 + (IntKind.i64.wrap ((IntKind.i64.wrap (Int.tdiv x10 4)) * 2)))) H
theorem q14 (P : PT) : QB Try.prog T0 63 o14 (En 63 k5 (B13 P)) k6 (B14 P) := fun _ _ _ _ _ _ _ _  => by kernel_rfl
abbrev k7 : Sk := [(0,.v),(1,.i .i64),(3,.v),(10,.i .i64),(11,.x)]
noncomputable def o15 := ob Try.f202 [.r,.r,.r,.l]
def B15 (P : PT) (x0 : Value) (x1 : Int) (x3 : Value) (x10 : Int) (x11 : Nat) (H : AHeap) : Prop :=
  B14 P x0 x1 x3 x10 x11 (IntKind.i64.wrap (x1 + (IntKind.i64.wrap ((IntKind.i64.wrap (Int.tdiv x10 4)) * 1)))) H
theorem q15 (P : PT) : QB Try.prog T0 63 o15 (En 63 k6 (B14 P)) k7 (B15 P) := fun _ _ _ _ _ _ _  => by kernel_rfl
abbrev k8 : Sk := [(0,.v),(1,.i .i64),(3,.v),(10,.i .i64)]
noncomputable def o16 := ob Try.f202 [.r,.r,.l]
def B16 (P : PT) (x0 : Value) (x1 : Int) (x3 : Value) (x10 : Int) (H : AHeap) : Prop :=
  newK H [(Value.int .i64 0)] 3 (fun b1 H2 => B15 P x0 x1 x3 x10 b1 H2)
theorem q16 (P : PT) : QB Try.prog T0 63 o16 (En 63 k7 (B15 P)) k8 (B16 P) := fun _ _ _ _ _ _  => by kernel_rfl
abbrev k9 : Sk := [(0,.v),(1,.i .i64),(2,.i .i64),(3,.v)]
noncomputable def o17 := ob Try.f202 [.r,.l]
def B17 (P : PT) (x0 : Value) (x1 x2 : Int) (x3 : Value) (H : AHeap) : Prop :=
  B16 P x0 x1 x3 (IntKind.i64.wrap (x2 - x1)) H
theorem q17 (P : PT) : QB Try.prog T0 63 o17 (En 63 k8 (B16 P)) k9 (B17 P) := fun _ _ _ _ _ _  => by kernel_rfl
noncomputable def o18 := ob Try.f202 [.l]
def B18 (P : PT) (x0 : Value) (x1 x2 : Int) (x3 : Value) (H : AHeap) : Prop :=
  B17 P x0 x1 x2 x3 H
theorem q18 (P : PT) : QB Try.prog T0 63 o18 (En 63 k9 (B17 P)) k9 (B18 P) := fun _ _ _ _ _ _  => by kernel_rfl
noncomputable def code : Code := (.seq (.region 0 ⟨o18⟩ false) (.seq (.region 1 ⟨o17⟩ false) (.seq (.region 2 ⟨o16⟩ false) (.seq (.region 3 ⟨o15⟩ false) (.seq (.region 4 ⟨o14⟩ false) (.seq (.region 5 ⟨o13⟩ false) (.seq (.seq (.region 6 ⟨o12⟩ false) (.cond (.tmp 34) (.seq (.seq (.region 7 ⟨o11⟩ false) (.cond (.tmp 36) (.seq (.region 8 ⟨o10⟩ false) (.seq (.region 9 ⟨o9⟩ false) (.region 10 ⟨o8⟩ false))) .skip)) (.region 11 ⟨o7⟩ false)) .skip)) (.seq (.region 12 ⟨o6⟩ false) (.block 0 (.seq (.region 14 ⟨o5⟩ false) (.cond (.tmp 57) (.seq (.region 15 ⟨o1⟩ false) .ret) (.seq (.region 16 ⟨o4⟩ false) (.cond (.tmp 60) (.seq (.region 17 ⟨o2⟩ false) .ret) (.seq (.region 13 ⟨o3⟩ false) .ret))))))))))))))
theorem body : Try.f202.body = some code := by kernel_rfl
theorem main (P : PT) : ∀ env H, (En 63 k9 (B18 P)) env H → AW Try.prog T0 code env H (mkQ (ret P) (fun _ _ _ => False) (ret P)) :=
  (r_seq (rB T0_ok (q18 P)) (r_seq (rB T0_ok (q17 P)) (r_seq (rB T0_ok (q16 P)) (r_seq (rB T0_ok (q15 P)) (r_seq (rB T0_ok (q14 P)) (r_seq (rB T0_ok (q13 P)) (r_seq (r_seq (rB T0_ok (q12 P)) (r_cond rfl (r_seq (r_seq (rB T0_ok (q11 P)) (r_cond rfl (r_seq (rB T0_ok (q10 P)) (r_seq (rB T0_ok (q9 P)) (rB T0_ok (q8 P)))) r_skip)) (rB T0_ok (q7 P))) r_skip)) (r_seq (rB T0_ok (q6 P)) (r_block (r_seq (rB T0_ok (q5 P)) (r_cond rfl (r_seq (rB T0_ok (q1 P)) r_ret) (r_seq (rB T0_ok (q4 P)) (r_cond rfl (r_seq (rB T0_ok (q2 P)) r_ret) (r_seq (rB T0_ok (q3 P)) r_ret))))))))))))))
theorem ac (P : PT) (x0 : Value) (x1 x2 : Int) (x3 : Value) (H : AHeap) (h : B18 P x0 x1 x2 x3 H) : AC Try.prog T0 202 [x0, (Value.int .i64 x1), (Value.int .i64 x2), x3] H P :=
  r_fn T0_ok (c := code) (n := 63) Try.func202 body (by kernel_rfl) (main P) (En_mk (x0, x1, x2, x3, ()) (by kernel_rfl) ⟨by kernel_rfl, by kernel_rfl, by kernel_rfl, by kernel_rfl, trivial⟩ h)

end F202
-- slices.reverseRangeCmpFunc[loop.example/g01329/impl.Edge]
namespace F203
noncomputable def ret (P : PT) : EP := retE T0 34 Try.f203 P
abbrev k0 : Sk := [(0,.v),(8,.i .i64),(9,.i .i64)]
noncomputable def o2 := ob Try.f203 [.r,.r,.l,.l,.r,.l,.r,.r]
def B2 (P : PT) (N1 : NTy k0 Pr) (x0 : Value) (x8 x9 : Int) (H : AHeap) : Prop :=
  N1 x0 x8 (IntKind.i64.wrap (x9 - 1)) H
theorem q2 (P : PT) (N1 : NTy k0 Pr) : QB Try.prog T0 34 o2 (En 34 k0 N1) k0 (B2 P N1) := fun _ _ _ _ _  => by kernel_rfl
noncomputable def o3 := ob Try.f203 [.r,.r,.l,.l,.r,.l,.r,.l]
def B3 (P : PT) (N1 : NTy k0 Pr) (x0 : Value) (x8 x9 : Int) (H : AHeap) : Prop :=
  B2 P N1 x0 (IntKind.i64.wrap (x8 + 1)) x9 H
theorem q3 (P : PT) (N1 : NTy k0 Pr) : QB Try.prog T0 34 o3 (En 34 k0 (B2 P N1)) k0 (B3 P N1) := fun _ _ _ _ _  => by kernel_rfl
noncomputable def o4 := ob Try.f203 [.r,.r,.l,.l,.r,.l,.l]
def B4 (P : PT) (N1 : NTy k0 Pr) (x0 : Value) (x8 x9 : Int) (H : AHeap) : Prop :=
  idxK x0 x9 2 (fun b1 o2 => ldI .i64 H b1 o2 (fun v3 => ldI .i64 H b1 (o2 + 1) (fun v4 => idxK x0 x8 2 (fun b5 o6 => ldI .i64 H b5 o6 (fun v7 => ldI .i64 H b5 (o6 + 1) (fun v8 => idxK x0 x8 2 (fun b9 o10 => stK H b9 o10 [(Value.int .i64 v3), (Value.int .i64 v4)] (fun H11 => idxK x0 x9 2 (fun b12 o13 => stK H11 b12 o13 [(Value.int .i64 v7), (Value.int .i64 v8)] (fun H14 => B3 P N1 x0 x8 x9 H14))))))))))
theorem q4 (P : PT) (N1 : NTy k0 Pr) : QD Try.prog T0 34 o4 [(0, false), (1, false), (2, false), (3, false), (4, false), (5, false), (6, false), (7, false), (8, false), (9, false), (10, false), (11, false), (12, false), (13, false), (14, false), (15, false)] (En 34 k0 (B3 P N1)) k0 (B4 P N1) := fun _ _ _ _ _  => by kernel_rfl
noncomputable def o5 := ob Try.f203 [.r,.r,.l,.l,.l,.l]
def B5 (P : PT) (N1 : NTy k0 Pr) (x0 : Value) (x8 x9 : Int) (H : AHeap) : Prop :=
  pif (decide ((x8 : Int) < x9)) (B4 P N1 x0 x8 x9 H) (P (Value.tuple ⟨[]⟩) H)
theorem q5 (P : PT) (N1 : NTy k0 Pr) : QB Try.prog T0 34 o5 (cnd 15 (En 34 k0 (B4 P N1)) (ret P)) k0 (B5 P N1) := fun _ _ _ _ _  => by kernel_rfl
def L1 (P : PT) (x0 : Value) (x8 x9 : Int) (H : AHeap) : Prop :=
  ∃ (I : NTy k0 Pr) (μ : NTy k0 (AHeap → Nat)), I x0 x8 x9 H ∧ ∀ y0 y8 y9 G, I y0 y8 y9 G → B5 P (fun z0 z8 z9 G' => I z0 z8 z9 G' ∧ μ z0 z8 z9 G' < μ y0 y8 y9 G) y0 y8 y9 G
theorem l1 (P : PT) : LQ k0 (L1 P) (B5 P) := fun ⟨_,_,_,_⟩ _ ⟨I, μ, h0, hI⟩ => ⟨apT _ I, apT _ μ, h0, fun ⟨_,_,_,_⟩ _ h => hI _ _ _ _  h⟩
abbrev k1 : Sk := [(0,.v),(2,.i .i64),(8,.i .i64)]
noncomputable def o6 := ob Try.f203 [.r,.l]
def B6 (P : PT) (x0 : Value) (x2 x8 : Int) (H : AHeap) : Prop :=
  L1 P x0 x8 (IntKind.i64.wrap (x2 - 1)) H
theorem q6 (P : PT) : QB Try.prog T0 34 o6 (En 34 k0 (L1 P)) k1 (B6 P) := fun _ _ _ _ _  => by kernel_rfl
abbrev k2 : Sk := [(0,.v),(1,.i .i64),(2,.i .i64)]
noncomputable def o7 := ob Try.f203 [.l]
def B7 (P : PT) (x0 : Value) (x1 x2 : Int) (H : AHeap) : Prop :=
  B6 P x0 x2 x1 H
theorem q7 (P : PT) : QB Try.prog T0 34 o7 (En 34 k1 (B6 P)) k2 (B7 P) := fun _ _ _ _ _  => by kernel_rfl
noncomputable def code : Code := (.seq (.region 0 ⟨o7⟩ false) (.seq (.region 1 ⟨o6⟩ false) (.block 0 (.loop (.seq (.seq (.region 2 ⟨o5⟩ false) (.cond (.tmp 15) .skip (.exit 0))) (.block 1 (.seq (.region 3 ⟨o4⟩ true) (.seq (.region 4 ⟨o3⟩ false) (.region 5 ⟨o2⟩ false)))))))))
theorem body : Try.f203.body = some code := by kernel_rfl
theorem main (P : PT) : ∀ env H, (En 34 k2 (B7 P)) env H → AW Try.prog T0 code env H (mkQ (ret P) (fun _ _ _ => False) (ret P)) :=
  (r_seq (rB T0_ok (q7 P)) (r_seq (rB T0_ok (q6 P)) (r_block (rL (l1 P) (fun N1 => (r_seq (r_seq (rB T0_ok (q5 P N1)) (r_cond rfl r_skip (r_exit (fun _ _ h => h)))) (r_block (r_seq (rD T0_ok mixed [(0, false), (1, false), (2, false), (3, false), (4, false), (5, false), (6, false), (7, false), (8, false), (9, false), (10, false), (11, false), (12, false), (13, false), (14, false), (15, false)] (by kernel_rfl) (q4 P N1)) (r_seq (rB T0_ok (q3 P N1)) (rB T0_ok (q2 P N1)))))))))))
theorem ac (P : PT) (x0 : Value) (x1 x2 : Int) (x3 : Value) (H : AHeap) (h : B7 P x0 x1 x2 H) : AC Try.prog T0 203 [x0, (Value.int .i64 x1), (Value.int .i64 x2), x3] H P :=
  r_fn T0_ok (c := code) (n := 34) Try.func203 body (by kernel_rfl) (main P) (En_mk (x0, x1, x2, ()) (by kernel_rfl) ⟨by kernel_rfl, by kernel_rfl, by kernel_rfl, trivial⟩ h)

end F203
-- slices.partialInsertionSortCmpFunc[loop.example/g01329/impl.Edge]
namespace F204
noncomputable def ret (P : PT) : EP := retE T0 141 Try.f204 P
abbrev k0 : Sk := []
noncomputable def o1 := ob Try.f204 [.r,.r,.r,.l]
def B1 (P : PT) (H : AHeap) : Prop :=
  P (Value.bool false) H
theorem q1 (P : PT) : QB Try.prog T0 141 o1 (ret P) k0 (B1 P) := fun _ _  => by kernel_rfl
abbrev k1 : Sk := [(0,.v),(1,.i .i64),(2,.i .i64),(3,.v),(9,.i .i64),(10,.i .i64)]
noncomputable def o3 := ob Try.f204 [.r,.r,.l,.r,.l,.l,.r,.r]
def B3 (P : PT) (N2 : NTy k1 Pr) (x0 : Value) (x1 x2 : Int) (x3 : Value) (x9 x10 : Int) (H : AHeap) : Prop :=
  N2 x0 x1 x2 x3 x9 (IntKind.i64.wrap (x10 + 1)) H
theorem q3 (P : PT) (N2 : NTy k1 Pr) : QB Try.prog T0 141 o3 (En 141 k1 N2) k1 (B3 P N2) := fun _ _ _ _ _ _ _ _  => by kernel_rfl
abbrev k2 : Sk := [(0,.v),(1,.i .i64),(2,.i .i64),(3,.v),(9,.i .i64),(10,.i .i64),(12,.i .i64)]
noncomputable def o5 := ob Try.f204 [.r,.r,.l,.r,.l,.l,.r,.l,.l,.r,.r,.r,.r,.r,.r,.l,.r,.l,.l,.r,.r]
def B5 (P : PT) (N2 : NTy k1 Pr) (N4 : NTy k2 Pr) (x0 : Value) (x1 x2 : Int) (x3 : Value) (x9 x10 x12 : Int) (H : AHeap) : Prop :=
  N4 x0 x1 x2 x3 x9 x10 (IntKind.i64.wrap (x12 + 1)) H
theorem q5 (P : PT) (N2 : NTy k1 Pr) (N4 : NTy k2 Pr) : QB Try.prog T0 141 o5 (En 141 k2 N4) k2 (B5 P N2 N4) := fun _ _ _ _ _ _ _ _ _  => by kernel_rfl
noncomputable def o6 := ob Try.f204 [.r,.r,.l,.r,.l,.l,.r,.l,.l,.r,.r,.r,.r,.r,.r,.l,.r,.l,.l,.r,.l,.l,.r]
def B6 (P : PT) (N2 : NTy k1 Pr) (N4 : NTy k2 Pr) (x0 : Value) (x1 x2 : Int) (x3 : Value) (x9 x10 x12 : Int) (H : AHeap) : Prop :=
  idxK x0 (IntKind.i64.wrap (x12 - 1)) 2 (fun b1 o2 => ldI .i64 H b1 o2 (fun v3 => ldI .i64 H b1 (o2 + 1) (fun v4 => idxK x0 x12 2 (fun b5 o6 => ldI .i64 H b5 o6 (fun v7 => ldI .i64 H b5 (o6 + 1) (fun v8 => idxK x0 x12 2 (fun b9 o10 => stK H b9 o10 [(Value.int .i64 v3), (Value.int .i64 v4)] (fun H11 => idxK x0 (IntKind.i64.wrap (x12 - 1)) 2 (fun b12 o13 => stK H11 b12 o13 [(Value.int .i64 v7), (Value.int .i64 v8)] (fun H14 => B5 P N2 N4 x0 x1 x2 x3 x9 x10 x12 H14))))))))))
theorem q6 (P : PT) (N2 : NTy k1 Pr) (N4 : NTy k2 Pr) : QD Try.prog T0 141 o6 [(0, false), (1, false), (2, false), (3, false), (4, false), (5, false), (6, false), (7, false), (8, false), (9, false), (10, false), (11, false), (12, false), (13, false), (14, false), (15, false), (16, false), (17, false)] (En 141 k2 (B5 P N2 N4)) k2 (B6 P N2 N4) := fun _ _ _ _ _ _ _ _ _  => by kernel_rfl
noncomputable def o7 := ob Try.f204 [.r,.r,.l,.r,.l,.l,.r,.l,.l,.r,.r,.r,.r,.r,.r,.l,.r,.l,.l,.r,.l,.l,.l,.l]
def B7 (P : PT) (N2 : NTy k1 Pr) (N4 : NTy k2 Pr) (x0 : Value) (x1 x2 : Int) (x3 : Value) (x9 x10 x12 : Int) (H : AHeap) : Prop :=
  idxK x0 x12 2 (fun b1 o2 => ldI .i64 H b1 o2 (fun v3 => ldI .i64 H b1 (o2 + 1) (fun v4 => idxK x0 (IntKind.i64.wrap (x12 - 1)) 2 (fun b5 o6 => ldI .i64 H b5 o6 (fun v7 => ldI .i64 H b5 (o6 + 1) (fun v8 => callV Try.prog T0 x3 [(Value.agg ⟨[(Value.int .i64 v3), (Value.int .i64 v4)]⟩), (Value.agg ⟨[(Value.int .i64 v7), (Value.int .i64 v8)]⟩)] H (fun v9 H10 => asI .i64 v9 (fun v11 => pif (!(decide ((v11 : Int) < 0))) (B3 P N2 x0 x1 x2 x3 x9 x10 H10) (B6 P N2 N4 x0 x1 x2 x3 x9 x10 x12 H10)))))))))
theorem q7 (P : PT) (N2 : NTy k1 Pr) (N4 : NTy k2 Pr) : QD Try.prog T0 141 o7 [(0, false), (1, false), (2, false), (3, false), (4, false), (5, false), (6, false), (7, false), (8, false), (9, false), (10, false), (11, false), (12, false)] (cnd 124 (En 141 k1 (B3 P N2)) (En 141 k2 (B6 P N2 N4))) k2 (B7 P N2 N4) := fun _ _ _ _ _ _ _ _ _  => by kernel_rfl
noncomputable def o8 := ob Try.f204 [.r,.r,.l,.r,.l,.l,.r,.l,.l,.r,.r,.r,.r,.r,.r,.l,.r,.l,.l,.l,.l]
def B8 (P : PT) (N2 : NTy k1 Pr) (N4 : NTy k2 Pr) (x0 : Value) (x1 x2 : Int) (x3 : Value) (x9 x10 x12 : Int) (H : AHeap) : Prop :=
  pif (decide ((x12 : Int) < x2)) (B7 P N2 N4 x0 x1 x2 x3 x9 x10 x12 H) (B3 P N2 x0 x1 x2 x3 x9 x10 H)
theorem q8 (P : PT) (N2 : NTy k1 Pr) (N4 : NTy k2 Pr) : QB Try.prog T0 141 o8 (cnd 109 (En 141 k2 (B7 P N2 N4)) (En 141 k1 (B3 P N2))) k2 (B8 P N2 N4) := fun _ _ _ _ _ _ _ _ _  => by kernel_rfl
def L4 (P : PT) (N2 : NTy k1 Pr) (x0 : Value) (x1 x2 : Int) (x3 : Value) (x9 x10 x12 : Int) (H : AHeap) : Prop :=
  ∃ (I : NTy k2 Pr) (μ : NTy k2 (AHeap → Nat)), I x0 x1 x2 x3 x9 x10 x12 H ∧ ∀ y0 y1 y2 y3 y9 y10 y12 G, I y0 y1 y2 y3 y9 y10 y12 G → B8 P N2 (fun z0 z1 z2 z3 z9 z10 z12 G' => I z0 z1 z2 z3 z9 z10 z12 G' ∧ μ z0 z1 z2 z3 z9 z10 z12 G' < μ y0 y1 y2 y3 y9 y10 y12 G) y0 y1 y2 y3 y9 y10 y12 G
theorem l4 (P : PT) (N2 : NTy k1 Pr) : LQ k2 (L4 P N2) (B8 P N2) := fun ⟨_,_,_,_,_,_,_,_⟩ _ ⟨I, μ, h0, hI⟩ => ⟨apT _ I, apT _ μ, h0, fun ⟨_,_,_,_,_,_,_,_⟩ _ h => hI _ _ _ _ _ _ _ _  h⟩
noncomputable def o9 := ob Try.f204 [.r,.r,.l,.r,.l,.l,.r,.l,.l,.r,.r,.r,.r,.r,.r,.l,.l]
def B9 (P : PT) (N2 : NTy k1 Pr) (x0 : Value) (x1 x2 : Int) (x3 : Value) (x9 x10 : Int) (H : AHeap) : Prop :=
  L4 P N2 x0 x1 x2 x3 x9 x10 (IntKind.i64.wrap (x9 + 1)) H
theorem q9 (P : PT) (N2 : NTy k1 Pr) : QB Try.prog T0 141 o9 (En 141 k2 (L4 P N2)) k1 (B9 P N2) := fun _ _ _ _ _ _ _ _  => by kernel_rfl
noncomputable def o10 := ob Try.f204 [.r,.r,.l,.r,.l,.l,.r,.l,.l,.r,.r,.r,.r,.r,.l]
def B10 (P : PT) (N2 : NTy k1 Pr) (x0 : Value) (x1 x2 : Int) (x3 : Value) (x9 x10 : Int) (H : AHeap) : Prop :=
  pif (decide ((IntKind.i64.wrap (x2 - x9) : Int) ≥ 2)) (B9 P N2 x0 x1 x2 x3 x9 x10 H) (B3 P N2 x0 x1 x2 x3 x9 x10 H)
theorem q10 (P : PT) (N2 : NTy k1 Pr) : QB Try.prog T0 141 o10 (cnd 104 (En 141 k1 (B9 P N2)) (En 141 k1 (B3 P N2))) k1 (B10 P N2) := fun _ _ _ _ _ _ _ _  => by kernel_rfl
abbrev k3 : Sk := [(0,.v),(1,.i .i64),(2,.i .i64),(3,.v),(9,.i .i64),(10,.i .i64),(11,.i .i64)]
noncomputable def o12 := ob Try.f204 [.r,.r,.l,.r,.l,.l,.r,.l,.l,.r,.r,.r,.r,.l,.r,.l,.r,.l,.l,.r,.r]
def B12 (P : PT) (N2 : NTy k1 Pr) (N11 : NTy k3 Pr) (x0 : Value) (x1 x2 : Int) (x3 : Value) (x9 x10 x11 : Int) (H : AHeap) : Prop :=
  N11 x0 x1 x2 x3 x9 x10 (IntKind.i64.wrap (x11 - 1)) H
theorem q12 (P : PT) (N2 : NTy k1 Pr) (N11 : NTy k3 Pr) : QB Try.prog T0 141 o12 (En 141 k3 N11) k3 (B12 P N2 N11) := fun _ _ _ _ _ _ _ _ _  => by kernel_rfl
noncomputable def o13 := ob Try.f204 [.r,.r,.l,.r,.l,.l,.r,.l,.l,.r,.r,.r,.r,.l,.r,.l,.r,.l,.l,.r,.l,.l,.r]
def B13 (P : PT) (N2 : NTy k1 Pr) (N11 : NTy k3 Pr) (x0 : Value) (x1 x2 : Int) (x3 : Value) (x9 x10 x11 : Int) (H : AHeap) : Prop :=
  idxK x0 (IntKind.i64.wrap (x11 - 1)) 2 (fun b1 o2 => ldI .i64 H b1 o2 (fun v3 => ldI .i64 H b1 (o2 + 1) (fun v4 => idxK x0 x11 2 (fun b5 o6 => ldI .i64 H b5 o6 (fun v7 => ldI .i64 H b5 (o6 + 1) (fun v8 => idxK x0 x11 2 (fun b9 o10 => stK H b9 o10 [(Value.int .i64 v3), (Value.int .i64 v4)] (fun H11 => idxK x0 (IntKind.i64.wrap (x11 - 1)) 2 (fun b12 o13 => stK H11 b12 o13 [(Value.int .i64 v7), (Value.int .i64 v8)] (fun H14 => B12 P N2 N11 x0 x1 x2 x3 x9 x10 x11 H14))))))))))
theorem q13 (P : PT) (N2 : NTy k1 Pr) (N11 : NTy k3 Pr) : QD Try.prog T0 141 o13 [(0, false), (1, false), (2, false), (3, false), (4, false), (5, false), (6, false), (7, false), (8, false), (9, false), (10, false), (11, false), (12, false), (13, false), (14, false), (15, false), (16, false), (17, false)] (En 141 k3 (B12 P N2 N11)) k3 (B13 P N2 N11) := fun _ _ _ _ _ _ _ _ _  => by kernel_rfl
noncomputable def o14 := ob Try.f204 [.r,.r,.l,.r,.l,.l,.r,.l,.l,.r,.r,.r,.r,.l,.r,.l,.r,.l,.l,.r,.l,.l,.l,.l]
def B14 (P : PT) (N2 : NTy k1 Pr) (N11 : NTy k3 Pr) (x0 : Value) (x1 x2 : Int) (x3 : Value) (x9 x10 x11 : Int) (H : AHeap) : Prop :=
  idxK x0 x11 2 (fun b1 o2 => ldI .i64 H b1 o2 (fun v3 => ldI .i64 H b1 (o2 + 1) (fun v4 => idxK x0 (IntKind.i64.wrap (x11 - 1)) 2 (fun b5 o6 => ldI .i64 H b5 o6 (fun v7 => ldI .i64 H b5 (o6 + 1) (fun v8 => callV Try.prog T0 x3 [(Value.agg ⟨[(Value.int .i64 v3), (Value.int .i64 v4)]⟩), (Value.agg ⟨[(Value.int .i64 v7), (Value.int .i64 v8)]⟩)] H (fun v9 H10 => asI .i64 v9 (fun v11 => pif (!(decide ((v11 : Int) < 0))) (B10 P N2 x0 x1 x2 x3 x9 x10 H10) (B13 P N2 N11 x0 x1 x2 x3 x9 x10 x11 H10)))))))))
theorem q14 (P : PT) (N2 : NTy k1 Pr) (N11 : NTy k3 Pr) : QD Try.prog T0 141 o14 [(0, false), (1, false), (2, false), (3, false), (4, false), (5, false), (6, false), (7, false), (8, false), (9, false), (10, false), (11, false), (12, false)] (cnd 84 (En 141 k1 (B10 P N2)) (En 141 k3 (B13 P N2 N11))) k3 (B14 P N2 N11) := fun _ _ _ _ _ _ _ _ _  => by kernel_rfl
noncomputable def o15 := ob Try.f204 [.r,.r,.l,.r,.l,.l,.r,.l,.l,.r,.r,.r,.r,.l,.r,.l,.r,.l,.l,.l,.l]
def B15 (P : PT) (N2 : NTy k1 Pr) (N11 : NTy k3 Pr) (x0 : Value) (x1 x2 : Int) (x3 : Value) (x9 x10 x11 : Int) (H : AHeap) : Prop :=
  pif (decide ((x11 : Int) ≥ 1)) (B14 P N2 N11 x0 x1 x2 x3 x9 x10 x11 H) (B10 P N2 x0 x1 x2 x3 x9 x10 H)
theorem q15 (P : PT) (N2 : NTy k1 Pr) (N11 : NTy k3 Pr) : QB Try.prog T0 141 o15 (cnd 69 (En 141 k3 (B14 P N2 N11)) (En 141 k1 (B10 P N2))) k3 (B15 P N2 N11) := fun _ _ _ _ _ _ _ _ _  => by kernel_rfl
def L11 (P : PT) (N2 : NTy k1 Pr) (x0 : Value) (x1 x2 : Int) (x3 : Value) (x9 x10 x11 : Int) (H : AHeap) : Prop :=
  ∃ (I : NTy k3 Pr) (μ : NTy k3 (AHeap → Nat)), I x0 x1 x2 x3 x9 x10 x11 H ∧ ∀ y0 y1 y2 y3 y9 y10 y11 G, I y0 y1 y2 y3 y9 y10 y11 G → B15 P N2 (fun z0 z1 z2 z3 z9 z10 z11 G' => I z0 z1 z2 z3 z9 z10 z11 G' ∧ μ z0 z1 z2 z3 z9 z10 z11 G' < μ y0 y1 y2 y3 y9 y10 y11 G) y0 y1 y2 y3 y9 y10 y11 G
theorem l11 (P : PT) (N2 : NTy k1 Pr) : LQ k3 (L11 P N2) (B15 P N2) := fun ⟨_,_,_,_,_,_,_,_⟩ _ ⟨I, μ, h0, hI⟩ => ⟨apT _ I, apT _ μ, h0, fun ⟨_,_,_,_,_,_,_,_⟩ _ h => hI _ _ _ _ _ _ _ _  h⟩
noncomputable def o16 := ob Try.f204 [.r,.r,.l,.r,.l,.l,.r,.l,.l,.r,.r,.r,.r,.l,.r,.l,.l]
def B16 (P : PT) (N2 : NTy k1 Pr) (x0 : Value) (x1 x2 : Int) (x3 : Value) (x9 x10 : Int) (H : AHeap) : Prop :=
  L11 P N2 x0 x1 x2 x3 x9 x10 (IntKind.i64.wrap (x9 - 1)) H
theorem q16 (P : PT) (N2 : NTy k1 Pr) : QB Try.prog T0 141 o16 (En 141 k3 (L11 P N2)) k1 (B16 P N2) := fun _ _ _ _ _ _ _ _  => by kernel_rfl
noncomputable def o17 := ob Try.f204 [.r,.r,.l,.r,.l,.l,.r,.l,.l,.r,.r,.r,.r,.l,.l]
def B17 (P : PT) (N2 : NTy k1 Pr) (x0 : Value) (x1 x2 : Int) (x3 : Value) (x9 x10 : Int) (H : AHeap) : Prop :=
  pif (decide ((IntKind.i64.wrap (x9 - x1) : Int) ≥ 2)) (B16 P N2 x0 x1 x2 x3 x9 x10 H) (B10 P N2 x0 x1 x2 x3 x9 x10 H)
theorem q17 (P : PT) (N2 : NTy k1 Pr) : QB Try.prog T0 141 o17 (cnd 65 (En 141 k1 (B16 P N2)) (En 141 k1 (B10 P N2))) k1 (B17 P N2) := fun _ _ _ _ _ _ _ _  => by kernel_rfl
noncomputable def o18 := ob Try.f204 [.r,.r,.l,.r,.l,.l,.r,.l,.l,.r,.r,.r,.l]
def B18 (P : PT) (N2 : NTy k1 Pr) (x0 : Value) (x1 x2 : Int) (x3 : Value) (x9 x10 : Int) (H : AHeap) : Prop :=
  idxK x0 (IntKind.i64.wrap (x9 - 1)) 2 (fun b1 o2 => ldI .i64 H b1 o2 (fun v3 => ldI .i64 H b1 (o2 + 1) (fun v4 => idxK x0 x9 2 (fun b5 o6 => ldI .i64 H b5 o6 (fun v7 => ldI .i64 H b5 (o6 + 1) (fun v8 => idxK x0 x9 2 (fun b9 o10 => stK H b9 o10 [(Value.int .i64 v3), (Value.int .i64 v4)] (fun H11 => idxK x0 (IntKind.i64.wrap (x9 - 1)) 2 (fun b12 o13 => stK H11 b12 o13 [(Value.int .i64 v7), (Value.int .i64 v8)] (fun H14 => B17 P N2 x0 x1 x2 x3 x9 x10 H14))))))))))
theorem q18 (P : PT) (N2 : NTy k1 Pr) : QD Try.prog T0 141 o18 [(0, false), (1, false), (2, false), (3, false), (4, false), (5, false), (6, false), (7, false), (8, false), (9, false), (10, false), (11, false), (12, false), (13, false), (14, false), (15, false), (16, false), (17, false)] (En 141 k1 (B17 P N2)) k1 (B18 P N2) := fun _ _ _ _ _ _ _ _  => by kernel_rfl
noncomputable def o19 := ob Try.f204 [.r,.r,.l,.r,.l,.l,.r,.l,.l,.r,.r,.l,.r,.l,.l]
def B19 (P : PT) (N2 : NTy k1 Pr) (H : AHeap) : Prop :=
  P (Value.bool false) H
theorem q19 (P : PT) (N2 : NTy k1 Pr) : QB Try.prog T0 141 o19 (ret P) k0 (B19 P N2) := fun _ _  => by kernel_rfl
noncomputable def o20 := ob Try.f204 [.r,.r,.l,.r,.l,.l,.r,.l,.l,.r,.r,.l,.l]
def B20 (P : PT) (N2 : NTy k1 Pr) (x0 : Value) (x1 x2 : Int) (x3 : Value) (x9 x10 : Int) (H : AHeap) : Prop :=
  pif (decide ((IntKind.i64.wrap (x2 - x1) : Int) < 50)) (B19 P N2 H) (B18 P N2 x0 x1 x2 x3 x9 x10 H)
theorem q20 (P : PT) (N2 : NTy k1 Pr) : QB Try.prog T0 141 o20 (cnd 45 (En 141 k0 (B19 P N2)) (En 141 k1 (B18 P N2))) k1 (B20 P N2) := fun _ _ _ _ _ _ _ _  => by kernel_rfl
noncomputable def o21 := ob Try.f204 [.r,.r,.l,.r,.l,.l,.r,.l,.l,.r,.l,.r,.l,.l]
def B21 (P : PT) (N2 : NTy k1 Pr) (H : AHeap) : Prop :=
  P (Value.bool true) H
theorem q21 (P : PT) (N2 : NTy k1 Pr) : QB Try.prog T0 141 o21 (ret P) k0 (B21 P N2) := fun _ _  => by kernel_rfl
noncomputable def o22 := ob Try.f204 [.r,.r,.l,.r,.l,.l,.r,.l,.l,.r,.l,.l]
def B22 (P : PT) (N2 : NTy k1 Pr) (x0 : Value) (x1 x2 : Int) (x3 : Value) (x9 x10 : Int) (H : AHeap) : Prop :=
  pif ((x9 : Int) == x2) (B21 P N2 H) (B20 P N2 x0 x1 x2 x3 x9 x10 H)
theorem q22 (P : PT) (N2 : NTy k1 Pr) : QB Try.prog T0 141 o22 (cnd 41 (En 141 k0 (B21 P N2)) (En 141 k1 (B20 P N2))) k1 (B22 P N2) := fun _ _ _ _ _ _ _ _  => by kernel_rfl
noncomputable def o24 := ob Try.f204 [.r,.r,.l,.r,.l,.l,.r,.l,.l,.l,.l,.l,.r,.l]
def B24 (P : PT) (N2 : NTy k1 Pr) (N23 : NTy k1 Pr) (x0 : Value) (x1 x2 : Int) (x3 : Value) (x9 x10 : Int) (H : AHeap) : Prop :=
  N23 x0 x1 x2 x3 (IntKind.i64.wrap (x9 + 1)) x10 H
theorem q24 (P : PT) (N2 : NTy k1 Pr) (N23 : NTy k1 Pr) : QB Try.prog T0 141 o24 (En 141 k1 N23) k1 (B24 P N2 N23) := fun _ _ _ _ _ _ _ _  => by kernel_rfl
noncomputable def o25 := ob Try.f204 [.r,.r,.l,.r,.l,.l,.r,.l,.l,.l,.l,.l,.l,.l]
def B25 (P : PT) (N2 : NTy k1 Pr) (N23 : NTy k1 Pr) (x0 : Value) (x1 x2 : Int) (x3 : Value) (x9 x10 : Int) (H : AHeap) : Prop :=
  pif (decide ((x9 : Int) < x2)) (idxK x0 x9 2 (fun b1 o2 => ldI .i64 H b1 o2 (fun v3 => ldI .i64 H b1 (o2 + 1) (fun v4 => idxK x0 (IntKind.i64.wrap (x9 - 1)) 2 (fun b5 o6 => ldI .i64 H b5 o6 (fun v7 => ldI .i64 H b5 (o6 + 1) (fun v8 => callV Try.prog T0 x3 [(Value.agg ⟨[(Value.int .i64 v3), (Value.int .i64 v4)]⟩), (Value.agg ⟨[(Value.int .i64 v7), (Value.int .i64 v8)]⟩)] H (fun v9 H10 => asI .i64 v9 (fun v11 => pif (!(decide ((v11 : Int) < 0))) (B24 P N2 N23 x0 x1 x2 x3 x9 x10 H10) (B22 P N2 x0 x1 x2 x3 x9 x10 H10)))))))))) (B22 P N2 x0 x1 x2 x3 x9 x10 H)
theorem q25 (P : PT) (N2 : NTy k1 Pr) (N23 : NTy k1 Pr) : QD Try.prog T0 141 o25 [(0, false), (1, false), (2, false), (3, false), (4, false), (5, false), (6, false), (7, false), (8, false), (9, false), (10, false), (11, false), (12, false), (13, false), (14, false), (15, false), (16, false), (17, false)] (cnd 36 (En 141 k1 (B24 P N2 N23)) (En 141 k1 (B22 P N2))) k1 (B25 P N2 N23) := fun _ _ _ _ _ _ _ _  => by kernel_rfl
def L23 (P : PT) (N2 : NTy k1 Pr) (x0 : Value) (x1 x2 : Int) (x3 : Value) (x9 x10 : Int) (H : AHeap) : Prop :=
  ∃ (I : NTy k1 Pr) (μ : NTy k1 (AHeap → Nat)), I x0 x1 x2 x3 x9 x10 H ∧ ∀ y0 y1 y2 y3 y9 y10 G, I y0 y1 y2 y3 y9 y10 G → B25 P N2 (fun z0 z1 z2 z3 z9 z10 G' => I z0 z1 z2 z3 z9 z10 G' ∧ μ z0 z1 z2 z3 z9 z10 G' < μ y0 y1 y2 y3 y9 y10 G) y0 y1 y2 y3 y9 y10 G
theorem l23 (P : PT) (N2 : NTy k1 Pr) : LQ k1 (L23 P N2) (B25 P N2) := fun ⟨_,_,_,_,_,_,_⟩ _ ⟨I, μ, h0, hI⟩ => ⟨apT _ I, apT _ μ, h0, fun ⟨_,_,_,_,_,_,_⟩ _ h => hI _ _ _ _ _ _ _  h⟩
noncomputable def o26 := ob Try.f204 [.r,.r,.l,.r,.l,.l,.l,.l]
def B26 (P : PT) (N2 : NTy k1 Pr) (x0 : Value) (x1 x2 : Int) (x3 : Value) (x9 x10 : Int) (H : AHeap) : Prop :=
  pif (decide ((x10 : Int) < 5)) (L23 P N2 x0 x1 x2 x3 x9 x10 H) (B1 P H)
theorem q26 (P : PT) (N2 : NTy k1 Pr) : QB Try.prog T0 141 o26 (cnd 16 (En 141 k1 (L23 P N2)) (En 141 k0 (B1 P))) k1 (B26 P N2) := fun _ _ _ _ _ _ _ _  => by kernel_rfl
def L2 (P : PT) (x0 : Value) (x1 x2 : Int) (x3 : Value) (x9 x10 : Int) (H : AHeap) : Prop :=
  ∃ (I : NTy k1 Pr) (μ : NTy k1 (AHeap → Nat)), I x0 x1 x2 x3 x9 x10 H ∧ ∀ y0 y1 y2 y3 y9 y10 G, I y0 y1 y2 y3 y9 y10 G → B26 P (fun z0 z1 z2 z3 z9 z10 G' => I z0 z1 z2 z3 z9 z10 G' ∧ μ z0 z1 z2 z3 z9 z10 G' < μ y0 y1 y2 y3 y9 y10 G) y0 y1 y2 y3 y9 y10 G
theorem l2 (P : PT) : LQ k1 (L2 P) (B26 P) := fun ⟨_,_,_,_,_,_,_⟩ _ ⟨I, μ, h0, hI⟩ => ⟨apT _ I, apT _ μ, h0, fun ⟨_,_,_,_,_,_,_⟩ _ h => hI _ _ _ _ _ _ _  h⟩
abbrev k4 : Sk := [(0,.v),(1,.i .i64),(2,.i .i64),(3,.v),(9,.i .i64)]
noncomputable def o27 := ob Try.f204 [.r,.r,.l,.l]
def B27 (P : PT) (x0 : Value) (x1 x2 : Int) (x3 : Value) (x9 : Int) (H : AHeap) : Prop :=
  L2 P x0 x1 x2 x3 x9 0 H
theorem q27 (P : PT) : QB Try.prog T0 141 o27 (En 141 k1 (L2 P)) k4 (B27 P) := fun _ _ _ _ _ _ _  => by kernel_rfl
abbrev k5 : Sk := [(0,.v),(1,.i .i64),(2,.i .i64),(3,.v)]
noncomputable def o28 := ob Try.f204 [.r,.l]
def B28 (P : PT) (x0 : Value) (x1 x2 : Int) (x3 : Value) (H : AHeap) : Prop :=
  B27 P x0 x1 x2 x3 (IntKind.i64.wrap (x1 + 1)) H
theorem q28 (P : PT) : QB Try.prog T0 141 o28 (En 141 k4 (B27 P)) k5 (B28 P) := fun _ _ _ _ _ _  => by kernel_rfl
noncomputable def o29 := ob Try.f204 [.l]
def B29 (P : PT) (x0 : Value) (x1 x2 : Int) (x3 : Value) (H : AHeap) : Prop :=
  B28 P x0 x1 x2 x3 H
theorem q29 (P : PT) : QB Try.prog T0 141 o29 (En 141 k5 (B28 P)) k5 (B29 P) := fun _ _ _ _ _ _  => by kernel_rfl
noncomputable def code : Code := (.seq (.region 0 ⟨o29⟩ false) (.seq (.region 1 ⟨o28⟩ false) (.seq (.seq (.region 2 ⟨o27⟩ false) (.block 0 (.loop (.seq (.seq (.region 3 ⟨o26⟩ false) (.cond (.tmp 16) .skip (.exit 0))) (.seq (.block 1 (.seq (.block 2 (.loop (.seq (.seq (.region 5 ⟨o25⟩ true) (.cond (.tmp 36) .skip (.exit 2))) (.block 3 (.region 6 ⟨o24⟩ false))))) (.seq (.seq (.region 7 ⟨o22⟩ false) (.cond (.tmp 41) (.seq (.region 8 ⟨o21⟩ false) .ret) .skip)) (.seq (.seq (.region 9 ⟨o20⟩ false) (.cond (.tmp 45) (.seq (.region 10 ⟨o19⟩ false) .ret) .skip)) (.seq (.region 11 ⟨o18⟩ true) (.seq (.seq (.region 12 ⟨o17⟩ false) (.cond (.tmp 65) (.seq (.region 13 ⟨o16⟩ false) (.block 4 (.loop (.seq (.seq (.region 14 ⟨o15⟩ false) (.cond (.tmp 69) .skip (.exit 4))) (.seq (.block 5 (.seq (.seq (.region 16 ⟨o14⟩ true) (.cond (.tmp 84) (.exit 4) .skip)) (.region 17 ⟨o13⟩ true))) (.region 15 ⟨o12⟩ false)))))) .skip)) (.seq (.region 18 ⟨o10⟩ false) (.cond (.tmp 104) (.seq (.region 19 ⟨o9⟩ false) (.block 6 (.loop (.seq (.seq (.region 20 ⟨o8⟩ false) (.cond (.tmp 109) .skip (.exit 6))) (.seq (.block 7 (.seq (.seq (.region 22 ⟨o7⟩ true) (.cond (.tmp 124) (.exit 6) .skip)) (.region 23 ⟨o6⟩ true))) (.region 21 ⟨o5⟩ false)))))) .skip)))))))) (.region 4 ⟨o3⟩ false)))))) (.seq (.region 24 ⟨o1⟩ false) .ret))))
theorem body : Try.f204.body = some code := by kernel_rfl
theorem main (P : PT) : ∀ env H, (En 141 k5 (B29 P)) env H → AW Try.prog T0 code env H (mkQ (ret P) (fun _ _ _ => False) (ret P)) :=
  (r_seq (rB T0_ok (q29 P)) (r_seq (rB T0_ok (q28 P)) (r_seq (r_seq (rB T0_ok (q27 P)) (r_block (rL (l2 P) (fun N2 => (r_seq (r_seq (rB T0_ok (q26 P N2)) (r_cond rfl r_skip (r_exit (fun _ _ h => h)))) (r_seq (r_block (r_seq (r_block (rL (l23 P N2) (fun N23 => (r_seq (r_seq (rD T0_ok mixed [(0, false), (1, false), (2, false), (3, false), (4, false), (5, false), (6, false), (7, false), (8, false), (9, false), (10, false), (11, false), (12, false), (13, false), (14, false), (15, false), (16, false), (17, false)] (by kernel_rfl) (q25 P N2 N23)) (r_cond rfl r_skip (r_exit (fun _ _ h => h)))) (r_block (rB T0_ok (q24 P N2 N23))))))) (r_seq (r_seq (rB T0_ok (q22 P N2)) (r_cond rfl (r_seq (rB T0_ok (q21 P N2)) r_ret) r_skip)) (r_seq (r_seq (rB T0_ok (q20 P N2)) (r_cond rfl (r_seq (rB T0_ok (q19 P N2)) r_ret) r_skip)) (r_seq (rD T0_ok mixed [(0, false), (1, false), (2, false), (3, false), (4, false), (5, false), (6, false), (7, false), (8, false), (9, false), (10, false), (11, false), (12, false), (13, false), (14, false), (15, false), (16, false), (17, false)] (by kernel_rfl) (q18 P N2)) (r_seq (r_seq (rB T0_ok (q17 P N2)) (r_cond rfl (r_seq (rB T0_ok (q16 P N2)) (r_block (rL (l11 P N2) (fun N11 => (r_seq (r_seq (rB T0_ok (q15 P N2 N11)) (r_cond rfl r_skip (r_exit (fun _ _ h => h)))) (r_seq (r_block (r_seq (r_seq (rD T0_ok mixed [(0, false), (1, false), (2, false), (3, false), (4, false), (5, false), (6, false), (7, false), (8, false), (9, false), (10, false), (11, false), (12, false)] (by kernel_rfl) (q14 P N2 N11)) (r_cond rfl (r_exit (fun _ _ h => h)) r_skip)) (rD T0_ok mixed [(0, false), (1, false), (2, false), (3, false), (4, false), (5, false), (6, false), (7, false), (8, false), (9, false), (10, false), (11, false), (12, false), (13, false), (14, false), (15, false), (16, false), (17, false)] (by kernel_rfl) (q13 P N2 N11)))) (rB T0_ok (q12 P N2 N11)))))))) r_skip)) (r_seq (rB T0_ok (q10 P N2)) (r_cond rfl (r_seq (rB T0_ok (q9 P N2)) (r_block (rL (l4 P N2) (fun N4 => (r_seq (r_seq (rB T0_ok (q8 P N2 N4)) (r_cond rfl r_skip (r_exit (fun _ _ h => h)))) (r_seq (r_block (r_seq (r_seq (rD T0_ok mixed [(0, false), (1, false), (2, false), (3, false), (4, false), (5, false), (6, false), (7, false), (8, false), (9, false), (10, false), (11, false), (12, false)] (by kernel_rfl) (q7 P N2 N4)) (r_cond rfl (r_exit (fun _ _ h => h)) r_skip)) (rD T0_ok mixed [(0, false), (1, false), (2, false), (3, false), (4, false), (5, false), (6, false), (7, false), (8, false), (9, false), (10, false), (11, false), (12, false), (13, false), (14, false), (15, false), (16, false), (17, false)] (by kernel_rfl) (q6 P N2 N4)))) (rB T0_ok (q5 P N2 N4)))))))) r_skip)))))))) (rB T0_ok (q3 P N2)))))))) (r_seq (rB T0_ok (q1 P)) r_ret))))
theorem ac (P : PT) (x0 : Value) (x1 x2 : Int) (x3 : Value) (H : AHeap) (h : B29 P x0 x1 x2 x3 H) : AC Try.prog T0 204 [x0, (Value.int .i64 x1), (Value.int .i64 x2), x3] H P :=
  r_fn T0_ok (c := code) (n := 141) Try.func204 body (by kernel_rfl) (main P) (En_mk (x0, x1, x2, x3, ()) (by kernel_rfl) ⟨by kernel_rfl, by kernel_rfl, by kernel_rfl, by kernel_rfl, trivial⟩ h)

end F204
-- slices.partitionEqualCmpFunc[loop.example/g01329/impl.Edge]
namespace F205
noncomputable def ret (P : PT) : EP := retE T0 90 Try.f205 P
abbrev k0 : Sk := [(11,.i .i64)]
noncomputable def o1 := ob Try.f205 [.r,.r,.r,.r,.l]
def B1 (P : PT) (x11 : Int) (H : AHeap) : Prop :=
  P (Value.int .i64 x11) H
theorem q1 (P : PT) : QB Try.prog T0 90 o1 (ret P) k0 (B1 P) := fun _ _ _  => by kernel_rfl
abbrev k1 : Sk := [(0,.v),(1,.i .i64),(4,.v),(11,.i .i64),(12,.i .i64)]
noncomputable def o3 := ob Try.f205 [.r,.r,.r,.l,.l,.l,.l,.r,.r,.r,.r,.r]
def B3 (P : PT) (N2 : NTy k1 Pr) (x0 : Value) (x1 : Int) (x4 : Value) (x11 x12 : Int) (H : AHeap) : Prop :=
  N2 x0 x1 x4 x11 (IntKind.i64.wrap (x12 - 1)) H
theorem q3 (P : PT) (N2 : NTy k1 Pr) : QB Try.prog T0 90 o3 (En 90 k1 N2) k1 (B3 P N2) := fun _ _ _ _ _ _ _  => by kernel_rfl
noncomputable def o4 := ob Try.f205 [.r,.r,.r,.l,.l,.l,.l,.r,.r,.r,.r,.l]
def B4 (P : PT) (N2 : NTy k1 Pr) (x0 : Value) (x1 : Int) (x4 : Value) (x11 x12 : Int) (H : AHeap) : Prop :=
  B3 P N2 x0 x1 x4 (IntKind.i64.wrap (x11 + 1)) x12 H
theorem q4 (P : PT) (N2 : NTy k1 Pr) : QB Try.prog T0 90 o4 (En 90 k1 (B3 P N2)) k1 (B4 P N2) := fun _ _ _ _ _ _ _  => by kernel_rfl
noncomputable def o5 := ob Try.f205 [.r,.r,.r,.l,.l,.l,.l,.r,.r,.r,.l]
def B5 (P : PT) (N2 : NTy k1 Pr) (x0 : Value) (x1 : Int) (x4 : Value) (x11 x12 : Int) (H : AHeap) : Prop :=
  idxK x0 x12 2 (fun b1 o2 => ldI .i64 H b1 o2 (fun v3 => ldI .i64 H b1 (o2 + 1) (fun v4 => idxK x0 x11 2 (fun b5 o6 => ldI .i64 H b5 o6 (fun v7 => ldI .i64 H b5 (o6 + 1) (fun v8 => idxK x0 x11 2 (fun b9 o10 => stK H b9 o10 [(Value.int .i64 v3), (Value.int .i64 v4)] (fun H11 => idxK x0 x12 2 (fun b12 o13 => stK H11 b12 o13 [(Value.int .i64 v7), (Value.int .i64 v8)] (fun H14 => B4 P N2 x0 x1 x4 x11 x12 H14))))))))))
theorem q5 (P : PT) (N2 : NTy k1 Pr) : QD Try.prog T0 90 o5 [(0, false), (1, false), (2, false), (3, false), (4, false), (5, false), (6, false), (7, false), (8, false), (9, false), (10, false), (11, false), (12, false), (13, false), (14, false), (15, false)] (En 90 k1 (B4 P N2)) k1 (B5 P N2) := fun _ _ _ _ _ _ _  => by kernel_rfl
noncomputable def o6 := ob Try.f205 [.r,.r,.r,.l,.l,.l,.l,.r,.r,.l,.l]
def B6 (P : PT) (N2 : NTy k1 Pr) (x0 : Value) (x1 : Int) (x4 : Value) (x11 x12 : Int) (H : AHeap) : Prop :=
  pif (decide ((x11 : Int) > x12)) (B1 P x11 H) (B5 P N2 x0 x1 x4 x11 x12 H)
theorem q6 (P : PT) (N2 : NTy k1 Pr) : QB Try.prog T0 90 o6 (cnd 70 (En 90 k0 (B1 P)) (En 90 k1 (B5 P N2))) k1 (B6 P N2) := fun _ _ _ _ _ _ _  => by kernel_rfl
noncomputable def o8 := ob Try.f205 [.r,.r,.r,.l,.l,.l,.l,.r,.l,.l,.l,.r,.l]
def B8 (P : PT) (N2 : NTy k1 Pr) (N7 : NTy k1 Pr) (x0 : Value) (x1 : Int) (x4 : Value) (x11 x12 : Int) (H : AHeap) : Prop :=
  N7 x0 x1 x4 x11 (IntKind.i64.wrap (x12 - 1)) H
theorem q8 (P : PT) (N2 : NTy k1 Pr) (N7 : NTy k1 Pr) : QB Try.prog T0 90 o8 (En 90 k1 N7) k1 (B8 P N2 N7) := fun _ _ _ _ _ _ _  => by kernel_rfl
noncomputable def o9 := ob Try.f205 [.r,.r,.r,.l,.l,.l,.l,.r,.l,.l,.l,.l,.l]
def B9 (P : PT) (N2 : NTy k1 Pr) (N7 : NTy k1 Pr) (x0 : Value) (x1 : Int) (x4 : Value) (x11 x12 : Int) (H : AHeap) : Prop :=
  pif (decide ((x11 : Int) ≤ x12)) (idxK x0 x1 2 (fun b1 o2 => ldI .i64 H b1 o2 (fun v3 => ldI .i64 H b1 (o2 + 1) (fun v4 => idxK x0 x12 2 (fun b5 o6 => ldI .i64 H b5 o6 (fun v7 => ldI .i64 H b5 (o6 + 1) (fun v8 => callV Try.prog T0 x4 [(Value.agg ⟨[(Value.int .i64 v3), (Value.int .i64 v4)]⟩), (Value.agg ⟨[(Value.int .i64 v7), (Value.int .i64 v8)]⟩)] H (fun v9 H10 => asI .i64 v9 (fun v11 => pif (decide ((v11 : Int) < 0)) (B8 P N2 N7 x0 x1 x4 x11 x12 H10) (B6 P N2 x0 x1 x4 x11 x12 H10)))))))))) (B6 P N2 x0 x1 x4 x11 x12 H)
theorem q9 (P : PT) (N2 : NTy k1 Pr) (N7 : NTy k1 Pr) : QD Try.prog T0 90 o9 [(0, false), (1, false), (2, false), (3, false), (4, false), (5, false), (6, false), (7, false), (8, false), (9, false), (10, false), (11, false), (12, false), (13, false), (14, false), (15, false)] (cnd 65 (En 90 k1 (B8 P N2 N7)) (En 90 k1 (B6 P N2))) k1 (B9 P N2 N7) := fun _ _ _ _ _ _ _  => by kernel_rfl
def L7 (P : PT) (N2 : NTy k1 Pr) (x0 : Value) (x1 : Int) (x4 : Value) (x11 x12 : Int) (H : AHeap) : Prop :=
  ∃ (I : NTy k1 Pr) (μ : NTy k1 (AHeap → Nat)), I x0 x1 x4 x11 x12 H ∧ ∀ y0 y1 y4 y11 y12 G, I y0 y1 y4 y11 y12 G → B9 P N2 (fun z0 z1 z4 z11 z12 G' => I z0 z1 z4 z11 z12 G' ∧ μ z0 z1 z4 z11 z12 G' < μ y0 y1 y4 y11 y12 G) y0 y1 y4 y11 y12 G
theorem l7 (P : PT) (N2 : NTy k1 Pr) : LQ k1 (L7 P N2) (B9 P N2) := fun ⟨_,_,_,_,_,_⟩ _ ⟨I, μ, h0, hI⟩ => ⟨apT _ I, apT _ μ, h0, fun ⟨_,_,_,_,_,_⟩ _ h => hI _ _ _ _ _ _  h⟩
noncomputable def o11 := ob Try.f205 [.r,.r,.r,.l,.l,.l,.l,.l,.l,.l,.r,.l]
def B11 (P : PT) (N2 : NTy k1 Pr) (N10 : NTy k1 Pr) (x0 : Value) (x1 : Int) (x4 : Value) (x11 x12 : Int) (H : AHeap) : Prop :=
  N10 x0 x1 x4 (IntKind.i64.wrap (x11 + 1)) x12 H
theorem q11 (P : PT) (N2 : NTy k1 Pr) (N10 : NTy k1 Pr) : QB Try.prog T0 90 o11 (En 90 k1 N10) k1 (B11 P N2 N10) := fun _ _ _ _ _ _ _  => by kernel_rfl
noncomputable def o12 := ob Try.f205 [.r,.r,.r,.l,.l,.l,.l,.l,.l,.l,.l,.l]
def B12 (P : PT) (N2 : NTy k1 Pr) (N10 : NTy k1 Pr) (x0 : Value) (x1 : Int) (x4 : Value) (x11 x12 : Int) (H : AHeap) : Prop :=
  pif (decide ((x11 : Int) ≤ x12)) (idxK x0 x1 2 (fun b1 o2 => ldI .i64 H b1 o2 (fun v3 => ldI .i64 H b1 (o2 + 1) (fun v4 => idxK x0 x11 2 (fun b5 o6 => ldI .i64 H b5 o6 (fun v7 => ldI .i64 H b5 (o6 + 1) (fun v8 => callV Try.prog T0 x4 [(Value.agg ⟨[(Value.int .i64 v3), (Value.int .i64 v4)]⟩), (Value.agg ⟨[(Value.int .i64 v7), (Value.int .i64 v8)]⟩)] H (fun v9 H10 => asI .i64 v9 (fun v11 => pif (!(decide ((v11 : Int) < 0))) (B11 P N2 N10 x0 x1 x4 x11 x12 H10) (L7 P N2 x0 x1 x4 x11 x12 H10)))))))))) (L7 P N2 x0 x1 x4 x11 x12 H)
theorem q12 (P : PT) (N2 : NTy k1 Pr) (N10 : NTy k1 Pr) : QD Try.prog T0 90 o12 [(0, false), (1, false), (2, false), (3, false), (4, false), (5, false), (6, false), (7, false), (8, false), (9, false), (10, false), (11, false), (12, false), (13, false), (14, false), (15, false), (16, false)] (cnd 47 (En 90 k1 (B11 P N2 N10)) (En 90 k1 (L7 P N2))) k1 (B12 P N2 N10) := fun _ _ _ _ _ _ _  => by kernel_rfl
def L10 (P : PT) (N2 : NTy k1 Pr) (x0 : Value) (x1 : Int) (x4 : Value) (x11 x12 : Int) (H : AHeap) : Prop :=
  ∃ (I : NTy k1 Pr) (μ : NTy k1 (AHeap → Nat)), I x0 x1 x4 x11 x12 H ∧ ∀ y0 y1 y4 y11 y12 G, I y0 y1 y4 y11 y12 G → B12 P N2 (fun z0 z1 z4 z11 z12 G' => I z0 z1 z4 z11 z12 G' ∧ μ z0 z1 z4 z11 z12 G' < μ y0 y1 y4 y11 y12 G) y0 y1 y4 y11 y12 G
theorem l10 (P : PT) (N2 : NTy k1 Pr) : LQ k1 (L10 P N2) (B12 P N2) := fun ⟨_,_,_,_,_,_⟩ _ ⟨I, μ, h0, hI⟩ => ⟨apT _ I, apT _ μ, h0, fun ⟨_,_,_,_,_,_⟩ _ h => hI _ _ _ _ _ _  h⟩
def L2 (P : PT) (x0 : Value) (x1 : Int) (x4 : Value) (x11 x12 : Int) (H : AHeap) : Prop :=
  ∃ (I : NTy k1 Pr) (μ : NTy k1 (AHeap → Nat)), I x0 x1 x4 x11 x12 H ∧ ∀ y0 y1 y4 y11 y12 G, I y0 y1 y4 y11 y12 G → L10 P (fun z0 z1 z4 z11 z12 G' => I z0 z1 z4 z11 z12 G' ∧ μ z0 z1 z4 z11 z12 G' < μ y0 y1 y4 y11 y12 G) y0 y1 y4 y11 y12 G
theorem l2 (P : PT) : LQ k1 (L2 P) (L10 P) := fun ⟨_,_,_,_,_,_⟩ _ ⟨I, μ, h0, hI⟩ => ⟨apT _ I, apT _ μ, h0, fun ⟨_,_,_,_,_,_⟩ _ h => hI _ _ _ _ _ _  h⟩
abbrev k2 : Sk := [(0,.v),(1,.i .i64),(2,.i .i64),(4,.v)]
noncomputable def o13 := ob Try.f205 [.r,.r,.l]
def B13 (P : PT) (x0 : Value) (x1 x2 : Int) (x4 : Value) (H : AHeap) : Prop :=
  L2 P x0 x1 x4 (IntKind.i64.wrap (x1 + 1)) (IntKind.i64.wrap (x2 - 1)) H
theorem q13 (P : PT) : QB Try.prog T0 90 o13 (En 90 k1 (L2 P)) k2 (B13 P) := fun _ _ _ _ _ _  => by kernel_rfl
abbrev k3 : Sk := [(0,.v),(1,.i .i64),(2,.i .i64),(3,.i .i64),(4,.v)]
noncomputable def o14 := ob Try.f205 [.r,.l]
def B14 (P : PT) (x0 : Value) (x1 x2 x3 : Int) (x4 : Value) (H : AHeap) : Prop :=
  idxK x0 x3 2 (fun b1 o2 => ldI .i64 H b1 o2 (fun v3 => ldI .i64 H b1 (o2 + 1) (fun v4 => idxK x0 x1 2 (fun b5 o6 => ldI .i64 H b5 o6 (fun v7 => ldI .i64 H b5 (o6 + 1) (fun v8 => idxK x0 x1 2 (fun b9 o10 => stK H b9 o10 [(Value.int .i64 v3), (Value.int .i64 v4)] (fun H11 => idxK x0 x3 2 (fun b12 o13 => stK H11 b12 o13 [(Value.int .i64 v7), (Value.int .i64 v8)] (fun H14 => B13 P x0 x1 x2 x4 H14))))))))))
theorem q14 (P : PT) : QD Try.prog T0 90 o14 [(0, false), (1, false), (2, false), (3, false), (4, false), (5, false), (6, false), (7, false), (8, false), (9, false), (10, false), (11, false), (12, false), (13, false), (14, false), (15, false)] (En 90 k2 (B13 P)) k3 (B14 P) := fun _ _ _ _ _ _ _  => by kernel_rfl
noncomputable def o15 := ob Try.f205 [.l]
def B15 (P : PT) (x0 : Value) (x1 x2 x3 : Int) (x4 : Value) (H : AHeap) : Prop :=
  B14 P x0 x1 x2 x3 x4 H
theorem q15 (P : PT) : QB Try.prog T0 90 o15 (En 90 k3 (B14 P)) k3 (B15 P) := fun _ _ _ _ _ _ _  => by kernel_rfl
noncomputable def code : Code := (.seq (.region 0 ⟨o15⟩ false) (.seq (.region 1 ⟨o14⟩ true) (.seq (.region 2 ⟨o13⟩ false) (.seq (.block 0 (.loop (.block 1 (.seq (.block 2 (.loop (.seq (.seq (.region 3 ⟨o12⟩ true) (.cond (.tmp 47) .skip (.exit 2))) (.block 3 (.region 4 ⟨o11⟩ false))))) (.seq (.block 4 (.loop (.seq (.seq (.region 5 ⟨o9⟩ true) (.cond (.tmp 65) .skip (.exit 4))) (.block 5 (.region 6 ⟨o8⟩ false))))) (.seq (.seq (.region 7 ⟨o6⟩ false) (.cond (.tmp 70) (.exit 0) .skip)) (.seq (.region 8 ⟨o5⟩ true) (.seq (.region 9 ⟨o4⟩ false) (.region 10 ⟨o3⟩ false))))))))) (.seq (.region 11 ⟨o1⟩ false) .ret)))))
theorem body : Try.f205.body = some code := by kernel_rfl
theorem main (P : PT) : ∀ env H, (En 90 k3 (B15 P)) env H → AW Try.prog T0 code env H (mkQ (ret P) (fun _ _ _ => False) (ret P)) :=
  (r_seq (rB T0_ok (q15 P)) (r_seq (rD T0_ok mixed [(0, false), (1, false), (2, false), (3, false), (4, false), (5, false), (6, false), (7, false), (8, false), (9, false), (10, false), (11, false), (12, false), (13, false), (14, false), (15, false)] (by kernel_rfl) (q14 P)) (r_seq (rB T0_ok (q13 P)) (r_seq (r_block (rL (l2 P) (fun N2 => (r_block (r_seq (r_block (rL (l10 P N2) (fun N10 => (r_seq (r_seq (rD T0_ok mixed [(0, false), (1, false), (2, false), (3, false), (4, false), (5, false), (6, false), (7, false), (8, false), (9, false), (10, false), (11, false), (12, false), (13, false), (14, false), (15, false), (16, false)] (by kernel_rfl) (q12 P N2 N10)) (r_cond rfl r_skip (r_exit (fun _ _ h => h)))) (r_block (rB T0_ok (q11 P N2 N10))))))) (r_seq (r_block (rL (l7 P N2) (fun N7 => (r_seq (r_seq (rD T0_ok mixed [(0, false), (1, false), (2, false), (3, false), (4, false), (5, false), (6, false), (7, false), (8, false), (9, false), (10, false), (11, false), (12, false), (13, false), (14, false), (15, false)] (by kernel_rfl) (q9 P N2 N7)) (r_cond rfl r_skip (r_exit (fun _ _ h => h)))) (r_block (rB T0_ok (q8 P N2 N7))))))) (r_seq (r_seq (rB T0_ok (q6 P N2)) (r_cond rfl (r_exit (fun _ _ h => h)) r_skip)) (r_seq (rD T0_ok mixed [(0, false), (1, false), (2, false), (3, false), (4, false), (5, false), (6, false), (7, false), (8, false), (9, false), (10, false), (11, false), (12, false), (13, false), (14, false), (15, false)] (by kernel_rfl) (q5 P N2)) (r_seq (rB T0_ok (q4 P N2)) (rB T0_ok (q3 P N2))))))))))) (r_seq (rB T0_ok (q1 P)) r_ret)))))
theorem ac (P : PT) (x0 : Value) (x1 x2 x3 : Int) (x4 : Value) (H : AHeap) (h : B15 P x0 x1 x2 x3 x4 H) : AC Try.prog T0 205 [x0, (Value.int .i64 x1), (Value.int .i64 x2), (Value.int .i64 x3), x4] H P :=
  r_fn T0_ok (c := code) (n := 90) Try.func205 body (by kernel_rfl) (main P) (En_mk (x0, x1, x2, x3, x4, ()) (by kernel_rfl) ⟨by kernel_rfl, by kernel_rfl, by kernel_rfl, by kernel_rfl, by kernel_rfl, trivial⟩ h)

end F205
-- slices.partitionCmpFunc[loop.example/g01329/impl.Edge]
namespace F206
noncomputable def ret (P : PT) : EP := retE T0 178 Try.f206 P
abbrev k0 : Sk := [(13,.i .i64)]
noncomputable def o1 := ob Try.f206 [.r,.r,.r,.r,.r,.r,.r,.r,.r,.r,.r,.l]
def B1 (P : PT) (x13 : Int) (H : AHeap) : Prop :=
  P (Value.tuple ⟨[(Value.int .i64 x13), (Value.bool false)]⟩) H
theorem q1 (P : PT) : QB Try.prog T0 178 o1 (ret P) k0 (B1 P) := fun _ _ _  => by kernel_rfl
abbrev k1 : Sk := [(0,.v),(1,.i .i64),(13,.i .i64)]
noncomputable def o2 := ob Try.f206 [.r,.r,.r,.r,.r,.r,.r,.r,.r,.r,.l]
def B2 (P : PT) (x0 : Value) (x1 x13 : Int) (H : AHeap) : Prop :=
  idxK x0 x1 2 (fun b1 o2 => ldI .i64 H b1 o2 (fun v3 => ldI .i64 H b1 (o2 + 1) (fun v4 => idxK x0 x13 2 (fun b5 o6 => ldI .i64 H b5 o6 (fun v7 => ldI .i64 H b5 (o6 + 1) (fun v8 => idxK x0 x13 2 (fun b9 o10 => stK H b9 o10 [(Value.int .i64 v3), (Value.int .i64 v4)] (fun H11 => idxK x0 x1 2 (fun b12 o13 => stK H11 b12 o13 [(Value.int .i64 v7), (Value.int .i64 v8)] (fun H14 => B1 P x13 H14))))))))))
theorem q2 (P : PT) : QD Try.prog T0 178 o2 [(0, false), (1, false), (2, false), (3, false), (4, false), (5, false), (6, false), (7, false), (8, false), (9, false), (10, false), (11, false), (12, false), (13, false), (14, false), (15, false)] (En 178 k0 (B1 P)) k1 (B2 P) := fun _ _ _ _ _  => by kernel_rfl
abbrev k2 : Sk := [(0,.v),(1,.i .i64),(4,.v),(12,.i .i64),(13,.i .i64)]
noncomputable def o4 := ob Try.f206 [.r,.r,.r,.r,.r,.r,.r,.r,.r,.l,.l,.l,.l,.r,.r,.r,.r,.r]
def B4 (P : PT) (N3 : NTy k2 Pr) (x0 : Value) (x1 : Int) (x4 : Value) (x12 x13 : Int) (H : AHeap) : Prop :=
  N3 x0 x1 x4 x12 (IntKind.i64.wrap (x13 - 1)) H
theorem q4 (P : PT) (N3 : NTy k2 Pr) : QB Try.prog T0 178 o4 (En 178 k2 N3) k2 (B4 P N3) := fun _ _ _ _ _ _ _  => by kernel_rfl
noncomputable def o5 := ob Try.f206 [.r,.r,.r,.r,.r,.r,.r,.r,.r,.l,.l,.l,.l,.r,.r,.r,.r,.l]
def B5 (P : PT) (N3 : NTy k2 Pr) (x0 : Value) (x1 : Int) (x4 : Value) (x12 x13 : Int) (H : AHeap) : Prop :=
  B4 P N3 x0 x1 x4 (IntKind.i64.wrap (x12 + 1)) x13 H
theorem q5 (P : PT) (N3 : NTy k2 Pr) : QB Try.prog T0 178 o5 (En 178 k2 (B4 P N3)) k2 (B5 P N3) := fun _ _ _ _ _ _ _  => by kernel_rfl
noncomputable def o6 := ob Try.f206 [.r,.r,.r,.r,.r,.r,.r,.r,.r,.l,.l,.l,.l,.r,.r,.r,.l]
def B6 (P : PT) (N3 : NTy k2 Pr) (x0 : Value) (x1 : Int) (x4 : Value) (x12 x13 : Int) (H : AHeap) : Prop :=
  idxK x0 x13 2 (fun b1 o2 => ldI .i64 H b1 o2 (fun v3 => ldI .i64 H b1 (o2 + 1) (fun v4 => idxK x0 x12 2 (fun b5 o6 => ldI .i64 H b5 o6 (fun v7 => ldI .i64 H b5 (o6 + 1) (fun v8 => idxK x0 x12 2 (fun b9 o10 => stK H b9 o10 [(Value.int .i64 v3), (Value.int .i64 v4)] (fun H11 => idxK x0 x13 2 (fun b12 o13 => stK H11 b12 o13 [(Value.int .i64 v7), (Value.int .i64 v8)] (fun H14 => B5 P N3 x0 x1 x4 x12 x13 H14))))))))))
theorem q6 (P : PT) (N3 : NTy k2 Pr) : QD Try.prog T0 178 o6 [(0, false), (1, false), (2, false), (3, false), (4, false), (5, false), (6, false), (7, false), (8, false), (9, false), (10, false), (11, false), (12, false), (13, false), (14, false), (15, false)] (En 178 k2 (B5 P N3)) k2 (B6 P N3) := fun _ _ _ _ _ _ _  => by kernel_rfl
noncomputable def o7 := ob Try.f206 [.r,.r,.r,.r,.r,.r,.r,.r,.r,.l,.l,.l,.l,.r,.r,.l,.l]
def B7 (P : PT) (N3 : NTy k2 Pr) (x0 : Value) (x1 : Int) (x4 : Value) (x12 x13 : Int) (H : AHeap) : Prop :=
  pif (decide ((x12 : Int) > x13)) (B2 P x0 x1 x13 H) (B6 P N3 x0 x1 x4 x12 x13 H)
theorem q7 (P : PT) (N3 : NTy k2 Pr) : QB Try.prog T0 178 o7 (cnd 144 (En 178 k1 (B2 P)) (En 178 k2 (B6 P N3))) k2 (B7 P N3) := fun _ _ _ _ _ _ _  => by kernel_rfl
noncomputable def o9 := ob Try.f206 [.r,.r,.r,.r,.r,.r,.r,.r,.r,.l,.l,.l,.l,.r,.l,.l,.l,.r,.l]
def B9 (P : PT) (N3 : NTy k2 Pr) (N8 : NTy k2 Pr) (x0 : Value) (x1 : Int) (x4 : Value) (x12 x13 : Int) (H : AHeap) : Prop :=
  N8 x0 x1 x4 x12 (IntKind.i64.wrap (x13 - 1)) H
theorem q9 (P : PT) (N3 : NTy k2 Pr) (N8 : NTy k2 Pr) : QB Try.prog T0 178 o9 (En 178 k2 N8) k2 (B9 P N3 N8) := fun _ _ _ _ _ _ _  => by kernel_rfl
noncomputable def o10 := ob Try.f206 [.r,.r,.r,.r,.r,.r,.r,.r,.r,.l,.l,.l,.l,.r,.l,.l,.l,.l,.l]
def B10 (P : PT) (N3 : NTy k2 Pr) (N8 : NTy k2 Pr) (x0 : Value) (x1 : Int) (x4 : Value) (x12 x13 : Int) (H : AHeap) : Prop :=
  pif (decide ((x12 : Int) ≤ x13)) (idxK x0 x13 2 (fun b1 o2 => ldI .i64 H b1 o2 (fun v3 => ldI .i64 H b1 (o2 + 1) (fun v4 => idxK x0 x1 2 (fun b5 o6 => ldI .i64 H b5 o6 (fun v7 => ldI .i64 H b5 (o6 + 1) (fun v8 => callV Try.prog T0 x4 [(Value.agg ⟨[(Value.int .i64 v3), (Value.int .i64 v4)]⟩), (Value.agg ⟨[(Value.int .i64 v7), (Value.int .i64 v8)]⟩)] H (fun v9 H10 => asI .i64 v9 (fun v11 => pif (!(decide ((v11 : Int) < 0))) (B9 P N3 N8 x0 x1 x4 x12 x13 H10) (B7 P N3 x0 x1 x4 x12 x13 H10)))))))))) (B7 P N3 x0 x1 x4 x12 x13 H)
theorem q10 (P : PT) (N3 : NTy k2 Pr) (N8 : NTy k2 Pr) : QD Try.prog T0 178 o10 [(0, false), (1, false), (2, false), (3, false), (4, false), (5, false), (6, false), (7, false), (8, false), (9, false), (10, false), (11, false), (12, false), (13, false), (14, false), (15, false), (16, false)] (cnd 139 (En 178 k2 (B9 P N3 N8)) (En 178 k2 (B7 P N3))) k2 (B10 P N3 N8) := fun _ _ _ _ _ _ _  => by kernel_rfl
def L8 (P : PT) (N3 : NTy k2 Pr) (x0 : Value) (x1 : Int) (x4 : Value) (x12 x13 : Int) (H : AHeap) : Prop :=
  ∃ (I : NTy k2 Pr) (μ : NTy k2 (AHeap → Nat)), I x0 x1 x4 x12 x13 H ∧ ∀ y0 y1 y4 y12 y13 G, I y0 y1 y4 y12 y13 G → B10 P N3 (fun z0 z1 z4 z12 z13 G' => I z0 z1 z4 z12 z13 G' ∧ μ z0 z1 z4 z12 z13 G' < μ y0 y1 y4 y12 y13 G) y0 y1 y4 y12 y13 G
theorem l8 (P : PT) (N3 : NTy k2 Pr) : LQ k2 (L8 P N3) (B10 P N3) := fun ⟨_,_,_,_,_,_⟩ _ ⟨I, μ, h0, hI⟩ => ⟨apT _ I, apT _ μ, h0, fun ⟨_,_,_,_,_,_⟩ _ h => hI _ _ _ _ _ _  h⟩
noncomputable def o12 := ob Try.f206 [.r,.r,.r,.r,.r,.r,.r,.r,.r,.l,.l,.l,.l,.l,.l,.l,.r,.l]
def B12 (P : PT) (N3 : NTy k2 Pr) (N11 : NTy k2 Pr) (x0 : Value) (x1 : Int) (x4 : Value) (x12 x13 : Int) (H : AHeap) : Prop :=
  N11 x0 x1 x4 (IntKind.i64.wrap (x12 + 1)) x13 H
theorem q12 (P : PT) (N3 : NTy k2 Pr) (N11 : NTy k2 Pr) : QB Try.prog T0 178 o12 (En 178 k2 N11) k2 (B12 P N3 N11) := fun _ _ _ _ _ _ _  => by kernel_rfl
noncomputable def o13 := ob Try.f206 [.r,.r,.r,.r,.r,.r,.r,.r,.r,.l,.l,.l,.l,.l,.l,.l,.l,.l]
def B13 (P : PT) (N3 : NTy k2 Pr) (N11 : NTy k2 Pr) (x0 : Value) (x1 : Int) (x4 : Value) (x12 x13 : Int) (H : AHeap) : Prop :=
  pif (decide ((x12 : Int) ≤ x13)) (idxK x0 x12 2 (fun b1 o2 => ldI .i64 H b1 o2 (fun v3 => ldI .i64 H b1 (o2 + 1) (fun v4 => idxK x0 x1 2 (fun b5 o6 => ldI .i64 H b5 o6 (fun v7 => ldI .i64 H b5 (o6 + 1) (fun v8 => callV Try.prog T0 x4 [(Value.agg ⟨[(Value.int .i64 v3), (Value.int .i64 v4)]⟩), (Value.agg ⟨[(Value.int .i64 v7), (Value.int .i64 v8)]⟩)] H (fun v9 H10 => asI .i64 v9 (fun v11 => pif (decide ((v11 : Int) < 0)) (B12 P N3 N11 x0 x1 x4 x12 x13 H10) (L8 P N3 x0 x1 x4 x12 x13 H10)))))))))) (L8 P N3 x0 x1 x4 x12 x13 H)
theorem q13 (P : PT) (N3 : NTy k2 Pr) (N11 : NTy k2 Pr) : QD Try.prog T0 178 o13 [(0, false), (1, false), (2, false), (3, false), (4, false), (5, false), (6, false), (7, false), (8, false), (9, false), (10, false), (11, false), (12, false), (13, false), (14, false), (15, false)] (cnd 120 (En 178 k2 (B12 P N3 N11)) (En 178 k2 (L8 P N3))) k2 (B13 P N3 N11) := fun _ _ _ _ _ _ _  => by kernel_rfl
def L11 (P : PT) (N3 : NTy k2 Pr) (x0 : Value) (x1 : Int) (x4 : Value) (x12 x13 : Int) (H : AHeap) : Prop :=
  ∃ (I : NTy k2 Pr) (μ : NTy k2 (AHeap → Nat)), I x0 x1 x4 x12 x13 H ∧ ∀ y0 y1 y4 y12 y13 G, I y0 y1 y4 y12 y13 G → B13 P N3 (fun z0 z1 z4 z12 z13 G' => I z0 z1 z4 z12 z13 G' ∧ μ z0 z1 z4 z12 z13 G' < μ y0 y1 y4 y12 y13 G) y0 y1 y4 y12 y13 G
theorem l11 (P : PT) (N3 : NTy k2 Pr) : LQ k2 (L11 P N3) (B13 P N3) := fun ⟨_,_,_,_,_,_⟩ _ ⟨I, μ, h0, hI⟩ => ⟨apT _ I, apT _ μ, h0, fun ⟨_,_,_,_,_,_⟩ _ h => hI _ _ _ _ _ _  h⟩
def L3 (P : PT) (x0 : Value) (x1 : Int) (x4 : Value) (x12 x13 : Int) (H : AHeap) : Prop :=
  ∃ (I : NTy k2 Pr) (μ : NTy k2 (AHeap → Nat)), I x0 x1 x4 x12 x13 H ∧ ∀ y0 y1 y4 y12 y13 G, I y0 y1 y4 y12 y13 G → L11 P (fun z0 z1 z4 z12 z13 G' => I z0 z1 z4 z12 z13 G' ∧ μ z0 z1 z4 z12 z13 G' < μ y0 y1 y4 y12 y13 G) y0 y1 y4 y12 y13 G
theorem l3 (P : PT) : LQ k2 (L3 P) (L11 P) := fun ⟨_,_,_,_,_,_⟩ _ ⟨I, μ, h0, hI⟩ => ⟨apT _ I, apT _ μ, h0, fun ⟨_,_,_,_,_,_⟩ _ h => hI _ _ _ _ _ _  h⟩
noncomputable def o14 := ob Try.f206 [.r,.r,.r,.r,.r,.r,.r,.r,.l]
def B14 (P : PT) (x0 : Value) (x1 : Int) (x4 : Value) (x12 x13 : Int) (H : AHeap) : Prop :=
  L3 P x0 x1 x4 x12 (IntKind.i64.wrap (x13 - 1)) H
theorem q14 (P : PT) : QB Try.prog T0 178 o14 (En 178 k2 (L3 P)) k2 (B14 P) := fun _ _ _ _ _ _ _  => by kernel_rfl
noncomputable def o15 := ob Try.f206 [.r,.r,.r,.r,.r,.r,.r,.l]
def B15 (P : PT) (x0 : Value) (x1 : Int) (x4 : Value) (x12 x13 : Int) (H : AHeap) : Prop :=
  B14 P x0 x1 x4 (IntKind.i64.wrap (x12 + 1)) x13 H
theorem q15 (P : PT) : QB Try.prog T0 178 o15 (En 178 k2 (B14 P)) k2 (B15 P) := fun _ _ _ _ _ _ _  => by kernel_rfl
noncomputable def o16 := ob Try.f206 [.r,.r,.r,.r,.r,.r,.l]
def B16 (P : PT) (x0 : Value) (x1 : Int) (x4 : Value) (x12 x13 : Int) (H : AHeap) : Prop :=
  idxK x0 x13 2 (fun b1 o2 => ldI .i64 H b1 o2 (fun v3 => ldI .i64 H b1 (o2 + 1) (fun v4 => idxK x0 x12 2 (fun b5 o6 => ldI .i64 H b5 o6 (fun v7 => ldI .i64 H b5 (o6 + 1) (fun v8 => idxK x0 x12 2 (fun b9 o10 => stK H b9 o10 [(Value.int .i64 v3), (Value.int .i64 v4)] (fun H11 => idxK x0 x13 2 (fun b12 o13 => stK H11 b12 o13 [(Value.int .i64 v7), (Value.int .i64 v8)] (fun H14 => B15 P x0 x1 x4 x12 x13 H14))))))))))
theorem q16 (P : PT) : QD Try.prog T0 178 o16 [(0, false), (1, false), (2, false), (3, false), (4, false), (5, false), (6, false), (7, false), (8, false), (9, false), (10, false), (11, false), (12, false), (13, false), (14, false), (15, false)] (En 178 k2 (B15 P)) k2 (B16 P) := fun _ _ _ _ _ _ _  => by kernel_rfl
noncomputable def o17 := ob Try.f206 [.r,.r,.r,.r,.r,.l,.r,.l,.r,.l]
def B17 (P : PT) (x13 : Int) (H : AHeap) : Prop :=
  P (Value.tuple ⟨[(Value.int .i64 x13), (Value.bool true)]⟩) H
theorem q17 (P : PT) : QB Try.prog T0 178 o17 (ret P) k0 (B17 P) := fun _ _ _  => by kernel_rfl
noncomputable def o18 := ob Try.f206 [.r,.r,.r,.r,.r,.l,.r,.l,.l]
def B18 (P : PT) (x0 : Value) (x1 x13 : Int) (H : AHeap) : Prop :=
  idxK x0 x1 2 (fun b1 o2 => ldI .i64 H b1 o2 (fun v3 => ldI .i64 H b1 (o2 + 1) (fun v4 => idxK x0 x13 2 (fun b5 o6 => ldI .i64 H b5 o6 (fun v7 => ldI .i64 H b5 (o6 + 1) (fun v8 => idxK x0 x13 2 (fun b9 o10 => stK H b9 o10 [(Value.int .i64 v3), (Value.int .i64 v4)] (fun H11 => idxK x0 x1 2 (fun b12 o13 => stK H11 b12 o13 [(Value.int .i64 v7), (Value.int .i64 v8)] (fun H14 => B17 P x13 H14))))))))))
theorem q18 (P : PT) : QD Try.prog T0 178 o18 [(0, false), (1, false), (2, false), (3, false), (4, false), (5, false), (6, false), (7, false), (8, false), (9, false), (10, false), (11, false), (12, false), (13, false), (14, false), (15, false)] (En 178 k0 (B17 P)) k1 (B18 P) := fun _ _ _ _ _  => by kernel_rfl
noncomputable def o19 := ob Try.f206 [.r,.r,.r,.r,.r,.l,.l]
def B19 (P : PT) (x0 : Value) (x1 : Int) (x4 : Value) (x12 x13 : Int) (H : AHeap) : Prop :=
  pif (decide ((x12 : Int) > x13)) (B18 P x0 x1 x13 H) (B16 P x0 x1 x4 x12 x13 H)
theorem q19 (P : PT) : QB Try.prog T0 178 o19 (cnd 71 (En 178 k1 (B18 P)) (En 178 k2 (B16 P))) k2 (B19 P) := fun _ _ _ _ _ _ _  => by kernel_rfl
noncomputable def o21 := ob Try.f206 [.r,.r,.r,.r,.l,.l,.l,.r,.l]
def B21 (P : PT) (N20 : NTy k2 Pr) (x0 : Value) (x1 : Int) (x4 : Value) (x12 x13 : Int) (H : AHeap) : Prop :=
  N20 x0 x1 x4 x12 (IntKind.i64.wrap (x13 - 1)) H
theorem q21 (P : PT) (N20 : NTy k2 Pr) : QB Try.prog T0 178 o21 (En 178 k2 N20) k2 (B21 P N20) := fun _ _ _ _ _ _ _  => by kernel_rfl
noncomputable def o22 := ob Try.f206 [.r,.r,.r,.r,.l,.l,.l,.l,.l]
def B22 (P : PT) (N20 : NTy k2 Pr) (x0 : Value) (x1 : Int) (x4 : Value) (x12 x13 : Int) (H : AHeap) : Prop :=
  pif (decide ((x12 : Int) ≤ x13)) (idxK x0 x13 2 (fun b1 o2 => ldI .i64 H b1 o2 (fun v3 => ldI .i64 H b1 (o2 + 1) (fun v4 => idxK x0 x1 2 (fun b5 o6 => ldI .i64 H b5 o6 (fun v7 => ldI .i64 H b5 (o6 + 1) (fun v8 => callV Try.prog T0 x4 [(Value.agg ⟨[(Value.int .i64 v3), (Value.int .i64 v4)]⟩), (Value.agg ⟨[(Value.int .i64 v7), (Value.int .i64 v8)]⟩)] H (fun v9 H10 => asI .i64 v9 (fun v11 => pif (!(decide ((v11 : Int) < 0))) (B21 P N20 x0 x1 x4 x12 x13 H10) (B19 P x0 x1 x4 x12 x13 H10)))))))))) (B19 P x0 x1 x4 x12 x13 H)
theorem q22 (P : PT) (N20 : NTy k2 Pr) : QD Try.prog T0 178 o22 [(0, false), (1, false), (2, false), (3, false), (4, false), (5, false), (6, false), (7, false), (8, false), (9, false), (10, false), (11, false), (12, false), (13, false), (14, false), (15, false), (16, false)] (cnd 66 (En 178 k2 (B21 P N20)) (En 178 k2 (B19 P))) k2 (B22 P N20) := fun _ _ _ _ _ _ _  => by kernel_rfl
def L20 (P : PT) (x0 : Value) (x1 : Int) (x4 : Value) (x12 x13 : Int) (H : AHeap) : Prop :=
  ∃ (I : NTy k2 Pr) (μ : NTy k2 (AHeap → Nat)), I x0 x1 x4 x12 x13 H ∧ ∀ y0 y1 y4 y12 y13 G, I y0 y1 y4 y12 y13 G → B22 P (fun z0 z1 z4 z12 z13 G' => I z0 z1 z4 z12 z13 G' ∧ μ z0 z1 z4 z12 z13 G' < μ y0 y1 y4 y12 y13 G) y0 y1 y4 y12 y13 G
theorem l20 (P : PT) : LQ k2 (L20 P) (B22 P) := fun ⟨_,_,_,_,_,_⟩ _ ⟨I, μ, h0, hI⟩ => ⟨apT _ I, apT _ μ, h0, fun ⟨_,_,_,_,_,_⟩ _ h => hI _ _ _ _ _ _  h⟩
noncomputable def o24 := ob Try.f206 [.r,.r,.r,.l,.l,.l,.r,.l]
def B24 (P : PT) (N23 : NTy k2 Pr) (x0 : Value) (x1 : Int) (x4 : Value) (x12 x13 : Int) (H : AHeap) : Prop :=
  N23 x0 x1 x4 (IntKind.i64.wrap (x12 + 1)) x13 H
theorem q24 (P : PT) (N23 : NTy k2 Pr) : QB Try.prog T0 178 o24 (En 178 k2 N23) k2 (B24 P N23) := fun _ _ _ _ _ _ _  => by kernel_rfl
noncomputable def o25 := ob Try.f206 [.r,.r,.r,.l,.l,.l,.l,.l]
def B25 (P : PT) (N23 : NTy k2 Pr) (x0 : Value) (x1 : Int) (x4 : Value) (x12 x13 : Int) (H : AHeap) : Prop :=
  pif (decide ((x12 : Int) ≤ x13)) (idxK x0 x12 2 (fun b1 o2 => ldI .i64 H b1 o2 (fun v3 => ldI .i64 H b1 (o2 + 1) (fun v4 => idxK x0 x1 2 (fun b5 o6 => ldI .i64 H b5 o6 (fun v7 => ldI .i64 H b5 (o6 + 1) (fun v8 => callV Try.prog T0 x4 [(Value.agg ⟨[(Value.int .i64 v3), (Value.int .i64 v4)]⟩), (Value.agg ⟨[(Value.int .i64 v7), (Value.int .i64 v8)]⟩)] H (fun v9 H10 => asI .i64 v9 (fun v11 => pif (decide ((v11 : Int) < 0)) (B24 P N23 x0 x1 x4 x12 x13 H10) (L20 P x0 x1 x4 x12 x13 H10)))))))))) (L20 P x0 x1 x4 x12 x13 H)
theorem q25 (P : PT) (N23 : NTy k2 Pr) : QD Try.prog T0 178 o25 [(0, false), (1, false), (2, false), (3, false), (4, false), (5, false), (6, false), (7, false), (8, false), (9, false), (10, false), (11, false), (12, false), (13, false), (14, false), (15, false)] (cnd 47 (En 178 k2 (B24 P N23)) (En 178 k2 (L20 P))) k2 (B25 P N23) := fun _ _ _ _ _ _ _  => by kernel_rfl
def L23 (P : PT) (x0 : Value) (x1 : Int) (x4 : Value) (x12 x13 : Int) (H : AHeap) : Prop :=
  ∃ (I : NTy k2 Pr) (μ : NTy k2 (AHeap → Nat)), I x0 x1 x4 x12 x13 H ∧ ∀ y0 y1 y4 y12 y13 G, I y0 y1 y4 y12 y13 G → B25 P (fun z0 z1 z4 z12 z13 G' => I z0 z1 z4 z12 z13 G' ∧ μ z0 z1 z4 z12 z13 G' < μ y0 y1 y4 y12 y13 G) y0 y1 y4 y12 y13 G
theorem l23 (P : PT) : LQ k2 (L23 P) (B25 P) := fun ⟨_,_,_,_,_,_⟩ _ ⟨I, μ, h0, hI⟩ => ⟨apT _ I, apT _ μ, h0, fun ⟨_,_,_,_,_,_⟩ _ h => hI _ _ _ _ _ _  h⟩
abbrev k3 : Sk := [(0,.v),(1,.i .i64),(2,.i .i64),(4,.v)]
noncomputable def o26 := ob Try.f206 [.r,.r,.l]
def B26 (P : PT) (x0 : Value) (x1 x2 : Int) (x4 : Value) (H : AHeap) : Prop :=
  L23 P x0 x1 x4 (IntKind.i64.wrap (x1 + 1)) (IntKind.i64.wrap (x2 - 1)) H
theorem q26 (P : PT) : QB Try.prog T0 178 o26 (En 178 k2 (L23 P)) k3 (B26 P) := fun _ _ _ _ _ _  => by kernel_rfl
abbrev k4 : Sk := [(0,.v),(1,.i .i64),(2,.i .i64),(3,.i .i64),(4,.v)]
noncomputable def o27 := ob Try.f206 [.r,.l]
def B27 (P : PT) (x0 : Value) (x1 x2 x3 : Int) (x4 : Value) (H : AHeap) : Prop :=
  idxK x0 x3 2 (fun b1 o2 => ldI .i64 H b1 o2 (fun v3 => ldI .i64 H b1 (o2 + 1) (fun v4 => idxK x0 x1 2 (fun b5 o6 => ldI .i64 H b5 o6 (fun v7 => ldI .i64 H b5 (o6 + 1) (fun v8 => idxK x0 x1 2 (fun b9 o10 => stK H b9 o10 [(Value.int .i64 v3), (Value.int .i64 v4)] (fun H11 => idxK x0 x3 2 (fun b12 o13 => stK H11 b12 o13 [(Value.int .i64 v7), (Value.int .i64 v8)] (fun H14 => B26 P x0 x1 x2 x4 H14))))))))))
theorem q27 (P : PT) : QD Try.prog T0 178 o27 [(0, false), (1, false), (2, false), (3, false), (4, false), (5, false), (6, false), (7, false), (8, false), (9, false), (10, false), (11, false), (12, false), (13, false), (14, false), (15, false)] (En 178 k3 (B26 P)) k4 (B27 P) := fun _ _ _ _ _ _ _  => by kernel_rfl
noncomputable def o28 := ob Try.f206 [.l]
def B28 (P : PT) (x0 : Value) (x1 x2 x3 : Int) (x4 : Value) (H : AHeap) : Prop :=
  B27 P x0 x1 x2 x3 x4 H
theorem q28 (P : PT) : QB Try.prog T0 178 o28 (En 178 k4 (B27 P)) k4 (B28 P) := fun _ _ _ _ _ _ _  => by kernel_rfl
noncomputable def code : Code := (.seq (.region 0 ⟨o28⟩ false) (.seq (.region 1 ⟨o27⟩ true) (.seq (.region 2 ⟨o26⟩ false) (.seq (.block 0 (.loop (.seq (.seq (.region 3 ⟨o25⟩ true) (.cond (.tmp 47) .skip (.exit 0))) (.block 1 (.region 4 ⟨o24⟩ false))))) (.seq (.block 2 (.loop (.seq (.seq (.region 5 ⟨o22⟩ true) (.cond (.tmp 66) .skip (.exit 2))) (.block 3 (.region 6 ⟨o21⟩ false))))) (.seq (.seq (.region 7 ⟨o19⟩ false) (.cond (.tmp 71) (.seq (.region 8 ⟨o18⟩ true) (.seq (.region 9 ⟨o17⟩ false) .ret)) .skip)) (.seq (.region 10 ⟨o16⟩ true) (.seq (.region 11 ⟨o15⟩ false) (.seq (.region 12 ⟨o14⟩ false) (.seq (.block 4 (.loop (.block 5 (.seq (.block 6 (.loop (.seq (.seq (.region 13 ⟨o13⟩ true) (.cond (.tmp 120) .skip (.exit 6))) (.block 7 (.region 14 ⟨o12⟩ false))))) (.seq (.block 8 (.loop (.seq (.seq (.region 15 ⟨o10⟩ true) (.cond (.tmp 139) .skip (.exit 8))) (.block 9 (.region 16 ⟨o9⟩ false))))) (.seq (.seq (.region 17 ⟨o7⟩ false) (.cond (.tmp 144) (.exit 4) .skip)) (.seq (.region 18 ⟨o6⟩ true) (.seq (.region 19 ⟨o5⟩ false) (.region 20 ⟨o4⟩ false))))))))) (.seq (.region 21 ⟨o2⟩ true) (.seq (.region 22 ⟨o1⟩ false) .ret))))))))))))
theorem body : Try.f206.body = some code := by kernel_rfl
theorem main (P : PT) : ∀ env H, (En 178 k4 (B28 P)) env H → AW Try.prog T0 code env H (mkQ (ret P) (fun _ _ _ => False) (ret P)) :=
  (r_seq (rB T0_ok (q28 P)) (r_seq (rD T0_ok mixed [(0, false), (1, false), (2, false), (3, false), (4, false), (5, false), (6, false), (7, false), (8, false), (9, false), (10, false), (11, false), (12, false), (13, false), (14, false), (15, false)] (by kernel_rfl) (q27 P)) (r_seq (rB T0_ok (q26 P)) (r_seq (r_block (rL (l23 P) (fun N23 => (r_seq (r_seq (rD T0_ok mixed [(0, false), (1, false), (2, false), (3, false), (4, false), (5, false), (6, false), (7, false), (8, false), (9, false), (10, false), (11, false), (12, false), (13, false), (14, false), (15, false)] (by kernel_rfl) (q25 P N23)) (r_cond rfl r_skip (r_exit (fun _ _ h => h)))) (r_block (rB T0_ok (q24 P N23))))))) (r_seq (r_block (rL (l20 P) (fun N20 => (r_seq (r_seq (rD T0_ok mixed [(0, false), (1, false), (2, false), (3, false), (4, false), (5, false), (6, false), (7, false), (8, false), (9, false), (10, false), (11, false), (12, false), (13, false), (14, false), (15, false), (16, false)] (by kernel_rfl) (q22 P N20)) (r_cond rfl r_skip (r_exit (fun _ _ h => h)))) (r_block (rB T0_ok (q21 P N20))))))) (r_seq (r_seq (rB T0_ok (q19 P)) (r_cond rfl (r_seq (rD T0_ok mixed [(0, false), (1, false), (2, false), (3, false), (4, false), (5, false), (6, false), (7, false), (8, false), (9, false), (10, false), (11, false), (12, false), (13, false), (14, false), (15, false)] (by kernel_rfl) (q18 P)) (r_seq (rB T0_ok (q17 P)) r_ret)) r_skip)) (r_seq (rD T0_ok mixed [(0, false), (1, false), (2, false), (3, false), (4, false), (5, false), (6, false), (7, false), (8, false), (9, false), (10, false), (11, false), (12, false), (13, false), (14, false), (15, false)] (by kernel_rfl) (q16 P)) (r_seq (rB T0_ok (q15 P)) (r_seq (rB T0_ok (q14 P)) (r_seq (r_block (rL (l3 P) (fun N3 => (r_block (r_seq (r_block (rL (l11 P N3) (fun N11 => (r_seq (r_seq (rD T0_ok mixed [(0, false), (1, false), (2, false), (3, false), (4, false), (5, false), (6, false), (7, false), (8, false), (9, false), (10, false), (11, false), (12, false), (13, false), (14, false), (15, false)] (by kernel_rfl) (q13 P N3 N11)) (r_cond rfl r_skip (r_exit (fun _ _ h => h)))) (r_block (rB T0_ok (q12 P N3 N11))))))) (r_seq (r_block (rL (l8 P N3) (fun N8 => (r_seq (r_seq (rD T0_ok mixed [(0, false), (1, false), (2, false), (3, false), (4, false), (5, false), (6, false), (7, false), (8, false), (9, false), (10, false), (11, false), (12, false), (13, false), (14, false), (15, false), (16, false)] (by kernel_rfl) (q10 P N3 N8)) (r_cond rfl r_skip (r_exit (fun _ _ h => h)))) (r_block (rB T0_ok (q9 P N3 N8))))))) (r_seq (r_seq (rB T0_ok (q7 P N3)) (r_cond rfl (r_exit (fun _ _ h => h)) r_skip)) (r_seq (rD T0_ok mixed [(0, false), (1, false), (2, false), (3, false), (4, false), (5, false), (6, false), (7, false), (8, false), (9, false), (10, false), (11, false), (12, false), (13, false), (14, false), (15, false)] (by kernel_rfl) (q6 P N3)) (r_seq (rB T0_ok (q5 P N3)) (rB T0_ok (q4 P N3))))))))))) (r_seq (rD T0_ok mixed [(0, false), (1, false), (2, false), (3, false), (4, false), (5, false), (6, false), (7, false), (8, false), (9, false), (10, false), (11, false), (12, false), (13, false), (14, false), (15, false)] (by kernel_rfl) (q2 P)) (r_seq (rB T0_ok (q1 P)) r_ret))))))))))))
theorem ac (P : PT) (x0 : Value) (x1 x2 x3 : Int) (x4 : Value) (H : AHeap) (h : B28 P x0 x1 x2 x3 x4 H) : AC Try.prog T0 206 [x0, (Value.int .i64 x1), (Value.int .i64 x2), (Value.int .i64 x3), x4] H P :=
  r_fn T0_ok (c := code) (n := 178) Try.func206 body (by kernel_rfl) (main P) (En_mk (x0, x1, x2, x3, x4, ()) (by kernel_rfl) ⟨by kernel_rfl, by kernel_rfl, by kernel_rfl, by kernel_rfl, by kernel_rfl, trivial⟩ h)

end F206
-- slices.siftDownCmpFunc[loop.example/g01329/impl.Edge]
namespace F212
noncomputable def ret (P : PT) : EP := retE T0 82 Try.f212 P
abbrev k0 : Sk := [(0,.v),(2,.i .i64),(3,.i .i64),(4,.v),(10,.i .i64)]
abbrev k1 : Sk := [(0,.v),(2,.i .i64),(3,.i .i64),(4,.v),(11,.i .i64)]
noncomputable def o2 := ob Try.f212 [.r,.l,.l,.l,.r,.r,.r,.r,.r]
def B2 (P : PT) (N1 : NTy k0 Pr) (x0 : Value) (x2 x3 : Int) (x4 : Value) (x11 : Int) (H : AHeap) : Prop :=
  N1 x0 x2 x3 x4 x11 H
theorem q2 (P : PT) (N1 : NTy k0 Pr) : QB Try.prog T0 82 o2 (En 82 k0 N1) k1 (B2 P N1) := fun _ _ _ _ _ _ _  => by kernel_rfl
abbrev k2 : Sk := [(0,.v),(2,.i .i64),(3,.i .i64),(4,.v),(10,.i .i64),(11,.i .i64)]
noncomputable def o3 := ob Try.f212 [.r,.l,.l,.l,.r,.r,.r,.r,.l]
def B3 (P : PT) (N1 : NTy k0 Pr) (x0 : Value) (x2 x3 : Int) (x4 : Value) (x10 x11 : Int) (H : AHeap) : Prop :=
  idxK x0 (IntKind.i64.wrap (x3 + x11)) 2 (fun b1 o2 => ldI .i64 H b1 o2 (fun v3 => ldI .i64 H b1 (o2 + 1) (fun v4 => idxK x0 (IntKind.i64.wrap (x3 + x10)) 2 (fun b5 o6 => ldI .i64 H b5 o6 (fun v7 => ldI .i64 H b5 (o6 + 1) (fun v8 => idxK x0 (IntKind.i64.wrap (x3 + x10)) 2 (fun b9 o10 => stK H b9 o10 [(Value.int .i64 v3), (Value.int .i64 v4)] (fun H11 => idxK x0 (IntKind.i64.wrap (x3 + x11)) 2 (fun b12 o13 => stK H11 b12 o13 [(Value.int .i64 v7), (Value.int .i64 v8)] (fun H14 => B2 P N1 x0 x2 x3 x4 x11 H14))))))))))
theorem q3 (P : PT) (N1 : NTy k0 Pr) : QD Try.prog T0 82 o3 [(0, false), (1, false), (2, false), (3, false), (4, false), (5, false), (6, false), (7, false), (8, false), (9, false), (10, false), (11, false), (12, false), (13, false), (14, false), (15, false), (16, false), (17, false), (18, false), (19, false), (20, false), (21, false), (22, false), (23, false)] (En 82 k1 (B2 P N1)) k2 (B3 P N1) := fun _ _ _ _ _ _ _ _  => by kernel_rfl
noncomputable def o4 := ob Try.f212 [.r,.l,.l,.l,.r,.r,.r,.l,.l]
def B4 (P : PT) (N1 : NTy k0 Pr) (x0 : Value) (x2 x3 : Int) (x4 : Value) (x10 x11 : Int) (H : AHeap) : Prop :=
  idxK x0 (IntKind.i64.wrap (x3 + x10)) 2 (fun b1 o2 => ldI .i64 H b1 o2 (fun v3 => ldI .i64 H b1 (o2 + 1) (fun v4 => idxK x0 (IntKind.i64.wrap (x3 + x11)) 2 (fun b5 o6 => ldI .i64 H b5 o6 (fun v7 => ldI .i64 H b5 (o6 + 1) (fun v8 => callV Try.prog T0 x4 [(Value.agg ⟨[(Value.int .i64 v3), (Value.int .i64 v4)]⟩), (Value.agg ⟨[(Value.int .i64 v7), (Value.int .i64 v8)]⟩)] H (fun v9 H10 => asI .i64 v9 (fun v11 => pif (!(decide ((v11 : Int) < 0))) (P (Value.tuple ⟨[]⟩) H10) (B3 P N1 x0 x2 x3 x4 x10 x11 H10)))))))))
theorem q4 (P : PT) (N1 : NTy k0 Pr) : QD Try.prog T0 82 o4 [(0, false), (1, false), (2, false), (3, false), (4, false), (5, false), (6, false), (7, false), (8, false), (9, false), (10, false), (11, false), (12, false), (13, false), (14, false), (15, false)] (cnd 58 (ret P) (En 82 k2 (B3 P N1))) k2 (B4 P N1) := fun _ _ _ _ _ _ _ _  => by kernel_rfl
noncomputable def o5 := ob Try.f212 [.r,.l,.l,.l,.r,.r,.l,.r,.l]
def B5 (P : PT) (N1 : NTy k0 Pr) (x0 : Value) (x2 x3 : Int) (x4 : Value) (x10 x11 : Int) (H : AHeap) : Prop :=
  B4 P N1 x0 x2 x3 x4 x10 (IntKind.i64.wrap (x11 + 1)) H
theorem q5 (P : PT) (N1 : NTy k0 Pr) : QB Try.prog T0 82 o5 (En 82 k2 (B4 P N1)) k2 (B5 P N1) := fun _ _ _ _ _ _ _ _  => by kernel_rfl
noncomputable def o6 := ob Try.f212 [.r,.l,.l,.l,.r,.r,.l,.l]
def B6 (P : PT) (N1 : NTy k0 Pr) (x0 : Value) (x2 x3 : Int) (x4 : Value) (x10 x11 : Int) (H : AHeap) : Prop :=
  pif (decide ((IntKind.i64.wrap (x11 + 1) : Int) < x2)) (idxK x0 (IntKind.i64.wrap (x3 + x11)) 2 (fun b1 o2 => ldI .i64 H b1 o2 (fun v3 => ldI .i64 H b1 (o2 + 1) (fun v4 => idxK x0 (IntKind.i64.wrap ((IntKind.i64.wrap (x3 + x11)) + 1)) 2 (fun b5 o6 => ldI .i64 H b5 o6 (fun v7 => ldI .i64 H b5 (o6 + 1) (fun v8 => callV Try.prog T0 x4 [(Value.agg ⟨[(Value.int .i64 v3), (Value.int .i64 v4)]⟩), (Value.agg ⟨[(Value.int .i64 v7), (Value.int .i64 v8)]⟩)] H (fun v9 H10 => asI .i64 v9 (fun v11 => pif (decide ((v11 : Int) < 0)) (B5 P N1 x0 x2 x3 x4 x10 x11 H10) (B4 P N1 x0 x2 x3 x4 x10 x11 H10)))))))))) (B4 P N1 x0 x2 x3 x4 x10 x11 H)
theorem q6 (P : PT) (N1 : NTy k0 Pr) : QD Try.prog T0 82 o6 [(0, false), (1, false), (2, false), (3, false), (4, false), (5, false), (6, false), (7, false), (8, false), (9, false), (10, false), (11, false), (12, false), (13, false), (14, false), (15, false), (16, false), (17, false), (18, false), (19, false), (20, false), (21, false)] (cnd 40 (En 82 k2 (B5 P N1)) (En 82 k2 (B4 P N1))) k2 (B6 P N1) := fun _ _ _ _ _ _ _ _  => by kernel_rfl
noncomputable def o7 := ob Try.f212 [.r,.l,.l,.l,.r,.l,.l]
def B7 (P : PT) (N1 : NTy k0 Pr) (x0 : Value) (x2 x3 : Int) (x4 : Value) (x10 x11 : Int) (H : AHeap) : Prop :=
  pif (decide ((x11 : Int) ≥ x2)) (P (Value.tuple ⟨[]⟩) H) (B6 P N1 x0 x2 x3 x4 x10 x11 H)
theorem q7 (P : PT) (N1 : NTy k0 Pr) : QB Try.prog T0 82 o7 (cnd 18 (ret P) (En 82 k2 (B6 P N1))) k2 (B7 P N1) := fun _ _ _ _ _ _ _ _  => by kernel_rfl
noncomputable def o8 := ob Try.f212 [.r,.l,.l,.l,.l]
def B8 (P : PT) (N1 : NTy k0 Pr) (x0 : Value) (x2 x3 : Int) (x4 : Value) (x10 : Int) (H : AHeap) : Prop :=
  B7 P N1 x0 x2 x3 x4 x10 (IntKind.i64.wrap ((IntKind.i64.wrap (2 * x10)) + 1)) H
theorem q8 (P : PT) (N1 : NTy k0 Pr) : QB Try.prog T0 82 o8 (En 82 k2 (B7 P N1)) k0 (B8 P N1) := fun _ _ _ _ _ _ _  => by kernel_rfl
def L1 (P : PT) (x0 : Value) (x2 x3 : Int) (x4 : Value) (x10 : Int) (H : AHeap) : Prop :=
  ∃ (I : NTy k0 Pr) (μ : NTy k0 (AHeap → Nat)), I x0 x2 x3 x4 x10 H ∧ ∀ y0 y2 y3 y4 y10 G, I y0 y2 y3 y4 y10 G → B8 P (fun z0 z2 z3 z4 z10 G' => I z0 z2 z3 z4 z10 G' ∧ μ z0 z2 z3 z4 z10 G' < μ y0 y2 y3 y4 y10 G) y0 y2 y3 y4 y10 G
theorem l1 (P : PT) : LQ k0 (L1 P) (B8 P) := fun ⟨_,_,_,_,_,_⟩ _ ⟨I, μ, h0, hI⟩ => ⟨apT _ I, apT _ μ, h0, fun ⟨_,_,_,_,_,_⟩ _ h => hI _ _ _ _ _ _  h⟩
abbrev k3 : Sk := [(0,.v),(1,.i .i64),(2,.i .i64),(3,.i .i64),(4,.v)]
noncomputable def o9 := ob Try.f212 [.l]
def B9 (P : PT) (x0 : Value) (x1 x2 x3 : Int) (x4 : Value) (H : AHeap) : Prop :=
  L1 P x0 x2 x3 x4 x1 H
theorem q9 (P : PT) : QB Try.prog T0 82 o9 (En 82 k0 (L1 P)) k3 (B9 P) := fun _ _ _ _ _ _ _  => by kernel_rfl
noncomputable def code : Code := (.seq (.region 0 ⟨o9⟩ false) (.block 0 (.loop (.block 1 (.seq (.region 1 ⟨o8⟩ false) (.seq (.seq (.region 2 ⟨o7⟩ false) (.cond (.tmp 18) (.exit 0) .skip)) (.seq (.seq (.region 3 ⟨o6⟩ true) (.cond (.tmp 40) (.region 4 ⟨o5⟩ false) .skip)) (.seq (.seq (.region 5 ⟨o4⟩ true) (.cond (.tmp 58) .ret .skip)) (.seq (.region 6 ⟨o3⟩ true) (.region 7 ⟨o2⟩ false))))))))))
theorem body : Try.f212.body = some code := by kernel_rfl
theorem main (P : PT) : ∀ env H, (En 82 k3 (B9 P)) env H → AW Try.prog T0 code env H (mkQ (ret P) (fun _ _ _ => False) (ret P)) :=
  (r_seq (rB T0_ok (q9 P)) (r_block (rL (l1 P) (fun N1 => (r_block (r_seq (rB T0_ok (q8 P N1)) (r_seq (r_seq (rB T0_ok (q7 P N1)) (r_cond rfl (r_exit (fun _ _ h => h)) r_skip)) (r_seq (r_seq (rD T0_ok mixed [(0, false), (1, false), (2, false), (3, false), (4, false), (5, false), (6, false), (7, false), (8, false), (9, false), (10, false), (11, false), (12, false), (13, false), (14, false), (15, false), (16, false), (17, false), (18, false), (19, false), (20, false), (21, false)] (by kernel_rfl) (q6 P N1)) (r_cond rfl (rB T0_ok (q5 P N1)) r_skip)) (r_seq (r_seq (rD T0_ok mixed [(0, false), (1, false), (2, false), (3, false), (4, false), (5, false), (6, false), (7, false), (8, false), (9, false), (10, false), (11, false), (12, false), (13, false), (14, false), (15, false)] (by kernel_rfl) (q4 P N1)) (r_cond rfl r_ret r_skip)) (r_seq (rD T0_ok mixed [(0, false), (1, false), (2, false), (3, false), (4, false), (5, false), (6, false), (7, false), (8, false), (9, false), (10, false), (11, false), (12, false), (13, false), (14, false), (15, false), (16, false), (17, false), (18, false), (19, false), (20, false), (21, false), (22, false), (23, false)] (by kernel_rfl) (q3 P N1)) (rB T0_ok (q2 P N1))))))))))))
theorem ac (P : PT) (x0 : Value) (x1 x2 x3 : Int) (x4 : Value) (H : AHeap) (h : B9 P x0 x1 x2 x3 x4 H) : AC Try.prog T0 212 [x0, (Value.int .i64 x1), (Value.int .i64 x2), (Value.int .i64 x3), x4] H P :=
  r_fn T0_ok (c := code) (n := 82) Try.func212 body (by kernel_rfl) (main P) (En_mk (x0, x1, x2, x3, x4, ()) (by kernel_rfl) ⟨by kernel_rfl, by kernel_rfl, by kernel_rfl, by kernel_rfl, by kernel_rfl, trivial⟩ h)

end F212
-- slices.medianAdjacentCmpFunc[loop.example/g01329/impl.Edge]
namespace F213
noncomputable def ret (P : PT) : EP := retE T0 18 Try.f213 P
abbrev k0 : Sk := [(0,.v),(1,.i .i64),(2,.v),(3,.v)]
noncomputable def o1 := ob Try.f213 [.r,.l]
def B1 (P : PT) (x0 : Value) (x1 : Int) (x2 x3 : Value) (H : AHeap) : Prop :=
  AC Try.prog T0 214 [x0, (Value.int .i64 (IntKind.i64.wrap (x1 - 1))), (Value.int .i64 x1), (Value.int .i64 (IntKind.i64.wrap (x1 + 1))), x2, x3] H (fun v1 H2 => asI .i64 v1 (fun v3 => P (Value.int .i64 v3) H2))
theorem q1 (P : PT) : QB Try.prog T0 18 o1 (ret P) k0 (B1 P) := fun _ _ _ _ _ _  => by kernel_rfl
noncomputable def o2 := ob Try.f213 [.l]
def B2 (P : PT) (x0 : Value) (x1 : Int) (x2 x3 : Value) (H : AHeap) : Prop :=
  B1 P x0 x1 x2 x3 H
theorem q2 (P : PT) : QB Try.prog T0 18 o2 (En 18 k0 (B1 P)) k0 (B2 P) := fun _ _ _ _ _ _  => by kernel_rfl
noncomputable def code : Code := (.seq (.region 0 ⟨o2⟩ false) (.seq (.region 1 ⟨o1⟩ false) .ret))
theorem body : Try.f213.body = some code := by kernel_rfl
theorem main (P : PT) : ∀ env H, (En 18 k0 (B2 P)) env H → AW Try.prog T0 code env H (mkQ (ret P) (fun _ _ _ => False) (ret P)) :=
  (r_seq (rB T0_ok (q2 P)) (r_seq (rB T0_ok (q1 P)) r_ret))
theorem ac (P : PT) (x0 : Value) (x1 : Int) (x2 x3 : Value) (H : AHeap) (h : B2 P x0 x1 x2 x3 H) : AC Try.prog T0 213 [x0, (Value.int .i64 x1), x2, x3] H P :=
  r_fn T0_ok (c := code) (n := 18) Try.func213 body (by kernel_rfl) (main P) (En_mk (x0, x1, x2, x3, ()) (by kernel_rfl) ⟨by kernel_rfl, by kernel_rfl, by kernel_rfl, by kernel_rfl, trivial⟩ h)

end F213
-- slices.medianCmpFunc[loop.example/g01329/impl.Edge]
namespace F214
noncomputable def ret (P : PT) : EP := retE T0 41 Try.f214 P
abbrev k0 : Sk := [(2,.i .i64)]
noncomputable def o1 := ob Try.f214 [.r,.r,.r,.r,.l]
def B1 (P : PT) (x2 : Int) (H : AHeap) : Prop :=
  P (Value.int .i64 x2) H
theorem q1 (P : PT) : QB Try.prog T0 41 o1 (ret P) k0 (B1 P) := fun _ _ _  => by kernel_rfl
abbrev k1 : Sk := [(0,.v),(1,.i .i64),(2,.i .i64),(4,.v),(5,.v)]
noncomputable def o2 := ob Try.f214 [.r,.r,.r,.l]
def B2 (P : PT) (x0 : Value) (x1 x2 : Int) (x4 x5 : Value) (H : AHeap) : Prop :=
  AC Try.prog T0 218 [x0, (Value.int .i64 x1), (Value.int .i64 x2), x4, x5] H (fun v1 H2 => tup2 v1 (fun v3 v4 => asI .i64 v3 (fun v5 => asI .i64 v4 (fun v6 => B1 P v6 H2))))
theorem q2 (P : PT) : QB Try.prog T0 41 o2 (En 41 k0 (B1 P)) k1 (B2 P) := fun _ _ _ _ _ _ _  => by kernel_rfl
abbrev k2 : Sk := [(0,.v),(1,.i .i64),(2,.i .i64),(3,.i .i64),(4,.v),(5,.v)]
noncomputable def o3 := ob Try.f214 [.r,.r,.l]
def B3 (P : PT) (x0 : Value) (x1 x2 x3 : Int) (x4 x5 : Value) (H : AHeap) : Prop :=
  AC Try.prog T0 218 [x0, (Value.int .i64 x2), (Value.int .i64 x3), x4, x5] H (fun v1 H2 => tup2 v1 (fun v3 v4 => asI .i64 v3 (fun v5 => asI .i64 v4 (fun v6 => B2 P x0 x1 v5 x4 x5 H2))))
theorem q3 (P : PT) : QB Try.prog T0 41 o3 (En 41 k1 (B2 P)) k2 (B3 P) := fun _ _ _ _ _ _ _ _  => by kernel_rfl
noncomputable def o4 := ob Try.f214 [.r,.l]
def B4 (P : PT) (x0 : Value) (x1 x2 x3 : Int) (x4 x5 : Value) (H : AHeap) : Prop :=
  AC Try.prog T0 218 [x0, (Value.int .i64 x1), (Value.int .i64 x2), x4, x5] H (fun v1 H2 => tup2 v1 (fun v3 v4 => asI .i64 v3 (fun v5 => asI .i64 v4 (fun v6 => B3 P x0 v5 v6 x3 x4 x5 H2))))
theorem q4 (P : PT) : QB Try.prog T0 41 o4 (En 41 k2 (B3 P)) k2 (B4 P) := fun _ _ _ _ _ _ _ _  => by kernel_rfl
noncomputable def o5 := ob Try.f214 [.l]
def B5 (P : PT) (x0 : Value) (x1 x2 x3 : Int) (x4 x5 : Value) (H : AHeap) : Prop :=
  B4 P x0 x1 x2 x3 x4 x5 H
theorem q5 (P : PT) : QB Try.prog T0 41 o5 (En 41 k2 (B4 P)) k2 (B5 P) := fun _ _ _ _ _ _ _ _  => by kernel_rfl
noncomputable def code : Code := (.seq (.region 0 ⟨o5⟩ false) (.seq (.region 1 ⟨o4⟩ false) (.seq (.region 2 ⟨o3⟩ false) (.seq (.region 3 ⟨o2⟩ false) (.seq (.region 4 ⟨o1⟩ false) .ret)))))
theorem body : Try.f214.body = some code := by kernel_rfl
theorem main (P : PT) : ∀ env H, (En 41 k2 (B5 P)) env H → AW Try.prog T0 code env H (mkQ (ret P) (fun _ _ _ => False) (ret P)) :=
  (r_seq (rB T0_ok (q5 P)) (r_seq (rB T0_ok (q4 P)) (r_seq (rB T0_ok (q3 P)) (r_seq (rB T0_ok (q2 P)) (r_seq (rB T0_ok (q1 P)) r_ret)))))
theorem ac (P : PT) (x0 : Value) (x1 x2 x3 : Int) (x4 x5 : Value) (H : AHeap) (h : B5 P x0 x1 x2 x3 x4 x5 H) : AC Try.prog T0 214 [x0, (Value.int .i64 x1), (Value.int .i64 x2), (Value.int .i64 x3), x4, x5] H P :=
  r_fn T0_ok (c := code) (n := 41) Try.func214 body (by kernel_rfl) (main P) (En_mk (x0, x1, x2, x3, x4, x5, ()) (by kernel_rfl) ⟨by kernel_rfl, by kernel_rfl, by kernel_rfl, by kernel_rfl, by kernel_rfl, by kernel_rfl, trivial⟩ h)

end F214
-- slices.order2CmpFunc[loop.example/g01329/impl.Edge]
namespace F218
noncomputable def ret (P : PT) : EP := retE T0 32 Try.f218 P
abbrev k0 : Sk := [(1,.i .i64),(2,.i .i64)]
noncomputable def o1 := ob Try.f218 [.r,.r,.l]
def B1 (P : PT) (x1 x2 : Int) (H : AHeap) : Prop :=
  P (Value.tuple ⟨[(Value.int .i64 x1), (Value.int .i64 x2)]⟩) H
theorem q1 (P : PT) : QB Try.prog T0 32 o1 (ret P) k0 (B1 P) := fun _ _ _ _  => by kernel_rfl
noncomputable def o2 := ob Try.f218 [.r,.l,.r,.l,.r,.l]
def B2 (P : PT) (x1 x2 : Int) (H : AHeap) : Prop :=
  P (Value.tuple ⟨[(Value.int .i64 x2), (Value.int .i64 x1)]⟩) H
theorem q2 (P : PT) : QB Try.prog T0 32 o2 (ret P) k0 (B2 P) := fun _ _ _ _  => by kernel_rfl
abbrev k1 : Sk := [(1,.i .i64),(2,.i .i64),(3,.v)]
noncomputable def o3 := ob Try.f218 [.r,.l,.r,.l,.l]
def B3 (P : PT) (x1 x2 : Int) (x3 : Value) (H : AHeap) : Prop :=
  nilK x3 (fun v1 => asP v1 (fun b2 o3 => ldI .i64 H b2 o3 (fun v4 => nilK x3 (fun v5 => asP v5 (fun b6 o7 => stK H b6 o7 [(Value.int .i64 (IntKind.i64.wrap (v4 + 1)))] (fun H8 => B2 P x1 x2 H8))))))
theorem q3 (P : PT) : QB Try.prog T0 32 o3 (En 32 k0 (B2 P)) k1 (B3 P) := fun _ _ _ _ _  => by kernel_rfl
abbrev k2 : Sk := [(0,.v),(1,.i .i64),(2,.i .i64),(3,.v),(4,.v)]
noncomputable def o4 := ob Try.f218 [.r,.l,.l]
def B4 (P : PT) (x0 : Value) (x1 x2 : Int) (x3 x4 : Value) (H : AHeap) : Prop :=
  idxK x0 x2 2 (fun b1 o2 => ldI .i64 H b1 o2 (fun v3 => ldI .i64 H b1 (o2 + 1) (fun v4 => idxK x0 x1 2 (fun b5 o6 => ldI .i64 H b5 o6 (fun v7 => ldI .i64 H b5 (o6 + 1) (fun v8 => callV Try.prog T0 x4 [(Value.agg ⟨[(Value.int .i64 v3), (Value.int .i64 v4)]⟩), (Value.agg ⟨[(Value.int .i64 v7), (Value.int .i64 v8)]⟩)] H (fun v9 H10 => asI .i64 v9 (fun v11 => pif (decide ((v11 : Int) < 0)) (B3 P x1 x2 x3 H10) (B1 P x1 x2 H10)))))))))
theorem q4 (P : PT) : QD Try.prog T0 32 o4 [(0, false), (1, false), (2, false), (3, false), (4, false), (5, false), (6, false), (7, false), (8, false), (9, false), (10, false)] (cnd 22 (En 32 k1 (B3 P)) (En 32 k0 (B1 P))) k2 (B4 P) := fun _ _ _ _ _ _ _  => by kernel_rfl
noncomputable def o5 := ob Try.f218 [.l]
def B5 (P : PT) (x0 : Value) (x1 x2 : Int) (x3 x4 : Value) (H : AHeap) : Prop :=
  B4 P x0 x1 x2 x3 x4 H
theorem q5 (P : PT) : QB Try.prog T0 32 o5 (En 32 k2 (B4 P)) k2 (B5 P) := fun _ _ _ _ _ _ _  => by kernel_rfl
noncomputable def code : Code := (.seq (.region 0 ⟨o5⟩ false) (.seq (.seq (.region 1 ⟨o4⟩ true) (.cond (.tmp 22) (.seq (.region 2 ⟨o3⟩ false) (.seq (.region 3 ⟨o2⟩ false) .ret)) .skip)) (.seq (.region 4 ⟨o1⟩ false) .ret)))
theorem body : Try.f218.body = some code := by kernel_rfl
theorem main (P : PT) : ∀ env H, (En 32 k2 (B5 P)) env H → AW Try.prog T0 code env H (mkQ (ret P) (fun _ _ _ => False) (ret P)) :=
  (r_seq (rB T0_ok (q5 P)) (r_seq (r_seq (rD T0_ok mixed [(0, false), (1, false), (2, false), (3, false), (4, false), (5, false), (6, false), (7, false), (8, false), (9, false), (10, false)] (by kernel_rfl) (q4 P)) (r_cond rfl (r_seq (rB T0_ok (q3 P)) (r_seq (rB T0_ok (q2 P)) r_ret)) r_skip)) (r_seq (rB T0_ok (q1 P)) r_ret)))
theorem ac (P : PT) (x0 : Value) (x1 x2 : Int) (x3 x4 : Value) (H : AHeap) (h : B5 P x0 x1 x2 x3 x4 H) : AC Try.prog T0 218 [x0, (Value.int .i64 x1), (Value.int .i64 x2), x3, x4] H P :=
  r_fn T0_ok (c := code) (n := 32) Try.func218 body (by kernel_rfl) (main P) (En_mk (x0, x1, x2, x3, x4, ()) (by kernel_rfl) ⟨by kernel_rfl, by kernel_rfl, by kernel_rfl, by kernel_rfl, by kernel_rfl, trivial⟩ h)

end F218
end Go.Proofs
