import Derived.Test.YtkmjiikgkhhciaaT
set_option linter.unusedVariables false
set_option maxRecDepth 100000
namespace Go.Proofs
open Go.Abs
-- loop.example/g01329/laws.FnExactCountReached
namespace F3
noncomputable def ret (P : PT) : EP := retE T0 56 Try.f3 P
abbrev k0 : Sk := []
noncomputable def o1 := ob Try.f3 [.r,.r,.r,.r,.r,.r,.r,.r,.r,.r,.r,.r,.l]
def B1 (P : PT) (H : AHeap) : Prop :=
  P (Value.bool true) H
theorem q1 (P : PT) : QB Try.prog T0 56 o1 (ret P) k0 (B1 P) := fun _ _  => by kernel_rfl
noncomputable def o2 := ob Try.f3 [.r,.r,.r,.r,.r,.r,.r,.r,.r,.r,.r,.l,.r,.l,.l]
def B2 (P : PT) (H : AHeap) : Prop :=
  P (Value.bool false) H
theorem q2 (P : PT) : QB Try.prog T0 56 o2 (ret P) k0 (B2 P) := fun _ _  => by kernel_rfl
abbrev k1 : Sk := [(1,.v),(9,.v)]
noncomputable def o3 := ob Try.f3 [.r,.r,.r,.r,.r,.r,.r,.r,.r,.r,.r,.l,.l]
def B3 (P : PT) (x1 x9 : Value) (H : AHeap) : Prop :=
  AC Try.prog T0 12 [x1] H (fun v1 H2 => AC Try.prog T0 15 [x9, v1] H2 (fun v4 H5 => asB v4 (fun v6 => pif (!v6) (B2 P H5) (B1 P H5))))
theorem q3 (P : PT) : QB Try.prog T0 56 o3 (cnd 55 (En 56 k0 (B2 P)) (En 56 k0 (B1 P))) k1 (B3 P) := fun _ _ _ _  => by kernel_rfl
noncomputable def o4 := ob Try.f3 [.r,.r,.r,.r,.r,.r,.r,.r,.r,.r,.l,.r,.l,.l]
def B4 (P : PT) (H : AHeap) : Prop :=
  P (Value.bool false) H
theorem q4 (P : PT) : QB Try.prog T0 56 o4 (ret P) k0 (B4 P) := fun _ _  => by kernel_rfl
abbrev k2 : Sk := [(1,.v),(2,.x),(8,.x),(9,.v)]
noncomputable def o5 := ob Try.f3 [.r,.r,.r,.r,.r,.r,.r,.r,.r,.r,.l,.l]
def B5 (P : PT) (x1 : Value) (x2 x8 : Nat) (x9 : Value) (H : AHeap) : Prop :=
  ldI .i64 H x8 0 (fun v1 => ld1 H x8 1 (fun v2 => ldI .i64 H x2 0 (fun v3 => ld1 H x2 1 (fun v4 => AC Try.prog T0 11 [(Value.agg ⟨[(Value.int .i64 v3), v4]⟩)] H (fun v5 H6 => agg2 v5 (fun v7 v8 => asI .i64 v7 (fun v9 => (AHeap.le H H6) ∧ (AC Try.prog T0 14 [(Value.agg ⟨[(Value.int .i64 v1), v2]⟩), (Value.agg ⟨[(Value.int .i64 v9), v8]⟩)] H6 (fun v11 H12 => asB v11 (fun v13 => pif (!v13) (B4 P H12) (B3 P x1 x9 H12)))))))))))
theorem q5 (P : PT) : QD Try.prog T0 56 o5 [(0, false), (1, false), (2, true), (3, false), (4, false)] (cnd 50 (En 56 k0 (B4 P)) (En 56 k1 (B3 P))) k2 (B5 P) := fun _ _ _ _ _ _  => by kernel_rfl
noncomputable def o6 := ob Try.f3 [.r,.r,.r,.r,.r,.r,.r,.r,.r,.l,.r,.l,.l]
def B6 (P : PT) (H : AHeap) : Prop :=
  P (Value.bool false) H
theorem q6 (P : PT) : QB Try.prog T0 56 o6 (ret P) k0 (B6 P) := fun _ _  => by kernel_rfl
abbrev k3 : Sk := [(1,.v),(2,.x),(6,.i .i64),(7,.i .i64),(8,.x),(9,.v),(10,.i .i64),(11,.i .i64)]
noncomputable def o7 := ob Try.f3 [.r,.r,.r,.r,.r,.r,.r,.r,.r,.l,.l]
def B7 (P : PT) (x1 : Value) (x2 : Nat) (x6 x7 : Int) (x8 : Nat) (x9 : Value) (x10 x11 : Int) (H : AHeap) : Prop :=
  pif ((x10 : Int) != x6) (B6 P H) (pif ((x11 : Int) != x7) (B6 P H) (B5 P x1 x2 x8 x9 H))
theorem q7 (P : PT) : QB Try.prog T0 56 o7 (cnd 45 (En 56 k0 (B6 P)) (En 56 k2 (B5 P))) k3 (B7 P) := fun _ _ _ _ _ _ _ _ _ _  => by kernel_rfl
abbrev k4 : Sk := [(1,.v),(2,.x),(6,.i .i64),(7,.i .i64),(8,.x),(9,.v)]
noncomputable def o8 := ob Try.f3 [.r,.r,.r,.r,.r,.r,.r,.r,.l]
def B8 (P : PT) (x1 : Value) (x2 : Nat) (x6 x7 : Int) (x8 : Nat) (x9 : Value) (H : AHeap) : Prop :=
  ldI .i64 H x8 0 (fun v1 => ld1 H x8 1 (fun v2 => AC Try.prog T0 13 [(Value.agg ⟨[(Value.int .i64 v1), v2]⟩), x9] H (fun v3 H4 => tup2 v3 (fun v5 v6 => asI .i64 v5 (fun v7 => asI .i64 v6 (fun v8 => B7 P x1 x2 x6 x7 x8 x9 v7 v8 H4))))))
theorem q8 (P : PT) : QB Try.prog T0 56 o8 (En 56 k3 (B7 P)) k4 (B8 P) := fun _ _ _ _ _ _ _ _  => by kernel_rfl
abbrev k5 : Sk := [(1,.v),(2,.x),(6,.i .i64),(7,.i .i64),(8,.x)]
noncomputable def o9 := ob Try.f3 [.r,.r,.r,.r,.r,.r,.r,.l]
def B9 (P : PT) (x1 : Value) (x2 : Nat) (x6 x7 : Int) (x8 : Nat) (H : AHeap) : Prop :=
  AC Try.prog T0 12 [x1] H (fun v1 H2 => B8 P x1 x2 x6 x7 x8 v1 H2)
theorem q9 (P : PT) : QB Try.prog T0 56 o9 (En 56 k4 (B8 P)) k5 (B9 P) := fun _ _ _ _ _ _ _  => by kernel_rfl
abbrev k6 : Sk := [(1,.v),(2,.x),(6,.i .i64),(7,.i .i64)]
noncomputable def o10 := ob Try.f3 [.r,.r,.r,.r,.r,.r,.l]
def B10 (P : PT) (x1 : Value) (x2 : Nat) (x6 x7 : Int) (H : AHeap) : Prop :=
  ldI .i64 H x2 0 (fun v1 => ld1 H x2 1 (fun v2 => AC Try.prog T0 11 [(Value.agg ⟨[(Value.int .i64 v1), v2]⟩)] H (fun v3 H4 => agg2 v3 (fun v5 v6 => asI .i64 v5 (fun v7 => newK H4 [(Value.int .i64 0), (Value.slice none 0 0)] 31 (fun b9 H10 => stK H10 b9 0 [(Value.int .i64 v7), v6] (fun H11 => B9 P x1 x2 x6 x7 b9 H11)))))))
theorem q10 (P : PT) : QB Try.prog T0 56 o10 (En 56 k5 (B9 P)) k6 (B10 P) := fun _ _ _ _ _ _  => by kernel_rfl
abbrev k7 : Sk := [(1,.v),(2,.x)]
noncomputable def o11 := ob Try.f3 [.r,.r,.r,.r,.r,.l]
def B11 (P : PT) (x1 : Value) (x2 : Nat) (H : AHeap) : Prop :=
  ldI .i64 H x2 0 (fun v1 => ld1 H x2 1 (fun v2 => AC Try.prog T0 11 [(Value.agg ⟨[(Value.int .i64 v1), v2]⟩)] H (fun v3 H4 => agg2 v3 (fun v5 v6 => asI .i64 v5 (fun v7 => AC Try.prog T0 12 [x1] H4 (fun v9 H10 => AC Try.prog T0 10 [(Value.agg ⟨[(Value.int .i64 v7), v6]⟩), v9] H10 (fun v12 H13 => tup2 v12 (fun v14 v15 => asI .i64 v14 (fun v16 => asI .i64 v15 (fun v17 => B10 P x1 x2 v16 v17 H13))))))))))
theorem q11 (P : PT) : QB Try.prog T0 56 o11 (En 56 k6 (B10 P)) k7 (B11 P) := fun _ _ _ _  => by kernel_rfl
noncomputable def o12 := ob Try.f3 [.r,.r,.r,.r,.l,.r,.l,.l]
def B12 (P : PT) (H : AHeap) : Prop :=
  P (Value.bool true) H
theorem q12 (P : PT) : QB Try.prog T0 56 o12 (ret P) k0 (B12 P) := fun _ _  => by kernel_rfl
abbrev k8 : Sk := [(1,.v),(2,.x),(5,.i .i64)]
noncomputable def o13 := ob Try.f3 [.r,.r,.r,.r,.l,.l]
def B13 (P : PT) (x1 : Value) (x2 : Nat) (x5 : Int) (H : AHeap) : Prop :=
  pif (decide ((x5 : Int) < 0)) (B12 P H) (B11 P x1 x2 H)
theorem q13 (P : PT) : QB Try.prog T0 56 o13 (cnd 19 (En 56 k0 (B12 P)) (En 56 k7 (B11 P))) k8 (B13 P) := fun _ _ _ _ _  => by kernel_rfl
noncomputable def o14 := ob Try.f3 [.r,.r,.r,.l]
def B14 (P : PT) (x1 : Value) (x2 : Nat) (x5 : Int) (H : AHeap) : Prop :=
  ldI .i64 H x2 0 (fun v1 => ld1 H x2 1 (fun v2 => AC Try.prog T0 9 [(Value.agg ⟨[(Value.int .i64 v1), v2]⟩), (Value.int .i64 x5)] H (fun v3 H4 => asI .i64 v3 (fun v5 => B13 P x1 x2 v5 H4))))
theorem q14 (P : PT) : QB Try.prog T0 56 o14 (En 56 k8 (B13 P)) k8 (B14 P) := fun _ _ _ _ _  => by kernel_rfl
noncomputable def o15 := ob Try.f3 [.r,.r,.l]
def B15 (P : PT) (x1 : Value) (x2 : Nat) (H : AHeap) : Prop :=
  B14 P x1 x2 1048576 H
theorem q15 (P : PT) : QB Try.prog T0 56 o15 (En 56 k8 (B14 P)) k7 (B15 P) := fun _ _ _ _  => by kernel_rfl
noncomputable def o16 := ob Try.f3 [.r,.l,.r,.l,.l]
def B16 (P : PT) (H : AHeap) : Prop :=
  P (Value.bool true) H
theorem q16 (P : PT) : QB Try.prog T0 56 o16 (ret P) k0 (B16 P) := fun _ _  => by kernel_rfl
noncomputable def o17 := ob Try.f3 [.r,.l,.l]
def B17 (P : PT) (x1 : Value) (x2 : Nat) (H : AHeap) : Prop :=
  lenK x1 (fun n1 => pif (decide (((n1 : Int) : Int) > 1048576)) (B16 P H) (B15 P x1 x2 H))
theorem q17 (P : PT) : QB Try.prog T0 56 o17 (cnd 14 (En 56 k0 (B16 P)) (En 56 k7 (B15 P))) k7 (B17 P) := fun _ _ _ _  => by kernel_rfl
abbrev k9 : Sk := [(0,.g [.i,.v]),(1,.v)]
noncomputable def o18 := ob Try.f3 [.l]
def B18 (P : PT) (x0a : Int) (x0b x1 : Value) (H : AHeap) : Prop :=
  newK H [(Value.int .i64 x0a), x0b] 24 (fun b1 H2 => B17 P x1 b1 H2)
theorem q18 (P : PT) : QB Try.prog T0 56 o18 (En 56 k7 (B17 P)) k9 (B18 P) := fun _ _ _ _ _  => by kernel_rfl
noncomputable def code : Code := (.seq (.region 0 ⟨o18⟩ false) (.seq (.seq (.region 1 ⟨o17⟩ false) (.cond (.tmp 14) (.seq (.region 2 ⟨o16⟩ false) .ret) .skip)) (.seq (.region 3 ⟨o15⟩ false) (.seq (.region 4 ⟨o14⟩ false) (.seq (.seq (.region 5 ⟨o13⟩ false) (.cond (.tmp 19) (.seq (.region 6 ⟨o12⟩ false) .ret) .skip)) (.seq (.region 7 ⟨o11⟩ false) (.seq (.region 8 ⟨o10⟩ false) (.seq (.region 9 ⟨o9⟩ false) (.seq (.region 10 ⟨o8⟩ false) (.seq (.seq (.region 11 ⟨o7⟩ false) (.cond (.tmp 45) (.seq (.region 12 ⟨o6⟩ false) .ret) .skip)) (.seq (.seq (.region 13 ⟨o5⟩ true) (.cond (.tmp 50) (.seq (.region 14 ⟨o4⟩ false) .ret) .skip)) (.seq (.seq (.region 15 ⟨o3⟩ false) (.cond (.tmp 55) (.seq (.region 16 ⟨o2⟩ false) .ret) .skip)) (.seq (.region 17 ⟨o1⟩ false) .ret)))))))))))))
theorem body : Try.f3.body = some code := by kernel_rfl
theorem main (P : PT) : ∀ env H, (En 56 k9 (B18 P)) env H → AW Try.prog T0 code env H (mkQ (ret P) (fun _ _ _ => False) (ret P)) :=
  (r_seq (rB T0_ok (q18 P)) (r_seq (r_seq (rB T0_ok (q17 P)) (r_cond rfl (r_seq (rB T0_ok (q16 P)) r_ret) r_skip)) (r_seq (rB T0_ok (q15 P)) (r_seq (rB T0_ok (q14 P)) (r_seq (r_seq (rB T0_ok (q13 P)) (r_cond rfl (r_seq (rB T0_ok (q12 P)) r_ret) r_skip)) (r_seq (rB T0_ok (q11 P)) (r_seq (rB T0_ok (q10 P)) (r_seq (rB T0_ok (q9 P)) (r_seq (rB T0_ok (q8 P)) (r_seq (r_seq (rB T0_ok (q7 P)) (r_cond rfl (r_seq (rB T0_ok (q6 P)) r_ret) r_skip)) (r_seq (r_seq (rD T0_ok mixed [(0, false), (1, false), (2, true), (3, false), (4, false)] (by kernel_rfl) (q5 P)) (r_cond rfl (r_seq (rB T0_ok (q4 P)) r_ret) r_skip)) (r_seq (r_seq (rB T0_ok (q3 P)) (r_cond rfl (r_seq (rB T0_ok (q2 P)) r_ret) r_skip)) (r_seq (rB T0_ok (q1 P)) r_ret)))))))))))))
theorem ac (P : PT) (x0a : Int) (x0b x1 : Value) (H : AHeap) (h : B18 P x0a x0b x1 H) : AC Try.prog T0 3 [(Value.agg ⟨[(Value.int .i64 x0a), x0b]⟩), x1] H P :=
  r_fn T0_ok (c := code) (n := 56) Try.func3 body (by kernel_rfl) (main P) (En_mk (x0a, x0b, x1, ()) (by kernel_rfl) ⟨by kernel_rfl, by kernel_rfl, trivial⟩ h)

end F3
-- loop.example/g01329/laws.szGraph
namespace F9
noncomputable def ret (P : PT) : EP := retE T0 12 Try.f9 P
abbrev k0 : Sk := [(1,.i .i64)]
noncomputable def o1 := ob Try.f9 [.r,.r,.r,.l]
def B1 (P : PT) (x1 : Int) (H : AHeap) : Prop :=
  P (Value.int .i64 x1) H
theorem q1 (P : PT) : QB Try.prog T0 12 o1 (ret P) k0 (B1 P) := fun _ _ _  => by kernel_rfl
abbrev k1 : Sk := []
noncomputable def o2 := ob Try.f9 [.r,.r,.l,.r,.l,.l]
def B2 (P : PT) (H : AHeap) : Prop :=
  P (Value.int .i64 (-1)) H
theorem q2 (P : PT) : QB Try.prog T0 12 o2 (ret P) k1 (B2 P) := fun _ _  => by kernel_rfl
noncomputable def o3 := ob Try.f9 [.r,.r,.l,.l]
def B3 (P : PT) (x1 : Int) (H : AHeap) : Prop :=
  pif (decide ((x1 : Int) < 0)) (B2 P H) (B1 P x1 H)
theorem q3 (P : PT) : QB Try.prog T0 12 o3 (cnd 10 (En 12 k1 (B2 P)) (En 12 k0 (B1 P))) k0 (B3 P) := fun _ _ _  => by kernel_rfl
abbrev k2 : Sk := [(1,.i .i64),(2,.x)]
noncomputable def o4 := ob Try.f9 [.r,.l]
def B4 (P : PT) (x1 : Int) (x2 : Nat) (H : AHeap) : Prop :=
  ld1 H x2 1 (fun v1 => AC Try.prog T0 35 [v1, (Value.int .i64 x1)] H (fun v2 H3 => asI .i64 v2 (fun v4 => B3 P v4 H3)))
theorem q4 (P : PT) : QB Try.prog T0 12 o4 (En 12 k0 (B3 P)) k2 (B4 P) := fun _ _ _ _  => by kernel_rfl
abbrev k3 : Sk := [(0,.g [.i,.v]),(1,.i .i64)]
noncomputable def o5 := ob Try.f9 [.l]
def B5 (P : PT) (x0a : Int) (x0b : Value) (x1 : Int) (H : AHeap) : Prop :=
  newK H [(Value.int .i64 x0a), x0b] 24 (fun b1 H2 => B4 P x1 b1 H2)
theorem q5 (P : PT) : QB Try.prog T0 12 o5 (En 12 k2 (B4 P)) k3 (B5 P) := fun _ _ _ _ _  => by kernel_rfl
noncomputable def code : Code := (.seq (.region 0 ⟨o5⟩ false) (.seq (.region 1 ⟨o4⟩ false) (.seq (.seq (.region 2 ⟨o3⟩ false) (.cond (.tmp 10) (.seq (.region 3 ⟨o2⟩ false) .ret) .skip)) (.seq (.region 4 ⟨o1⟩ false) .ret))))
theorem body : Try.f9.body = some code := by kernel_rfl
theorem main (P : PT) : ∀ env H, (En 12 k3 (B5 P)) env H → AW Try.prog T0 code env H (mkQ (ret P) (fun _ _ _ => False) (ret P)) :=
  (r_seq (rB T0_ok (q5 P)) (r_seq (rB T0_ok (q4 P)) (r_seq (r_seq (rB T0_ok (q3 P)) (r_cond rfl (r_seq (rB T0_ok (q2 P)) r_ret) r_skip)) (r_seq (rB T0_ok (q1 P)) r_ret))))
theorem ac (P : PT) (x0a : Int) (x0b : Value) (x1 : Int) (H : AHeap) (h : B5 P x0a x0b x1 H) : AC Try.prog T0 9 [(Value.agg ⟨[(Value.int .i64 x0a), x0b]⟩), (Value.int .i64 x1)] H P :=
  r_fn T0_ok (c := code) (n := 12) Try.func9 body (by kernel_rfl) (main P) (En_mk (x0a, x0b, x1, ()) (by kernel_rfl) ⟨by kernel_rfl, by kernel_rfl, trivial⟩ h)

end F9
-- loop.example/g01329/spec.CountReached
namespace F10
noncomputable def ret (P : PT) : EP := retE T0 84 Try.f10 P
abbrev k0 : Sk := [(7,.v)]
noncomputable def o1 := ob Try.f10 [.r,.r,.r,.r,.l]
def B1 (P : PT) (x7 : Value) (H : AHeap) : Prop :=
  lenK x7 (fun n1 => P (Value.tuple ⟨[(Value.int .i64 (n1 : Int)), (Value.int .i64 0)]⟩) H)
theorem q1 (P : PT) : QB Try.prog T0 84 o1 (ret P) k0 (B1 P) := fun _ _ _  => by kernel_rfl
abbrev k1 : Sk := [(1,.v),(2,.x),(7,.v),(8,.i .i64)]
noncomputable def o3 := ob Try.f10 [.r,.r,.r,.l,.r,.l,.l,.r,.r]
def B3 (P : PT) (N2 : NTy k1 Pr) (x1 : Value) (x2 : Nat) (x7 : Value) (x8 : Int) (H : AHeap) : Prop :=
  N2 x1 x2 x7 (IntKind.i64.wrap (x8 + 1)) H
theorem q3 (P : PT) (N2 : NTy k1 Pr) : QB Try.prog T0 84 o3 (En 84 k1 N2) k1 (B3 P N2) := fun _ _ _ _ _ _  => by kernel_rfl
abbrev k2 : Sk := [(1,.v),(2,.x),(7,.v),(8,.i .i64),(9,.i .i64)]
noncomputable def o5 := ob Try.f10 [.r,.r,.r,.l,.r,.l,.l,.r,.l,.l,.r,.l,.l,.r,.r]
def B5 (P : PT) (N2 : NTy k1 Pr) (N4 : NTy k2 Pr) (x1 : Value) (x2 : Nat) (x7 : Value) (x8 x9 : Int) (H : AHeap) : Prop :=
  N4 x1 x2 x7 x8 (IntKind.i64.wrap (x9 + 1)) H
theorem q5 (P : PT) (N2 : NTy k1 Pr) (N4 : NTy k2 Pr) : QB Try.prog T0 84 o5 (En 84 k2 N4) k2 (B5 P N2 N4) := fun _ _ _ _ _ _ _  => by kernel_rfl
abbrev k3 : Sk := [(1,.v),(2,.x),(7,.v),(8,.i .i64),(9,.i .i64),(10,.i .i64)]
noncomputable def o7 := ob Try.f10 [.r,.r,.r,.l,.r,.l,.l,.r,.l,.l,.r,.l,.l,.r,.l,.l,.r,.l,.l,.r,.r]
def B7 (P : PT) (N2 : NTy k1 Pr) (N4 : NTy k2 Pr) (N6 : NTy k3 Pr) (x1 : Value) (x2 : Nat) (x7 : Value) (x8 x9 x10 : Int) (H : AHeap) : Prop :=
  N6 x1 x2 x7 x8 x9 (IntKind.i64.wrap (x10 + 1)) H
theorem q7 (P : PT) (N2 : NTy k1 Pr) (N4 : NTy k2 Pr) (N6 : NTy k3 Pr) : QB Try.prog T0 84 o7 (En 84 k3 N6) k3 (B7 P N2 N4 N6) := fun _ _ _ _ _ _ _ _  => by kernel_rfl
abbrev k4 : Sk := []
noncomputable def o8 := ob Try.f10 [.r,.r,.r,.l,.r,.l,.l,.r,.l,.l,.r,.l,.l,.r,.l,.l,.r,.l,.l,.r,.l,.l,.r,.r,.r,.r,.r,.l,.l]
def B8 (P : PT) (N2 : NTy k1 Pr) (N4 : NTy k2 Pr) (N6 : NTy k3 Pr) (H : AHeap) : Prop :=
  P (Value.tuple ⟨[(Value.int .i64 0), (Value.int .i64 3)]⟩) H
theorem q8 (P : PT) (N2 : NTy k1 Pr) (N4 : NTy k2 Pr) (N6 : NTy k3 Pr) : QB Try.prog T0 84 o8 (ret P) k4 (B8 P N2 N4 N6) := fun _ _  => by kernel_rfl
noncomputable def o9 := ob Try.f10 [.r,.r,.r,.l,.r,.l,.l,.r,.l,.l,.r,.l,.l,.r,.l,.l,.r,.l,.l,.r,.l,.l,.r,.r,.r,.r,.l]
def B9 (P : PT) (N2 : NTy k1 Pr) (N4 : NTy k2 Pr) (N6 : NTy k3 Pr) (x1 : Value) (x2 : Nat) (x7 : Value) (x8 x9 x10 : Int) (H : AHeap) : Prop :=
  lenK x7 (fun n1 => pif (decide (((n1 : Int) : Int) > 300)) (B8 P N2 N4 N6 H) (B7 P N2 N4 N6 x1 x2 x7 x8 x9 x10 H))
theorem q9 (P : PT) (N2 : NTy k1 Pr) (N4 : NTy k2 Pr) (N6 : NTy k3 Pr) : QB Try.prog T0 84 o9 (cnd 81 (En 84 k4 (B8 P N2 N4 N6)) (En 84 k3 (B7 P N2 N4 N6))) k3 (B9 P N2 N4 N6) := fun _ _ _ _ _ _ _ _  => by kernel_rfl
abbrev k5 : Sk := [(1,.v),(2,.x),(7,.v),(8,.i .i64),(9,.i .i64),(10,.i .i64),(11,.v)]
noncomputable def o10 := ob Try.f10 [.r,.r,.r,.l,.r,.l,.l,.r,.l,.l,.r,.l,.l,.r,.l,.l,.r,.l,.l,.r,.l,.l,.r,.r,.r,.l,.r,.l]
def B10 (P : PT) (N2 : NTy k1 Pr) (N4 : NTy k2 Pr) (N6 : NTy k3 Pr) (x1 : Value) (x2 : Nat) (x7 : Value) (x8 x9 x10 : Int) (x11 : Value) (H : AHeap) : Prop :=
  pif (Value.oneCell' x11) (newK H [x11] 25 (fun b1 H2 => apK T0 25 H2 x7 (Value.slice (some ⟨b1, 0, none⟩) 1 (1 + 1)) (fun v3 H4 => B9 P N2 N4 N6 x1 x2 v3 x8 x9 x10 H4))) False
theorem q10 (P : PT) (N2 : NTy k1 Pr) (N4 : NTy k2 Pr) (N6 : NTy k3 Pr) : QB Try.prog T0 84 o10 (En 84 k3 (B9 P N2 N4 N6)) k5 (B10 P N2 N4 N6) := fun _ _ _ _ _ _ _ _ _  => by kernel_rfl
abbrev k6 : Sk := [(1,.v),(2,.x),(7,.v),(8,.i .i64),(9,.i .i64),(10,.i .i64),(11,.v),(12,.b)]
noncomputable def o11 := ob Try.f10 [.r,.r,.r,.l,.r,.l,.l,.r,.l,.l,.r,.l,.l,.r,.l,.l,.r,.l,.l,.r,.l,.l,.r,.r,.r,.l,.l]
def B11 (P : PT) (N2 : NTy k1 Pr) (N4 : NTy k2 Pr) (N6 : NTy k3 Pr) (x1 : Value) (x2 : Nat) (x7 : Value) (x8 x9 x10 : Int) (x11 : Value) (x12 : Bool) (H : AHeap) : Prop :=
  pif (!x12) (B10 P N2 N4 N6 x1 x2 x7 x8 x9 x10 x11 H) (B9 P N2 N4 N6 x1 x2 x7 x8 x9 x10 H)
theorem q11 (P : PT) (N2 : NTy k1 Pr) (N4 : NTy k2 Pr) (N6 : NTy k3 Pr) : QB Try.prog T0 84 o11 (cnd 74 (En 84 k5 (B10 P N2 N4 N6)) (En 84 k3 (B9 P N2 N4 N6))) k6 (B11 P N2 N4 N6) := fun _ _ _ _ _ _ _ _ _ _  => by kernel_rfl
abbrev k7 : Sk := [(1,.v),(2,.x),(7,.v),(8,.i .i64),(9,.i .i64),(10,.i .i64),(11,.v),(12,.b),(13,.i .i64)]
noncomputable def o13 := ob Try.f10 [.r,.r,.r,.l,.r,.l,.l,.r,.l,.l,.r,.l,.l,.r,.l,.l,.r,.l,.l,.r,.l,.l,.r,.r,.l,.r,.l,.l,.r,.r]
def B13 (P : PT) (N2 : NTy k1 Pr) (N4 : NTy k2 Pr) (N6 : NTy k3 Pr) (N12 : NTy k7 Pr) (x1 : Value) (x2 : Nat) (x7 : Value) (x8 x9 x10 : Int) (x11 : Value) (x12 : Bool) (x13 : Int) (H : AHeap) : Prop :=
  N12 x1 x2 x7 x8 x9 x10 x11 x12 (IntKind.i64.wrap (x13 + 1)) H
theorem q13 (P : PT) (N2 : NTy k1 Pr) (N4 : NTy k2 Pr) (N6 : NTy k3 Pr) (N12 : NTy k7 Pr) : QB Try.prog T0 84 o13 (En 84 k7 N12) k7 (B13 P N2 N4 N6 N12) := fun _ _ _ _ _ _ _ _ _ _ _  => by kernel_rfl
abbrev k8 : Sk := [(1,.v),(2,.x),(7,.v),(8,.i .i64),(9,.i .i64),(10,.i .i64),(11,.v),(13,.i .i64)]
noncomputable def o14 := ob Try.f10 [.r,.r,.r,.l,.r,.l,.l,.r,.l,.l,.r,.l,.l,.r,.l,.l,.r,.l,.l,.r,.l,.l,.r,.r,.l,.r,.l,.l,.r,.l,.l]
def B14 (P : PT) (N2 : NTy k1 Pr) (N4 : NTy k2 Pr) (N6 : NTy k3 Pr) (N12 : NTy k7 Pr) (x1 : Value) (x2 : Nat) (x7 : Value) (x8 x9 x10 : Int) (x11 : Value) (x13 : Int) (H : AHeap) : Prop :=
  idxK x7 x13 1 (fun b1 o2 => ld1 H b1 o2 (fun v3 => AC Try.prog T0 39 [v3, x11] H (fun v4 H5 => asB v4 (fun v6 => B13 P N2 N4 N6 N12 x1 x2 x7 x8 x9 x10 x11 v6 x13 H5))))
theorem q14 (P : PT) (N2 : NTy k1 Pr) (N4 : NTy k2 Pr) (N6 : NTy k3 Pr) (N12 : NTy k7 Pr) : QB Try.prog T0 84 o14 (En 84 k7 (B13 P N2 N4 N6 N12)) k8 (B14 P N2 N4 N6 N12) := fun _ _ _ _ _ _ _ _ _ _  => by kernel_rfl
noncomputable def o15 := ob Try.f10 [.r,.r,.r,.l,.r,.l,.l,.r,.l,.l,.r,.l,.l,.r,.l,.l,.r,.l,.l,.r,.l,.l,.r,.r,.l,.r,.l,.l,.l,.l]
def B15 (P : PT) (N2 : NTy k1 Pr) (N4 : NTy k2 Pr) (N6 : NTy k3 Pr) (N12 : NTy k7 Pr) (x1 : Value) (x2 : Nat) (x7 : Value) (x8 x9 x10 : Int) (x11 : Value) (x12 : Bool) (x13 : Int) (H : AHeap) : Prop :=
  lenK x7 (fun n1 => pif (decide ((x13 : Int) < (n1 : Int))) (pif (!x12) (B14 P N2 N4 N6 N12 x1 x2 x7 x8 x9 x10 x11 x13 H) (B11 P N2 N4 N6 x1 x2 x7 x8 x9 x10 x11 x12 H)) (B11 P N2 N4 N6 x1 x2 x7 x8 x9 x10 x11 x12 H))
theorem q15 (P : PT) (N2 : NTy k1 Pr) (N4 : NTy k2 Pr) (N6 : NTy k3 Pr) (N12 : NTy k7 Pr) : QB Try.prog T0 84 o15 (cnd 64 (En 84 k8 (B14 P N2 N4 N6 N12)) (En 84 k6 (B11 P N2 N4 N6))) k7 (B15 P N2 N4 N6 N12) := fun _ _ _ _ _ _ _ _ _ _ _  => by kernel_rfl
def L12 (P : PT) (N2 : NTy k1 Pr) (N4 : NTy k2 Pr) (N6 : NTy k3 Pr) (x1 : Value) (x2 : Nat) (x7 : Value) (x8 x9 x10 : Int) (x11 : Value) (x12 : Bool) (x13 : Int) (H : AHeap) : Prop :=
  ∃ (I : NTy k7 Pr) (μ : NTy k7 (AHeap → Nat)), I x1 x2 x7 x8 x9 x10 x11 x12 x13 H ∧ ∀ y1 y2 y7 y8 y9 y10 y11 y12 y13 G, I y1 y2 y7 y8 y9 y10 y11 y12 y13 G → B15 P N2 N4 N6 (fun z1 z2 z7 z8 z9 z10 z11 z12 z13 G' => I z1 z2 z7 z8 z9 z10 z11 z12 z13 G' ∧ μ z1 z2 z7 z8 z9 z10 z11 z12 z13 G' < μ y1 y2 y7 y8 y9 y10 y11 y12 y13 G) y1 y2 y7 y8 y9 y10 y11 y12 y13 G
theorem l12 (P : PT) (N2 : NTy k1 Pr) (N4 : NTy k2 Pr) (N6 : NTy k3 Pr) : LQ k7 (L12 P N2 N4 N6) (B15 P N2 N4 N6) := fun ⟨_,_,_,_,_,_,_,_,_,_⟩ _ ⟨I, μ, h0, hI⟩ => ⟨apT _ I, apT _ μ, h0, fun ⟨_,_,_,_,_,_,_,_,_,_⟩ _ h => hI _ _ _ _ _ _ _ _ _ _  h⟩
noncomputable def o16 := ob Try.f10 [.r,.r,.r,.l,.r,.l,.l,.r,.l,.l,.r,.l,.l,.r,.l,.l,.r,.l,.l,.r,.l,.l,.r,.r,.l,.l]
def B16 (P : PT) (N2 : NTy k1 Pr) (N4 : NTy k2 Pr) (N6 : NTy k3 Pr) (x1 : Value) (x2 : Nat) (x7 : Value) (x8 x9 x10 : Int) (x11 : Value) (x12 : Bool) (H : AHeap) : Prop :=
  L12 P N2 N4 N6 x1 x2 x7 x8 x9 x10 x11 x12 0 H
theorem q16 (P : PT) (N2 : NTy k1 Pr) (N4 : NTy k2 Pr) (N6 : NTy k3 Pr) : QB Try.prog T0 84 o16 (En 84 k7 (L12 P N2 N4 N6)) k6 (B16 P N2 N4 N6) := fun _ _ _ _ _ _ _ _ _ _  => by kernel_rfl
noncomputable def o17 := ob Try.f10 [.r,.r,.r,.l,.r,.l,.l,.r,.l,.l,.r,.l,.l,.r,.l,.l,.r,.l,.l,.r,.l,.l,.r,.l]
def B17 (P : PT) (N2 : NTy k1 Pr) (N4 : NTy k2 Pr) (N6 : NTy k3 Pr) (x1 : Value) (x2 : Nat) (x7 : Value) (x8 x9 x10 : Int) (H : AHeap) : Prop :=
  ldI .i64 H x2 0 (fun v1 => ld1 H x2 1 (fun v2 => idxK x7 x8 1 (fun b3 o4 => ld1 H b3 o4 (fun v5 => AC Try.prog T0 38 [(Value.agg ⟨[(Value.int .i64 v1), v2]⟩), v5, (Value.int .i64 x9), (Value.int .i64 x10)] H (fun v6 H7 => B16 P N2 N4 N6 x1 x2 x7 x8 x9 x10 v6 false H7)))))
theorem q17 (P : PT) (N2 : NTy k1 Pr) (N4 : NTy k2 Pr) (N6 : NTy k3 Pr) : QD Try.prog T0 84 o17 [(0, false), (1, false), (2, false), (3, false), (4, false), (5, false), (6, false), (7, false), (8, false), (9, false)] (En 84 k6 (B16 P N2 N4 N6)) k3 (B17 P N2 N4 N6) := fun _ _ _ _ _ _ _ _  => by kernel_rfl
noncomputable def o18 := ob Try.f10 [.r,.r,.r,.l,.r,.l,.l,.r,.l,.l,.r,.l,.l,.r,.l,.l,.r,.l,.l,.r,.l,.l,.l,.l]
def B18 (P : PT) (N2 : NTy k1 Pr) (N4 : NTy k2 Pr) (N6 : NTy k3 Pr) (x1 : Value) (x2 : Nat) (x7 : Value) (x8 x9 x10 : Int) (H : AHeap) : Prop :=
  idxK x7 x8 1 (fun b1 o2 => ld1 H b1 o2 (fun v3 => idxK v3 x9 1 (fun b4 o5 => ldI .i64 H b4 o5 (fun v6 => pif ((v6 : Int) == x10) (B7 P N2 N4 N6 x1 x2 x7 x8 x9 x10 H) (B17 P N2 N4 N6 x1 x2 x7 x8 x9 x10 H)))))
theorem q18 (P : PT) (N2 : NTy k1 Pr) (N4 : NTy k2 Pr) (N6 : NTy k3 Pr) : QB Try.prog T0 84 o18 (cnd 48 (En 84 k3 (B7 P N2 N4 N6)) (En 84 k3 (B17 P N2 N4 N6))) k3 (B18 P N2 N4 N6) := fun _ _ _ _ _ _ _ _  => by kernel_rfl
noncomputable def o19 := ob Try.f10 [.r,.r,.r,.l,.r,.l,.l,.r,.l,.l,.r,.l,.l,.r,.l,.l,.r,.l,.l,.l,.l]
def B19 (P : PT) (N2 : NTy k1 Pr) (N4 : NTy k2 Pr) (N6 : NTy k3 Pr) (x1 : Value) (x2 : Nat) (x7 : Value) (x8 x9 x10 : Int) (H : AHeap) : Prop :=
  pif (decide ((x10 : Int) < 3)) (B18 P N2 N4 N6 x1 x2 x7 x8 x9 x10 H) (B5 P N2 N4 x1 x2 x7 x8 x9 H)
theorem q19 (P : PT) (N2 : NTy k1 Pr) (N4 : NTy k2 Pr) (N6 : NTy k3 Pr) : QB Try.prog T0 84 o19 (cnd 37 (En 84 k3 (B18 P N2 N4 N6)) (En 84 k2 (B5 P N2 N4))) k3 (B19 P N2 N4 N6) := fun _ _ _ _ _ _ _ _  => by kernel_rfl
def L6 (P : PT) (N2 : NTy k1 Pr) (N4 : NTy k2 Pr) (x1 : Value) (x2 : Nat) (x7 : Value) (x8 x9 x10 : Int) (H : AHeap) : Prop :=
  ∃ (I : NTy k3 Pr) (μ : NTy k3 (AHeap → Nat)), I x1 x2 x7 x8 x9 x10 H ∧ ∀ y1 y2 y7 y8 y9 y10 G, I y1 y2 y7 y8 y9 y10 G → B19 P N2 N4 (fun z1 z2 z7 z8 z9 z10 G' => I z1 z2 z7 z8 z9 z10 G' ∧ μ z1 z2 z7 z8 z9 z10 G' < μ y1 y2 y7 y8 y9 y10 G) y1 y2 y7 y8 y9 y10 G
theorem l6 (P : PT) (N2 : NTy k1 Pr) (N4 : NTy k2 Pr) : LQ k3 (L6 P N2 N4) (B19 P N2 N4) := fun ⟨_,_,_,_,_,_,_⟩ _ ⟨I, μ, h0, hI⟩ => ⟨apT _ I, apT _ μ, h0, fun ⟨_,_,_,_,_,_,_⟩ _ h => hI _ _ _ _ _ _ _  h⟩
noncomputable def o20 := ob Try.f10 [.r,.r,.r,.l,.r,.l,.l,.r,.l,.l,.r,.l,.l,.r,.l,.l,.l]
def B20 (P : PT) (N2 : NTy k1 Pr) (N4 : NTy k2 Pr) (x1 : Value) (x2 : Nat) (x7 : Value) (x8 x9 : Int) (H : AHeap) : Prop :=
  L6 P N2 N4 x1 x2 x7 x8 x9 0 H
theorem q20 (P : PT) (N2 : NTy k1 Pr) (N4 : NTy k2 Pr) : QB Try.prog T0 84 o20 (En 84 k3 (L6 P N2 N4)) k2 (B20 P N2 N4) := fun _ _ _ _ _ _ _  => by kernel_rfl
noncomputable def o21 := ob Try.f10 [.r,.r,.r,.l,.r,.l,.l,.r,.l,.l,.r,.l,.l,.l,.l]
def B21 (P : PT) (N2 : NTy k1 Pr) (N4 : NTy k2 Pr) (x1 : Value) (x2 : Nat) (x7 : Value) (x8 x9 : Int) (H : AHeap) : Prop :=
  lenK x1 (fun n1 => pif (decide ((x9 : Int) < (n1 : Int))) (B20 P N2 N4 x1 x2 x7 x8 x9 H) (B3 P N2 x1 x2 x7 x8 H))
theorem q21 (P : PT) (N2 : NTy k1 Pr) (N4 : NTy k2 Pr) : QB Try.prog T0 84 o21 (cnd 33 (En 84 k2 (B20 P N2 N4)) (En 84 k1 (B3 P N2))) k2 (B21 P N2 N4) := fun _ _ _ _ _ _ _  => by kernel_rfl
def L4 (P : PT) (N2 : NTy k1 Pr) (x1 : Value) (x2 : Nat) (x7 : Value) (x8 x9 : Int) (H : AHeap) : Prop :=
  ∃ (I : NTy k2 Pr) (μ : NTy k2 (AHeap → Nat)), I x1 x2 x7 x8 x9 H ∧ ∀ y1 y2 y7 y8 y9 G, I y1 y2 y7 y8 y9 G → B21 P N2 (fun z1 z2 z7 z8 z9 G' => I z1 z2 z7 z8 z9 G' ∧ μ z1 z2 z7 z8 z9 G' < μ y1 y2 y7 y8 y9 G) y1 y2 y7 y8 y9 G
theorem l4 (P : PT) (N2 : NTy k1 Pr) : LQ k2 (L4 P N2) (B21 P N2) := fun ⟨_,_,_,_,_,_⟩ _ ⟨I, μ, h0, hI⟩ => ⟨apT _ I, apT _ μ, h0, fun ⟨_,_,_,_,_,_⟩ _ h => hI _ _ _ _ _ _  h⟩
noncomputable def o22 := ob Try.f10 [.r,.r,.r,.l,.r,.l,.l,.r,.l,.l,.l]
def B22 (P : PT) (N2 : NTy k1 Pr) (x1 : Value) (x2 : Nat) (x7 : Value) (x8 : Int) (H : AHeap) : Prop :=
  L4 P N2 x1 x2 x7 x8 0 H
theorem q22 (P : PT) (N2 : NTy k1 Pr) : QB Try.prog T0 84 o22 (En 84 k2 (L4 P N2)) k1 (B22 P N2) := fun _ _ _ _ _ _  => by kernel_rfl
noncomputable def o23 := ob Try.f10 [.r,.r,.r,.l,.r,.l,.l,.l,.l]
def B23 (P : PT) (N2 : NTy k1 Pr) (x1 : Value) (x2 : Nat) (x7 : Value) (x8 : Int) (H : AHeap) : Prop :=
  lenK x7 (fun n1 => pif (decide ((x8 : Int) < (n1 : Int))) (B22 P N2 x1 x2 x7 x8 H) (B1 P x7 H))
theorem q23 (P : PT) (N2 : NTy k1 Pr) : QB Try.prog T0 84 o23 (cnd 27 (En 84 k1 (B22 P N2)) (En 84 k0 (B1 P))) k1 (B23 P N2) := fun _ _ _ _ _ _  => by kernel_rfl
def L2 (P : PT) (x1 : Value) (x2 : Nat) (x7 : Value) (x8 : Int) (H : AHeap) : Prop :=
  ∃ (I : NTy k1 Pr) (μ : NTy k1 (AHeap → Nat)), I x1 x2 x7 x8 H ∧ ∀ y1 y2 y7 y8 G, I y1 y2 y7 y8 G → B23 P (fun z1 z2 z7 z8 G' => I z1 z2 z7 z8 G' ∧ μ z1 z2 z7 z8 G' < μ y1 y2 y7 y8 G) y1 y2 y7 y8 G
theorem l2 (P : PT) : LQ k1 (L2 P) (B23 P) := fun ⟨_,_,_,_,_⟩ _ ⟨I, μ, h0, hI⟩ => ⟨apT _ I, apT _ μ, h0, fun ⟨_,_,_,_,_⟩ _ h => hI _ _ _ _ _  h⟩
abbrev k9 : Sk := [(1,.v),(2,.x),(7,.v)]
noncomputable def o24 := ob Try.f10 [.r,.r,.r,.l,.l]
def B24 (P : PT) (x1 : Value) (x2 : Nat) (x7 : Value) (H : AHeap) : Prop :=
  L2 P x1 x2 x7 0 H
theorem q24 (P : PT) : QB Try.prog T0 84 o24 (En 84 k1 (L2 P)) k9 (B24 P) := fun _ _ _ _ _  => by kernel_rfl
abbrev k10 : Sk := [(1,.v),(2,.x)]
noncomputable def o25 := ob Try.f10 [.r,.r,.l]
def B25 (P : PT) (x1 : Value) (x2 : Nat) (H : AHeap) : Prop :=
  AC Try.prog T0 37 [x1] H (fun v1 H2 => pif (Value.oneCell' v1) (newK H2 [v1] 25 (fun b4 H5 => B24 P x1 x2 (Value.slice (some ⟨b4, 0, none⟩) 1 (1 + 1)) H5)) False)
theorem q25 (P : PT) : QB Try.prog T0 84 o25 (En 84 k9 (B24 P)) k10 (B25 P) := fun _ _ _ _  => by kernel_rfl
abbrev k11 : Sk := [(6,.i .i64)]
noncomputable def o26 := ob Try.f10 [.r,.l,.r,.r,.l,.l]
def B26 (P : PT) (x6 : Int) (H : AHeap) : Prop :=
  P (Value.tuple ⟨[(Value.int .i64 0), (Value.int .i64 x6)]⟩) H
theorem q26 (P : PT) : QB Try.prog T0 84 o26 (ret P) k11 (B26 P) := fun _ _ _  => by kernel_rfl
abbrev k12 : Sk := [(1,.v),(2,.x),(6,.i .i64)]
noncomputable def o27 := ob Try.f10 [.r,.l,.r,.l]
def B27 (P : PT) (x1 : Value) (x2 : Nat) (x6 : Int) (H : AHeap) : Prop :=
  pif ((x6 : Int) != 0) (B26 P x6 H) (B25 P x1 x2 H)
theorem q27 (P : PT) : QB Try.prog T0 84 o27 (cnd 19 (En 84 k11 (B26 P)) (En 84 k10 (B25 P))) k12 (B27 P) := fun _ _ _ _ _  => by kernel_rfl
noncomputable def o28 := ob Try.f10 [.r,.l,.l]
def B28 (P : PT) (x1 : Value) (x2 : Nat) (H : AHeap) : Prop :=
  ldI .i64 H x2 0 (fun v1 => ld1 H x2 1 (fun v2 => pif (Value.oneCell' x1) (newK H [x1] 25 (fun b3 H4 => AC Try.prog T0 36 [(Value.agg ⟨[(Value.int .i64 v1), v2]⟩), (Value.slice (some ⟨b3, 0, none⟩) 1 (1 + 1))] H4 (fun v5 H6 => asI .i64 v5 (fun v7 => B27 P x1 x2 v7 H6)))) False))
theorem q28 (P : PT) : QB Try.prog T0 84 o28 (En 84 k12 (B27 P)) k10 (B28 P) := fun _ _ _ _  => by kernel_rfl
abbrev k13 : Sk := [(0,.g [.i,.v]),(1,.v)]
noncomputable def o29 := ob Try.f10 [.l]
def B29 (P : PT) (x0a : Int) (x0b x1 : Value) (H : AHeap) : Prop :=
  newK H [(Value.int .i64 x0a), x0b] 31 (fun b1 H2 => B28 P x1 b1 H2)
theorem q29 (P : PT) : QB Try.prog T0 84 o29 (En 84 k10 (B28 P)) k13 (B29 P) := fun _ _ _ _ _  => by kernel_rfl
noncomputable def code : Code := (.seq (.region 0 ⟨o29⟩ false) (.seq (.seq (.region 1 ⟨o28⟩ false) (.seq (.region 2 ⟨o27⟩ false) (.cond (.tmp 19) (.seq (.region 3 ⟨o26⟩ false) .ret) .skip))) (.seq (.region 4 ⟨o25⟩ false) (.seq (.seq (.region 5 ⟨o24⟩ false) (.block 0 (.loop (.seq (.seq (.region 6 ⟨o23⟩ false) (.cond (.tmp 27) .skip (.exit 0))) (.seq (.block 1 (.seq (.region 8 ⟨o22⟩ false) (.block 2 (.loop (.seq (.seq (.region 9 ⟨o21⟩ false) (.cond (.tmp 33) .skip (.exit 2))) (.seq (.block 3 (.seq (.region 11 ⟨o20⟩ false) (.block 4 (.loop (.seq (.seq (.region 12 ⟨o19⟩ false) (.cond (.tmp 37) .skip (.exit 4))) (.seq (.block 5 (.seq (.seq (.region 14 ⟨o18⟩ false) (.cond (.tmp 48) (.exit 5) .skip)) (.seq (.region 15 ⟨o17⟩ true) (.seq (.seq (.region 16 ⟨o16⟩ false) (.block 6 (.loop (.seq (.seq (.region 17 ⟨o15⟩ false) (.cond (.tmp 64) .skip (.exit 6))) (.seq (.block 7 (.region 19 ⟨o14⟩ false)) (.region 18 ⟨o13⟩ false)))))) (.seq (.seq (.region 20 ⟨o11⟩ false) (.cond (.tmp 74) (.region 21 ⟨o10⟩ false) .skip)) (.seq (.region 22 ⟨o9⟩ false) (.cond (.tmp 81) (.seq (.region 23 ⟨o8⟩ false) .ret) .skip))))))) (.region 13 ⟨o7⟩ false))))))) (.region 10 ⟨o5⟩ false))))))) (.region 7 ⟨o3⟩ false)))))) (.seq (.region 24 ⟨o1⟩ false) .ret)))))
theorem body : Try.f10.body = some code := by kernel_rfl
theorem main (P : PT) : ∀ env H, (En 84 k13 (B29 P)) env H → AW Try.prog T0 code env H (mkQ (ret P) (fun _ _ _ => False) (ret P)) :=
  (r_seq (rB T0_ok (q29 P)) (r_seq (r_seq (rB T0_ok (q28 P)) (r_seq (rB T0_ok (q27 P)) (r_cond rfl (r_seq (rB T0_ok (q26 P)) r_ret) r_skip))) (r_seq (rB T0_ok (q25 P)) (r_seq (r_seq (rB T0_ok (q24 P)) (r_block (rL (l2 P) (fun N2 => (r_seq (r_seq (rB T0_ok (q23 P N2)) (r_cond rfl r_skip (r_exit (fun _ _ h => h)))) (r_seq (r_block (r_seq (rB T0_ok (q22 P N2)) (r_block (rL (l4 P N2) (fun N4 => (r_seq (r_seq (rB T0_ok (q21 P N2 N4)) (r_cond rfl r_skip (r_exit (fun _ _ h => h)))) (r_seq (r_block (r_seq (rB T0_ok (q20 P N2 N4)) (r_block (rL (l6 P N2 N4) (fun N6 => (r_seq (r_seq (rB T0_ok (q19 P N2 N4 N6)) (r_cond rfl r_skip (r_exit (fun _ _ h => h)))) (r_seq (r_block (r_seq (r_seq (rB T0_ok (q18 P N2 N4 N6)) (r_cond rfl (r_exit (fun _ _ h => h)) r_skip)) (r_seq (rD T0_ok mixed [(0, false), (1, false), (2, false), (3, false), (4, false), (5, false), (6, false), (7, false), (8, false), (9, false)] (by kernel_rfl) (q17 P N2 N4 N6)) (r_seq (r_seq (rB T0_ok (q16 P N2 N4 N6)) (r_block (rL (l12 P N2 N4 N6) (fun N12 => (r_seq (r_seq (rB T0_ok (q15 P N2 N4 N6 N12)) (r_cond rfl r_skip (r_exit (fun _ _ h => h)))) (r_seq (r_block (rB T0_ok (q14 P N2 N4 N6 N12))) (rB T0_ok (q13 P N2 N4 N6 N12)))))))) (r_seq (r_seq (rB T0_ok (q11 P N2 N4 N6)) (r_cond rfl (rB T0_ok (q10 P N2 N4 N6)) r_skip)) (r_seq (rB T0_ok (q9 P N2 N4 N6)) (r_cond rfl (r_seq (rB T0_ok (q8 P N2 N4 N6)) r_ret) r_skip))))))) (rB T0_ok (q7 P N2 N4 N6))))))))) (rB T0_ok (q5 P N2 N4))))))))) (rB T0_ok (q3 P N2)))))))) (r_seq (rB T0_ok (q1 P)) r_ret)))))
theorem ac (P : PT) (x0a : Int) (x0b x1 : Value) (H : AHeap) (h : B29 P x0a x0b x1 H) : AC Try.prog T0 10 [(Value.agg ⟨[(Value.int .i64 x0a), x0b]⟩), x1] H P :=
  r_fn T0_ok (c := code) (n := 84) Try.func10 body (by kernel_rfl) (main P) (En_mk (x0a, x0b, x1, ()) (by kernel_rfl) ⟨by kernel_rfl, by kernel_rfl, trivial⟩ h)

end F10
-- loop.example/g01329/laws.toGraph
namespace F11
noncomputable def ret (P : PT) : EP := retE T0 12 Try.f11 P
abbrev k0 : Sk := [(2,.x),(3,.x)]
noncomputable def o1 := ob Try.f11 [.r,.r,.r,.r,.l]
def B1 (P : PT) (x2 x3 : Nat) (H : AHeap) : Prop :=
  ldI .i64 H x3 0 (fun v1 => ld1 H x3 1 (fun v2 => stK H x2 0 [(Value.int .i64 v1), v2] (fun H3 => ldI .i64 H3 x2 0 (fun v4 => ld1 H3 x2 1 (fun v5 => P (Value.agg ⟨[(Value.int .i64 v4), v5]⟩) H3)))))
theorem q1 (P : PT) : QB Try.prog T0 12 o1 (ret P) k0 (B1 P) := fun _ _ _ _  => by kernel_rfl
abbrev k1 : Sk := [(1,.x),(2,.x),(3,.x)]
noncomputable def o2 := ob Try.f11 [.r,.r,.r,.l]
def B2 (P : PT) (x1 x2 x3 : Nat) (H : AHeap) : Prop :=
  ld1 H x1 1 (fun v1 => AC Try.prog T0 40 [v1] H (fun v2 H3 => pif (Value.oneCell' v2) (stK H3 x3 1 [v2] (fun H5 => B1 P x2 x3 H5)) False))
theorem q2 (P : PT) : QB Try.prog T0 12 o2 (En 12 k0 (B1 P)) k1 (B2 P) := fun _ _ _ _ _  => by kernel_rfl
noncomputable def o3 := ob Try.f11 [.r,.r,.l]
def B3 (P : PT) (x1 x2 x3 : Nat) (H : AHeap) : Prop :=
  ldI .i64 H x1 0 (fun v1 => stK H x3 0 [(Value.int .i64 v1)] (fun H2 => B2 P x1 x2 x3 H2))
theorem q3 (P : PT) : QB Try.prog T0 12 o3 (En 12 k1 (B2 P)) k1 (B3 P) := fun _ _ _ _ _  => by kernel_rfl
abbrev k2 : Sk := [(1,.x),(2,.x)]
noncomputable def o4 := ob Try.f11 [.r,.l]
def B4 (P : PT) (x1 x2 : Nat) (H : AHeap) : Prop :=
  newK H [(Value.int .i64 0), (Value.slice none 0 0)] 31 (fun b1 H2 => B3 P x1 x2 b1 H2)
theorem q4 (P : PT) : QB Try.prog T0 12 o4 (En 12 k1 (B3 P)) k2 (B4 P) := fun _ _ _ _  => by kernel_rfl
abbrev k3 : Sk := [(0,.g [.i,.v])]
noncomputable def o5 := ob Try.f11 [.l]
def B5 (P : PT) (x0a : Int) (x0b : Value) (H : AHeap) : Prop :=
  newK H [(Value.int .i64 x0a), x0b] 24 (fun b1 H2 => newK H2 [(Value.int .i64 0), (Value.slice none 0 0)] 31 (fun b3 H4 => B4 P b1 b3 H4))
theorem q5 (P : PT) : QB Try.prog T0 12 o5 (En 12 k2 (B4 P)) k3 (B5 P) := fun _ _ _ _  => by kernel_rfl
noncomputable def code : Code := (.seq (.region 0 ⟨o5⟩ false) (.seq (.region 1 ⟨o4⟩ false) (.seq (.region 2 ⟨o3⟩ false) (.seq (.region 3 ⟨o2⟩ false) (.seq (.region 4 ⟨o1⟩ false) .ret)))))
theorem body : Try.f11.body = some code := by kernel_rfl
theorem main (P : PT) : ∀ env H, (En 12 k3 (B5 P)) env H → AW Try.prog T0 code env H (mkQ (ret P) (fun _ _ _ => False) (ret P)) :=
  (r_seq (rB T0_ok (q5 P)) (r_seq (rB T0_ok (q4 P)) (r_seq (rB T0_ok (q3 P)) (r_seq (rB T0_ok (q2 P)) (r_seq (rB T0_ok (q1 P)) r_ret)))))
theorem ac (P : PT) (x0a : Int) (x0b : Value) (H : AHeap) (h : B5 P x0a x0b H) : AC Try.prog T0 11 [(Value.agg ⟨[(Value.int .i64 x0a), x0b]⟩)] H P :=
  r_fn T0_ok (c := code) (n := 12) Try.func11 body (by kernel_rfl) (main P) (En_mk (x0a, x0b, ()) (by kernel_rfl) ⟨by kernel_rfl, trivial⟩ h)

end F11
-- loop.example/g01329/laws.toInt64S
namespace F12
noncomputable def ret (P : PT) : EP := retE T0 22 Try.f12 P
abbrev k0 : Sk := [(3,.v)]
noncomputable def o1 := ob Try.f12 [.r,.r,.r,.l]
def B1 (P : PT) (x3 : Value) (H : AHeap) : Prop :=
  P x3 H
theorem q1 (P : PT) : QB Try.prog T0 22 o1 (ret P) k0 (B1 P) := fun _ _ _  => by kernel_rfl
abbrev k1 : Sk := [(0,.v),(3,.v),(4,.i .i64)]
noncomputable def o3 := ob Try.f12 [.r,.r,.l,.r,.l,.l,.r,.r]
def B3 (P : PT) (N2 : NTy k1 Pr) (x0 x3 : Value) (x4 : Int) (H : AHeap) : Prop :=
  N2 x0 x3 (IntKind.i64.wrap (x4 + 1)) H
theorem q3 (P : PT) (N2 : NTy k1 Pr) : QB Try.prog T0 22 o3 (En 22 k1 N2) k1 (B3 P N2) := fun _ _ _ _ _  => by kernel_rfl
noncomputable def o4 := ob Try.f12 [.r,.r,.l,.r,.l,.l,.r,.l,.l]
def B4 (P : PT) (N2 : NTy k1 Pr) (x0 x3 : Value) (x4 : Int) (H : AHeap) : Prop :=
  idxK x0 x4 1 (fun b1 o2 => ldI .i64 H b1 o2 (fun v3 => idxK x3 x4 1 (fun b4 o5 => stK H b4 o5 [(Value.int .i64 v3)] (fun H6 => B3 P N2 x0 x3 x4 H6))))
theorem q4 (P : PT) (N2 : NTy k1 Pr) : QB Try.prog T0 22 o4 (En 22 k1 (B3 P N2)) k1 (B4 P N2) := fun _ _ _ _ _  => by kernel_rfl
noncomputable def o5 := ob Try.f12 [.r,.r,.l,.r,.l,.l,.l,.l]
def B5 (P : PT) (N2 : NTy k1 Pr) (x0 x3 : Value) (x4 : Int) (H : AHeap) : Prop :=
  lenK x0 (fun n1 => pif (decide ((x4 : Int) < (n1 : Int))) (B4 P N2 x0 x3 x4 H) (B1 P x3 H))
theorem q5 (P : PT) (N2 : NTy k1 Pr) : QB Try.prog T0 22 o5 (cnd 11 (En 22 k1 (B4 P N2)) (En 22 k0 (B1 P))) k1 (B5 P N2) := fun _ _ _ _ _  => by kernel_rfl
def L2 (P : PT) (x0 x3 : Value) (x4 : Int) (H : AHeap) : Prop :=
  ∃ (I : NTy k1 Pr) (μ : NTy k1 (AHeap → Nat)), I x0 x3 x4 H ∧ ∀ y0 y3 y4 G, I y0 y3 y4 G → B5 P (fun z0 z3 z4 G' => I z0 z3 z4 G' ∧ μ z0 z3 z4 G' < μ y0 y3 y4 G) y0 y3 y4 G
theorem l2 (P : PT) : LQ k1 (L2 P) (B5 P) := fun ⟨_,_,_,_⟩ _ ⟨I, μ, h0, hI⟩ => ⟨apT _ I, apT _ μ, h0, fun ⟨_,_,_,_⟩ _ h => hI _ _ _ _  h⟩
abbrev k2 : Sk := [(0,.v),(3,.v)]
noncomputable def o6 := ob Try.f12 [.r,.r,.l,.l]
def B6 (P : PT) (x0 x3 : Value) (H : AHeap) : Prop :=
  L2 P x0 x3 0 H
theorem q6 (P : PT) : QB Try.prog T0 22 o6 (En 22 k1 (L2 P)) k2 (B6 P) := fun _ _ _ _  => by kernel_rfl
abbrev k3 : Sk := [(0,.v)]
noncomputable def o7 := ob Try.f12 [.r,.l]
def B7 (P : PT) (x0 : Value) (H : AHeap) : Prop :=
  lenK x0 (fun n1 => mkR H 8 2 [(Value.int .i64 0)] (n1 : Int) (n1 : Int) (fun v3 H2 => B6 P x0 v3 H2))
theorem q7 (P : PT) : QB Try.prog T0 22 o7 (En 22 k2 (B6 P)) k3 (B7 P) := fun _ _ _  => by kernel_rfl
noncomputable def o8 := ob Try.f12 [.l]
def B8 (P : PT) (x0 : Value) (H : AHeap) : Prop :=
  B7 P x0 H
theorem q8 (P : PT) : QB Try.prog T0 22 o8 (En 22 k3 (B7 P)) k3 (B8 P) := fun _ _ _  => by kernel_rfl
noncomputable def code : Code := (.seq (.region 0 ⟨o8⟩ false) (.seq (.region 1 ⟨o7⟩ false) (.seq (.seq (.region 2 ⟨o6⟩ false) (.block 0 (.loop (.seq (.seq (.region 3 ⟨o5⟩ false) (.cond (.tmp 11) .skip (.exit 0))) (.seq (.block 1 (.region 5 ⟨o4⟩ false)) (.region 4 ⟨o3⟩ false)))))) (.seq (.region 6 ⟨o1⟩ false) .ret))))
theorem body : Try.f12.body = some code := by kernel_rfl
theorem main (P : PT) : ∀ env H, (En 22 k3 (B8 P)) env H → AW Try.prog T0 code env H (mkQ (ret P) (fun _ _ _ => False) (ret P)) :=
  (r_seq (rB T0_ok (q8 P)) (r_seq (rB T0_ok (q7 P)) (r_seq (r_seq (rB T0_ok (q6 P)) (r_block (rL (l2 P) (fun N2 => (r_seq (r_seq (rB T0_ok (q5 P N2)) (r_cond rfl r_skip (r_exit (fun _ _ h => h)))) (r_seq (r_block (rB T0_ok (q4 P N2))) (rB T0_ok (q3 P N2)))))))) (r_seq (rB T0_ok (q1 P)) r_ret))))
theorem ac (P : PT) (x0 : Value) (H : AHeap) (h : B8 P x0 H) : AC Try.prog T0 12 [x0] H P :=
  r_fn T0_ok (c := code) (n := 22) Try.func12 body (by kernel_rfl) (main P) (En_mk (x0, ()) (by kernel_rfl) ⟨by kernel_rfl, trivial⟩ h)

end F12
-- loop.example/g01329/impl.CountReached
namespace F13
noncomputable def ret (P : PT) : EP := retE T0 74 Try.f13 P
abbrev k0 : Sk := [(7,.v)]
noncomputable def o1 := ob Try.f13 [.r,.r,.r,.r,.l]
def B1 (P : PT) (x7 : Value) (H : AHeap) : Prop :=
  mlenK H x7 (fun n1 => P (Value.tuple ⟨[(Value.int .i64 (n1 : Int)), (Value.int .i64 0)]⟩) H)
theorem q1 (P : PT) : QB Try.prog T0 74 o1 (ret P) k0 (B1 P) := fun _ _ _  => by kernel_rfl
abbrev k1 : Sk := [(2,.x),(7,.v),(8,.v)]
noncomputable def o3 := ob Try.f13 [.r,.r,.r,.l,.r,.l,.l,.r,.r]
def B3 (P : PT) (N2 : NTy k1 Pr) (x2 : Nat) (x7 x8 : Value) (H : AHeap) : Prop :=
  sliceK H 25 x8 (some (Value.int .i64 1)) none 1 (fun v1 => N2 x2 x7 v1 H)
theorem q3 (P : PT) (N2 : NTy k1 Pr) : QB Try.prog T0 74 o3 (En 74 k1 N2) k1 (B3 P N2) := fun _ _ _ _ _  => by kernel_rfl
abbrev k2 : Sk := []
noncomputable def o4 := ob Try.f13 [.r,.r,.r,.l,.r,.l,.l,.r,.l,.l,.r,.r,.r,.l,.l]
def B4 (P : PT) (N2 : NTy k1 Pr) (H : AHeap) : Prop :=
  P (Value.tuple ⟨[(Value.int .i64 0), (Value.int .i64 3)]⟩) H
theorem q4 (P : PT) (N2 : NTy k1 Pr) : QB Try.prog T0 74 o4 (ret P) k2 (B4 P N2) := fun _ _  => by kernel_rfl
noncomputable def o5 := ob Try.f13 [.r,.r,.r,.l,.r,.l,.l,.r,.l,.l,.r,.r,.l]
def B5 (P : PT) (N2 : NTy k1 Pr) (x2 : Nat) (x7 x8 : Value) (H : AHeap) : Prop :=
  mlenK H x7 (fun n1 => pif (decide (((n1 : Int) : Int) > 300)) (B4 P N2 H) (B3 P N2 x2 x7 x8 H))
theorem q5 (P : PT) (N2 : NTy k1 Pr) : QB Try.prog T0 74 o5 (cnd 71 (En 74 k2 (B4 P N2)) (En 74 k1 (B3 P N2))) k1 (B5 P N2) := fun _ _ _ _ _  => by kernel_rfl
abbrev k3 : Sk := [(2,.x),(7,.v),(8,.v),(9,.v),(37,.i .i64),(38,.i .i64)]
noncomputable def o7 := ob Try.f13 [.r,.r,.r,.l,.r,.l,.l,.r,.l,.l,.r,.l,.r,.l,.l,.r,.r,.r]
def B7 (P : PT) (N2 : NTy k1 Pr) (N6 : NTy k3 Pr) (x2 : Nat) (x7 x8 x9 : Value) (x37 x38 : Int) (H : AHeap) : Prop :=
  N6 x2 x7 x8 x9 x37 (IntKind.i64.wrap (x38 + 1)) H
theorem q7 (P : PT) (N2 : NTy k1 Pr) (N6 : NTy k3 Pr) : QB Try.prog T0 74 o7 (En 74 k3 N6) k3 (B7 P N2 N6) := fun _ _ _ _ _ _ _ _  => by kernel_rfl
abbrev k4 : Sk := [(2,.x),(7,.v),(8,.v),(9,.v),(10,.i .i64),(37,.i .i64),(38,.i .i64),(41,.i .i64)]
noncomputable def o9 := ob Try.f13 [.r,.r,.r,.l,.r,.l,.l,.r,.l,.l,.r,.l,.r,.l,.l,.r,.r,.l,.l,.r,.r,.l,.l,.r,.r,.r]
def B9 (P : PT) (N2 : NTy k1 Pr) (N6 : NTy k3 Pr) (N8 : NTy k4 Pr) (x2 : Nat) (x7 x8 x9 : Value) (x10 x37 x38 x41 : Int) (H : AHeap) : Prop :=
  N8 x2 x7 x8 x9 x10 x37 x38 (IntKind.i64.wrap (x41 + 1)) H
theorem q9 (P : PT) (N2 : NTy k1 Pr) (N6 : NTy k3 Pr) (N8 : NTy k4 Pr) : QB Try.prog T0 74 o9 (En 74 k4 N8) k4 (B9 P N2 N6 N8) := fun _ _ _ _ _ _ _ _ _ _  => by kernel_rfl
abbrev k5 : Sk := [(2,.x),(7,.v),(8,.v),(9,.v),(10,.i .i64),(12,.v),(37,.i .i64),(38,.i .i64),(41,.i .i64)]
noncomputable def o10 := ob Try.f13 [.r,.r,.r,.l,.r,.l,.l,.r,.l,.l,.r,.l,.r,.l,.l,.r,.r,.l,.l,.r,.r,.l,.l,.r,.r,.l,.l,.r,.r,.r,.r,.l,.r]
def B10 (P : PT) (N2 : NTy k1 Pr) (N6 : NTy k3 Pr) (N8 : NTy k4 Pr) (x2 : Nat) (x7 x8 x9 : Value) (x10 : Int) (x12 : Value) (x37 x38 x41 : Int) (H : AHeap) : Prop :=
  pif (Value.oneCell' x12) (newK H [x12] 25 (fun b1 H2 => apK T0 25 H2 x8 (Value.slice (some ⟨b1, 0, none⟩) 1 (1 + 1)) (fun v3 H4 => B9 P N2 N6 N8 x2 x7 v3 x9 x10 x37 x38 x41 H4))) False
theorem q10 (P : PT) (N2 : NTy k1 Pr) (N6 : NTy k3 Pr) (N8 : NTy k4 Pr) : QB Try.prog T0 74 o10 (En 74 k4 (B9 P N2 N6 N8)) k5 (B10 P N2 N6 N8) := fun _ _ _ _ _ _ _ _ _ _ _  => by kernel_rfl
noncomputable def o11 := ob Try.f13 [.r,.r,.r,.l,.r,.l,.l,.r,.l,.l,.r,.l,.r,.l,.l,.r,.r,.l,.l,.r,.r,.l,.l,.r,.r,.l,.l,.r,.r,.r,.r,.l,.l]
def B11 (P : PT) (N2 : NTy k1 Pr) (N6 : NTy k3 Pr) (N8 : NTy k4 Pr) (x2 : Nat) (x7 x8 x9 : Value) (x10 : Int) (x12 : Value) (x37 x38 x41 : Int) (H : AHeap) : Prop :=
  AC Try.prog T0 43 [x12] H (fun v1 H2 => asS v1 (fun v3 => mupK Try.prog 9 H2 x7 (Value.string v3) (Value.bool true) (fun H4 => B10 P N2 N6 N8 x2 x7 x8 x9 x10 x12 x37 x38 x41 H4)))
theorem q11 (P : PT) (N2 : NTy k1 Pr) (N6 : NTy k3 Pr) (N8 : NTy k4 Pr) : QB Try.prog T0 74 o11 (En 74 k5 (B10 P N2 N6 N8)) k5 (B11 P N2 N6 N8) := fun _ _ _ _ _ _ _ _ _ _ _  => by kernel_rfl
noncomputable def o12 := ob Try.f13 [.r,.r,.r,.l,.r,.l,.l,.r,.l,.l,.r,.l,.r,.l,.l,.r,.r,.l,.l,.r,.r,.l,.l,.r,.r,.l,.l,.r,.r,.r,.l]
def B12 (P : PT) (N2 : NTy k1 Pr) (N6 : NTy k3 Pr) (N8 : NTy k4 Pr) (x2 : Nat) (x7 x8 x9 : Value) (x10 : Int) (x12 : Value) (x37 x38 x41 : Int) (H : AHeap) : Prop :=
  AC Try.prog T0 43 [x12] H (fun v1 H2 => asS v1 (fun v3 => lupK Try.prog 9 H2 x7 (Value.string v3) (Value.bool false) false (fun v4 => asB v4 (fun v5 => pif (!v5) (B11 P N2 N6 N8 x2 x7 x8 x9 x10 x12 x37 x38 x41 H2) (B9 P N2 N6 N8 x2 x7 x8 x9 x10 x37 x38 x41 H2)))))
theorem q12 (P : PT) (N2 : NTy k1 Pr) (N6 : NTy k3 Pr) (N8 : NTy k4 Pr) : QB Try.prog T0 74 o12 (cnd 59 (En 74 k5 (B11 P N2 N6 N8)) (En 74 k4 (B9 P N2 N6 N8))) k5 (B12 P N2 N6 N8) := fun _ _ _ _ _ _ _ _ _ _ _  => by kernel_rfl
abbrev k6 : Sk := [(2,.x),(7,.v),(8,.v),(9,.v),(10,.i .i64),(11,.i .i64),(37,.i .i64),(38,.i .i64),(41,.i .i64)]
noncomputable def o13 := ob Try.f13 [.r,.r,.r,.l,.r,.l,.l,.r,.l,.l,.r,.l,.r,.l,.l,.r,.r,.l,.l,.r,.r,.l,.l,.r,.r,.l,.l,.r,.r,.l]
def B13 (P : PT) (N2 : NTy k1 Pr) (N6 : NTy k3 Pr) (N8 : NTy k4 Pr) (x2 : Nat) (x7 x8 x9 : Value) (x10 x11 x37 x38 x41 : Int) (H : AHeap) : Prop :=
  ldI .i64 H x2 0 (fun v1 => ld1 H x2 1 (fun v2 => AC Try.prog T0 45 [(Value.agg ⟨[(Value.int .i64 v1), v2]⟩), x9, (Value.int .i64 x10), (Value.int .i64 x11)] H (fun v3 H4 => B12 P N2 N6 N8 x2 x7 x8 x9 x10 v3 x37 x38 x41 H4)))
theorem q13 (P : PT) (N2 : NTy k1 Pr) (N6 : NTy k3 Pr) (N8 : NTy k4 Pr) : QB Try.prog T0 74 o13 (En 74 k5 (B12 P N2 N6 N8)) k6 (B13 P N2 N6 N8) := fun _ _ _ _ _ _ _ _ _ _ _  => by kernel_rfl
noncomputable def o14 := ob Try.f13 [.r,.r,.r,.l,.r,.l,.l,.r,.l,.l,.r,.l,.r,.l,.l,.r,.r,.l,.l,.r,.r,.l,.l,.r,.r,.l,.l,.r,.l,.l]
def B14 (P : PT) (N2 : NTy k1 Pr) (N6 : NTy k3 Pr) (N8 : NTy k4 Pr) (x2 : Nat) (x7 x8 x9 : Value) (x10 x11 x37 x38 x41 : Int) (H : AHeap) : Prop :=
  idxK x9 x10 1 (fun b1 o2 => ldI .i64 H b1 o2 (fun v3 => pif ((x11 : Int) == v3) (B9 P N2 N6 N8 x2 x7 x8 x9 x10 x37 x38 x41 H) (B13 P N2 N6 N8 x2 x7 x8 x9 x10 x11 x37 x38 x41 H)))
theorem q14 (P : PT) (N2 : NTy k1 Pr) (N6 : NTy k3 Pr) (N8 : NTy k4 Pr) : QB Try.prog T0 74 o14 (cnd 49 (En 74 k4 (B9 P N2 N6 N8)) (En 74 k6 (B13 P N2 N6 N8))) k6 (B14 P N2 N6 N8) := fun _ _ _ _ _ _ _ _ _ _ _  => by kernel_rfl
noncomputable def o15 := ob Try.f13 [.r,.r,.r,.l,.r,.l,.l,.r,.l,.l,.r,.l,.r,.l,.l,.r,.r,.l,.l,.r,.r,.l,.l,.r,.r,.l,.l,.l]
def B15 (P : PT) (N2 : NTy k1 Pr) (N6 : NTy k3 Pr) (N8 : NTy k4 Pr) (x2 : Nat) (x7 x8 x9 : Value) (x10 x37 x38 x41 : Int) (H : AHeap) : Prop :=
  B14 P N2 N6 N8 x2 x7 x8 x9 x10 x41 x37 x38 x41 H
theorem q15 (P : PT) (N2 : NTy k1 Pr) (N6 : NTy k3 Pr) (N8 : NTy k4 Pr) : QB Try.prog T0 74 o15 (En 74 k6 (B14 P N2 N6 N8)) k4 (B15 P N2 N6 N8) := fun _ _ _ _ _ _ _ _ _ _  => by kernel_rfl
noncomputable def o16 := ob Try.f13 [.r,.r,.r,.l,.r,.l,.l,.r,.l,.l,.r,.l,.r,.l,.l,.r,.r,.l,.l,.r,.r,.l,.l,.l]
def B16 (P : PT) (N2 : NTy k1 Pr) (N6 : NTy k3 Pr) (N8 : NTy k4 Pr) (x2 : Nat) (x7 x8 x9 : Value) (x10 x37 x38 x41 : Int) (H : AHeap) : Prop :=
  pif (decide ((x41 : Int) < 3)) (B15 P N2 N6 N8 x2 x7 x8 x9 x10 x37 x38 x41 H) (B7 P N2 N6 x2 x7 x8 x9 x37 x38 H)
theorem q16 (P : PT) (N2 : NTy k1 Pr) (N6 : NTy k3 Pr) (N8 : NTy k4 Pr) : QB Try.prog T0 74 o16 (cnd 42 (En 74 k4 (B15 P N2 N6 N8)) (En 74 k3 (B7 P N2 N6))) k4 (B16 P N2 N6 N8) := fun _ _ _ _ _ _ _ _ _ _  => by kernel_rfl
def L8 (P : PT) (N2 : NTy k1 Pr) (N6 : NTy k3 Pr) (x2 : Nat) (x7 x8 x9 : Value) (x10 x37 x38 x41 : Int) (H : AHeap) : Prop :=
  ∃ (I : NTy k4 Pr) (μ : NTy k4 (AHeap → Nat)), I x2 x7 x8 x9 x10 x37 x38 x41 H ∧ ∀ y2 y7 y8 y9 y10 y37 y38 y41 G, I y2 y7 y8 y9 y10 y37 y38 y41 G → B16 P N2 N6 (fun z2 z7 z8 z9 z10 z37 z38 z41 G' => I z2 z7 z8 z9 z10 z37 z38 z41 G' ∧ μ z2 z7 z8 z9 z10 z37 z38 z41 G' < μ y2 y7 y8 y9 y10 y37 y38 y41 G) y2 y7 y8 y9 y10 y37 y38 y41 G
theorem l8 (P : PT) (N2 : NTy k1 Pr) (N6 : NTy k3 Pr) : LQ k4 (L8 P N2 N6) (B16 P N2 N6) := fun ⟨_,_,_,_,_,_,_,_,_⟩ _ ⟨I, μ, h0, hI⟩ => ⟨apT _ I, apT _ μ, h0, fun ⟨_,_,_,_,_,_,_,_,_⟩ _ h => hI _ _ _ _ _ _ _ _ _  h⟩
abbrev k7 : Sk := [(2,.x),(7,.v),(8,.v),(9,.v),(10,.i .i64),(37,.i .i64),(38,.i .i64)]
noncomputable def o17 := ob Try.f13 [.r,.r,.r,.l,.r,.l,.l,.r,.l,.l,.r,.l,.r,.l,.l,.r,.r,.l,.l,.r,.l]
def B17 (P : PT) (N2 : NTy k1 Pr) (N6 : NTy k3 Pr) (x2 : Nat) (x7 x8 x9 : Value) (x10 x37 x38 : Int) (H : AHeap) : Prop :=
  L8 P N2 N6 x2 x7 x8 x9 x10 x37 x38 0 H
theorem q17 (P : PT) (N2 : NTy k1 Pr) (N6 : NTy k3 Pr) : QB Try.prog T0 74 o17 (En 74 k4 (L8 P N2 N6)) k7 (B17 P N2 N6) := fun _ _ _ _ _ _ _ _ _  => by kernel_rfl
noncomputable def o18 := ob Try.f13 [.r,.r,.r,.l,.r,.l,.l,.r,.l,.l,.r,.l,.r,.l,.l,.r,.r,.l,.l,.l]
def B18 (P : PT) (N2 : NTy k1 Pr) (N6 : NTy k3 Pr) (x2 : Nat) (x7 x8 x9 : Value) (x37 x38 : Int) (H : AHeap) : Prop :=
  B17 P N2 N6 x2 x7 x8 x9 x38 x37 x38 H
theorem q18 (P : PT) (N2 : NTy k1 Pr) (N6 : NTy k3 Pr) : QB Try.prog T0 74 o18 (En 74 k7 (B17 P N2 N6)) k3 (B18 P N2 N6) := fun _ _ _ _ _ _ _ _  => by kernel_rfl
noncomputable def o19 := ob Try.f13 [.r,.r,.r,.l,.r,.l,.l,.r,.l,.l,.r,.l,.r,.l,.l,.l]
def B19 (P : PT) (N2 : NTy k1 Pr) (N6 : NTy k3 Pr) (x2 : Nat) (x7 x8 x9 : Value) (x37 x38 : Int) (H : AHeap) : Prop :=
  pif (decide ((x38 : Int) < x37)) (B18 P N2 N6 x2 x7 x8 x9 x37 x38 H) (B5 P N2 x2 x7 x8 H)
theorem q19 (P : PT) (N2 : NTy k1 Pr) (N6 : NTy k3 Pr) : QB Try.prog T0 74 o19 (cnd 39 (En 74 k3 (B18 P N2 N6)) (En 74 k1 (B5 P N2))) k3 (B19 P N2 N6) := fun _ _ _ _ _ _ _ _  => by kernel_rfl
def L6 (P : PT) (N2 : NTy k1 Pr) (x2 : Nat) (x7 x8 x9 : Value) (x37 x38 : Int) (H : AHeap) : Prop :=
  ∃ (I : NTy k3 Pr) (μ : NTy k3 (AHeap → Nat)), I x2 x7 x8 x9 x37 x38 H ∧ ∀ y2 y7 y8 y9 y37 y38 G, I y2 y7 y8 y9 y37 y38 G → B19 P N2 (fun z2 z7 z8 z9 z37 z38 G' => I z2 z7 z8 z9 z37 z38 G' ∧ μ z2 z7 z8 z9 z37 z38 G' < μ y2 y7 y8 y9 y37 y38 G) y2 y7 y8 y9 y37 y38 G
theorem l6 (P : PT) (N2 : NTy k1 Pr) : LQ k3 (L6 P N2) (B19 P N2) := fun ⟨_,_,_,_,_,_,_⟩ _ ⟨I, μ, h0, hI⟩ => ⟨apT _ I, apT _ μ, h0, fun ⟨_,_,_,_,_,_,_⟩ _ h => hI _ _ _ _ _ _ _  h⟩
abbrev k8 : Sk := [(2,.x),(7,.v),(8,.v),(9,.v)]
noncomputable def o20 := ob Try.f13 [.r,.r,.r,.l,.r,.l,.l,.r,.l,.l,.r,.l,.l]
def B20 (P : PT) (N2 : NTy k1 Pr) (x2 : Nat) (x7 x8 x9 : Value) (H : AHeap) : Prop :=
  ld1 H x2 1 (fun v1 => AC Try.prog T0 44 [v1] H (fun v2 H3 => asI .i64 v2 (fun v4 => L6 P N2 x2 x7 x8 x9 v4 0 H3)))
theorem q20 (P : PT) (N2 : NTy k1 Pr) : QB Try.prog T0 74 o20 (En 74 k3 (L6 P N2)) k8 (B20 P N2) := fun _ _ _ _ _ _  => by kernel_rfl
noncomputable def o21 := ob Try.f13 [.r,.r,.r,.l,.r,.l,.l,.r,.l,.l,.l]
def B21 (P : PT) (N2 : NTy k1 Pr) (x2 : Nat) (x7 x8 : Value) (H : AHeap) : Prop :=
  idxK x8 0 1 (fun b1 o2 => ld1 H b1 o2 (fun v3 => B20 P N2 x2 x7 x8 v3 H))
theorem q21 (P : PT) (N2 : NTy k1 Pr) : QB Try.prog T0 74 o21 (En 74 k8 (B20 P N2)) k1 (B21 P N2) := fun _ _ _ _ _  => by kernel_rfl
noncomputable def o22 := ob Try.f13 [.r,.r,.r,.l,.r,.l,.l,.l,.l]
def B22 (P : PT) (N2 : NTy k1 Pr) (x2 : Nat) (x7 x8 : Value) (H : AHeap) : Prop :=
  lenK x8 (fun n1 => pif (decide (((n1 : Int) : Int) > 0)) (B21 P N2 x2 x7 x8 H) (B1 P x7 H))
theorem q22 (P : PT) (N2 : NTy k1 Pr) : QB Try.prog T0 74 o22 (cnd 29 (En 74 k1 (B21 P N2)) (En 74 k0 (B1 P))) k1 (B22 P N2) := fun _ _ _ _ _  => by kernel_rfl
def L2 (P : PT) (x2 : Nat) (x7 x8 : Value) (H : AHeap) : Prop :=
  ∃ (I : NTy k1 Pr) (μ : NTy k1 (AHeap → Nat)), I x2 x7 x8 H ∧ ∀ y2 y7 y8 G, I y2 y7 y8 G → B22 P (fun z2 z7 z8 G' => I z2 z7 z8 G' ∧ μ z2 z7 z8 G' < μ y2 y7 y8 G) y2 y7 y8 G
theorem l2 (P : PT) : LQ k1 (L2 P) (B22 P) := fun ⟨_,_,_,_⟩ _ ⟨I, μ, h0, hI⟩ => ⟨apT _ I, apT _ μ, h0, fun ⟨_,_,_,_⟩ _ h => hI _ _ _ _  h⟩
abbrev k9 : Sk := [(1,.v),(2,.x),(7,.v)]
noncomputable def o23 := ob Try.f13 [.r,.r,.r,.l,.l]
def B23 (P : PT) (x1 : Value) (x2 : Nat) (x7 : Value) (H : AHeap) : Prop :=
  pif (Value.oneCell' x1) (newK H [x1] 25 (fun b1 H2 => L2 P x2 x7 (Value.slice (some ⟨b1, 0, none⟩) 1 (1 + 1)) H2)) False
theorem q23 (P : PT) : QB Try.prog T0 74 o23 (En 74 k1 (L2 P)) k9 (B23 P) := fun _ _ _ _ _  => by kernel_rfl
abbrev k10 : Sk := [(1,.v),(2,.x)]
noncomputable def o24 := ob Try.f13 [.r,.r,.l]
def B24 (P : PT) (x1 : Value) (x2 : Nat) (H : AHeap) : Prop :=
  newM H (fun b1 H2 => AC Try.prog T0 43 [x1] H2 (fun v3 H4 => asS v3 (fun v5 => mupK Try.prog 9 H4 (Value.map (some b1)) (Value.string v5) (Value.bool true) (fun H6 => B23 P x1 x2 (Value.map (some b1)) H6))))
theorem q24 (P : PT) : QB Try.prog T0 74 o24 (En 74 k9 (B23 P)) k10 (B24 P) := fun _ _ _ _  => by kernel_rfl
abbrev k11 : Sk := [(6,.i .i64)]
noncomputable def o25 := ob Try.f13 [.r,.l,.r,.r,.l,.l]
def B25 (P : PT) (x6 : Int) (H : AHeap) : Prop :=
  P (Value.tuple ⟨[(Value.int .i64 0), (Value.int .i64 x6)]⟩) H
theorem q25 (P : PT) : QB Try.prog T0 74 o25 (ret P) k11 (B25 P) := fun _ _ _  => by kernel_rfl
abbrev k12 : Sk := [(1,.v),(2,.x),(6,.i .i64)]
noncomputable def o26 := ob Try.f13 [.r,.l,.r,.l]
def B26 (P : PT) (x1 : Value) (x2 : Nat) (x6 : Int) (H : AHeap) : Prop :=
  pif ((x6 : Int) != 0) (B25 P x6 H) (B24 P x1 x2 H)
theorem q26 (P : PT) : QB Try.prog T0 74 o26 (cnd 19 (En 74 k11 (B25 P)) (En 74 k10 (B24 P))) k12 (B26 P) := fun _ _ _ _ _  => by kernel_rfl
noncomputable def o27 := ob Try.f13 [.r,.l,.l]
def B27 (P : PT) (x1 : Value) (x2 : Nat) (H : AHeap) : Prop :=
  ldI .i64 H x2 0 (fun v1 => ld1 H x2 1 (fun v2 => ldI .i64 H x2 0 (fun v3 => ld1 H x2 1 (fun v4 => AC Try.prog T0 42 [(Value.agg ⟨[(Value.int .i64 v3), v4]⟩), x1] H (fun v5 H6 => asB v5 (fun v7 => (AHeap.le H H6) ∧ (AC Try.prog T0 41 [(Value.agg ⟨[(Value.int .i64 v1), v2]⟩), (Value.bool v7)] H6 (fun v8 H9 => asI .i64 v8 (fun v10 => B26 P x1 x2 v10 H9)))))))))
theorem q27 (P : PT) : QD Try.prog T0 74 o27 [(0, false), (1, false), (2, false), (3, true), (4, false), (5, false)] (En 74 k12 (B26 P)) k10 (B27 P) := fun _ _ _ _  => by kernel_rfl
abbrev k13 : Sk := [(0,.g [.i,.v]),(1,.v)]
noncomputable def o28 := ob Try.f13 [.l]
def B28 (P : PT) (x0a : Int) (x0b x1 : Value) (H : AHeap) : Prop :=
  newK H [(Value.int .i64 x0a), x0b] 31 (fun b1 H2 => B27 P x1 b1 H2)
theorem q28 (P : PT) : QB Try.prog T0 74 o28 (En 74 k10 (B27 P)) k13 (B28 P) := fun _ _ _ _ _  => by kernel_rfl
noncomputable def code : Code := (.seq (.region 0 ⟨o28⟩ false) (.seq (.seq (.region 1 ⟨o27⟩ true) (.seq (.region 2 ⟨o26⟩ false) (.cond (.tmp 19) (.seq (.region 3 ⟨o25⟩ false) .ret) .skip))) (.seq (.region 4 ⟨o24⟩ false) (.seq (.seq (.region 5 ⟨o23⟩ false) (.block 0 (.loop (.seq (.seq (.region 6 ⟨o22⟩ false) (.cond (.tmp 29) .skip (.exit 0))) (.seq (.block 1 (.seq (.region 8 ⟨o21⟩ false) (.seq (.seq (.region 9 ⟨o20⟩ false) (.block 2 (.loop (.seq (.region 10 ⟨o19⟩ false) (.seq (.cond (.tmp 39) .skip (.exit 2)) (.seq (.block 3 (.seq (.region 11 ⟨o18⟩ false) (.seq (.region 12 ⟨o17⟩ false) (.block 4 (.loop (.seq (.region 13 ⟨o16⟩ false) (.seq (.cond (.tmp 42) .skip (.exit 4)) (.seq (.block 5 (.seq (.region 14 ⟨o15⟩ false) (.seq (.seq (.region 15 ⟨o14⟩ false) (.cond (.tmp 49) (.exit 5) .skip)) (.seq (.region 16 ⟨o13⟩ false) (.seq (.region 17 ⟨o12⟩ false) (.cond (.tmp 59) (.seq (.region 18 ⟨o11⟩ false) (.region 19 ⟨o10⟩ false)) .skip)))))) (.region 20 ⟨o9⟩ false))))))))) (.region 21 ⟨o7⟩ false))))))) (.seq (.region 22 ⟨o5⟩ false) (.cond (.tmp 71) (.seq (.region 23 ⟨o4⟩ false) .ret) .skip))))) (.region 7 ⟨o3⟩ false)))))) (.seq (.region 24 ⟨o1⟩ false) .ret)))))
theorem body : Try.f13.body = some code := by kernel_rfl
theorem main (P : PT) : ∀ env H, (En 74 k13 (B28 P)) env H → AW Try.prog T0 code env H (mkQ (ret P) (fun _ _ _ => False) (ret P)) :=
  (r_seq (rB T0_ok (q28 P)) (r_seq (r_seq (rD T0_ok mixed [(0, false), (1, false), (2, false), (3, true), (4, false), (5, false)] (by kernel_rfl) (q27 P)) (r_seq (rB T0_ok (q26 P)) (r_cond rfl (r_seq (rB T0_ok (q25 P)) r_ret) r_skip))) (r_seq (rB T0_ok (q24 P)) (r_seq (r_seq (rB T0_ok (q23 P)) (r_block (rL (l2 P) (fun N2 => (r_seq (r_seq (rB T0_ok (q22 P N2)) (r_cond rfl r_skip (r_exit (fun _ _ h => h)))) (r_seq (r_block (r_seq (rB T0_ok (q21 P N2)) (r_seq (r_seq (rB T0_ok (q20 P N2)) (r_block (rL (l6 P N2) (fun N6 => (r_seq (rB T0_ok (q19 P N2 N6)) (r_seq (r_cond rfl r_skip (r_exit (fun _ _ h => h))) (r_seq (r_block (r_seq (rB T0_ok (q18 P N2 N6)) (r_seq (rB T0_ok (q17 P N2 N6)) (r_block (rL (l8 P N2 N6) (fun N8 => (r_seq (rB T0_ok (q16 P N2 N6 N8)) (r_seq (r_cond rfl r_skip (r_exit (fun _ _ h => h))) (r_seq (r_block (r_seq (rB T0_ok (q15 P N2 N6 N8)) (r_seq (r_seq (rB T0_ok (q14 P N2 N6 N8)) (r_cond rfl (r_exit (fun _ _ h => h)) r_skip)) (r_seq (rB T0_ok (q13 P N2 N6 N8)) (r_seq (rB T0_ok (q12 P N2 N6 N8)) (r_cond rfl (r_seq (rB T0_ok (q11 P N2 N6 N8)) (rB T0_ok (q10 P N2 N6 N8))) r_skip)))))) (rB T0_ok (q9 P N2 N6 N8))))))))))) (rB T0_ok (q7 P N2 N6))))))))) (r_seq (rB T0_ok (q5 P N2)) (r_cond rfl (r_seq (rB T0_ok (q4 P N2)) r_ret) r_skip))))) (rB T0_ok (q3 P N2)))))))) (r_seq (rB T0_ok (q1 P)) r_ret)))))
theorem ac (P : PT) (x0a : Int) (x0b x1 : Value) (H : AHeap) (h : B28 P x0a x0b x1 H) : AC Try.prog T0 13 [(Value.agg ⟨[(Value.int .i64 x0a), x0b]⟩), x1] H P :=
  r_fn T0_ok (c := code) (n := 74) Try.func13 body (by kernel_rfl) (main P) (En_mk (x0a, x0b, x1, ()) (by kernel_rfl) ⟨by kernel_rfl, by kernel_rfl, trivial⟩ h)

end F13
-- loop.example/g01329/laws.eqGraph
namespace F14
noncomputable def ret (P : PT) : EP := retE T0 16 Try.f14 P
abbrev k0 : Sk := []
noncomputable def o1 := ob Try.f14 [.r,.r,.r,.l]
def B1 (P : PT) (H : AHeap) : Prop :=
  P (Value.bool true) H
theorem q1 (P : PT) : QB Try.prog T0 16 o1 (ret P) k0 (B1 P) := fun _ _  => by kernel_rfl
noncomputable def o2 := ob Try.f14 [.r,.r,.l,.r,.l,.l]
def B2 (P : PT) (H : AHeap) : Prop :=
  P (Value.bool false) H
theorem q2 (P : PT) : QB Try.prog T0 16 o2 (ret P) k0 (B2 P) := fun _ _  => by kernel_rfl
abbrev k1 : Sk := [(2,.x),(3,.x)]
noncomputable def o3 := ob Try.f14 [.r,.r,.l,.l]
def B3 (P : PT) (x2 x3 : Nat) (H : AHeap) : Prop :=
  ld1 H x2 1 (fun v1 => ld1 H x3 1 (fun v2 => AC Try.prog T0 46 [v1, v2] H (fun v3 H4 => asB v3 (fun v5 => pif (!v5) (B2 P H4) (B1 P H4)))))
theorem q3 (P : PT) : QB Try.prog T0 16 o3 (cnd 15 (En 16 k0 (B2 P)) (En 16 k0 (B1 P))) k1 (B3 P) := fun _ _ _ _  => by kernel_rfl
noncomputable def o4 := ob Try.f14 [.r,.l,.r,.l,.l]
def B4 (P : PT) (H : AHeap) : Prop :=
  P (Value.bool false) H
theorem q4 (P : PT) : QB Try.prog T0 16 o4 (ret P) k0 (B4 P) := fun _ _  => by kernel_rfl
noncomputable def o5 := ob Try.f14 [.r,.l,.l]
def B5 (P : PT) (x2 x3 : Nat) (H : AHeap) : Prop :=
  ldI .i64 H x2 0 (fun v1 => ldI .i64 H x3 0 (fun v2 => pif ((v1 : Int) != v2) (B4 P H) (B3 P x2 x3 H)))
theorem q5 (P : PT) : QB Try.prog T0 16 o5 (cnd 9 (En 16 k0 (B4 P)) (En 16 k1 (B3 P))) k1 (B5 P) := fun _ _ _ _  => by kernel_rfl
abbrev k2 : Sk := [(0,.g [.i,.v]),(1,.g [.i,.v])]
noncomputable def o6 := ob Try.f14 [.l]
def B6 (P : PT) (x0a : Int) (x0b : Value) (x1a : Int) (x1b : Value) (H : AHeap) : Prop :=
  newK H [(Value.int .i64 x0a), x0b] 31 (fun b1 H2 => newK H2 [(Value.int .i64 x1a), x1b] 31 (fun b3 H4 => B5 P b1 b3 H4))
theorem q6 (P : PT) : QB Try.prog T0 16 o6 (En 16 k1 (B5 P)) k2 (B6 P) := fun _ _ _ _ _ _  => by kernel_rfl
noncomputable def code : Code := (.seq (.region 0 ⟨o6⟩ false) (.seq (.seq (.region 1 ⟨o5⟩ false) (.cond (.tmp 9) (.seq (.region 2 ⟨o4⟩ false) .ret) .skip)) (.seq (.seq (.region 3 ⟨o3⟩ false) (.cond (.tmp 15) (.seq (.region 4 ⟨o2⟩ false) .ret) .skip)) (.seq (.region 5 ⟨o1⟩ false) .ret))))
theorem body : Try.f14.body = some code := by kernel_rfl
theorem main (P : PT) : ∀ env H, (En 16 k2 (B6 P)) env H → AW Try.prog T0 code env H (mkQ (ret P) (fun _ _ _ => False) (ret P)) :=
  (r_seq (rB T0_ok (q6 P)) (r_seq (r_seq (rB T0_ok (q5 P)) (r_cond rfl (r_seq (rB T0_ok (q4 P)) r_ret) r_skip)) (r_seq (r_seq (rB T0_ok (q3 P)) (r_cond rfl (r_seq (rB T0_ok (q2 P)) r_ret) r_skip)) (r_seq (rB T0_ok (q1 P)) r_ret))))
theorem ac (P : PT) (x0a : Int) (x0b : Value) (x1a : Int) (x1b : Value) (H : AHeap) (h : B6 P x0a x0b x1a x1b H) : AC Try.prog T0 14 [(Value.agg ⟨[(Value.int .i64 x0a), x0b]⟩), (Value.agg ⟨[(Value.int .i64 x1a), x1b]⟩)] H P :=
  r_fn T0_ok (c := code) (n := 16) Try.func14 body (by kernel_rfl) (main P) (En_mk (x0a, x0b, x1a, x1b, ()) (by kernel_rfl) ⟨by kernel_rfl, by kernel_rfl, trivial⟩ h)

end F14
-- loop.example/g01329/laws.eqInt64S
namespace F15
noncomputable def ret (P : PT) : EP := retE T0 26 Try.f15 P
abbrev k0 : Sk := []
noncomputable def o1 := ob Try.f15 [.r,.r,.r,.l]
def B1 (P : PT) (H : AHeap) : Prop :=
  P (Value.bool true) H
theorem q1 (P : PT) : QB Try.prog T0 26 o1 (ret P) k0 (B1 P) := fun _ _  => by kernel_rfl
abbrev k1 : Sk := [(0,.v),(1,.v),(5,.i .i64)]
noncomputable def o3 := ob Try.f15 [.r,.r,.l,.r,.l,.l,.r,.r]
def B3 (P : PT) (N2 : NTy k1 Pr) (x0 x1 : Value) (x5 : Int) (H : AHeap) : Prop :=
  N2 x0 x1 (IntKind.i64.wrap (x5 + 1)) H
theorem q3 (P : PT) (N2 : NTy k1 Pr) : QB Try.prog T0 26 o3 (En 26 k1 N2) k1 (B3 P N2) := fun _ _ _ _ _  => by kernel_rfl
noncomputable def o4 := ob Try.f15 [.r,.r,.l,.r,.l,.l,.r,.l,.l,.r,.l,.l]
def B4 (P : PT) (N2 : NTy k1 Pr) (H : AHeap) : Prop :=
  P (Value.bool false) H
theorem q4 (P : PT) (N2 : NTy k1 Pr) : QB Try.prog T0 26 o4 (ret P) k0 (B4 P N2) := fun _ _  => by kernel_rfl
noncomputable def o5 := ob Try.f15 [.r,.r,.l,.r,.l,.l,.r,.l,.l,.l]
def B5 (P : PT) (N2 : NTy k1 Pr) (x0 x1 : Value) (x5 : Int) (H : AHeap) : Prop :=
  idxK x0 x5 1 (fun b1 o2 => ldI .i64 H b1 o2 (fun v3 => idxK x1 x5 1 (fun b4 o5 => ldI .i64 H b4 o5 (fun v6 => pif ((v3 : Int) != v6) (B4 P N2 H) (B3 P N2 x0 x1 x5 H)))))
theorem q5 (P : PT) (N2 : NTy k1 Pr) : QD Try.prog T0 26 o5 [(0, false), (1, false), (2, false), (3, false), (4, false), (5, false), (6, false), (7, false), (8, false)] (cnd 25 (En 26 k0 (B4 P N2)) (En 26 k1 (B3 P N2))) k1 (B5 P N2) := fun _ _ _ _ _  => by kernel_rfl
noncomputable def o6 := ob Try.f15 [.r,.r,.l,.r,.l,.l,.l,.l]
def B6 (P : PT) (N2 : NTy k1 Pr) (x0 x1 : Value) (x5 : Int) (H : AHeap) : Prop :=
  lenK x0 (fun n1 => pif (decide ((x5 : Int) < (n1 : Int))) (B5 P N2 x0 x1 x5 H) (B1 P H))
theorem q6 (P : PT) (N2 : NTy k1 Pr) : QB Try.prog T0 26 o6 (cnd 14 (En 26 k1 (B5 P N2)) (En 26 k0 (B1 P))) k1 (B6 P N2) := fun _ _ _ _ _  => by kernel_rfl
def L2 (P : PT) (x0 x1 : Value) (x5 : Int) (H : AHeap) : Prop :=
  ∃ (I : NTy k1 Pr) (μ : NTy k1 (AHeap → Nat)), I x0 x1 x5 H ∧ ∀ y0 y1 y5 G, I y0 y1 y5 G → B6 P (fun z0 z1 z5 G' => I z0 z1 z5 G' ∧ μ z0 z1 z5 G' < μ y0 y1 y5 G) y0 y1 y5 G
theorem l2 (P : PT) : LQ k1 (L2 P) (B6 P) := fun ⟨_,_,_,_⟩ _ ⟨I, μ, h0, hI⟩ => ⟨apT _ I, apT _ μ, h0, fun ⟨_,_,_,_⟩ _ h => hI _ _ _ _  h⟩
abbrev k2 : Sk := [(0,.v),(1,.v)]
noncomputable def o7 := ob Try.f15 [.r,.r,.l,.l]
def B7 (P : PT) (x0 x1 : Value) (H : AHeap) : Prop :=
  L2 P x0 x1 0 H
theorem q7 (P : PT) : QB Try.prog T0 26 o7 (En 26 k1 (L2 P)) k2 (B7 P) := fun _ _ _ _  => by kernel_rfl
noncomputable def o8 := ob Try.f15 [.r,.l,.r,.l,.l]
def B8 (P : PT) (H : AHeap) : Prop :=
  P (Value.bool false) H
theorem q8 (P : PT) : QB Try.prog T0 26 o8 (ret P) k0 (B8 P) := fun _ _  => by kernel_rfl
noncomputable def o9 := ob Try.f15 [.r,.l,.l]
def B9 (P : PT) (x0 x1 : Value) (H : AHeap) : Prop :=
  lenK x0 (fun n1 => lenK x1 (fun n2 => pif (((n1 : Int) : Int) != (n2 : Int)) (B8 P H) (B7 P x0 x1 H)))
theorem q9 (P : PT) : QB Try.prog T0 26 o9 (cnd 10 (En 26 k0 (B8 P)) (En 26 k2 (B7 P))) k2 (B9 P) := fun _ _ _ _  => by kernel_rfl
noncomputable def o10 := ob Try.f15 [.l]
def B10 (P : PT) (x0 x1 : Value) (H : AHeap) : Prop :=
  B9 P x0 x1 H
theorem q10 (P : PT) : QB Try.prog T0 26 o10 (En 26 k2 (B9 P)) k2 (B10 P) := fun _ _ _ _  => by kernel_rfl
noncomputable def code : Code := (.seq (.region 0 ⟨o10⟩ false) (.seq (.seq (.region 1 ⟨o9⟩ false) (.cond (.tmp 10) (.seq (.region 2 ⟨o8⟩ false) .ret) .skip)) (.seq (.seq (.region 3 ⟨o7⟩ false) (.block 0 (.loop (.seq (.seq (.region 4 ⟨o6⟩ false) (.cond (.tmp 14) .skip (.exit 0))) (.seq (.block 1 (.seq (.region 6 ⟨o5⟩ true) (.cond (.tmp 25) (.seq (.region 7 ⟨o4⟩ false) .ret) .skip))) (.region 5 ⟨o3⟩ false)))))) (.seq (.region 8 ⟨o1⟩ false) .ret))))
theorem body : Try.f15.body = some code := by kernel_rfl
theorem main (P : PT) : ∀ env H, (En 26 k2 (B10 P)) env H → AW Try.prog T0 code env H (mkQ (ret P) (fun _ _ _ => False) (ret P)) :=
  (r_seq (rB T0_ok (q10 P)) (r_seq (r_seq (rB T0_ok (q9 P)) (r_cond rfl (r_seq (rB T0_ok (q8 P)) r_ret) r_skip)) (r_seq (r_seq (rB T0_ok (q7 P)) (r_block (rL (l2 P) (fun N2 => (r_seq (r_seq (rB T0_ok (q6 P N2)) (r_cond rfl r_skip (r_exit (fun _ _ h => h)))) (r_seq (r_block (r_seq (rD T0_ok mixed [(0, false), (1, false), (2, false), (3, false), (4, false), (5, false), (6, false), (7, false), (8, false)] (by kernel_rfl) (q5 P N2)) (r_cond rfl (r_seq (rB T0_ok (q4 P N2)) r_ret) r_skip))) (rB T0_ok (q3 P N2)))))))) (r_seq (rB T0_ok (q1 P)) r_ret))))
theorem ac (P : PT) (x0 x1 : Value) (H : AHeap) (h : B10 P x0 x1 H) : AC Try.prog T0 15 [x0, x1] H P :=
  r_fn T0_ok (c := code) (n := 26) Try.func15 body (by kernel_rfl) (main P) (En_mk (x0, x1, ()) (by kernel_rfl) ⟨by kernel_rfl, by kernel_rfl, trivial⟩ h)

end F15
-- loop.example/g01329/laws.szEdgeS
namespace F35
noncomputable def ret (P : PT) : EP := retE T0 12 Try.f35 P
abbrev k0 : Sk := [(1,.i .i64)]
noncomputable def o1 := ob Try.f35 [.r,.r,.r,.l]
def B1 (P : PT) (x1 : Int) (H : AHeap) : Prop :=
  P (Value.int .i64 x1) H
theorem q1 (P : PT) : QB Try.prog T0 12 o1 (ret P) k0 (B1 P) := fun _ _ _  => by kernel_rfl
abbrev k1 : Sk := []
noncomputable def o2 := ob Try.f35 [.r,.r,.l,.r,.l,.l]
def B2 (P : PT) (H : AHeap) : Prop :=
  P (Value.int .i64 (-1)) H
theorem q2 (P : PT) : QB Try.prog T0 12 o2 (ret P) k1 (B2 P) := fun _ _  => by kernel_rfl
noncomputable def o3 := ob Try.f35 [.r,.r,.l,.l]
def B3 (P : PT) (x1 : Int) (H : AHeap) : Prop :=
  pif (decide ((x1 : Int) < 0)) (B2 P H) (B1 P x1 H)
theorem q3 (P : PT) : QB Try.prog T0 12 o3 (cnd 10 (En 12 k1 (B2 P)) (En 12 k0 (B1 P))) k0 (B3 P) := fun _ _ _  => by kernel_rfl
abbrev k2 : Sk := [(0,.v),(1,.i .i64)]
noncomputable def o4 := ob Try.f35 [.r,.l]
def B4 (P : PT) (x0 : Value) (x1 : Int) (H : AHeap) : Prop :=
  lenK x0 (fun n1 => B3 P (IntKind.i64.wrap (x1 - (n1 : Int))) H)
theorem q4 (P : PT) : QB Try.prog T0 12 o4 (En 12 k0 (B3 P)) k2 (B4 P) := fun _ _ _ _  => by kernel_rfl
noncomputable def o5 := ob Try.f35 [.l]
def B5 (P : PT) (x0 : Value) (x1 : Int) (H : AHeap) : Prop :=
  B4 P x0 x1 H
theorem q5 (P : PT) : QB Try.prog T0 12 o5 (En 12 k2 (B4 P)) k2 (B5 P) := fun _ _ _ _  => by kernel_rfl
noncomputable def code : Code := (.seq (.region 0 ⟨o5⟩ false) (.seq (.region 1 ⟨o4⟩ false) (.seq (.seq (.region 2 ⟨o3⟩ false) (.cond (.tmp 10) (.seq (.region 3 ⟨o2⟩ false) .ret) .skip)) (.seq (.region 4 ⟨o1⟩ false) .ret))))
theorem body : Try.f35.body = some code := by kernel_rfl
theorem main (P : PT) : ∀ env H, (En 12 k2 (B5 P)) env H → AW Try.prog T0 code env H (mkQ (ret P) (fun _ _ _ => False) (ret P)) :=
  (r_seq (rB T0_ok (q5 P)) (r_seq (rB T0_ok (q4 P)) (r_seq (r_seq (rB T0_ok (q3 P)) (r_cond rfl (r_seq (rB T0_ok (q2 P)) r_ret) r_skip)) (r_seq (rB T0_ok (q1 P)) r_ret))))
theorem ac (P : PT) (x0 : Value) (x1 : Int) (H : AHeap) (h : B5 P x0 x1 H) : AC Try.prog T0 35 [x0, (Value.int .i64 x1)] H P :=
  r_fn T0_ok (c := code) (n := 12) Try.func35 body (by kernel_rfl) (main P) (En_mk (x0, x1, ()) (by kernel_rfl) ⟨by kernel_rfl, by kernel_rfl, trivial⟩ h)

end F35
-- loop.example/g01329/spec.l02Code
namespace F36
noncomputable def ret (P : PT) : EP := retE T0 22 Try.f36 P
abbrev k0 : Sk := []
noncomputable def o1 := ob Try.f36 [.r,.r,.r,.l]
def B1 (P : PT) (H : AHeap) : Prop :=
  P (Value.int .i64 0) H
theorem q1 (P : PT) : QB Try.prog T0 22 o1 (ret P) k0 (B1 P) := fun _ _  => by kernel_rfl
abbrev k1 : Sk := [(1,.v),(2,.x),(5,.i .i64)]
noncomputable def o3 := ob Try.f36 [.r,.r,.l,.r,.l,.l,.r,.r]
def B3 (P : PT) (N2 : NTy k1 Pr) (x1 : Value) (x2 : Nat) (x5 : Int) (H : AHeap) : Prop :=
  N2 x1 x2 (IntKind.i64.wrap (x5 + 1)) H
theorem q3 (P : PT) (N2 : NTy k1 Pr) : QB Try.prog T0 22 o3 (En 22 k1 N2) k1 (B3 P N2) := fun _ _ _ _ _  => by kernel_rfl
noncomputable def o4 := ob Try.f36 [.r,.r,.l,.r,.l,.l,.r,.l,.l,.r,.l,.l]
def B4 (P : PT) (N2 : NTy k1 Pr) (H : AHeap) : Prop :=
  P (Value.int .i64 2) H
theorem q4 (P : PT) (N2 : NTy k1 Pr) : QB Try.prog T0 22 o4 (ret P) k0 (B4 P N2) := fun _ _  => by kernel_rfl
noncomputable def o5 := ob Try.f36 [.r,.r,.l,.r,.l,.l,.r,.l,.l,.l]
def B5 (P : PT) (N2 : NTy k1 Pr) (x1 : Value) (x2 : Nat) (x5 : Int) (H : AHeap) : Prop :=
  ldI .i64 H x2 0 (fun v1 => ld1 H x2 1 (fun v2 => idxK x1 x5 1 (fun b3 o4 => ld1 H b3 o4 (fun v5 => AC Try.prog T0 74 [(Value.agg ⟨[(Value.int .i64 v1), v2]⟩), v5] H (fun v6 H7 => asB v6 (fun v8 => pif (!v8) (B4 P N2 H7) (B3 P N2 x1 x2 x5 H7)))))))
theorem q5 (P : PT) (N2 : NTy k1 Pr) : QD Try.prog T0 22 o5 [(0, false), (1, false), (2, false), (3, false), (4, false), (5, false), (6, false)] (cnd 21 (En 22 k0 (B4 P N2)) (En 22 k1 (B3 P N2))) k1 (B5 P N2) := fun _ _ _ _ _  => by kernel_rfl
noncomputable def o6 := ob Try.f36 [.r,.r,.l,.r,.l,.l,.l,.l]
def B6 (P : PT) (N2 : NTy k1 Pr) (x1 : Value) (x2 : Nat) (x5 : Int) (H : AHeap) : Prop :=
  lenK x1 (fun n1 => pif (decide ((x5 : Int) < (n1 : Int))) (B5 P N2 x1 x2 x5 H) (B1 P H))
theorem q6 (P : PT) (N2 : NTy k1 Pr) : QB Try.prog T0 22 o6 (cnd 12 (En 22 k1 (B5 P N2)) (En 22 k0 (B1 P))) k1 (B6 P N2) := fun _ _ _ _ _  => by kernel_rfl
def L2 (P : PT) (x1 : Value) (x2 : Nat) (x5 : Int) (H : AHeap) : Prop :=
  ∃ (I : NTy k1 Pr) (μ : NTy k1 (AHeap → Nat)), I x1 x2 x5 H ∧ ∀ y1 y2 y5 G, I y1 y2 y5 G → B6 P (fun z1 z2 z5 G' => I z1 z2 z5 G' ∧ μ z1 z2 z5 G' < μ y1 y2 y5 G) y1 y2 y5 G
theorem l2 (P : PT) : LQ k1 (L2 P) (B6 P) := fun ⟨_,_,_,_⟩ _ ⟨I, μ, h0, hI⟩ => ⟨apT _ I, apT _ μ, h0, fun ⟨_,_,_,_⟩ _ h => hI _ _ _ _  h⟩
abbrev k2 : Sk := [(1,.v),(2,.x)]
noncomputable def o7 := ob Try.f36 [.r,.r,.l,.l]
def B7 (P : PT) (x1 : Value) (x2 : Nat) (H : AHeap) : Prop :=
  L2 P x1 x2 0 H
theorem q7 (P : PT) : QB Try.prog T0 22 o7 (En 22 k1 (L2 P)) k2 (B7 P) := fun _ _ _ _  => by kernel_rfl
noncomputable def o8 := ob Try.f36 [.r,.l,.r,.l,.l]
def B8 (P : PT) (H : AHeap) : Prop :=
  P (Value.int .i64 1) H
theorem q8 (P : PT) : QB Try.prog T0 22 o8 (ret P) k0 (B8 P) := fun _ _  => by kernel_rfl
noncomputable def o9 := ob Try.f36 [.r,.l,.l]
def B9 (P : PT) (x1 : Value) (x2 : Nat) (H : AHeap) : Prop :=
  ldI .i64 H x2 0 (fun v1 => ld1 H x2 1 (fun v2 => AC Try.prog T0 73 [(Value.agg ⟨[(Value.int .i64 v1), v2]⟩)] H (fun v3 H4 => asB v3 (fun v5 => pif (!v5) (B8 P H4) (B7 P x1 x2 H4)))))
theorem q9 (P : PT) : QB Try.prog T0 22 o9 (cnd 8 (En 22 k0 (B8 P)) (En 22 k2 (B7 P))) k2 (B9 P) := fun _ _ _ _  => by kernel_rfl
abbrev k3 : Sk := [(0,.g [.i,.v]),(1,.v)]
noncomputable def o10 := ob Try.f36 [.l]
def B10 (P : PT) (x0a : Int) (x0b x1 : Value) (H : AHeap) : Prop :=
  newK H [(Value.int .i64 x0a), x0b] 31 (fun b1 H2 => B9 P x1 b1 H2)
theorem q10 (P : PT) : QB Try.prog T0 22 o10 (En 22 k2 (B9 P)) k3 (B10 P) := fun _ _ _ _ _  => by kernel_rfl
noncomputable def code : Code := (.seq (.region 0 ⟨o10⟩ false) (.seq (.seq (.region 1 ⟨o9⟩ false) (.cond (.tmp 8) (.seq (.region 2 ⟨o8⟩ false) .ret) .skip)) (.seq (.seq (.region 3 ⟨o7⟩ false) (.block 0 (.loop (.seq (.seq (.region 4 ⟨o6⟩ false) (.cond (.tmp 12) .skip (.exit 0))) (.seq (.block 1 (.seq (.region 6 ⟨o5⟩ true) (.cond (.tmp 21) (.seq (.region 7 ⟨o4⟩ false) .ret) .skip))) (.region 5 ⟨o3⟩ false)))))) (.seq (.region 8 ⟨o1⟩ false) .ret))))
theorem body : Try.f36.body = some code := by kernel_rfl
theorem main (P : PT) : ∀ env H, (En 22 k3 (B10 P)) env H → AW Try.prog T0 code env H (mkQ (ret P) (fun _ _ _ => False) (ret P)) :=
  (r_seq (rB T0_ok (q10 P)) (r_seq (r_seq (rB T0_ok (q9 P)) (r_cond rfl (r_seq (rB T0_ok (q8 P)) r_ret) r_skip)) (r_seq (r_seq (rB T0_ok (q7 P)) (r_block (rL (l2 P) (fun N2 => (r_seq (r_seq (rB T0_ok (q6 P N2)) (r_cond rfl r_skip (r_exit (fun _ _ h => h)))) (r_seq (r_block (r_seq (rD T0_ok mixed [(0, false), (1, false), (2, false), (3, false), (4, false), (5, false), (6, false)] (by kernel_rfl) (q5 P N2)) (r_cond rfl (r_seq (rB T0_ok (q4 P N2)) r_ret) r_skip))) (rB T0_ok (q3 P N2)))))))) (r_seq (rB T0_ok (q1 P)) r_ret))))
theorem ac (P : PT) (x0a : Int) (x0b x1 : Value) (H : AHeap) (h : B10 P x0a x0b x1 H) : AC Try.prog T0 36 [(Value.agg ⟨[(Value.int .i64 x0a), x0b]⟩), x1] H P :=
  r_fn T0_ok (c := code) (n := 22) Try.func36 body (by kernel_rfl) (main P) (En_mk (x0a, x0b, x1, ()) (by kernel_rfl) ⟨by kernel_rfl, by kernel_rfl, trivial⟩ h)

end F36
-- loop.example/g01329/spec.l01Own
namespace F37
noncomputable def ret (P : PT) : EP := retE T0 6 Try.f37 P
abbrev k0 : Sk := [(0,.v)]
noncomputable def o1 := ob Try.f37 [.r,.l]
def B1 (P : PT) (x0 : Value) (H : AHeap) : Prop :=
  newK H [] 2 (fun b1 H2 => apK T0 2 H2 (Value.slice (some ⟨b1, 0, none⟩) 0 (0 + 1)) x0 (fun v3 H4 => P v3 H4))
theorem q1 (P : PT) : QB Try.prog T0 6 o1 (ret P) k0 (B1 P) := fun _ _ _  => by kernel_rfl
noncomputable def o2 := ob Try.f37 [.l]
def B2 (P : PT) (x0 : Value) (H : AHeap) : Prop :=
  B1 P x0 H
theorem q2 (P : PT) : QB Try.prog T0 6 o2 (En 6 k0 (B1 P)) k0 (B2 P) := fun _ _ _  => by kernel_rfl
noncomputable def code : Code := (.seq (.region 0 ⟨o2⟩ false) (.seq (.region 1 ⟨o1⟩ false) .ret))
theorem body : Try.f37.body = some code := by kernel_rfl
theorem main (P : PT) : ∀ env H, (En 6 k0 (B2 P)) env H → AW Try.prog T0 code env H (mkQ (ret P) (fun _ _ _ => False) (ret P)) :=
  (r_seq (rB T0_ok (q2 P)) (r_seq (rB T0_ok (q1 P)) r_ret))
theorem ac (P : PT) (x0 : Value) (H : AHeap) (h : B2 P x0 H) : AC Try.prog T0 37 [x0] H P :=
  r_fn T0_ok (c := code) (n := 6) Try.func37 body (by kernel_rfl) (main P) (En_mk (x0, ()) (by kernel_rfl) ⟨by kernel_rfl, trivial⟩ h)

end F37
-- loop.example/g01329/spec.l02Exchange
namespace F38
noncomputable def ret (P : PT) : EP := retE T0 50 Try.f38 P
abbrev k0 : Sk := [(10,.v)]
noncomputable def o1 := ob Try.f38 [.r,.r,.r,.l]
def B1 (P : PT) (x10 : Value) (H : AHeap) : Prop :=
  P x10 H
theorem q1 (P : PT) : QB Try.prog T0 50 o1 (ret P) k0 (B1 P) := fun _ _ _  => by kernel_rfl
abbrev k1 : Sk := [(1,.v),(2,.i .i64),(3,.i .i64),(9,.v),(10,.v),(11,.i .i64)]
noncomputable def o3 := ob Try.f38 [.r,.r,.l,.r,.l,.l,.r,.r]
def B3 (P : PT) (N2 : NTy k1 Pr) (x1 : Value) (x2 x3 : Int) (x9 x10 : Value) (x11 : Int) (H : AHeap) : Prop :=
  N2 x1 x2 x3 x9 x10 (IntKind.i64.wrap (x11 + 1)) H
theorem q3 (P : PT) (N2 : NTy k1 Pr) : QB Try.prog T0 50 o3 (En 50 k1 N2) k1 (B3 P N2) := fun _ _ _ _ _ _ _ _  => by kernel_rfl
noncomputable def o4 := ob Try.f38 [.r,.r,.l,.r,.l,.l,.r,.l,.l,.r,.l]
def B4 (P : PT) (N2 : NTy k1 Pr) (x1 : Value) (x2 x3 : Int) (x9 x10 : Value) (x11 : Int) (H : AHeap) : Prop :=
  idxK x1 x2 1 (fun b1 o2 => ldI .i64 H b1 o2 (fun v3 => idxK x1 x11 1 (fun b4 o5 => ldI .i64 H b4 o5 (fun v6 => newK H [(Value.int .i64 (IntKind.i64.wrap ((IntKind.i64.wrap (v3 + x3)) - v6)))] 2 (fun b7 H8 => apK T0 2 H8 x10 (Value.slice (some ⟨b7, 0, none⟩) 1 (1 + 1)) (fun v9 H10 => B3 P N2 x1 x2 x3 x9 v9 x11 H10))))))
theorem q4 (P : PT) (N2 : NTy k1 Pr) : QD Try.prog T0 50 o4 [(0, false), (1, false), (2, false), (3, false), (4, false), (5, false), (6, false), (7, false), (8, false), (9, false), (10, false), (11, false), (12, false), (13, false), (14, false)] (En 50 k1 (B3 P N2)) k1 (B4 P N2) := fun _ _ _ _ _ _ _ _  => by kernel_rfl
noncomputable def o5 := ob Try.f38 [.r,.r,.l,.r,.l,.l,.r,.l,.l,.r,.r]
def B5 (P : PT) (N2 : NTy k1 Pr) (x1 : Value) (x2 x3 : Int) (x9 x10 : Value) (x11 : Int) (H : AHeap) : Prop :=
  idxK x1 x11 1 (fun b1 o2 => ldI .i64 H b1 o2 (fun v3 => newK H [(Value.int .i64 v3)] 2 (fun b4 H5 => apK T0 2 H5 x10 (Value.slice (some ⟨b4, 0, none⟩) 1 (1 + 1)) (fun v6 H7 => B3 P N2 x1 x2 x3 x9 v6 x11 H7))))
theorem q5 (P : PT) (N2 : NTy k1 Pr) : QB Try.prog T0 50 o5 (En 50 k1 (B3 P N2)) k1 (B5 P N2) := fun _ _ _ _ _ _ _ _  => by kernel_rfl
noncomputable def o6 := ob Try.f38 [.r,.r,.l,.r,.l,.l,.r,.l,.l,.l]
def B6 (P : PT) (N2 : NTy k1 Pr) (x1 : Value) (x2 x3 : Int) (x9 x10 : Value) (x11 : Int) (H : AHeap) : Prop :=
  idxK x9 x11 1 (fun b1 o2 => ld1 H b1 o2 (fun v4 => asB v4 (fun v3 => pif v3 (B4 P N2 x1 x2 x3 x9 x10 x11 H) (B5 P N2 x1 x2 x3 x9 x10 x11 H))))
theorem q6 (P : PT) (N2 : NTy k1 Pr) : QB Try.prog T0 50 o6 (cnd 27 (En 50 k1 (B4 P N2)) (En 50 k1 (B5 P N2))) k1 (B6 P N2) := fun _ _ _ _ _ _ _ _  => by kernel_rfl
noncomputable def o7 := ob Try.f38 [.r,.r,.l,.r,.l,.l,.l,.l]
def B7 (P : PT) (N2 : NTy k1 Pr) (x1 : Value) (x2 x3 : Int) (x9 x10 : Value) (x11 : Int) (H : AHeap) : Prop :=
  lenK x1 (fun n1 => pif (decide ((x11 : Int) < (n1 : Int))) (B6 P N2 x1 x2 x3 x9 x10 x11 H) (B1 P x10 H))
theorem q7 (P : PT) (N2 : NTy k1 Pr) : QB Try.prog T0 50 o7 (cnd 21 (En 50 k1 (B6 P N2)) (En 50 k0 (B1 P))) k1 (B7 P N2) := fun _ _ _ _ _ _ _ _  => by kernel_rfl
def L2 (P : PT) (x1 : Value) (x2 x3 : Int) (x9 x10 : Value) (x11 : Int) (H : AHeap) : Prop :=
  ∃ (I : NTy k1 Pr) (μ : NTy k1 (AHeap → Nat)), I x1 x2 x3 x9 x10 x11 H ∧ ∀ y1 y2 y3 y9 y10 y11 G, I y1 y2 y3 y9 y10 y11 G → B7 P (fun z1 z2 z3 z9 z10 z11 G' => I z1 z2 z3 z9 z10 z11 G' ∧ μ z1 z2 z3 z9 z10 z11 G' < μ y1 y2 y3 y9 y10 y11 G) y1 y2 y3 y9 y10 y11 G
theorem l2 (P : PT) : LQ k1 (L2 P) (B7 P) := fun ⟨_,_,_,_,_,_,_⟩ _ ⟨I, μ, h0, hI⟩ => ⟨apT _ I, apT _ μ, h0, fun ⟨_,_,_,_,_,_,_⟩ _ h => hI _ _ _ _ _ _ _  h⟩
abbrev k2 : Sk := [(1,.v),(2,.i .i64),(3,.i .i64),(9,.v),(10,.v)]
noncomputable def o8 := ob Try.f38 [.r,.r,.l,.l]
def B8 (P : PT) (x1 : Value) (x2 x3 : Int) (x9 x10 : Value) (H : AHeap) : Prop :=
  L2 P x1 x2 x3 x9 x10 0 H
theorem q8 (P : PT) : QB Try.prog T0 50 o8 (En 50 k1 (L2 P)) k2 (B8 P) := fun _ _ _ _ _ _ _  => by kernel_rfl
abbrev k3 : Sk := [(1,.v),(2,.i .i64),(3,.i .i64),(4,.x)]
noncomputable def o9 := ob Try.f38 [.r,.l]
def B9 (P : PT) (x1 : Value) (x2 x3 : Int) (x4 : Nat) (H : AHeap) : Prop :=
  ldI .i64 H x4 0 (fun v1 => ld1 H x4 1 (fun v2 => AC Try.prog T0 75 [(Value.agg ⟨[(Value.int .i64 v1), v2]⟩), x1, (Value.int .i64 x2), (Value.int .i64 x3)] H (fun v3 H4 => newK H4 [] 2 (fun b6 H7 => B8 P x1 x2 x3 v3 (Value.slice (some ⟨b6, 0, none⟩) 0 (0 + 1)) H7))))
theorem q9 (P : PT) : QB Try.prog T0 50 o9 (En 50 k2 (B8 P)) k3 (B9 P) := fun _ _ _ _ _ _  => by kernel_rfl
abbrev k4 : Sk := [(0,.g [.i,.v]),(1,.v),(2,.i .i64),(3,.i .i64)]
noncomputable def o10 := ob Try.f38 [.l]
def B10 (P : PT) (x0a : Int) (x0b x1 : Value) (x2 x3 : Int) (H : AHeap) : Prop :=
  newK H [(Value.int .i64 x0a), x0b] 31 (fun b1 H2 => B9 P x1 x2 x3 b1 H2)
theorem q10 (P : PT) : QB Try.prog T0 50 o10 (En 50 k3 (B9 P)) k4 (B10 P) := fun _ _ _ _ _ _ _  => by kernel_rfl
noncomputable def code : Code := (.seq (.region 0 ⟨o10⟩ false) (.seq (.region 1 ⟨o9⟩ false) (.seq (.seq (.region 2 ⟨o8⟩ false) (.block 0 (.loop (.seq (.seq (.region 3 ⟨o7⟩ false) (.cond (.tmp 21) .skip (.exit 0))) (.seq (.block 1 (.seq (.region 5 ⟨o6⟩ false) (.cond (.tmp 27) (.region 6 ⟨o4⟩ true) (.region 7 ⟨o5⟩ false)))) (.region 4 ⟨o3⟩ false)))))) (.seq (.region 8 ⟨o1⟩ false) .ret))))
theorem body : Try.f38.body = some code := by kernel_rfl
theorem main (P : PT) : ∀ env H, (En 50 k4 (B10 P)) env H → AW Try.prog T0 code env H (mkQ (ret P) (fun _ _ _ => False) (ret P)) :=
  (r_seq (rB T0_ok (q10 P)) (r_seq (rB T0_ok (q9 P)) (r_seq (r_seq (rB T0_ok (q8 P)) (r_block (rL (l2 P) (fun N2 => (r_seq (r_seq (rB T0_ok (q7 P N2)) (r_cond rfl r_skip (r_exit (fun _ _ h => h)))) (r_seq (r_block (r_seq (rB T0_ok (q6 P N2)) (r_cond rfl (rD T0_ok mixed [(0, false), (1, false), (2, false), (3, false), (4, false), (5, false), (6, false), (7, false), (8, false), (9, false), (10, false), (11, false), (12, false), (13, false), (14, false)] (by kernel_rfl) (q4 P N2)) (rB T0_ok (q5 P N2))))) (rB T0_ok (q3 P N2)))))))) (r_seq (rB T0_ok (q1 P)) r_ret))))
theorem ac (P : PT) (x0a : Int) (x0b x1 : Value) (x2 x3 : Int) (H : AHeap) (h : B10 P x0a x0b x1 x2 x3 H) : AC Try.prog T0 38 [(Value.agg ⟨[(Value.int .i64 x0a), x0b]⟩), x1, (Value.int .i64 x2), (Value.int .i64 x3)] H P :=
  r_fn T0_ok (c := code) (n := 50) Try.func38 body (by kernel_rfl) (main P) (En_mk (x0a, x0b, x1, x2, x3, ()) (by kernel_rfl) ⟨by kernel_rfl, by kernel_rfl, by kernel_rfl, by kernel_rfl, trivial⟩ h)

end F38
-- loop.example/g01329/spec.l02Same
namespace F39
noncomputable def ret (P : PT) : EP := retE T0 21 Try.f39 P
abbrev k0 : Sk := []
noncomputable def o1 := ob Try.f39 [.r,.r,.l]
def B1 (P : PT) (H : AHeap) : Prop :=
  P (Value.bool true) H
theorem q1 (P : PT) : QB Try.prog T0 21 o1 (ret P) k0 (B1 P) := fun _ _  => by kernel_rfl
abbrev k1 : Sk := [(0,.v),(1,.v),(5,.i .i64)]
noncomputable def o3 := ob Try.f39 [.r,.l,.r,.l,.l,.r,.r]
def B3 (P : PT) (N2 : NTy k1 Pr) (x0 x1 : Value) (x5 : Int) (H : AHeap) : Prop :=
  N2 x0 x1 (IntKind.i64.wrap (x5 + 1)) H
theorem q3 (P : PT) (N2 : NTy k1 Pr) : QB Try.prog T0 21 o3 (En 21 k1 N2) k1 (B3 P N2) := fun _ _ _ _ _  => by kernel_rfl
noncomputable def o4 := ob Try.f39 [.r,.l,.r,.l,.l,.r,.l,.l,.r,.l,.l]
def B4 (P : PT) (N2 : NTy k1 Pr) (H : AHeap) : Prop :=
  P (Value.bool false) H
theorem q4 (P : PT) (N2 : NTy k1 Pr) : QB Try.prog T0 21 o4 (ret P) k0 (B4 P N2) := fun _ _  => by kernel_rfl
noncomputable def o5 := ob Try.f39 [.r,.l,.r,.l,.l,.r,.l,.l,.l]
def B5 (P : PT) (N2 : NTy k1 Pr) (x0 x1 : Value) (x5 : Int) (H : AHeap) : Prop :=
  idxK x0 x5 1 (fun b1 o2 => ldI .i64 H b1 o2 (fun v3 => idxK x1 x5 1 (fun b4 o5 => ldI .i64 H b4 o5 (fun v6 => pif ((v3 : Int) != v6) (B4 P N2 H) (B3 P N2 x0 x1 x5 H)))))
theorem q5 (P : PT) (N2 : NTy k1 Pr) : QD Try.prog T0 21 o5 [(0, false), (1, false), (2, false), (3, false), (4, false), (5, false), (6, false), (7, false), (8, false)] (cnd 20 (En 21 k0 (B4 P N2)) (En 21 k1 (B3 P N2))) k1 (B5 P N2) := fun _ _ _ _ _  => by kernel_rfl
noncomputable def o6 := ob Try.f39 [.r,.l,.r,.l,.l,.l,.l]
def B6 (P : PT) (N2 : NTy k1 Pr) (x0 x1 : Value) (x5 : Int) (H : AHeap) : Prop :=
  lenK x0 (fun n1 => pif (decide ((x5 : Int) < (n1 : Int))) (B5 P N2 x0 x1 x5 H) (B1 P H))
theorem q6 (P : PT) (N2 : NTy k1 Pr) : QB Try.prog T0 21 o6 (cnd 9 (En 21 k1 (B5 P N2)) (En 21 k0 (B1 P))) k1 (B6 P N2) := fun _ _ _ _ _  => by kernel_rfl
def L2 (P : PT) (x0 x1 : Value) (x5 : Int) (H : AHeap) : Prop :=
  ∃ (I : NTy k1 Pr) (μ : NTy k1 (AHeap → Nat)), I x0 x1 x5 H ∧ ∀ y0 y1 y5 G, I y0 y1 y5 G → B6 P (fun z0 z1 z5 G' => I z0 z1 z5 G' ∧ μ z0 z1 z5 G' < μ y0 y1 y5 G) y0 y1 y5 G
theorem l2 (P : PT) : LQ k1 (L2 P) (B6 P) := fun ⟨_,_,_,_⟩ _ ⟨I, μ, h0, hI⟩ => ⟨apT _ I, apT _ μ, h0, fun ⟨_,_,_,_⟩ _ h => hI _ _ _ _  h⟩
abbrev k2 : Sk := [(0,.v),(1,.v)]
noncomputable def o7 := ob Try.f39 [.r,.l,.l]
def B7 (P : PT) (x0 x1 : Value) (H : AHeap) : Prop :=
  L2 P x0 x1 0 H
theorem q7 (P : PT) : QB Try.prog T0 21 o7 (En 21 k1 (L2 P)) k2 (B7 P) := fun _ _ _ _  => by kernel_rfl
noncomputable def o8 := ob Try.f39 [.l]
def B8 (P : PT) (x0 x1 : Value) (H : AHeap) : Prop :=
  B7 P x0 x1 H
theorem q8 (P : PT) : QB Try.prog T0 21 o8 (En 21 k2 (B7 P)) k2 (B8 P) := fun _ _ _ _  => by kernel_rfl
noncomputable def code : Code := (.seq (.region 0 ⟨o8⟩ false) (.seq (.seq (.region 1 ⟨o7⟩ false) (.block 0 (.loop (.seq (.seq (.region 2 ⟨o6⟩ false) (.cond (.tmp 9) .skip (.exit 0))) (.seq (.block 1 (.seq (.region 4 ⟨o5⟩ true) (.cond (.tmp 20) (.seq (.region 5 ⟨o4⟩ false) .ret) .skip))) (.region 3 ⟨o3⟩ false)))))) (.seq (.region 6 ⟨o1⟩ false) .ret)))
theorem body : Try.f39.body = some code := by kernel_rfl
theorem main (P : PT) : ∀ env H, (En 21 k2 (B8 P)) env H → AW Try.prog T0 code env H (mkQ (ret P) (fun _ _ _ => False) (ret P)) :=
  (r_seq (rB T0_ok (q8 P)) (r_seq (r_seq (rB T0_ok (q7 P)) (r_block (rL (l2 P) (fun N2 => (r_seq (r_seq (rB T0_ok (q6 P N2)) (r_cond rfl r_skip (r_exit (fun _ _ h => h)))) (r_seq (r_block (r_seq (rD T0_ok mixed [(0, false), (1, false), (2, false), (3, false), (4, false), (5, false), (6, false), (7, false), (8, false)] (by kernel_rfl) (q5 P N2)) (r_cond rfl (r_seq (rB T0_ok (q4 P N2)) r_ret) r_skip))) (rB T0_ok (q3 P N2)))))))) (r_seq (rB T0_ok (q1 P)) r_ret)))
theorem ac (P : PT) (x0 x1 : Value) (H : AHeap) (h : B8 P x0 x1 H) : AC Try.prog T0 39 [x0, x1] H P :=
  r_fn T0_ok (c := code) (n := 21) Try.func39 body (by kernel_rfl) (main P) (En_mk (x0, x1, ()) (by kernel_rfl) ⟨by kernel_rfl, by kernel_rfl, trivial⟩ h)

end F39
-- loop.example/g01329/laws.toEdgeS
namespace F40
noncomputable def ret (P : PT) : EP := retE T0 23 Try.f40 P
abbrev k0 : Sk := [(3,.v)]
noncomputable def o1 := ob Try.f40 [.r,.r,.r,.l]
def B1 (P : PT) (x3 : Value) (H : AHeap) : Prop :=
  P x3 H
theorem q1 (P : PT) : QB Try.prog T0 23 o1 (ret P) k0 (B1 P) := fun _ _ _  => by kernel_rfl
abbrev k1 : Sk := [(0,.v),(3,.v),(4,.i .i64)]
noncomputable def o3 := ob Try.f40 [.r,.r,.l,.r,.l,.l,.r,.r]
def B3 (P : PT) (N2 : NTy k1 Pr) (x0 x3 : Value) (x4 : Int) (H : AHeap) : Prop :=
  N2 x0 x3 (IntKind.i64.wrap (x4 + 1)) H
theorem q3 (P : PT) (N2 : NTy k1 Pr) : QB Try.prog T0 23 o3 (En 23 k1 N2) k1 (B3 P N2) := fun _ _ _ _ _  => by kernel_rfl
noncomputable def o4 := ob Try.f40 [.r,.r,.l,.r,.l,.l,.r,.l,.l]
def B4 (P : PT) (N2 : NTy k1 Pr) (x0 x3 : Value) (x4 : Int) (H : AHeap) : Prop :=
  idxK x0 x4 2 (fun b1 o2 => ldI .i64 H b1 o2 (fun v3 => ldI .i64 H b1 (o2 + 1) (fun v4 => AC Try.prog T0 76 [(Value.agg ⟨[(Value.int .i64 v3), (Value.int .i64 v4)]⟩)] H (fun v5 H6 => agg2 v5 (fun v7 v8 => asI .i64 v7 (fun v9 => asI .i64 v8 (fun v10 => idxK x3 x4 2 (fun b11 o12 => stK H6 b11 o12 [(Value.int .i64 v9), (Value.int .i64 v10)] (fun H13 => B3 P N2 x0 x3 x4 H13)))))))))
theorem q4 (P : PT) (N2 : NTy k1 Pr) : QB Try.prog T0 23 o4 (En 23 k1 (B3 P N2)) k1 (B4 P N2) := fun _ _ _ _ _  => by kernel_rfl
noncomputable def o5 := ob Try.f40 [.r,.r,.l,.r,.l,.l,.l,.l]
def B5 (P : PT) (N2 : NTy k1 Pr) (x0 x3 : Value) (x4 : Int) (H : AHeap) : Prop :=
  lenK x0 (fun n1 => pif (decide ((x4 : Int) < (n1 : Int))) (B4 P N2 x0 x3 x4 H) (B1 P x3 H))
theorem q5 (P : PT) (N2 : NTy k1 Pr) : QB Try.prog T0 23 o5 (cnd 11 (En 23 k1 (B4 P N2)) (En 23 k0 (B1 P))) k1 (B5 P N2) := fun _ _ _ _ _  => by kernel_rfl
def L2 (P : PT) (x0 x3 : Value) (x4 : Int) (H : AHeap) : Prop :=
  ∃ (I : NTy k1 Pr) (μ : NTy k1 (AHeap → Nat)), I x0 x3 x4 H ∧ ∀ y0 y3 y4 G, I y0 y3 y4 G → B5 P (fun z0 z3 z4 G' => I z0 z3 z4 G' ∧ μ z0 z3 z4 G' < μ y0 y3 y4 G) y0 y3 y4 G
theorem l2 (P : PT) : LQ k1 (L2 P) (B5 P) := fun ⟨_,_,_,_⟩ _ ⟨I, μ, h0, hI⟩ => ⟨apT _ I, apT _ μ, h0, fun ⟨_,_,_,_⟩ _ h => hI _ _ _ _  h⟩
abbrev k2 : Sk := [(0,.v),(3,.v)]
noncomputable def o6 := ob Try.f40 [.r,.r,.l,.l]
def B6 (P : PT) (x0 x3 : Value) (H : AHeap) : Prop :=
  L2 P x0 x3 0 H
theorem q6 (P : PT) : QB Try.prog T0 23 o6 (En 23 k1 (L2 P)) k2 (B6 P) := fun _ _ _ _  => by kernel_rfl
abbrev k3 : Sk := [(0,.v)]
noncomputable def o7 := ob Try.f40 [.r,.l]
def B7 (P : PT) (x0 : Value) (H : AHeap) : Prop :=
  lenK x0 (fun n1 => mkR H 16 67 [(Value.int .i64 0), (Value.int .i64 0)] (n1 : Int) (n1 : Int) (fun v3 H2 => B6 P x0 v3 H2))
theorem q7 (P : PT) : QB Try.prog T0 23 o7 (En 23 k2 (B6 P)) k3 (B7 P) := fun _ _ _  => by kernel_rfl
noncomputable def o8 := ob Try.f40 [.l]
def B8 (P : PT) (x0 : Value) (H : AHeap) : Prop :=
  B7 P x0 H
theorem q8 (P : PT) : QB Try.prog T0 23 o8 (En 23 k3 (B7 P)) k3 (B8 P) := fun _ _ _  => by kernel_rfl
noncomputable def code : Code := (.seq (.region 0 ⟨o8⟩ false) (.seq (.region 1 ⟨o7⟩ false) (.seq (.seq (.region 2 ⟨o6⟩ false) (.block 0 (.loop (.seq (.seq (.region 3 ⟨o5⟩ false) (.cond (.tmp 11) .skip (.exit 0))) (.seq (.block 1 (.region 5 ⟨o4⟩ false)) (.region 4 ⟨o3⟩ false)))))) (.seq (.region 6 ⟨o1⟩ false) .ret))))
theorem body : Try.f40.body = some code := by kernel_rfl
theorem main (P : PT) : ∀ env H, (En 23 k3 (B8 P)) env H → AW Try.prog T0 code env H (mkQ (ret P) (fun _ _ _ => False) (ret P)) :=
  (r_seq (rB T0_ok (q8 P)) (r_seq (rB T0_ok (q7 P)) (r_seq (r_seq (rB T0_ok (q6 P)) (r_block (rL (l2 P) (fun N2 => (r_seq (r_seq (rB T0_ok (q5 P N2)) (r_cond rfl r_skip (r_exit (fun _ _ h => h)))) (r_seq (r_block (rB T0_ok (q4 P N2))) (rB T0_ok (q3 P N2)))))))) (r_seq (rB T0_ok (q1 P)) r_ret))))
theorem ac (P : PT) (x0 : Value) (H : AHeap) (h : B8 P x0 H) : AC Try.prog T0 40 [x0] H P :=
  r_fn T0_ok (c := code) (n := 23) Try.func40 body (by kernel_rfl) (main P) (En_mk (x0, ()) (by kernel_rfl) ⟨by kernel_rfl, trivial⟩ h)

end F40
-- loop.example/g01329/impl.graphCode
namespace F41
noncomputable def ret (P : PT) : EP := retE T0 12 Try.f41 P
abbrev k0 : Sk := []
noncomputable def o1 := ob Try.f41 [.r,.r,.l]
def B1 (P : PT) (H : AHeap) : Prop :=
  P (Value.int .i64 0) H
theorem q1 (P : PT) : QB Try.prog T0 12 o1 (ret P) k0 (B1 P) := fun _ _  => by kernel_rfl
noncomputable def o2 := ob Try.f41 [.r,.l,.l,.r,.l,.l]
def B2 (P : PT) (H : AHeap) : Prop :=
  P (Value.int .i64 1) H
theorem q2 (P : PT) : QB Try.prog T0 12 o2 (ret P) k0 (B2 P) := fun _ _  => by kernel_rfl
noncomputable def o3 := ob Try.f41 [.r,.l,.l,.r,.r,.r,.l,.l]
def B3 (P : PT) (H : AHeap) : Prop :=
  P (Value.int .i64 2) H
theorem q3 (P : PT) : QB Try.prog T0 12 o3 (ret P) k0 (B3 P) := fun _ _  => by kernel_rfl
abbrev k1 : Sk := [(1,.b)]
noncomputable def o4 := ob Try.f41 [.r,.l,.l,.r,.r,.l]
def B4 (P : PT) (x1 : Bool) (H : AHeap) : Prop :=
  pif (!x1) (B3 P H) (B1 P H)
theorem q4 (P : PT) : QB Try.prog T0 12 o4 (cnd 9 (En 12 k0 (B3 P)) (En 12 k0 (B1 P))) k1 (B4 P) := fun _ _ _  => by kernel_rfl
abbrev k2 : Sk := [(1,.b),(2,.x)]
noncomputable def o5 := ob Try.f41 [.r,.l,.l,.l]
def B5 (P : PT) (x1 : Bool) (x2 : Nat) (H : AHeap) : Prop :=
  ldI .i64 H x2 0 (fun v1 => ld1 H x2 1 (fun v2 => AC Try.prog T0 77 [(Value.agg ⟨[(Value.int .i64 v1), v2]⟩)] H (fun v3 H4 => asB v3 (fun v5 => pif (!v5) (B2 P H4) (B4 P x1 H4)))))
theorem q5 (P : PT) : QB Try.prog T0 12 o5 (cnd 5 (En 12 k0 (B2 P)) (En 12 k1 (B4 P))) k2 (B5 P) := fun _ _ _ _  => by kernel_rfl
abbrev k3 : Sk := [(0,.g [.i,.v]),(1,.b)]
noncomputable def o6 := ob Try.f41 [.l]
def B6 (P : PT) (x0a : Int) (x0b : Value) (x1 : Bool) (H : AHeap) : Prop :=
  newK H [(Value.int .i64 x0a), x0b] 31 (fun b1 H2 => B5 P x1 b1 H2)
theorem q6 (P : PT) : QB Try.prog T0 12 o6 (En 12 k2 (B5 P)) k3 (B6 P) := fun _ _ _ _ _  => by kernel_rfl
noncomputable def code : Code := (.seq (.region 0 ⟨o6⟩ false) (.seq (.block 0 (.seq (.region 1 ⟨o5⟩ false) (.cond (.tmp 5) (.seq (.region 2 ⟨o2⟩ false) .ret) (.seq (.region 3 ⟨o4⟩ false) (.cond (.tmp 9) (.seq (.region 4 ⟨o3⟩ false) .ret) .skip))))) (.seq (.region 5 ⟨o1⟩ false) .ret)))
theorem body : Try.f41.body = some code := by kernel_rfl
theorem main (P : PT) : ∀ env H, (En 12 k3 (B6 P)) env H → AW Try.prog T0 code env H (mkQ (ret P) (fun _ _ _ => False) (ret P)) :=
  (r_seq (rB T0_ok (q6 P)) (r_seq (r_block (r_seq (rB T0_ok (q5 P)) (r_cond rfl (r_seq (rB T0_ok (q2 P)) r_ret) (r_seq (rB T0_ok (q4 P)) (r_cond rfl (r_seq (rB T0_ok (q3 P)) r_ret) r_skip))))) (r_seq (rB T0_ok (q1 P)) r_ret)))
theorem ac (P : PT) (x0a : Int) (x0b : Value) (x1 : Bool) (H : AHeap) (h : B6 P x0a x0b x1 H) : AC Try.prog T0 41 [(Value.agg ⟨[(Value.int .i64 x0a), x0b]⟩), (Value.bool x1)] H P :=
  r_fn T0_ok (c := code) (n := 12) Try.func41 body (by kernel_rfl) (main P) (En_mk (x0a, x0b, x1, ()) (by kernel_rfl) ⟨by kernel_rfl, by kernel_rfl, trivial⟩ h)

end F41
-- (loop.example/g01329/impl.Graph).isColouring
namespace F42
noncomputable def ret (P : PT) : EP := retE T0 63 Try.f42 P
abbrev k0 : Sk := []
noncomputable def o1 := ob Try.f42 [.r,.r,.r,.r,.l]
def B1 (P : PT) (H : AHeap) : Prop :=
  P (Value.bool true) H
theorem q1 (P : PT) : QB Try.prog T0 63 o1 (ret P) k0 (B1 P) := fun _ _  => by kernel_rfl
abbrev k1 : Sk := [(1,.v),(5,.v),(30,.v),(31,.i .i64),(32,.i .i64)]
noncomputable def o3 := ob Try.f42 [.r,.r,.r,.l,.r,.l,.l,.r,.r,.r]
def B3 (P : PT) (N2 : NTy k1 Pr) (x1 x5 x30 : Value) (x31 x32 : Int) (H : AHeap) : Prop :=
  N2 x1 x5 x30 x31 (IntKind.i64.wrap (x32 + 1)) H
theorem q3 (P : PT) (N2 : NTy k1 Pr) : QB Try.prog T0 63 o3 (En 63 k1 N2) k1 (B3 P N2) := fun _ _ _ _ _ _ _  => by kernel_rfl
abbrev k2 : Sk := [(1,.v),(5,.v),(6,.i .i64),(30,.v),(31,.i .i64),(32,.i .i64),(37,.g [.i,.i]),(38,.i .i64)]
noncomputable def o5 := ob Try.f42 [.r,.r,.r,.l,.r,.l,.l,.r,.r,.l,.l,.r,.r,.l,.l,.r,.r,.r]
def B5 (P : PT) (N2 : NTy k1 Pr) (N4 : NTy k2 Pr) (x1 x5 : Value) (x6 : Int) (x30 : Value) (x31 x32 x37a x37b x38 : Int) (H : AHeap) : Prop :=
  N4 x1 x5 x6 x30 x31 x32 x37a x37b (IntKind.i64.wrap (x38 + 1)) H
theorem q5 (P : PT) (N2 : NTy k1 Pr) (N4 : NTy k2 Pr) : QB Try.prog T0 63 o5 (En 63 k2 N4) k2 (B5 P N2 N4) := fun _ _ _ _ _ _ _ _ _ _ _  => by kernel_rfl
abbrev k3 : Sk := [(1,.v),(5,.v),(6,.i .i64),(9,.i .i64),(30,.v),(31,.i .i64),(32,.i .i64),(37,.g [.i,.i]),(38,.i .i64)]
noncomputable def o6 := ob Try.f42 [.r,.r,.r,.l,.r,.l,.l,.r,.r,.l,.l,.r,.r,.l,.l,.r,.r,.l,.l,.r,.r]
def B6 (P : PT) (N2 : NTy k1 Pr) (N4 : NTy k2 Pr) (x1 x5 : Value) (x6 x9 : Int) (x30 : Value) (x31 x32 x37a x37b x38 : Int) (H : AHeap) : Prop :=
  idxK x5 x9 1 (fun b1 o2 => ldI .u64 H b1 o2 (fun v3 => idxK x1 x6 1 (fun b4 o5 => ldI .i64 H b4 o5 (fun v6 => ((0 : Int) ≤ v6) ∧ (idxK x5 x9 1 (fun b7 o8 => stK H b7 o8 [(Value.int .u64 (IntKind.u64.wrap (BitVec.ofInt 64 v3 ||| BitVec.ofInt 64 (IntKind.u64.wrap (1 * 2 ^ (min (Int.toNat v6) 64)))).toNat))] (fun H9 => B5 P N2 N4 x1 x5 x6 x30 x31 x32 x37a x37b x38 H9)))))))
theorem q6 (P : PT) (N2 : NTy k1 Pr) (N4 : NTy k2 Pr) : QD Try.prog T0 63 o6 [(0, false), (1, false), (2, false), (3, false), (4, false), (5, false), (6, false), (7, false), (8, false), (9, false), (10, false), (11, false)] (En 63 k2 (B5 P N2 N4)) k3 (B6 P N2 N4) := fun _ _ _ _ _ _ _ _ _ _ _ _  => by kernel_rfl
noncomputable def o7 := ob Try.f42 [.r,.r,.r,.l,.r,.l,.l,.r,.r,.l,.l,.r,.r,.l,.l,.r,.r,.l,.l,.r,.l,.r,.l,.l]
def B7 (P : PT) (N2 : NTy k1 Pr) (N4 : NTy k2 Pr) (H : AHeap) : Prop :=
  P (Value.bool false) H
theorem q7 (P : PT) (N2 : NTy k1 Pr) (N4 : NTy k2 Pr) : QB Try.prog T0 63 o7 (ret P) k0 (B7 P N2 N4) := fun _ _  => by kernel_rfl
noncomputable def o8 := ob Try.f42 [.r,.r,.r,.l,.r,.l,.l,.r,.r,.l,.l,.r,.r,.l,.l,.r,.r,.l,.l,.r,.l,.l]
def B8 (P : PT) (N2 : NTy k1 Pr) (N4 : NTy k2 Pr) (x1 x5 : Value) (x6 x9 : Int) (x30 : Value) (x31 x32 x37a x37b x38 : Int) (H : AHeap) : Prop :=
  idxK x5 x9 1 (fun b1 o2 => ldI .u64 H b1 o2 (fun v3 => idxK x1 x6 1 (fun b4 o5 => ldI .i64 H b4 o5 (fun v6 => AC Try.prog T0 79 [(Value.int .u64 v3), (Value.int .i64 v6)] H (fun v7 H8 => asB v7 (fun v9 => pif v9 (B7 P N2 N4 H8) (B6 P N2 N4 x1 x5 x6 x9 x30 x31 x32 x37a x37b x38 H8)))))))
theorem q8 (P : PT) (N2 : NTy k1 Pr) (N4 : NTy k2 Pr) : QD Try.prog T0 63 o8 [(0, false), (1, false), (2, false), (3, false), (4, false), (5, false), (6, false), (7, false), (8, false)] (cnd 49 (En 63 k0 (B7 P N2 N4)) (En 63 k3 (B6 P N2 N4))) k3 (B8 P N2 N4) := fun _ _ _ _ _ _ _ _ _ _ _ _  => by kernel_rfl
noncomputable def o9 := ob Try.f42 [.r,.r,.r,.l,.r,.l,.l,.r,.r,.l,.l,.r,.r,.l,.l,.r,.r,.l,.l,.l]
def B9 (P : PT) (N2 : NTy k1 Pr) (N4 : NTy k2 Pr) (x1 x5 : Value) (x6 : Int) (x30 : Value) (x31 x32 x37a x37b x38 : Int) (H : AHeap) : Prop :=
  bndK x38 2 (atK [(Value.int .i64 x37a), (Value.int .i64 x37b)] (Int.toNat x38 * 1) (fun v1 => asI .i64 v1 (fun v2 => B8 P N2 N4 x1 x5 x6 v2 x30 x31 x32 x37a x37b x38 H)))
theorem q9 (P : PT) (N2 : NTy k1 Pr) (N4 : NTy k2 Pr) : QB Try.prog T0 63 o9 (En 63 k3 (B8 P N2 N4)) k2 (B9 P N2 N4) := fun _ _ _ _ _ _ _ _ _ _ _  => by kernel_rfl
noncomputable def o10 := ob Try.f42 [.r,.r,.r,.l,.r,.l,.l,.r,.r,.l,.l,.r,.r,.l,.l,.l]
def B10 (P : PT) (N2 : NTy k1 Pr) (N4 : NTy k2 Pr) (x1 x5 : Value) (x6 : Int) (x30 : Value) (x31 x32 x37a x37b x38 : Int) (H : AHeap) : Prop :=
  pif (decide ((x38 : Int) < 2)) (B9 P N2 N4 x1 x5 x6 x30 x31 x32 x37a x37b x38 H) (B3 P N2 x1 x5 x30 x31 x32 H)
theorem q10 (P : PT) (N2 : NTy k1 Pr) (N4 : NTy k2 Pr) : QB Try.prog T0 63 o10 (cnd 39 (En 63 k2 (B9 P N2 N4)) (En 63 k1 (B3 P N2))) k2 (B10 P N2 N4) := fun _ _ _ _ _ _ _ _ _ _ _  => by kernel_rfl
def L4 (P : PT) (N2 : NTy k1 Pr) (x1 x5 : Value) (x6 : Int) (x30 : Value) (x31 x32 x37a x37b x38 : Int) (H : AHeap) : Prop :=
  ∃ (I : NTy k2 Pr) (μ : NTy k2 (AHeap → Nat)), I x1 x5 x6 x30 x31 x32 x37a x37b x38 H ∧ ∀ y1 y5 y6 y30 y31 y32 y37a y37b y38 G, I y1 y5 y6 y30 y31 y32 y37a y37b y38 G → B10 P N2 (fun z1 z5 z6 z30 z31 z32 z37a z37b z38 G' => I z1 z5 z6 z30 z31 z32 z37a z37b z38 G' ∧ μ z1 z5 z6 z30 z31 z32 z37a z37b z38 G' < μ y1 y5 y6 y30 y31 y32 y37a y37b y38 G) y1 y5 y6 y30 y31 y32 y37a y37b y38 G
theorem l4 (P : PT) (N2 : NTy k1 Pr) : LQ k2 (L4 P N2) (B10 P N2) := fun ⟨_,_,_,_,_,_,_,_,_,_⟩ _ ⟨I, μ, h0, hI⟩ => ⟨apT _ I, apT _ μ, h0, fun ⟨_,_,_,_,_,_,_,_,_,_⟩ _ h => hI _ _ _ _ _ _ _ _ _ _  h⟩
abbrev k4 : Sk := [(1,.v),(5,.v),(6,.i .i64),(7,.x),(30,.v),(31,.i .i64),(32,.i .i64)]
noncomputable def o11 := ob Try.f42 [.r,.r,.r,.l,.r,.l,.l,.r,.r,.l,.l,.r,.l]
def B11 (P : PT) (N2 : NTy k1 Pr) (x1 x5 : Value) (x6 : Int) (x7 : Nat) (x30 : Value) (x31 x32 : Int) (H : AHeap) : Prop :=
  ldI .i64 H x7 0 (fun v1 => ldI .i64 H x7 1 (fun v2 => L4 P N2 x1 x5 x6 x30 x31 x32 v1 v2 0 H))
theorem q11 (P : PT) (N2 : NTy k1 Pr) : QB Try.prog T0 63 o11 (En 63 k2 (L4 P N2)) k4 (B11 P N2) := fun _ _ _ _ _ _ _ _ _  => by kernel_rfl
noncomputable def o12 := ob Try.f42 [.r,.r,.r,.l,.r,.l,.l,.r,.r,.l,.l,.l]
def B12 (P : PT) (N2 : NTy k1 Pr) (x1 x5 x30 : Value) (x31 x32 : Int) (H : AHeap) : Prop :=
  idxK x30 x32 2 (fun b1 o2 => ldI .i64 H b1 o2 (fun v3 => ldI .i64 H b1 (o2 + 1) (fun v4 => newK H [(Value.int .i64 0), (Value.int .i64 0)] 67 (fun b5 H6 => stK H6 b5 0 [(Value.int .i64 v3), (Value.int .i64 v4)] (fun H7 => B11 P N2 x1 x5 x32 b5 x30 x31 x32 H7)))))
theorem q12 (P : PT) (N2 : NTy k1 Pr) : QB Try.prog T0 63 o12 (En 63 k4 (B11 P N2)) k1 (B12 P N2) := fun _ _ _ _ _ _ _  => by kernel_rfl
noncomputable def o13 := ob Try.f42 [.r,.r,.r,.l,.r,.l,.l,.l]
def B13 (P : PT) (N2 : NTy k1 Pr) (x1 x5 x30 : Value) (x31 x32 : Int) (H : AHeap) : Prop :=
  pif (decide ((x32 : Int) < x31)) (B12 P N2 x1 x5 x30 x31 x32 H) (B1 P H)
theorem q13 (P : PT) (N2 : NTy k1 Pr) : QB Try.prog T0 63 o13 (cnd 33 (En 63 k1 (B12 P N2)) (En 63 k0 (B1 P))) k1 (B13 P N2) := fun _ _ _ _ _ _ _  => by kernel_rfl
def L2 (P : PT) (x1 x5 x30 : Value) (x31 x32 : Int) (H : AHeap) : Prop :=
  ∃ (I : NTy k1 Pr) (μ : NTy k1 (AHeap → Nat)), I x1 x5 x30 x31 x32 H ∧ ∀ y1 y5 y30 y31 y32 G, I y1 y5 y30 y31 y32 G → B13 P (fun z1 z5 z30 z31 z32 G' => I z1 z5 z30 z31 z32 G' ∧ μ z1 z5 z30 z31 z32 G' < μ y1 y5 y30 y31 y32 G) y1 y5 y30 y31 y32 G
theorem l2 (P : PT) : LQ k1 (L2 P) (B13 P) := fun ⟨_,_,_,_,_,_⟩ _ ⟨I, μ, h0, hI⟩ => ⟨apT _ I, apT _ μ, h0, fun ⟨_,_,_,_,_,_⟩ _ h => hI _ _ _ _ _ _  h⟩
abbrev k5 : Sk := [(1,.v),(2,.x),(5,.v)]
noncomputable def o14 := ob Try.f42 [.r,.r,.r,.l,.l]
def B14 (P : PT) (x1 : Value) (x2 : Nat) (x5 : Value) (H : AHeap) : Prop :=
  ld1 H x2 1 (fun v1 => lenK v1 (fun n2 => L2 P x1 x5 v1 (n2 : Int) 0 H))
theorem q14 (P : PT) : QB Try.prog T0 63 o14 (En 63 k1 (L2 P)) k5 (B14 P) := fun _ _ _ _ _  => by kernel_rfl
abbrev k6 : Sk := [(1,.v),(2,.x)]
noncomputable def o15 := ob Try.f42 [.r,.r,.l]
def B15 (P : PT) (x1 : Value) (x2 : Nat) (H : AHeap) : Prop :=
  ldI .i64 H x2 0 (fun v1 => mkR H 8 82 [(Value.int .u64 0)] v1 v1 (fun v3 H2 => B14 P x1 x2 v3 H2))
theorem q15 (P : PT) : QB Try.prog T0 63 o15 (En 63 k5 (B14 P)) k6 (B15 P) := fun _ _ _ _  => by kernel_rfl
noncomputable def o16 := ob Try.f42 [.r,.l,.r,.l,.l]
def B16 (P : PT) (H : AHeap) : Prop :=
  P (Value.bool false) H
theorem q16 (P : PT) : QB Try.prog T0 63 o16 (ret P) k0 (B16 P) := fun _ _  => by kernel_rfl
noncomputable def o17 := ob Try.f42 [.r,.l,.l]
def B17 (P : PT) (x1 : Value) (x2 : Nat) (H : AHeap) : Prop :=
  ldI .i64 H x2 0 (fun v1 => ld1 H x2 1 (fun v2 => AC Try.prog T0 77 [(Value.agg ⟨[(Value.int .i64 v1), v2]⟩)] H (fun v3 H4 => asB v3 (fun v5 => pif (!v5) (B16 P H4) (lenK x1 (fun n6 => ld1 H4 x2 1 (fun v7 => lenK v7 (fun n8 => pif (((n6 : Int) : Int) != (n8 : Int)) (B16 P H4) (AC Try.prog T0 55 [x1, (Value.func (.func 78) ⟨[]⟩ ⟨[]⟩)] H4 (fun v9 H10 => asB v9 (fun v11 => pif (!v11) (B16 P H10) (B15 P x1 x2 H10))))))))))))
theorem q17 (P : PT) : QB Try.prog T0 63 o17 (cnd 25 (En 63 k0 (B16 P)) (En 63 k6 (B15 P))) k6 (B17 P) := fun _ _ _ _  => by kernel_rfl
abbrev k7 : Sk := [(0,.g [.i,.v]),(1,.v)]
noncomputable def o18 := ob Try.f42 [.l]
def B18 (P : PT) (x0a : Int) (x0b x1 : Value) (H : AHeap) : Prop :=
  newK H [(Value.int .i64 x0a), x0b] 31 (fun b1 H2 => B17 P x1 b1 H2)
theorem q18 (P : PT) : QB Try.prog T0 63 o18 (En 63 k6 (B17 P)) k7 (B18 P) := fun _ _ _ _ _  => by kernel_rfl
noncomputable def code : Code := (.seq (.region 0 ⟨o18⟩ false) (.seq (.seq (.region 1 ⟨o17⟩ false) (.cond (.tmp 25) (.seq (.region 2 ⟨o16⟩ false) .ret) .skip)) (.seq (.region 3 ⟨o15⟩ false) (.seq (.seq (.region 4 ⟨o14⟩ false) (.block 0 (.loop (.seq (.region 5 ⟨o13⟩ false) (.seq (.cond (.tmp 33) .skip (.exit 0)) (.seq (.block 1 (.seq (.region 6 ⟨o12⟩ false) (.seq (.region 7 ⟨o11⟩ false) (.block 2 (.loop (.seq (.region 8 ⟨o10⟩ false) (.seq (.cond (.tmp 39) .skip (.exit 2)) (.seq (.block 3 (.seq (.region 9 ⟨o9⟩ false) (.seq (.seq (.region 10 ⟨o8⟩ true) (.cond (.tmp 49) (.seq (.region 11 ⟨o7⟩ false) .ret) .skip)) (.region 12 ⟨o6⟩ true)))) (.region 13 ⟨o5⟩ false))))))))) (.region 14 ⟨o3⟩ false))))))) (.seq (.region 15 ⟨o1⟩ false) .ret)))))
theorem body : Try.f42.body = some code := by kernel_rfl
theorem main (P : PT) : ∀ env H, (En 63 k7 (B18 P)) env H → AW Try.prog T0 code env H (mkQ (ret P) (fun _ _ _ => False) (ret P)) :=
  (r_seq (rB T0_ok (q18 P)) (r_seq (r_seq (rB T0_ok (q17 P)) (r_cond rfl (r_seq (rB T0_ok (q16 P)) r_ret) r_skip)) (r_seq (rB T0_ok (q15 P)) (r_seq (r_seq (rB T0_ok (q14 P)) (r_block (rL (l2 P) (fun N2 => (r_seq (rB T0_ok (q13 P N2)) (r_seq (r_cond rfl r_skip (r_exit (fun _ _ h => h))) (r_seq (r_block (r_seq (rB T0_ok (q12 P N2)) (r_seq (rB T0_ok (q11 P N2)) (r_block (rL (l4 P N2) (fun N4 => (r_seq (rB T0_ok (q10 P N2 N4)) (r_seq (r_cond rfl r_skip (r_exit (fun _ _ h => h))) (r_seq (r_block (r_seq (rB T0_ok (q9 P N2 N4)) (r_seq (r_seq (rD T0_ok mixed [(0, false), (1, false), (2, false), (3, false), (4, false), (5, false), (6, false), (7, false), (8, false)] (by kernel_rfl) (q8 P N2 N4)) (r_cond rfl (r_seq (rB T0_ok (q7 P N2 N4)) r_ret) r_skip)) (rD T0_ok mixed [(0, false), (1, false), (2, false), (3, false), (4, false), (5, false), (6, false), (7, false), (8, false), (9, false), (10, false), (11, false)] (by kernel_rfl) (q6 P N2 N4))))) (rB T0_ok (q5 P N2 N4))))))))))) (rB T0_ok (q3 P N2))))))))) (r_seq (rB T0_ok (q1 P)) r_ret)))))
theorem ac (P : PT) (x0a : Int) (x0b x1 : Value) (H : AHeap) (h : B18 P x0a x0b x1 H) : AC Try.prog T0 42 [(Value.agg ⟨[(Value.int .i64 x0a), x0b]⟩), x1] H P :=
  r_fn T0_ok (c := code) (n := 63) Try.func42 body (by kernel_rfl) (main P) (En_mk (x0a, x0b, x1, ()) (by kernel_rfl) ⟨by kernel_rfl, by kernel_rfl, trivial⟩ h)

end F42
-- loop.example/g01329/impl.key
namespace F43
noncomputable def ret (P : PT) : EP := retE T0 20 Try.f43 P
abbrev k0 : Sk := [(3,.v)]
noncomputable def o1 := ob Try.f43 [.r,.r,.r,.l]
def B1 (P : PT) (x3 : Value) (H : AHeap) : Prop :=
  bytK H x3 (fun s1 => P (Value.string s1) H)
theorem q1 (P : PT) : QB Try.prog T0 20 o1 (ret P) k0 (B1 P) := fun _ _ _  => by kernel_rfl
abbrev k1 : Sk := [(3,.v),(6,.v),(7,.i .i64),(8,.i .i64)]
noncomputable def o3 := ob Try.f43 [.r,.r,.l,.r,.l,.l,.r,.r,.r]
def B3 (P : PT) (N2 : NTy k1 Pr) (x3 x6 : Value) (x7 x8 : Int) (H : AHeap) : Prop :=
  N2 x3 x6 x7 (IntKind.i64.wrap (x8 + 1)) H
theorem q3 (P : PT) (N2 : NTy k1 Pr) : QB Try.prog T0 20 o3 (En 20 k1 N2) k1 (B3 P N2) := fun _ _ _ _ _ _  => by kernel_rfl
abbrev k2 : Sk := [(3,.v),(5,.i .i64),(6,.v),(7,.i .i64),(8,.i .i64)]
noncomputable def o4 := ob Try.f43 [.r,.r,.l,.r,.l,.l,.r,.r,.l,.l,.r]
def B4 (P : PT) (N2 : NTy k1 Pr) (x3 : Value) (x5 : Int) (x6 : Value) (x7 x8 : Int) (H : AHeap) : Prop :=
  newK H [(Value.int .u8 (IntKind.u8.wrap x5))] 5 (fun b1 H2 => apK T0 5 H2 x3 (Value.slice (some ⟨b1, 0, none⟩) 1 (1 + 1)) (fun v3 H4 => B3 P N2 v3 x6 x7 x8 H4))
theorem q4 (P : PT) (N2 : NTy k1 Pr) : QB Try.prog T0 20 o4 (En 20 k1 (B3 P N2)) k2 (B4 P N2) := fun _ _ _ _ _ _ _  => by kernel_rfl
noncomputable def o5 := ob Try.f43 [.r,.r,.l,.r,.l,.l,.r,.r,.l,.l,.l]
def B5 (P : PT) (N2 : NTy k1 Pr) (x3 x6 : Value) (x7 x8 : Int) (H : AHeap) : Prop :=
  idxK x6 x8 1 (fun b1 o2 => ldI .i64 H b1 o2 (fun v3 => B4 P N2 x3 v3 x6 x7 x8 H))
theorem q5 (P : PT) (N2 : NTy k1 Pr) : QB Try.prog T0 20 o5 (En 20 k2 (B4 P N2)) k1 (B5 P N2) := fun _ _ _ _ _ _  => by kernel_rfl
noncomputable def o6 := ob Try.f43 [.r,.r,.l,.r,.l,.l,.l]
def B6 (P : PT) (N2 : NTy k1 Pr) (x3 x6 : Value) (x7 x8 : Int) (H : AHeap) : Prop :=
  pif (decide ((x8 : Int) < x7)) (B5 P N2 x3 x6 x7 x8 H) (B1 P x3 H)
theorem q6 (P : PT) (N2 : NTy k1 Pr) : QB Try.prog T0 20 o6 (cnd 9 (En 20 k1 (B5 P N2)) (En 20 k0 (B1 P))) k1 (B6 P N2) := fun _ _ _ _ _ _  => by kernel_rfl
def L2 (P : PT) (x3 x6 : Value) (x7 x8 : Int) (H : AHeap) : Prop :=
  ∃ (I : NTy k1 Pr) (μ : NTy k1 (AHeap → Nat)), I x3 x6 x7 x8 H ∧ ∀ y3 y6 y7 y8 G, I y3 y6 y7 y8 G → B6 P (fun z3 z6 z7 z8 G' => I z3 z6 z7 z8 G' ∧ μ z3 z6 z7 z8 G' < μ y3 y6 y7 y8 G) y3 y6 y7 y8 G
theorem l2 (P : PT) : LQ k1 (L2 P) (B6 P) := fun ⟨_,_,_,_,_⟩ _ ⟨I, μ, h0, hI⟩ => ⟨apT _ I, apT _ μ, h0, fun ⟨_,_,_,_,_⟩ _ h => hI _ _ _ _ _  h⟩
abbrev k3 : Sk := [(0,.v),(3,.v)]
noncomputable def o7 := ob Try.f43 [.r,.r,.l,.l]
def B7 (P : PT) (x0 x3 : Value) (H : AHeap) : Prop :=
  lenK x0 (fun n1 => L2 P x3 x0 (n1 : Int) 0 H)
theorem q7 (P : PT) : QB Try.prog T0 20 o7 (En 20 k1 (L2 P)) k3 (B7 P) := fun _ _ _ _  => by kernel_rfl
abbrev k4 : Sk := [(0,.v)]
noncomputable def o8 := ob Try.f43 [.r,.l]
def B8 (P : PT) (x0 : Value) (H : AHeap) : Prop :=
  B7 P x0 (Value.slice none 0 0) H
theorem q8 (P : PT) : QB Try.prog T0 20 o8 (En 20 k3 (B7 P)) k4 (B8 P) := fun _ _ _  => by kernel_rfl
noncomputable def o9 := ob Try.f43 [.l]
def B9 (P : PT) (x0 : Value) (H : AHeap) : Prop :=
  B8 P x0 H
theorem q9 (P : PT) : QB Try.prog T0 20 o9 (En 20 k4 (B8 P)) k4 (B9 P) := fun _ _ _  => by kernel_rfl
noncomputable def code : Code := (.seq (.region 0 ⟨o9⟩ false) (.seq (.region 1 ⟨o8⟩ false) (.seq (.seq (.region 2 ⟨o7⟩ false) (.block 0 (.loop (.seq (.region 3 ⟨o6⟩ false) (.seq (.cond (.tmp 9) .skip (.exit 0)) (.seq (.block 1 (.seq (.region 4 ⟨o5⟩ false) (.region 5 ⟨o4⟩ false))) (.region 6 ⟨o3⟩ false))))))) (.seq (.region 7 ⟨o1⟩ false) .ret))))
theorem body : Try.f43.body = some code := by kernel_rfl
theorem main (P : PT) : ∀ env H, (En 20 k4 (B9 P)) env H → AW Try.prog T0 code env H (mkQ (ret P) (fun _ _ _ => False) (ret P)) :=
  (r_seq (rB T0_ok (q9 P)) (r_seq (rB T0_ok (q8 P)) (r_seq (r_seq (rB T0_ok (q7 P)) (r_block (rL (l2 P) (fun N2 => (r_seq (rB T0_ok (q6 P N2)) (r_seq (r_cond rfl r_skip (r_exit (fun _ _ h => h))) (r_seq (r_block (r_seq (rB T0_ok (q5 P N2)) (rB T0_ok (q4 P N2)))) (rB T0_ok (q3 P N2))))))))) (r_seq (rB T0_ok (q1 P)) r_ret))))
theorem ac (P : PT) (x0 : Value) (H : AHeap) (h : B9 P x0 H) : AC Try.prog T0 43 [x0] H P :=
  r_fn T0_ok (c := code) (n := 20) Try.func43 body (by kernel_rfl) (main P) (En_mk (x0, ()) (by kernel_rfl) ⟨by kernel_rfl, trivial⟩ h)

end F43
-- loop.example/g01329/impl.length[loop.example/g01329/impl.Edge]
namespace F44
noncomputable def ret (P : PT) : EP := retE T0 5 Try.f44 P
abbrev k0 : Sk := [(0,.v)]
noncomputable def o1 := ob Try.f44 [.r,.l]
def B1 (P : PT) (x0 : Value) (H : AHeap) : Prop :=
  lenK x0 (fun n1 => P (Value.int .i64 (n1 : Int)) H)
theorem q1 (P : PT) : QB Try.prog T0 5 o1 (ret P) k0 (B1 P) := fun _ _ _  => by kernel_rfl
noncomputable def o2 := ob Try.f44 [.l]
def B2 (P : PT) (x0 : Value) (H : AHeap) : Prop :=
  B1 P x0 H
theorem q2 (P : PT) : QB Try.prog T0 5 o2 (En 5 k0 (B1 P)) k0 (B2 P) := fun _ _ _  => by kernel_rfl
noncomputable def code : Code := (.seq (.region 0 ⟨o2⟩ false) (.seq (.region 1 ⟨o1⟩ false) .ret))
theorem body : Try.f44.body = some code := by kernel_rfl
theorem main (P : PT) : ∀ env H, (En 5 k0 (B2 P)) env H → AW Try.prog T0 code env H (mkQ (ret P) (fun _ _ _ => False) (ret P)) :=
  (r_seq (rB T0_ok (q2 P)) (r_seq (rB T0_ok (q1 P)) r_ret))
theorem ac (P : PT) (x0 : Value) (H : AHeap) (h : B2 P x0 H) : AC Try.prog T0 44 [x0] H P :=
  r_fn T0_ok (c := code) (n := 5) Try.func44 body (by kernel_rfl) (main P) (En_mk (x0, ()) (by kernel_rfl) ⟨by kernel_rfl, trivial⟩ h)

end F44
-- (loop.example/g01329/impl.Graph).exchanged
namespace F45
noncomputable def ret (P : PT) : EP := retE T0 41 Try.f45 P
abbrev k0 : Sk := [(9,.v)]
noncomputable def o1 := ob Try.f45 [.r,.r,.r,.l]
def B1 (P : PT) (x9 : Value) (H : AHeap) : Prop :=
  P x9 H
theorem q1 (P : PT) : QB Try.prog T0 41 o1 (ret P) k0 (B1 P) := fun _ _ _  => by kernel_rfl
abbrev k1 : Sk := [(1,.v),(2,.i .i64),(3,.i .i64),(9,.v),(19,.v),(20,.i .i64),(21,.i .i64)]
noncomputable def o3 := ob Try.f45 [.r,.r,.l,.r,.l,.l,.r,.r,.r]
def B3 (P : PT) (N2 : NTy k1 Pr) (x1 : Value) (x2 x3 : Int) (x9 x19 : Value) (x20 x21 : Int) (H : AHeap) : Prop :=
  N2 x1 x2 x3 x9 x19 x20 (IntKind.i64.wrap (x21 + 1)) H
theorem q3 (P : PT) (N2 : NTy k1 Pr) : QB Try.prog T0 41 o3 (En 41 k1 N2) k1 (B3 P N2) := fun _ _ _ _ _ _ _ _ _  => by kernel_rfl
abbrev k2 : Sk := [(1,.v),(2,.i .i64),(3,.i .i64),(9,.v),(11,.i .i64),(19,.v),(20,.i .i64),(21,.i .i64)]
noncomputable def o4 := ob Try.f45 [.r,.r,.l,.r,.l,.l,.r,.r,.l,.l,.r]
def B4 (P : PT) (N2 : NTy k1 Pr) (x1 : Value) (x2 x3 : Int) (x9 : Value) (x11 : Int) (x19 : Value) (x20 x21 : Int) (H : AHeap) : Prop :=
  idxK x1 x2 1 (fun b1 o2 => ldI .i64 H b1 o2 (fun v3 => idxK x1 x11 1 (fun b4 o5 => ldI .i64 H b4 o5 (fun v6 => idxK x9 x11 1 (fun b7 o8 => stK H b7 o8 [(Value.int .i64 (IntKind.i64.wrap ((IntKind.i64.wrap (v3 + x3)) - v6)))] (fun H9 => B3 P N2 x1 x2 x3 x9 x19 x20 x21 H9))))))
theorem q4 (P : PT) (N2 : NTy k1 Pr) : QD Try.prog T0 41 o4 [(0, false), (1, false), (2, false), (3, false), (4, false), (5, false), (6, false), (7, false), (8, false), (9, false), (10, false), (11, false), (12, false), (13, false), (14, false)] (En 41 k1 (B3 P N2)) k2 (B4 P N2) := fun _ _ _ _ _ _ _ _ _ _  => by kernel_rfl
noncomputable def o5 := ob Try.f45 [.r,.r,.l,.r,.l,.l,.r,.r,.l,.l,.l]
def B5 (P : PT) (N2 : NTy k1 Pr) (x1 : Value) (x2 x3 : Int) (x9 x19 : Value) (x20 x21 : Int) (H : AHeap) : Prop :=
  idxK x19 x21 1 (fun b1 o2 => ldI .i64 H b1 o2 (fun v3 => B4 P N2 x1 x2 x3 x9 v3 x19 x20 x21 H))
theorem q5 (P : PT) (N2 : NTy k1 Pr) : QB Try.prog T0 41 o5 (En 41 k2 (B4 P N2)) k1 (B5 P N2) := fun _ _ _ _ _ _ _ _ _  => by kernel_rfl
noncomputable def o6 := ob Try.f45 [.r,.r,.l,.r,.l,.l,.l]
def B6 (P : PT) (N2 : NTy k1 Pr) (x1 : Value) (x2 x3 : Int) (x9 x19 : Value) (x20 x21 : Int) (H : AHeap) : Prop :=
  pif (decide ((x21 : Int) < x20)) (B5 P N2 x1 x2 x3 x9 x19 x20 x21 H) (B1 P x9 H)
theorem q6 (P : PT) (N2 : NTy k1 Pr) : QB Try.prog T0 41 o6 (cnd 22 (En 41 k1 (B5 P N2)) (En 41 k0 (B1 P))) k1 (B6 P N2) := fun _ _ _ _ _ _ _ _ _  => by kernel_rfl
def L2 (P : PT) (x1 : Value) (x2 x3 : Int) (x9 x19 : Value) (x20 x21 : Int) (H : AHeap) : Prop :=
  ∃ (I : NTy k1 Pr) (μ : NTy k1 (AHeap → Nat)), I x1 x2 x3 x9 x19 x20 x21 H ∧ ∀ y1 y2 y3 y9 y19 y20 y21 G, I y1 y2 y3 y9 y19 y20 y21 G → B6 P (fun z1 z2 z3 z9 z19 z20 z21 G' => I z1 z2 z3 z9 z19 z20 z21 G' ∧ μ z1 z2 z3 z9 z19 z20 z21 G' < μ y1 y2 y3 y9 y19 y20 y21 G) y1 y2 y3 y9 y19 y20 y21 G
theorem l2 (P : PT) : LQ k1 (L2 P) (B6 P) := fun ⟨_,_,_,_,_,_,_,_⟩ _ ⟨I, μ, h0, hI⟩ => ⟨apT _ I, apT _ μ, h0, fun ⟨_,_,_,_,_,_,_,_⟩ _ h => hI _ _ _ _ _ _ _ _  h⟩
abbrev k3 : Sk := [(1,.v),(2,.i .i64),(3,.i .i64),(4,.x),(9,.v)]
noncomputable def o7 := ob Try.f45 [.r,.r,.l,.l]
def B7 (P : PT) (x1 : Value) (x2 x3 : Int) (x4 : Nat) (x9 : Value) (H : AHeap) : Prop :=
  ldI .i64 H x4 0 (fun v1 => ld1 H x4 1 (fun v2 => AC Try.prog T0 81 [(Value.agg ⟨[(Value.int .i64 v1), v2]⟩), x1, (Value.int .i64 x2), (Value.int .i64 x3)] H (fun v3 H4 => asI .u64 v3 (fun v5 => AC Try.prog T0 82 [(Value.int .u64 v5)] H4 (fun v6 H7 => lenK v6 (fun n9 => L2 P x1 x2 x3 x9 v6 (n9 : Int) 0 H7))))))
theorem q7 (P : PT) : QB Try.prog T0 41 o7 (En 41 k1 (L2 P)) k3 (B7 P) := fun _ _ _ _ _ _ _  => by kernel_rfl
abbrev k4 : Sk := [(1,.v),(2,.i .i64),(3,.i .i64),(4,.x)]
noncomputable def o8 := ob Try.f45 [.r,.l]
def B8 (P : PT) (x1 : Value) (x2 x3 : Int) (x4 : Nat) (H : AHeap) : Prop :=
  AC Try.prog T0 80 [x1] H (fun v1 H2 => B7 P x1 x2 x3 x4 v1 H2)
theorem q8 (P : PT) : QB Try.prog T0 41 o8 (En 41 k3 (B7 P)) k4 (B8 P) := fun _ _ _ _ _ _  => by kernel_rfl
abbrev k5 : Sk := [(0,.g [.i,.v]),(1,.v),(2,.i .i64),(3,.i .i64)]
noncomputable def o9 := ob Try.f45 [.l]
def B9 (P : PT) (x0a : Int) (x0b x1 : Value) (x2 x3 : Int) (H : AHeap) : Prop :=
  newK H [(Value.int .i64 x0a), x0b] 31 (fun b1 H2 => B8 P x1 x2 x3 b1 H2)
theorem q9 (P : PT) : QB Try.prog T0 41 o9 (En 41 k4 (B8 P)) k5 (B9 P) := fun _ _ _ _ _ _ _  => by kernel_rfl
noncomputable def code : Code := (.seq (.region 0 ⟨o9⟩ false) (.seq (.region 1 ⟨o8⟩ false) (.seq (.seq (.region 2 ⟨o7⟩ false) (.block 0 (.loop (.seq (.region 3 ⟨o6⟩ false) (.seq (.cond (.tmp 22) .skip (.exit 0)) (.seq (.block 1 (.seq (.region 4 ⟨o5⟩ false) (.region 5 ⟨o4⟩ true))) (.region 6 ⟨o3⟩ false))))))) (.seq (.region 7 ⟨o1⟩ false) .ret))))
theorem body : Try.f45.body = some code := by kernel_rfl
theorem main (P : PT) : ∀ env H, (En 41 k5 (B9 P)) env H → AW Try.prog T0 code env H (mkQ (ret P) (fun _ _ _ => False) (ret P)) :=
  (r_seq (rB T0_ok (q9 P)) (r_seq (rB T0_ok (q8 P)) (r_seq (r_seq (rB T0_ok (q7 P)) (r_block (rL (l2 P) (fun N2 => (r_seq (rB T0_ok (q6 P N2)) (r_seq (r_cond rfl r_skip (r_exit (fun _ _ h => h))) (r_seq (r_block (r_seq (rB T0_ok (q5 P N2)) (rD T0_ok mixed [(0, false), (1, false), (2, false), (3, false), (4, false), (5, false), (6, false), (7, false), (8, false), (9, false), (10, false), (11, false), (12, false), (13, false), (14, false)] (by kernel_rfl) (q4 P N2)))) (rB T0_ok (q3 P N2))))))))) (r_seq (rB T0_ok (q1 P)) r_ret))))
theorem ac (P : PT) (x0a : Int) (x0b x1 : Value) (x2 x3 : Int) (H : AHeap) (h : B9 P x0a x0b x1 x2 x3 H) : AC Try.prog T0 45 [(Value.agg ⟨[(Value.int .i64 x0a), x0b]⟩), x1, (Value.int .i64 x2), (Value.int .i64 x3)] H P :=
  r_fn T0_ok (c := code) (n := 41) Try.func45 body (by kernel_rfl) (main P) (En_mk (x0a, x0b, x1, x2, x3, ()) (by kernel_rfl) ⟨by kernel_rfl, by kernel_rfl, by kernel_rfl, by kernel_rfl, trivial⟩ h)

end F45
-- loop.example/g01329/laws.eqEdgeS
namespace F46
noncomputable def ret (P : PT) : EP := retE T0 27 Try.f46 P
abbrev k0 : Sk := []
noncomputable def o1 := ob Try.f46 [.r,.r,.r,.l]
def B1 (P : PT) (H : AHeap) : Prop :=
  P (Value.bool true) H
theorem q1 (P : PT) : QB Try.prog T0 27 o1 (ret P) k0 (B1 P) := fun _ _  => by kernel_rfl
abbrev k1 : Sk := [(0,.v),(1,.v),(5,.i .i64)]
noncomputable def o3 := ob Try.f46 [.r,.r,.l,.r,.l,.l,.r,.r]
def B3 (P : PT) (N2 : NTy k1 Pr) (x0 x1 : Value) (x5 : Int) (H : AHeap) : Prop :=
  N2 x0 x1 (IntKind.i64.wrap (x5 + 1)) H
theorem q3 (P : PT) (N2 : NTy k1 Pr) : QB Try.prog T0 27 o3 (En 27 k1 N2) k1 (B3 P N2) := fun _ _ _ _ _  => by kernel_rfl
noncomputable def o4 := ob Try.f46 [.r,.r,.l,.r,.l,.l,.r,.l,.l,.r,.l,.l]
def B4 (P : PT) (N2 : NTy k1 Pr) (H : AHeap) : Prop :=
  P (Value.bool false) H
theorem q4 (P : PT) (N2 : NTy k1 Pr) : QB Try.prog T0 27 o4 (ret P) k0 (B4 P N2) := fun _ _  => by kernel_rfl
noncomputable def o5 := ob Try.f46 [.r,.r,.l,.r,.l,.l,.r,.l,.l,.l]
def B5 (P : PT) (N2 : NTy k1 Pr) (x0 x1 : Value) (x5 : Int) (H : AHeap) : Prop :=
  idxK x0 x5 2 (fun b1 o2 => ldI .i64 H b1 o2 (fun v3 => ldI .i64 H b1 (o2 + 1) (fun v4 => idxK x1 x5 2 (fun b5 o6 => ldI .i64 H b5 o6 (fun v7 => ldI .i64 H b5 (o6 + 1) (fun v8 => AC Try.prog T0 83 [(Value.agg ⟨[(Value.int .i64 v3), (Value.int .i64 v4)]⟩), (Value.agg ⟨[(Value.int .i64 v7), (Value.int .i64 v8)]⟩)] H (fun v9 H10 => asB v9 (fun v11 => pif (!v11) (B4 P N2 H10) (B3 P N2 x0 x1 x5 H10)))))))))
theorem q5 (P : PT) (N2 : NTy k1 Pr) : QD Try.prog T0 27 o5 [(0, false), (1, false), (2, false), (3, false), (4, false), (5, false), (6, false), (7, false), (8, false), (9, false)] (cnd 26 (En 27 k0 (B4 P N2)) (En 27 k1 (B3 P N2))) k1 (B5 P N2) := fun _ _ _ _ _  => by kernel_rfl
noncomputable def o6 := ob Try.f46 [.r,.r,.l,.r,.l,.l,.l,.l]
def B6 (P : PT) (N2 : NTy k1 Pr) (x0 x1 : Value) (x5 : Int) (H : AHeap) : Prop :=
  lenK x0 (fun n1 => pif (decide ((x5 : Int) < (n1 : Int))) (B5 P N2 x0 x1 x5 H) (B1 P H))
theorem q6 (P : PT) (N2 : NTy k1 Pr) : QB Try.prog T0 27 o6 (cnd 14 (En 27 k1 (B5 P N2)) (En 27 k0 (B1 P))) k1 (B6 P N2) := fun _ _ _ _ _  => by kernel_rfl
def L2 (P : PT) (x0 x1 : Value) (x5 : Int) (H : AHeap) : Prop :=
  ∃ (I : NTy k1 Pr) (μ : NTy k1 (AHeap → Nat)), I x0 x1 x5 H ∧ ∀ y0 y1 y5 G, I y0 y1 y5 G → B6 P (fun z0 z1 z5 G' => I z0 z1 z5 G' ∧ μ z0 z1 z5 G' < μ y0 y1 y5 G) y0 y1 y5 G
theorem l2 (P : PT) : LQ k1 (L2 P) (B6 P) := fun ⟨_,_,_,_⟩ _ ⟨I, μ, h0, hI⟩ => ⟨apT _ I, apT _ μ, h0, fun ⟨_,_,_,_⟩ _ h => hI _ _ _ _  h⟩
abbrev k2 : Sk := [(0,.v),(1,.v)]
noncomputable def o7 := ob Try.f46 [.r,.r,.l,.l]
def B7 (P : PT) (x0 x1 : Value) (H : AHeap) : Prop :=
  L2 P x0 x1 0 H
theorem q7 (P : PT) : QB Try.prog T0 27 o7 (En 27 k1 (L2 P)) k2 (B7 P) := fun _ _ _ _  => by kernel_rfl
noncomputable def o8 := ob Try.f46 [.r,.l,.r,.l,.l]
def B8 (P : PT) (H : AHeap) : Prop :=
  P (Value.bool false) H
theorem q8 (P : PT) : QB Try.prog T0 27 o8 (ret P) k0 (B8 P) := fun _ _  => by kernel_rfl
noncomputable def o9 := ob Try.f46 [.r,.l,.l]
def B9 (P : PT) (x0 x1 : Value) (H : AHeap) : Prop :=
  lenK x0 (fun n1 => lenK x1 (fun n2 => pif (((n1 : Int) : Int) != (n2 : Int)) (B8 P H) (B7 P x0 x1 H)))
theorem q9 (P : PT) : QB Try.prog T0 27 o9 (cnd 10 (En 27 k0 (B8 P)) (En 27 k2 (B7 P))) k2 (B9 P) := fun _ _ _ _  => by kernel_rfl
noncomputable def o10 := ob Try.f46 [.l]
def B10 (P : PT) (x0 x1 : Value) (H : AHeap) : Prop :=
  B9 P x0 x1 H
theorem q10 (P : PT) : QB Try.prog T0 27 o10 (En 27 k2 (B9 P)) k2 (B10 P) := fun _ _ _ _  => by kernel_rfl
noncomputable def code : Code := (.seq (.region 0 ⟨o10⟩ false) (.seq (.seq (.region 1 ⟨o9⟩ false) (.cond (.tmp 10) (.seq (.region 2 ⟨o8⟩ false) .ret) .skip)) (.seq (.seq (.region 3 ⟨o7⟩ false) (.block 0 (.loop (.seq (.seq (.region 4 ⟨o6⟩ false) (.cond (.tmp 14) .skip (.exit 0))) (.seq (.block 1 (.seq (.region 6 ⟨o5⟩ true) (.cond (.tmp 26) (.seq (.region 7 ⟨o4⟩ false) .ret) .skip))) (.region 5 ⟨o3⟩ false)))))) (.seq (.region 8 ⟨o1⟩ false) .ret))))
theorem body : Try.f46.body = some code := by kernel_rfl
theorem main (P : PT) : ∀ env H, (En 27 k2 (B10 P)) env H → AW Try.prog T0 code env H (mkQ (ret P) (fun _ _ _ => False) (ret P)) :=
  (r_seq (rB T0_ok (q10 P)) (r_seq (r_seq (rB T0_ok (q9 P)) (r_cond rfl (r_seq (rB T0_ok (q8 P)) r_ret) r_skip)) (r_seq (r_seq (rB T0_ok (q7 P)) (r_block (rL (l2 P) (fun N2 => (r_seq (r_seq (rB T0_ok (q6 P N2)) (r_cond rfl r_skip (r_exit (fun _ _ h => h)))) (r_seq (r_block (r_seq (rD T0_ok mixed [(0, false), (1, false), (2, false), (3, false), (4, false), (5, false), (6, false), (7, false), (8, false), (9, false)] (by kernel_rfl) (q5 P N2)) (r_cond rfl (r_seq (rB T0_ok (q4 P N2)) r_ret) r_skip))) (rB T0_ok (q3 P N2)))))))) (r_seq (rB T0_ok (q1 P)) r_ret))))
theorem ac (P : PT) (x0 x1 : Value) (H : AHeap) (h : B10 P x0 x1 H) : AC Try.prog T0 46 [x0, x1] H P :=
  r_fn T0_ok (c := code) (n := 27) Try.func46 body (by kernel_rfl) (main P) (En_mk (x0, x1, ()) (by kernel_rfl) ⟨by kernel_rfl, by kernel_rfl, trivial⟩ h)

end F46
-- loop.example/g01329/spec.l01In
namespace F49
noncomputable def ret (P : PT) : EP := retE T0 15 Try.f49 P
abbrev k0 : Sk := [(0,.i .i64),(1,.i .i64),(2,.i .i64)]
noncomputable def o1 := ob Try.f49 [.r,.l]
def B1 (P : PT) (x0 x1 x2 : Int) (H : AHeap) : Prop :=
  pif (decide ((x0 : Int) ≥ x1)) (P (Value.bool (decide ((x0 : Int) ≤ x2))) H) (P (Value.bool false) H)
theorem q1 (P : PT) : QB Try.prog T0 15 o1 (ret P) k0 (B1 P) := fun _ _ _ _ _  => by kernel_rfl
noncomputable def o2 := ob Try.f49 [.l]
def B2 (P : PT) (x0 x1 x2 : Int) (H : AHeap) : Prop :=
  B1 P x0 x1 x2 H
theorem q2 (P : PT) : QB Try.prog T0 15 o2 (En 15 k0 (B1 P)) k0 (B2 P) := fun _ _ _ _ _  => by kernel_rfl
noncomputable def code : Code := (.seq (.region 0 ⟨o2⟩ false) (.seq (.region 1 ⟨o1⟩ false) .ret))
theorem body : Try.f49.body = some code := by kernel_rfl
theorem main (P : PT) : ∀ env H, (En 15 k0 (B2 P)) env H → AW Try.prog T0 code env H (mkQ (ret P) (fun _ _ _ => False) (ret P)) :=
  (r_seq (rB T0_ok (q2 P)) (r_seq (rB T0_ok (q1 P)) r_ret))
theorem ac (P : PT) (x0 x1 x2 : Int) (H : AHeap) (h : B2 P x0 x1 x2 H) : AC Try.prog T0 49 [(Value.int .i64 x0), (Value.int .i64 x1), (Value.int .i64 x2)] H P :=
  r_fn T0_ok (c := code) (n := 15) Try.func49 body (by kernel_rfl) (main P) (En_mk (x0, x1, x2, ()) (by kernel_rfl) ⟨by kernel_rfl, by kernel_rfl, by kernel_rfl, trivial⟩ h)

end F49
-- loop.example/g01329/impl.within
namespace F53
noncomputable def ret (P : PT) : EP := retE T0 15 Try.f53 P
abbrev k0 : Sk := [(0,.i .i64),(1,.i .i64),(2,.i .i64)]
noncomputable def o1 := ob Try.f53 [.r,.l]
def B1 (P : PT) (x0 x1 x2 : Int) (H : AHeap) : Prop :=
  pif (decide ((x1 : Int) ≤ x0)) (P (Value.bool (decide ((x0 : Int) ≤ x2))) H) (P (Value.bool false) H)
theorem q1 (P : PT) : QB Try.prog T0 15 o1 (ret P) k0 (B1 P) := fun _ _ _ _ _  => by kernel_rfl
noncomputable def o2 := ob Try.f53 [.l]
def B2 (P : PT) (x0 x1 x2 : Int) (H : AHeap) : Prop :=
  B1 P x0 x1 x2 H
theorem q2 (P : PT) : QB Try.prog T0 15 o2 (En 15 k0 (B1 P)) k0 (B2 P) := fun _ _ _ _ _  => by kernel_rfl
noncomputable def code : Code := (.seq (.region 0 ⟨o2⟩ false) (.seq (.region 1 ⟨o1⟩ false) .ret))
theorem body : Try.f53.body = some code := by kernel_rfl
theorem main (P : PT) : ∀ env H, (En 15 k0 (B2 P)) env H → AW Try.prog T0 code env H (mkQ (ret P) (fun _ _ _ => False) (ret P)) :=
  (r_seq (rB T0_ok (q2 P)) (r_seq (rB T0_ok (q1 P)) r_ret))
theorem ac (P : PT) (x0 x1 x2 : Int) (H : AHeap) (h : B2 P x0 x1 x2 H) : AC Try.prog T0 53 [(Value.int .i64 x0), (Value.int .i64 x1), (Value.int .i64 x2)] H P :=
  r_fn T0_ok (c := code) (n := 15) Try.func53 body (by kernel_rfl) (main P) (En_mk (x0, x1, x2, ()) (by kernel_rfl) ⟨by kernel_rfl, by kernel_rfl, by kernel_rfl, trivial⟩ h)

end F53
-- loop.example/g01329/impl.areAll[int64]
namespace F55
noncomputable def ret (P : PT) : EP := retE T0 9 Try.f55 P
abbrev k0 : Sk := [(0,.v),(3,.x)]
noncomputable def o1 := ob Try.f55 [.r,.l]
def B1 (P : PT) (x0 : Value) (x3 : Nat) (H : AHeap) : Prop :=
  AC Try.prog T0 89 [x0, (Value.func (.func 90) ⟨[]⟩ ⟨[(Value.pointer (some ⟨x3, 0, none⟩))]⟩)] H (fun v1 H2 => asB v1 (fun v3 => P (Value.bool (!v3)) H2))
theorem q1 (P : PT) : QB Try.prog T0 9 o1 (ret P) k0 (B1 P) := fun _ _ _ _  => by kernel_rfl
abbrev k1 : Sk := [(0,.v),(1,.v)]
noncomputable def o2 := ob Try.f55 [.l]
def B2 (P : PT) (x0 x1 : Value) (H : AHeap) : Prop :=
  pif (Value.oneCell' x1) (newK H [x1] 75 (fun b1 H2 => B1 P x0 b1 H2)) False
theorem q2 (P : PT) : QB Try.prog T0 9 o2 (En 9 k0 (B1 P)) k1 (B2 P) := fun _ _ _ _  => by kernel_rfl
noncomputable def code : Code := (.seq (.region 0 ⟨o2⟩ false) (.seq (.region 1 ⟨o1⟩ false) .ret))
theorem body : Try.f55.body = some code := by kernel_rfl
theorem main (P : PT) : ∀ env H, (En 9 k1 (B2 P)) env H → AW Try.prog T0 code env H (mkQ (ret P) (fun _ _ _ => False) (ret P)) :=
  (r_seq (rB T0_ok (q2 P)) (r_seq (rB T0_ok (q1 P)) r_ret))
theorem ac (P : PT) (x0 x1 : Value) (H : AHeap) (h : B2 P x0 x1 H) : AC Try.prog T0 55 [x0, x1] H P :=
  r_fn T0_ok (c := code) (n := 9) Try.func55 body (by kernel_rfl) (main P) (En_mk (x0, x1, ()) (by kernel_rfl) ⟨by kernel_rfl, by kernel_rfl, trivial⟩ h)

end F55
-- loop.example/g01329/spec.l01Is
namespace F73
noncomputable def ret (P : PT) : EP := retE T0 56 Try.f73 P
abbrev k0 : Sk := []
noncomputable def o1 := ob Try.f73 [.r,.r,.r,.l]
def B1 (P : PT) (H : AHeap) : Prop :=
  P (Value.bool true) H
theorem q1 (P : PT) : QB Try.prog T0 56 o1 (ret P) k0 (B1 P) := fun _ _  => by kernel_rfl
abbrev k1 : Sk := [(1,.x),(3,.i .i64)]
noncomputable def o3 := ob Try.f73 [.r,.r,.l,.r,.l,.l,.r,.r]
def B3 (P : PT) (N2 : NTy k1 Pr) (x1 : Nat) (x3 : Int) (H : AHeap) : Prop :=
  N2 x1 (IntKind.i64.wrap (x3 + 1)) H
theorem q3 (P : PT) (N2 : NTy k1 Pr) : QB Try.prog T0 56 o3 (En 56 k1 N2) k1 (B3 P N2) := fun _ _ _ _  => by kernel_rfl
noncomputable def o4 := ob Try.f73 [.r,.r,.l,.r,.l,.l,.r,.l,.l,.r,.l,.l]
def B4 (P : PT) (N2 : NTy k1 Pr) (H : AHeap) : Prop :=
  P (Value.bool false) H
theorem q4 (P : PT) (N2 : NTy k1 Pr) : QB Try.prog T0 56 o4 (ret P) k0 (B4 P N2) := fun _ _  => by kernel_rfl
noncomputable def o5 := ob Try.f73 [.r,.r,.l,.r,.l,.l,.r,.l,.l,.l]
def B5 (P : PT) (N2 : NTy k1 Pr) (x1 : Nat) (x3 : Int) (H : AHeap) : Prop :=
  ld1 H x1 1 (fun v1 => idxK v1 x3 2 (fun b2 o3 => ldI .i64 H b2 o3 (fun v4 => ld1 H x1 1 (fun v5 => idxK v5 x3 2 (fun b6 o7 => ldI .i64 H b6 (o7 + 1) (fun v8 => pif (decide ((v4 : Int) > v8)) (B4 P N2 H) (pif (decide ((x3 : Int) > 0)) (ld1 H x1 1 (fun v9 => idxK v9 x3 2 (fun b10 o11 => ldI .i64 H b10 o11 (fun v12 => ldI .i64 H b10 (o11 + 1) (fun v13 => ld1 H x1 1 (fun v14 => idxK v14 (IntKind.i64.wrap (x3 - 1)) 2 (fun b15 o16 => ldI .i64 H b15 o16 (fun v17 => ldI .i64 H b15 (o16 + 1) (fun v18 => AC Try.prog T0 129 [(Value.agg ⟨[(Value.int .i64 v12), (Value.int .i64 v13)]⟩), (Value.agg ⟨[(Value.int .i64 v17), (Value.int .i64 v18)]⟩)] H (fun v19 H20 => asB v19 (fun v21 => pif v21 (B4 P N2 H20) (B3 P N2 x1 x3 H20)))))))))))) (B3 P N2 x1 x3 H))))))))
theorem q5 (P : PT) (N2 : NTy k1 Pr) : QD Try.prog T0 56 o5 [(0, false), (1, false), (2, false), (3, false), (4, false), (5, false), (6, false), (7, false), (8, false), (9, false), (10, false), (11, false), (12, false), (13, false), (14, false), (15, false), (16, false), (17, false), (18, false), (19, false), (20, false), (21, false), (22, false), (23, false), (24, false), (25, false), (26, false), (27, false), (28, false), (29, false), (30, false)] (cnd 55 (En 56 k0 (B4 P N2)) (En 56 k1 (B3 P N2))) k1 (B5 P N2) := fun _ _ _ _  => by kernel_rfl
noncomputable def o6 := ob Try.f73 [.r,.r,.l,.r,.l,.l,.l,.l]
def B6 (P : PT) (N2 : NTy k1 Pr) (x1 : Nat) (x3 : Int) (H : AHeap) : Prop :=
  ld1 H x1 1 (fun v1 => lenK v1 (fun n2 => pif (decide ((x3 : Int) < (n2 : Int))) (B5 P N2 x1 x3 H) (B1 P H)))
theorem q6 (P : PT) (N2 : NTy k1 Pr) : QB Try.prog T0 56 o6 (cnd 22 (En 56 k1 (B5 P N2)) (En 56 k0 (B1 P))) k1 (B6 P N2) := fun _ _ _ _  => by kernel_rfl
def L2 (P : PT) (x1 : Nat) (x3 : Int) (H : AHeap) : Prop :=
  ∃ (I : NTy k1 Pr) (μ : NTy k1 (AHeap → Nat)), I x1 x3 H ∧ ∀ y1 y3 G, I y1 y3 G → B6 P (fun z1 z3 G' => I z1 z3 G' ∧ μ z1 z3 G' < μ y1 y3 G) y1 y3 G
theorem l2 (P : PT) : LQ k1 (L2 P) (B6 P) := fun ⟨_,_,_⟩ _ ⟨I, μ, h0, hI⟩ => ⟨apT _ I, apT _ μ, h0, fun ⟨_,_,_⟩ _ h => hI _ _ _  h⟩
abbrev k2 : Sk := [(1,.x)]
noncomputable def o7 := ob Try.f73 [.r,.r,.l,.l]
def B7 (P : PT) (x1 : Nat) (H : AHeap) : Prop :=
  L2 P x1 0 H
theorem q7 (P : PT) : QB Try.prog T0 56 o7 (En 56 k1 (L2 P)) k2 (B7 P) := fun _ _ _  => by kernel_rfl
noncomputable def o8 := ob Try.f73 [.r,.l,.r,.l,.l]
def B8 (P : PT) (H : AHeap) : Prop :=
  P (Value.bool false) H
theorem q8 (P : PT) : QB Try.prog T0 56 o8 (ret P) k0 (B8 P) := fun _ _  => by kernel_rfl
noncomputable def o9 := ob Try.f73 [.r,.l,.l]
def B9 (P : PT) (x1 : Nat) (H : AHeap) : Prop :=
  ldI .i64 H x1 0 (fun v1 => ld1 H x1 1 (fun v2 => AC Try.prog T0 127 [(Value.int .i64 v1), v2] H (fun v3 H4 => asI .i64 v3 (fun v5 => pif ((v5 : Int) != 0) (B8 P H4) (ldI .i64 H4 x1 0 (fun v6 => ld1 H4 x1 1 (fun v7 => AC Try.prog T0 128 [(Value.int .i64 v6), v7] H4 (fun v8 H9 => asB v8 (fun v10 => pif (!v10) (B8 P H9) (B7 P x1 H9))))))))))
theorem q9 (P : PT) : QB Try.prog T0 56 o9 (cnd 17 (En 56 k0 (B8 P)) (En 56 k2 (B7 P))) k2 (B9 P) := fun _ _ _  => by kernel_rfl
abbrev k3 : Sk := [(0,.g [.i,.v])]
noncomputable def o10 := ob Try.f73 [.l]
def B10 (P : PT) (x0a : Int) (x0b : Value) (H : AHeap) : Prop :=
  newK H [(Value.int .i64 x0a), x0b] 31 (fun b1 H2 => B9 P b1 H2)
theorem q10 (P : PT) : QB Try.prog T0 56 o10 (En 56 k2 (B9 P)) k3 (B10 P) := fun _ _ _ _  => by kernel_rfl
noncomputable def code : Code := (.seq (.region 0 ⟨o10⟩ false) (.seq (.seq (.region 1 ⟨o9⟩ false) (.cond (.tmp 17) (.seq (.region 2 ⟨o8⟩ false) .ret) .skip)) (.seq (.seq (.region 3 ⟨o7⟩ false) (.block 0 (.loop (.seq (.seq (.region 4 ⟨o6⟩ false) (.cond (.tmp 22) .skip (.exit 0))) (.seq (.block 1 (.seq (.region 6 ⟨o5⟩ true) (.cond (.tmp 55) (.seq (.region 7 ⟨o4⟩ false) .ret) .skip))) (.region 5 ⟨o3⟩ false)))))) (.seq (.region 8 ⟨o1⟩ false) .ret))))
theorem body : Try.f73.body = some code := by kernel_rfl
theorem main (P : PT) : ∀ env H, (En 56 k3 (B10 P)) env H → AW Try.prog T0 code env H (mkQ (ret P) (fun _ _ _ => False) (ret P)) :=
  (r_seq (rB T0_ok (q10 P)) (r_seq (r_seq (rB T0_ok (q9 P)) (r_cond rfl (r_seq (rB T0_ok (q8 P)) r_ret) r_skip)) (r_seq (r_seq (rB T0_ok (q7 P)) (r_block (rL (l2 P) (fun N2 => (r_seq (r_seq (rB T0_ok (q6 P N2)) (r_cond rfl r_skip (r_exit (fun _ _ h => h)))) (r_seq (r_block (r_seq (rD T0_ok mixed [(0, false), (1, false), (2, false), (3, false), (4, false), (5, false), (6, false), (7, false), (8, false), (9, false), (10, false), (11, false), (12, false), (13, false), (14, false), (15, false), (16, false), (17, false), (18, false), (19, false), (20, false), (21, false), (22, false), (23, false), (24, false), (25, false), (26, false), (27, false), (28, false), (29, false), (30, false)] (by kernel_rfl) (q5 P N2)) (r_cond rfl (r_seq (rB T0_ok (q4 P N2)) r_ret) r_skip))) (rB T0_ok (q3 P N2)))))))) (r_seq (rB T0_ok (q1 P)) r_ret))))
theorem ac (P : PT) (x0a : Int) (x0b : Value) (H : AHeap) (h : B10 P x0a x0b H) : AC Try.prog T0 73 [(Value.agg ⟨[(Value.int .i64 x0a), x0b]⟩)] H P :=
  r_fn T0_ok (c := code) (n := 56) Try.func73 body (by kernel_rfl) (main P) (En_mk (x0a, x0b, ()) (by kernel_rfl) ⟨by kernel_rfl, trivial⟩ h)

end F73
-- loop.example/g01329/spec.l02Is
namespace F74
noncomputable def ret (P : PT) : EP := retE T0 35 Try.f74 P
abbrev k0 : Sk := []
noncomputable def o1 := ob Try.f74 [.r,.r,.r,.l]
def B1 (P : PT) (H : AHeap) : Prop :=
  P (Value.bool true) H
theorem q1 (P : PT) : QB Try.prog T0 35 o1 (ret P) k0 (B1 P) := fun _ _  => by kernel_rfl
abbrev k1 : Sk := [(1,.v),(2,.x),(5,.i .i64)]
noncomputable def o3 := ob Try.f74 [.r,.r,.l,.r,.l,.l,.r,.r]
def B3 (P : PT) (N2 : NTy k1 Pr) (x1 : Value) (x2 : Nat) (x5 : Int) (H : AHeap) : Prop :=
  N2 x1 x2 (IntKind.i64.wrap (x5 + 1)) H
theorem q3 (P : PT) (N2 : NTy k1 Pr) : QB Try.prog T0 35 o3 (En 35 k1 N2) k1 (B3 P N2) := fun _ _ _ _ _  => by kernel_rfl
noncomputable def o4 := ob Try.f74 [.r,.r,.l,.r,.l,.l,.r,.l,.l,.r,.l,.l]
def B4 (P : PT) (N2 : NTy k1 Pr) (H : AHeap) : Prop :=
  P (Value.bool false) H
theorem q4 (P : PT) (N2 : NTy k1 Pr) : QB Try.prog T0 35 o4 (ret P) k0 (B4 P N2) := fun _ _  => by kernel_rfl
noncomputable def o5 := ob Try.f74 [.r,.r,.l,.r,.l,.l,.r,.l,.l,.l]
def B5 (P : PT) (N2 : NTy k1 Pr) (x1 : Value) (x2 : Nat) (x5 : Int) (H : AHeap) : Prop :=
  idxK x1 x5 1 (fun b1 o2 => ldI .i64 H b1 o2 (fun v3 => AC Try.prog T0 49 [(Value.int .i64 v3), (Value.int .i64 0), (Value.int .i64 2)] H (fun v4 H5 => asB v4 (fun v6 => pif (!v6) (B4 P N2 H5) (ldI .i64 H5 x2 0 (fun v7 => ld1 H5 x2 1 (fun v8 => idxK x1 x5 1 (fun b9 o10 => ldI .i64 H5 b9 o10 (fun v11 => AC Try.prog T0 130 [(Value.agg ⟨[(Value.int .i64 v7), v8]⟩), x1, (Value.int .i64 x5), (Value.int .i64 v11)] H5 (fun v12 H13 => asB v12 (fun v14 => pif (!v14) (B4 P N2 H13) (B3 P N2 x1 x2 x5 H13))))))))))))
theorem q5 (P : PT) (N2 : NTy k1 Pr) : QD Try.prog T0 35 o5 [(0, false), (1, false), (2, false), (3, false), (4, false), (5, false), (6, false), (7, false), (8, false), (9, false), (10, false), (11, false), (12, false), (13, false), (14, false), (15, false), (16, false)] (cnd 34 (En 35 k0 (B4 P N2)) (En 35 k1 (B3 P N2))) k1 (B5 P N2) := fun _ _ _ _ _  => by kernel_rfl
noncomputable def o6 := ob Try.f74 [.r,.r,.l,.r,.l,.l,.l,.l]
def B6 (P : PT) (N2 : NTy k1 Pr) (x1 : Value) (x2 : Nat) (x5 : Int) (H : AHeap) : Prop :=
  lenK x1 (fun n1 => pif (decide ((x5 : Int) < (n1 : Int))) (B5 P N2 x1 x2 x5 H) (B1 P H))
theorem q6 (P : PT) (N2 : NTy k1 Pr) : QB Try.prog T0 35 o6 (cnd 15 (En 35 k1 (B5 P N2)) (En 35 k0 (B1 P))) k1 (B6 P N2) := fun _ _ _ _ _  => by kernel_rfl
def L2 (P : PT) (x1 : Value) (x2 : Nat) (x5 : Int) (H : AHeap) : Prop :=
  ∃ (I : NTy k1 Pr) (μ : NTy k1 (AHeap → Nat)), I x1 x2 x5 H ∧ ∀ y1 y2 y5 G, I y1 y2 y5 G → B6 P (fun z1 z2 z5 G' => I z1 z2 z5 G' ∧ μ z1 z2 z5 G' < μ y1 y2 y5 G) y1 y2 y5 G
theorem l2 (P : PT) : LQ k1 (L2 P) (B6 P) := fun ⟨_,_,_,_⟩ _ ⟨I, μ, h0, hI⟩ => ⟨apT _ I, apT _ μ, h0, fun ⟨_,_,_,_⟩ _ h => hI _ _ _ _  h⟩
abbrev k2 : Sk := [(1,.v),(2,.x)]
noncomputable def o7 := ob Try.f74 [.r,.r,.l,.l]
def B7 (P : PT) (x1 : Value) (x2 : Nat) (H : AHeap) : Prop :=
  L2 P x1 x2 0 H
theorem q7 (P : PT) : QB Try.prog T0 35 o7 (En 35 k1 (L2 P)) k2 (B7 P) := fun _ _ _ _  => by kernel_rfl
noncomputable def o8 := ob Try.f74 [.r,.l,.r,.l,.l]
def B8 (P : PT) (H : AHeap) : Prop :=
  P (Value.bool false) H
theorem q8 (P : PT) : QB Try.prog T0 35 o8 (ret P) k0 (B8 P) := fun _ _  => by kernel_rfl
noncomputable def o9 := ob Try.f74 [.r,.l,.l]
def B9 (P : PT) (x1 : Value) (x2 : Nat) (H : AHeap) : Prop :=
  lenK x1 (fun n1 => ld1 H x2 1 (fun v2 => lenK v2 (fun n3 => pif (((n1 : Int) : Int) != (n3 : Int)) (B8 P H) (B7 P x1 x2 H))))
theorem q9 (P : PT) : QB Try.prog T0 35 o9 (cnd 11 (En 35 k0 (B8 P)) (En 35 k2 (B7 P))) k2 (B9 P) := fun _ _ _ _  => by kernel_rfl
abbrev k3 : Sk := [(0,.g [.i,.v]),(1,.v)]
noncomputable def o10 := ob Try.f74 [.l]
def B10 (P : PT) (x0a : Int) (x0b x1 : Value) (H : AHeap) : Prop :=
  newK H [(Value.int .i64 x0a), x0b] 31 (fun b1 H2 => B9 P x1 b1 H2)
theorem q10 (P : PT) : QB Try.prog T0 35 o10 (En 35 k2 (B9 P)) k3 (B10 P) := fun _ _ _ _ _  => by kernel_rfl
noncomputable def code : Code := (.seq (.region 0 ⟨o10⟩ false) (.seq (.seq (.region 1 ⟨o9⟩ false) (.cond (.tmp 11) (.seq (.region 2 ⟨o8⟩ false) .ret) .skip)) (.seq (.seq (.region 3 ⟨o7⟩ false) (.block 0 (.loop (.seq (.seq (.region 4 ⟨o6⟩ false) (.cond (.tmp 15) .skip (.exit 0))) (.seq (.block 1 (.seq (.region 6 ⟨o5⟩ true) (.cond (.tmp 34) (.seq (.region 7 ⟨o4⟩ false) .ret) .skip))) (.region 5 ⟨o3⟩ false)))))) (.seq (.region 8 ⟨o1⟩ false) .ret))))
theorem body : Try.f74.body = some code := by kernel_rfl
theorem main (P : PT) : ∀ env H, (En 35 k3 (B10 P)) env H → AW Try.prog T0 code env H (mkQ (ret P) (fun _ _ _ => False) (ret P)) :=
  (r_seq (rB T0_ok (q10 P)) (r_seq (r_seq (rB T0_ok (q9 P)) (r_cond rfl (r_seq (rB T0_ok (q8 P)) r_ret) r_skip)) (r_seq (r_seq (rB T0_ok (q7 P)) (r_block (rL (l2 P) (fun N2 => (r_seq (r_seq (rB T0_ok (q6 P N2)) (r_cond rfl r_skip (r_exit (fun _ _ h => h)))) (r_seq (r_block (r_seq (rD T0_ok mixed [(0, false), (1, false), (2, false), (3, false), (4, false), (5, false), (6, false), (7, false), (8, false), (9, false), (10, false), (11, false), (12, false), (13, false), (14, false), (15, false), (16, false)] (by kernel_rfl) (q5 P N2)) (r_cond rfl (r_seq (rB T0_ok (q4 P N2)) r_ret) r_skip))) (rB T0_ok (q3 P N2)))))))) (r_seq (rB T0_ok (q1 P)) r_ret))))
theorem ac (P : PT) (x0a : Int) (x0b x1 : Value) (H : AHeap) (h : B10 P x0a x0b x1 H) : AC Try.prog T0 74 [(Value.agg ⟨[(Value.int .i64 x0a), x0b]⟩), x1] H P :=
  r_fn T0_ok (c := code) (n := 35) Try.func74 body (by kernel_rfl) (main P) (En_mk (x0a, x0b, x1, ()) (by kernel_rfl) ⟨by kernel_rfl, by kernel_rfl, trivial⟩ h)

end F74
-- loop.example/g01329/spec.l02Chain
namespace F75
noncomputable def ret (P : PT) : EP := retE T0 86 Try.f75 P
abbrev k0 : Sk := [(9,.v)]
noncomputable def o1 := ob Try.f75 [.r,.r,.r,.r,.l]
def B1 (P : PT) (x9 : Value) (H : AHeap) : Prop :=
  P x9 H
theorem q1 (P : PT) : QB Try.prog T0 86 o1 (ret P) k0 (B1 P) := fun _ _ _  => by kernel_rfl
abbrev k1 : Sk := [(1,.v),(2,.i .i64),(3,.i .i64),(4,.x),(9,.v),(10,.v),(11,.i .i64)]
noncomputable def o3 := ob Try.f75 [.r,.r,.r,.l,.r,.l,.l,.r,.r]
def B3 (P : PT) (N2 : NTy k1 Pr) (x1 : Value) (x2 x3 : Int) (x4 : Nat) (x9 x10 : Value) (x11 : Int) (H : AHeap) : Prop :=
  N2 x1 x2 x3 x4 x9 x10 (IntKind.i64.wrap (x11 + 1)) H
theorem q3 (P : PT) (N2 : NTy k1 Pr) : QB Try.prog T0 86 o3 (En 86 k1 N2) k1 (B3 P N2) := fun _ _ _ _ _ _ _ _ _  => by kernel_rfl
abbrev k2 : Sk := [(1,.v),(2,.i .i64),(3,.i .i64),(4,.x),(9,.v),(10,.v),(11,.i .i64),(12,.i .i64)]
noncomputable def o5 := ob Try.f75 [.r,.r,.r,.l,.r,.l,.l,.r,.l,.l,.r,.l,.l,.r,.r]
def B5 (P : PT) (N2 : NTy k1 Pr) (N4 : NTy k2 Pr) (x1 : Value) (x2 x3 : Int) (x4 : Nat) (x9 x10 : Value) (x11 x12 : Int) (H : AHeap) : Prop :=
  N4 x1 x2 x3 x4 x9 x10 x11 (IntKind.i64.wrap (x12 + 1)) H
theorem q5 (P : PT) (N2 : NTy k1 Pr) (N4 : NTy k2 Pr) : QB Try.prog T0 86 o5 (En 86 k2 N4) k2 (B5 P N2 N4) := fun _ _ _ _ _ _ _ _ _ _  => by kernel_rfl
abbrev k3 : Sk := [(1,.v),(2,.i .i64),(3,.i .i64),(4,.x),(9,.v),(10,.v),(11,.i .i64),(12,.i .i64),(13,.v),(14,.i .i64)]
noncomputable def o7 := ob Try.f75 [.r,.r,.r,.l,.r,.l,.l,.r,.l,.l,.r,.l,.l,.r,.l,.l,.r,.r,.l,.l,.r,.r]
def B7 (P : PT) (N2 : NTy k1 Pr) (N4 : NTy k2 Pr) (N6 : NTy k3 Pr) (x1 : Value) (x2 x3 : Int) (x4 : Nat) (x9 x10 : Value) (x11 x12 : Int) (x13 : Value) (x14 : Int) (H : AHeap) : Prop :=
  N6 x1 x2 x3 x4 x9 x10 x11 x12 x13 (IntKind.i64.wrap (x14 + 1)) H
theorem q7 (P : PT) (N2 : NTy k1 Pr) (N4 : NTy k2 Pr) (N6 : NTy k3 Pr) : QB Try.prog T0 86 o7 (En 86 k3 N6) k3 (B7 P N2 N4 N6) := fun _ _ _ _ _ _ _ _ _ _ _ _  => by kernel_rfl
abbrev k4 : Sk := [(1,.v),(2,.i .i64),(3,.i .i64),(4,.x),(9,.v),(10,.v),(11,.i .i64),(12,.i .i64),(13,.v),(14,.i .i64),(15,.i .i64)]
noncomputable def o8 := ob Try.f75 [.r,.r,.r,.l,.r,.l,.l,.r,.l,.l,.r,.l,.l,.r,.l,.l,.r,.r,.l,.l,.r,.l,.l,.r,.r,.l,.r]
def B8 (P : PT) (N2 : NTy k1 Pr) (N4 : NTy k2 Pr) (N6 : NTy k3 Pr) (x1 : Value) (x2 x3 : Int) (x4 : Nat) (x9 x10 : Value) (x11 x12 : Int) (x13 : Value) (x14 x15 : Int) (H : AHeap) : Prop :=
  newK H [(Value.int .i64 x15)] 2 (fun b1 H2 => apK T0 2 H2 x10 (Value.slice (some ⟨b1, 0, none⟩) 1 (1 + 1)) (fun v3 H4 => B7 P N2 N4 N6 x1 x2 x3 x4 x9 v3 x11 x12 x13 x14 H4))
theorem q8 (P : PT) (N2 : NTy k1 Pr) (N4 : NTy k2 Pr) (N6 : NTy k3 Pr) : QB Try.prog T0 86 o8 (En 86 k3 (B7 P N2 N4 N6)) k4 (B8 P N2 N4 N6) := fun _ _ _ _ _ _ _ _ _ _ _ _ _  => by kernel_rfl
noncomputable def o9 := ob Try.f75 [.r,.r,.r,.l,.r,.l,.l,.r,.l,.l,.r,.l,.l,.r,.l,.l,.r,.r,.l,.l,.r,.l,.l,.r,.r,.l,.l]
def B9 (P : PT) (N2 : NTy k1 Pr) (N4 : NTy k2 Pr) (N6 : NTy k3 Pr) (x1 : Value) (x2 x3 : Int) (x4 : Nat) (x9 x10 : Value) (x11 x12 : Int) (x13 : Value) (x14 x15 : Int) (H : AHeap) : Prop :=
  idxK x9 x15 1 (fun b1 o2 => stK H b1 o2 [(Value.bool true)] (fun H3 => B8 P N2 N4 N6 x1 x2 x3 x4 x9 x10 x11 x12 x13 x14 x15 H3))
theorem q9 (P : PT) (N2 : NTy k1 Pr) (N4 : NTy k2 Pr) (N6 : NTy k3 Pr) : QB Try.prog T0 86 o9 (En 86 k4 (B8 P N2 N4 N6)) k4 (B9 P N2 N4 N6) := fun _ _ _ _ _ _ _ _ _ _ _ _ _  => by kernel_rfl
noncomputable def o10 := ob Try.f75 [.r,.r,.r,.l,.r,.l,.l,.r,.l,.l,.r,.l,.l,.r,.l,.l,.r,.r,.l,.l,.r,.l,.l,.r,.l]
def B10 (P : PT) (N2 : NTy k1 Pr) (N4 : NTy k2 Pr) (N6 : NTy k3 Pr) (x1 : Value) (x2 x3 : Int) (x4 : Nat) (x9 x10 : Value) (x11 x12 : Int) (x13 : Value) (x14 x15 : Int) (H : AHeap) : Prop :=
  idxK x9 x15 1 (fun b1 o2 => ld1 H b1 o2 (fun v4 => asB v4 (fun v3 => pif (!v3) (idxK x1 x15 1 (fun b5 o6 => ldI .i64 H b5 o6 (fun v7 => idxK x1 x2 1 (fun b8 o9 => ldI .i64 H b8 o9 (fun v10 => pif ((v7 : Int) == v10) (B9 P N2 N4 N6 x1 x2 x3 x4 x9 x10 x11 x12 x13 x14 x15 H) (idxK x1 x15 1 (fun b11 o12 => ldI .i64 H b11 o12 (fun v13 => pif ((v13 : Int) == x3) (B9 P N2 N4 N6 x1 x2 x3 x4 x9 x10 x11 x12 x13 x14 x15 H) (B7 P N2 N4 N6 x1 x2 x3 x4 x9 x10 x11 x12 x13 x14 H))))))))) (B7 P N2 N4 N6 x1 x2 x3 x4 x9 x10 x11 x12 x13 x14 H))))
theorem q10 (P : PT) (N2 : NTy k1 Pr) (N4 : NTy k2 Pr) (N6 : NTy k3 Pr) : QD Try.prog T0 86 o10 [(0, false), (1, false), (2, false), (3, false), (4, false), (5, false), (6, false), (7, false), (8, false), (9, false), (10, false), (11, false), (12, false), (13, false), (14, false), (15, false), (16, false), (17, false), (18, false), (19, false), (20, false), (21, false), (22, false), (23, false)] (cnd 77 (En 86 k4 (B9 P N2 N4 N6)) (En 86 k3 (B7 P N2 N4 N6))) k4 (B10 P N2 N4 N6) := fun _ _ _ _ _ _ _ _ _ _ _ _ _  => by kernel_rfl
noncomputable def o11 := ob Try.f75 [.r,.r,.r,.l,.r,.l,.l,.r,.l,.l,.r,.l,.l,.r,.l,.l,.r,.r,.l,.l,.r,.l,.l,.l]
def B11 (P : PT) (N2 : NTy k1 Pr) (N4 : NTy k2 Pr) (N6 : NTy k3 Pr) (x1 : Value) (x2 x3 : Int) (x4 : Nat) (x9 x10 : Value) (x11 x12 : Int) (x13 : Value) (x14 : Int) (H : AHeap) : Prop :=
  idxK x13 x14 1 (fun b1 o2 => ldI .i64 H b1 o2 (fun v3 => B10 P N2 N4 N6 x1 x2 x3 x4 x9 x10 x11 x12 x13 x14 v3 H))
theorem q11 (P : PT) (N2 : NTy k1 Pr) (N4 : NTy k2 Pr) (N6 : NTy k3 Pr) : QB Try.prog T0 86 o11 (En 86 k4 (B10 P N2 N4 N6)) k3 (B11 P N2 N4 N6) := fun _ _ _ _ _ _ _ _ _ _ _ _  => by kernel_rfl
noncomputable def o12 := ob Try.f75 [.r,.r,.r,.l,.r,.l,.l,.r,.l,.l,.r,.l,.l,.r,.l,.l,.r,.r,.l,.l,.l,.l]
def B12 (P : PT) (N2 : NTy k1 Pr) (N4 : NTy k2 Pr) (N6 : NTy k3 Pr) (x1 : Value) (x2 x3 : Int) (x4 : Nat) (x9 x10 : Value) (x11 x12 : Int) (x13 : Value) (x14 : Int) (H : AHeap) : Prop :=
  pif (decide ((x14 : Int) < 3)) (B11 P N2 N4 N6 x1 x2 x3 x4 x9 x10 x11 x12 x13 x14 H) (B5 P N2 N4 x1 x2 x3 x4 x9 x10 x11 x12 H)
theorem q12 (P : PT) (N2 : NTy k1 Pr) (N4 : NTy k2 Pr) (N6 : NTy k3 Pr) : QB Try.prog T0 86 o12 (cnd 47 (En 86 k3 (B11 P N2 N4 N6)) (En 86 k2 (B5 P N2 N4))) k3 (B12 P N2 N4 N6) := fun _ _ _ _ _ _ _ _ _ _ _ _  => by kernel_rfl
def L6 (P : PT) (N2 : NTy k1 Pr) (N4 : NTy k2 Pr) (x1 : Value) (x2 x3 : Int) (x4 : Nat) (x9 x10 : Value) (x11 x12 : Int) (x13 : Value) (x14 : Int) (H : AHeap) : Prop :=
  ∃ (I : NTy k3 Pr) (μ : NTy k3 (AHeap → Nat)), I x1 x2 x3 x4 x9 x10 x11 x12 x13 x14 H ∧ ∀ y1 y2 y3 y4 y9 y10 y11 y12 y13 y14 G, I y1 y2 y3 y4 y9 y10 y11 y12 y13 y14 G → B12 P N2 N4 (fun z1 z2 z3 z4 z9 z10 z11 z12 z13 z14 G' => I z1 z2 z3 z4 z9 z10 z11 z12 z13 z14 G' ∧ μ z1 z2 z3 z4 z9 z10 z11 z12 z13 z14 G' < μ y1 y2 y3 y4 y9 y10 y11 y12 y13 y14 G) y1 y2 y3 y4 y9 y10 y11 y12 y13 y14 G
theorem l6 (P : PT) (N2 : NTy k1 Pr) (N4 : NTy k2 Pr) : LQ k3 (L6 P N2 N4) (B12 P N2 N4) := fun ⟨_,_,_,_,_,_,_,_,_,_,_⟩ _ ⟨I, μ, h0, hI⟩ => ⟨apT _ I, apT _ μ, h0, fun ⟨_,_,_,_,_,_,_,_,_,_,_⟩ _ h => hI _ _ _ _ _ _ _ _ _ _ _  h⟩
abbrev k5 : Sk := [(1,.v),(2,.i .i64),(3,.i .i64),(4,.x),(9,.v),(10,.v),(11,.i .i64),(12,.i .i64),(13,.v)]
noncomputable def o13 := ob Try.f75 [.r,.r,.r,.l,.r,.l,.l,.r,.l,.l,.r,.l,.l,.r,.l,.l,.r,.l]
def B13 (P : PT) (N2 : NTy k1 Pr) (N4 : NTy k2 Pr) (x1 : Value) (x2 x3 : Int) (x4 : Nat) (x9 x10 : Value) (x11 x12 : Int) (x13 : Value) (H : AHeap) : Prop :=
  L6 P N2 N4 x1 x2 x3 x4 x9 x10 x11 x12 x13 0 H
theorem q13 (P : PT) (N2 : NTy k1 Pr) (N4 : NTy k2 Pr) : QB Try.prog T0 86 o13 (En 86 k3 (L6 P N2 N4)) k5 (B13 P N2 N4) := fun _ _ _ _ _ _ _ _ _ _ _  => by kernel_rfl
noncomputable def o14 := ob Try.f75 [.r,.r,.r,.l,.r,.l,.l,.r,.l,.l,.r,.l,.l,.r,.l,.l,.l]
def B14 (P : PT) (N2 : NTy k1 Pr) (N4 : NTy k2 Pr) (x1 : Value) (x2 x3 : Int) (x4 : Nat) (x9 x10 : Value) (x11 x12 : Int) (H : AHeap) : Prop :=
  ldI .i64 H x4 0 (fun v1 => ld1 H x4 1 (fun v2 => ld1 H x4 1 (fun v3 => idxK x10 x11 1 (fun b4 o5 => ldI .i64 H b4 o5 (fun v6 => idxK v3 v6 2 (fun b7 o8 => bndK x12 2 (ldI .i64 H b7 (o8 + Int.toNat x12 * 1) (fun v9 => AC Try.prog T0 110 [(Value.agg ⟨[(Value.int .i64 v1), v2]⟩), (Value.int .i64 v9)] H (fun v10 H11 => B13 P N2 N4 x1 x2 x3 x4 x9 x10 x11 x12 v10 H11)))))))))
theorem q14 (P : PT) (N2 : NTy k1 Pr) (N4 : NTy k2 Pr) : QD Try.prog T0 86 o14 [(0, false), (1, false), (2, false), (3, false), (4, false), (5, false), (6, false), (7, false), (8, false), (9, false), (10, false), (11, false), (12, false)] (En 86 k5 (B13 P N2 N4)) k2 (B14 P N2 N4) := fun _ _ _ _ _ _ _ _ _ _  => by kernel_rfl
noncomputable def o15 := ob Try.f75 [.r,.r,.r,.l,.r,.l,.l,.r,.l,.l,.r,.l,.l,.l,.l]
def B15 (P : PT) (N2 : NTy k1 Pr) (N4 : NTy k2 Pr) (x1 : Value) (x2 x3 : Int) (x4 : Nat) (x9 x10 : Value) (x11 x12 : Int) (H : AHeap) : Prop :=
  pif (decide ((x12 : Int) < 2)) (B14 P N2 N4 x1 x2 x3 x4 x9 x10 x11 x12 H) (B3 P N2 x1 x2 x3 x4 x9 x10 x11 H)
theorem q15 (P : PT) (N2 : NTy k1 Pr) (N4 : NTy k2 Pr) : QB Try.prog T0 86 o15 (cnd 31 (En 86 k2 (B14 P N2 N4)) (En 86 k1 (B3 P N2))) k2 (B15 P N2 N4) := fun _ _ _ _ _ _ _ _ _ _  => by kernel_rfl
def L4 (P : PT) (N2 : NTy k1 Pr) (x1 : Value) (x2 x3 : Int) (x4 : Nat) (x9 x10 : Value) (x11 x12 : Int) (H : AHeap) : Prop :=
  ∃ (I : NTy k2 Pr) (μ : NTy k2 (AHeap → Nat)), I x1 x2 x3 x4 x9 x10 x11 x12 H ∧ ∀ y1 y2 y3 y4 y9 y10 y11 y12 G, I y1 y2 y3 y4 y9 y10 y11 y12 G → B15 P N2 (fun z1 z2 z3 z4 z9 z10 z11 z12 G' => I z1 z2 z3 z4 z9 z10 z11 z12 G' ∧ μ z1 z2 z3 z4 z9 z10 z11 z12 G' < μ y1 y2 y3 y4 y9 y10 y11 y12 G) y1 y2 y3 y4 y9 y10 y11 y12 G
theorem l4 (P : PT) (N2 : NTy k1 Pr) : LQ k2 (L4 P N2) (B15 P N2) := fun ⟨_,_,_,_,_,_,_,_,_⟩ _ ⟨I, μ, h0, hI⟩ => ⟨apT _ I, apT _ μ, h0, fun ⟨_,_,_,_,_,_,_,_,_⟩ _ h => hI _ _ _ _ _ _ _ _ _  h⟩
noncomputable def o16 := ob Try.f75 [.r,.r,.r,.l,.r,.l,.l,.r,.l,.l,.l]
def B16 (P : PT) (N2 : NTy k1 Pr) (x1 : Value) (x2 x3 : Int) (x4 : Nat) (x9 x10 : Value) (x11 : Int) (H : AHeap) : Prop :=
  L4 P N2 x1 x2 x3 x4 x9 x10 x11 0 H
theorem q16 (P : PT) (N2 : NTy k1 Pr) : QB Try.prog T0 86 o16 (En 86 k2 (L4 P N2)) k1 (B16 P N2) := fun _ _ _ _ _ _ _ _ _  => by kernel_rfl
noncomputable def o17 := ob Try.f75 [.r,.r,.r,.l,.r,.l,.l,.l,.l]
def B17 (P : PT) (N2 : NTy k1 Pr) (x1 : Value) (x2 x3 : Int) (x4 : Nat) (x9 x10 : Value) (x11 : Int) (H : AHeap) : Prop :=
  lenK x10 (fun n1 => pif (decide ((x11 : Int) < (n1 : Int))) (B16 P N2 x1 x2 x3 x4 x9 x10 x11 H) (B1 P x9 H))
theorem q17 (P : PT) (N2 : NTy k1 Pr) : QB Try.prog T0 86 o17 (cnd 27 (En 86 k1 (B16 P N2)) (En 86 k0 (B1 P))) k1 (B17 P N2) := fun _ _ _ _ _ _ _ _ _  => by kernel_rfl
def L2 (P : PT) (x1 : Value) (x2 x3 : Int) (x4 : Nat) (x9 x10 : Value) (x11 : Int) (H : AHeap) : Prop :=
  ∃ (I : NTy k1 Pr) (μ : NTy k1 (AHeap → Nat)), I x1 x2 x3 x4 x9 x10 x11 H ∧ ∀ y1 y2 y3 y4 y9 y10 y11 G, I y1 y2 y3 y4 y9 y10 y11 G → B17 P (fun z1 z2 z3 z4 z9 z10 z11 G' => I z1 z2 z3 z4 z9 z10 z11 G' ∧ μ z1 z2 z3 z4 z9 z10 z11 G' < μ y1 y2 y3 y4 y9 y10 y11 G) y1 y2 y3 y4 y9 y10 y11 G
theorem l2 (P : PT) : LQ k1 (L2 P) (B17 P) := fun ⟨_,_,_,_,_,_,_,_⟩ _ ⟨I, μ, h0, hI⟩ => ⟨apT _ I, apT _ μ, h0, fun ⟨_,_,_,_,_,_,_,_⟩ _ h => hI _ _ _ _ _ _ _ _  h⟩
abbrev k6 : Sk := [(1,.v),(2,.i .i64),(3,.i .i64),(4,.x),(9,.v),(10,.v)]
noncomputable def o18 := ob Try.f75 [.r,.r,.r,.l,.l]
def B18 (P : PT) (x1 : Value) (x2 x3 : Int) (x4 : Nat) (x9 x10 : Value) (H : AHeap) : Prop :=
  L2 P x1 x2 x3 x4 x9 x10 0 H
theorem q18 (P : PT) : QB Try.prog T0 86 o18 (En 86 k1 (L2 P)) k6 (B18 P) := fun _ _ _ _ _ _ _ _  => by kernel_rfl
noncomputable def o19 := ob Try.f75 [.r,.r,.l]
def B19 (P : PT) (x1 : Value) (x2 x3 : Int) (x4 : Nat) (x9 x10 : Value) (H : AHeap) : Prop :=
  idxK x9 x2 1 (fun b1 o2 => stK H b1 o2 [(Value.bool true)] (fun H3 => B18 P x1 x2 x3 x4 x9 x10 H3))
theorem q19 (P : PT) : QB Try.prog T0 86 o19 (En 86 k6 (B18 P)) k6 (B19 P) := fun _ _ _ _ _ _ _ _  => by kernel_rfl
abbrev k7 : Sk := [(1,.v),(2,.i .i64),(3,.i .i64),(4,.x)]
noncomputable def o20 := ob Try.f75 [.r,.l]
def B20 (P : PT) (x1 : Value) (x2 x3 : Int) (x4 : Nat) (H : AHeap) : Prop :=
  lenK x1 (fun n1 => mkR H 1 4 [(Value.bool false)] (n1 : Int) (n1 : Int) (fun v3 H2 => newK H2 [(Value.int .i64 x2)] 2 (fun b4 H5 => B19 P x1 x2 x3 x4 v3 (Value.slice (some ⟨b4, 0, none⟩) 1 (1 + 1)) H5)))
theorem q20 (P : PT) : QB Try.prog T0 86 o20 (En 86 k6 (B19 P)) k7 (B20 P) := fun _ _ _ _ _ _  => by kernel_rfl
abbrev k8 : Sk := [(0,.g [.i,.v]),(1,.v),(2,.i .i64),(3,.i .i64)]
noncomputable def o21 := ob Try.f75 [.l]
def B21 (P : PT) (x0a : Int) (x0b x1 : Value) (x2 x3 : Int) (H : AHeap) : Prop :=
  newK H [(Value.int .i64 x0a), x0b] 31 (fun b1 H2 => B20 P x1 x2 x3 b1 H2)
theorem q21 (P : PT) : QB Try.prog T0 86 o21 (En 86 k7 (B20 P)) k8 (B21 P) := fun _ _ _ _ _ _ _  => by kernel_rfl
noncomputable def code : Code := (.seq (.region 0 ⟨o21⟩ false) (.seq (.region 1 ⟨o20⟩ false) (.seq (.region 2 ⟨o19⟩ false) (.seq (.seq (.region 3 ⟨o18⟩ false) (.block 0 (.loop (.seq (.seq (.region 4 ⟨o17⟩ false) (.cond (.tmp 27) .skip (.exit 0))) (.seq (.block 1 (.seq (.region 6 ⟨o16⟩ false) (.block 2 (.loop (.seq (.seq (.region 7 ⟨o15⟩ false) (.cond (.tmp 31) .skip (.exit 2))) (.seq (.block 3 (.seq (.region 9 ⟨o14⟩ true) (.seq (.region 10 ⟨o13⟩ false) (.block 4 (.loop (.seq (.seq (.region 11 ⟨o12⟩ false) (.cond (.tmp 47) .skip (.exit 4))) (.seq (.block 5 (.seq (.region 13 ⟨o11⟩ false) (.seq (.region 14 ⟨o10⟩ true) (.cond (.tmp 77) (.seq (.region 15 ⟨o9⟩ false) (.region 16 ⟨o8⟩ false)) .skip)))) (.region 12 ⟨o7⟩ false)))))))) (.region 8 ⟨o5⟩ false))))))) (.region 5 ⟨o3⟩ false)))))) (.seq (.region 17 ⟨o1⟩ false) .ret)))))
theorem body : Try.f75.body = some code := by kernel_rfl
theorem main (P : PT) : ∀ env H, (En 86 k8 (B21 P)) env H → AW Try.prog T0 code env H (mkQ (ret P) (fun _ _ _ => False) (ret P)) :=
  (r_seq (rB T0_ok (q21 P)) (r_seq (rB T0_ok (q20 P)) (r_seq (rB T0_ok (q19 P)) (r_seq (r_seq (rB T0_ok (q18 P)) (r_block (rL (l2 P) (fun N2 => (r_seq (r_seq (rB T0_ok (q17 P N2)) (r_cond rfl r_skip (r_exit (fun _ _ h => h)))) (r_seq (r_block (r_seq (rB T0_ok (q16 P N2)) (r_block (rL (l4 P N2) (fun N4 => (r_seq (r_seq (rB T0_ok (q15 P N2 N4)) (r_cond rfl r_skip (r_exit (fun _ _ h => h)))) (r_seq (r_block (r_seq (rD T0_ok mixed [(0, false), (1, false), (2, false), (3, false), (4, false), (5, false), (6, false), (7, false), (8, false), (9, false), (10, false), (11, false), (12, false)] (by kernel_rfl) (q14 P N2 N4)) (r_seq (rB T0_ok (q13 P N2 N4)) (r_block (rL (l6 P N2 N4) (fun N6 => (r_seq (r_seq (rB T0_ok (q12 P N2 N4 N6)) (r_cond rfl r_skip (r_exit (fun _ _ h => h)))) (r_seq (r_block (r_seq (rB T0_ok (q11 P N2 N4 N6)) (r_seq (rD T0_ok mixed [(0, false), (1, false), (2, false), (3, false), (4, false), (5, false), (6, false), (7, false), (8, false), (9, false), (10, false), (11, false), (12, false), (13, false), (14, false), (15, false), (16, false), (17, false), (18, false), (19, false), (20, false), (21, false), (22, false), (23, false)] (by kernel_rfl) (q10 P N2 N4 N6)) (r_cond rfl (r_seq (rB T0_ok (q9 P N2 N4 N6)) (rB T0_ok (q8 P N2 N4 N6))) r_skip)))) (rB T0_ok (q7 P N2 N4 N6)))))))))) (rB T0_ok (q5 P N2 N4))))))))) (rB T0_ok (q3 P N2)))))))) (r_seq (rB T0_ok (q1 P)) r_ret)))))
theorem ac (P : PT) (x0a : Int) (x0b x1 : Value) (x2 x3 : Int) (H : AHeap) (h : B21 P x0a x0b x1 x2 x3 H) : AC Try.prog T0 75 [(Value.agg ⟨[(Value.int .i64 x0a), x0b]⟩), x1, (Value.int .i64 x2), (Value.int .i64 x3)] H P :=
  r_fn T0_ok (c := code) (n := 86) Try.func75 body (by kernel_rfl) (main P) (En_mk (x0a, x0b, x1, x2, x3, ()) (by kernel_rfl) ⟨by kernel_rfl, by kernel_rfl, by kernel_rfl, by kernel_rfl, trivial⟩ h)

end F75
-- loop.example/g01329/laws.toEdge
namespace F76
noncomputable def ret (P : PT) : EP := retE T0 15 Try.f76 P
abbrev k0 : Sk := [(2,.x),(3,.x)]
noncomputable def o1 := ob Try.f76 [.r,.r,.r,.l]
def B1 (P : PT) (x2 x3 : Nat) (H : AHeap) : Prop :=
  ldI .i64 H x3 0 (fun v1 => ldI .i64 H x3 1 (fun v2 => stK H x2 0 [(Value.int .i64 v1), (Value.int .i64 v2)] (fun H3 => ldI .i64 H3 x2 0 (fun v4 => ldI .i64 H3 x2 1 (fun v5 => P (Value.agg ⟨[(Value.int .i64 v4), (Value.int .i64 v5)]⟩) H3)))))
theorem q1 (P : PT) : QB Try.prog T0 15 o1 (ret P) k0 (B1 P) := fun _ _ _ _  => by kernel_rfl
abbrev k1 : Sk := [(1,.x),(2,.x),(3,.x),(4,.i .i64)]
noncomputable def o3 := ob Try.f76 [.r,.r,.l,.r,.l,.l,.r,.r]
def B3 (P : PT) (N2 : NTy k1 Pr) (x1 x2 x3 : Nat) (x4 : Int) (H : AHeap) : Prop :=
  N2 x1 x2 x3 (IntKind.i64.wrap (x4 + 1)) H
theorem q3 (P : PT) (N2 : NTy k1 Pr) : QB Try.prog T0 15 o3 (En 15 k1 N2) k1 (B3 P N2) := fun _ _ _ _ _ _  => by kernel_rfl
noncomputable def o4 := ob Try.f76 [.r,.r,.l,.r,.l,.l,.r,.l,.l]
def B4 (P : PT) (N2 : NTy k1 Pr) (x1 x2 x3 : Nat) (x4 : Int) (H : AHeap) : Prop :=
  bndK x4 2 (ldI .i64 H x1 (0 + Int.toNat x4 * 1) (fun v1 => bndK x4 2 (stK H x3 (0 + Int.toNat x4 * 1) [(Value.int .i64 v1)] (fun H2 => B3 P N2 x1 x2 x3 x4 H2))))
theorem q4 (P : PT) (N2 : NTy k1 Pr) : QB Try.prog T0 15 o4 (En 15 k1 (B3 P N2)) k1 (B4 P N2) := fun _ _ _ _ _ _  => by kernel_rfl
noncomputable def o5 := ob Try.f76 [.r,.r,.l,.r,.l,.l,.l,.l]
def B5 (P : PT) (N2 : NTy k1 Pr) (x1 x2 x3 : Nat) (x4 : Int) (H : AHeap) : Prop :=
  pif (decide ((x4 : Int) < 2)) (B4 P N2 x1 x2 x3 x4 H) (B1 P x2 x3 H)
theorem q5 (P : PT) (N2 : NTy k1 Pr) : QB Try.prog T0 15 o5 (cnd 6 (En 15 k1 (B4 P N2)) (En 15 k0 (B1 P))) k1 (B5 P N2) := fun _ _ _ _ _ _  => by kernel_rfl
def L2 (P : PT) (x1 x2 x3 : Nat) (x4 : Int) (H : AHeap) : Prop :=
  ∃ (I : NTy k1 Pr) (μ : NTy k1 (AHeap → Nat)), I x1 x2 x3 x4 H ∧ ∀ y1 y2 y3 y4 G, I y1 y2 y3 y4 G → B5 P (fun z1 z2 z3 z4 G' => I z1 z2 z3 z4 G' ∧ μ z1 z2 z3 z4 G' < μ y1 y2 y3 y4 G) y1 y2 y3 y4 G
theorem l2 (P : PT) : LQ k1 (L2 P) (B5 P) := fun ⟨_,_,_,_,_⟩ _ ⟨I, μ, h0, hI⟩ => ⟨apT _ I, apT _ μ, h0, fun ⟨_,_,_,_,_⟩ _ h => hI _ _ _ _ _  h⟩
abbrev k2 : Sk := [(1,.x),(2,.x),(3,.x)]
noncomputable def o6 := ob Try.f76 [.r,.r,.l,.l]
def B6 (P : PT) (x1 x2 x3 : Nat) (H : AHeap) : Prop :=
  L2 P x1 x2 x3 0 H
theorem q6 (P : PT) : QB Try.prog T0 15 o6 (En 15 k1 (L2 P)) k2 (B6 P) := fun _ _ _ _ _  => by kernel_rfl
abbrev k3 : Sk := [(1,.x),(2,.x)]
noncomputable def o7 := ob Try.f76 [.r,.l]
def B7 (P : PT) (x1 x2 : Nat) (H : AHeap) : Prop :=
  newK H [(Value.int .i64 0), (Value.int .i64 0)] 67 (fun b1 H2 => B6 P x1 x2 b1 H2)
theorem q7 (P : PT) : QB Try.prog T0 15 o7 (En 15 k2 (B6 P)) k3 (B7 P) := fun _ _ _ _  => by kernel_rfl
abbrev k4 : Sk := [(0,.g [.i,.i])]
noncomputable def o8 := ob Try.f76 [.l]
def B8 (P : PT) (x0a x0b : Int) (H : AHeap) : Prop :=
  newK H [(Value.int .i64 x0a), (Value.int .i64 x0b)] 66 (fun b1 H2 => newK H2 [(Value.int .i64 0), (Value.int .i64 0)] 67 (fun b3 H4 => B7 P b1 b3 H4))
theorem q8 (P : PT) : QB Try.prog T0 15 o8 (En 15 k3 (B7 P)) k4 (B8 P) := fun _ _ _ _  => by kernel_rfl
noncomputable def code : Code := (.seq (.region 0 ⟨o8⟩ false) (.seq (.region 1 ⟨o7⟩ false) (.seq (.seq (.region 2 ⟨o6⟩ false) (.block 0 (.loop (.seq (.seq (.region 3 ⟨o5⟩ false) (.cond (.tmp 6) .skip (.exit 0))) (.seq (.block 1 (.region 5 ⟨o4⟩ false)) (.region 4 ⟨o3⟩ false)))))) (.seq (.region 6 ⟨o1⟩ false) .ret))))
theorem body : Try.f76.body = some code := by kernel_rfl
theorem main (P : PT) : ∀ env H, (En 15 k4 (B8 P)) env H → AW Try.prog T0 code env H (mkQ (ret P) (fun _ _ _ => False) (ret P)) :=
  (r_seq (rB T0_ok (q8 P)) (r_seq (rB T0_ok (q7 P)) (r_seq (r_seq (rB T0_ok (q6 P)) (r_block (rL (l2 P) (fun N2 => (r_seq (r_seq (rB T0_ok (q5 P N2)) (r_cond rfl r_skip (r_exit (fun _ _ h => h)))) (r_seq (r_block (rB T0_ok (q4 P N2))) (rB T0_ok (q3 P N2)))))))) (r_seq (rB T0_ok (q1 P)) r_ret))))
theorem ac (P : PT) (x0a x0b : Int) (H : AHeap) (h : B8 P x0a x0b H) : AC Try.prog T0 76 [(Value.agg ⟨[(Value.int .i64 x0a), (Value.int .i64 x0b)]⟩)] H P :=
  r_fn T0_ok (c := code) (n := 15) Try.func76 body (by kernel_rfl) (main P) (En_mk (x0a, x0b, ()) (by kernel_rfl) ⟨by kernel_rfl, trivial⟩ h)

end F76
-- loop.example/g01329/impl.IsGraph
namespace F77
noncomputable def ret (P : PT) : EP := retE T0 25 Try.f77 P
abbrev k0 : Sk := [(1,.x)]
noncomputable def o1 := ob Try.f77 [.r,.l]
def B1 (P : PT) (x1 : Nat) (H : AHeap) : Prop :=
  ldI .i64 H x1 0 (fun v1 => ld1 H x1 1 (fun v2 => AC Try.prog T0 131 [(Value.int .i64 v1), v2] H (fun v3 H4 => asB v3 (fun v5 => pif v5 (ld1 H4 x1 1 (fun v6 => AC Try.prog T0 132 [v6, (Value.func (.func 133) ⟨[]⟩ ⟨[]⟩)] H4 (fun v7 H8 => asB v7 (fun v9 => pif v9 (ld1 H8 x1 1 (fun v10 => AC Try.prog T0 134 [v10, (Value.func (.func 135) ⟨[]⟩ ⟨[]⟩)] H8 (fun v11 H12 => asB v11 (fun v13 => pif v13 (ldI .i64 H12 x1 0 (fun v14 => ld1 H12 x1 1 (fun v15 => AC Try.prog T0 136 [(Value.int .i64 v14), v15] H12 (fun v16 H17 => asB v16 (fun v18 => P (Value.bool v18) H17))))) (P (Value.bool false) H12))))) (P (Value.bool false) H8))))) (P (Value.bool false) H4)))))
theorem q1 (P : PT) : QB Try.prog T0 25 o1 (ret P) k0 (B1 P) := fun _ _ _  => by kernel_rfl
abbrev k1 : Sk := [(0,.g [.i,.v])]
noncomputable def o2 := ob Try.f77 [.l]
def B2 (P : PT) (x0a : Int) (x0b : Value) (H : AHeap) : Prop :=
  newK H [(Value.int .i64 x0a), x0b] 31 (fun b1 H2 => B1 P b1 H2)
theorem q2 (P : PT) : QB Try.prog T0 25 o2 (En 25 k0 (B1 P)) k1 (B2 P) := fun _ _ _ _  => by kernel_rfl
noncomputable def code : Code := (.seq (.region 0 ⟨o2⟩ false) (.seq (.region 1 ⟨o1⟩ false) .ret))
theorem body : Try.f77.body = some code := by kernel_rfl
theorem main (P : PT) : ∀ env H, (En 25 k1 (B2 P)) env H → AW Try.prog T0 code env H (mkQ (ret P) (fun _ _ _ => False) (ret P)) :=
  (r_seq (rB T0_ok (q2 P)) (r_seq (rB T0_ok (q1 P)) r_ret))
theorem ac (P : PT) (x0a : Int) (x0b : Value) (H : AHeap) (h : B2 P x0a x0b H) : AC Try.prog T0 77 [(Value.agg ⟨[(Value.int .i64 x0a), x0b]⟩)] H P :=
  r_fn T0_ok (c := code) (n := 25) Try.func77 body (by kernel_rfl) (main P) (En_mk (x0a, x0b, ()) (by kernel_rfl) ⟨by kernel_rfl, trivial⟩ h)

end F77
-- loop.example/g01329/impl.isColour
namespace F78
noncomputable def ret (P : PT) : EP := retE T0 5 Try.f78 P
abbrev k0 : Sk := [(0,.i .i64)]
noncomputable def o1 := ob Try.f78 [.r,.l]
def B1 (P : PT) (x0 : Int) (H : AHeap) : Prop :=
  AC Try.prog T0 53 [(Value.int .i64 x0), (Value.int .i64 0), (Value.int .i64 2)] H (fun v1 H2 => asB v1 (fun v3 => P (Value.bool v3) H2))
theorem q1 (P : PT) : QB Try.prog T0 5 o1 (ret P) k0 (B1 P) := fun _ _ _  => by kernel_rfl
noncomputable def o2 := ob Try.f78 [.l]
def B2 (P : PT) (x0 : Int) (H : AHeap) : Prop :=
  B1 P x0 H
theorem q2 (P : PT) : QB Try.prog T0 5 o2 (En 5 k0 (B1 P)) k0 (B2 P) := fun _ _ _  => by kernel_rfl
noncomputable def code : Code := (.seq (.region 0 ⟨o2⟩ false) (.seq (.region 1 ⟨o1⟩ false) .ret))
theorem body : Try.f78.body = some code := by kernel_rfl
theorem main (P : PT) : ∀ env H, (En 5 k0 (B2 P)) env H → AW Try.prog T0 code env H (mkQ (ret P) (fun _ _ _ => False) (ret P)) :=
  (r_seq (rB T0_ok (q2 P)) (r_seq (rB T0_ok (q1 P)) r_ret))
theorem ac (P : PT) (x0 : Int) (H : AHeap) (h : B2 P x0 H) : AC Try.prog T0 78 [(Value.int .i64 x0)] H P :=
  r_fn T0_ok (c := code) (n := 5) Try.func78 body (by kernel_rfl) (main P) (En_mk (x0, ()) (by kernel_rfl) ⟨by kernel_rfl, trivial⟩ h)

end F78
-- (loop.example/g01329/impl.set).has
namespace F79
noncomputable def ret (P : PT) : EP := retE T0 10 Try.f79 P
abbrev k0 : Sk := [(0,.i .u64),(1,.i .i64)]
noncomputable def o1 := ob Try.f79 [.r,.l]
def B1 (P : PT) (x0 x1 : Int) (H : AHeap) : Prop :=
  ((0 : Int) ≤ x1) ∧ (P (Value.bool ((IntKind.u64.wrap (BitVec.ofInt 64 (Int.fdiv x0 (2 ^ (min (Int.toNat x1) 64))) &&& BitVec.ofInt 64 1).toNat : Int) == 1)) H)
theorem q1 (P : PT) : QB Try.prog T0 10 o1 (ret P) k0 (B1 P) := fun _ _ _ _  => by kernel_rfl
noncomputable def o2 := ob Try.f79 [.l]
def B2 (P : PT) (x0 x1 : Int) (H : AHeap) : Prop :=
  B1 P x0 x1 H
theorem q2 (P : PT) : QB Try.prog T0 10 o2 (En 10 k0 (B1 P)) k0 (B2 P) := fun _ _ _ _  => by kernel_rfl
noncomputable def code : Code := (.seq (.region 0 ⟨o2⟩ false) (.seq (.region 1 ⟨o1⟩ false) .ret))
theorem body : Try.f79.body = some code := by kernel_rfl
theorem main (P : PT) : ∀ env H, (En 10 k0 (B2 P)) env H → AW Try.prog T0 code env H (mkQ (ret P) (fun _ _ _ => False) (ret P)) :=
  (r_seq (rB T0_ok (q2 P)) (r_seq (rB T0_ok (q1 P)) r_ret))
theorem ac (P : PT) (x0 x1 : Int) (H : AHeap) (h : B2 P x0 x1 H) : AC Try.prog T0 79 [(Value.int .u64 x0), (Value.int .i64 x1)] H P :=
  r_fn T0_ok (c := code) (n := 10) Try.func79 body (by kernel_rfl) (main P) (En_mk (x0, x1, ()) (by kernel_rfl) ⟨by kernel_rfl, by kernel_rfl, trivial⟩ h)

end F79
-- slices.Clone[[]int64,int64]
namespace F80
noncomputable def ret (P : PT) : EP := retE T0 8 Try.f80 P
abbrev k0 : Sk := [(0,.v)]
noncomputable def o1 := ob Try.f80 [.r,.r,.l]
def B1 (P : PT) (x0 : Value) (H : AHeap) : Prop :=
  newK H [] 2 (fun b1 H2 => apK T0 2 H2 (Value.slice (some ⟨b1, 0, none⟩) 0 (0 + 1)) x0 (fun v3 H4 => P v3 H4))
theorem q1 (P : PT) : QB Try.prog T0 8 o1 (ret P) k0 (B1 P) := fun _ _ _  => by kernel_rfl
abbrev k1 : Sk := []
noncomputable def o2 := ob Try.f80 [.r,.l,.r,.l,.l]
def B2 (P : PT) (H : AHeap) : Prop :=
  P (Value.slice none 0 0) H
theorem q2 (P : PT) : QB Try.prog T0 8 o2 (ret P) k1 (B2 P) := fun _ _  => by kernel_rfl
noncomputable def o3 := ob Try.f80 [.r,.l,.l]
def B3 (P : PT) (x0 : Value) (H : AHeap) : Prop :=
  isNilK x0 (fun v1 => pif v1 (B2 P H) (B1 P x0 H))
theorem q3 (P : PT) : QB Try.prog T0 8 o3 (cnd 4 (En 8 k1 (B2 P)) (En 8 k0 (B1 P))) k0 (B3 P) := fun _ _ _  => by kernel_rfl
noncomputable def o4 := ob Try.f80 [.l]
def B4 (P : PT) (x0 : Value) (H : AHeap) : Prop :=
  B3 P x0 H
theorem q4 (P : PT) : QB Try.prog T0 8 o4 (En 8 k0 (B3 P)) k0 (B4 P) := fun _ _ _  => by kernel_rfl
noncomputable def code : Code := (.seq (.region 0 ⟨o4⟩ false) (.seq (.seq (.region 1 ⟨o3⟩ false) (.cond (.tmp 4) (.seq (.region 2 ⟨o2⟩ false) .ret) .skip)) (.seq (.region 3 ⟨o1⟩ false) .ret)))
theorem body : Try.f80.body = some code := by kernel_rfl
theorem main (P : PT) : ∀ env H, (En 8 k0 (B4 P)) env H → AW Try.prog T0 code env H (mkQ (ret P) (fun _ _ _ => False) (ret P)) :=
  (r_seq (rB T0_ok (q4 P)) (r_seq (r_seq (rB T0_ok (q3 P)) (r_cond rfl (r_seq (rB T0_ok (q2 P)) r_ret) r_skip)) (r_seq (rB T0_ok (q1 P)) r_ret)))
theorem ac (P : PT) (x0 : Value) (H : AHeap) (h : B4 P x0 H) : AC Try.prog T0 80 [x0] H P :=
  r_fn T0_ok (c := code) (n := 8) Try.func80 body (by kernel_rfl) (main P) (En_mk (x0, ()) (by kernel_rfl) ⟨by kernel_rfl, trivial⟩ h)

end F80
-- (loop.example/g01329/impl.Graph).chain
namespace F81
noncomputable def ret (P : PT) : EP := retE T0 76 Try.f81 P
abbrev k0 : Sk := [(9,.i .u64)]
noncomputable def o1 := ob Try.f81 [.r,.r,.r,.l]
def B1 (P : PT) (x9 : Int) (H : AHeap) : Prop :=
  P (Value.int .u64 x9) H
theorem q1 (P : PT) : QB Try.prog T0 76 o1 (ret P) k0 (B1 P) := fun _ _ _  => by kernel_rfl
abbrev k1 : Sk := [(1,.v),(2,.i .i64),(3,.i .i64),(4,.x),(9,.i .u64),(10,.v)]
noncomputable def o3 := ob Try.f81 [.r,.r,.l,.r,.l,.l,.r,.r]
def B3 (P : PT) (N2 : NTy k1 Pr) (x1 : Value) (x2 x3 : Int) (x4 : Nat) (x9 : Int) (x10 : Value) (H : AHeap) : Prop :=
  sliceK H 2 x10 (some (Value.int .i64 1)) none 1 (fun v1 => N2 x1 x2 x3 x4 x9 v1 H)
theorem q3 (P : PT) (N2 : NTy k1 Pr) : QB Try.prog T0 76 o3 (En 76 k1 N2) k1 (B3 P N2) := fun _ _ _ _ _ _ _ _  => by kernel_rfl
abbrev k2 : Sk := [(1,.v),(2,.i .i64),(3,.i .i64),(4,.x),(9,.i .u64),(10,.v),(30,.g [.i,.i]),(31,.i .i64)]
noncomputable def o5 := ob Try.f81 [.r,.r,.l,.r,.l,.l,.r,.l,.l,.r,.l,.l,.r,.r,.r]
def B5 (P : PT) (N2 : NTy k1 Pr) (N4 : NTy k2 Pr) (x1 : Value) (x2 x3 : Int) (x4 : Nat) (x9 : Int) (x10 : Value) (x30a x30b x31 : Int) (H : AHeap) : Prop :=
  N4 x1 x2 x3 x4 x9 x10 x30a x30b (IntKind.i64.wrap (x31 + 1)) H
theorem q5 (P : PT) (N2 : NTy k1 Pr) (N4 : NTy k2 Pr) : QB Try.prog T0 76 o5 (En 76 k2 N4) k2 (B5 P N2 N4) := fun _ _ _ _ _ _ _ _ _ _ _  => by kernel_rfl
abbrev k3 : Sk := [(1,.v),(2,.i .i64),(3,.i .i64),(4,.x),(9,.i .u64),(10,.v),(30,.g [.i,.i]),(31,.i .i64),(36,.v),(37,.i .i64),(38,.i .i64)]
noncomputable def o7 := ob Try.f81 [.r,.r,.l,.r,.l,.l,.r,.l,.l,.r,.l,.l,.r,.r,.l,.l,.r,.r,.l,.l,.r,.r,.r]
def B7 (P : PT) (N2 : NTy k1 Pr) (N4 : NTy k2 Pr) (N6 : NTy k3 Pr) (x1 : Value) (x2 x3 : Int) (x4 : Nat) (x9 : Int) (x10 : Value) (x30a x30b x31 : Int) (x36 : Value) (x37 x38 : Int) (H : AHeap) : Prop :=
  N6 x1 x2 x3 x4 x9 x10 x30a x30b x31 x36 x37 (IntKind.i64.wrap (x38 + 1)) H
theorem q7 (P : PT) (N2 : NTy k1 Pr) (N4 : NTy k2 Pr) (N6 : NTy k3 Pr) : QB Try.prog T0 76 o7 (En 76 k3 N6) k3 (B7 P N2 N4 N6) := fun _ _ _ _ _ _ _ _ _ _ _ _ _ _  => by kernel_rfl
abbrev k4 : Sk := [(1,.v),(2,.i .i64),(3,.i .i64),(4,.x),(9,.i .u64),(10,.v),(14,.i .i64),(30,.g [.i,.i]),(31,.i .i64),(36,.v),(37,.i .i64),(38,.i .i64)]
noncomputable def o8 := ob Try.f81 [.r,.r,.l,.r,.l,.l,.r,.l,.l,.r,.l,.l,.r,.r,.l,.l,.r,.r,.l,.l,.r,.r,.l,.l,.r,.r,.l,.r]
def B8 (P : PT) (N2 : NTy k1 Pr) (N4 : NTy k2 Pr) (N6 : NTy k3 Pr) (x1 : Value) (x2 x3 : Int) (x4 : Nat) (x9 : Int) (x10 : Value) (x14 x30a x30b x31 : Int) (x36 : Value) (x37 x38 : Int) (H : AHeap) : Prop :=
  newK H [(Value.int .i64 x14)] 2 (fun b1 H2 => apK T0 2 H2 x10 (Value.slice (some ⟨b1, 0, none⟩) 1 (1 + 1)) (fun v3 H4 => B7 P N2 N4 N6 x1 x2 x3 x4 x9 v3 x30a x30b x31 x36 x37 x38 H4))
theorem q8 (P : PT) (N2 : NTy k1 Pr) (N4 : NTy k2 Pr) (N6 : NTy k3 Pr) : QB Try.prog T0 76 o8 (En 76 k3 (B7 P N2 N4 N6)) k4 (B8 P N2 N4 N6) := fun _ _ _ _ _ _ _ _ _ _ _ _ _ _ _  => by kernel_rfl
noncomputable def o9 := ob Try.f81 [.r,.r,.l,.r,.l,.l,.r,.l,.l,.r,.l,.l,.r,.r,.l,.l,.r,.r,.l,.l,.r,.r,.l,.l,.r,.r,.l,.l]
def B9 (P : PT) (N2 : NTy k1 Pr) (N4 : NTy k2 Pr) (N6 : NTy k3 Pr) (x1 : Value) (x2 x3 : Int) (x4 : Nat) (x9 : Int) (x10 : Value) (x14 x30a x30b x31 : Int) (x36 : Value) (x37 x38 : Int) (H : AHeap) : Prop :=
  ((0 : Int) ≤ x14) ∧ (B8 P N2 N4 N6 x1 x2 x3 x4 (IntKind.u64.wrap (BitVec.ofInt 64 x9 ||| BitVec.ofInt 64 (IntKind.u64.wrap (1 * 2 ^ (min (Int.toNat x14) 64)))).toNat) x10 x14 x30a x30b x31 x36 x37 x38 H)
theorem q9 (P : PT) (N2 : NTy k1 Pr) (N4 : NTy k2 Pr) (N6 : NTy k3 Pr) : QB Try.prog T0 76 o9 (En 76 k4 (B8 P N2 N4 N6)) k4 (B9 P N2 N4 N6) := fun _ _ _ _ _ _ _ _ _ _ _ _ _ _ _  => by kernel_rfl
noncomputable def o10 := ob Try.f81 [.r,.r,.l,.r,.l,.l,.r,.l,.l,.r,.l,.l,.r,.r,.l,.l,.r,.r,.l,.l,.r,.r,.l,.l,.r,.l]
def B10 (P : PT) (N2 : NTy k1 Pr) (N4 : NTy k2 Pr) (N6 : NTy k3 Pr) (x1 : Value) (x2 x3 : Int) (x4 : Nat) (x9 : Int) (x10 : Value) (x14 x30a x30b x31 : Int) (x36 : Value) (x37 x38 : Int) (H : AHeap) : Prop :=
  AC Try.prog T0 79 [(Value.int .u64 x9), (Value.int .i64 x14)] H (fun v1 H2 => asB v1 (fun v3 => pif (!v3) (idxK x1 x14 1 (fun b4 o5 => ldI .i64 H2 b4 o5 (fun v6 => idxK x1 x2 1 (fun b7 o8 => ldI .i64 H2 b7 o8 (fun v9 => pif ((v6 : Int) == v9) (B9 P N2 N4 N6 x1 x2 x3 x4 x9 x10 x14 x30a x30b x31 x36 x37 x38 H2) (idxK x1 x14 1 (fun b10 o11 => ldI .i64 H2 b10 o11 (fun v12 => pif ((v12 : Int) == x3) (B9 P N2 N4 N6 x1 x2 x3 x4 x9 x10 x14 x30a x30b x31 x36 x37 x38 H2) (B7 P N2 N4 N6 x1 x2 x3 x4 x9 x10 x30a x30b x31 x36 x37 x38 H2))))))))) (B7 P N2 N4 N6 x1 x2 x3 x4 x9 x10 x30a x30b x31 x36 x37 x38 H2)))
theorem q10 (P : PT) (N2 : NTy k1 Pr) (N4 : NTy k2 Pr) (N6 : NTy k3 Pr) : QD Try.prog T0 76 o10 [(0, false), (1, false), (2, false), (3, false), (4, false), (5, false), (6, false), (7, false), (8, false), (9, false), (10, false), (11, false), (12, false), (13, false), (14, false), (15, false), (16, false), (17, false), (18, false), (19, false), (20, false), (21, false), (22, false)] (cnd 64 (En 76 k4 (B9 P N2 N4 N6)) (En 76 k3 (B7 P N2 N4 N6))) k4 (B10 P N2 N4 N6) := fun _ _ _ _ _ _ _ _ _ _ _ _ _ _ _  => by kernel_rfl
noncomputable def o11 := ob Try.f81 [.r,.r,.l,.r,.l,.l,.r,.l,.l,.r,.l,.l,.r,.r,.l,.l,.r,.r,.l,.l,.r,.r,.l,.l,.l]
def B11 (P : PT) (N2 : NTy k1 Pr) (N4 : NTy k2 Pr) (N6 : NTy k3 Pr) (x1 : Value) (x2 x3 : Int) (x4 : Nat) (x9 : Int) (x10 : Value) (x30a x30b x31 : Int) (x36 : Value) (x37 x38 : Int) (H : AHeap) : Prop :=
  idxK x36 x38 1 (fun b1 o2 => ldI .i64 H b1 o2 (fun v3 => B10 P N2 N4 N6 x1 x2 x3 x4 x9 x10 v3 x30a x30b x31 x36 x37 x38 H))
theorem q11 (P : PT) (N2 : NTy k1 Pr) (N4 : NTy k2 Pr) (N6 : NTy k3 Pr) : QB Try.prog T0 76 o11 (En 76 k4 (B10 P N2 N4 N6)) k3 (B11 P N2 N4 N6) := fun _ _ _ _ _ _ _ _ _ _ _ _ _ _  => by kernel_rfl
noncomputable def o12 := ob Try.f81 [.r,.r,.l,.r,.l,.l,.r,.l,.l,.r,.l,.l,.r,.r,.l,.l,.r,.r,.l,.l,.l]
def B12 (P : PT) (N2 : NTy k1 Pr) (N4 : NTy k2 Pr) (N6 : NTy k3 Pr) (x1 : Value) (x2 x3 : Int) (x4 : Nat) (x9 : Int) (x10 : Value) (x30a x30b x31 : Int) (x36 : Value) (x37 x38 : Int) (H : AHeap) : Prop :=
  pif (decide ((x38 : Int) < x37)) (B11 P N2 N4 N6 x1 x2 x3 x4 x9 x10 x30a x30b x31 x36 x37 x38 H) (B5 P N2 N4 x1 x2 x3 x4 x9 x10 x30a x30b x31 H)
theorem q12 (P : PT) (N2 : NTy k1 Pr) (N4 : NTy k2 Pr) (N6 : NTy k3 Pr) : QB Try.prog T0 76 o12 (cnd 39 (En 76 k3 (B11 P N2 N4 N6)) (En 76 k2 (B5 P N2 N4))) k3 (B12 P N2 N4 N6) := fun _ _ _ _ _ _ _ _ _ _ _ _ _ _  => by kernel_rfl
def L6 (P : PT) (N2 : NTy k1 Pr) (N4 : NTy k2 Pr) (x1 : Value) (x2 x3 : Int) (x4 : Nat) (x9 : Int) (x10 : Value) (x30a x30b x31 : Int) (x36 : Value) (x37 x38 : Int) (H : AHeap) : Prop :=
  ∃ (I : NTy k3 Pr) (μ : NTy k3 (AHeap → Nat)), I x1 x2 x3 x4 x9 x10 x30a x30b x31 x36 x37 x38 H ∧ ∀ y1 y2 y3 y4 y9 y10 y30a y30b y31 y36 y37 y38 G, I y1 y2 y3 y4 y9 y10 y30a y30b y31 y36 y37 y38 G → B12 P N2 N4 (fun z1 z2 z3 z4 z9 z10 z30a z30b z31 z36 z37 z38 G' => I z1 z2 z3 z4 z9 z10 z30a z30b z31 z36 z37 z38 G' ∧ μ z1 z2 z3 z4 z9 z10 z30a z30b z31 z36 z37 z38 G' < μ y1 y2 y3 y4 y9 y10 y30a y30b y31 y36 y37 y38 G) y1 y2 y3 y4 y9 y10 y30a y30b y31 y36 y37 y38 G
theorem l6 (P : PT) (N2 : NTy k1 Pr) (N4 : NTy k2 Pr) : LQ k3 (L6 P N2 N4) (B12 P N2 N4) := fun ⟨_,_,_,_,_,_,_,_,_,_,_,_,_⟩ _ ⟨I, μ, h0, hI⟩ => ⟨apT _ I, apT _ μ, h0, fun ⟨_,_,_,_,_,_,_,_,_,_,_,_,_⟩ _ h => hI _ _ _ _ _ _ _ _ _ _ _ _ _  h⟩
abbrev k5 : Sk := [(1,.v),(2,.i .i64),(3,.i .i64),(4,.x),(9,.i .u64),(10,.v),(12,.i .i64),(30,.g [.i,.i]),(31,.i .i64)]
noncomputable def o13 := ob Try.f81 [.r,.r,.l,.r,.l,.l,.r,.l,.l,.r,.l,.l,.r,.r,.l,.l,.r,.l]
def B13 (P : PT) (N2 : NTy k1 Pr) (N4 : NTy k2 Pr) (x1 : Value) (x2 x3 : Int) (x4 : Nat) (x9 : Int) (x10 : Value) (x12 x30a x30b x31 : Int) (H : AHeap) : Prop :=
  ldI .i64 H x4 0 (fun v1 => ld1 H x4 1 (fun v2 => AC Try.prog T0 95 [(Value.agg ⟨[(Value.int .i64 v1), v2]⟩), (Value.int .i64 x12)] H (fun v3 H4 => lenK v3 (fun n6 => L6 P N2 N4 x1 x2 x3 x4 x9 x10 x30a x30b x31 v3 (n6 : Int) 0 H4))))
theorem q13 (P : PT) (N2 : NTy k1 Pr) (N4 : NTy k2 Pr) : QB Try.prog T0 76 o13 (En 76 k3 (L6 P N2 N4)) k5 (B13 P N2 N4) := fun _ _ _ _ _ _ _ _ _ _ _ _  => by kernel_rfl
noncomputable def o14 := ob Try.f81 [.r,.r,.l,.r,.l,.l,.r,.l,.l,.r,.l,.l,.r,.r,.l,.l,.l]
def B14 (P : PT) (N2 : NTy k1 Pr) (N4 : NTy k2 Pr) (x1 : Value) (x2 x3 : Int) (x4 : Nat) (x9 : Int) (x10 : Value) (x30a x30b x31 : Int) (H : AHeap) : Prop :=
  bndK x31 2 (atK [(Value.int .i64 x30a), (Value.int .i64 x30b)] (Int.toNat x31 * 1) (fun v1 => asI .i64 v1 (fun v2 => B13 P N2 N4 x1 x2 x3 x4 x9 x10 v2 x30a x30b x31 H)))
theorem q14 (P : PT) (N2 : NTy k1 Pr) (N4 : NTy k2 Pr) : QB Try.prog T0 76 o14 (En 76 k5 (B13 P N2 N4)) k2 (B14 P N2 N4) := fun _ _ _ _ _ _ _ _ _ _ _  => by kernel_rfl
noncomputable def o15 := ob Try.f81 [.r,.r,.l,.r,.l,.l,.r,.l,.l,.r,.l,.l,.l]
def B15 (P : PT) (N2 : NTy k1 Pr) (N4 : NTy k2 Pr) (x1 : Value) (x2 x3 : Int) (x4 : Nat) (x9 : Int) (x10 : Value) (x30a x30b x31 : Int) (H : AHeap) : Prop :=
  pif (decide ((x31 : Int) < 2)) (B14 P N2 N4 x1 x2 x3 x4 x9 x10 x30a x30b x31 H) (B3 P N2 x1 x2 x3 x4 x9 x10 H)
theorem q15 (P : PT) (N2 : NTy k1 Pr) (N4 : NTy k2 Pr) : QB Try.prog T0 76 o15 (cnd 32 (En 76 k2 (B14 P N2 N4)) (En 76 k1 (B3 P N2))) k2 (B15 P N2 N4) := fun _ _ _ _ _ _ _ _ _ _ _  => by kernel_rfl
def L4 (P : PT) (N2 : NTy k1 Pr) (x1 : Value) (x2 x3 : Int) (x4 : Nat) (x9 : Int) (x10 : Value) (x30a x30b x31 : Int) (H : AHeap) : Prop :=
  ∃ (I : NTy k2 Pr) (μ : NTy k2 (AHeap → Nat)), I x1 x2 x3 x4 x9 x10 x30a x30b x31 H ∧ ∀ y1 y2 y3 y4 y9 y10 y30a y30b y31 G, I y1 y2 y3 y4 y9 y10 y30a y30b y31 G → B15 P N2 (fun z1 z2 z3 z4 z9 z10 z30a z30b z31 G' => I z1 z2 z3 z4 z9 z10 z30a z30b z31 G' ∧ μ z1 z2 z3 z4 z9 z10 z30a z30b z31 G' < μ y1 y2 y3 y4 y9 y10 y30a y30b y31 G) y1 y2 y3 y4 y9 y10 y30a y30b y31 G
theorem l4 (P : PT) (N2 : NTy k1 Pr) : LQ k2 (L4 P N2) (B15 P N2) := fun ⟨_,_,_,_,_,_,_,_,_,_⟩ _ ⟨I, μ, h0, hI⟩ => ⟨apT _ I, apT _ μ, h0, fun ⟨_,_,_,_,_,_,_,_,_,_⟩ _ h => hI _ _ _ _ _ _ _ _ _ _  h⟩
noncomputable def o16 := ob Try.f81 [.r,.r,.l,.r,.l,.l,.r,.l,.l,.l]
def B16 (P : PT) (N2 : NTy k1 Pr) (x1 : Value) (x2 x3 : Int) (x4 : Nat) (x9 : Int) (x10 : Value) (H : AHeap) : Prop :=
  ld1 H x4 1 (fun v1 => idxK x10 0 1 (fun b2 o3 => ldI .i64 H b2 o3 (fun v4 => idxK v1 v4 2 (fun b5 o6 => ldI .i64 H b5 o6 (fun v7 => ldI .i64 H b5 (o6 + 1) (fun v8 => L4 P N2 x1 x2 x3 x4 x9 x10 v7 v8 0 H))))))
theorem q16 (P : PT) (N2 : NTy k1 Pr) : QD Try.prog T0 76 o16 [(0, false), (1, false), (2, false), (3, false), (4, false), (5, false), (6, false), (7, false)] (En 76 k2 (L4 P N2)) k1 (B16 P N2) := fun _ _ _ _ _ _ _ _  => by kernel_rfl
noncomputable def o17 := ob Try.f81 [.r,.r,.l,.r,.l,.l,.l,.l]
def B17 (P : PT) (N2 : NTy k1 Pr) (x1 : Value) (x2 x3 : Int) (x4 : Nat) (x9 : Int) (x10 : Value) (H : AHeap) : Prop :=
  lenK x10 (fun n1 => pif (decide (((n1 : Int) : Int) > 0)) (B16 P N2 x1 x2 x3 x4 x9 x10 H) (B1 P x9 H))
theorem q17 (P : PT) (N2 : NTy k1 Pr) : QB Try.prog T0 76 o17 (cnd 21 (En 76 k1 (B16 P N2)) (En 76 k0 (B1 P))) k1 (B17 P N2) := fun _ _ _ _ _ _ _ _  => by kernel_rfl
def L2 (P : PT) (x1 : Value) (x2 x3 : Int) (x4 : Nat) (x9 : Int) (x10 : Value) (H : AHeap) : Prop :=
  ∃ (I : NTy k1 Pr) (μ : NTy k1 (AHeap → Nat)), I x1 x2 x3 x4 x9 x10 H ∧ ∀ y1 y2 y3 y4 y9 y10 G, I y1 y2 y3 y4 y9 y10 G → B17 P (fun z1 z2 z3 z4 z9 z10 G' => I z1 z2 z3 z4 z9 z10 G' ∧ μ z1 z2 z3 z4 z9 z10 G' < μ y1 y2 y3 y4 y9 y10 G) y1 y2 y3 y4 y9 y10 G
theorem l2 (P : PT) : LQ k1 (L2 P) (B17 P) := fun ⟨_,_,_,_,_,_,_⟩ _ ⟨I, μ, h0, hI⟩ => ⟨apT _ I, apT _ μ, h0, fun ⟨_,_,_,_,_,_,_⟩ _ h => hI _ _ _ _ _ _ _  h⟩
abbrev k6 : Sk := [(1,.v),(2,.i .i64),(3,.i .i64),(4,.x),(9,.i .u64)]
noncomputable def o18 := ob Try.f81 [.r,.r,.l,.l]
def B18 (P : PT) (x1 : Value) (x2 x3 : Int) (x4 : Nat) (x9 : Int) (H : AHeap) : Prop :=
  newK H [(Value.int .i64 x2)] 2 (fun b1 H2 => L2 P x1 x2 x3 x4 x9 (Value.slice (some ⟨b1, 0, none⟩) 1 (1 + 1)) H2)
theorem q18 (P : PT) : QB Try.prog T0 76 o18 (En 76 k1 (L2 P)) k6 (B18 P) := fun _ _ _ _ _ _ _  => by kernel_rfl
abbrev k7 : Sk := [(1,.v),(2,.i .i64),(3,.i .i64),(4,.x)]
noncomputable def o19 := ob Try.f81 [.r,.l]
def B19 (P : PT) (x1 : Value) (x2 x3 : Int) (x4 : Nat) (H : AHeap) : Prop :=
  ((0 : Int) ≤ x2) ∧ (B18 P x1 x2 x3 x4 (IntKind.u64.wrap (1 * 2 ^ (min (Int.toNat x2) 64))) H)
theorem q19 (P : PT) : QB Try.prog T0 76 o19 (En 76 k6 (B18 P)) k7 (B19 P) := fun _ _ _ _ _ _  => by kernel_rfl
abbrev k8 : Sk := [(0,.g [.i,.v]),(1,.v),(2,.i .i64),(3,.i .i64)]
noncomputable def o20 := ob Try.f81 [.l]
def B20 (P : PT) (x0a : Int) (x0b x1 : Value) (x2 x3 : Int) (H : AHeap) : Prop :=
  newK H [(Value.int .i64 x0a), x0b] 31 (fun b1 H2 => B19 P x1 x2 x3 b1 H2)
theorem q20 (P : PT) : QB Try.prog T0 76 o20 (En 76 k7 (B19 P)) k8 (B20 P) := fun _ _ _ _ _ _ _  => by kernel_rfl
noncomputable def code : Code := (.seq (.region 0 ⟨o20⟩ false) (.seq (.region 1 ⟨o19⟩ false) (.seq (.seq (.region 2 ⟨o18⟩ false) (.block 0 (.loop (.seq (.seq (.region 3 ⟨o17⟩ false) (.cond (.tmp 21) .skip (.exit 0))) (.seq (.block 1 (.seq (.region 5 ⟨o16⟩ true) (.block 2 (.loop (.seq (.region 6 ⟨o15⟩ false) (.seq (.cond (.tmp 32) .skip (.exit 2)) (.seq (.block 3 (.seq (.region 7 ⟨o14⟩ false) (.seq (.region 8 ⟨o13⟩ false) (.block 4 (.loop (.seq (.region 9 ⟨o12⟩ false) (.seq (.cond (.tmp 39) .skip (.exit 4)) (.seq (.block 5 (.seq (.region 10 ⟨o11⟩ false) (.seq (.region 11 ⟨o10⟩ true) (.cond (.tmp 64) (.seq (.region 12 ⟨o9⟩ false) (.region 13 ⟨o8⟩ false)) .skip)))) (.region 14 ⟨o7⟩ false))))))))) (.region 15 ⟨o5⟩ false)))))))) (.region 4 ⟨o3⟩ false)))))) (.seq (.region 16 ⟨o1⟩ false) .ret))))
theorem body : Try.f81.body = some code := by kernel_rfl
theorem main (P : PT) : ∀ env H, (En 76 k8 (B20 P)) env H → AW Try.prog T0 code env H (mkQ (ret P) (fun _ _ _ => False) (ret P)) :=
  (r_seq (rB T0_ok (q20 P)) (r_seq (rB T0_ok (q19 P)) (r_seq (r_seq (rB T0_ok (q18 P)) (r_block (rL (l2 P) (fun N2 => (r_seq (r_seq (rB T0_ok (q17 P N2)) (r_cond rfl r_skip (r_exit (fun _ _ h => h)))) (r_seq (r_block (r_seq (rD T0_ok mixed [(0, false), (1, false), (2, false), (3, false), (4, false), (5, false), (6, false), (7, false)] (by kernel_rfl) (q16 P N2)) (r_block (rL (l4 P N2) (fun N4 => (r_seq (rB T0_ok (q15 P N2 N4)) (r_seq (r_cond rfl r_skip (r_exit (fun _ _ h => h))) (r_seq (r_block (r_seq (rB T0_ok (q14 P N2 N4)) (r_seq (rB T0_ok (q13 P N2 N4)) (r_block (rL (l6 P N2 N4) (fun N6 => (r_seq (rB T0_ok (q12 P N2 N4 N6)) (r_seq (r_cond rfl r_skip (r_exit (fun _ _ h => h))) (r_seq (r_block (r_seq (rB T0_ok (q11 P N2 N4 N6)) (r_seq (rD T0_ok mixed [(0, false), (1, false), (2, false), (3, false), (4, false), (5, false), (6, false), (7, false), (8, false), (9, false), (10, false), (11, false), (12, false), (13, false), (14, false), (15, false), (16, false), (17, false), (18, false), (19, false), (20, false), (21, false), (22, false)] (by kernel_rfl) (q10 P N2 N4 N6)) (r_cond rfl (r_seq (rB T0_ok (q9 P N2 N4 N6)) (rB T0_ok (q8 P N2 N4 N6))) r_skip)))) (rB T0_ok (q7 P N2 N4 N6))))))))))) (rB T0_ok (q5 P N2 N4)))))))))) (rB T0_ok (q3 P N2)))))))) (r_seq (rB T0_ok (q1 P)) r_ret))))
theorem ac (P : PT) (x0a : Int) (x0b x1 : Value) (x2 x3 : Int) (H : AHeap) (h : B20 P x0a x0b x1 x2 x3 H) : AC Try.prog T0 81 [(Value.agg ⟨[(Value.int .i64 x0a), x0b]⟩), x1, (Value.int .i64 x2), (Value.int .i64 x3)] H P :=
  r_fn T0_ok (c := code) (n := 76) Try.func81 body (by kernel_rfl) (main P) (En_mk (x0a, x0b, x1, x2, x3, ()) (by kernel_rfl) ⟨by kernel_rfl, by kernel_rfl, by kernel_rfl, by kernel_rfl, trivial⟩ h)

end F81
-- (loop.example/g01329/impl.set).list
namespace F82
noncomputable def ret (P : PT) : EP := retE T0 19 Try.f82 P
abbrev k0 : Sk := [(3,.v)]
noncomputable def o1 := ob Try.f82 [.r,.r,.r,.l]
def B1 (P : PT) (x3 : Value) (H : AHeap) : Prop :=
  P x3 H
theorem q1 (P : PT) : QB Try.prog T0 19 o1 (ret P) k0 (B1 P) := fun _ _ _  => by kernel_rfl
abbrev k1 : Sk := [(0,.i .u64),(3,.v),(4,.i .i64)]
noncomputable def o3 := ob Try.f82 [.r,.r,.l,.r,.l,.l,.r,.r]
def B3 (P : PT) (N2 : NTy k1 Pr) (x0 : Int) (x3 : Value) (x4 : Int) (H : AHeap) : Prop :=
  N2 x0 x3 (IntKind.i64.wrap (x4 + 1)) H
theorem q3 (P : PT) (N2 : NTy k1 Pr) : QB Try.prog T0 19 o3 (En 19 k1 N2) k1 (B3 P N2) := fun _ _ _ _ _  => by kernel_rfl
noncomputable def o4 := ob Try.f82 [.r,.r,.l,.r,.l,.l,.r,.l,.l,.r,.l]
def B4 (P : PT) (N2 : NTy k1 Pr) (x0 : Int) (x3 : Value) (x4 : Int) (H : AHeap) : Prop :=
  newK H [(Value.int .i64 x4)] 2 (fun b1 H2 => apK T0 2 H2 x3 (Value.slice (some ⟨b1, 0, none⟩) 1 (1 + 1)) (fun v3 H4 => B3 P N2 x0 v3 x4 H4))
theorem q4 (P : PT) (N2 : NTy k1 Pr) : QB Try.prog T0 19 o4 (En 19 k1 (B3 P N2)) k1 (B4 P N2) := fun _ _ _ _ _  => by kernel_rfl
noncomputable def o5 := ob Try.f82 [.r,.r,.l,.r,.l,.l,.r,.l,.l,.l]
def B5 (P : PT) (N2 : NTy k1 Pr) (x0 : Int) (x3 : Value) (x4 : Int) (H : AHeap) : Prop :=
  AC Try.prog T0 79 [(Value.int .u64 x0), (Value.int .i64 x4)] H (fun v1 H2 => asB v1 (fun v3 => pif v3 (B4 P N2 x0 x3 x4 H2) (B3 P N2 x0 x3 x4 H2)))
theorem q5 (P : PT) (N2 : NTy k1 Pr) : QB Try.prog T0 19 o5 (cnd 13 (En 19 k1 (B4 P N2)) (En 19 k1 (B3 P N2))) k1 (B5 P N2) := fun _ _ _ _ _  => by kernel_rfl
noncomputable def o6 := ob Try.f82 [.r,.r,.l,.r,.l,.l,.l,.l]
def B6 (P : PT) (N2 : NTy k1 Pr) (x0 : Int) (x3 : Value) (x4 : Int) (H : AHeap) : Prop :=
  ((0 : Int) ≤ x4) ∧ (pif ((Int.fdiv x0 (2 ^ (min (Int.toNat x4) 64)) : Int) != 0) (B5 P N2 x0 x3 x4 H) (B1 P x3 H))
theorem q6 (P : PT) (N2 : NTy k1 Pr) : QB Try.prog T0 19 o6 (cnd 8 (En 19 k1 (B5 P N2)) (En 19 k0 (B1 P))) k1 (B6 P N2) := fun _ _ _ _ _  => by kernel_rfl
def L2 (P : PT) (x0 : Int) (x3 : Value) (x4 : Int) (H : AHeap) : Prop :=
  ∃ (I : NTy k1 Pr) (μ : NTy k1 (AHeap → Nat)), I x0 x3 x4 H ∧ ∀ y0 y3 y4 G, I y0 y3 y4 G → B6 P (fun z0 z3 z4 G' => I z0 z3 z4 G' ∧ μ z0 z3 z4 G' < μ y0 y3 y4 G) y0 y3 y4 G
theorem l2 (P : PT) : LQ k1 (L2 P) (B6 P) := fun ⟨_,_,_,_⟩ _ ⟨I, μ, h0, hI⟩ => ⟨apT _ I, apT _ μ, h0, fun ⟨_,_,_,_⟩ _ h => hI _ _ _ _  h⟩
abbrev k2 : Sk := [(0,.i .u64),(3,.v)]
noncomputable def o7 := ob Try.f82 [.r,.r,.l,.l]
def B7 (P : PT) (x0 : Int) (x3 : Value) (H : AHeap) : Prop :=
  L2 P x0 x3 0 H
theorem q7 (P : PT) : QB Try.prog T0 19 o7 (En 19 k1 (L2 P)) k2 (B7 P) := fun _ _ _ _  => by kernel_rfl
abbrev k3 : Sk := [(0,.i .u64)]
noncomputable def o8 := ob Try.f82 [.r,.l]
def B8 (P : PT) (x0 : Int) (H : AHeap) : Prop :=
  B7 P x0 (Value.slice none 0 0) H
theorem q8 (P : PT) : QB Try.prog T0 19 o8 (En 19 k2 (B7 P)) k3 (B8 P) := fun _ _ _  => by kernel_rfl
noncomputable def o9 := ob Try.f82 [.l]
def B9 (P : PT) (x0 : Int) (H : AHeap) : Prop :=
  B8 P x0 H
theorem q9 (P : PT) : QB Try.prog T0 19 o9 (En 19 k3 (B8 P)) k3 (B9 P) := fun _ _ _  => by kernel_rfl
noncomputable def code : Code := (.seq (.region 0 ⟨o9⟩ false) (.seq (.region 1 ⟨o8⟩ false) (.seq (.seq (.region 2 ⟨o7⟩ false) (.block 0 (.loop (.seq (.seq (.region 3 ⟨o6⟩ false) (.cond (.tmp 8) .skip (.exit 0))) (.seq (.block 1 (.seq (.region 5 ⟨o5⟩ false) (.cond (.tmp 13) (.region 6 ⟨o4⟩ false) .skip))) (.region 4 ⟨o3⟩ false)))))) (.seq (.region 7 ⟨o1⟩ false) .ret))))
theorem body : Try.f82.body = some code := by kernel_rfl
theorem main (P : PT) : ∀ env H, (En 19 k3 (B9 P)) env H → AW Try.prog T0 code env H (mkQ (ret P) (fun _ _ _ => False) (ret P)) :=
  (r_seq (rB T0_ok (q9 P)) (r_seq (rB T0_ok (q8 P)) (r_seq (r_seq (rB T0_ok (q7 P)) (r_block (rL (l2 P) (fun N2 => (r_seq (r_seq (rB T0_ok (q6 P N2)) (r_cond rfl r_skip (r_exit (fun _ _ h => h)))) (r_seq (r_block (r_seq (rB T0_ok (q5 P N2)) (r_cond rfl (rB T0_ok (q4 P N2)) r_skip))) (rB T0_ok (q3 P N2)))))))) (r_seq (rB T0_ok (q1 P)) r_ret))))
theorem ac (P : PT) (x0 : Int) (H : AHeap) (h : B9 P x0 H) : AC Try.prog T0 82 [(Value.int .u64 x0)] H P :=
  r_fn T0_ok (c := code) (n := 19) Try.func82 body (by kernel_rfl) (main P) (En_mk (x0, ()) (by kernel_rfl) ⟨by kernel_rfl, trivial⟩ h)

end F82
-- loop.example/g01329/laws.eqEdge
namespace F83
noncomputable def ret (P : PT) : EP := retE T0 17 Try.f83 P
abbrev k0 : Sk := []
noncomputable def o1 := ob Try.f83 [.r,.r,.l]
def B1 (P : PT) (H : AHeap) : Prop :=
  P (Value.bool true) H
theorem q1 (P : PT) : QB Try.prog T0 17 o1 (ret P) k0 (B1 P) := fun _ _  => by kernel_rfl
abbrev k1 : Sk := [(2,.x),(3,.x),(5,.i .i64)]
noncomputable def o3 := ob Try.f83 [.r,.l,.r,.l,.l,.r,.r]
def B3 (P : PT) (N2 : NTy k1 Pr) (x2 x3 : Nat) (x5 : Int) (H : AHeap) : Prop :=
  N2 x2 x3 (IntKind.i64.wrap (x5 + 1)) H
theorem q3 (P : PT) (N2 : NTy k1 Pr) : QB Try.prog T0 17 o3 (En 17 k1 N2) k1 (B3 P N2) := fun _ _ _ _ _  => by kernel_rfl
noncomputable def o4 := ob Try.f83 [.r,.l,.r,.l,.l,.r,.l,.l,.r,.l,.l]
def B4 (P : PT) (N2 : NTy k1 Pr) (H : AHeap) : Prop :=
  P (Value.bool false) H
theorem q4 (P : PT) (N2 : NTy k1 Pr) : QB Try.prog T0 17 o4 (ret P) k0 (B4 P N2) := fun _ _  => by kernel_rfl
noncomputable def o5 := ob Try.f83 [.r,.l,.r,.l,.l,.r,.l,.l,.l]
def B5 (P : PT) (N2 : NTy k1 Pr) (x2 x3 : Nat) (x5 : Int) (H : AHeap) : Prop :=
  bndK x5 2 (ldI .i64 H x2 (0 + Int.toNat x5 * 1) (fun v1 => bndK x5 2 (ldI .i64 H x3 (0 + Int.toNat x5 * 1) (fun v2 => pif ((v1 : Int) != v2) (B4 P N2 H) (B3 P N2 x2 x3 x5 H)))))
theorem q5 (P : PT) (N2 : NTy k1 Pr) : QD Try.prog T0 17 o5 [(0, false), (1, false), (2, false), (3, false), (4, false), (5, false), (6, false)] (cnd 16 (En 17 k0 (B4 P N2)) (En 17 k1 (B3 P N2))) k1 (B5 P N2) := fun _ _ _ _ _  => by kernel_rfl
noncomputable def o6 := ob Try.f83 [.r,.l,.r,.l,.l,.l,.l]
def B6 (P : PT) (N2 : NTy k1 Pr) (x2 x3 : Nat) (x5 : Int) (H : AHeap) : Prop :=
  pif (decide ((x5 : Int) < 2)) (B5 P N2 x2 x3 x5 H) (B1 P H)
theorem q6 (P : PT) (N2 : NTy k1 Pr) : QB Try.prog T0 17 o6 (cnd 7 (En 17 k1 (B5 P N2)) (En 17 k0 (B1 P))) k1 (B6 P N2) := fun _ _ _ _ _  => by kernel_rfl
def L2 (P : PT) (x2 x3 : Nat) (x5 : Int) (H : AHeap) : Prop :=
  ∃ (I : NTy k1 Pr) (μ : NTy k1 (AHeap → Nat)), I x2 x3 x5 H ∧ ∀ y2 y3 y5 G, I y2 y3 y5 G → B6 P (fun z2 z3 z5 G' => I z2 z3 z5 G' ∧ μ z2 z3 z5 G' < μ y2 y3 y5 G) y2 y3 y5 G
theorem l2 (P : PT) : LQ k1 (L2 P) (B6 P) := fun ⟨_,_,_,_⟩ _ ⟨I, μ, h0, hI⟩ => ⟨apT _ I, apT _ μ, h0, fun ⟨_,_,_,_⟩ _ h => hI _ _ _ _  h⟩
abbrev k2 : Sk := [(2,.x),(3,.x)]
noncomputable def o7 := ob Try.f83 [.r,.l,.l]
def B7 (P : PT) (x2 x3 : Nat) (H : AHeap) : Prop :=
  L2 P x2 x3 0 H
theorem q7 (P : PT) : QB Try.prog T0 17 o7 (En 17 k1 (L2 P)) k2 (B7 P) := fun _ _ _ _  => by kernel_rfl
abbrev k3 : Sk := [(0,.g [.i,.i]),(1,.g [.i,.i])]
noncomputable def o8 := ob Try.f83 [.l]
def B8 (P : PT) (x0a x0b x1a x1b : Int) (H : AHeap) : Prop :=
  newK H [(Value.int .i64 x0a), (Value.int .i64 x0b)] 67 (fun b1 H2 => newK H2 [(Value.int .i64 x1a), (Value.int .i64 x1b)] 67 (fun b3 H4 => B7 P b1 b3 H4))
theorem q8 (P : PT) : QB Try.prog T0 17 o8 (En 17 k2 (B7 P)) k3 (B8 P) := fun _ _ _ _ _ _  => by kernel_rfl
noncomputable def code : Code := (.seq (.region 0 ⟨o8⟩ false) (.seq (.seq (.region 1 ⟨o7⟩ false) (.block 0 (.loop (.seq (.seq (.region 2 ⟨o6⟩ false) (.cond (.tmp 7) .skip (.exit 0))) (.seq (.block 1 (.seq (.region 4 ⟨o5⟩ true) (.cond (.tmp 16) (.seq (.region 5 ⟨o4⟩ false) .ret) .skip))) (.region 3 ⟨o3⟩ false)))))) (.seq (.region 6 ⟨o1⟩ false) .ret)))
theorem body : Try.f83.body = some code := by kernel_rfl
theorem main (P : PT) : ∀ env H, (En 17 k3 (B8 P)) env H → AW Try.prog T0 code env H (mkQ (ret P) (fun _ _ _ => False) (ret P)) :=
  (r_seq (rB T0_ok (q8 P)) (r_seq (r_seq (rB T0_ok (q7 P)) (r_block (rL (l2 P) (fun N2 => (r_seq (r_seq (rB T0_ok (q6 P N2)) (r_cond rfl r_skip (r_exit (fun _ _ h => h)))) (r_seq (r_block (r_seq (rD T0_ok mixed [(0, false), (1, false), (2, false), (3, false), (4, false), (5, false), (6, false)] (by kernel_rfl) (q5 P N2)) (r_cond rfl (r_seq (rB T0_ok (q4 P N2)) r_ret) r_skip))) (rB T0_ok (q3 P N2)))))))) (r_seq (rB T0_ok (q1 P)) r_ret)))
theorem ac (P : PT) (x0a x0b x1a x1b : Int) (H : AHeap) (h : B8 P x0a x0b x1a x1b H) : AC Try.prog T0 83 [(Value.agg ⟨[(Value.int .i64 x0a), (Value.int .i64 x0b)]⟩), (Value.agg ⟨[(Value.int .i64 x1a), (Value.int .i64 x1b)]⟩)] H P :=
  r_fn T0_ok (c := code) (n := 17) Try.func83 body (by kernel_rfl) (main P) (En_mk (x0a, x0b, x1a, x1b, ()) (by kernel_rfl) ⟨by kernel_rfl, by kernel_rfl, trivial⟩ h)

end F83
-- slices.ContainsFunc[[]int64,int64]
namespace F89
noncomputable def ret (P : PT) : EP := retE T0 9 Try.f89 P
abbrev k0 : Sk := [(0,.v),(1,.v)]
noncomputable def o1 := ob Try.f89 [.r,.l]
def B1 (P : PT) (x0 x1 : Value) (H : AHeap) : Prop :=
  AC Try.prog T0 141 [x0, x1] H (fun v1 H2 => asI .i64 v1 (fun v3 => P (Value.bool (decide ((v3 : Int) ≥ 0))) H2))
theorem q1 (P : PT) : QB Try.prog T0 9 o1 (ret P) k0 (B1 P) := fun _ _ _ _  => by kernel_rfl
noncomputable def o2 := ob Try.f89 [.l]
def B2 (P : PT) (x0 x1 : Value) (H : AHeap) : Prop :=
  B1 P x0 x1 H
theorem q2 (P : PT) : QB Try.prog T0 9 o2 (En 9 k0 (B1 P)) k0 (B2 P) := fun _ _ _ _  => by kernel_rfl
noncomputable def code : Code := (.seq (.region 0 ⟨o2⟩ false) (.seq (.region 1 ⟨o1⟩ false) .ret))
theorem body : Try.f89.body = some code := by kernel_rfl
theorem main (P : PT) : ∀ env H, (En 9 k0 (B2 P)) env H → AW Try.prog T0 code env H (mkQ (ret P) (fun _ _ _ => False) (ret P)) :=
  (r_seq (rB T0_ok (q2 P)) (r_seq (rB T0_ok (q1 P)) r_ret))
theorem ac (P : PT) (x0 x1 : Value) (H : AHeap) (h : B2 P x0 x1 H) : AC Try.prog T0 89 [x0, x1] H P :=
  r_fn T0_ok (c := code) (n := 9) Try.func89 body (by kernel_rfl) (main P) (En_mk (x0, x1, ()) (by kernel_rfl) ⟨by kernel_rfl, by kernel_rfl, trivial⟩ h)

end F89
-- loop.example/g01329/impl.areAll[int64]$1
namespace F90
noncomputable def ret (P : PT) : EP := retE T0 8 Try.f90 P
abbrev k0 : Sk := [(0,.i .i64),(1,.v)]
noncomputable def o1 := ob Try.f90 [.r,.l]
def B1 (P : PT) (x0 : Int) (x1 : Value) (H : AHeap) : Prop :=
  asP x1 (fun b1 o2 => ld1 H b1 o2 (fun v3 => callV Try.prog T0 v3 [(Value.int .i64 x0)] H (fun v4 H5 => asB v4 (fun v6 => P (Value.bool (!v6)) H5))))
theorem q1 (P : PT) : QB Try.prog T0 8 o1 (ret P) k0 (B1 P) := fun _ _ _ _  => by kernel_rfl
noncomputable def o2 := ob Try.f90 [.l]
def B2 (P : PT) (x0 : Int) (x1 : Value) (H : AHeap) : Prop :=
  B1 P x0 x1 H
theorem q2 (P : PT) : QB Try.prog T0 8 o2 (En 8 k0 (B1 P)) k0 (B2 P) := fun _ _ _ _  => by kernel_rfl
noncomputable def code : Code := (.seq (.region 0 ⟨o2⟩ false) (.seq (.region 1 ⟨o1⟩ false) .ret))
theorem body : Try.f90.body = some code := by kernel_rfl
theorem main (P : PT) : ∀ env H, (En 8 k0 (B2 P)) env H → AW Try.prog T0 code env H (mkQ (ret P) (fun _ _ _ => False) (ret P)) :=
  (r_seq (rB T0_ok (q2 P)) (r_seq (rB T0_ok (q1 P)) r_ret))
theorem ac (P : PT) (x0 : Int) (x1 : Value) (H : AHeap) (h : B2 P x0 x1 H) : AC Try.prog T0 90 [(Value.int .i64 x0), x1] H P :=
  r_fn T0_ok (c := code) (n := 8) Try.func90 body (by kernel_rfl) (main P) (En_mk (x0, x1, ()) (by kernel_rfl) ⟨by kernel_rfl, by kernel_rfl, trivial⟩ h)

end F90
-- loop.example/g01329/impl.areAll[int]
namespace F92
noncomputable def ret (P : PT) : EP := retE T0 9 Try.f92 P
abbrev k0 : Sk := [(0,.v),(3,.x)]
noncomputable def o1 := ob Try.f92 [.r,.l]
def B1 (P : PT) (x0 : Value) (x3 : Nat) (H : AHeap) : Prop :=
  AC Try.prog T0 143 [x0, (Value.func (.func 144) ⟨[]⟩ ⟨[(Value.pointer (some ⟨x3, 0, none⟩))]⟩)] H (fun v1 H2 => asB v1 (fun v3 => P (Value.bool (!v3)) H2))
theorem q1 (P : PT) : QB Try.prog T0 9 o1 (ret P) k0 (B1 P) := fun _ _ _ _  => by kernel_rfl
abbrev k1 : Sk := [(0,.v),(1,.v)]
noncomputable def o2 := ob Try.f92 [.l]
def B2 (P : PT) (x0 x1 : Value) (H : AHeap) : Prop :=
  pif (Value.oneCell' x1) (newK H [x1] 113 (fun b1 H2 => B1 P x0 b1 H2)) False
theorem q2 (P : PT) : QB Try.prog T0 9 o2 (En 9 k0 (B1 P)) k1 (B2 P) := fun _ _ _ _  => by kernel_rfl
noncomputable def code : Code := (.seq (.region 0 ⟨o2⟩ false) (.seq (.region 1 ⟨o1⟩ false) .ret))
theorem body : Try.f92.body = some code := by kernel_rfl
theorem main (P : PT) : ∀ env H, (En 9 k1 (B2 P)) env H → AW Try.prog T0 code env H (mkQ (ret P) (fun _ _ _ => False) (ret P)) :=
  (r_seq (rB T0_ok (q2 P)) (r_seq (rB T0_ok (q1 P)) r_ret))
theorem ac (P : PT) (x0 x1 : Value) (H : AHeap) (h : B2 P x0 x1 H) : AC Try.prog T0 92 [x0, x1] H P :=
  r_fn T0_ok (c := code) (n := 9) Try.func92 body (by kernel_rfl) (main P) (En_mk (x0, x1, ()) (by kernel_rfl) ⟨by kernel_rfl, by kernel_rfl, trivial⟩ h)

end F92
-- (loop.example/g01329/impl.Graph).at
namespace F95
noncomputable def ret (P : PT) : EP := retE T0 25 Try.f95 P
abbrev k0 : Sk := [(5,.v)]
noncomputable def o1 := ob Try.f95 [.r,.r,.r,.l]
def B1 (P : PT) (x5 : Value) (H : AHeap) : Prop :=
  P x5 H
theorem q1 (P : PT) : QB Try.prog T0 25 o1 (ret P) k0 (B1 P) := fun _ _ _  => by kernel_rfl
abbrev k1 : Sk := [(1,.i .i64),(5,.v),(9,.v),(10,.i .i64),(11,.i .i64)]
noncomputable def o3 := ob Try.f95 [.r,.r,.l,.r,.l,.l,.r,.r,.r]
def B3 (P : PT) (N2 : NTy k1 Pr) (x1 : Int) (x5 x9 : Value) (x10 x11 : Int) (H : AHeap) : Prop :=
  N2 x1 x5 x9 x10 (IntKind.i64.wrap (x11 + 1)) H
theorem q3 (P : PT) (N2 : NTy k1 Pr) : QB Try.prog T0 25 o3 (En 25 k1 N2) k1 (B3 P N2) := fun _ _ _ _ _ _ _  => by kernel_rfl
abbrev k2 : Sk := [(1,.i .i64),(5,.v),(6,.i .i64),(9,.v),(10,.i .i64),(11,.i .i64)]
noncomputable def o4 := ob Try.f95 [.r,.r,.l,.r,.l,.l,.r,.r,.l,.l,.r,.r,.l]
def B4 (P : PT) (N2 : NTy k1 Pr) (x1 : Int) (x5 : Value) (x6 : Int) (x9 : Value) (x10 x11 : Int) (H : AHeap) : Prop :=
  newK H [(Value.int .i64 x6)] 2 (fun b1 H2 => apK T0 2 H2 x5 (Value.slice (some ⟨b1, 0, none⟩) 1 (1 + 1)) (fun v3 H4 => B3 P N2 x1 v3 x9 x10 x11 H4))
theorem q4 (P : PT) (N2 : NTy k1 Pr) : QB Try.prog T0 25 o4 (En 25 k1 (B3 P N2)) k2 (B4 P N2) := fun _ _ _ _ _ _ _ _  => by kernel_rfl
abbrev k3 : Sk := [(1,.i .i64),(5,.v),(6,.i .i64),(7,.x),(9,.v),(10,.i .i64),(11,.i .i64)]
noncomputable def o5 := ob Try.f95 [.r,.r,.l,.r,.l,.l,.r,.r,.l,.l,.r,.l]
def B5 (P : PT) (N2 : NTy k1 Pr) (x1 : Int) (x5 : Value) (x6 : Int) (x7 : Nat) (x9 : Value) (x10 x11 : Int) (H : AHeap) : Prop :=
  ldI .i64 H x7 0 (fun v1 => ldI .i64 H x7 1 (fun v2 => AC Try.prog T0 145 [(Value.agg ⟨[(Value.int .i64 v1), (Value.int .i64 v2)]⟩), (Value.int .i64 x1)] H (fun v3 H4 => asB v3 (fun v5 => pif v5 (B4 P N2 x1 x5 x6 x9 x10 x11 H4) (B3 P N2 x1 x5 x9 x10 x11 H4)))))
theorem q5 (P : PT) (N2 : NTy k1 Pr) : QB Try.prog T0 25 o5 (cnd 18 (En 25 k2 (B4 P N2)) (En 25 k1 (B3 P N2))) k3 (B5 P N2) := fun _ _ _ _ _ _ _ _ _  => by kernel_rfl
noncomputable def o6 := ob Try.f95 [.r,.r,.l,.r,.l,.l,.r,.r,.l,.l,.l]
def B6 (P : PT) (N2 : NTy k1 Pr) (x1 : Int) (x5 x9 : Value) (x10 x11 : Int) (H : AHeap) : Prop :=
  idxK x9 x11 2 (fun b1 o2 => ldI .i64 H b1 o2 (fun v3 => ldI .i64 H b1 (o2 + 1) (fun v4 => newK H [(Value.int .i64 0), (Value.int .i64 0)] 67 (fun b5 H6 => stK H6 b5 0 [(Value.int .i64 v3), (Value.int .i64 v4)] (fun H7 => B5 P N2 x1 x5 x11 b5 x9 x10 x11 H7)))))
theorem q6 (P : PT) (N2 : NTy k1 Pr) : QB Try.prog T0 25 o6 (En 25 k3 (B5 P N2)) k1 (B6 P N2) := fun _ _ _ _ _ _ _  => by kernel_rfl
noncomputable def o7 := ob Try.f95 [.r,.r,.l,.r,.l,.l,.l]
def B7 (P : PT) (N2 : NTy k1 Pr) (x1 : Int) (x5 x9 : Value) (x10 x11 : Int) (H : AHeap) : Prop :=
  pif (decide ((x11 : Int) < x10)) (B6 P N2 x1 x5 x9 x10 x11 H) (B1 P x5 H)
theorem q7 (P : PT) (N2 : NTy k1 Pr) : QB Try.prog T0 25 o7 (cnd 12 (En 25 k1 (B6 P N2)) (En 25 k0 (B1 P))) k1 (B7 P N2) := fun _ _ _ _ _ _ _  => by kernel_rfl
def L2 (P : PT) (x1 : Int) (x5 x9 : Value) (x10 x11 : Int) (H : AHeap) : Prop :=
  ∃ (I : NTy k1 Pr) (μ : NTy k1 (AHeap → Nat)), I x1 x5 x9 x10 x11 H ∧ ∀ y1 y5 y9 y10 y11 G, I y1 y5 y9 y10 y11 G → B7 P (fun z1 z5 z9 z10 z11 G' => I z1 z5 z9 z10 z11 G' ∧ μ z1 z5 z9 z10 z11 G' < μ y1 y5 y9 y10 y11 G) y1 y5 y9 y10 y11 G
theorem l2 (P : PT) : LQ k1 (L2 P) (B7 P) := fun ⟨_,_,_,_,_,_⟩ _ ⟨I, μ, h0, hI⟩ => ⟨apT _ I, apT _ μ, h0, fun ⟨_,_,_,_,_,_⟩ _ h => hI _ _ _ _ _ _  h⟩
abbrev k4 : Sk := [(1,.i .i64),(2,.x),(5,.v)]
noncomputable def o8 := ob Try.f95 [.r,.r,.l,.l]
def B8 (P : PT) (x1 : Int) (x2 : Nat) (x5 : Value) (H : AHeap) : Prop :=
  ld1 H x2 1 (fun v1 => lenK v1 (fun n2 => L2 P x1 x5 v1 (n2 : Int) 0 H))
theorem q8 (P : PT) : QB Try.prog T0 25 o8 (En 25 k1 (L2 P)) k4 (B8 P) := fun _ _ _ _ _  => by kernel_rfl
abbrev k5 : Sk := [(1,.i .i64),(2,.x)]
noncomputable def o9 := ob Try.f95 [.r,.l]
def B9 (P : PT) (x1 : Int) (x2 : Nat) (H : AHeap) : Prop :=
  B8 P x1 x2 (Value.slice none 0 0) H
theorem q9 (P : PT) : QB Try.prog T0 25 o9 (En 25 k4 (B8 P)) k5 (B9 P) := fun _ _ _ _  => by kernel_rfl
abbrev k6 : Sk := [(0,.g [.i,.v]),(1,.i .i64)]
noncomputable def o10 := ob Try.f95 [.l]
def B10 (P : PT) (x0a : Int) (x0b : Value) (x1 : Int) (H : AHeap) : Prop :=
  newK H [(Value.int .i64 x0a), x0b] 31 (fun b1 H2 => B9 P x1 b1 H2)
theorem q10 (P : PT) : QB Try.prog T0 25 o10 (En 25 k5 (B9 P)) k6 (B10 P) := fun _ _ _ _ _  => by kernel_rfl
noncomputable def code : Code := (.seq (.region 0 ⟨o10⟩ false) (.seq (.region 1 ⟨o9⟩ false) (.seq (.seq (.region 2 ⟨o8⟩ false) (.block 0 (.loop (.seq (.region 3 ⟨o7⟩ false) (.seq (.cond (.tmp 12) .skip (.exit 0)) (.seq (.block 1 (.seq (.region 4 ⟨o6⟩ false) (.seq (.region 5 ⟨o5⟩ false) (.cond (.tmp 18) (.region 6 ⟨o4⟩ false) .skip)))) (.region 7 ⟨o3⟩ false))))))) (.seq (.region 8 ⟨o1⟩ false) .ret))))
theorem body : Try.f95.body = some code := by kernel_rfl
theorem main (P : PT) : ∀ env H, (En 25 k6 (B10 P)) env H → AW Try.prog T0 code env H (mkQ (ret P) (fun _ _ _ => False) (ret P)) :=
  (r_seq (rB T0_ok (q10 P)) (r_seq (rB T0_ok (q9 P)) (r_seq (r_seq (rB T0_ok (q8 P)) (r_block (rL (l2 P) (fun N2 => (r_seq (rB T0_ok (q7 P N2)) (r_seq (r_cond rfl r_skip (r_exit (fun _ _ h => h))) (r_seq (r_block (r_seq (rB T0_ok (q6 P N2)) (r_seq (rB T0_ok (q5 P N2)) (r_cond rfl (rB T0_ok (q4 P N2)) r_skip)))) (rB T0_ok (q3 P N2))))))))) (r_seq (rB T0_ok (q1 P)) r_ret))))
theorem ac (P : PT) (x0a : Int) (x0b : Value) (x1 : Int) (H : AHeap) (h : B10 P x0a x0b x1 H) : AC Try.prog T0 95 [(Value.agg ⟨[(Value.int .i64 x0a), x0b]⟩), (Value.int .i64 x1)] H P :=
  r_fn T0_ok (c := code) (n := 25) Try.func95 body (by kernel_rfl) (main P) (En_mk (x0a, x0b, x1, ()) (by kernel_rfl) ⟨by kernel_rfl, by kernel_rfl, trivial⟩ h)

end F95
-- loop.example/g01329/spec.l01At
namespace F110
noncomputable def ret (P : PT) : EP := retE T0 38 Try.f110 P
abbrev k0 : Sk := [(5,.v)]
noncomputable def o1 := ob Try.f110 [.r,.r,.r,.l]
def B1 (P : PT) (x5 : Value) (H : AHeap) : Prop :=
  P x5 H
theorem q1 (P : PT) : QB Try.prog T0 38 o1 (ret P) k0 (B1 P) := fun _ _ _  => by kernel_rfl
abbrev k1 : Sk := [(1,.i .i64),(2,.x),(5,.v),(6,.i .i64)]
noncomputable def o3 := ob Try.f110 [.r,.r,.l,.r,.l,.l,.r,.r]
def B3 (P : PT) (N2 : NTy k1 Pr) (x1 : Int) (x2 : Nat) (x5 : Value) (x6 : Int) (H : AHeap) : Prop :=
  N2 x1 x2 x5 (IntKind.i64.wrap (x6 + 1)) H
theorem q3 (P : PT) (N2 : NTy k1 Pr) : QB Try.prog T0 38 o3 (En 38 k1 N2) k1 (B3 P N2) := fun _ _ _ _ _ _  => by kernel_rfl
noncomputable def o4 := ob Try.f110 [.r,.r,.l,.r,.l,.l,.r,.l,.l,.r,.l]
def B4 (P : PT) (N2 : NTy k1 Pr) (x1 : Int) (x2 : Nat) (x5 : Value) (x6 : Int) (H : AHeap) : Prop :=
  newK H [(Value.int .i64 x6)] 2 (fun b1 H2 => apK T0 2 H2 x5 (Value.slice (some ⟨b1, 0, none⟩) 1 (1 + 1)) (fun v3 H4 => B3 P N2 x1 x2 v3 x6 H4))
theorem q4 (P : PT) (N2 : NTy k1 Pr) : QB Try.prog T0 38 o4 (En 38 k1 (B3 P N2)) k1 (B4 P N2) := fun _ _ _ _ _ _  => by kernel_rfl
noncomputable def o5 := ob Try.f110 [.r,.r,.l,.r,.l,.l,.r,.l,.l,.l]
def B5 (P : PT) (N2 : NTy k1 Pr) (x1 : Int) (x2 : Nat) (x5 : Value) (x6 : Int) (H : AHeap) : Prop :=
  ld1 H x2 1 (fun v1 => idxK v1 x6 2 (fun b2 o3 => ldI .i64 H b2 o3 (fun v4 => pif ((v4 : Int) == x1) (B4 P N2 x1 x2 x5 x6 H) (ld1 H x2 1 (fun v5 => idxK v5 x6 2 (fun b6 o7 => ldI .i64 H b6 (o7 + 1) (fun v8 => pif ((v8 : Int) == x1) (B4 P N2 x1 x2 x5 x6 H) (B3 P N2 x1 x2 x5 x6 H))))))))
theorem q5 (P : PT) (N2 : NTy k1 Pr) : QB Try.prog T0 38 o5 (cnd 32 (En 38 k1 (B4 P N2)) (En 38 k1 (B3 P N2))) k1 (B5 P N2) := fun _ _ _ _ _ _  => by kernel_rfl
noncomputable def o6 := ob Try.f110 [.r,.r,.l,.r,.l,.l,.l,.l]
def B6 (P : PT) (N2 : NTy k1 Pr) (x1 : Int) (x2 : Nat) (x5 : Value) (x6 : Int) (H : AHeap) : Prop :=
  ld1 H x2 1 (fun v1 => lenK v1 (fun n2 => pif (decide ((x6 : Int) < (n2 : Int))) (B5 P N2 x1 x2 x5 x6 H) (B1 P x5 H)))
theorem q6 (P : PT) (N2 : NTy k1 Pr) : QB Try.prog T0 38 o6 (cnd 12 (En 38 k1 (B5 P N2)) (En 38 k0 (B1 P))) k1 (B6 P N2) := fun _ _ _ _ _ _  => by kernel_rfl
def L2 (P : PT) (x1 : Int) (x2 : Nat) (x5 : Value) (x6 : Int) (H : AHeap) : Prop :=
  ∃ (I : NTy k1 Pr) (μ : NTy k1 (AHeap → Nat)), I x1 x2 x5 x6 H ∧ ∀ y1 y2 y5 y6 G, I y1 y2 y5 y6 G → B6 P (fun z1 z2 z5 z6 G' => I z1 z2 z5 z6 G' ∧ μ z1 z2 z5 z6 G' < μ y1 y2 y5 y6 G) y1 y2 y5 y6 G
theorem l2 (P : PT) : LQ k1 (L2 P) (B6 P) := fun ⟨_,_,_,_,_⟩ _ ⟨I, μ, h0, hI⟩ => ⟨apT _ I, apT _ μ, h0, fun ⟨_,_,_,_,_⟩ _ h => hI _ _ _ _ _  h⟩
abbrev k2 : Sk := [(1,.i .i64),(2,.x),(5,.v)]
noncomputable def o7 := ob Try.f110 [.r,.r,.l,.l]
def B7 (P : PT) (x1 : Int) (x2 : Nat) (x5 : Value) (H : AHeap) : Prop :=
  L2 P x1 x2 x5 0 H
theorem q7 (P : PT) : QB Try.prog T0 38 o7 (En 38 k1 (L2 P)) k2 (B7 P) := fun _ _ _ _ _  => by kernel_rfl
abbrev k3 : Sk := [(1,.i .i64),(2,.x)]
noncomputable def o8 := ob Try.f110 [.r,.l]
def B8 (P : PT) (x1 : Int) (x2 : Nat) (H : AHeap) : Prop :=
  newK H [] 2 (fun b1 H2 => B7 P x1 x2 (Value.slice (some ⟨b1, 0, none⟩) 0 (0 + 1)) H2)
theorem q8 (P : PT) : QB Try.prog T0 38 o8 (En 38 k2 (B7 P)) k3 (B8 P) := fun _ _ _ _  => by kernel_rfl
abbrev k4 : Sk := [(0,.g [.i,.v]),(1,.i .i64)]
noncomputable def o9 := ob Try.f110 [.l]
def B9 (P : PT) (x0a : Int) (x0b : Value) (x1 : Int) (H : AHeap) : Prop :=
  newK H [(Value.int .i64 x0a), x0b] 31 (fun b1 H2 => B8 P x1 b1 H2)
theorem q9 (P : PT) : QB Try.prog T0 38 o9 (En 38 k3 (B8 P)) k4 (B9 P) := fun _ _ _ _ _  => by kernel_rfl
noncomputable def code : Code := (.seq (.region 0 ⟨o9⟩ false) (.seq (.region 1 ⟨o8⟩ false) (.seq (.seq (.region 2 ⟨o7⟩ false) (.block 0 (.loop (.seq (.seq (.region 3 ⟨o6⟩ false) (.cond (.tmp 12) .skip (.exit 0))) (.seq (.block 1 (.seq (.region 5 ⟨o5⟩ false) (.cond (.tmp 32) (.region 6 ⟨o4⟩ false) .skip))) (.region 4 ⟨o3⟩ false)))))) (.seq (.region 7 ⟨o1⟩ false) .ret))))
theorem body : Try.f110.body = some code := by kernel_rfl
theorem main (P : PT) : ∀ env H, (En 38 k4 (B9 P)) env H → AW Try.prog T0 code env H (mkQ (ret P) (fun _ _ _ => False) (ret P)) :=
  (r_seq (rB T0_ok (q9 P)) (r_seq (rB T0_ok (q8 P)) (r_seq (r_seq (rB T0_ok (q7 P)) (r_block (rL (l2 P) (fun N2 => (r_seq (r_seq (rB T0_ok (q6 P N2)) (r_cond rfl r_skip (r_exit (fun _ _ h => h)))) (r_seq (r_block (r_seq (rB T0_ok (q5 P N2)) (r_cond rfl (rB T0_ok (q4 P N2)) r_skip))) (rB T0_ok (q3 P N2)))))))) (r_seq (rB T0_ok (q1 P)) r_ret))))
theorem ac (P : PT) (x0a : Int) (x0b : Value) (x1 : Int) (H : AHeap) (h : B9 P x0a x0b x1 H) : AC Try.prog T0 110 [(Value.agg ⟨[(Value.int .i64 x0a), x0b]⟩), (Value.int .i64 x1)] H P :=
  r_fn T0_ok (c := code) (n := 38) Try.func110 body (by kernel_rfl) (main P) (En_mk (x0a, x0b, x1, ()) (by kernel_rfl) ⟨by kernel_rfl, by kernel_rfl, trivial⟩ h)

end F110
-- loop.example/g01329/spec.l01Ends
namespace F127
noncomputable def ret (P : PT) : EP := retE T0 61 Try.f127 P
abbrev k0 : Sk := []
noncomputable def o1 := ob Try.f127 [.r,.r,.r,.l]
def B1 (P : PT) (H : AHeap) : Prop :=
  P (Value.int .i64 0) H
theorem q1 (P : PT) : QB Try.prog T0 61 o1 (ret P) k0 (B1 P) := fun _ _  => by kernel_rfl
abbrev k1 : Sk := [(0,.i .i64),(1,.v),(5,.i .i64)]
noncomputable def o3 := ob Try.f127 [.r,.r,.l,.r,.l,.l,.r,.r]
def B3 (P : PT) (N2 : NTy k1 Pr) (x0 : Int) (x1 : Value) (x5 : Int) (H : AHeap) : Prop :=
  N2 x0 x1 (IntKind.i64.wrap (x5 + 1)) H
theorem q3 (P : PT) (N2 : NTy k1 Pr) : QB Try.prog T0 61 o3 (En 61 k1 N2) k1 (B3 P N2) := fun _ _ _ _ _  => by kernel_rfl
noncomputable def o4 := ob Try.f127 [.r,.r,.l,.r,.l,.l,.r,.l,.l,.r,.l,.l]
def B4 (P : PT) (N2 : NTy k1 Pr) (H : AHeap) : Prop :=
  P (Value.int .i64 2) H
theorem q4 (P : PT) (N2 : NTy k1 Pr) : QB Try.prog T0 61 o4 (ret P) k0 (B4 P N2) := fun _ _  => by kernel_rfl
noncomputable def o5 := ob Try.f127 [.r,.r,.l,.r,.l,.l,.r,.l,.l,.l]
def B5 (P : PT) (N2 : NTy k1 Pr) (x0 : Int) (x1 : Value) (x5 : Int) (H : AHeap) : Prop :=
  idxK x1 x5 2 (fun b1 o2 => ldI .i64 H b1 o2 (fun v3 => AC Try.prog T0 49 [(Value.int .i64 v3), (Value.int .i64 0), (Value.int .i64 (IntKind.i64.wrap (x0 - 1)))] H (fun v4 H5 => asB v4 (fun v6 => pif (!v6) (B4 P N2 H5) (idxK x1 x5 2 (fun b7 o8 => ldI .i64 H5 b7 (o8 + 1) (fun v9 => AC Try.prog T0 49 [(Value.int .i64 v9), (Value.int .i64 0), (Value.int .i64 (IntKind.i64.wrap (x0 - 1)))] H5 (fun v10 H11 => asB v10 (fun v12 => pif (!v12) (B4 P N2 H11) (idxK x1 x5 2 (fun b13 o14 => ldI .i64 H11 b13 o14 (fun v15 => idxK x1 x5 2 (fun b16 o17 => ldI .i64 H11 b16 (o17 + 1) (fun v18 => pif ((v15 : Int) == v18) (B4 P N2 H11) (B3 P N2 x0 x1 x5 H11)))))))))))))))
theorem q5 (P : PT) (N2 : NTy k1 Pr) : QD Try.prog T0 61 o5 [(0, false), (1, false), (2, false), (3, false), (4, false), (5, false), (6, false), (7, false), (8, false), (9, false), (10, false), (11, false), (12, false), (13, false), (14, false), (15, false), (16, false), (17, false), (18, false), (19, false), (20, false), (21, false), (22, false), (23, false), (24, false), (25, false), (26, false), (27, false), (28, false), (29, false), (30, false), (31, false), (32, false)] (cnd 60 (En 61 k0 (B4 P N2)) (En 61 k1 (B3 P N2))) k1 (B5 P N2) := fun _ _ _ _ _  => by kernel_rfl
noncomputable def o6 := ob Try.f127 [.r,.r,.l,.r,.l,.l,.l,.l]
def B6 (P : PT) (N2 : NTy k1 Pr) (x0 : Int) (x1 : Value) (x5 : Int) (H : AHeap) : Prop :=
  lenK x1 (fun n1 => pif (decide ((x5 : Int) < (n1 : Int))) (B5 P N2 x0 x1 x5 H) (B1 P H))
theorem q6 (P : PT) (N2 : NTy k1 Pr) : QB Try.prog T0 61 o6 (cnd 25 (En 61 k1 (B5 P N2)) (En 61 k0 (B1 P))) k1 (B6 P N2) := fun _ _ _ _ _  => by kernel_rfl
def L2 (P : PT) (x0 : Int) (x1 : Value) (x5 : Int) (H : AHeap) : Prop :=
  ∃ (I : NTy k1 Pr) (μ : NTy k1 (AHeap → Nat)), I x0 x1 x5 H ∧ ∀ y0 y1 y5 G, I y0 y1 y5 G → B6 P (fun z0 z1 z5 G' => I z0 z1 z5 G' ∧ μ z0 z1 z5 G' < μ y0 y1 y5 G) y0 y1 y5 G
theorem l2 (P : PT) : LQ k1 (L2 P) (B6 P) := fun ⟨_,_,_,_⟩ _ ⟨I, μ, h0, hI⟩ => ⟨apT _ I, apT _ μ, h0, fun ⟨_,_,_,_⟩ _ h => hI _ _ _ _  h⟩
abbrev k2 : Sk := [(0,.i .i64),(1,.v)]
noncomputable def o7 := ob Try.f127 [.r,.r,.l,.l]
def B7 (P : PT) (x0 : Int) (x1 : Value) (H : AHeap) : Prop :=
  L2 P x0 x1 0 H
theorem q7 (P : PT) : QB Try.prog T0 61 o7 (En 61 k1 (L2 P)) k2 (B7 P) := fun _ _ _ _  => by kernel_rfl
noncomputable def o8 := ob Try.f127 [.r,.l,.r,.l,.l]
def B8 (P : PT) (H : AHeap) : Prop :=
  P (Value.int .i64 2) H
theorem q8 (P : PT) : QB Try.prog T0 61 o8 (ret P) k0 (B8 P) := fun _ _  => by kernel_rfl
noncomputable def o9 := ob Try.f127 [.r,.l,.l]
def B9 (P : PT) (x0 : Int) (x1 : Value) (H : AHeap) : Prop :=
  AC Try.prog T0 49 [(Value.int .i64 x0), (Value.int .i64 2), (Value.int .i64 20)] H (fun v1 H2 => asB v1 (fun v3 => pif (!v3) (B8 P H2) (pif ((Int.tmod x0 2 : Int) != 0) (B8 P H2) (lenK x1 (fun n4 => pif (((n4 : Int) : Int) != (IntKind.i64.wrap (Int.tdiv (IntKind.i64.wrap (3 * x0)) 2))) (B8 P H2) (B7 P x0 x1 H2))))))
theorem q9 (P : PT) : QB Try.prog T0 61 o9 (cnd 21 (En 61 k0 (B8 P)) (En 61 k2 (B7 P))) k2 (B9 P) := fun _ _ _ _  => by kernel_rfl
noncomputable def o10 := ob Try.f127 [.l]
def B10 (P : PT) (x0 : Int) (x1 : Value) (H : AHeap) : Prop :=
  B9 P x0 x1 H
theorem q10 (P : PT) : QB Try.prog T0 61 o10 (En 61 k2 (B9 P)) k2 (B10 P) := fun _ _ _ _  => by kernel_rfl
noncomputable def code : Code := (.seq (.region 0 ⟨o10⟩ false) (.seq (.seq (.region 1 ⟨o9⟩ false) (.cond (.tmp 21) (.seq (.region 2 ⟨o8⟩ false) .ret) .skip)) (.seq (.seq (.region 3 ⟨o7⟩ false) (.block 0 (.loop (.seq (.seq (.region 4 ⟨o6⟩ false) (.cond (.tmp 25) .skip (.exit 0))) (.seq (.block 1 (.seq (.region 6 ⟨o5⟩ true) (.cond (.tmp 60) (.seq (.region 7 ⟨o4⟩ false) .ret) .skip))) (.region 5 ⟨o3⟩ false)))))) (.seq (.region 8 ⟨o1⟩ false) .ret))))
theorem body : Try.f127.body = some code := by kernel_rfl
theorem main (P : PT) : ∀ env H, (En 61 k2 (B10 P)) env H → AW Try.prog T0 code env H (mkQ (ret P) (fun _ _ _ => False) (ret P)) :=
  (r_seq (rB T0_ok (q10 P)) (r_seq (r_seq (rB T0_ok (q9 P)) (r_cond rfl (r_seq (rB T0_ok (q8 P)) r_ret) r_skip)) (r_seq (r_seq (rB T0_ok (q7 P)) (r_block (rL (l2 P) (fun N2 => (r_seq (r_seq (rB T0_ok (q6 P N2)) (r_cond rfl r_skip (r_exit (fun _ _ h => h)))) (r_seq (r_block (r_seq (rD T0_ok mixed [(0, false), (1, false), (2, false), (3, false), (4, false), (5, false), (6, false), (7, false), (8, false), (9, false), (10, false), (11, false), (12, false), (13, false), (14, false), (15, false), (16, false), (17, false), (18, false), (19, false), (20, false), (21, false), (22, false), (23, false), (24, false), (25, false), (26, false), (27, false), (28, false), (29, false), (30, false), (31, false), (32, false)] (by kernel_rfl) (q5 P N2)) (r_cond rfl (r_seq (rB T0_ok (q4 P N2)) r_ret) r_skip))) (rB T0_ok (q3 P N2)))))))) (r_seq (rB T0_ok (q1 P)) r_ret))))
theorem ac (P : PT) (x0 : Int) (x1 : Value) (H : AHeap) (h : B10 P x0 x1 H) : AC Try.prog T0 127 [(Value.int .i64 x0), x1] H P :=
  r_fn T0_ok (c := code) (n := 61) Try.func127 body (by kernel_rfl) (main P) (En_mk (x0, x1, ()) (by kernel_rfl) ⟨by kernel_rfl, by kernel_rfl, trivial⟩ h)

end F127
-- loop.example/g01329/spec.l01Cubic
namespace F128
noncomputable def ret (P : PT) : EP := retE T0 46 Try.f128 P
abbrev k0 : Sk := []
noncomputable def o1 := ob Try.f128 [.r,.r,.r,.r,.l]
def B1 (P : PT) (H : AHeap) : Prop :=
  P (Value.bool true) H
theorem q1 (P : PT) : QB Try.prog T0 46 o1 (ret P) k0 (B1 P) := fun _ _  => by kernel_rfl
abbrev k1 : Sk := [(0,.i .i64),(5,.v),(7,.i .i64)]
noncomputable def o3 := ob Try.f128 [.r,.r,.r,.l,.r,.l,.l,.r,.r]
def B3 (P : PT) (N2 : NTy k1 Pr) (x0 : Int) (x5 : Value) (x7 : Int) (H : AHeap) : Prop :=
  N2 x0 x5 (IntKind.i64.wrap (x7 + 1)) H
theorem q3 (P : PT) (N2 : NTy k1 Pr) : QB Try.prog T0 46 o3 (En 46 k1 N2) k1 (B3 P N2) := fun _ _ _ _ _  => by kernel_rfl
noncomputable def o4 := ob Try.f128 [.r,.r,.r,.l,.r,.l,.l,.r,.l,.l,.r,.l,.l]
def B4 (P : PT) (N2 : NTy k1 Pr) (H : AHeap) : Prop :=
  P (Value.bool false) H
theorem q4 (P : PT) (N2 : NTy k1 Pr) : QB Try.prog T0 46 o4 (ret P) k0 (B4 P N2) := fun _ _  => by kernel_rfl
noncomputable def o5 := ob Try.f128 [.r,.r,.r,.l,.r,.l,.l,.r,.l,.l,.l]
def B5 (P : PT) (N2 : NTy k1 Pr) (x0 : Int) (x5 : Value) (x7 : Int) (H : AHeap) : Prop :=
  idxK x5 x7 1 (fun b1 o2 => ldI .i64 H b1 o2 (fun v3 => pif ((v3 : Int) != 3) (B4 P N2 H) (B3 P N2 x0 x5 x7 H)))
theorem q5 (P : PT) (N2 : NTy k1 Pr) : QB Try.prog T0 46 o5 (cnd 45 (En 46 k0 (B4 P N2)) (En 46 k1 (B3 P N2))) k1 (B5 P N2) := fun _ _ _ _ _  => by kernel_rfl
noncomputable def o6 := ob Try.f128 [.r,.r,.r,.l,.r,.l,.l,.l,.l]
def B6 (P : PT) (N2 : NTy k1 Pr) (x0 : Int) (x5 : Value) (x7 : Int) (H : AHeap) : Prop :=
  pif (decide ((x7 : Int) < x0)) (B5 P N2 x0 x5 x7 H) (B1 P H)
theorem q6 (P : PT) (N2 : NTy k1 Pr) : QB Try.prog T0 46 o6 (cnd 38 (En 46 k1 (B5 P N2)) (En 46 k0 (B1 P))) k1 (B6 P N2) := fun _ _ _ _ _  => by kernel_rfl
def L2 (P : PT) (x0 : Int) (x5 : Value) (x7 : Int) (H : AHeap) : Prop :=
  ∃ (I : NTy k1 Pr) (μ : NTy k1 (AHeap → Nat)), I x0 x5 x7 H ∧ ∀ y0 y5 y7 G, I y0 y5 y7 G → B6 P (fun z0 z5 z7 G' => I z0 z5 z7 G' ∧ μ z0 z5 z7 G' < μ y0 y5 y7 G) y0 y5 y7 G
theorem l2 (P : PT) : LQ k1 (L2 P) (B6 P) := fun ⟨_,_,_,_⟩ _ ⟨I, μ, h0, hI⟩ => ⟨apT _ I, apT _ μ, h0, fun ⟨_,_,_,_⟩ _ h => hI _ _ _ _  h⟩
abbrev k2 : Sk := [(0,.i .i64),(5,.v)]
noncomputable def o7 := ob Try.f128 [.r,.r,.r,.l,.l]
def B7 (P : PT) (x0 : Int) (x5 : Value) (H : AHeap) : Prop :=
  L2 P x0 x5 0 H
theorem q7 (P : PT) : QB Try.prog T0 46 o7 (En 46 k1 (L2 P)) k2 (B7 P) := fun _ _ _ _  => by kernel_rfl
abbrev k3 : Sk := [(0,.i .i64),(1,.v),(5,.v),(6,.i .i64)]
noncomputable def o9 := ob Try.f128 [.r,.r,.l,.r,.l,.l,.r,.r]
def B9 (P : PT) (N8 : NTy k3 Pr) (x0 : Int) (x1 x5 : Value) (x6 : Int) (H : AHeap) : Prop :=
  N8 x0 x1 x5 (IntKind.i64.wrap (x6 + 1)) H
theorem q9 (P : PT) (N8 : NTy k3 Pr) : QB Try.prog T0 46 o9 (En 46 k3 N8) k3 (B9 P N8) := fun _ _ _ _ _ _  => by kernel_rfl
noncomputable def o10 := ob Try.f128 [.r,.r,.l,.r,.l,.l,.r,.l,.l,.r]
def B10 (P : PT) (N8 : NTy k3 Pr) (x0 : Int) (x1 x5 : Value) (x6 : Int) (H : AHeap) : Prop :=
  idxK x1 x6 2 (fun b1 o2 => ldI .i64 H b1 (o2 + 1) (fun v3 => idxK x5 v3 1 (fun b4 o5 => ldI .i64 H b4 o5 (fun v6 => idxK x5 v3 1 (fun b7 o8 => stK H b7 o8 [(Value.int .i64 (IntKind.i64.wrap (v6 + 1)))] (fun H9 => B9 P N8 x0 x1 x5 x6 H9))))))
theorem q10 (P : PT) (N8 : NTy k3 Pr) : QB Try.prog T0 46 o10 (En 46 k3 (B9 P N8)) k3 (B10 P N8) := fun _ _ _ _ _ _  => by kernel_rfl
noncomputable def o11 := ob Try.f128 [.r,.r,.l,.r,.l,.l,.r,.l,.l,.l]
def B11 (P : PT) (N8 : NTy k3 Pr) (x0 : Int) (x1 x5 : Value) (x6 : Int) (H : AHeap) : Prop :=
  idxK x1 x6 2 (fun b1 o2 => ldI .i64 H b1 o2 (fun v3 => idxK x5 v3 1 (fun b4 o5 => ldI .i64 H b4 o5 (fun v6 => idxK x5 v3 1 (fun b7 o8 => stK H b7 o8 [(Value.int .i64 (IntKind.i64.wrap (v6 + 1)))] (fun H9 => B10 P N8 x0 x1 x5 x6 H9))))))
theorem q11 (P : PT) (N8 : NTy k3 Pr) : QB Try.prog T0 46 o11 (En 46 k3 (B10 P N8)) k3 (B11 P N8) := fun _ _ _ _ _ _  => by kernel_rfl
noncomputable def o12 := ob Try.f128 [.r,.r,.l,.r,.l,.l,.l,.l]
def B12 (P : PT) (N8 : NTy k3 Pr) (x0 : Int) (x1 x5 : Value) (x6 : Int) (H : AHeap) : Prop :=
  lenK x1 (fun n1 => pif (decide ((x6 : Int) < (n1 : Int))) (B11 P N8 x0 x1 x5 x6 H) (B7 P x0 x5 H))
theorem q12 (P : PT) (N8 : NTy k3 Pr) : QB Try.prog T0 46 o12 (cnd 13 (En 46 k3 (B11 P N8)) (En 46 k2 (B7 P))) k3 (B12 P N8) := fun _ _ _ _ _ _  => by kernel_rfl
def L8 (P : PT) (x0 : Int) (x1 x5 : Value) (x6 : Int) (H : AHeap) : Prop :=
  ∃ (I : NTy k3 Pr) (μ : NTy k3 (AHeap → Nat)), I x0 x1 x5 x6 H ∧ ∀ y0 y1 y5 y6 G, I y0 y1 y5 y6 G → B12 P (fun z0 z1 z5 z6 G' => I z0 z1 z5 z6 G' ∧ μ z0 z1 z5 z6 G' < μ y0 y1 y5 y6 G) y0 y1 y5 y6 G
theorem l8 (P : PT) : LQ k3 (L8 P) (B12 P) := fun ⟨_,_,_,_,_⟩ _ ⟨I, μ, h0, hI⟩ => ⟨apT _ I, apT _ μ, h0, fun ⟨_,_,_,_,_⟩ _ h => hI _ _ _ _ _  h⟩
abbrev k4 : Sk := [(0,.i .i64),(1,.v),(5,.v)]
noncomputable def o13 := ob Try.f128 [.r,.r,.l,.l]
def B13 (P : PT) (x0 : Int) (x1 x5 : Value) (H : AHeap) : Prop :=
  L8 P x0 x1 x5 0 H
theorem q13 (P : PT) : QB Try.prog T0 46 o13 (En 46 k3 (L8 P)) k4 (B13 P) := fun _ _ _ _ _  => by kernel_rfl
abbrev k5 : Sk := [(0,.i .i64),(1,.v)]
noncomputable def o14 := ob Try.f128 [.r,.l]
def B14 (P : PT) (x0 : Int) (x1 : Value) (H : AHeap) : Prop :=
  mkR H 8 2 [(Value.int .i64 0)] x0 x0 (fun v2 H1 => B13 P x0 x1 v2 H1)
theorem q14 (P : PT) : QB Try.prog T0 46 o14 (En 46 k4 (B13 P)) k5 (B14 P) := fun _ _ _ _  => by kernel_rfl
noncomputable def o15 := ob Try.f128 [.l]
def B15 (P : PT) (x0 : Int) (x1 : Value) (H : AHeap) : Prop :=
  B14 P x0 x1 H
theorem q15 (P : PT) : QB Try.prog T0 46 o15 (En 46 k5 (B14 P)) k5 (B15 P) := fun _ _ _ _  => by kernel_rfl
noncomputable def code : Code := (.seq (.region 0 ⟨o15⟩ false) (.seq (.region 1 ⟨o14⟩ false) (.seq (.seq (.region 2 ⟨o13⟩ false) (.block 0 (.loop (.seq (.seq (.region 3 ⟨o12⟩ false) (.cond (.tmp 13) .skip (.exit 0))) (.seq (.block 1 (.seq (.region 5 ⟨o11⟩ false) (.region 6 ⟨o10⟩ false))) (.region 4 ⟨o9⟩ false)))))) (.seq (.seq (.region 7 ⟨o7⟩ false) (.block 2 (.loop (.seq (.seq (.region 8 ⟨o6⟩ false) (.cond (.tmp 38) .skip (.exit 2))) (.seq (.block 3 (.seq (.region 10 ⟨o5⟩ false) (.cond (.tmp 45) (.seq (.region 11 ⟨o4⟩ false) .ret) .skip))) (.region 9 ⟨o3⟩ false)))))) (.seq (.region 12 ⟨o1⟩ false) .ret)))))
theorem body : Try.f128.body = some code := by kernel_rfl
theorem main (P : PT) : ∀ env H, (En 46 k5 (B15 P)) env H → AW Try.prog T0 code env H (mkQ (ret P) (fun _ _ _ => False) (ret P)) :=
  (r_seq (rB T0_ok (q15 P)) (r_seq (rB T0_ok (q14 P)) (r_seq (r_seq (rB T0_ok (q13 P)) (r_block (rL (l8 P) (fun N8 => (r_seq (r_seq (rB T0_ok (q12 P N8)) (r_cond rfl r_skip (r_exit (fun _ _ h => h)))) (r_seq (r_block (r_seq (rB T0_ok (q11 P N8)) (rB T0_ok (q10 P N8)))) (rB T0_ok (q9 P N8)))))))) (r_seq (r_seq (rB T0_ok (q7 P)) (r_block (rL (l2 P) (fun N2 => (r_seq (r_seq (rB T0_ok (q6 P N2)) (r_cond rfl r_skip (r_exit (fun _ _ h => h)))) (r_seq (r_block (r_seq (rB T0_ok (q5 P N2)) (r_cond rfl (r_seq (rB T0_ok (q4 P N2)) r_ret) r_skip))) (rB T0_ok (q3 P N2)))))))) (r_seq (rB T0_ok (q1 P)) r_ret)))))
theorem ac (P : PT) (x0 : Int) (x1 : Value) (H : AHeap) (h : B15 P x0 x1 H) : AC Try.prog T0 128 [(Value.int .i64 x0), x1] H P :=
  r_fn T0_ok (c := code) (n := 46) Try.func128 body (by kernel_rfl) (main P) (En_mk (x0, x1, ()) (by kernel_rfl) ⟨by kernel_rfl, by kernel_rfl, trivial⟩ h)

end F128
-- loop.example/g01329/spec.l01Before
namespace F129
noncomputable def ret (P : PT) : EP := retE T0 24 Try.f129 P
abbrev k0 : Sk := [(2,.x),(3,.x)]
noncomputable def o1 := ob Try.f129 [.r,.l]
def B1 (P : PT) (x2 x3 : Nat) (H : AHeap) : Prop :=
  ldI .i64 H x2 0 (fun v1 => ldI .i64 H x3 0 (fun v2 => pif (decide ((v1 : Int) < v2)) (P (Value.bool true) H) (ldI .i64 H x2 0 (fun v3 => ldI .i64 H x3 0 (fun v4 => pif ((v3 : Int) == v4) (ldI .i64 H x2 1 (fun v5 => ldI .i64 H x3 1 (fun v6 => P (Value.bool (decide ((v5 : Int) < v6))) H))) (P (Value.bool false) H))))))
theorem q1 (P : PT) : QB Try.prog T0 24 o1 (ret P) k0 (B1 P) := fun _ _ _ _  => by kernel_rfl
abbrev k1 : Sk := [(0,.g [.i,.i]),(1,.g [.i,.i])]
noncomputable def o2 := ob Try.f129 [.l]
def B2 (P : PT) (x0a x0b x1a x1b : Int) (H : AHeap) : Prop :=
  newK H [(Value.int .i64 x0a), (Value.int .i64 x0b)] 67 (fun b1 H2 => newK H2 [(Value.int .i64 x1a), (Value.int .i64 x1b)] 67 (fun b3 H4 => B1 P b1 b3 H4))
theorem q2 (P : PT) : QB Try.prog T0 24 o2 (En 24 k0 (B1 P)) k1 (B2 P) := fun _ _ _ _ _ _  => by kernel_rfl
noncomputable def code : Code := (.seq (.region 0 ⟨o2⟩ false) (.seq (.region 1 ⟨o1⟩ false) .ret))
theorem body : Try.f129.body = some code := by kernel_rfl
theorem main (P : PT) : ∀ env H, (En 24 k1 (B2 P)) env H → AW Try.prog T0 code env H (mkQ (ret P) (fun _ _ _ => False) (ret P)) :=
  (r_seq (rB T0_ok (q2 P)) (r_seq (rB T0_ok (q1 P)) r_ret))
theorem ac (P : PT) (x0a x0b x1a x1b : Int) (H : AHeap) (h : B2 P x0a x0b x1a x1b H) : AC Try.prog T0 129 [(Value.agg ⟨[(Value.int .i64 x0a), (Value.int .i64 x0b)]⟩), (Value.agg ⟨[(Value.int .i64 x1a), (Value.int .i64 x1b)]⟩)] H P :=
  r_fn T0_ok (c := code) (n := 24) Try.func129 body (by kernel_rfl) (main P) (En_mk (x0a, x0b, x1a, x1b, ()) (by kernel_rfl) ⟨by kernel_rfl, by kernel_rfl, trivial⟩ h)

end F129
-- loop.example/g01329/spec.l02Fits
namespace F130
noncomputable def ret (P : PT) : EP := retE T0 46 Try.f130 P
abbrev k0 : Sk := []
noncomputable def o1 := ob Try.f130 [.r,.r,.l]
def B1 (P : PT) (H : AHeap) : Prop :=
  P (Value.bool true) H
theorem q1 (P : PT) : QB Try.prog T0 46 o1 (ret P) k0 (B1 P) := fun _ _  => by kernel_rfl
abbrev k1 : Sk := [(1,.v),(2,.i .i64),(3,.i .i64),(4,.x),(9,.i .i64)]
noncomputable def o3 := ob Try.f130 [.r,.l,.r,.l,.l,.r,.r]
def B3 (P : PT) (N2 : NTy k1 Pr) (x1 : Value) (x2 x3 : Int) (x4 : Nat) (x9 : Int) (H : AHeap) : Prop :=
  N2 x1 x2 x3 x4 (IntKind.i64.wrap (x9 + 1)) H
theorem q3 (P : PT) (N2 : NTy k1 Pr) : QB Try.prog T0 46 o3 (En 46 k1 N2) k1 (B3 P N2) := fun _ _ _ _ _ _ _  => by kernel_rfl
abbrev k2 : Sk := [(1,.v),(2,.i .i64),(3,.i .i64),(4,.x),(9,.i .i64),(10,.v),(11,.i .i64)]
noncomputable def o5 := ob Try.f130 [.r,.l,.r,.l,.l,.r,.l,.l,.r,.r,.l,.l,.r,.r]
def B5 (P : PT) (N2 : NTy k1 Pr) (N4 : NTy k2 Pr) (x1 : Value) (x2 x3 : Int) (x4 : Nat) (x9 : Int) (x10 : Value) (x11 : Int) (H : AHeap) : Prop :=
  N4 x1 x2 x3 x4 x9 x10 (IntKind.i64.wrap (x11 + 1)) H
theorem q5 (P : PT) (N2 : NTy k1 Pr) (N4 : NTy k2 Pr) : QB Try.prog T0 46 o5 (En 46 k2 N4) k2 (B5 P N2 N4) := fun _ _ _ _ _ _ _ _ _  => by kernel_rfl
noncomputable def o6 := ob Try.f130 [.r,.l,.r,.l,.l,.r,.l,.l,.r,.r,.l,.l,.r,.l,.l,.r,.l,.l]
def B6 (P : PT) (N2 : NTy k1 Pr) (N4 : NTy k2 Pr) (H : AHeap) : Prop :=
  P (Value.bool false) H
theorem q6 (P : PT) (N2 : NTy k1 Pr) (N4 : NTy k2 Pr) : QB Try.prog T0 46 o6 (ret P) k0 (B6 P N2 N4) := fun _ _  => by kernel_rfl
noncomputable def o7 := ob Try.f130 [.r,.l,.r,.l,.l,.r,.l,.l,.r,.r,.l,.l,.r,.l,.l,.l]
def B7 (P : PT) (N2 : NTy k1 Pr) (N4 : NTy k2 Pr) (x1 : Value) (x2 x3 : Int) (x4 : Nat) (x9 : Int) (x10 : Value) (x11 : Int) (H : AHeap) : Prop :=
  idxK x10 x11 1 (fun b1 o2 => ldI .i64 H b1 o2 (fun v3 => pif (decide ((v3 : Int) < x2)) (idxK x10 x11 1 (fun b4 o5 => ldI .i64 H b4 o5 (fun v6 => idxK x1 v6 1 (fun b7 o8 => ldI .i64 H b7 o8 (fun v9 => pif ((v9 : Int) == x3) (B6 P N2 N4 H) (B5 P N2 N4 x1 x2 x3 x4 x9 x10 x11 H)))))) (B5 P N2 N4 x1 x2 x3 x4 x9 x10 x11 H)))
theorem q7 (P : PT) (N2 : NTy k1 Pr) (N4 : NTy k2 Pr) : QB Try.prog T0 46 o7 (cnd 45 (En 46 k0 (B6 P N2 N4)) (En 46 k2 (B5 P N2 N4))) k2 (B7 P N2 N4) := fun _ _ _ _ _ _ _ _ _  => by kernel_rfl
noncomputable def o8 := ob Try.f130 [.r,.l,.r,.l,.l,.r,.l,.l,.r,.r,.l,.l,.l,.l]
def B8 (P : PT) (N2 : NTy k1 Pr) (N4 : NTy k2 Pr) (x1 : Value) (x2 x3 : Int) (x4 : Nat) (x9 : Int) (x10 : Value) (x11 : Int) (H : AHeap) : Prop :=
  pif (decide ((x11 : Int) < 3)) (B7 P N2 N4 x1 x2 x3 x4 x9 x10 x11 H) (B3 P N2 x1 x2 x3 x4 x9 H)
theorem q8 (P : PT) (N2 : NTy k1 Pr) (N4 : NTy k2 Pr) : QB Try.prog T0 46 o8 (cnd 26 (En 46 k2 (B7 P N2 N4)) (En 46 k1 (B3 P N2))) k2 (B8 P N2 N4) := fun _ _ _ _ _ _ _ _ _  => by kernel_rfl
def L4 (P : PT) (N2 : NTy k1 Pr) (x1 : Value) (x2 x3 : Int) (x4 : Nat) (x9 : Int) (x10 : Value) (x11 : Int) (H : AHeap) : Prop :=
  ∃ (I : NTy k2 Pr) (μ : NTy k2 (AHeap → Nat)), I x1 x2 x3 x4 x9 x10 x11 H ∧ ∀ y1 y2 y3 y4 y9 y10 y11 G, I y1 y2 y3 y4 y9 y10 y11 G → B8 P N2 (fun z1 z2 z3 z4 z9 z10 z11 G' => I z1 z2 z3 z4 z9 z10 z11 G' ∧ μ z1 z2 z3 z4 z9 z10 z11 G' < μ y1 y2 y3 y4 y9 y10 y11 G) y1 y2 y3 y4 y9 y10 y11 G
theorem l4 (P : PT) (N2 : NTy k1 Pr) : LQ k2 (L4 P N2) (B8 P N2) := fun ⟨_,_,_,_,_,_,_,_⟩ _ ⟨I, μ, h0, hI⟩ => ⟨apT _ I, apT _ μ, h0, fun ⟨_,_,_,_,_,_,_,_⟩ _ h => hI _ _ _ _ _ _ _ _  h⟩
abbrev k3 : Sk := [(1,.v),(2,.i .i64),(3,.i .i64),(4,.x),(9,.i .i64),(10,.v)]
noncomputable def o9 := ob Try.f130 [.r,.l,.r,.l,.l,.r,.l,.l,.r,.l]
def B9 (P : PT) (N2 : NTy k1 Pr) (x1 : Value) (x2 x3 : Int) (x4 : Nat) (x9 : Int) (x10 : Value) (H : AHeap) : Prop :=
  L4 P N2 x1 x2 x3 x4 x9 x10 0 H
theorem q9 (P : PT) (N2 : NTy k1 Pr) : QB Try.prog T0 46 o9 (En 46 k2 (L4 P N2)) k3 (B9 P N2) := fun _ _ _ _ _ _ _ _  => by kernel_rfl
noncomputable def o10 := ob Try.f130 [.r,.l,.r,.l,.l,.r,.l,.l,.l]
def B10 (P : PT) (N2 : NTy k1 Pr) (x1 : Value) (x2 x3 : Int) (x4 : Nat) (x9 : Int) (H : AHeap) : Prop :=
  ldI .i64 H x4 0 (fun v1 => ld1 H x4 1 (fun v2 => ld1 H x4 1 (fun v3 => idxK v3 x2 2 (fun b4 o5 => bndK x9 2 (ldI .i64 H b4 (o5 + Int.toNat x9 * 1) (fun v6 => AC Try.prog T0 110 [(Value.agg ⟨[(Value.int .i64 v1), v2]⟩), (Value.int .i64 v6)] H (fun v7 H8 => B9 P N2 x1 x2 x3 x4 x9 v7 H8)))))))
theorem q10 (P : PT) (N2 : NTy k1 Pr) : QD Try.prog T0 46 o10 [(0, false), (1, false), (2, false), (3, false), (4, false), (5, false), (6, false), (7, false), (8, false), (9, false)] (En 46 k3 (B9 P N2)) k1 (B10 P N2) := fun _ _ _ _ _ _ _  => by kernel_rfl
noncomputable def o11 := ob Try.f130 [.r,.l,.r,.l,.l,.l,.l]
def B11 (P : PT) (N2 : NTy k1 Pr) (x1 : Value) (x2 x3 : Int) (x4 : Nat) (x9 : Int) (H : AHeap) : Prop :=
  pif (decide ((x9 : Int) < 2)) (B10 P N2 x1 x2 x3 x4 x9 H) (B1 P H)
theorem q11 (P : PT) (N2 : NTy k1 Pr) : QB Try.prog T0 46 o11 (cnd 13 (En 46 k1 (B10 P N2)) (En 46 k0 (B1 P))) k1 (B11 P N2) := fun _ _ _ _ _ _ _  => by kernel_rfl
def L2 (P : PT) (x1 : Value) (x2 x3 : Int) (x4 : Nat) (x9 : Int) (H : AHeap) : Prop :=
  ∃ (I : NTy k1 Pr) (μ : NTy k1 (AHeap → Nat)), I x1 x2 x3 x4 x9 H ∧ ∀ y1 y2 y3 y4 y9 G, I y1 y2 y3 y4 y9 G → B11 P (fun z1 z2 z3 z4 z9 G' => I z1 z2 z3 z4 z9 G' ∧ μ z1 z2 z3 z4 z9 G' < μ y1 y2 y3 y4 y9 G) y1 y2 y3 y4 y9 G
theorem l2 (P : PT) : LQ k1 (L2 P) (B11 P) := fun ⟨_,_,_,_,_,_⟩ _ ⟨I, μ, h0, hI⟩ => ⟨apT _ I, apT _ μ, h0, fun ⟨_,_,_,_,_,_⟩ _ h => hI _ _ _ _ _ _  h⟩
abbrev k4 : Sk := [(1,.v),(2,.i .i64),(3,.i .i64),(4,.x)]
noncomputable def o12 := ob Try.f130 [.r,.l,.l]
def B12 (P : PT) (x1 : Value) (x2 x3 : Int) (x4 : Nat) (H : AHeap) : Prop :=
  L2 P x1 x2 x3 x4 0 H
theorem q12 (P : PT) : QB Try.prog T0 46 o12 (En 46 k1 (L2 P)) k4 (B12 P) := fun _ _ _ _ _ _  => by kernel_rfl
abbrev k5 : Sk := [(0,.g [.i,.v]),(1,.v),(2,.i .i64),(3,.i .i64)]
noncomputable def o13 := ob Try.f130 [.l]
def B13 (P : PT) (x0a : Int) (x0b x1 : Value) (x2 x3 : Int) (H : AHeap) : Prop :=
  newK H [(Value.int .i64 x0a), x0b] 31 (fun b1 H2 => B12 P x1 x2 x3 b1 H2)
theorem q13 (P : PT) : QB Try.prog T0 46 o13 (En 46 k4 (B12 P)) k5 (B13 P) := fun _ _ _ _ _ _ _  => by kernel_rfl
noncomputable def code : Code := (.seq (.region 0 ⟨o13⟩ false) (.seq (.seq (.region 1 ⟨o12⟩ false) (.block 0 (.loop (.seq (.seq (.region 2 ⟨o11⟩ false) (.cond (.tmp 13) .skip (.exit 0))) (.seq (.block 1 (.seq (.region 4 ⟨o10⟩ true) (.seq (.region 5 ⟨o9⟩ false) (.block 2 (.loop (.seq (.seq (.region 6 ⟨o8⟩ false) (.cond (.tmp 26) .skip (.exit 2))) (.seq (.block 3 (.seq (.region 8 ⟨o7⟩ false) (.cond (.tmp 45) (.seq (.region 9 ⟨o6⟩ false) .ret) .skip))) (.region 7 ⟨o5⟩ false)))))))) (.region 3 ⟨o3⟩ false)))))) (.seq (.region 10 ⟨o1⟩ false) .ret)))
theorem body : Try.f130.body = some code := by kernel_rfl
theorem main (P : PT) : ∀ env H, (En 46 k5 (B13 P)) env H → AW Try.prog T0 code env H (mkQ (ret P) (fun _ _ _ => False) (ret P)) :=
  (r_seq (rB T0_ok (q13 P)) (r_seq (r_seq (rB T0_ok (q12 P)) (r_block (rL (l2 P) (fun N2 => (r_seq (r_seq (rB T0_ok (q11 P N2)) (r_cond rfl r_skip (r_exit (fun _ _ h => h)))) (r_seq (r_block (r_seq (rD T0_ok mixed [(0, false), (1, false), (2, false), (3, false), (4, false), (5, false), (6, false), (7, false), (8, false), (9, false)] (by kernel_rfl) (q10 P N2)) (r_seq (rB T0_ok (q9 P N2)) (r_block (rL (l4 P N2) (fun N4 => (r_seq (r_seq (rB T0_ok (q8 P N2 N4)) (r_cond rfl r_skip (r_exit (fun _ _ h => h)))) (r_seq (r_block (r_seq (rB T0_ok (q7 P N2 N4)) (r_cond rfl (r_seq (rB T0_ok (q6 P N2 N4)) r_ret) r_skip))) (rB T0_ok (q5 P N2 N4)))))))))) (rB T0_ok (q3 P N2)))))))) (r_seq (rB T0_ok (q1 P)) r_ret)))
theorem ac (P : PT) (x0a : Int) (x0b x1 : Value) (x2 x3 : Int) (H : AHeap) (h : B13 P x0a x0b x1 x2 x3 H) : AC Try.prog T0 130 [(Value.agg ⟨[(Value.int .i64 x0a), x0b]⟩), x1, (Value.int .i64 x2), (Value.int .i64 x3)] H P :=
  r_fn T0_ok (c := code) (n := 46) Try.func130 body (by kernel_rfl) (main P) (En_mk (x0a, x0b, x1, x2, x3, ()) (by kernel_rfl) ⟨by kernel_rfl, by kernel_rfl, by kernel_rfl, by kernel_rfl, trivial⟩ h)

end F130
-- loop.example/g01329/impl.areEdges
namespace F131
noncomputable def ret (P : PT) : EP := retE T0 20 Try.f131 P
abbrev k0 : Sk := [(1,.v),(2,.x)]
noncomputable def o1 := ob Try.f131 [.r,.l]
def B1 (P : PT) (x1 : Value) (x2 : Nat) (H : AHeap) : Prop :=
  ldI .i64 H x2 0 (fun v1 => AC Try.prog T0 172 [(Value.int .i64 v1)] H (fun v2 H3 => asB v2 (fun v4 => pif v4 (ldI .i64 H3 x2 0 (fun v5 => AC Try.prog T0 44 [x1] H3 (fun v6 H7 => asI .i64 v6 (fun v8 => (AHeap.le H3 H7) ∧ (pif ((v8 : Int) == (IntKind.i64.wrap (Int.tdiv (IntKind.i64.wrap (3 * v5)) 2))) (AC Try.prog T0 132 [x1, (Value.func (.func 173) ⟨[]⟩ ⟨[(Value.pointer (some ⟨x2, 0, none⟩))]⟩)] H7 (fun v9 H10 => asB v9 (fun v11 => P (Value.bool v11) H10))) (P (Value.bool false) H7)))))) (P (Value.bool false) H3))))
theorem q1 (P : PT) : QD Try.prog T0 20 o1 [(0, false), (1, false), (2, false), (3, false), (5, false), (6, false), (7, false), (4, true), (8, false), (9, false), (10, false), (11, false), (12, false), (13, false), (14, false), (15, false)] (ret P) k0 (B1 P) := fun _ _ _ _  => by kernel_rfl
abbrev k1 : Sk := [(0,.i .i64),(1,.v)]
noncomputable def o2 := ob Try.f131 [.l]
def B2 (P : PT) (x0 : Int) (x1 : Value) (H : AHeap) : Prop :=
  newK H [(Value.int .i64 x0)] 2 (fun b1 H2 => B1 P x1 b1 H2)
theorem q2 (P : PT) : QB Try.prog T0 20 o2 (En 20 k0 (B1 P)) k1 (B2 P) := fun _ _ _ _  => by kernel_rfl
noncomputable def code : Code := (.seq (.region 0 ⟨o2⟩ false) (.seq (.region 1 ⟨o1⟩ true) .ret))
theorem body : Try.f131.body = some code := by kernel_rfl
theorem main (P : PT) : ∀ env H, (En 20 k1 (B2 P)) env H → AW Try.prog T0 code env H (mkQ (ret P) (fun _ _ _ => False) (ret P)) :=
  (r_seq (rB T0_ok (q2 P)) (r_seq (rD T0_ok mixed [(0, false), (1, false), (2, false), (3, false), (5, false), (6, false), (7, false), (4, true), (8, false), (9, false), (10, false), (11, false), (12, false), (13, false), (14, false), (15, false)] (by kernel_rfl) (q1 P)) r_ret))
theorem ac (P : PT) (x0 : Int) (x1 : Value) (H : AHeap) (h : B2 P x0 x1 H) : AC Try.prog T0 131 [(Value.int .i64 x0), x1] H P :=
  r_fn T0_ok (c := code) (n := 20) Try.func131 body (by kernel_rfl) (main P) (En_mk (x0, x1, ()) (by kernel_rfl) ⟨by kernel_rfl, by kernel_rfl, trivial⟩ h)

end F131
-- loop.example/g01329/impl.areAll[loop.example/g01329/impl.Edge]
namespace F132
noncomputable def ret (P : PT) : EP := retE T0 9 Try.f132 P
abbrev k0 : Sk := [(0,.v),(3,.x)]
noncomputable def o1 := ob Try.f132 [.r,.l]
def B1 (P : PT) (x0 : Value) (x3 : Nat) (H : AHeap) : Prop :=
  AC Try.prog T0 174 [x0, (Value.func (.func 175) ⟨[]⟩ ⟨[(Value.pointer (some ⟨x3, 0, none⟩))]⟩)] H (fun v1 H2 => asB v1 (fun v3 => P (Value.bool (!v3)) H2))
theorem q1 (P : PT) : QB Try.prog T0 9 o1 (ret P) k0 (B1 P) := fun _ _ _ _  => by kernel_rfl
abbrev k1 : Sk := [(0,.v),(1,.v)]
noncomputable def o2 := ob Try.f132 [.l]
def B2 (P : PT) (x0 x1 : Value) (H : AHeap) : Prop :=
  pif (Value.oneCell' x1) (newK H [x1] 144 (fun b1 H2 => B1 P x0 b1 H2)) False
theorem q2 (P : PT) : QB Try.prog T0 9 o2 (En 9 k0 (B1 P)) k1 (B2 P) := fun _ _ _ _  => by kernel_rfl
noncomputable def code : Code := (.seq (.region 0 ⟨o2⟩ false) (.seq (.region 1 ⟨o1⟩ false) .ret))
theorem body : Try.f132.body = some code := by kernel_rfl
theorem main (P : PT) : ∀ env H, (En 9 k1 (B2 P)) env H → AW Try.prog T0 code env H (mkQ (ret P) (fun _ _ _ => False) (ret P)) :=
  (r_seq (rB T0_ok (q2 P)) (r_seq (rB T0_ok (q1 P)) r_ret))
theorem ac (P : PT) (x0 x1 : Value) (H : AHeap) (h : B2 P x0 x1 H) : AC Try.prog T0 132 [x0, x1] H P :=
  r_fn T0_ok (c := code) (n := 9) Try.func132 body (by kernel_rfl) (main P) (En_mk (x0, x1, ()) (by kernel_rfl) ⟨by kernel_rfl, by kernel_rfl, trivial⟩ h)

end F132
-- loop.example/g01329/impl.IsGraph$1
namespace F133
noncomputable def ret (P : PT) : EP := retE T0 8 Try.f133 P
abbrev k0 : Sk := [(1,.x)]
noncomputable def o1 := ob Try.f133 [.r,.l]
def B1 (P : PT) (x1 : Nat) (H : AHeap) : Prop :=
  ldI .i64 H x1 0 (fun v1 => ldI .i64 H x1 1 (fun v2 => P (Value.bool (decide ((v1 : Int) < v2))) H))
theorem q1 (P : PT) : QB Try.prog T0 8 o1 (ret P) k0 (B1 P) := fun _ _ _  => by kernel_rfl
abbrev k1 : Sk := [(0,.g [.i,.i])]
noncomputable def o2 := ob Try.f133 [.l]
def B2 (P : PT) (x0a x0b : Int) (H : AHeap) : Prop :=
  newK H [(Value.int .i64 x0a), (Value.int .i64 x0b)] 67 (fun b1 H2 => B1 P b1 H2)
theorem q2 (P : PT) : QB Try.prog T0 8 o2 (En 8 k0 (B1 P)) k1 (B2 P) := fun _ _ _ _  => by kernel_rfl
noncomputable def code : Code := (.seq (.region 0 ⟨o2⟩ false) (.seq (.region 1 ⟨o1⟩ false) .ret))
theorem body : Try.f133.body = some code := by kernel_rfl
theorem main (P : PT) : ∀ env H, (En 8 k1 (B2 P)) env H → AW Try.prog T0 code env H (mkQ (ret P) (fun _ _ _ => False) (ret P)) :=
  (r_seq (rB T0_ok (q2 P)) (r_seq (rB T0_ok (q1 P)) r_ret))
theorem ac (P : PT) (x0a x0b : Int) (H : AHeap) (h : B2 P x0a x0b H) : AC Try.prog T0 133 [(Value.agg ⟨[(Value.int .i64 x0a), (Value.int .i64 x0b)]⟩)] H P :=
  r_fn T0_ok (c := code) (n := 8) Try.func133 body (by kernel_rfl) (main P) (En_mk (x0a, x0b, ()) (by kernel_rfl) ⟨by kernel_rfl, trivial⟩ h)

end F133
-- slices.IsSortedFunc[[]loop.example/g01329/impl.Edge,loop.example/g01329/impl.Edge]
namespace F134
noncomputable def ret (P : PT) : EP := retE T0 25 Try.f134 P
abbrev k0 : Sk := []
noncomputable def o1 := ob Try.f134 [.r,.r,.l]
def B1 (P : PT) (H : AHeap) : Prop :=
  P (Value.bool true) H
theorem q1 (P : PT) : QB Try.prog T0 25 o1 (ret P) k0 (B1 P) := fun _ _  => by kernel_rfl
abbrev k1 : Sk := [(0,.v),(1,.v),(5,.i .i64)]
noncomputable def o3 := ob Try.f134 [.r,.l,.r,.l,.l,.r,.r]
def B3 (P : PT) (N2 : NTy k1 Pr) (x0 x1 : Value) (x5 : Int) (H : AHeap) : Prop :=
  N2 x0 x1 (IntKind.i64.wrap (x5 - 1)) H
theorem q3 (P : PT) (N2 : NTy k1 Pr) : QB Try.prog T0 25 o3 (En 25 k1 N2) k1 (B3 P N2) := fun _ _ _ _ _  => by kernel_rfl
noncomputable def o4 := ob Try.f134 [.r,.l,.r,.l,.l,.r,.l,.l,.r,.l,.l]
def B4 (P : PT) (N2 : NTy k1 Pr) (H : AHeap) : Prop :=
  P (Value.bool false) H
theorem q4 (P : PT) (N2 : NTy k1 Pr) : QB Try.prog T0 25 o4 (ret P) k0 (B4 P N2) := fun _ _  => by kernel_rfl
noncomputable def o5 := ob Try.f134 [.r,.l,.r,.l,.l,.r,.l,.l,.l]
def B5 (P : PT) (N2 : NTy k1 Pr) (x0 x1 : Value) (x5 : Int) (H : AHeap) : Prop :=
  idxK x0 x5 2 (fun b1 o2 => ldI .i64 H b1 o2 (fun v3 => ldI .i64 H b1 (o2 + 1) (fun v4 => idxK x0 (IntKind.i64.wrap (x5 - 1)) 2 (fun b5 o6 => ldI .i64 H b5 o6 (fun v7 => ldI .i64 H b5 (o6 + 1) (fun v8 => callV Try.prog T0 x1 [(Value.agg ⟨[(Value.int .i64 v3), (Value.int .i64 v4)]⟩), (Value.agg ⟨[(Value.int .i64 v7), (Value.int .i64 v8)]⟩)] H (fun v9 H10 => asI .i64 v9 (fun v11 => pif (decide ((v11 : Int) < 0)) (B4 P N2 H10) (B3 P N2 x0 x1 x5 H10)))))))))
theorem q5 (P : PT) (N2 : NTy k1 Pr) : QD Try.prog T0 25 o5 [(0, false), (1, false), (2, false), (3, false), (4, false), (5, false), (6, false), (7, false), (8, false), (9, false), (10, false), (11, false)] (cnd 24 (En 25 k0 (B4 P N2)) (En 25 k1 (B3 P N2))) k1 (B5 P N2) := fun _ _ _ _ _  => by kernel_rfl
noncomputable def o6 := ob Try.f134 [.r,.l,.r,.l,.l,.l,.l]
def B6 (P : PT) (N2 : NTy k1 Pr) (x0 x1 : Value) (x5 : Int) (H : AHeap) : Prop :=
  pif (decide ((x5 : Int) > 0)) (B5 P N2 x0 x1 x5 H) (B1 P H)
theorem q6 (P : PT) (N2 : NTy k1 Pr) : QB Try.prog T0 25 o6 (cnd 10 (En 25 k1 (B5 P N2)) (En 25 k0 (B1 P))) k1 (B6 P N2) := fun _ _ _ _ _  => by kernel_rfl
def L2 (P : PT) (x0 x1 : Value) (x5 : Int) (H : AHeap) : Prop :=
  ∃ (I : NTy k1 Pr) (μ : NTy k1 (AHeap → Nat)), I x0 x1 x5 H ∧ ∀ y0 y1 y5 G, I y0 y1 y5 G → B6 P (fun z0 z1 z5 G' => I z0 z1 z5 G' ∧ μ z0 z1 z5 G' < μ y0 y1 y5 G) y0 y1 y5 G
theorem l2 (P : PT) : LQ k1 (L2 P) (B6 P) := fun ⟨_,_,_,_⟩ _ ⟨I, μ, h0, hI⟩ => ⟨apT _ I, apT _ μ, h0, fun ⟨_,_,_,_⟩ _ h => hI _ _ _ _  h⟩
abbrev k2 : Sk := [(0,.v),(1,.v)]
noncomputable def o7 := ob Try.f134 [.r,.l,.l]
def B7 (P : PT) (x0 x1 : Value) (H : AHeap) : Prop :=
  lenK x0 (fun n1 => L2 P x0 x1 (IntKind.i64.wrap ((n1 : Int) - 1)) H)
theorem q7 (P : PT) : QB Try.prog T0 25 o7 (En 25 k1 (L2 P)) k2 (B7 P) := fun _ _ _ _  => by kernel_rfl
noncomputable def o8 := ob Try.f134 [.l]
def B8 (P : PT) (x0 x1 : Value) (H : AHeap) : Prop :=
  B7 P x0 x1 H
theorem q8 (P : PT) : QB Try.prog T0 25 o8 (En 25 k2 (B7 P)) k2 (B8 P) := fun _ _ _ _  => by kernel_rfl
noncomputable def code : Code := (.seq (.region 0 ⟨o8⟩ false) (.seq (.seq (.region 1 ⟨o7⟩ false) (.block 0 (.loop (.seq (.seq (.region 2 ⟨o6⟩ false) (.cond (.tmp 10) .skip (.exit 0))) (.seq (.block 1 (.seq (.region 4 ⟨o5⟩ true) (.cond (.tmp 24) (.seq (.region 5 ⟨o4⟩ false) .ret) .skip))) (.region 3 ⟨o3⟩ false)))))) (.seq (.region 6 ⟨o1⟩ false) .ret)))
theorem body : Try.f134.body = some code := by kernel_rfl
theorem main (P : PT) : ∀ env H, (En 25 k2 (B8 P)) env H → AW Try.prog T0 code env H (mkQ (ret P) (fun _ _ _ => False) (ret P)) :=
  (r_seq (rB T0_ok (q8 P)) (r_seq (r_seq (rB T0_ok (q7 P)) (r_block (rL (l2 P) (fun N2 => (r_seq (r_seq (rB T0_ok (q6 P N2)) (r_cond rfl r_skip (r_exit (fun _ _ h => h)))) (r_seq (r_block (r_seq (rD T0_ok mixed [(0, false), (1, false), (2, false), (3, false), (4, false), (5, false), (6, false), (7, false), (8, false), (9, false), (10, false), (11, false)] (by kernel_rfl) (q5 P N2)) (r_cond rfl (r_seq (rB T0_ok (q4 P N2)) r_ret) r_skip))) (rB T0_ok (q3 P N2)))))))) (r_seq (rB T0_ok (q1 P)) r_ret)))
theorem ac (P : PT) (x0 x1 : Value) (H : AHeap) (h : B8 P x0 x1 H) : AC Try.prog T0 134 [x0, x1] H P :=
  r_fn T0_ok (c := code) (n := 25) Try.func134 body (by kernel_rfl) (main P) (En_mk (x0, x1, ()) (by kernel_rfl) ⟨by kernel_rfl, by kernel_rfl, trivial⟩ h)

end F134
-- loop.example/g01329/impl.compareEdges
namespace F135
noncomputable def ret (P : PT) : EP := retE T0 8 Try.f135 P
abbrev k0 : Sk := [(2,.x),(3,.x)]
noncomputable def o1 := ob Try.f135 [.r,.l]
def B1 (P : PT) (x2 x3 : Nat) (H : AHeap) : Prop :=
  AC Try.prog T0 171 [(Value.slice (some ⟨x2, 0, none⟩) 2 (2 + 1)), (Value.slice (some ⟨x3, 0, none⟩) 2 (2 + 1))] H (fun v1 H2 => asI .i64 v1 (fun v3 => P (Value.int .i64 v3) H2))
theorem q1 (P : PT) : QD Try.prog T0 8 o1 [(0, false), (1, false), (2, false), (3, false)] (ret P) k0 (B1 P) := fun _ _ _ _  => by kernel_rfl
abbrev k1 : Sk := [(0,.g [.i,.i]),(1,.g [.i,.i])]
noncomputable def o2 := ob Try.f135 [.l]
def B2 (P : PT) (x0a x0b x1a x1b : Int) (H : AHeap) : Prop :=
  newK H [(Value.int .i64 x0a), (Value.int .i64 x0b)] 67 (fun b1 H2 => newK H2 [(Value.int .i64 x1a), (Value.int .i64 x1b)] 67 (fun b3 H4 => B1 P b1 b3 H4))
theorem q2 (P : PT) : QB Try.prog T0 8 o2 (En 8 k0 (B1 P)) k1 (B2 P) := fun _ _ _ _ _ _  => by kernel_rfl
noncomputable def code : Code := (.seq (.region 0 ⟨o2⟩ false) (.seq (.region 1 ⟨o1⟩ true) .ret))
theorem body : Try.f135.body = some code := by kernel_rfl
theorem main (P : PT) : ∀ env H, (En 8 k1 (B2 P)) env H → AW Try.prog T0 code env H (mkQ (ret P) (fun _ _ _ => False) (ret P)) :=
  (r_seq (rB T0_ok (q2 P)) (r_seq (rD T0_ok mixed [(0, false), (1, false), (2, false), (3, false)] (by kernel_rfl) (q1 P)) r_ret))
theorem ac (P : PT) (x0a x0b x1a x1b : Int) (H : AHeap) (h : B2 P x0a x0b x1a x1b H) : AC Try.prog T0 135 [(Value.agg ⟨[(Value.int .i64 x0a), (Value.int .i64 x0b)]⟩), (Value.agg ⟨[(Value.int .i64 x1a), (Value.int .i64 x1b)]⟩)] H P :=
  r_fn T0_ok (c := code) (n := 8) Try.func135 body (by kernel_rfl) (main P) (En_mk (x0a, x0b, x1a, x1b, ()) (by kernel_rfl) ⟨by kernel_rfl, by kernel_rfl, trivial⟩ h)

end F135
-- loop.example/g01329/impl.isCubic
namespace F136
noncomputable def ret (P : PT) : EP := retE T0 33 Try.f136 P
abbrev k0 : Sk := [(5,.v)]
noncomputable def o1 := ob Try.f136 [.r,.r,.r,.l]
def B1 (P : PT) (x5 : Value) (H : AHeap) : Prop :=
  AC Try.prog T0 92 [x5, (Value.func (.func 176) ⟨[]⟩ ⟨[]⟩)] H (fun v1 H2 => asB v1 (fun v3 => P (Value.bool v3) H2))
theorem q1 (P : PT) : QB Try.prog T0 33 o1 (ret P) k0 (B1 P) := fun _ _ _  => by kernel_rfl
abbrev k1 : Sk := [(5,.v),(10,.v),(11,.i .i64),(12,.i .i64)]
noncomputable def o3 := ob Try.f136 [.r,.r,.l,.r,.l,.l,.r,.r,.r]
def B3 (P : PT) (N2 : NTy k1 Pr) (x5 x10 : Value) (x11 x12 : Int) (H : AHeap) : Prop :=
  N2 x5 x10 x11 (IntKind.i64.wrap (x12 + 1)) H
theorem q3 (P : PT) (N2 : NTy k1 Pr) : QB Try.prog T0 33 o3 (En 33 k1 N2) k1 (B3 P N2) := fun _ _ _ _ _ _  => by kernel_rfl
abbrev k2 : Sk := [(5,.v),(7,.x),(10,.v),(11,.i .i64),(12,.i .i64)]
noncomputable def o4 := ob Try.f136 [.r,.r,.l,.r,.l,.l,.r,.r,.l,.l,.r,.r]
def B4 (P : PT) (N2 : NTy k1 Pr) (x5 : Value) (x7 : Nat) (x10 : Value) (x11 x12 : Int) (H : AHeap) : Prop :=
  ldI .i64 H x7 1 (fun v1 => idxK x5 v1 1 (fun b2 o3 => ldI .i64 H b2 o3 (fun v4 => idxK x5 v1 1 (fun b5 o6 => stK H b5 o6 [(Value.int .i64 (IntKind.i64.wrap (v4 + 1)))] (fun H7 => B3 P N2 x5 x10 x11 x12 H7)))))
theorem q4 (P : PT) (N2 : NTy k1 Pr) : QB Try.prog T0 33 o4 (En 33 k1 (B3 P N2)) k2 (B4 P N2) := fun _ _ _ _ _ _ _  => by kernel_rfl
noncomputable def o5 := ob Try.f136 [.r,.r,.l,.r,.l,.l,.r,.r,.l,.l,.r,.l]
def B5 (P : PT) (N2 : NTy k1 Pr) (x5 : Value) (x7 : Nat) (x10 : Value) (x11 x12 : Int) (H : AHeap) : Prop :=
  ldI .i64 H x7 0 (fun v1 => idxK x5 v1 1 (fun b2 o3 => ldI .i64 H b2 o3 (fun v4 => idxK x5 v1 1 (fun b5 o6 => stK H b5 o6 [(Value.int .i64 (IntKind.i64.wrap (v4 + 1)))] (fun H7 => B4 P N2 x5 x7 x10 x11 x12 H7)))))
theorem q5 (P : PT) (N2 : NTy k1 Pr) : QB Try.prog T0 33 o5 (En 33 k2 (B4 P N2)) k2 (B5 P N2) := fun _ _ _ _ _ _ _  => by kernel_rfl
noncomputable def o6 := ob Try.f136 [.r,.r,.l,.r,.l,.l,.r,.r,.l,.l,.l]
def B6 (P : PT) (N2 : NTy k1 Pr) (x5 x10 : Value) (x11 x12 : Int) (H : AHeap) : Prop :=
  idxK x10 x12 2 (fun b1 o2 => ldI .i64 H b1 o2 (fun v3 => ldI .i64 H b1 (o2 + 1) (fun v4 => newK H [(Value.int .i64 0), (Value.int .i64 0)] 67 (fun b5 H6 => stK H6 b5 0 [(Value.int .i64 v3), (Value.int .i64 v4)] (fun H7 => B5 P N2 x5 b5 x10 x11 x12 H7)))))
theorem q6 (P : PT) (N2 : NTy k1 Pr) : QB Try.prog T0 33 o6 (En 33 k2 (B5 P N2)) k1 (B6 P N2) := fun _ _ _ _ _ _  => by kernel_rfl
noncomputable def o7 := ob Try.f136 [.r,.r,.l,.r,.l,.l,.l]
def B7 (P : PT) (N2 : NTy k1 Pr) (x5 x10 : Value) (x11 x12 : Int) (H : AHeap) : Prop :=
  pif (decide ((x12 : Int) < x11)) (B6 P N2 x5 x10 x11 x12 H) (B1 P x5 H)
theorem q7 (P : PT) (N2 : NTy k1 Pr) : QB Try.prog T0 33 o7 (cnd 13 (En 33 k1 (B6 P N2)) (En 33 k0 (B1 P))) k1 (B7 P N2) := fun _ _ _ _ _ _  => by kernel_rfl
def L2 (P : PT) (x5 x10 : Value) (x11 x12 : Int) (H : AHeap) : Prop :=
  ∃ (I : NTy k1 Pr) (μ : NTy k1 (AHeap → Nat)), I x5 x10 x11 x12 H ∧ ∀ y5 y10 y11 y12 G, I y5 y10 y11 y12 G → B7 P (fun z5 z10 z11 z12 G' => I z5 z10 z11 z12 G' ∧ μ z5 z10 z11 z12 G' < μ y5 y10 y11 y12 G) y5 y10 y11 y12 G
theorem l2 (P : PT) : LQ k1 (L2 P) (B7 P) := fun ⟨_,_,_,_,_⟩ _ ⟨I, μ, h0, hI⟩ => ⟨apT _ I, apT _ μ, h0, fun ⟨_,_,_,_,_⟩ _ h => hI _ _ _ _ _  h⟩
abbrev k3 : Sk := [(1,.v),(5,.v)]
noncomputable def o8 := ob Try.f136 [.r,.r,.l,.l]
def B8 (P : PT) (x1 x5 : Value) (H : AHeap) : Prop :=
  lenK x1 (fun n1 => L2 P x5 x1 (n1 : Int) 0 H)
theorem q8 (P : PT) : QB Try.prog T0 33 o8 (En 33 k1 (L2 P)) k3 (B8 P) := fun _ _ _ _  => by kernel_rfl
abbrev k4 : Sk := [(0,.i .i64),(1,.v)]
noncomputable def o9 := ob Try.f136 [.r,.l]
def B9 (P : PT) (x0 : Int) (x1 : Value) (H : AHeap) : Prop :=
  mkR H 8 3 [(Value.int .i64 0)] x0 x0 (fun v2 H1 => B8 P x1 v2 H1)
theorem q9 (P : PT) : QB Try.prog T0 33 o9 (En 33 k3 (B8 P)) k4 (B9 P) := fun _ _ _ _  => by kernel_rfl
noncomputable def o10 := ob Try.f136 [.l]
def B10 (P : PT) (x0 : Int) (x1 : Value) (H : AHeap) : Prop :=
  B9 P x0 x1 H
theorem q10 (P : PT) : QB Try.prog T0 33 o10 (En 33 k4 (B9 P)) k4 (B10 P) := fun _ _ _ _  => by kernel_rfl
noncomputable def code : Code := (.seq (.region 0 ⟨o10⟩ false) (.seq (.region 1 ⟨o9⟩ false) (.seq (.seq (.region 2 ⟨o8⟩ false) (.block 0 (.loop (.seq (.region 3 ⟨o7⟩ false) (.seq (.cond (.tmp 13) .skip (.exit 0)) (.seq (.block 1 (.seq (.region 4 ⟨o6⟩ false) (.seq (.region 5 ⟨o5⟩ false) (.region 6 ⟨o4⟩ false)))) (.region 7 ⟨o3⟩ false))))))) (.seq (.region 8 ⟨o1⟩ false) .ret))))
theorem body : Try.f136.body = some code := by kernel_rfl
theorem main (P : PT) : ∀ env H, (En 33 k4 (B10 P)) env H → AW Try.prog T0 code env H (mkQ (ret P) (fun _ _ _ => False) (ret P)) :=
  (r_seq (rB T0_ok (q10 P)) (r_seq (rB T0_ok (q9 P)) (r_seq (r_seq (rB T0_ok (q8 P)) (r_block (rL (l2 P) (fun N2 => (r_seq (rB T0_ok (q7 P N2)) (r_seq (r_cond rfl r_skip (r_exit (fun _ _ h => h))) (r_seq (r_block (r_seq (rB T0_ok (q6 P N2)) (r_seq (rB T0_ok (q5 P N2)) (rB T0_ok (q4 P N2))))) (rB T0_ok (q3 P N2))))))))) (r_seq (rB T0_ok (q1 P)) r_ret))))
theorem ac (P : PT) (x0 : Int) (x1 : Value) (H : AHeap) (h : B10 P x0 x1 H) : AC Try.prog T0 136 [(Value.int .i64 x0), x1] H P :=
  r_fn T0_ok (c := code) (n := 33) Try.func136 body (by kernel_rfl) (main P) (En_mk (x0, x1, ()) (by kernel_rfl) ⟨by kernel_rfl, by kernel_rfl, trivial⟩ h)

end F136
-- slices.IndexFunc[[]int64,int64]
namespace F141
noncomputable def ret (P : PT) : EP := retE T0 19 Try.f141 P
abbrev k0 : Sk := []
noncomputable def o1 := ob Try.f141 [.r,.r,.l]
def B1 (P : PT) (H : AHeap) : Prop :=
  P (Value.int .i64 (-1)) H
theorem q1 (P : PT) : QB Try.prog T0 19 o1 (ret P) k0 (B1 P) := fun _ _  => by kernel_rfl
abbrev k1 : Sk := [(0,.v),(1,.v),(7,.i .i64),(8,.i .i64)]
noncomputable def o3 := ob Try.f141 [.r,.l,.r,.l,.l,.r,.r,.r]
def B3 (P : PT) (N2 : NTy k1 Pr) (x0 x1 : Value) (x7 x8 : Int) (H : AHeap) : Prop :=
  N2 x0 x1 x7 (IntKind.i64.wrap (x8 + 1)) H
theorem q3 (P : PT) (N2 : NTy k1 Pr) : QB Try.prog T0 19 o3 (En 19 k1 N2) k1 (B3 P N2) := fun _ _ _ _ _ _  => by kernel_rfl
abbrev k2 : Sk := [(5,.i .i64)]
noncomputable def o4 := ob Try.f141 [.r,.l,.r,.l,.l,.r,.r,.l,.l,.r,.r,.l,.l]
def B4 (P : PT) (N2 : NTy k1 Pr) (x5 : Int) (H : AHeap) : Prop :=
  P (Value.int .i64 x5) H
theorem q4 (P : PT) (N2 : NTy k1 Pr) : QB Try.prog T0 19 o4 (ret P) k2 (B4 P N2) := fun _ _ _  => by kernel_rfl
abbrev k3 : Sk := [(0,.v),(1,.v),(5,.i .i64),(7,.i .i64),(8,.i .i64)]
noncomputable def o5 := ob Try.f141 [.r,.l,.r,.l,.l,.r,.r,.l,.l,.r,.l]
def B5 (P : PT) (N2 : NTy k1 Pr) (x0 x1 : Value) (x5 x7 x8 : Int) (H : AHeap) : Prop :=
  idxK x0 x5 1 (fun b1 o2 => ldI .i64 H b1 o2 (fun v3 => callV Try.prog T0 x1 [(Value.int .i64 v3)] H (fun v4 H5 => asB v4 (fun v6 => pif v6 (B4 P N2 x5 H5) (B3 P N2 x0 x1 x7 x8 H5)))))
theorem q5 (P : PT) (N2 : NTy k1 Pr) : QB Try.prog T0 19 o5 (cnd 16 (En 19 k2 (B4 P N2)) (En 19 k1 (B3 P N2))) k3 (B5 P N2) := fun _ _ _ _ _ _ _  => by kernel_rfl
noncomputable def o6 := ob Try.f141 [.r,.l,.r,.l,.l,.r,.r,.l,.l,.l]
def B6 (P : PT) (N2 : NTy k1 Pr) (x0 x1 : Value) (x7 x8 : Int) (H : AHeap) : Prop :=
  B5 P N2 x0 x1 x8 x7 x8 H
theorem q6 (P : PT) (N2 : NTy k1 Pr) : QB Try.prog T0 19 o6 (En 19 k3 (B5 P N2)) k1 (B6 P N2) := fun _ _ _ _ _ _  => by kernel_rfl
noncomputable def o7 := ob Try.f141 [.r,.l,.r,.l,.l,.l]
def B7 (P : PT) (N2 : NTy k1 Pr) (x0 x1 : Value) (x7 x8 : Int) (H : AHeap) : Prop :=
  pif (decide ((x8 : Int) < x7)) (B6 P N2 x0 x1 x7 x8 H) (B1 P H)
theorem q7 (P : PT) (N2 : NTy k1 Pr) : QB Try.prog T0 19 o7 (cnd 9 (En 19 k1 (B6 P N2)) (En 19 k0 (B1 P))) k1 (B7 P N2) := fun _ _ _ _ _ _  => by kernel_rfl
def L2 (P : PT) (x0 x1 : Value) (x7 x8 : Int) (H : AHeap) : Prop :=
  ∃ (I : NTy k1 Pr) (μ : NTy k1 (AHeap → Nat)), I x0 x1 x7 x8 H ∧ ∀ y0 y1 y7 y8 G, I y0 y1 y7 y8 G → B7 P (fun z0 z1 z7 z8 G' => I z0 z1 z7 z8 G' ∧ μ z0 z1 z7 z8 G' < μ y0 y1 y7 y8 G) y0 y1 y7 y8 G
theorem l2 (P : PT) : LQ k1 (L2 P) (B7 P) := fun ⟨_,_,_,_,_⟩ _ ⟨I, μ, h0, hI⟩ => ⟨apT _ I, apT _ μ, h0, fun ⟨_,_,_,_,_⟩ _ h => hI _ _ _ _ _  h⟩
abbrev k4 : Sk := [(0,.v),(1,.v)]
noncomputable def o8 := ob Try.f141 [.r,.l,.l]
def B8 (P : PT) (x0 x1 : Value) (H : AHeap) : Prop :=
  lenK x0 (fun n1 => L2 P x0 x1 (n1 : Int) 0 H)
theorem q8 (P : PT) : QB Try.prog T0 19 o8 (En 19 k1 (L2 P)) k4 (B8 P) := fun _ _ _ _  => by kernel_rfl
noncomputable def o9 := ob Try.f141 [.l]
def B9 (P : PT) (x0 x1 : Value) (H : AHeap) : Prop :=
  B8 P x0 x1 H
theorem q9 (P : PT) : QB Try.prog T0 19 o9 (En 19 k4 (B8 P)) k4 (B9 P) := fun _ _ _ _  => by kernel_rfl
noncomputable def code : Code := (.seq (.region 0 ⟨o9⟩ false) (.seq (.seq (.region 1 ⟨o8⟩ false) (.block 0 (.loop (.seq (.region 2 ⟨o7⟩ false) (.seq (.cond (.tmp 9) .skip (.exit 0)) (.seq (.block 1 (.seq (.region 3 ⟨o6⟩ false) (.seq (.region 4 ⟨o5⟩ false) (.cond (.tmp 16) (.seq (.region 5 ⟨o4⟩ false) .ret) .skip)))) (.region 6 ⟨o3⟩ false))))))) (.seq (.region 7 ⟨o1⟩ false) .ret)))
theorem body : Try.f141.body = some code := by kernel_rfl
theorem main (P : PT) : ∀ env H, (En 19 k4 (B9 P)) env H → AW Try.prog T0 code env H (mkQ (ret P) (fun _ _ _ => False) (ret P)) :=
  (r_seq (rB T0_ok (q9 P)) (r_seq (r_seq (rB T0_ok (q8 P)) (r_block (rL (l2 P) (fun N2 => (r_seq (rB T0_ok (q7 P N2)) (r_seq (r_cond rfl r_skip (r_exit (fun _ _ h => h))) (r_seq (r_block (r_seq (rB T0_ok (q6 P N2)) (r_seq (rB T0_ok (q5 P N2)) (r_cond rfl (r_seq (rB T0_ok (q4 P N2)) r_ret) r_skip)))) (rB T0_ok (q3 P N2))))))))) (r_seq (rB T0_ok (q1 P)) r_ret)))
theorem ac (P : PT) (x0 x1 : Value) (H : AHeap) (h : B9 P x0 x1 H) : AC Try.prog T0 141 [x0, x1] H P :=
  r_fn T0_ok (c := code) (n := 19) Try.func141 body (by kernel_rfl) (main P) (En_mk (x0, x1, ()) (by kernel_rfl) ⟨by kernel_rfl, by kernel_rfl, trivial⟩ h)

end F141
-- slices.ContainsFunc[[]int,int]
namespace F143
noncomputable def ret (P : PT) : EP := retE T0 9 Try.f143 P
abbrev k0 : Sk := [(0,.v),(1,.v)]
noncomputable def o1 := ob Try.f143 [.r,.l]
def B1 (P : PT) (x0 x1 : Value) (H : AHeap) : Prop :=
  AC Try.prog T0 179 [x0, x1] H (fun v1 H2 => asI .i64 v1 (fun v3 => P (Value.bool (decide ((v3 : Int) ≥ 0))) H2))
theorem q1 (P : PT) : QB Try.prog T0 9 o1 (ret P) k0 (B1 P) := fun _ _ _ _  => by kernel_rfl
noncomputable def o2 := ob Try.f143 [.l]
def B2 (P : PT) (x0 x1 : Value) (H : AHeap) : Prop :=
  B1 P x0 x1 H
theorem q2 (P : PT) : QB Try.prog T0 9 o2 (En 9 k0 (B1 P)) k0 (B2 P) := fun _ _ _ _  => by kernel_rfl
noncomputable def code : Code := (.seq (.region 0 ⟨o2⟩ false) (.seq (.region 1 ⟨o1⟩ false) .ret))
theorem body : Try.f143.body = some code := by kernel_rfl
theorem main (P : PT) : ∀ env H, (En 9 k0 (B2 P)) env H → AW Try.prog T0 code env H (mkQ (ret P) (fun _ _ _ => False) (ret P)) :=
  (r_seq (rB T0_ok (q2 P)) (r_seq (rB T0_ok (q1 P)) r_ret))
theorem ac (P : PT) (x0 x1 : Value) (H : AHeap) (h : B2 P x0 x1 H) : AC Try.prog T0 143 [x0, x1] H P :=
  r_fn T0_ok (c := code) (n := 9) Try.func143 body (by kernel_rfl) (main P) (En_mk (x0, x1, ()) (by kernel_rfl) ⟨by kernel_rfl, by kernel_rfl, trivial⟩ h)

end F143
-- loop.example/g01329/impl.areAll[int]$1
namespace F144
noncomputable def ret (P : PT) : EP := retE T0 8 Try.f144 P
abbrev k0 : Sk := [(0,.i .i64),(1,.v)]
noncomputable def o1 := ob Try.f144 [.r,.l]
def B1 (P : PT) (x0 : Int) (x1 : Value) (H : AHeap) : Prop :=
  asP x1 (fun b1 o2 => ld1 H b1 o2 (fun v3 => callV Try.prog T0 v3 [(Value.int .i64 x0)] H (fun v4 H5 => asB v4 (fun v6 => P (Value.bool (!v6)) H5))))
theorem q1 (P : PT) : QB Try.prog T0 8 o1 (ret P) k0 (B1 P) := fun _ _ _ _  => by kernel_rfl
noncomputable def o2 := ob Try.f144 [.l]
def B2 (P : PT) (x0 : Int) (x1 : Value) (H : AHeap) : Prop :=
  B1 P x0 x1 H
theorem q2 (P : PT) : QB Try.prog T0 8 o2 (En 8 k0 (B1 P)) k0 (B2 P) := fun _ _ _ _  => by kernel_rfl
noncomputable def code : Code := (.seq (.region 0 ⟨o2⟩ false) (.seq (.region 1 ⟨o1⟩ false) .ret))
theorem body : Try.f144.body = some code := by kernel_rfl
theorem main (P : PT) : ∀ env H, (En 8 k0 (B2 P)) env H → AW Try.prog T0 code env H (mkQ (ret P) (fun _ _ _ => False) (ret P)) :=
  (r_seq (rB T0_ok (q2 P)) (r_seq (rB T0_ok (q1 P)) r_ret))
theorem ac (P : PT) (x0 : Int) (x1 : Value) (H : AHeap) (h : B2 P x0 x1 H) : AC Try.prog T0 144 [(Value.int .i64 x0), x1] H P :=
  r_fn T0_ok (c := code) (n := 8) Try.func144 body (by kernel_rfl) (main P) (En_mk (x0, x1, ()) (by kernel_rfl) ⟨by kernel_rfl, by kernel_rfl, trivial⟩ h)

end F144
-- (loop.example/g01329/impl.Edge).isOn
namespace F145
noncomputable def ret (P : PT) : EP := retE T0 15 Try.f145 P
abbrev k0 : Sk := [(1,.i .i64),(2,.x)]
noncomputable def o1 := ob Try.f145 [.r,.l]
def B1 (P : PT) (x1 : Int) (x2 : Nat) (H : AHeap) : Prop :=
  ldI .i64 H x2 0 (fun v1 => pif ((v1 : Int) == x1) (P (Value.bool true) H) (ldI .i64 H x2 1 (fun v2 => P (Value.bool ((v2 : Int) == x1)) H)))
theorem q1 (P : PT) : QB Try.prog T0 15 o1 (ret P) k0 (B1 P) := fun _ _ _ _  => by kernel_rfl
abbrev k1 : Sk := [(0,.g [.i,.i]),(1,.i .i64)]
noncomputable def o2 := ob Try.f145 [.l]
def B2 (P : PT) (x0a x0b x1 : Int) (H : AHeap) : Prop :=
  newK H [(Value.int .i64 x0a), (Value.int .i64 x0b)] 67 (fun b1 H2 => B1 P x1 b1 H2)
theorem q2 (P : PT) : QB Try.prog T0 15 o2 (En 15 k0 (B1 P)) k1 (B2 P) := fun _ _ _ _ _  => by kernel_rfl
noncomputable def code : Code := (.seq (.region 0 ⟨o2⟩ false) (.seq (.region 1 ⟨o1⟩ false) .ret))
theorem body : Try.f145.body = some code := by kernel_rfl
theorem main (P : PT) : ∀ env H, (En 15 k1 (B2 P)) env H → AW Try.prog T0 code env H (mkQ (ret P) (fun _ _ _ => False) (ret P)) :=
  (r_seq (rB T0_ok (q2 P)) (r_seq (rB T0_ok (q1 P)) r_ret))
theorem ac (P : PT) (x0a x0b x1 : Int) (H : AHeap) (h : B2 P x0a x0b x1 H) : AC Try.prog T0 145 [(Value.agg ⟨[(Value.int .i64 x0a), (Value.int .i64 x0b)]⟩), (Value.int .i64 x1)] H P :=
  r_fn T0_ok (c := code) (n := 15) Try.func145 body (by kernel_rfl) (main P) (En_mk (x0a, x0b, x1, ()) (by kernel_rfl) ⟨by kernel_rfl, by kernel_rfl, trivial⟩ h)

end F145
end Go.Proofs
