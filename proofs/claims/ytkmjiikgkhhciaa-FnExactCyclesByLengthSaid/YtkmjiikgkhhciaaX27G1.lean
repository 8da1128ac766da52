import Derived.Test.YtkmjiikgkhhciaaT
set_option linter.unusedVariables false
set_option maxRecDepth 100000
namespace Go.Proofs
open Go.Abs
-- loop.example/g01329/laws.FnExactCyclesByLength
namespace F8
noncomputable def ret (P : PT) : EP := retE T0 96 Try.f8 P
abbrev k0 : Sk := []
noncomputable def o1 := ob Try.f8 [.r,.r,.r,.r,.r,.r,.r,.r,.r,.r,.r,.r,.r,.r,.r,.r,.r,.r,.r,.r,.r,.r,.r,.r,.l]
def B1 (P : PT) (H : AHeap) : Prop :=
  P (Value.bool true) H
theorem q1 (P : PT) : QB Try.prog T0 96 o1 (ret P) k0 (B1 P) := fun _ _  => by kernel_rfl
noncomputable def o2 := ob Try.f8 [.r,.r,.r,.r,.r,.r,.r,.r,.r,.r,.r,.r,.r,.r,.r,.r,.r,.r,.r,.r,.r,.r,.r,.l,.r,.l,.l]
def B2 (P : PT) (H : AHeap) : Prop :=
  P (Value.bool false) H
theorem q2 (P : PT) : QB Try.prog T0 96 o2 (ret P) k0 (B2 P) := fun _ _  => by kernel_rfl
abbrev k1 : Sk := [(10,.i .i64),(11,.i .i64)]
noncomputable def o3 := ob Try.f8 [.r,.r,.r,.r,.r,.r,.r,.r,.r,.r,.r,.r,.r,.r,.r,.r,.r,.r,.r,.r,.r,.r,.r,.l,.l]
def B3 (P : PT) (x10 x11 : Int) (H : AHeap) : Prop :=
  pif ((x11 : Int) != x10) (B2 P H) (B1 P H)
theorem q3 (P : PT) : QB Try.prog T0 96 o3 (cnd 95 (En 96 k0 (B2 P)) (En 96 k0 (B1 P))) k1 (B3 P) := fun _ _ _ _  => by kernel_rfl
noncomputable def o4 := ob Try.f8 [.r,.r,.r,.r,.r,.r,.r,.r,.r,.r,.r,.r,.r,.r,.r,.r,.r,.r,.r,.r,.r,.r,.l,.r,.l,.l]
def B4 (P : PT) (H : AHeap) : Prop :=
  P (Value.bool false) H
theorem q4 (P : PT) : QB Try.prog T0 96 o4 (ret P) k0 (B4 P) := fun _ _  => by kernel_rfl
noncomputable def o5 := ob Try.f8 [.r,.r,.r,.r,.r,.r,.r,.r,.r,.r,.r,.r,.r,.r,.r,.r,.r,.r,.r,.r,.r,.r,.l,.l]
def B5 (P : PT) (x10 x11 : Int) (H : AHeap) : Prop :=
  pif (decide ((x11 : Int) < 0)) (B4 P H) (B3 P x10 x11 H)
theorem q5 (P : PT) : QB Try.prog T0 96 o5 (cnd 92 (En 96 k0 (B4 P)) (En 96 k1 (B3 P))) k1 (B5 P) := fun _ _ _ _  => by kernel_rfl
abbrev k2 : Sk := [(7,.v),(10,.i .i64),(11,.i .i64)]
noncomputable def o6 := ob Try.f8 [.r,.r,.r,.r,.r,.r,.r,.r,.r,.r,.r,.r,.r,.r,.r,.r,.r,.r,.r,.r,.r,.l]
def B6 (P : PT) (x7 : Value) (x10 x11 : Int) (H : AHeap) : Prop :=
  AC Try.prog T0 30 [x7, (Value.int .i64 x11)] H (fun v1 H2 => asI .i64 v1 (fun v3 => B5 P x10 v3 H2))
theorem q6 (P : PT) : QB Try.prog T0 96 o6 (En 96 k1 (B5 P)) k2 (B6 P) := fun _ _ _ _ _  => by kernel_rfl
abbrev k3 : Sk := [(7,.v),(10,.i .i64)]
noncomputable def o7 := ob Try.f8 [.r,.r,.r,.r,.r,.r,.r,.r,.r,.r,.r,.r,.r,.r,.r,.r,.r,.r,.r,.r,.l]
def B7 (P : PT) (x7 : Value) (x10 : Int) (H : AHeap) : Prop :=
  B6 P x7 x10 1 H
theorem q7 (P : PT) : QB Try.prog T0 96 o7 (En 96 k2 (B6 P)) k3 (B7 P) := fun _ _ _ _  => by kernel_rfl
noncomputable def o8 := ob Try.f8 [.r,.r,.r,.r,.r,.r,.r,.r,.r,.r,.r,.r,.r,.r,.r,.r,.r,.r,.r,.l,.r,.l,.l]
def B8 (P : PT) (H : AHeap) : Prop :=
  P (Value.bool false) H
theorem q8 (P : PT) : QB Try.prog T0 96 o8 (ret P) k0 (B8 P) := fun _ _  => by kernel_rfl
abbrev k4 : Sk := [(4,.v),(5,.i .i64),(7,.v),(10,.i .i64),(12,.v),(13,.i .i64)]
noncomputable def o9 := ob Try.f8 [.r,.r,.r,.r,.r,.r,.r,.r,.r,.r,.r,.r,.r,.r,.r,.r,.r,.r,.r,.l,.l]
def B9 (P : PT) (x4 : Value) (x5 : Int) (x7 : Value) (x10 : Int) (x12 : Value) (x13 : Int) (H : AHeap) : Prop :=
  AC Try.prog T0 15 [x12, x4] H (fun v1 H2 => asB v1 (fun v3 => pif (!v3) (B8 P H2) (pif ((x13 : Int) != x5) (B8 P H2) (B7 P x7 x10 H2))))
theorem q9 (P : PT) : QB Try.prog T0 96 o9 (cnd 87 (En 96 k0 (B8 P)) (En 96 k3 (B7 P))) k4 (B9 P) := fun _ _ _ _ _ _ _ _  => by kernel_rfl
abbrev k5 : Sk := [(1,.x),(4,.v),(5,.i .i64),(7,.v),(10,.i .i64)]
noncomputable def o10 := ob Try.f8 [.r,.r,.r,.r,.r,.r,.r,.r,.r,.r,.r,.r,.r,.r,.r,.r,.r,.r,.l]
def B10 (P : PT) (x1 : Nat) (x4 : Value) (x5 : Int) (x7 : Value) (x10 : Int) (H : AHeap) : Prop :=
  ldI .i64 H x1 0 (fun v1 => ld1 H x1 1 (fun v2 => AC Try.prog T0 11 [(Value.agg ⟨[(Value.int .i64 v1), v2]⟩)] H (fun v3 H4 => agg2 v3 (fun v5 v6 => asI .i64 v5 (fun v7 => AC Try.prog T0 34 [(Value.agg ⟨[(Value.int .i64 v7), v6]⟩)] H4 (fun v9 H10 => tup2 v9 (fun v11 v12 => asI .i64 v12 (fun v14 => B9 P x4 x5 x7 x10 v11 v14 H10))))))))
theorem q10 (P : PT) : QB Try.prog T0 96 o10 (En 96 k4 (B9 P)) k5 (B10 P) := fun _ _ _ _ _ _ _  => by kernel_rfl
noncomputable def o11 := ob Try.f8 [.r,.r,.r,.r,.r,.r,.r,.r,.r,.r,.r,.r,.r,.r,.r,.r,.r,.l,.r,.l,.l]
def B11 (P : PT) (H : AHeap) : Prop :=
  P (Value.bool false) H
theorem q11 (P : PT) : QB Try.prog T0 96 o11 (ret P) k0 (B11 P) := fun _ _  => by kernel_rfl
abbrev k6 : Sk := [(1,.x),(4,.v),(5,.i .i64),(7,.v),(10,.i .i64),(11,.i .i64)]
noncomputable def o12 := ob Try.f8 [.r,.r,.r,.r,.r,.r,.r,.r,.r,.r,.r,.r,.r,.r,.r,.r,.r,.l,.l]
def B12 (P : PT) (x1 : Nat) (x4 : Value) (x5 : Int) (x7 : Value) (x10 x11 : Int) (H : AHeap) : Prop :=
  pif ((x11 : Int) != x10) (B11 P H) (B10 P x1 x4 x5 x7 x10 H)
theorem q12 (P : PT) : QB Try.prog T0 96 o12 (cnd 72 (En 96 k0 (B11 P)) (En 96 k5 (B10 P))) k6 (B12 P) := fun _ _ _ _ _ _ _ _  => by kernel_rfl
noncomputable def o13 := ob Try.f8 [.r,.r,.r,.r,.r,.r,.r,.r,.r,.r,.r,.r,.r,.r,.r,.r,.l,.r,.l,.l]
def B13 (P : PT) (H : AHeap) : Prop :=
  P (Value.bool false) H
theorem q13 (P : PT) : QB Try.prog T0 96 o13 (ret P) k0 (B13 P) := fun _ _  => by kernel_rfl
noncomputable def o14 := ob Try.f8 [.r,.r,.r,.r,.r,.r,.r,.r,.r,.r,.r,.r,.r,.r,.r,.r,.l,.l]
def B14 (P : PT) (x1 : Nat) (x4 : Value) (x5 : Int) (x7 : Value) (x10 x11 : Int) (H : AHeap) : Prop :=
  pif (decide ((x11 : Int) < 0)) (B13 P H) (B12 P x1 x4 x5 x7 x10 x11 H)
theorem q14 (P : PT) : QB Try.prog T0 96 o14 (cnd 69 (En 96 k0 (B13 P)) (En 96 k6 (B12 P))) k6 (B14 P) := fun _ _ _ _ _ _ _ _  => by kernel_rfl
noncomputable def o15 := ob Try.f8 [.r,.r,.r,.r,.r,.r,.r,.r,.r,.r,.r,.r,.r,.r,.r,.l]
def B15 (P : PT) (x1 : Nat) (x4 : Value) (x5 : Int) (x7 : Value) (x10 x11 : Int) (H : AHeap) : Prop :=
  AC Try.prog T0 30 [x7, (Value.int .i64 x11)] H (fun v1 H2 => asI .i64 v1 (fun v3 => B14 P x1 x4 x5 x7 x10 v3 H2))
theorem q15 (P : PT) : QB Try.prog T0 96 o15 (En 96 k6 (B14 P)) k6 (B15 P) := fun _ _ _ _ _ _ _ _  => by kernel_rfl
noncomputable def o16 := ob Try.f8 [.r,.r,.r,.r,.r,.r,.r,.r,.r,.r,.r,.r,.r,.r,.l]
def B16 (P : PT) (x1 : Nat) (x4 : Value) (x5 : Int) (x7 : Value) (x10 : Int) (H : AHeap) : Prop :=
  B15 P x1 x4 x5 x7 x10 1 H
theorem q16 (P : PT) : QB Try.prog T0 96 o16 (En 96 k6 (B15 P)) k5 (B16 P) := fun _ _ _ _ _ _ _  => by kernel_rfl
noncomputable def o17 := ob Try.f8 [.r,.r,.r,.r,.r,.r,.r,.r,.r,.r,.r,.r,.r,.l]
def B17 (P : PT) (x1 : Nat) (x4 : Value) (x5 : Int) (x7 : Value) (x10 : Int) (H : AHeap) : Prop :=
  AC Try.prog T0 29 [x7, (Value.int .i64 x10)] H (fun v1 H2 => asI .i64 v1 (fun v3 => B16 P x1 x4 x5 x7 v3 H2))
theorem q17 (P : PT) : QB Try.prog T0 96 o17 (En 96 k5 (B16 P)) k5 (B17 P) := fun _ _ _ _ _ _ _  => by kernel_rfl
abbrev k7 : Sk := [(1,.x),(4,.v),(5,.i .i64),(7,.v)]
noncomputable def o18 := ob Try.f8 [.r,.r,.r,.r,.r,.r,.r,.r,.r,.r,.r,.r,.l]
def B18 (P : PT) (x1 : Nat) (x4 : Value) (x5 : Int) (x7 : Value) (H : AHeap) : Prop :=
  B17 P x1 x4 x5 x7 1 H
theorem q18 (P : PT) : QB Try.prog T0 96 o18 (En 96 k5 (B17 P)) k7 (B18 P) := fun _ _ _ _ _ _  => by kernel_rfl
noncomputable def o19 := ob Try.f8 [.r,.r,.r,.r,.r,.r,.r,.r,.r,.r,.r,.l,.r,.l,.l]
def B19 (P : PT) (H : AHeap) : Prop :=
  P (Value.bool false) H
theorem q19 (P : PT) : QB Try.prog T0 96 o19 (ret P) k0 (B19 P) := fun _ _  => by kernel_rfl
abbrev k8 : Sk := [(1,.x),(4,.v),(5,.i .i64),(7,.v),(8,.i .i64),(9,.i .i64)]
noncomputable def o20 := ob Try.f8 [.r,.r,.r,.r,.r,.r,.r,.r,.r,.r,.r,.l,.l]
def B20 (P : PT) (x1 : Nat) (x4 : Value) (x5 : Int) (x7 : Value) (x8 x9 : Int) (H : AHeap) : Prop :=
  pif (decide ((x9 : Int) < 0)) (B19 P H) (AC Try.prog T0 15 [x7, x4] H (fun v1 H2 => asB v1 (fun v3 => pif (!v3) (B19 P H2) (pif ((x8 : Int) != x5) (B19 P H2) (B18 P x1 x4 x5 x7 H2)))))
theorem q20 (P : PT) : QB Try.prog T0 96 o20 (cnd 61 (En 96 k0 (B19 P)) (En 96 k7 (B18 P))) k8 (B20 P) := fun _ _ _ _ _ _ _ _  => by kernel_rfl
abbrev k9 : Sk := [(1,.x),(4,.v),(5,.i .i64),(6,.x),(7,.v),(8,.i .i64),(9,.i .i64)]
noncomputable def o21 := ob Try.f8 [.r,.r,.r,.r,.r,.r,.r,.r,.r,.r,.l]
def B21 (P : PT) (x1 : Nat) (x4 : Value) (x5 : Int) (x6 : Nat) (x7 : Value) (x8 x9 : Int) (H : AHeap) : Prop :=
  ldI .i64 H x6 0 (fun v1 => ld1 H x6 1 (fun v2 => AC Try.prog T0 28 [(Value.agg ⟨[(Value.int .i64 v1), v2]⟩), (Value.int .i64 x9)] H (fun v3 H4 => asI .i64 v3 (fun v5 => B20 P x1 x4 x5 x7 x8 v5 H4))))
theorem q21 (P : PT) : QB Try.prog T0 96 o21 (En 96 k8 (B20 P)) k9 (B21 P) := fun _ _ _ _ _ _ _ _ _  => by kernel_rfl
abbrev k10 : Sk := [(1,.x),(4,.v),(5,.i .i64),(6,.x),(7,.v),(8,.i .i64)]
noncomputable def o22 := ob Try.f8 [.r,.r,.r,.r,.r,.r,.r,.r,.r,.l]
def B22 (P : PT) (x1 : Nat) (x4 : Value) (x5 : Int) (x6 : Nat) (x7 : Value) (x8 : Int) (H : AHeap) : Prop :=
  B21 P x1 x4 x5 x6 x7 x8 1 H
theorem q22 (P : PT) : QB Try.prog T0 96 o22 (En 96 k9 (B21 P)) k10 (B22 P) := fun _ _ _ _ _ _ _ _  => by kernel_rfl
noncomputable def o23 := ob Try.f8 [.r,.r,.r,.r,.r,.r,.r,.r,.l,.r,.l,.l]
def B23 (P : PT) (H : AHeap) : Prop :=
  P (Value.bool false) H
theorem q23 (P : PT) : QB Try.prog T0 96 o23 (ret P) k0 (B23 P) := fun _ _  => by kernel_rfl
noncomputable def o24 := ob Try.f8 [.r,.r,.r,.r,.r,.r,.r,.r,.l,.l]
def B24 (P : PT) (x1 : Nat) (x4 : Value) (x5 : Int) (x6 : Nat) (x7 : Value) (x8 : Int) (H : AHeap) : Prop :=
  ldI .i64 H x6 0 (fun v1 => ld1 H x6 1 (fun v2 => ldI .i64 H x1 0 (fun v3 => ld1 H x1 1 (fun v4 => AC Try.prog T0 11 [(Value.agg ⟨[(Value.int .i64 v3), v4]⟩)] H (fun v5 H6 => agg2 v5 (fun v7 v8 => asI .i64 v7 (fun v9 => (AHeap.le H H6) ∧ (AC Try.prog T0 14 [(Value.agg ⟨[(Value.int .i64 v1), v2]⟩), (Value.agg ⟨[(Value.int .i64 v9), v8]⟩)] H6 (fun v11 H12 => asB v11 (fun v13 => pif (!v13) (B23 P H12) (B22 P x1 x4 x5 x6 x7 x8 H12)))))))))))
theorem q24 (P : PT) : QD Try.prog T0 96 o24 [(0, false), (1, false), (2, true), (3, false), (4, false)] (cnd 45 (En 96 k0 (B23 P)) (En 96 k10 (B22 P))) k10 (B24 P) := fun _ _ _ _ _ _ _ _  => by kernel_rfl
noncomputable def o25 := ob Try.f8 [.r,.r,.r,.r,.r,.r,.r,.l,.r,.l,.l]
def B25 (P : PT) (H : AHeap) : Prop :=
  P (Value.bool false) H
theorem q25 (P : PT) : QB Try.prog T0 96 o25 (ret P) k0 (B25 P) := fun _ _  => by kernel_rfl
noncomputable def o26 := ob Try.f8 [.r,.r,.r,.r,.r,.r,.r,.l,.l]
def B26 (P : PT) (x1 : Nat) (x4 : Value) (x5 : Int) (x6 : Nat) (x7 : Value) (x8 : Int) (H : AHeap) : Prop :=
  AC Try.prog T0 15 [x7, x4] H (fun v1 H2 => asB v1 (fun v3 => pif (!v3) (B25 P H2) (pif ((x8 : Int) != x5) (B25 P H2) (B24 P x1 x4 x5 x6 x7 x8 H2))))
theorem q26 (P : PT) : QB Try.prog T0 96 o26 (cnd 40 (En 96 k0 (B25 P)) (En 96 k10 (B24 P))) k10 (B26 P) := fun _ _ _ _ _ _ _ _  => by kernel_rfl
abbrev k11 : Sk := [(1,.x),(4,.v),(5,.i .i64),(6,.x)]
noncomputable def o27 := ob Try.f8 [.r,.r,.r,.r,.r,.r,.l]
def B27 (P : PT) (x1 : Nat) (x4 : Value) (x5 : Int) (x6 : Nat) (H : AHeap) : Prop :=
  ldI .i64 H x6 0 (fun v1 => ld1 H x6 1 (fun v2 => AC Try.prog T0 34 [(Value.agg ⟨[(Value.int .i64 v1), v2]⟩)] H (fun v3 H4 => tup2 v3 (fun v5 v6 => asI .i64 v6 (fun v8 => B26 P x1 x4 x5 x6 v5 v8 H4)))))
theorem q27 (P : PT) : QB Try.prog T0 96 o27 (En 96 k10 (B26 P)) k11 (B27 P) := fun _ _ _ _ _ _  => by kernel_rfl
abbrev k12 : Sk := [(1,.x),(4,.v),(5,.i .i64)]
noncomputable def o28 := ob Try.f8 [.r,.r,.r,.r,.r,.l]
def B28 (P : PT) (x1 : Nat) (x4 : Value) (x5 : Int) (H : AHeap) : Prop :=
  ldI .i64 H x1 0 (fun v1 => ld1 H x1 1 (fun v2 => AC Try.prog T0 11 [(Value.agg ⟨[(Value.int .i64 v1), v2]⟩)] H (fun v3 H4 => agg2 v3 (fun v5 v6 => asI .i64 v5 (fun v7 => newK H4 [(Value.int .i64 0), (Value.slice none 0 0)] 31 (fun b9 H10 => stK H10 b9 0 [(Value.int .i64 v7), v6] (fun H11 => B27 P x1 x4 x5 b9 H11)))))))
theorem q28 (P : PT) : QB Try.prog T0 96 o28 (En 96 k11 (B27 P)) k12 (B28 P) := fun _ _ _ _ _  => by kernel_rfl
abbrev k13 : Sk := [(1,.x)]
noncomputable def o29 := ob Try.f8 [.r,.r,.r,.r,.l]
def B29 (P : PT) (x1 : Nat) (H : AHeap) : Prop :=
  ldI .i64 H x1 0 (fun v1 => ld1 H x1 1 (fun v2 => AC Try.prog T0 11 [(Value.agg ⟨[(Value.int .i64 v1), v2]⟩)] H (fun v3 H4 => agg2 v3 (fun v5 v6 => asI .i64 v5 (fun v7 => AC Try.prog T0 33 [(Value.agg ⟨[(Value.int .i64 v7), v6]⟩)] H4 (fun v9 H10 => tup2 v9 (fun v11 v12 => asI .i64 v12 (fun v14 => B28 P x1 v11 v14 H10))))))))
theorem q29 (P : PT) : QB Try.prog T0 96 o29 (En 96 k12 (B28 P)) k13 (B29 P) := fun _ _ _  => by kernel_rfl
noncomputable def o30 := ob Try.f8 [.r,.r,.r,.l,.r,.l,.l]
def B30 (P : PT) (H : AHeap) : Prop :=
  P (Value.bool true) H
theorem q30 (P : PT) : QB Try.prog T0 96 o30 (ret P) k0 (B30 P) := fun _ _  => by kernel_rfl
abbrev k14 : Sk := [(1,.x),(3,.i .i64)]
noncomputable def o31 := ob Try.f8 [.r,.r,.r,.l,.l]
def B31 (P : PT) (x1 : Nat) (x3 : Int) (H : AHeap) : Prop :=
  pif (decide ((x3 : Int) < 0)) (B30 P H) (B29 P x1 H)
theorem q31 (P : PT) : QB Try.prog T0 96 o31 (cnd 18 (En 96 k0 (B30 P)) (En 96 k13 (B29 P))) k14 (B31 P) := fun _ _ _ _  => by kernel_rfl
noncomputable def o32 := ob Try.f8 [.r,.r,.l]
def B32 (P : PT) (x1 : Nat) (x3 : Int) (H : AHeap) : Prop :=
  ldI .i64 H x1 0 (fun v1 => ld1 H x1 1 (fun v2 => AC Try.prog T0 9 [(Value.agg ⟨[(Value.int .i64 v1), v2]⟩), (Value.int .i64 x3)] H (fun v3 H4 => asI .i64 v3 (fun v5 => B31 P x1 v5 H4))))
theorem q32 (P : PT) : QB Try.prog T0 96 o32 (En 96 k14 (B31 P)) k14 (B32 P) := fun _ _ _ _  => by kernel_rfl
noncomputable def o33 := ob Try.f8 [.r,.l]
def B33 (P : PT) (x1 : Nat) (H : AHeap) : Prop :=
  B32 P x1 1048576 H
theorem q33 (P : PT) : QB Try.prog T0 96 o33 (En 96 k14 (B32 P)) k13 (B33 P) := fun _ _ _  => by kernel_rfl
abbrev k15 : Sk := [(0,.g [.i,.v])]
noncomputable def o34 := ob Try.f8 [.l]
def B34 (P : PT) (x0a : Int) (x0b : Value) (H : AHeap) : Prop :=
  newK H [(Value.int .i64 x0a), x0b] 24 (fun b1 H2 => B33 P b1 H2)
theorem q34 (P : PT) : QB Try.prog T0 96 o34 (En 96 k13 (B33 P)) k15 (B34 P) := fun _ _ _ _  => by kernel_rfl
noncomputable def code : Code := (.seq (.region 0 ⟨o34⟩ false) (.seq (.region 1 ⟨o33⟩ false) (.seq (.region 2 ⟨o32⟩ false) (.seq (.seq (.region 3 ⟨o31⟩ false) (.cond (.tmp 18) (.seq (.region 4 ⟨o30⟩ false) .ret) .skip)) (.seq (.region 5 ⟨o29⟩ false) (.seq (.region 6 ⟨o28⟩ false) (.seq (.region 7 ⟨o27⟩ false) (.seq (.seq (.region 8 ⟨o26⟩ false) (.cond (.tmp 40) (.seq (.region 9 ⟨o25⟩ false) .ret) .skip)) (.seq (.seq (.region 10 ⟨o24⟩ true) (.cond (.tmp 45) (.seq (.region 11 ⟨o23⟩ false) .ret) .skip)) (.seq (.region 12 ⟨o22⟩ false) (.seq (.region 13 ⟨o21⟩ false) (.seq (.seq (.region 14 ⟨o20⟩ false) (.cond (.tmp 61) (.seq (.region 15 ⟨o19⟩ false) .ret) .skip)) (.seq (.region 16 ⟨o18⟩ false) (.seq (.region 17 ⟨o17⟩ false) (.seq (.region 18 ⟨o16⟩ false) (.seq (.region 19 ⟨o15⟩ false) (.seq (.seq (.region 20 ⟨o14⟩ false) (.cond (.tmp 69) (.seq (.region 21 ⟨o13⟩ false) .ret) .skip)) (.seq (.seq (.region 22 ⟨o12⟩ false) (.cond (.tmp 72) (.seq (.region 23 ⟨o11⟩ false) .ret) .skip)) (.seq (.region 24 ⟨o10⟩ false) (.seq (.seq (.region 25 ⟨o9⟩ false) (.cond (.tmp 87) (.seq (.region 26 ⟨o8⟩ false) .ret) .skip)) (.seq (.region 27 ⟨o7⟩ false) (.seq (.region 28 ⟨o6⟩ false) (.seq (.seq (.region 29 ⟨o5⟩ false) (.cond (.tmp 92) (.seq (.region 30 ⟨o4⟩ false) .ret) .skip)) (.seq (.seq (.region 31 ⟨o3⟩ false) (.cond (.tmp 95) (.seq (.region 32 ⟨o2⟩ false) .ret) .skip)) (.seq (.region 33 ⟨o1⟩ false) .ret)))))))))))))))))))))))))
theorem body : Try.f8.body = some code := by kernel_rfl
theorem main (P : PT) : ∀ env H, (En 96 k15 (B34 P)) env H → AW Try.prog T0 code env H (mkQ (ret P) (fun _ _ _ => False) (ret P)) :=
  (r_seq (rB T0_ok (q34 P)) (r_seq (rB T0_ok (q33 P)) (r_seq (rB T0_ok (q32 P)) (r_seq (r_seq (rB T0_ok (q31 P)) (r_cond rfl (r_seq (rB T0_ok (q30 P)) r_ret) r_skip)) (r_seq (rB T0_ok (q29 P)) (r_seq (rB T0_ok (q28 P)) (r_seq (rB T0_ok (q27 P)) (r_seq (r_seq (rB T0_ok (q26 P)) (r_cond rfl (r_seq (rB T0_ok (q25 P)) r_ret) r_skip)) (r_seq (r_seq (rD T0_ok mixed [(0, false), (1, false), (2, true), (3, false), (4, false)] (by kernel_rfl) (q24 P)) (r_cond rfl (r_seq (rB T0_ok (q23 P)) r_ret) r_skip)) (r_seq (rB T0_ok (q22 P)) (r_seq (rB T0_ok (q21 P)) (r_seq (r_seq (rB T0_ok (q20 P)) (r_cond rfl (r_seq (rB T0_ok (q19 P)) r_ret) r_skip)) (r_seq (rB T0_ok (q18 P)) (r_seq (rB T0_ok (q17 P)) (r_seq (rB T0_ok (q16 P)) (r_seq (rB T0_ok (q15 P)) (r_seq (r_seq (rB T0_ok (q14 P)) (r_cond rfl (r_seq (rB T0_ok (q13 P)) r_ret) r_skip)) (r_seq (r_seq (rB T0_ok (q12 P)) (r_cond rfl (r_seq (rB T0_ok (q11 P)) r_ret) r_skip)) (r_seq (rB T0_ok (q10 P)) (r_seq (r_seq (rB T0_ok (q9 P)) (r_cond rfl (r_seq (rB T0_ok (q8 P)) r_ret) r_skip)) (r_seq (rB T0_ok (q7 P)) (r_seq (rB T0_ok (q6 P)) (r_seq (r_seq (rB T0_ok (q5 P)) (r_cond rfl (r_seq (rB T0_ok (q4 P)) r_ret) r_skip)) (r_seq (r_seq (rB T0_ok (q3 P)) (r_cond rfl (r_seq (rB T0_ok (q2 P)) r_ret) r_skip)) (r_seq (rB T0_ok (q1 P)) r_ret)))))))))))))))))))))))))
theorem ac (P : PT) (x0a : Int) (x0b : Value) (H : AHeap) (h : B34 P x0a x0b H) : AC Try.prog T0 8 [(Value.agg ⟨[(Value.int .i64 x0a), x0b]⟩)] H P :=
  r_fn T0_ok (c := code) (n := 96) Try.func8 body (by kernel_rfl) (main P) (En_mk (x0a, x0b, ()) (by kernel_rfl) ⟨by kernel_rfl, trivial⟩ h)

end F8
-- loop.example/g01329/laws.szGraph
namespace F9
noncomputable def ret (P : PT) : EP := retE T0 12 Try.f9 P
abbrev k0 : Sk := [(1,.i .i64)]
noncomputable def o1 := ob Try.f9 [.r,.r,.r,.l]
def B1 (P : PT) (x1 : Int) (H : AHeap) : Prop :=
  P (Value.int .i64 x1) H
theorem q1 (P : PT) : QB Try.prog T0 12 o1 (ret P) k0 (B1 P) := fun _ _ _  => by kernel_rfl
abbrev k1 : Sk := []
noncomputable def o2 := ob Try.f9 [.r,.r,.l,.r,.l,.l]
def B2 (P : PT) (H : AHeap) : Prop :=
  P (Value.int .i64 (-1)) H
theorem q2 (P : PT) : QB Try.prog T0 12 o2 (ret P) k1 (B2 P) := fun _ _  => by kernel_rfl
noncomputable def o3 := ob Try.f9 [.r,.r,.l,.l]
def B3 (P : PT) (x1 : Int) (H : AHeap) : Prop :=
  pif (decide ((x1 : Int) < 0)) (B2 P H) (B1 P x1 H)
theorem q3 (P : PT) : QB Try.prog T0 12 o3 (cnd 10 (En 12 k1 (B2 P)) (En 12 k0 (B1 P))) k0 (B3 P) := fun _ _ _  => by kernel_rfl
abbrev k2 : Sk := [(1,.i .i64),(2,.x)]
noncomputable def o4 := ob Try.f9 [.r,.l]
def B4 (P : PT) (x1 : Int) (x2 : Nat) (H : AHeap) : Prop :=
  ld1 H x2 1 (fun v1 => AC Try.prog T0 35 [v1, (Value.int .i64 x1)] H (fun v2 H3 => asI .i64 v2 (fun v4 => B3 P v4 H3)))
theorem q4 (P : PT) : QB Try.prog T0 12 o4 (En 12 k0 (B3 P)) k2 (B4 P) := fun _ _ _ _  => by kernel_rfl
abbrev k3 : Sk := [(0,.g [.i,.v]),(1,.i .i64)]
noncomputable def o5 := ob Try.f9 [.l]
def B5 (P : PT) (x0a : Int) (x0b : Value) (x1 : Int) (H : AHeap) : Prop :=
  newK H [(Value.int .i64 x0a), x0b] 24 (fun b1 H2 => B4 P x1 b1 H2)
theorem q5 (P : PT) : QB Try.prog T0 12 o5 (En 12 k2 (B4 P)) k3 (B5 P) := fun _ _ _ _ _  => by kernel_rfl
noncomputable def code : Code := (.seq (.region 0 ⟨o5⟩ false) (.seq (.region 1 ⟨o4⟩ false) (.seq (.seq (.region 2 ⟨o3⟩ false) (.cond (.tmp 10) (.seq (.region 3 ⟨o2⟩ false) .ret) .skip)) (.seq (.region 4 ⟨o1⟩ false) .ret))))
theorem body : Try.f9.body = some code := by kernel_rfl
theorem main (P : PT) : ∀ env H, (En 12 k3 (B5 P)) env H → AW Try.prog T0 code env H (mkQ (ret P) (fun _ _ _ => False) (ret P)) :=
  (r_seq (rB T0_ok (q5 P)) (r_seq (rB T0_ok (q4 P)) (r_seq (r_seq (rB T0_ok (q3 P)) (r_cond rfl (r_seq (rB T0_ok (q2 P)) r_ret) r_skip)) (r_seq (rB T0_ok (q1 P)) r_ret))))
theorem ac (P : PT) (x0a : Int) (x0b : Value) (x1 : Int) (H : AHeap) (h : B5 P x0a x0b x1 H) : AC Try.prog T0 9 [(Value.agg ⟨[(Value.int .i64 x0a), x0b]⟩), (Value.int .i64 x1)] H P :=
  r_fn T0_ok (c := code) (n := 12) Try.func9 body (by kernel_rfl) (main P) (En_mk (x0a, x0b, x1, ()) (by kernel_rfl) ⟨by kernel_rfl, by kernel_rfl, trivial⟩ h)

end F9
-- loop.example/g01329/laws.toGraph
namespace F11
noncomputable def ret (P : PT) : EP := retE T0 12 Try.f11 P
abbrev k0 : Sk := [(2,.x),(3,.x)]
noncomputable def o1 := ob Try.f11 [.r,.r,.r,.r,.l]
def B1 (P : PT) (x2 x3 : Nat) (H : AHeap) : Prop :=
  ldI .i64 H x3 0 (fun v1 => ld1 H x3 1 (fun v2 => stK H x2 0 [(Value.int .i64 v1), v2] (fun H3 => ldI .i64 H3 x2 0 (fun v4 => ld1 H3 x2 1 (fun v5 => P (Value.agg ⟨[(Value.int .i64 v4), v5]⟩) H3)))))
theorem q1 (P : PT) : QB Try.prog T0 12 o1 (ret P) k0 (B1 P) := fun _ _ _ _  => by kernel_rfl
abbrev k1 : Sk := [(1,.x),(2,.x),(3,.x)]
noncomputable def o2 := ob Try.f11 [.r,.r,.r,.l]
def B2 (P : PT) (x1 x2 x3 : Nat) (H : AHeap) : Prop :=
  ld1 H x1 1 (fun v1 => AC Try.prog T0 40 [v1] H (fun v2 H3 => pif (Value.oneCell' v2) (stK H3 x3 1 [v2] (fun H5 => B1 P x2 x3 H5)) False))
theorem q2 (P : PT) : QB Try.prog T0 12 o2 (En 12 k0 (B1 P)) k1 (B2 P) := fun _ _ _ _ _  => by kernel_rfl
noncomputable def o3 := ob Try.f11 [.r,.r,.l]
def B3 (P : PT) (x1 x2 x3 : Nat) (H : AHeap) : Prop :=
  ldI .i64 H x1 0 (fun v1 => stK H x3 0 [(Value.int .i64 v1)] (fun H2 => B2 P x1 x2 x3 H2))
theorem q3 (P : PT) : QB Try.prog T0 12 o3 (En 12 k1 (B2 P)) k1 (B3 P) := fun _ _ _ _ _  => by kernel_rfl
abbrev k2 : Sk := [(1,.x),(2,.x)]
noncomputable def o4 := ob Try.f11 [.r,.l]
def B4 (P : PT) (x1 x2 : Nat) (H : AHeap) : Prop :=
  newK H [(Value.int .i64 0), (Value.slice none 0 0)] 31 (fun b1 H2 => B3 P x1 x2 b1 H2)
theorem q4 (P : PT) : QB Try.prog T0 12 o4 (En 12 k1 (B3 P)) k2 (B4 P) := fun _ _ _ _  => by kernel_rfl
abbrev k3 : Sk := [(0,.g [.i,.v])]
noncomputable def o5 := ob Try.f11 [.l]
def B5 (P : PT) (x0a : Int) (x0b : Value) (H : AHeap) : Prop :=
  newK H [(Value.int .i64 x0a), x0b] 24 (fun b1 H2 => newK H2 [(Value.int .i64 0), (Value.slice none 0 0)] 31 (fun b3 H4 => B4 P b1 b3 H4))
theorem q5 (P : PT) : QB Try.prog T0 12 o5 (En 12 k2 (B4 P)) k3 (B5 P) := fun _ _ _ _  => by kernel_rfl
noncomputable def code : Code := (.seq (.region 0 ⟨o5⟩ false) (.seq (.region 1 ⟨o4⟩ false) (.seq (.region 2 ⟨o3⟩ false) (.seq (.region 3 ⟨o2⟩ false) (.seq (.region 4 ⟨o1⟩ false) .ret)))))
theorem body : Try.f11.body = some code := by kernel_rfl
theorem main (P : PT) : ∀ env H, (En 12 k3 (B5 P)) env H → AW Try.prog T0 code env H (mkQ (ret P) (fun _ _ _ => False) (ret P)) :=
  (r_seq (rB T0_ok (q5 P)) (r_seq (rB T0_ok (q4 P)) (r_seq (rB T0_ok (q3 P)) (r_seq (rB T0_ok (q2 P)) (r_seq (rB T0_ok (q1 P)) r_ret)))))
theorem ac (P : PT) (x0a : Int) (x0b : Value) (H : AHeap) (h : B5 P x0a x0b H) : AC Try.prog T0 11 [(Value.agg ⟨[(Value.int .i64 x0a), x0b]⟩)] H P :=
  r_fn T0_ok (c := code) (n := 12) Try.func11 body (by kernel_rfl) (main P) (En_mk (x0a, x0b, ()) (by kernel_rfl) ⟨by kernel_rfl, trivial⟩ h)

end F11
-- loop.example/g01329/laws.eqGraph
namespace F14
noncomputable def ret (P : PT) : EP := retE T0 16 Try.f14 P
abbrev k0 : Sk := []
noncomputable def o1 := ob Try.f14 [.r,.r,.r,.l]
def B1 (P : PT) (H : AHeap) : Prop :=
  P (Value.bool true) H
theorem q1 (P : PT) : QB Try.prog T0 16 o1 (ret P) k0 (B1 P) := fun _ _  => by kernel_rfl
noncomputable def o2 := ob Try.f14 [.r,.r,.l,.r,.l,.l]
def B2 (P : PT) (H : AHeap) : Prop :=
  P (Value.bool false) H
theorem q2 (P : PT) : QB Try.prog T0 16 o2 (ret P) k0 (B2 P) := fun _ _  => by kernel_rfl
abbrev k1 : Sk := [(2,.x),(3,.x)]
noncomputable def o3 := ob Try.f14 [.r,.r,.l,.l]
def B3 (P : PT) (x2 x3 : Nat) (H : AHeap) : Prop :=
  ld1 H x2 1 (fun v1 => ld1 H x3 1 (fun v2 => AC Try.prog T0 46 [v1, v2] H (fun v3 H4 => asB v3 (fun v5 => pif (!v5) (B2 P H4) (B1 P H4)))))
theorem q3 (P : PT) : QB Try.prog T0 16 o3 (cnd 15 (En 16 k0 (B2 P)) (En 16 k0 (B1 P))) k1 (B3 P) := fun _ _ _ _  => by kernel_rfl
noncomputable def o4 := ob Try.f14 [.r,.l,.r,.l,.l]
def B4 (P : PT) (H : AHeap) : Prop :=
  P (Value.bool false) H
theorem q4 (P : PT) : QB Try.prog T0 16 o4 (ret P) k0 (B4 P) := fun _ _  => by kernel_rfl
noncomputable def o5 := ob Try.f14 [.r,.l,.l]
def B5 (P : PT) (x2 x3 : Nat) (H : AHeap) : Prop :=
  ldI .i64 H x2 0 (fun v1 => ldI .i64 H x3 0 (fun v2 => pif ((v1 : Int) != v2) (B4 P H) (B3 P x2 x3 H)))
theorem q5 (P : PT) : QB Try.prog T0 16 o5 (cnd 9 (En 16 k0 (B4 P)) (En 16 k1 (B3 P))) k1 (B5 P) := fun _ _ _ _  => by kernel_rfl
abbrev k2 : Sk := [(0,.g [.i,.v]),(1,.g [.i,.v])]
noncomputable def o6 := ob Try.f14 [.l]
def B6 (P : PT) (x0a : Int) (x0b : Value) (x1a : Int) (x1b : Value) (H : AHeap) : Prop :=
  newK H [(Value.int .i64 x0a), x0b] 31 (fun b1 H2 => newK H2 [(Value.int .i64 x1a), x1b] 31 (fun b3 H4 => B5 P b1 b3 H4))
theorem q6 (P : PT) : QB Try.prog T0 16 o6 (En 16 k1 (B5 P)) k2 (B6 P) := fun _ _ _ _ _ _  => by kernel_rfl
noncomputable def code : Code := (.seq (.region 0 ⟨o6⟩ false) (.seq (.seq (.region 1 ⟨o5⟩ false) (.cond (.tmp 9) (.seq (.region 2 ⟨o4⟩ false) .ret) .skip)) (.seq (.seq (.region 3 ⟨o3⟩ false) (.cond (.tmp 15) (.seq (.region 4 ⟨o2⟩ false) .ret) .skip)) (.seq (.region 5 ⟨o1⟩ false) .ret))))
theorem body : Try.f14.body = some code := by kernel_rfl
theorem main (P : PT) : ∀ env H, (En 16 k2 (B6 P)) env H → AW Try.prog T0 code env H (mkQ (ret P) (fun _ _ _ => False) (ret P)) :=
  (r_seq (rB T0_ok (q6 P)) (r_seq (r_seq (rB T0_ok (q5 P)) (r_cond rfl (r_seq (rB T0_ok (q4 P)) r_ret) r_skip)) (r_seq (r_seq (rB T0_ok (q3 P)) (r_cond rfl (r_seq (rB T0_ok (q2 P)) r_ret) r_skip)) (r_seq (rB T0_ok (q1 P)) r_ret))))
theorem ac (P : PT) (x0a : Int) (x0b : Value) (x1a : Int) (x1b : Value) (H : AHeap) (h : B6 P x0a x0b x1a x1b H) : AC Try.prog T0 14 [(Value.agg ⟨[(Value.int .i64 x0a), x0b]⟩), (Value.agg ⟨[(Value.int .i64 x1a), x1b]⟩)] H P :=
  r_fn T0_ok (c := code) (n := 16) Try.func14 body (by kernel_rfl) (main P) (En_mk (x0a, x0b, x1a, x1b, ()) (by kernel_rfl) ⟨by kernel_rfl, by kernel_rfl, trivial⟩ h)

end F14
-- loop.example/g01329/laws.eqInt64S
namespace F15
noncomputable def ret (P : PT) : EP := retE T0 26 Try.f15 P
abbrev k0 : Sk := []
noncomputable def o1 := ob Try.f15 [.r,.r,.r,.l]
def B1 (P : PT) (H : AHeap) : Prop :=
  P (Value.bool true) H
theorem q1 (P : PT) : QB Try.prog T0 26 o1 (ret P) k0 (B1 P) := fun _ _  => by kernel_rfl
abbrev k1 : Sk := [(0,.v),(1,.v),(5,.i .i64)]
noncomputable def o3 := ob Try.f15 [.r,.r,.l,.r,.l,.l,.r,.r]
def B3 (P : PT) (N2 : NTy k1 Pr) (x0 x1 : Value) (x5 : Int) (H : AHeap) : Prop :=
  N2 x0 x1 (IntKind.i64.wrap (x5 + 1)) H
theorem q3 (P : PT) (N2 : NTy k1 Pr) : QB Try.prog T0 26 o3 (En 26 k1 N2) k1 (B3 P N2) := fun _ _ _ _ _  => by kernel_rfl
noncomputable def o4 := ob Try.f15 [.r,.r,.l,.r,.l,.l,.r,.l,.l,.r,.l,.l]
def B4 (P : PT) (N2 : NTy k1 Pr) (H : AHeap) : Prop :=
  P (Value.bool false) H
theorem q4 (P : PT) (N2 : NTy k1 Pr) : QB Try.prog T0 26 o4 (ret P) k0 (B4 P N2) := fun _ _  => by kernel_rfl
noncomputable def o5 := ob Try.f15 [.r,.r,.l,.r,.l,.l,.r,.l,.l,.l]
def B5 (P : PT) (N2 : NTy k1 Pr) (x0 x1 : Value) (x5 : Int) (H : AHeap) : Prop :=
  idxK x0 x5 1 (fun b1 o2 => ldI .i64 H b1 o2 (fun v3 => idxK x1 x5 1 (fun b4 o5 => ldI .i64 H b4 o5 (fun v6 => pif ((v3 : Int) != v6) (B4 P N2 H) (B3 P N2 x0 x1 x5 H)))))
theorem q5 (P : PT) (N2 : NTy k1 Pr) : QD Try.prog T0 26 o5 [(0, false), (1, false), (2, false), (3, false), (4, false), (5, false), (6, false), (7, false), (8, false)] (cnd 25 (En 26 k0 (B4 P N2)) (En 26 k1 (B3 P N2))) k1 (B5 P N2) := fun _ _ _ _ _  => by kernel_rfl
noncomputable def o6 := ob Try.f15 [.r,.r,.l,.r,.l,.l,.l,.l]
def B6 (P : PT) (N2 : NTy k1 Pr) (x0 x1 : Value) (x5 : Int) (H : AHeap) : Prop :=
  lenK x0 (fun n1 => pif (decide ((x5 : Int) < (n1 : Int))) (B5 P N2 x0 x1 x5 H) (B1 P H))
theorem q6 (P : PT) (N2 : NTy k1 Pr) : QB Try.prog T0 26 o6 (cnd 14 (En 26 k1 (B5 P N2)) (En 26 k0 (B1 P))) k1 (B6 P N2) := fun _ _ _ _ _  => by kernel_rfl
def L2 (P : PT) (x0 x1 : Value) (x5 : Int) (H : AHeap) : Prop :=
  ∃ (I : NTy k1 Pr) (μ : NTy k1 (AHeap → Nat)), I x0 x1 x5 H ∧ ∀ y0 y1 y5 G, I y0 y1 y5 G → B6 P (fun z0 z1 z5 G' => I z0 z1 z5 G' ∧ μ z0 z1 z5 G' < μ y0 y1 y5 G) y0 y1 y5 G
theorem l2 (P : PT) : LQ k1 (L2 P) (B6 P) := fun ⟨_,_,_,_⟩ _ ⟨I, μ, h0, hI⟩ => ⟨apT _ I, apT _ μ, h0, fun ⟨_,_,_,_⟩ _ h => hI _ _ _ _  h⟩
abbrev k2 : Sk := [(0,.v),(1,.v)]
noncomputable def o7 := ob Try.f15 [.r,.r,.l,.l]
def B7 (P : PT) (x0 x1 : Value) (H : AHeap) : Prop :=
  L2 P x0 x1 0 H
theorem q7 (P : PT) : QB Try.prog T0 26 o7 (En 26 k1 (L2 P)) k2 (B7 P) := fun _ _ _ _  => by kernel_rfl
noncomputable def o8 := ob Try.f15 [.r,.l,.r,.l,.l]
def B8 (P : PT) (H : AHeap) : Prop :=
  P (Value.bool false) H
theorem q8 (P : PT) : QB Try.prog T0 26 o8 (ret P) k0 (B8 P) := fun _ _  => by kernel_rfl
noncomputable def o9 := ob Try.f15 [.r,.l,.l]
def B9 (P : PT) (x0 x1 : Value) (H : AHeap) : Prop :=
  lenK x0 (fun n1 => lenK x1 (fun n2 => pif (((n1 : Int) : Int) != (n2 : Int)) (B8 P H) (B7 P x0 x1 H)))
theorem q9 (P : PT) : QB Try.prog T0 26 o9 (cnd 10 (En 26 k0 (B8 P)) (En 26 k2 (B7 P))) k2 (B9 P) := fun _ _ _ _  => by kernel_rfl
noncomputable def o10 := ob Try.f15 [.l]
def B10 (P : PT) (x0 x1 : Value) (H : AHeap) : Prop :=
  B9 P x0 x1 H
theorem q10 (P : PT) : QB Try.prog T0 26 o10 (En 26 k2 (B9 P)) k2 (B10 P) := fun _ _ _ _  => by kernel_rfl
noncomputable def code : Code := (.seq (.region 0 ⟨o10⟩ false) (.seq (.seq (.region 1 ⟨o9⟩ false) (.cond (.tmp 10) (.seq (.region 2 ⟨o8⟩ false) .ret) .skip)) (.seq (.seq (.region 3 ⟨o7⟩ false) (.block 0 (.loop (.seq (.seq (.region 4 ⟨o6⟩ false) (.cond (.tmp 14) .skip (.exit 0))) (.seq (.block 1 (.seq (.region 6 ⟨o5⟩ true) (.cond (.tmp 25) (.seq (.region 7 ⟨o4⟩ false) .ret) .skip))) (.region 5 ⟨o3⟩ false)))))) (.seq (.region 8 ⟨o1⟩ false) .ret))))
theorem body : Try.f15.body = some code := by kernel_rfl
theorem main (P : PT) : ∀ env H, (En 26 k2 (B10 P)) env H → AW Try.prog T0 code env H (mkQ (ret P) (fun _ _ _ => False) (ret P)) :=
  (r_seq (rB T0_ok (q10 P)) (r_seq (r_seq (rB T0_ok (q9 P)) (r_cond rfl (r_seq (rB T0_ok (q8 P)) r_ret) r_skip)) (r_seq (r_seq (rB T0_ok (q7 P)) (r_block (rL (l2 P) (fun N2 => (r_seq (r_seq (rB T0_ok (q6 P N2)) (r_cond rfl r_skip (r_exit (fun _ _ h => h)))) (r_seq (r_block (r_seq (rD T0_ok mixed [(0, false), (1, false), (2, false), (3, false), (4, false), (5, false), (6, false), (7, false), (8, false)] (by kernel_rfl) (q5 P N2)) (r_cond rfl (r_seq (rB T0_ok (q4 P N2)) r_ret) r_skip))) (rB T0_ok (q3 P N2)))))))) (r_seq (rB T0_ok (q1 P)) r_ret))))
theorem ac (P : PT) (x0 x1 : Value) (H : AHeap) (h : B10 P x0 x1 H) : AC Try.prog T0 15 [x0, x1] H P :=
  r_fn T0_ok (c := code) (n := 26) Try.func15 body (by kernel_rfl) (main P) (En_mk (x0, x1, ()) (by kernel_rfl) ⟨by kernel_rfl, by kernel_rfl, trivial⟩ h)

end F15
-- loop.example/g01329/laws.markGraph
namespace F28
noncomputable def ret (P : PT) : EP := retE T0 10 Try.f28 P
abbrev k0 : Sk := [(1,.i .i64)]
noncomputable def o1 := ob Try.f28 [.r,.r,.l]
def B1 (P : PT) (x1 : Int) (H : AHeap) : Prop :=
  P (Value.int .i64 x1) H
theorem q1 (P : PT) : QB Try.prog T0 10 o1 (ret P) k0 (B1 P) := fun _ _ _  => by kernel_rfl
abbrev k1 : Sk := [(1,.i .i64),(2,.x)]
noncomputable def o2 := ob Try.f28 [.r,.l]
def B2 (P : PT) (x1 : Int) (x2 : Nat) (H : AHeap) : Prop :=
  ld1 H x2 1 (fun v1 => AC Try.prog T0 68 [v1, (Value.int .i64 x1)] H (fun v2 H3 => asI .i64 v2 (fun v4 => B1 P v4 H3)))
theorem q2 (P : PT) : QB Try.prog T0 10 o2 (En 10 k0 (B1 P)) k1 (B2 P) := fun _ _ _ _  => by kernel_rfl
abbrev k2 : Sk := [(0,.g [.i,.v]),(1,.i .i64)]
noncomputable def o3 := ob Try.f28 [.l]
def B3 (P : PT) (x0a : Int) (x0b : Value) (x1 : Int) (H : AHeap) : Prop :=
  newK H [(Value.int .i64 x0a), x0b] 31 (fun b1 H2 => B2 P x1 b1 H2)
theorem q3 (P : PT) : QB Try.prog T0 10 o3 (En 10 k1 (B2 P)) k2 (B3 P) := fun _ _ _ _ _  => by kernel_rfl
noncomputable def code : Code := (.seq (.region 0 ⟨o3⟩ false) (.seq (.region 1 ⟨o2⟩ false) (.seq (.region 2 ⟨o1⟩ false) .ret)))
theorem body : Try.f28.body = some code := by kernel_rfl
theorem main (P : PT) : ∀ env H, (En 10 k2 (B3 P)) env H → AW Try.prog T0 code env H (mkQ (ret P) (fun _ _ _ => False) (ret P)) :=
  (r_seq (rB T0_ok (q3 P)) (r_seq (rB T0_ok (q2 P)) (r_seq (rB T0_ok (q1 P)) r_ret)))
theorem ac (P : PT) (x0a : Int) (x0b : Value) (x1 : Int) (H : AHeap) (h : B3 P x0a x0b x1 H) : AC Try.prog T0 28 [(Value.agg ⟨[(Value.int .i64 x0a), x0b]⟩), (Value.int .i64 x1)] H P :=
  r_fn T0_ok (c := code) (n := 10) Try.func28 body (by kernel_rfl) (main P) (En_mk (x0a, x0b, x1, ()) (by kernel_rfl) ⟨by kernel_rfl, by kernel_rfl, trivial⟩ h)

end F28
-- loop.example/g01329/laws.markInt64S
namespace F29
noncomputable def ret (P : PT) : EP := retE T0 19 Try.f29 P
abbrev k0 : Sk := [(1,.i .i64)]
noncomputable def o1 := ob Try.f29 [.r,.r,.l]
def B1 (P : PT) (x1 : Int) (H : AHeap) : Prop :=
  P (Value.int .i64 x1) H
theorem q1 (P : PT) : QB Try.prog T0 19 o1 (ret P) k0 (B1 P) := fun _ _ _  => by kernel_rfl
abbrev k1 : Sk := [(0,.v),(1,.i .i64),(5,.i .i64)]
noncomputable def o3 := ob Try.f29 [.r,.l,.r,.l,.l,.r,.r]
def B3 (P : PT) (N2 : NTy k1 Pr) (x0 : Value) (x1 x5 : Int) (H : AHeap) : Prop :=
  N2 x0 x1 (IntKind.i64.wrap (x5 + 1)) H
theorem q3 (P : PT) (N2 : NTy k1 Pr) : QB Try.prog T0 19 o3 (En 19 k1 N2) k1 (B3 P N2) := fun _ _ _ _ _  => by kernel_rfl
noncomputable def o4 := ob Try.f29 [.r,.l,.r,.l,.l,.r,.l,.l,.r]
def B4 (P : PT) (N2 : NTy k1 Pr) (x0 : Value) (x1 x5 : Int) (H : AHeap) : Prop :=
  B3 P N2 x0 (IntKind.i64.wrap (x1 + 1)) x5 H
theorem q4 (P : PT) (N2 : NTy k1 Pr) : QB Try.prog T0 19 o4 (En 19 k1 (B3 P N2)) k1 (B4 P N2) := fun _ _ _ _ _  => by kernel_rfl
noncomputable def o5 := ob Try.f29 [.r,.l,.r,.l,.l,.r,.l,.l,.l]
def B5 (P : PT) (N2 : NTy k1 Pr) (x0 : Value) (x1 x5 : Int) (H : AHeap) : Prop :=
  idxK x0 x5 1 (fun b1 o2 => stK H b1 o2 [(Value.int .i64 x1)] (fun H3 => B4 P N2 x0 x1 x5 H3))
theorem q5 (P : PT) (N2 : NTy k1 Pr) : QB Try.prog T0 19 o5 (En 19 k1 (B4 P N2)) k1 (B5 P N2) := fun _ _ _ _ _  => by kernel_rfl
noncomputable def o6 := ob Try.f29 [.r,.l,.r,.l,.l,.l,.l]
def B6 (P : PT) (N2 : NTy k1 Pr) (x0 : Value) (x1 x5 : Int) (H : AHeap) : Prop :=
  lenK x0 (fun n1 => pif (decide ((x5 : Int) < (n1 : Int))) (B5 P N2 x0 x1 x5 H) (B1 P x1 H))
theorem q6 (P : PT) (N2 : NTy k1 Pr) : QB Try.prog T0 19 o6 (cnd 9 (En 19 k1 (B5 P N2)) (En 19 k0 (B1 P))) k1 (B6 P N2) := fun _ _ _ _ _  => by kernel_rfl
def L2 (P : PT) (x0 : Value) (x1 x5 : Int) (H : AHeap) : Prop :=
  ∃ (I : NTy k1 Pr) (μ : NTy k1 (AHeap → Nat)), I x0 x1 x5 H ∧ ∀ y0 y1 y5 G, I y0 y1 y5 G → B6 P (fun z0 z1 z5 G' => I z0 z1 z5 G' ∧ μ z0 z1 z5 G' < μ y0 y1 y5 G) y0 y1 y5 G
theorem l2 (P : PT) : LQ k1 (L2 P) (B6 P) := fun ⟨_,_,_,_⟩ _ ⟨I, μ, h0, hI⟩ => ⟨apT _ I, apT _ μ, h0, fun ⟨_,_,_,_⟩ _ h => hI _ _ _ _  h⟩
abbrev k2 : Sk := [(0,.v),(1,.i .i64)]
noncomputable def o7 := ob Try.f29 [.r,.l,.l]
def B7 (P : PT) (x0 : Value) (x1 : Int) (H : AHeap) : Prop :=
  L2 P x0 x1 0 H
theorem q7 (P : PT) : QB Try.prog T0 19 o7 (En 19 k1 (L2 P)) k2 (B7 P) := fun _ _ _ _  => by kernel_rfl
noncomputable def o8 := ob Try.f29 [.l]
def B8 (P : PT) (x0 : Value) (x1 : Int) (H : AHeap) : Prop :=
  B7 P x0 x1 H
theorem q8 (P : PT) : QB Try.prog T0 19 o8 (En 19 k2 (B7 P)) k2 (B8 P) := fun _ _ _ _  => by kernel_rfl
noncomputable def code : Code := (.seq (.region 0 ⟨o8⟩ false) (.seq (.seq (.region 1 ⟨o7⟩ false) (.block 0 (.loop (.seq (.seq (.region 2 ⟨o6⟩ false) (.cond (.tmp 9) .skip (.exit 0))) (.seq (.block 1 (.seq (.region 4 ⟨o5⟩ false) (.region 5 ⟨o4⟩ false))) (.region 3 ⟨o3⟩ false)))))) (.seq (.region 6 ⟨o1⟩ false) .ret)))
theorem body : Try.f29.body = some code := by kernel_rfl
theorem main (P : PT) : ∀ env H, (En 19 k2 (B8 P)) env H → AW Try.prog T0 code env H (mkQ (ret P) (fun _ _ _ => False) (ret P)) :=
  (r_seq (rB T0_ok (q8 P)) (r_seq (r_seq (rB T0_ok (q7 P)) (r_block (rL (l2 P) (fun N2 => (r_seq (r_seq (rB T0_ok (q6 P N2)) (r_cond rfl r_skip (r_exit (fun _ _ h => h)))) (r_seq (r_block (r_seq (rB T0_ok (q5 P N2)) (rB T0_ok (q4 P N2)))) (rB T0_ok (q3 P N2)))))))) (r_seq (rB T0_ok (q1 P)) r_ret)))
theorem ac (P : PT) (x0 : Value) (x1 : Int) (H : AHeap) (h : B8 P x0 x1 H) : AC Try.prog T0 29 [x0, (Value.int .i64 x1)] H P :=
  r_fn T0_ok (c := code) (n := 19) Try.func29 body (by kernel_rfl) (main P) (En_mk (x0, x1, ()) (by kernel_rfl) ⟨by kernel_rfl, by kernel_rfl, trivial⟩ h)

end F29
-- loop.example/g01329/laws.heldInt64S
namespace F30
noncomputable def ret (P : PT) : EP := retE T0 21 Try.f30 P
abbrev k0 : Sk := [(1,.i .i64)]
noncomputable def o1 := ob Try.f30 [.r,.r,.l]
def B1 (P : PT) (x1 : Int) (H : AHeap) : Prop :=
  P (Value.int .i64 x1) H
theorem q1 (P : PT) : QB Try.prog T0 21 o1 (ret P) k0 (B1 P) := fun _ _ _  => by kernel_rfl
abbrev k1 : Sk := [(0,.v),(1,.i .i64),(5,.i .i64)]
noncomputable def o3 := ob Try.f30 [.r,.l,.r,.l,.l,.r,.r]
def B3 (P : PT) (N2 : NTy k1 Pr) (x0 : Value) (x1 x5 : Int) (H : AHeap) : Prop :=
  N2 x0 x1 (IntKind.i64.wrap (x5 + 1)) H
theorem q3 (P : PT) (N2 : NTy k1 Pr) : QB Try.prog T0 21 o3 (En 21 k1 N2) k1 (B3 P N2) := fun _ _ _ _ _  => by kernel_rfl
noncomputable def o4 := ob Try.f30 [.r,.l,.r,.l,.l,.r,.l,.l,.r]
def B4 (P : PT) (N2 : NTy k1 Pr) (x0 : Value) (x1 x5 : Int) (H : AHeap) : Prop :=
  B3 P N2 x0 (IntKind.i64.wrap (x1 + 1)) x5 H
theorem q4 (P : PT) (N2 : NTy k1 Pr) : QB Try.prog T0 21 o4 (En 21 k1 (B3 P N2)) k1 (B4 P N2) := fun _ _ _ _ _  => by kernel_rfl
abbrev k2 : Sk := []
noncomputable def o5 := ob Try.f30 [.r,.l,.r,.l,.l,.r,.l,.l,.l,.r,.l,.l]
def B5 (P : PT) (N2 : NTy k1 Pr) (H : AHeap) : Prop :=
  P (Value.int .i64 (-1)) H
theorem q5 (P : PT) (N2 : NTy k1 Pr) : QB Try.prog T0 21 o5 (ret P) k2 (B5 P N2) := fun _ _  => by kernel_rfl
noncomputable def o6 := ob Try.f30 [.r,.l,.r,.l,.l,.r,.l,.l,.l,.l]
def B6 (P : PT) (N2 : NTy k1 Pr) (x0 : Value) (x1 x5 : Int) (H : AHeap) : Prop :=
  idxK x0 x5 1 (fun b1 o2 => ldI .i64 H b1 o2 (fun v3 => pif ((v3 : Int) != x1) (B5 P N2 H) (B4 P N2 x0 x1 x5 H)))
theorem q6 (P : PT) (N2 : NTy k1 Pr) : QB Try.prog T0 21 o6 (cnd 17 (En 21 k2 (B5 P N2)) (En 21 k1 (B4 P N2))) k1 (B6 P N2) := fun _ _ _ _ _  => by kernel_rfl
noncomputable def o7 := ob Try.f30 [.r,.l,.r,.l,.l,.l,.l]
def B7 (P : PT) (N2 : NTy k1 Pr) (x0 : Value) (x1 x5 : Int) (H : AHeap) : Prop :=
  lenK x0 (fun n1 => pif (decide ((x5 : Int) < (n1 : Int))) (B6 P N2 x0 x1 x5 H) (B1 P x1 H))
theorem q7 (P : PT) (N2 : NTy k1 Pr) : QB Try.prog T0 21 o7 (cnd 9 (En 21 k1 (B6 P N2)) (En 21 k0 (B1 P))) k1 (B7 P N2) := fun _ _ _ _ _  => by kernel_rfl
def L2 (P : PT) (x0 : Value) (x1 x5 : Int) (H : AHeap) : Prop :=
  ∃ (I : NTy k1 Pr) (μ : NTy k1 (AHeap → Nat)), I x0 x1 x5 H ∧ ∀ y0 y1 y5 G, I y0 y1 y5 G → B7 P (fun z0 z1 z5 G' => I z0 z1 z5 G' ∧ μ z0 z1 z5 G' < μ y0 y1 y5 G) y0 y1 y5 G
theorem l2 (P : PT) : LQ k1 (L2 P) (B7 P) := fun ⟨_,_,_,_⟩ _ ⟨I, μ, h0, hI⟩ => ⟨apT _ I, apT _ μ, h0, fun ⟨_,_,_,_⟩ _ h => hI _ _ _ _  h⟩
abbrev k3 : Sk := [(0,.v),(1,.i .i64)]
noncomputable def o8 := ob Try.f30 [.r,.l,.l]
def B8 (P : PT) (x0 : Value) (x1 : Int) (H : AHeap) : Prop :=
  L2 P x0 x1 0 H
theorem q8 (P : PT) : QB Try.prog T0 21 o8 (En 21 k1 (L2 P)) k3 (B8 P) := fun _ _ _ _  => by kernel_rfl
noncomputable def o9 := ob Try.f30 [.l]
def B9 (P : PT) (x0 : Value) (x1 : Int) (H : AHeap) : Prop :=
  B8 P x0 x1 H
theorem q9 (P : PT) : QB Try.prog T0 21 o9 (En 21 k3 (B8 P)) k3 (B9 P) := fun _ _ _ _  => by kernel_rfl
noncomputable def code : Code := (.seq (.region 0 ⟨o9⟩ false) (.seq (.seq (.region 1 ⟨o8⟩ false) (.block 0 (.loop (.seq (.seq (.region 2 ⟨o7⟩ false) (.cond (.tmp 9) .skip (.exit 0))) (.seq (.block 1 (.seq (.seq (.region 4 ⟨o6⟩ false) (.cond (.tmp 17) (.seq (.region 5 ⟨o5⟩ false) .ret) .skip)) (.region 6 ⟨o4⟩ false))) (.region 3 ⟨o3⟩ false)))))) (.seq (.region 7 ⟨o1⟩ false) .ret)))
theorem body : Try.f30.body = some code := by kernel_rfl
theorem main (P : PT) : ∀ env H, (En 21 k3 (B9 P)) env H → AW Try.prog T0 code env H (mkQ (ret P) (fun _ _ _ => False) (ret P)) :=
  (r_seq (rB T0_ok (q9 P)) (r_seq (r_seq (rB T0_ok (q8 P)) (r_block (rL (l2 P) (fun N2 => (r_seq (r_seq (rB T0_ok (q7 P N2)) (r_cond rfl r_skip (r_exit (fun _ _ h => h)))) (r_seq (r_block (r_seq (r_seq (rB T0_ok (q6 P N2)) (r_cond rfl (r_seq (rB T0_ok (q5 P N2)) r_ret) r_skip)) (rB T0_ok (q4 P N2)))) (rB T0_ok (q3 P N2)))))))) (r_seq (rB T0_ok (q1 P)) r_ret)))
theorem ac (P : PT) (x0 : Value) (x1 : Int) (H : AHeap) (h : B9 P x0 x1 H) : AC Try.prog T0 30 [x0, (Value.int .i64 x1)] H P :=
  r_fn T0_ok (c := code) (n := 21) Try.func30 body (by kernel_rfl) (main P) (En_mk (x0, x1, ()) (by kernel_rfl) ⟨by kernel_rfl, by kernel_rfl, trivial⟩ h)

end F30
-- loop.example/g01329/spec.CyclesByLength
namespace F33
noncomputable def ret (P : PT) : EP := retE T0 36 Try.f33 P
abbrev k0 : Sk := [(6,.v)]
noncomputable def o1 := ob Try.f33 [.r,.r,.r,.r,.l]
def B1 (P : PT) (x6 : Value) (H : AHeap) : Prop :=
  P (Value.tuple ⟨[x6, (Value.int .i64 0)]⟩) H
theorem q1 (P : PT) : QB Try.prog T0 36 o1 (ret P) k0 (B1 P) := fun _ _ _  => by kernel_rfl
abbrev k1 : Sk := [(5,.v),(6,.v),(7,.i .i64)]
noncomputable def o3 := ob Try.f33 [.r,.r,.r,.l,.r,.l,.l,.r,.r]
def B3 (P : PT) (N2 : NTy k1 Pr) (x5 x6 : Value) (x7 : Int) (H : AHeap) : Prop :=
  N2 x5 x6 (IntKind.i64.wrap (x7 + 1)) H
theorem q3 (P : PT) (N2 : NTy k1 Pr) : QB Try.prog T0 36 o3 (En 36 k1 N2) k1 (B3 P N2) := fun _ _ _ _ _  => by kernel_rfl
noncomputable def o4 := ob Try.f33 [.r,.r,.r,.l,.r,.l,.l,.r,.l,.l]
def B4 (P : PT) (N2 : NTy k1 Pr) (x5 x6 : Value) (x7 : Int) (H : AHeap) : Prop :=
  idxK x5 x7 1 (fun b1 o2 => ld1 H b1 o2 (fun v3 => lenK v3 (fun n4 => idxK x6 (n4 : Int) 1 (fun b5 o6 => ldI .i64 H b5 o6 (fun v7 => idxK x6 (n4 : Int) 1 (fun b8 o9 => stK H b8 o9 [(Value.int .i64 (IntKind.i64.wrap (v7 + 1)))] (fun H10 => B3 P N2 x5 x6 x7 H10)))))))
theorem q4 (P : PT) (N2 : NTy k1 Pr) : QB Try.prog T0 36 o4 (En 36 k1 (B3 P N2)) k1 (B4 P N2) := fun _ _ _ _ _  => by kernel_rfl
noncomputable def o5 := ob Try.f33 [.r,.r,.r,.l,.r,.l,.l,.l,.l]
def B5 (P : PT) (N2 : NTy k1 Pr) (x5 x6 : Value) (x7 : Int) (H : AHeap) : Prop :=
  lenK x5 (fun n1 => pif (decide ((x7 : Int) < (n1 : Int))) (B4 P N2 x5 x6 x7 H) (B1 P x6 H))
theorem q5 (P : PT) (N2 : NTy k1 Pr) : QB Try.prog T0 36 o5 (cnd 22 (En 36 k1 (B4 P N2)) (En 36 k0 (B1 P))) k1 (B5 P N2) := fun _ _ _ _ _  => by kernel_rfl
def L2 (P : PT) (x5 x6 : Value) (x7 : Int) (H : AHeap) : Prop :=
  ∃ (I : NTy k1 Pr) (μ : NTy k1 (AHeap → Nat)), I x5 x6 x7 H ∧ ∀ y5 y6 y7 G, I y5 y6 y7 G → B5 P (fun z5 z6 z7 G' => I z5 z6 z7 G' ∧ μ z5 z6 z7 G' < μ y5 y6 y7 G) y5 y6 y7 G
theorem l2 (P : PT) : LQ k1 (L2 P) (B5 P) := fun ⟨_,_,_,_⟩ _ ⟨I, μ, h0, hI⟩ => ⟨apT _ I, apT _ μ, h0, fun ⟨_,_,_,_⟩ _ h => hI _ _ _ _  h⟩
abbrev k2 : Sk := [(5,.v),(6,.v)]
noncomputable def o6 := ob Try.f33 [.r,.r,.r,.l,.l]
def B6 (P : PT) (x5 x6 : Value) (H : AHeap) : Prop :=
  L2 P x5 x6 0 H
theorem q6 (P : PT) : QB Try.prog T0 36 o6 (En 36 k1 (L2 P)) k2 (B6 P) := fun _ _ _ _  => by kernel_rfl
abbrev k3 : Sk := [(1,.x)]
noncomputable def o7 := ob Try.f33 [.r,.r,.l]
def B7 (P : PT) (x1 : Nat) (H : AHeap) : Prop :=
  ldI .i64 H x1 0 (fun v1 => ld1 H x1 1 (fun v2 => ldI .i64 H x1 0 (fun v3 => (AC Try.prog T0 70 [(Value.agg ⟨[(Value.int .i64 v1), v2]⟩)] H (fun v4 H5 => (ldI .i64 H5 x1 0 (fun v7 => ((Value.int .i64 v7) = (Value.int .i64 v3)) ∧ (H5 = H5))) ∧ (mkR H5 8 2 [(Value.int .i64 0)] (IntKind.i64.wrap (v3 + 1)) (IntKind.i64.wrap (v3 + 1)) (fun v9 H8 => B6 P v4 v9 H8)))) ∧ (mkR H 8 2 [(Value.int .i64 0)] (IntKind.i64.wrap (v3 + 1)) (IntKind.i64.wrap (v3 + 1)) (fun v11 H10 => AC Try.prog T0 70 [(Value.agg ⟨[(Value.int .i64 v1), v2]⟩)] H10 (fun v12 H13 => (ldI .i64 H13 x1 0 (fun v15 => ((Value.int .i64 v15) = (Value.int .i64 v3)) ∧ (H13 = H13))) ∧ (B6 P v12 v11 H13)))))))
theorem q7 (P : PT) : QT Try.prog T0 36 o7 (.op 0 [] (.op 2 [] (.op 3 [] (.op 4 [] (.alt (.op 1 [3] (.op 6 [] (.op 5 [] (.op 7 [] .done)))) (.op 5 [] (.op 1 [3] (.op 6 [] (.op 7 [] .done))))))))) (En 36 k2 (B6 P)) k3 (B7 P) := fun _ _ _  => by kernel_rfl
abbrev k4 : Sk := [(4,.i .i64)]
noncomputable def o8 := ob Try.f33 [.r,.l,.r,.r,.l,.l]
def B8 (P : PT) (x4 : Int) (H : AHeap) : Prop :=
  P (Value.tuple ⟨[(Value.slice none 0 0), (Value.int .i64 x4)]⟩) H
theorem q8 (P : PT) : QB Try.prog T0 36 o8 (ret P) k4 (B8 P) := fun _ _ _  => by kernel_rfl
abbrev k5 : Sk := [(1,.x),(4,.i .i64)]
noncomputable def o9 := ob Try.f33 [.r,.l,.r,.l]
def B9 (P : PT) (x1 : Nat) (x4 : Int) (H : AHeap) : Prop :=
  pif ((x4 : Int) != 0) (B8 P x4 H) (B7 P x1 H)
theorem q9 (P : PT) : QB Try.prog T0 36 o9 (cnd 11 (En 36 k4 (B8 P)) (En 36 k3 (B7 P))) k5 (B9 P) := fun _ _ _ _  => by kernel_rfl
noncomputable def o10 := ob Try.f33 [.r,.l,.l]
def B10 (P : PT) (x1 : Nat) (H : AHeap) : Prop :=
  ldI .i64 H x1 0 (fun v1 => ld1 H x1 1 (fun v2 => AC Try.prog T0 69 [(Value.agg ⟨[(Value.int .i64 v1), v2]⟩)] H (fun v3 H4 => asI .i64 v3 (fun v5 => B9 P x1 v5 H4))))
theorem q10 (P : PT) : QB Try.prog T0 36 o10 (En 36 k5 (B9 P)) k3 (B10 P) := fun _ _ _  => by kernel_rfl
abbrev k6 : Sk := [(0,.g [.i,.v])]
noncomputable def o11 := ob Try.f33 [.l]
def B11 (P : PT) (x0a : Int) (x0b : Value) (H : AHeap) : Prop :=
  newK H [(Value.int .i64 x0a), x0b] 31 (fun b1 H2 => B10 P b1 H2)
theorem q11 (P : PT) : QB Try.prog T0 36 o11 (En 36 k3 (B10 P)) k6 (B11 P) := fun _ _ _ _  => by kernel_rfl
noncomputable def code : Code := (.seq (.region 0 ⟨o11⟩ false) (.seq (.seq (.region 1 ⟨o10⟩ false) (.seq (.region 2 ⟨o9⟩ false) (.cond (.tmp 11) (.seq (.region 3 ⟨o8⟩ false) .ret) .skip))) (.seq (.region 4 ⟨o7⟩ true) (.seq (.seq (.region 5 ⟨o6⟩ false) (.block 0 (.loop (.seq (.seq (.region 6 ⟨o5⟩ false) (.cond (.tmp 22) .skip (.exit 0))) (.seq (.block 1 (.region 8 ⟨o4⟩ false)) (.region 7 ⟨o3⟩ false)))))) (.seq (.region 9 ⟨o1⟩ false) .ret)))))
theorem body : Try.f33.body = some code := by kernel_rfl
theorem main (P : PT) : ∀ env H, (En 36 k6 (B11 P)) env H → AW Try.prog T0 code env H (mkQ (ret P) (fun _ _ _ => False) (ret P)) :=
  (r_seq (rB T0_ok (q11 P)) (r_seq (r_seq (rB T0_ok (q10 P)) (r_seq (rB T0_ok (q9 P)) (r_cond rfl (r_seq (rB T0_ok (q8 P)) r_ret) r_skip))) (r_seq (rT T0_ok mixed (.op 0 [] (.op 2 [] (.op 3 [] (.op 4 [] (.alt (.op 1 [3] (.op 6 [] (.op 5 [] (.op 7 [] .done)))) (.op 5 [] (.op 1 [3] (.op 6 [] (.op 7 [] .done))))))))) (by kernel_rfl) (q7 P)) (r_seq (r_seq (rB T0_ok (q6 P)) (r_block (rL (l2 P) (fun N2 => (r_seq (r_seq (rB T0_ok (q5 P N2)) (r_cond rfl r_skip (r_exit (fun _ _ h => h)))) (r_seq (r_block (rB T0_ok (q4 P N2))) (rB T0_ok (q3 P N2)))))))) (r_seq (rB T0_ok (q1 P)) r_ret)))))
theorem ac (P : PT) (x0a : Int) (x0b : Value) (H : AHeap) (h : B11 P x0a x0b H) : AC Try.prog T0 33 [(Value.agg ⟨[(Value.int .i64 x0a), x0b]⟩)] H P :=
  r_fn T0_ok (c := code) (n := 36) Try.func33 body (by kernel_rfl) (main P) (En_mk (x0a, x0b, ()) (by kernel_rfl) ⟨by kernel_rfl, trivial⟩ h)

end F33
-- loop.example/g01329/impl.CyclesByLength
namespace F34
noncomputable def ret (P : PT) : EP := retE T0 39 Try.f34 P
abbrev k0 : Sk := [(7,.v)]
noncomputable def o1 := ob Try.f34 [.r,.r,.r,.r,.r,.l]
def B1 (P : PT) (x7 : Value) (H : AHeap) : Prop :=
  P (Value.tuple ⟨[x7, (Value.int .i64 0)]⟩) H
theorem q1 (P : PT) : QB Try.prog T0 39 o1 (ret P) k0 (B1 P) := fun _ _ _  => by kernel_rfl
abbrev k1 : Sk := [(7,.v),(24,.v),(25,.i .i64),(26,.i .i64)]
noncomputable def o3 := ob Try.f34 [.r,.r,.r,.r,.l,.r,.l,.l,.r,.r,.r]
def B3 (P : PT) (N2 : NTy k1 Pr) (x7 x24 : Value) (x25 x26 : Int) (H : AHeap) : Prop :=
  N2 x7 x24 x25 (IntKind.i64.wrap (x26 + 1)) H
theorem q3 (P : PT) (N2 : NTy k1 Pr) : QB Try.prog T0 39 o3 (En 39 k1 N2) k1 (B3 P N2) := fun _ _ _ _ _ _  => by kernel_rfl
abbrev k2 : Sk := [(7,.v),(9,.v),(24,.v),(25,.i .i64),(26,.i .i64)]
noncomputable def o4 := ob Try.f34 [.r,.r,.r,.r,.l,.r,.l,.l,.r,.r,.l,.l,.r]
def B4 (P : PT) (N2 : NTy k1 Pr) (x7 x9 x24 : Value) (x25 x26 : Int) (H : AHeap) : Prop :=
  lenK x9 (fun n1 => idxK x7 (n1 : Int) 1 (fun b2 o3 => ldI .i64 H b2 o3 (fun v4 => idxK x7 (n1 : Int) 1 (fun b5 o6 => stK H b5 o6 [(Value.int .i64 (IntKind.i64.wrap (v4 + 1)))] (fun H7 => B3 P N2 x7 x24 x25 x26 H7)))))
theorem q4 (P : PT) (N2 : NTy k1 Pr) : QB Try.prog T0 39 o4 (En 39 k1 (B3 P N2)) k2 (B4 P N2) := fun _ _ _ _ _ _ _  => by kernel_rfl
noncomputable def o5 := ob Try.f34 [.r,.r,.r,.r,.l,.r,.l,.l,.r,.r,.l,.l,.l]
def B5 (P : PT) (N2 : NTy k1 Pr) (x7 x24 : Value) (x25 x26 : Int) (H : AHeap) : Prop :=
  idxK x24 x26 1 (fun b1 o2 => ld1 H b1 o2 (fun v3 => B4 P N2 x7 v3 x24 x25 x26 H))
theorem q5 (P : PT) (N2 : NTy k1 Pr) : QB Try.prog T0 39 o5 (En 39 k2 (B4 P N2)) k1 (B5 P N2) := fun _ _ _ _ _ _  => by kernel_rfl
noncomputable def o6 := ob Try.f34 [.r,.r,.r,.r,.l,.r,.l,.l,.l]
def B6 (P : PT) (N2 : NTy k1 Pr) (x7 x24 : Value) (x25 x26 : Int) (H : AHeap) : Prop :=
  pif (decide ((x26 : Int) < x25)) (B5 P N2 x7 x24 x25 x26 H) (B1 P x7 H)
theorem q6 (P : PT) (N2 : NTy k1 Pr) : QB Try.prog T0 39 o6 (cnd 27 (En 39 k1 (B5 P N2)) (En 39 k0 (B1 P))) k1 (B6 P N2) := fun _ _ _ _ _ _  => by kernel_rfl
def L2 (P : PT) (x7 x24 : Value) (x25 x26 : Int) (H : AHeap) : Prop :=
  ∃ (I : NTy k1 Pr) (μ : NTy k1 (AHeap → Nat)), I x7 x24 x25 x26 H ∧ ∀ y7 y24 y25 y26 G, I y7 y24 y25 y26 G → B6 P (fun z7 z24 z25 z26 G' => I z7 z24 z25 z26 G' ∧ μ z7 z24 z25 z26 G' < μ y7 y24 y25 y26 G) y7 y24 y25 y26 G
theorem l2 (P : PT) : LQ k1 (L2 P) (B6 P) := fun ⟨_,_,_,_,_⟩ _ ⟨I, μ, h0, hI⟩ => ⟨apT _ I, apT _ μ, h0, fun ⟨_,_,_,_,_⟩ _ h => hI _ _ _ _ _  h⟩
abbrev k3 : Sk := [(5,.v),(7,.v)]
noncomputable def o7 := ob Try.f34 [.r,.r,.r,.r,.l,.l]
def B7 (P : PT) (x5 x7 : Value) (H : AHeap) : Prop :=
  lenK x5 (fun n1 => L2 P x7 x5 (n1 : Int) 0 H)
theorem q7 (P : PT) : QB Try.prog T0 39 o7 (En 39 k1 (L2 P)) k3 (B7 P) := fun _ _ _ _  => by kernel_rfl
abbrev k4 : Sk := [(1,.x),(5,.v)]
noncomputable def o8 := ob Try.f34 [.r,.r,.r,.l]
def B8 (P : PT) (x1 : Nat) (x5 : Value) (H : AHeap) : Prop :=
  ldI .i64 H x1 0 (fun v1 => mkR H 8 2 [(Value.int .i64 0)] (IntKind.i64.wrap (v1 + 1)) (IntKind.i64.wrap (v1 + 1)) (fun v3 H2 => B7 P x5 v3 H2))
theorem q8 (P : PT) : QB Try.prog T0 39 o8 (En 39 k3 (B7 P)) k4 (B8 P) := fun _ _ _ _  => by kernel_rfl
abbrev k5 : Sk := [(1,.x)]
noncomputable def o9 := ob Try.f34 [.r,.r,.l]
def B9 (P : PT) (x1 : Nat) (H : AHeap) : Prop :=
  ldI .i64 H x1 0 (fun v1 => ld1 H x1 1 (fun v2 => AC Try.prog T0 72 [(Value.agg ⟨[(Value.int .i64 v1), v2]⟩)] H (fun v3 H4 => tup2 v3 (fun v5 v6 => asI .i64 v6 (fun v8 => B8 P x1 v5 H4)))))
theorem q9 (P : PT) : QB Try.prog T0 39 o9 (En 39 k4 (B8 P)) k5 (B9 P) := fun _ _ _  => by kernel_rfl
abbrev k6 : Sk := [(4,.i .i64)]
noncomputable def o10 := ob Try.f34 [.r,.l,.r,.r,.l,.l]
def B10 (P : PT) (x4 : Int) (H : AHeap) : Prop :=
  P (Value.tuple ⟨[(Value.slice none 0 0), (Value.int .i64 x4)]⟩) H
theorem q10 (P : PT) : QB Try.prog T0 39 o10 (ret P) k6 (B10 P) := fun _ _ _  => by kernel_rfl
abbrev k7 : Sk := [(1,.x),(4,.i .i64)]
noncomputable def o11 := ob Try.f34 [.r,.l,.r,.l]
def B11 (P : PT) (x1 : Nat) (x4 : Int) (H : AHeap) : Prop :=
  pif ((x4 : Int) != 0) (B10 P x4 H) (B9 P x1 H)
theorem q11 (P : PT) : QB Try.prog T0 39 o11 (cnd 13 (En 39 k6 (B10 P)) (En 39 k5 (B9 P))) k7 (B11 P) := fun _ _ _ _  => by kernel_rfl
noncomputable def o12 := ob Try.f34 [.r,.l,.l]
def B12 (P : PT) (x1 : Nat) (H : AHeap) : Prop :=
  ldI .i64 H x1 0 (fun v1 => ld1 H x1 1 (fun v2 => AC Try.prog T0 71 [(Value.agg ⟨[(Value.int .i64 v1), v2]⟩), (Value.bool true)] H (fun v3 H4 => asI .i64 v3 (fun v5 => B11 P x1 v5 H4))))
theorem q12 (P : PT) : QB Try.prog T0 39 o12 (En 39 k7 (B11 P)) k5 (B12 P) := fun _ _ _  => by kernel_rfl
abbrev k8 : Sk := [(0,.g [.i,.v])]
noncomputable def o13 := ob Try.f34 [.l]
def B13 (P : PT) (x0a : Int) (x0b : Value) (H : AHeap) : Prop :=
  newK H [(Value.int .i64 x0a), x0b] 31 (fun b1 H2 => B12 P b1 H2)
theorem q13 (P : PT) : QB Try.prog T0 39 o13 (En 39 k5 (B12 P)) k8 (B13 P) := fun _ _ _ _  => by kernel_rfl
noncomputable def code : Code := (.seq (.region 0 ⟨o13⟩ false) (.seq (.seq (.region 1 ⟨o12⟩ false) (.seq (.region 2 ⟨o11⟩ false) (.cond (.tmp 13) (.seq (.region 3 ⟨o10⟩ false) .ret) .skip))) (.seq (.region 4 ⟨o9⟩ false) (.seq (.region 5 ⟨o8⟩ false) (.seq (.seq (.region 6 ⟨o7⟩ false) (.block 0 (.loop (.seq (.region 7 ⟨o6⟩ false) (.seq (.cond (.tmp 27) .skip (.exit 0)) (.seq (.block 1 (.seq (.region 8 ⟨o5⟩ false) (.region 9 ⟨o4⟩ false))) (.region 10 ⟨o3⟩ false))))))) (.seq (.region 11 ⟨o1⟩ false) .ret))))))
theorem body : Try.f34.body = some code := by kernel_rfl
theorem main (P : PT) : ∀ env H, (En 39 k8 (B13 P)) env H → AW Try.prog T0 code env H (mkQ (ret P) (fun _ _ _ => False) (ret P)) :=
  (r_seq (rB T0_ok (q13 P)) (r_seq (r_seq (rB T0_ok (q12 P)) (r_seq (rB T0_ok (q11 P)) (r_cond rfl (r_seq (rB T0_ok (q10 P)) r_ret) r_skip))) (r_seq (rB T0_ok (q9 P)) (r_seq (rB T0_ok (q8 P)) (r_seq (r_seq (rB T0_ok (q7 P)) (r_block (rL (l2 P) (fun N2 => (r_seq (rB T0_ok (q6 P N2)) (r_seq (r_cond rfl r_skip (r_exit (fun _ _ h => h))) (r_seq (r_block (r_seq (rB T0_ok (q5 P N2)) (rB T0_ok (q4 P N2)))) (rB T0_ok (q3 P N2))))))))) (r_seq (rB T0_ok (q1 P)) r_ret))))))
theorem ac (P : PT) (x0a : Int) (x0b : Value) (H : AHeap) (h : B13 P x0a x0b H) : AC Try.prog T0 34 [(Value.agg ⟨[(Value.int .i64 x0a), x0b]⟩)] H P :=
  r_fn T0_ok (c := code) (n := 39) Try.func34 body (by kernel_rfl) (main P) (En_mk (x0a, x0b, ()) (by kernel_rfl) ⟨by kernel_rfl, trivial⟩ h)

end F34
-- loop.example/g01329/laws.szEdgeS
namespace F35
noncomputable def ret (P : PT) : EP := retE T0 12 Try.f35 P
abbrev k0 : Sk := [(1,.i .i64)]
noncomputable def o1 := ob Try.f35 [.r,.r,.r,.l]
def B1 (P : PT) (x1 : Int) (H : AHeap) : Prop :=
  P (Value.int .i64 x1) H
theorem q1 (P : PT) : QB Try.prog T0 12 o1 (ret P) k0 (B1 P) := fun _ _ _  => by kernel_rfl
abbrev k1 : Sk := []
noncomputable def o2 := ob Try.f35 [.r,.r,.l,.r,.l,.l]
def B2 (P : PT) (H : AHeap) : Prop :=
  P (Value.int .i64 (-1)) H
theorem q2 (P : PT) : QB Try.prog T0 12 o2 (ret P) k1 (B2 P) := fun _ _  => by kernel_rfl
noncomputable def o3 := ob Try.f35 [.r,.r,.l,.l]
def B3 (P : PT) (x1 : Int) (H : AHeap) : Prop :=
  pif (decide ((x1 : Int) < 0)) (B2 P H) (B1 P x1 H)
theorem q3 (P : PT) : QB Try.prog T0 12 o3 (cnd 10 (En 12 k1 (B2 P)) (En 12 k0 (B1 P))) k0 (B3 P) := fun _ _ _  => by kernel_rfl
abbrev k2 : Sk := [(0,.v),(1,.i .i64)]
noncomputable def o4 := ob Try.f35 [.r,.l]
def B4 (P : PT) (x0 : Value) (x1 : Int) (H : AHeap) : Prop :=
  lenK x0 (fun n1 => B3 P (IntKind.i64.wrap (x1 - (n1 : Int))) H)
theorem q4 (P : PT) : QB Try.prog T0 12 o4 (En 12 k0 (B3 P)) k2 (B4 P) := fun _ _ _ _  => by kernel_rfl
noncomputable def o5 := ob Try.f35 [.l]
def B5 (P : PT) (x0 : Value) (x1 : Int) (H : AHeap) : Prop :=
  B4 P x0 x1 H
theorem q5 (P : PT) : QB Try.prog T0 12 o5 (En 12 k2 (B4 P)) k2 (B5 P) := fun _ _ _ _  => by kernel_rfl
noncomputable def code : Code := (.seq (.region 0 ⟨o5⟩ false) (.seq (.region 1 ⟨o4⟩ false) (.seq (.seq (.region 2 ⟨o3⟩ false) (.cond (.tmp 10) (.seq (.region 3 ⟨o2⟩ false) .ret) .skip)) (.seq (.region 4 ⟨o1⟩ false) .ret))))
theorem body : Try.f35.body = some code := by kernel_rfl
theorem main (P : PT) : ∀ env H, (En 12 k2 (B5 P)) env H → AW Try.prog T0 code env H (mkQ (ret P) (fun _ _ _ => False) (ret P)) :=
  (r_seq (rB T0_ok (q5 P)) (r_seq (rB T0_ok (q4 P)) (r_seq (r_seq (rB T0_ok (q3 P)) (r_cond rfl (r_seq (rB T0_ok (q2 P)) r_ret) r_skip)) (r_seq (rB T0_ok (q1 P)) r_ret))))
theorem ac (P : PT) (x0 : Value) (x1 : Int) (H : AHeap) (h : B5 P x0 x1 H) : AC Try.prog T0 35 [x0, (Value.int .i64 x1)] H P :=
  r_fn T0_ok (c := code) (n := 12) Try.func35 body (by kernel_rfl) (main P) (En_mk (x0, x1, ()) (by kernel_rfl) ⟨by kernel_rfl, by kernel_rfl, trivial⟩ h)

end F35
-- loop.example/g01329/spec.l01Own
namespace F37
noncomputable def ret (P : PT) : EP := retE T0 6 Try.f37 P
abbrev k0 : Sk := [(0,.v)]
noncomputable def o1 := ob Try.f37 [.r,.l]
def B1 (P : PT) (x0 : Value) (H : AHeap) : Prop :=
  newK H [] 2 (fun b1 H2 => apK T0 2 H2 (Value.slice (some ⟨b1, 0, none⟩) 0 (0 + 1)) x0 (fun v3 H4 => P v3 H4))
theorem q1 (P : PT) : QB Try.prog T0 6 o1 (ret P) k0 (B1 P) := fun _ _ _  => by kernel_rfl
noncomputable def o2 := ob Try.f37 [.l]
def B2 (P : PT) (x0 : Value) (H : AHeap) : Prop :=
  B1 P x0 H
theorem q2 (P : PT) : QB Try.prog T0 6 o2 (En 6 k0 (B1 P)) k0 (B2 P) := fun _ _ _  => by kernel_rfl
noncomputable def code : Code := (.seq (.region 0 ⟨o2⟩ false) (.seq (.region 1 ⟨o1⟩ false) .ret))
theorem body : Try.f37.body = some code := by kernel_rfl
theorem main (P : PT) : ∀ env H, (En 6 k0 (B2 P)) env H → AW Try.prog T0 code env H (mkQ (ret P) (fun _ _ _ => False) (ret P)) :=
  (r_seq (rB T0_ok (q2 P)) (r_seq (rB T0_ok (q1 P)) r_ret))
theorem ac (P : PT) (x0 : Value) (H : AHeap) (h : B2 P x0 H) : AC Try.prog T0 37 [x0] H P :=
  r_fn T0_ok (c := code) (n := 6) Try.func37 body (by kernel_rfl) (main P) (En_mk (x0, ()) (by kernel_rfl) ⟨by kernel_rfl, trivial⟩ h)

end F37
-- loop.example/g01329/laws.toEdgeS
namespace F40
noncomputable def ret (P : PT) : EP := retE T0 23 Try.f40 P
abbrev k0 : Sk := [(3,.v)]
noncomputable def o1 := ob Try.f40 [.r,.r,.r,.l]
def B1 (P : PT) (x3 : Value) (H : AHeap) : Prop :=
  P x3 H
theorem q1 (P : PT) : QB Try.prog T0 23 o1 (ret P) k0 (B1 P) := fun _ _ _  => by kernel_rfl
abbrev k1 : Sk := [(0,.v),(3,.v),(4,.i .i64)]
noncomputable def o3 := ob Try.f40 [.r,.r,.l,.r,.l,.l,.r,.r]
def B3 (P : PT) (N2 : NTy k1 Pr) (x0 x3 : Value) (x4 : Int) (H : AHeap) : Prop :=
  N2 x0 x3 (IntKind.i64.wrap (x4 + 1)) H
theorem q3 (P : PT) (N2 : NTy k1 Pr) : QB Try.prog T0 23 o3 (En 23 k1 N2) k1 (B3 P N2) := fun _ _ _ _ _  => by kernel_rfl
noncomputable def o4 := ob Try.f40 [.r,.r,.l,.r,.l,.l,.r,.l,.l]
def B4 (P : PT) (N2 : NTy k1 Pr) (x0 x3 : Value) (x4 : Int) (H : AHeap) : Prop :=
  idxK x0 x4 2 (fun b1 o2 => ldI .i64 H b1 o2 (fun v3 => ldI .i64 H b1 (o2 + 1) (fun v4 => AC Try.prog T0 76 [(Value.agg ⟨[(Value.int .i64 v3), (Value.int .i64 v4)]⟩)] H (fun v5 H6 => agg2 v5 (fun v7 v8 => asI .i64 v7 (fun v9 => asI .i64 v8 (fun v10 => idxK x3 x4 2 (fun b11 o12 => stK H6 b11 o12 [(Value.int .i64 v9), (Value.int .i64 v10)] (fun H13 => B3 P N2 x0 x3 x4 H13)))))))))
theorem q4 (P : PT) (N2 : NTy k1 Pr) : QB Try.prog T0 23 o4 (En 23 k1 (B3 P N2)) k1 (B4 P N2) := fun _ _ _ _ _  => by kernel_rfl
noncomputable def o5 := ob Try.f40 [.r,.r,.l,.r,.l,.l,.l,.l]
def B5 (P : PT) (N2 : NTy k1 Pr) (x0 x3 : Value) (x4 : Int) (H : AHeap) : Prop :=
  lenK x0 (fun n1 => pif (decide ((x4 : Int) < (n1 : Int))) (B4 P N2 x0 x3 x4 H) (B1 P x3 H))
theorem q5 (P : PT) (N2 : NTy k1 Pr) : QB Try.prog T0 23 o5 (cnd 11 (En 23 k1 (B4 P N2)) (En 23 k0 (B1 P))) k1 (B5 P N2) := fun _ _ _ _ _  => by kernel_rfl
def L2 (P : PT) (x0 x3 : Value) (x4 : Int) (H : AHeap) : Prop :=
  ∃ (I : NTy k1 Pr) (μ : NTy k1 (AHeap → Nat)), I x0 x3 x4 H ∧ ∀ y0 y3 y4 G, I y0 y3 y4 G → B5 P (fun z0 z3 z4 G' => I z0 z3 z4 G' ∧ μ z0 z3 z4 G' < μ y0 y3 y4 G) y0 y3 y4 G
theorem l2 (P : PT) : LQ k1 (L2 P) (B5 P) := fun ⟨_,_,_,_⟩ _ ⟨I, μ, h0, hI⟩ => ⟨apT _ I, apT _ μ, h0, fun ⟨_,_,_,_⟩ _ h => hI _ _ _ _  h⟩
abbrev k2 : Sk := [(0,.v),(3,.v)]
noncomputable def o6 := ob Try.f40 [.r,.r,.l,.l]
def B6 (P : PT) (x0 x3 : Value) (H : AHeap) : Prop :=
  L2 P x0 x3 0 H
theorem q6 (P : PT) : QB Try.prog T0 23 o6 (En 23 k1 (L2 P)) k2 (B6 P) := fun _ _ _ _  => by kernel_rfl
abbrev k3 : Sk := [(0,.v)]
noncomputable def o7 := ob Try.f40 [.r,.l]
def B7 (P : PT) (x0 : Value) (H : AHeap) : Prop :=
  lenK x0 (fun n1 => mkR H 16 67 [(Value.int .i64 0), (Value.int .i64 0)] (n1 : Int) (n1 : Int) (fun v3 H2 => B6 P x0 v3 H2))
theorem q7 (P : PT) : QB Try.prog T0 23 o7 (En 23 k2 (B6 P)) k3 (B7 P) := fun _ _ _  => by kernel_rfl
noncomputable def o8 := ob Try.f40 [.l]
def B8 (P : PT) (x0 : Value) (H : AHeap) : Prop :=
  B7 P x0 H
theorem q8 (P : PT) : QB Try.prog T0 23 o8 (En 23 k3 (B7 P)) k3 (B8 P) := fun _ _ _  => by kernel_rfl
noncomputable def code : Code := (.seq (.region 0 ⟨o8⟩ false) (.seq (.region 1 ⟨o7⟩ false) (.seq (.seq (.region 2 ⟨o6⟩ false) (.block 0 (.loop (.seq (.seq (.region 3 ⟨o5⟩ false) (.cond (.tmp 11) .skip (.exit 0))) (.seq (.block 1 (.region 5 ⟨o4⟩ false)) (.region 4 ⟨o3⟩ false)))))) (.seq (.region 6 ⟨o1⟩ false) .ret))))
theorem body : Try.f40.body = some code := by kernel_rfl
theorem main (P : PT) : ∀ env H, (En 23 k3 (B8 P)) env H → AW Try.prog T0 code env H (mkQ (ret P) (fun _ _ _ => False) (ret P)) :=
  (r_seq (rB T0_ok (q8 P)) (r_seq (rB T0_ok (q7 P)) (r_seq (r_seq (rB T0_ok (q6 P)) (r_block (rL (l2 P) (fun N2 => (r_seq (r_seq (rB T0_ok (q5 P N2)) (r_cond rfl r_skip (r_exit (fun _ _ h => h)))) (r_seq (r_block (rB T0_ok (q4 P N2))) (rB T0_ok (q3 P N2)))))))) (r_seq (rB T0_ok (q1 P)) r_ret))))
theorem ac (P : PT) (x0 : Value) (H : AHeap) (h : B8 P x0 H) : AC Try.prog T0 40 [x0] H P :=
  r_fn T0_ok (c := code) (n := 23) Try.func40 body (by kernel_rfl) (main P) (En_mk (x0, ()) (by kernel_rfl) ⟨by kernel_rfl, trivial⟩ h)

end F40
-- loop.example/g01329/impl.graphCode
namespace F41
noncomputable def ret (P : PT) : EP := retE T0 12 Try.f41 P
abbrev k0 : Sk := []
noncomputable def o1 := ob Try.f41 [.r,.r,.l]
def B1 (P : PT) (H : AHeap) : Prop :=
  P (Value.int .i64 0) H
theorem q1 (P : PT) : QB Try.prog T0 12 o1 (ret P) k0 (B1 P) := fun _ _  => by kernel_rfl
noncomputable def o2 := ob Try.f41 [.r,.l,.l,.r,.l,.l]
def B2 (P : PT) (H : AHeap) : Prop :=
  P (Value.int .i64 1) H
theorem q2 (P : PT) : QB Try.prog T0 12 o2 (ret P) k0 (B2 P) := fun _ _  => by kernel_rfl
noncomputable def o3 := ob Try.f41 [.r,.l,.l,.r,.r,.r,.l,.l]
def B3 (P : PT) (H : AHeap) : Prop :=
  P (Value.int .i64 2) H
theorem q3 (P : PT) : QB Try.prog T0 12 o3 (ret P) k0 (B3 P) := fun _ _  => by kernel_rfl
abbrev k1 : Sk := [(1,.b)]
noncomputable def o4 := ob Try.f41 [.r,.l,.l,.r,.r,.l]
def B4 (P : PT) (x1 : Bool) (H : AHeap) : Prop :=
  pif (!x1) (B3 P H) (B1 P H)
theorem q4 (P : PT) : QB Try.prog T0 12 o4 (cnd 9 (En 12 k0 (B3 P)) (En 12 k0 (B1 P))) k1 (B4 P) := fun _ _ _  => by kernel_rfl
abbrev k2 : Sk := [(1,.b),(2,.x)]
noncomputable def o5 := ob Try.f41 [.r,.l,.l,.l]
def B5 (P : PT) (x1 : Bool) (x2 : Nat) (H : AHeap) : Prop :=
  ldI .i64 H x2 0 (fun v1 => ld1 H x2 1 (fun v2 => AC Try.prog T0 77 [(Value.agg ⟨[(Value.int .i64 v1), v2]⟩)] H (fun v3 H4 => asB v3 (fun v5 => pif (!v5) (B2 P H4) (B4 P x1 H4)))))
theorem q5 (P : PT) : QB Try.prog T0 12 o5 (cnd 5 (En 12 k0 (B2 P)) (En 12 k1 (B4 P))) k2 (B5 P) := fun _ _ _ _  => by kernel_rfl
abbrev k3 : Sk := [(0,.g [.i,.v]),(1,.b)]
noncomputable def o6 := ob Try.f41 [.l]
def B6 (P : PT) (x0a : Int) (x0b : Value) (x1 : Bool) (H : AHeap) : Prop :=
  newK H [(Value.int .i64 x0a), x0b] 31 (fun b1 H2 => B5 P x1 b1 H2)
theorem q6 (P : PT) : QB Try.prog T0 12 o6 (En 12 k2 (B5 P)) k3 (B6 P) := fun _ _ _ _ _  => by kernel_rfl
noncomputable def code : Code := (.seq (.region 0 ⟨o6⟩ false) (.seq (.block 0 (.seq (.region 1 ⟨o5⟩ false) (.cond (.tmp 5) (.seq (.region 2 ⟨o2⟩ false) .ret) (.seq (.region 3 ⟨o4⟩ false) (.cond (.tmp 9) (.seq (.region 4 ⟨o3⟩ false) .ret) .skip))))) (.seq (.region 5 ⟨o1⟩ false) .ret)))
theorem body : Try.f41.body = some code := by kernel_rfl
theorem main (P : PT) : ∀ env H, (En 12 k3 (B6 P)) env H → AW Try.prog T0 code env H (mkQ (ret P) (fun _ _ _ => False) (ret P)) :=
  (r_seq (rB T0_ok (q6 P)) (r_seq (r_block (r_seq (rB T0_ok (q5 P)) (r_cond rfl (r_seq (rB T0_ok (q2 P)) r_ret) (r_seq (rB T0_ok (q4 P)) (r_cond rfl (r_seq (rB T0_ok (q3 P)) r_ret) r_skip))))) (r_seq (rB T0_ok (q1 P)) r_ret)))
theorem ac (P : PT) (x0a : Int) (x0b : Value) (x1 : Bool) (H : AHeap) (h : B6 P x0a x0b x1 H) : AC Try.prog T0 41 [(Value.agg ⟨[(Value.int .i64 x0a), x0b]⟩), (Value.bool x1)] H P :=
  r_fn T0_ok (c := code) (n := 12) Try.func41 body (by kernel_rfl) (main P) (En_mk (x0a, x0b, x1, ()) (by kernel_rfl) ⟨by kernel_rfl, by kernel_rfl, trivial⟩ h)

end F41
-- loop.example/g01329/impl.length[loop.example/g01329/impl.Edge]
namespace F44
noncomputable def ret (P : PT) : EP := retE T0 5 Try.f44 P
abbrev k0 : Sk := [(0,.v)]
noncomputable def o1 := ob Try.f44 [.r,.l]
def B1 (P : PT) (x0 : Value) (H : AHeap) : Prop :=
  lenK x0 (fun n1 => P (Value.int .i64 (n1 : Int)) H)
theorem q1 (P : PT) : QB Try.prog T0 5 o1 (ret P) k0 (B1 P) := fun _ _ _  => by kernel_rfl
noncomputable def o2 := ob Try.f44 [.l]
def B2 (P : PT) (x0 : Value) (H : AHeap) : Prop :=
  B1 P x0 H
theorem q2 (P : PT) : QB Try.prog T0 5 o2 (En 5 k0 (B1 P)) k0 (B2 P) := fun _ _ _  => by kernel_rfl
noncomputable def code : Code := (.seq (.region 0 ⟨o2⟩ false) (.seq (.region 1 ⟨o1⟩ false) .ret))
theorem body : Try.f44.body = some code := by kernel_rfl
theorem main (P : PT) : ∀ env H, (En 5 k0 (B2 P)) env H → AW Try.prog T0 code env H (mkQ (ret P) (fun _ _ _ => False) (ret P)) :=
  (r_seq (rB T0_ok (q2 P)) (r_seq (rB T0_ok (q1 P)) r_ret))
theorem ac (P : PT) (x0 : Value) (H : AHeap) (h : B2 P x0 H) : AC Try.prog T0 44 [x0] H P :=
  r_fn T0_ok (c := code) (n := 5) Try.func44 body (by kernel_rfl) (main P) (En_mk (x0, ()) (by kernel_rfl) ⟨by kernel_rfl, trivial⟩ h)

end F44
-- loop.example/g01329/laws.eqEdgeS
namespace F46
noncomputable def ret (P : PT) : EP := retE T0 27 Try.f46 P
abbrev k0 : Sk := []
noncomputable def o1 := ob Try.f46 [.r,.r,.r,.l]
def B1 (P : PT) (H : AHeap) : Prop :=
  P (Value.bool true) H
theorem q1 (P : PT) : QB Try.prog T0 27 o1 (ret P) k0 (B1 P) := fun _ _  => by kernel_rfl
abbrev k1 : Sk := [(0,.v),(1,.v),(5,.i .i64)]
noncomputable def o3 := ob Try.f46 [.r,.r,.l,.r,.l,.l,.r,.r]
def B3 (P : PT) (N2 : NTy k1 Pr) (x0 x1 : Value) (x5 : Int) (H : AHeap) : Prop :=
  N2 x0 x1 (IntKind.i64.wrap (x5 + 1)) H
theorem q3 (P : PT) (N2 : NTy k1 Pr) : QB Try.prog T0 27 o3 (En 27 k1 N2) k1 (B3 P N2) := fun _ _ _ _ _  => by kernel_rfl
noncomputable def o4 := ob Try.f46 [.r,.r,.l,.r,.l,.l,.r,.l,.l,.r,.l,.l]
def B4 (P : PT) (N2 : NTy k1 Pr) (H : AHeap) : Prop :=
  P (Value.bool false) H
theorem q4 (P : PT) (N2 : NTy k1 Pr) : QB Try.prog T0 27 o4 (ret P) k0 (B4 P N2) := fun _ _  => by kernel_rfl
noncomputable def o5 := ob Try.f46 [.r,.r,.l,.r,.l,.l,.r,.l,.l,.l]
def B5 (P : PT) (N2 : NTy k1 Pr) (x0 x1 : Value) (x5 : Int) (H : AHeap) : Prop :=
  idxK x0 x5 2 (fun b1 o2 => ldI .i64 H b1 o2 (fun v3 => ldI .i64 H b1 (o2 + 1) (fun v4 => idxK x1 x5 2 (fun b5 o6 => ldI .i64 H b5 o6 (fun v7 => ldI .i64 H b5 (o6 + 1) (fun v8 => AC Try.prog T0 83 [(Value.agg ⟨[(Value.int .i64 v3), (Value.int .i64 v4)]⟩), (Value.agg ⟨[(Value.int .i64 v7), (Value.int .i64 v8)]⟩)] H (fun v9 H10 => asB v9 (fun v11 => pif (!v11) (B4 P N2 H10) (B3 P N2 x0 x1 x5 H10)))))))))
theorem q5 (P : PT) (N2 : NTy k1 Pr) : QD Try.prog T0 27 o5 [(0, false), (1, false), (2, false), (3, false), (4, false), (5, false), (6, false), (7, false), (8, false), (9, false)] (cnd 26 (En 27 k0 (B4 P N2)) (En 27 k1 (B3 P N2))) k1 (B5 P N2) := fun _ _ _ _ _  => by kernel_rfl
noncomputable def o6 := ob Try.f46 [.r,.r,.l,.r,.l,.l,.l,.l]
def B6 (P : PT) (N2 : NTy k1 Pr) (x0 x1 : Value) (x5 : Int) (H : AHeap) : Prop :=
  lenK x0 (fun n1 => pif (decide ((x5 : Int) < (n1 : Int))) (B5 P N2 x0 x1 x5 H) (B1 P H))
theorem q6 (P : PT) (N2 : NTy k1 Pr) : QB Try.prog T0 27 o6 (cnd 14 (En 27 k1 (B5 P N2)) (En 27 k0 (B1 P))) k1 (B6 P N2) := fun _ _ _ _ _  => by kernel_rfl
def L2 (P : PT) (x0 x1 : Value) (x5 : Int) (H : AHeap) : Prop :=
  ∃ (I : NTy k1 Pr) (μ : NTy k1 (AHeap → Nat)), I x0 x1 x5 H ∧ ∀ y0 y1 y5 G, I y0 y1 y5 G → B6 P (fun z0 z1 z5 G' => I z0 z1 z5 G' ∧ μ z0 z1 z5 G' < μ y0 y1 y5 G) y0 y1 y5 G
theorem l2 (P : PT) : LQ k1 (L2 P) (B6 P) := fun ⟨_,_,_,_⟩ _ ⟨I, μ, h0, hI⟩ => ⟨apT _ I, apT _ μ, h0, fun ⟨_,_,_,_⟩ _ h => hI _ _ _ _  h⟩
abbrev k2 : Sk := [(0,.v),(1,.v)]
noncomputable def o7 := ob Try.f46 [.r,.r,.l,.l]
def B7 (P : PT) (x0 x1 : Value) (H : AHeap) : Prop :=
  L2 P x0 x1 0 H
theorem q7 (P : PT) : QB Try.prog T0 27 o7 (En 27 k1 (L2 P)) k2 (B7 P) := fun _ _ _ _  => by kernel_rfl
noncomputable def o8 := ob Try.f46 [.r,.l,.r,.l,.l]
def B8 (P : PT) (H : AHeap) : Prop :=
  P (Value.bool false) H
theorem q8 (P : PT) : QB Try.prog T0 27 o8 (ret P) k0 (B8 P) := fun _ _  => by kernel_rfl
noncomputable def o9 := ob Try.f46 [.r,.l,.l]
def B9 (P : PT) (x0 x1 : Value) (H : AHeap) : Prop :=
  lenK x0 (fun n1 => lenK x1 (fun n2 => pif (((n1 : Int) : Int) != (n2 : Int)) (B8 P H) (B7 P x0 x1 H)))
theorem q9 (P : PT) : QB Try.prog T0 27 o9 (cnd 10 (En 27 k0 (B8 P)) (En 27 k2 (B7 P))) k2 (B9 P) := fun _ _ _ _  => by kernel_rfl
noncomputable def o10 := ob Try.f46 [.l]
def B10 (P : PT) (x0 x1 : Value) (H : AHeap) : Prop :=
  B9 P x0 x1 H
theorem q10 (P : PT) : QB Try.prog T0 27 o10 (En 27 k2 (B9 P)) k2 (B10 P) := fun _ _ _ _  => by kernel_rfl
noncomputable def code : Code := (.seq (.region 0 ⟨o10⟩ false) (.seq (.seq (.region 1 ⟨o9⟩ false) (.cond (.tmp 10) (.seq (.region 2 ⟨o8⟩ false) .ret) .skip)) (.seq (.seq (.region 3 ⟨o7⟩ false) (.block 0 (.loop (.seq (.seq (.region 4 ⟨o6⟩ false) (.cond (.tmp 14) .skip (.exit 0))) (.seq (.block 1 (.seq (.region 6 ⟨o5⟩ true) (.cond (.tmp 26) (.seq (.region 7 ⟨o4⟩ false) .ret) .skip))) (.region 5 ⟨o3⟩ false)))))) (.seq (.region 8 ⟨o1⟩ false) .ret))))
theorem body : Try.f46.body = some code := by kernel_rfl
theorem main (P : PT) : ∀ env H, (En 27 k2 (B10 P)) env H → AW Try.prog T0 code env H (mkQ (ret P) (fun _ _ _ => False) (ret P)) :=
  (r_seq (rB T0_ok (q10 P)) (r_seq (r_seq (rB T0_ok (q9 P)) (r_cond rfl (r_seq (rB T0_ok (q8 P)) r_ret) r_skip)) (r_seq (r_seq (rB T0_ok (q7 P)) (r_block (rL (l2 P) (fun N2 => (r_seq (r_seq (rB T0_ok (q6 P N2)) (r_cond rfl r_skip (r_exit (fun _ _ h => h)))) (r_seq (r_block (r_seq (rD T0_ok mixed [(0, false), (1, false), (2, false), (3, false), (4, false), (5, false), (6, false), (7, false), (8, false), (9, false)] (by kernel_rfl) (q5 P N2)) (r_cond rfl (r_seq (rB T0_ok (q4 P N2)) r_ret) r_skip))) (rB T0_ok (q3 P N2)))))))) (r_seq (rB T0_ok (q1 P)) r_ret))))
theorem ac (P : PT) (x0 x1 : Value) (H : AHeap) (h : B10 P x0 x1 H) : AC Try.prog T0 46 [x0, x1] H P :=
  r_fn T0_ok (c := code) (n := 27) Try.func46 body (by kernel_rfl) (main P) (En_mk (x0, x1, ()) (by kernel_rfl) ⟨by kernel_rfl, by kernel_rfl, trivial⟩ h)

end F46
-- loop.example/g01329/spec.l01In
namespace F49
noncomputable def ret (P : PT) : EP := retE T0 15 Try.f49 P
abbrev k0 : Sk := [(0,.i .i64),(1,.i .i64),(2,.i .i64)]
noncomputable def o1 := ob Try.f49 [.r,.l]
def B1 (P : PT) (x0 x1 x2 : Int) (H : AHeap) : Prop :=
  pif (decide ((x0 : Int) ≥ x1)) (P (Value.bool (decide ((x0 : Int) ≤ x2))) H) (P (Value.bool false) H)
theorem q1 (P : PT) : QB Try.prog T0 15 o1 (ret P) k0 (B1 P) := fun _ _ _ _ _  => by kernel_rfl
noncomputable def o2 := ob Try.f49 [.l]
def B2 (P : PT) (x0 x1 x2 : Int) (H : AHeap) : Prop :=
  B1 P x0 x1 x2 H
theorem q2 (P : PT) : QB Try.prog T0 15 o2 (En 15 k0 (B1 P)) k0 (B2 P) := fun _ _ _ _ _  => by kernel_rfl
noncomputable def code : Code := (.seq (.region 0 ⟨o2⟩ false) (.seq (.region 1 ⟨o1⟩ false) .ret))
theorem body : Try.f49.body = some code := by kernel_rfl
theorem main (P : PT) : ∀ env H, (En 15 k0 (B2 P)) env H → AW Try.prog T0 code env H (mkQ (ret P) (fun _ _ _ => False) (ret P)) :=
  (r_seq (rB T0_ok (q2 P)) (r_seq (rB T0_ok (q1 P)) r_ret))
theorem ac (P : PT) (x0 x1 x2 : Int) (H : AHeap) (h : B2 P x0 x1 x2 H) : AC Try.prog T0 49 [(Value.int .i64 x0), (Value.int .i64 x1), (Value.int .i64 x2)] H P :=
  r_fn T0_ok (c := code) (n := 15) Try.func49 body (by kernel_rfl) (main P) (En_mk (x0, x1, x2, ()) (by kernel_rfl) ⟨by kernel_rfl, by kernel_rfl, by kernel_rfl, trivial⟩ h)

end F49
-- loop.example/g01329/impl.within
namespace F53
noncomputable def ret (P : PT) : EP := retE T0 15 Try.f53 P
abbrev k0 : Sk := [(0,.i .i64),(1,.i .i64),(2,.i .i64)]
noncomputable def o1 := ob Try.f53 [.r,.l]
def B1 (P : PT) (x0 x1 x2 : Int) (H : AHeap) : Prop :=
  pif (decide ((x1 : Int) ≤ x0)) (P (Value.bool (decide ((x0 : Int) ≤ x2))) H) (P (Value.bool false) H)
theorem q1 (P : PT) : QB Try.prog T0 15 o1 (ret P) k0 (B1 P) := fun _ _ _ _ _  => by kernel_rfl
noncomputable def o2 := ob Try.f53 [.l]
def B2 (P : PT) (x0 x1 x2 : Int) (H : AHeap) : Prop :=
  B1 P x0 x1 x2 H
theorem q2 (P : PT) : QB Try.prog T0 15 o2 (En 15 k0 (B1 P)) k0 (B2 P) := fun _ _ _ _ _  => by kernel_rfl
noncomputable def code : Code := (.seq (.region 0 ⟨o2⟩ false) (.seq (.region 1 ⟨o1⟩ false) .ret))
theorem body : Try.f53.body = some code := by kernel_rfl
theorem main (P : PT) : ∀ env H, (En 15 k0 (B2 P)) env H → AW Try.prog T0 code env H (mkQ (ret P) (fun _ _ _ => False) (ret P)) :=
  (r_seq (rB T0_ok (q2 P)) (r_seq (rB T0_ok (q1 P)) r_ret))
theorem ac (P : PT) (x0 x1 x2 : Int) (H : AHeap) (h : B2 P x0 x1 x2 H) : AC Try.prog T0 53 [(Value.int .i64 x0), (Value.int .i64 x1), (Value.int .i64 x2)] H P :=
  r_fn T0_ok (c := code) (n := 15) Try.func53 body (by kernel_rfl) (main P) (En_mk (x0, x1, x2, ()) (by kernel_rfl) ⟨by kernel_rfl, by kernel_rfl, by kernel_rfl, trivial⟩ h)

end F53
-- loop.example/g01329/impl.setOf
namespace F58
noncomputable def ret (P : PT) : EP := retE T0 18 Try.f58 P
abbrev k0 : Sk := [(3,.i .u64)]
noncomputable def o1 := ob Try.f58 [.r,.r,.r,.l]
def B1 (P : PT) (x3 : Int) (H : AHeap) : Prop :=
  P (Value.int .u64 x3) H
theorem q1 (P : PT) : QB Try.prog T0 18 o1 (ret P) k0 (B1 P) := fun _ _ _  => by kernel_rfl
abbrev k1 : Sk := [(3,.i .u64),(6,.v),(7,.i .i64),(8,.i .i64)]
noncomputable def o3 := ob Try.f58 [.r,.r,.l,.r,.l,.l,.r,.r,.r]
def B3 (P : PT) (N2 : NTy k1 Pr) (x3 : Int) (x6 : Value) (x7 x8 : Int) (H : AHeap) : Prop :=
  N2 x3 x6 x7 (IntKind.i64.wrap (x8 + 1)) H
theorem q3 (P : PT) (N2 : NTy k1 Pr) : QB Try.prog T0 18 o3 (En 18 k1 N2) k1 (B3 P N2) := fun _ _ _ _ _ _  => by kernel_rfl
abbrev k2 : Sk := [(3,.i .u64),(5,.i .i64),(6,.v),(7,.i .i64),(8,.i .i64)]
noncomputable def o4 := ob Try.f58 [.r,.r,.l,.r,.l,.l,.r,.r,.l,.l,.r]
def B4 (P : PT) (N2 : NTy k1 Pr) (x3 x5 : Int) (x6 : Value) (x7 x8 : Int) (H : AHeap) : Prop :=
  ((0 : Int) ≤ x5) ∧ (B3 P N2 (IntKind.u64.wrap (BitVec.ofInt 64 x3 ||| BitVec.ofInt 64 (IntKind.u64.wrap (1 * 2 ^ (min (Int.toNat x5) 64)))).toNat) x6 x7 x8 H)
theorem q4 (P : PT) (N2 : NTy k1 Pr) : QB Try.prog T0 18 o4 (En 18 k1 (B3 P N2)) k2 (B4 P N2) := fun _ _ _ _ _ _ _  => by kernel_rfl
noncomputable def o5 := ob Try.f58 [.r,.r,.l,.r,.l,.l,.r,.r,.l,.l,.l]
def B5 (P : PT) (N2 : NTy k1 Pr) (x3 : Int) (x6 : Value) (x7 x8 : Int) (H : AHeap) : Prop :=
  idxK x6 x8 1 (fun b1 o2 => ldI .i64 H b1 o2 (fun v3 => B4 P N2 x3 v3 x6 x7 x8 H))
theorem q5 (P : PT) (N2 : NTy k1 Pr) : QB Try.prog T0 18 o5 (En 18 k2 (B4 P N2)) k1 (B5 P N2) := fun _ _ _ _ _ _  => by kernel_rfl
noncomputable def o6 := ob Try.f58 [.r,.r,.l,.r,.l,.l,.l]
def B6 (P : PT) (N2 : NTy k1 Pr) (x3 : Int) (x6 : Value) (x7 x8 : Int) (H : AHeap) : Prop :=
  pif (decide ((x8 : Int) < x7)) (B5 P N2 x3 x6 x7 x8 H) (B1 P x3 H)
theorem q6 (P : PT) (N2 : NTy k1 Pr) : QB Try.prog T0 18 o6 (cnd 9 (En 18 k1 (B5 P N2)) (En 18 k0 (B1 P))) k1 (B6 P N2) := fun _ _ _ _ _ _  => by kernel_rfl
def L2 (P : PT) (x3 : Int) (x6 : Value) (x7 x8 : Int) (H : AHeap) : Prop :=
  ∃ (I : NTy k1 Pr) (μ : NTy k1 (AHeap → Nat)), I x3 x6 x7 x8 H ∧ ∀ y3 y6 y7 y8 G, I y3 y6 y7 y8 G → B6 P (fun z3 z6 z7 z8 G' => I z3 z6 z7 z8 G' ∧ μ z3 z6 z7 z8 G' < μ y3 y6 y7 y8 G) y3 y6 y7 y8 G
theorem l2 (P : PT) : LQ k1 (L2 P) (B6 P) := fun ⟨_,_,_,_,_⟩ _ ⟨I, μ, h0, hI⟩ => ⟨apT _ I, apT _ μ, h0, fun ⟨_,_,_,_,_⟩ _ h => hI _ _ _ _ _  h⟩
abbrev k3 : Sk := [(0,.v),(3,.i .u64)]
noncomputable def o7 := ob Try.f58 [.r,.r,.l,.l]
def B7 (P : PT) (x0 : Value) (x3 : Int) (H : AHeap) : Prop :=
  lenK x0 (fun n1 => L2 P x3 x0 (n1 : Int) 0 H)
theorem q7 (P : PT) : QB Try.prog T0 18 o7 (En 18 k1 (L2 P)) k3 (B7 P) := fun _ _ _ _  => by kernel_rfl
abbrev k4 : Sk := [(0,.v)]
noncomputable def o8 := ob Try.f58 [.r,.l]
def B8 (P : PT) (x0 : Value) (H : AHeap) : Prop :=
  B7 P x0 0 H
theorem q8 (P : PT) : QB Try.prog T0 18 o8 (En 18 k3 (B7 P)) k4 (B8 P) := fun _ _ _  => by kernel_rfl
noncomputable def o9 := ob Try.f58 [.l]
def B9 (P : PT) (x0 : Value) (H : AHeap) : Prop :=
  B8 P x0 H
theorem q9 (P : PT) : QB Try.prog T0 18 o9 (En 18 k4 (B8 P)) k4 (B9 P) := fun _ _ _  => by kernel_rfl
noncomputable def code : Code := (.seq (.region 0 ⟨o9⟩ false) (.seq (.region 1 ⟨o8⟩ false) (.seq (.seq (.region 2 ⟨o7⟩ false) (.block 0 (.loop (.seq (.region 3 ⟨o6⟩ false) (.seq (.cond (.tmp 9) .skip (.exit 0)) (.seq (.block 1 (.seq (.region 4 ⟨o5⟩ false) (.region 5 ⟨o4⟩ false))) (.region 6 ⟨o3⟩ false))))))) (.seq (.region 7 ⟨o1⟩ false) .ret))))
theorem body : Try.f58.body = some code := by kernel_rfl
theorem main (P : PT) : ∀ env H, (En 18 k4 (B9 P)) env H → AW Try.prog T0 code env H (mkQ (ret P) (fun _ _ _ => False) (ret P)) :=
  (r_seq (rB T0_ok (q9 P)) (r_seq (rB T0_ok (q8 P)) (r_seq (r_seq (rB T0_ok (q7 P)) (r_block (rL (l2 P) (fun N2 => (r_seq (rB T0_ok (q6 P N2)) (r_seq (r_cond rfl r_skip (r_exit (fun _ _ h => h))) (r_seq (r_block (r_seq (rB T0_ok (q5 P N2)) (rB T0_ok (q4 P N2)))) (rB T0_ok (q3 P N2))))))))) (r_seq (rB T0_ok (q1 P)) r_ret))))
theorem ac (P : PT) (x0 : Value) (H : AHeap) (h : B9 P x0 H) : AC Try.prog T0 58 [x0] H P :=
  r_fn T0_ok (c := code) (n := 18) Try.func58 body (by kernel_rfl) (main P) (En_mk (x0, ()) (by kernel_rfl) ⟨by kernel_rfl, trivial⟩ h)

end F58
-- (loop.example/g01329/impl.set).size
namespace F66
noncomputable def ret (P : PT) : EP := retE T0 5 Try.f66 P
abbrev k0 : Sk := [(0,.i .u64)]
noncomputable def o1 := ob Try.f66 [.r,.l]
def B1 (P : PT) (x0 : Int) (H : AHeap) : Prop :=
  AC Try.prog T0 115 [(Value.int .u64 x0)] H (fun v1 H2 => asI .i64 v1 (fun v3 => P (Value.int .i64 v3) H2))
theorem q1 (P : PT) : QB Try.prog T0 5 o1 (ret P) k0 (B1 P) := fun _ _ _  => by kernel_rfl
noncomputable def o2 := ob Try.f66 [.l]
def B2 (P : PT) (x0 : Int) (H : AHeap) : Prop :=
  B1 P x0 H
theorem q2 (P : PT) : QB Try.prog T0 5 o2 (En 5 k0 (B1 P)) k0 (B2 P) := fun _ _ _  => by kernel_rfl
noncomputable def code : Code := (.seq (.region 0 ⟨o2⟩ false) (.seq (.region 1 ⟨o1⟩ false) .ret))
theorem body : Try.f66.body = some code := by kernel_rfl
theorem main (P : PT) : ∀ env H, (En 5 k0 (B2 P)) env H → AW Try.prog T0 code env H (mkQ (ret P) (fun _ _ _ => False) (ret P)) :=
  (r_seq (rB T0_ok (q2 P)) (r_seq (rB T0_ok (q1 P)) r_ret))
theorem ac (P : PT) (x0 : Int) (H : AHeap) (h : B2 P x0 H) : AC Try.prog T0 66 [(Value.int .u64 x0)] H P :=
  r_fn T0_ok (c := code) (n := 5) Try.func66 body (by kernel_rfl) (main P) (En_mk (x0, ()) (by kernel_rfl) ⟨by kernel_rfl, trivial⟩ h)

end F66
-- loop.example/g01329/laws.markEdgeS
namespace F68
noncomputable def ret (P : PT) : EP := retE T0 26 Try.f68 P
abbrev k0 : Sk := [(1,.i .i64)]
noncomputable def o1 := ob Try.f68 [.r,.r,.l]
def B1 (P : PT) (x1 : Int) (H : AHeap) : Prop :=
  P (Value.int .i64 x1) H
theorem q1 (P : PT) : QB Try.prog T0 26 o1 (ret P) k0 (B1 P) := fun _ _ _  => by kernel_rfl
abbrev k1 : Sk := [(0,.v),(1,.i .i64),(5,.i .i64)]
noncomputable def o3 := ob Try.f68 [.r,.l,.r,.l,.l,.r,.r]
def B3 (P : PT) (N2 : NTy k1 Pr) (x0 : Value) (x1 x5 : Int) (H : AHeap) : Prop :=
  N2 x0 x1 (IntKind.i64.wrap (x5 + 1)) H
theorem q3 (P : PT) (N2 : NTy k1 Pr) : QB Try.prog T0 26 o3 (En 26 k1 N2) k1 (B3 P N2) := fun _ _ _ _ _  => by kernel_rfl
abbrev k2 : Sk := [(0,.v),(1,.i .i64),(5,.i .i64),(6,.i .i64)]
noncomputable def o5 := ob Try.f68 [.r,.l,.r,.l,.l,.r,.l,.l,.r,.l,.l,.r,.r]
def B5 (P : PT) (N2 : NTy k1 Pr) (N4 : NTy k2 Pr) (x0 : Value) (x1 x5 x6 : Int) (H : AHeap) : Prop :=
  N4 x0 x1 x5 (IntKind.i64.wrap (x6 + 1)) H
theorem q5 (P : PT) (N2 : NTy k1 Pr) (N4 : NTy k2 Pr) : QB Try.prog T0 26 o5 (En 26 k2 N4) k2 (B5 P N2 N4) := fun _ _ _ _ _ _  => by kernel_rfl
noncomputable def o6 := ob Try.f68 [.r,.l,.r,.l,.l,.r,.l,.l,.r,.l,.l,.r,.l,.l,.r]
def B6 (P : PT) (N2 : NTy k1 Pr) (N4 : NTy k2 Pr) (x0 : Value) (x1 x5 x6 : Int) (H : AHeap) : Prop :=
  B5 P N2 N4 x0 (IntKind.i64.wrap (x1 + 1)) x5 x6 H
theorem q6 (P : PT) (N2 : NTy k1 Pr) (N4 : NTy k2 Pr) : QB Try.prog T0 26 o6 (En 26 k2 (B5 P N2 N4)) k2 (B6 P N2 N4) := fun _ _ _ _ _ _  => by kernel_rfl
noncomputable def o7 := ob Try.f68 [.r,.l,.r,.l,.l,.r,.l,.l,.r,.l,.l,.r,.l,.l,.l]
def B7 (P : PT) (N2 : NTy k1 Pr) (N4 : NTy k2 Pr) (x0 : Value) (x1 x5 x6 : Int) (H : AHeap) : Prop :=
  idxK x0 x5 2 (fun b1 o2 => bndK x6 2 (stK H b1 (o2 + Int.toNat x6 * 1) [(Value.int .i64 x1)] (fun H3 => B6 P N2 N4 x0 x1 x5 x6 H3)))
theorem q7 (P : PT) (N2 : NTy k1 Pr) (N4 : NTy k2 Pr) : QB Try.prog T0 26 o7 (En 26 k2 (B6 P N2 N4)) k2 (B7 P N2 N4) := fun _ _ _ _ _ _  => by kernel_rfl
noncomputable def o8 := ob Try.f68 [.r,.l,.r,.l,.l,.r,.l,.l,.r,.l,.l,.l,.l]
def B8 (P : PT) (N2 : NTy k1 Pr) (N4 : NTy k2 Pr) (x0 : Value) (x1 x5 x6 : Int) (H : AHeap) : Prop :=
  pif (decide ((x6 : Int) < 2)) (B7 P N2 N4 x0 x1 x5 x6 H) (B3 P N2 x0 x1 x5 H)
theorem q8 (P : PT) (N2 : NTy k1 Pr) (N4 : NTy k2 Pr) : QB Try.prog T0 26 o8 (cnd 14 (En 26 k2 (B7 P N2 N4)) (En 26 k1 (B3 P N2))) k2 (B8 P N2 N4) := fun _ _ _ _ _ _  => by kernel_rfl
def L4 (P : PT) (N2 : NTy k1 Pr) (x0 : Value) (x1 x5 x6 : Int) (H : AHeap) : Prop :=
  ∃ (I : NTy k2 Pr) (μ : NTy k2 (AHeap → Nat)), I x0 x1 x5 x6 H ∧ ∀ y0 y1 y5 y6 G, I y0 y1 y5 y6 G → B8 P N2 (fun z0 z1 z5 z6 G' => I z0 z1 z5 z6 G' ∧ μ z0 z1 z5 z6 G' < μ y0 y1 y5 y6 G) y0 y1 y5 y6 G
theorem l4 (P : PT) (N2 : NTy k1 Pr) : LQ k2 (L4 P N2) (B8 P N2) := fun ⟨_,_,_,_,_⟩ _ ⟨I, μ, h0, hI⟩ => ⟨apT _ I, apT _ μ, h0, fun ⟨_,_,_,_,_⟩ _ h => hI _ _ _ _ _  h⟩
noncomputable def o9 := ob Try.f68 [.r,.l,.r,.l,.l,.r,.l,.l,.l]
def B9 (P : PT) (N2 : NTy k1 Pr) (x0 : Value) (x1 x5 : Int) (H : AHeap) : Prop :=
  L4 P N2 x0 x1 x5 0 H
theorem q9 (P : PT) (N2 : NTy k1 Pr) : QB Try.prog T0 26 o9 (En 26 k2 (L4 P N2)) k1 (B9 P N2) := fun _ _ _ _ _  => by kernel_rfl
noncomputable def o10 := ob Try.f68 [.r,.l,.r,.l,.l,.l,.l]
def B10 (P : PT) (N2 : NTy k1 Pr) (x0 : Value) (x1 x5 : Int) (H : AHeap) : Prop :=
  lenK x0 (fun n1 => pif (decide ((x5 : Int) < (n1 : Int))) (B9 P N2 x0 x1 x5 H) (B1 P x1 H))
theorem q10 (P : PT) (N2 : NTy k1 Pr) : QB Try.prog T0 26 o10 (cnd 10 (En 26 k1 (B9 P N2)) (En 26 k0 (B1 P))) k1 (B10 P N2) := fun _ _ _ _ _  => by kernel_rfl
def L2 (P : PT) (x0 : Value) (x1 x5 : Int) (H : AHeap) : Prop :=
  ∃ (I : NTy k1 Pr) (μ : NTy k1 (AHeap → Nat)), I x0 x1 x5 H ∧ ∀ y0 y1 y5 G, I y0 y1 y5 G → B10 P (fun z0 z1 z5 G' => I z0 z1 z5 G' ∧ μ z0 z1 z5 G' < μ y0 y1 y5 G) y0 y1 y5 G
theorem l2 (P : PT) : LQ k1 (L2 P) (B10 P) := fun ⟨_,_,_,_⟩ _ ⟨I, μ, h0, hI⟩ => ⟨apT _ I, apT _ μ, h0, fun ⟨_,_,_,_⟩ _ h => hI _ _ _ _  h⟩
abbrev k3 : Sk := [(0,.v),(1,.i .i64)]
noncomputable def o11 := ob Try.f68 [.r,.l,.l]
def B11 (P : PT) (x0 : Value) (x1 : Int) (H : AHeap) : Prop :=
  L2 P x0 x1 0 H
theorem q11 (P : PT) : QB Try.prog T0 26 o11 (En 26 k1 (L2 P)) k3 (B11 P) := fun _ _ _ _  => by kernel_rfl
noncomputable def o12 := ob Try.f68 [.l]
def B12 (P : PT) (x0 : Value) (x1 : Int) (H : AHeap) : Prop :=
  B11 P x0 x1 H
theorem q12 (P : PT) : QB Try.prog T0 26 o12 (En 26 k3 (B11 P)) k3 (B12 P) := fun _ _ _ _  => by kernel_rfl
noncomputable def code : Code := (.seq (.region 0 ⟨o12⟩ false) (.seq (.seq (.region 1 ⟨o11⟩ false) (.block 0 (.loop (.seq (.seq (.region 2 ⟨o10⟩ false) (.cond (.tmp 10) .skip (.exit 0))) (.seq (.block 1 (.seq (.region 4 ⟨o9⟩ false) (.block 2 (.loop (.seq (.seq (.region 5 ⟨o8⟩ false) (.cond (.tmp 14) .skip (.exit 2))) (.seq (.block 3 (.seq (.region 7 ⟨o7⟩ false) (.region 8 ⟨o6⟩ false))) (.region 6 ⟨o5⟩ false))))))) (.region 3 ⟨o3⟩ false)))))) (.seq (.region 9 ⟨o1⟩ false) .ret)))
theorem body : Try.f68.body = some code := by kernel_rfl
theorem main (P : PT) : ∀ env H, (En 26 k3 (B12 P)) env H → AW Try.prog T0 code env H (mkQ (ret P) (fun _ _ _ => False) (ret P)) :=
  (r_seq (rB T0_ok (q12 P)) (r_seq (r_seq (rB T0_ok (q11 P)) (r_block (rL (l2 P) (fun N2 => (r_seq (r_seq (rB T0_ok (q10 P N2)) (r_cond rfl r_skip (r_exit (fun _ _ h => h)))) (r_seq (r_block (r_seq (rB T0_ok (q9 P N2)) (r_block (rL (l4 P N2) (fun N4 => (r_seq (r_seq (rB T0_ok (q8 P N2 N4)) (r_cond rfl r_skip (r_exit (fun _ _ h => h)))) (r_seq (r_block (r_seq (rB T0_ok (q7 P N2 N4)) (rB T0_ok (q6 P N2 N4)))) (rB T0_ok (q5 P N2 N4))))))))) (rB T0_ok (q3 P N2)))))))) (r_seq (rB T0_ok (q1 P)) r_ret)))
theorem ac (P : PT) (x0 : Value) (x1 : Int) (H : AHeap) (h : B12 P x0 x1 H) : AC Try.prog T0 68 [x0, (Value.int .i64 x1)] H P :=
  r_fn T0_ok (c := code) (n := 26) Try.func68 body (by kernel_rfl) (main P) (En_mk (x0, x1, ()) (by kernel_rfl) ⟨by kernel_rfl, by kernel_rfl, trivial⟩ h)

end F68
-- loop.example/g01329/spec.l09Small
namespace F69
noncomputable def ret (P : PT) : EP := retE T0 11 Try.f69 P
abbrev k0 : Sk := []
noncomputable def o1 := ob Try.f69 [.r,.r,.l]
def B1 (P : PT) (H : AHeap) : Prop :=
  P (Value.int .i64 0) H
theorem q1 (P : PT) : QB Try.prog T0 11 o1 (ret P) k0 (B1 P) := fun _ _  => by kernel_rfl
noncomputable def o2 := ob Try.f69 [.r,.l,.l,.r,.l,.l]
def B2 (P : PT) (H : AHeap) : Prop :=
  P (Value.int .i64 1) H
theorem q2 (P : PT) : QB Try.prog T0 11 o2 (ret P) k0 (B2 P) := fun _ _  => by kernel_rfl
noncomputable def o3 := ob Try.f69 [.r,.l,.l,.r,.r,.r,.l,.l]
def B3 (P : PT) (H : AHeap) : Prop :=
  P (Value.int .i64 3) H
theorem q3 (P : PT) : QB Try.prog T0 11 o3 (ret P) k0 (B3 P) := fun _ _  => by kernel_rfl
abbrev k1 : Sk := [(1,.x)]
noncomputable def o4 := ob Try.f69 [.r,.l,.l,.r,.r,.l]
def B4 (P : PT) (x1 : Nat) (H : AHeap) : Prop :=
  ldI .i64 H x1 0 (fun v1 => pif (decide ((v1 : Int) > 12)) (B3 P H) (B1 P H))
theorem q4 (P : PT) : QB Try.prog T0 11 o4 (cnd 7 (En 11 k0 (B3 P)) (En 11 k0 (B1 P))) k1 (B4 P) := fun _ _ _  => by kernel_rfl
noncomputable def o5 := ob Try.f69 [.r,.l,.l,.l]
def B5 (P : PT) (x1 : Nat) (H : AHeap) : Prop :=
  ldI .i64 H x1 0 (fun v1 => ld1 H x1 1 (fun v2 => AC Try.prog T0 73 [(Value.agg ⟨[(Value.int .i64 v1), v2]⟩)] H (fun v3 H4 => asB v3 (fun v5 => pif (!v5) (B2 P H4) (B4 P x1 H4)))))
theorem q5 (P : PT) : QB Try.prog T0 11 o5 (cnd 3 (En 11 k0 (B2 P)) (En 11 k1 (B4 P))) k1 (B5 P) := fun _ _ _  => by kernel_rfl
abbrev k2 : Sk := [(0,.g [.i,.v])]
noncomputable def o6 := ob Try.f69 [.l]
def B6 (P : PT) (x0a : Int) (x0b : Value) (H : AHeap) : Prop :=
  newK H [(Value.int .i64 x0a), x0b] 31 (fun b1 H2 => B5 P b1 H2)
theorem q6 (P : PT) : QB Try.prog T0 11 o6 (En 11 k1 (B5 P)) k2 (B6 P) := fun _ _ _ _  => by kernel_rfl
noncomputable def code : Code := (.seq (.region 0 ⟨o6⟩ false) (.seq (.block 0 (.seq (.region 1 ⟨o5⟩ false) (.cond (.tmp 3) (.seq (.region 2 ⟨o2⟩ false) .ret) (.seq (.region 3 ⟨o4⟩ false) (.cond (.tmp 7) (.seq (.region 4 ⟨o3⟩ false) .ret) .skip))))) (.seq (.region 5 ⟨o1⟩ false) .ret)))
theorem body : Try.f69.body = some code := by kernel_rfl
theorem main (P : PT) : ∀ env H, (En 11 k2 (B6 P)) env H → AW Try.prog T0 code env H (mkQ (ret P) (fun _ _ _ => False) (ret P)) :=
  (r_seq (rB T0_ok (q6 P)) (r_seq (r_block (r_seq (rB T0_ok (q5 P)) (r_cond rfl (r_seq (rB T0_ok (q2 P)) r_ret) (r_seq (rB T0_ok (q4 P)) (r_cond rfl (r_seq (rB T0_ok (q3 P)) r_ret) r_skip))))) (r_seq (rB T0_ok (q1 P)) r_ret)))
theorem ac (P : PT) (x0a : Int) (x0b : Value) (H : AHeap) (h : B6 P x0a x0b H) : AC Try.prog T0 69 [(Value.agg ⟨[(Value.int .i64 x0a), x0b]⟩)] H P :=
  r_fn T0_ok (c := code) (n := 11) Try.func69 body (by kernel_rfl) (main P) (En_mk (x0a, x0b, ()) (by kernel_rfl) ⟨by kernel_rfl, trivial⟩ h)

end F69
-- loop.example/g01329/spec.l07All
namespace F70
noncomputable def ret (P : PT) : EP := retE T0 45 Try.f70 P
abbrev k0 : Sk := [(3,.v)]
noncomputable def o1 := ob Try.f70 [.r,.r,.r,.l]
def B1 (P : PT) (x3 : Value) (H : AHeap) : Prop :=
  P x3 H
theorem q1 (P : PT) : QB Try.prog T0 45 o1 (ret P) k0 (B1 P) := fun _ _ _  => by kernel_rfl
abbrev k1 : Sk := [(1,.x),(3,.v),(4,.i .i64)]
noncomputable def o3 := ob Try.f70 [.r,.r,.l,.r,.l,.l,.r,.r]
def B3 (P : PT) (N2 : NTy k1 Pr) (x1 : Nat) (x3 : Value) (x4 : Int) (H : AHeap) : Prop :=
  N2 x1 x3 (IntKind.i64.wrap (x4 + 1)) H
theorem q3 (P : PT) (N2 : NTy k1 Pr) : QB Try.prog T0 45 o3 (En 45 k1 N2) k1 (B3 P N2) := fun _ _ _ _ _  => by kernel_rfl
abbrev k2 : Sk := [(1,.x),(3,.v),(4,.i .i64),(5,.v)]
noncomputable def o4 := ob Try.f70 [.r,.r,.l,.r,.l,.l,.r,.l,.l,.r,.r]
def B4 (P : PT) (N2 : NTy k1 Pr) (x1 : Nat) (x3 : Value) (x4 : Int) (x5 : Value) (H : AHeap) : Prop :=
  ldI .i64 H x1 0 (fun v1 => ld1 H x1 1 (fun v2 => ld1 H x1 1 (fun v3 => idxK v3 x4 2 (fun b4 o5 => ldI .i64 H b4 (o5 + 1) (fun v6 => ld1 H x1 1 (fun v7 => idxK v7 x4 2 (fun b8 o9 => ldI .i64 H b8 o9 (fun v10 => newK H [(Value.int .i64 x4)] 2 (fun b11 H12 => AC Try.prog T0 118 [(Value.agg ⟨[(Value.int .i64 v1), v2]⟩), (Value.slice (some ⟨b11, 0, none⟩) 1 (1 + 1)), (Value.int .i64 v6), (Value.int .i64 v10), x5] H12 (fun v13 H14 => apK T0 25 H14 x3 v13 (fun v16 H17 => B3 P N2 x1 v16 x4 H17)))))))))))
theorem q4 (P : PT) (N2 : NTy k1 Pr) : QD Try.prog T0 45 o4 [(0, false), (1, false), (2, false), (4, false), (5, false), (6, false), (7, false), (8, false), (9, false), (10, false), (11, false), (12, false), (13, false), (14, false), (15, false), (16, false), (3, false), (17, false), (18, false), (19, false)] (En 45 k1 (B3 P N2)) k2 (B4 P N2) := fun _ _ _ _ _ _  => by kernel_rfl
noncomputable def o5 := ob Try.f70 [.r,.r,.l,.r,.l,.l,.r,.l,.l,.r,.l]
def B5 (P : PT) (N2 : NTy k1 Pr) (x1 : Nat) (x3 : Value) (x4 : Int) (x5 : Value) (H : AHeap) : Prop :=
  ld1 H x1 1 (fun v1 => idxK v1 x4 2 (fun b2 o3 => ldI .i64 H b2 (o3 + 1) (fun v4 => idxK x5 v4 1 (fun b5 o6 => stK H b5 o6 [(Value.bool true)] (fun H7 => B4 P N2 x1 x3 x4 x5 H7)))))
theorem q5 (P : PT) (N2 : NTy k1 Pr) : QB Try.prog T0 45 o5 (En 45 k2 (B4 P N2)) k2 (B5 P N2) := fun _ _ _ _ _ _  => by kernel_rfl
noncomputable def o6 := ob Try.f70 [.r,.r,.l,.r,.l,.l,.r,.l,.l,.l]
def B6 (P : PT) (N2 : NTy k1 Pr) (x1 : Nat) (x3 : Value) (x4 : Int) (H : AHeap) : Prop :=
  ldI .i64 H x1 0 (fun v1 => mkR H 1 4 [(Value.bool false)] v1 v1 (fun v3 H2 => B5 P N2 x1 x3 x4 v3 H2))
theorem q6 (P : PT) (N2 : NTy k1 Pr) : QB Try.prog T0 45 o6 (En 45 k2 (B5 P N2)) k1 (B6 P N2) := fun _ _ _ _ _  => by kernel_rfl
noncomputable def o7 := ob Try.f70 [.r,.r,.l,.r,.l,.l,.l,.l]
def B7 (P : PT) (N2 : NTy k1 Pr) (x1 : Nat) (x3 : Value) (x4 : Int) (H : AHeap) : Prop :=
  ld1 H x1 1 (fun v1 => lenK v1 (fun n2 => pif (decide ((x4 : Int) < (n2 : Int))) (B6 P N2 x1 x3 x4 H) (B1 P x3 H)))
theorem q7 (P : PT) (N2 : NTy k1 Pr) : QB Try.prog T0 45 o7 (cnd 11 (En 45 k1 (B6 P N2)) (En 45 k0 (B1 P))) k1 (B7 P N2) := fun _ _ _ _ _  => by kernel_rfl
def L2 (P : PT) (x1 : Nat) (x3 : Value) (x4 : Int) (H : AHeap) : Prop :=
  ∃ (I : NTy k1 Pr) (μ : NTy k1 (AHeap → Nat)), I x1 x3 x4 H ∧ ∀ y1 y3 y4 G, I y1 y3 y4 G → B7 P (fun z1 z3 z4 G' => I z1 z3 z4 G' ∧ μ z1 z3 z4 G' < μ y1 y3 y4 G) y1 y3 y4 G
theorem l2 (P : PT) : LQ k1 (L2 P) (B7 P) := fun ⟨_,_,_,_⟩ _ ⟨I, μ, h0, hI⟩ => ⟨apT _ I, apT _ μ, h0, fun ⟨_,_,_,_⟩ _ h => hI _ _ _ _  h⟩
abbrev k3 : Sk := [(1,.x),(3,.v)]
noncomputable def o8 := ob Try.f70 [.r,.r,.l,.l]
def B8 (P : PT) (x1 : Nat) (x3 : Value) (H : AHeap) : Prop :=
  L2 P x1 x3 0 H
theorem q8 (P : PT) : QB Try.prog T0 45 o8 (En 45 k1 (L2 P)) k3 (B8 P) := fun _ _ _ _  => by kernel_rfl
abbrev k4 : Sk := [(1,.x)]
noncomputable def o9 := ob Try.f70 [.r,.l]
def B9 (P : PT) (x1 : Nat) (H : AHeap) : Prop :=
  newK H [] 25 (fun b1 H2 => B8 P x1 (Value.slice (some ⟨b1, 0, none⟩) 0 (0 + 1)) H2)
theorem q9 (P : PT) : QB Try.prog T0 45 o9 (En 45 k3 (B8 P)) k4 (B9 P) := fun _ _ _  => by kernel_rfl
abbrev k5 : Sk := [(0,.g [.i,.v])]
noncomputable def o10 := ob Try.f70 [.l]
def B10 (P : PT) (x0a : Int) (x0b : Value) (H : AHeap) : Prop :=
  newK H [(Value.int .i64 x0a), x0b] 31 (fun b1 H2 => B9 P b1 H2)
theorem q10 (P : PT) : QB Try.prog T0 45 o10 (En 45 k4 (B9 P)) k5 (B10 P) := fun _ _ _ _  => by kernel_rfl
noncomputable def code : Code := (.seq (.region 0 ⟨o10⟩ false) (.seq (.region 1 ⟨o9⟩ false) (.seq (.seq (.region 2 ⟨o8⟩ false) (.block 0 (.loop (.seq (.seq (.region 3 ⟨o7⟩ false) (.cond (.tmp 11) .skip (.exit 0))) (.seq (.block 1 (.seq (.region 5 ⟨o6⟩ false) (.seq (.region 6 ⟨o5⟩ false) (.region 7 ⟨o4⟩ true)))) (.region 4 ⟨o3⟩ false)))))) (.seq (.region 8 ⟨o1⟩ false) .ret))))
theorem body : Try.f70.body = some code := by kernel_rfl
theorem main (P : PT) : ∀ env H, (En 45 k5 (B10 P)) env H → AW Try.prog T0 code env H (mkQ (ret P) (fun _ _ _ => False) (ret P)) :=
  (r_seq (rB T0_ok (q10 P)) (r_seq (rB T0_ok (q9 P)) (r_seq (r_seq (rB T0_ok (q8 P)) (r_block (rL (l2 P) (fun N2 => (r_seq (r_seq (rB T0_ok (q7 P N2)) (r_cond rfl r_skip (r_exit (fun _ _ h => h)))) (r_seq (r_block (r_seq (rB T0_ok (q6 P N2)) (r_seq (rB T0_ok (q5 P N2)) (rD T0_ok mixed [(0, false), (1, false), (2, false), (4, false), (5, false), (6, false), (7, false), (8, false), (9, false), (10, false), (11, false), (12, false), (13, false), (14, false), (15, false), (16, false), (3, false), (17, false), (18, false), (19, false)] (by kernel_rfl) (q4 P N2))))) (rB T0_ok (q3 P N2)))))))) (r_seq (rB T0_ok (q1 P)) r_ret))))
theorem ac (P : PT) (x0a : Int) (x0b : Value) (H : AHeap) (h : B10 P x0a x0b H) : AC Try.prog T0 70 [(Value.agg ⟨[(Value.int .i64 x0a), x0b]⟩)] H P :=
  r_fn T0_ok (c := code) (n := 45) Try.func70 body (by kernel_rfl) (main P) (En_mk (x0a, x0b, ()) (by kernel_rfl) ⟨by kernel_rfl, trivial⟩ h)

end F70
-- loop.example/g01329/impl.expandedCode
namespace F71
noncomputable def ret (P : PT) : EP := retE T0 8 Try.f71 P
abbrev k0 : Sk := [(1,.b),(2,.x)]
noncomputable def o1 := ob Try.f71 [.r,.l]
def B1 (P : PT) (x1 : Bool) (x2 : Nat) (H : AHeap) : Prop :=
  ldI .i64 H x2 0 (fun v1 => ld1 H x2 1 (fun v2 => AC Try.prog T0 119 [(Value.agg ⟨[(Value.int .i64 v1), v2]⟩), (Value.bool x1), (Value.int .i64 12)] H (fun v3 H4 => asI .i64 v3 (fun v5 => P (Value.int .i64 v5) H4))))
theorem q1 (P : PT) : QB Try.prog T0 8 o1 (ret P) k0 (B1 P) := fun _ _ _ _  => by kernel_rfl
abbrev k1 : Sk := [(0,.g [.i,.v]),(1,.b)]
noncomputable def o2 := ob Try.f71 [.l]
def B2 (P : PT) (x0a : Int) (x0b : Value) (x1 : Bool) (H : AHeap) : Prop :=
  newK H [(Value.int .i64 x0a), x0b] 31 (fun b1 H2 => B1 P x1 b1 H2)
theorem q2 (P : PT) : QB Try.prog T0 8 o2 (En 8 k0 (B1 P)) k1 (B2 P) := fun _ _ _ _ _  => by kernel_rfl
noncomputable def code : Code := (.seq (.region 0 ⟨o2⟩ false) (.seq (.region 1 ⟨o1⟩ false) .ret))
theorem body : Try.f71.body = some code := by kernel_rfl
theorem main (P : PT) : ∀ env H, (En 8 k1 (B2 P)) env H → AW Try.prog T0 code env H (mkQ (ret P) (fun _ _ _ => False) (ret P)) :=
  (r_seq (rB T0_ok (q2 P)) (r_seq (rB T0_ok (q1 P)) r_ret))
theorem ac (P : PT) (x0a : Int) (x0b : Value) (x1 : Bool) (H : AHeap) (h : B2 P x0a x0b x1 H) : AC Try.prog T0 71 [(Value.agg ⟨[(Value.int .i64 x0a), x0b]⟩), (Value.bool x1)] H P :=
  r_fn T0_ok (c := code) (n := 8) Try.func71 body (by kernel_rfl) (main P) (En_mk (x0a, x0b, x1, ()) (by kernel_rfl) ⟨by kernel_rfl, by kernel_rfl, trivial⟩ h)

end F71
-- loop.example/g01329/impl.AllCycles
namespace F72
noncomputable def ret (P : PT) : EP := retE T0 48 Try.f72 P
abbrev k0 : Sk := [(5,.v)]
noncomputable def o1 := ob Try.f72 [.r,.r,.r,.r,.r,.r,.r,.l]
def B1 (P : PT) (x5 : Value) (H : AHeap) : Prop :=
  AC Try.prog T0 126 [x5] H (fun v1 H2 => P (Value.tuple ⟨[v1, (Value.int .i64 0)]⟩) H2)
theorem q1 (P : PT) : QB Try.prog T0 48 o1 (ret P) k0 (B1 P) := fun _ _ _  => by kernel_rfl
noncomputable def o2 := ob Try.f72 [.r,.r,.r,.r,.r,.r,.l]
def B2 (P : PT) (x5 : Value) (H : AHeap) : Prop :=
  AC Try.prog T0 124 [x5, (Value.func (.func 125) ⟨[]⟩ ⟨[]⟩)] H (fun v1 H2 => asTup v1 (fun l3 => B1 P x5 H2))
theorem q2 (P : PT) : QB Try.prog T0 48 o2 (En 48 k0 (B1 P)) k0 (B2 P) := fun _ _ _  => by kernel_rfl
abbrev k1 : Sk := [(1,.x),(5,.v)]
noncomputable def o3 := ob Try.f72 [.r,.r,.r,.r,.r,.l]
def B3 (P : PT) (x1 : Nat) (x5 : Value) (H : AHeap) : Prop :=
  AC Try.prog T0 122 [x5, (Value.func (.func 123) ⟨[]⟩ ⟨[(Value.pointer (some ⟨x1, 0, none⟩))]⟩)] H (fun v1 H2 => B2 P v1 H2)
theorem q3 (P : PT) : QB Try.prog T0 48 o3 (En 48 k0 (B2 P)) k1 (B3 P) := fun _ _ _ _  => by kernel_rfl
abbrev k2 : Sk := [(1,.x),(5,.v),(20,.v),(21,.i .i64),(22,.i .i64)]
noncomputable def o5 := ob Try.f72 [.r,.r,.r,.r,.l,.r,.l,.l,.r,.r,.r]
def B5 (P : PT) (N4 : NTy k2 Pr) (x1 : Nat) (x5 x20 : Value) (x21 x22 : Int) (H : AHeap) : Prop :=
  N4 x1 x5 x20 x21 (IntKind.i64.wrap (x22 + 1)) H
theorem q5 (P : PT) (N4 : NTy k2 Pr) : QB Try.prog T0 48 o5 (En 48 k2 N4) k2 (B5 P N4) := fun _ _ _ _ _ _ _  => by kernel_rfl
abbrev k3 : Sk := [(1,.x),(5,.v),(7,.i .u64),(20,.v),(21,.i .i64),(22,.i .i64),(27,.v),(28,.i .i64),(29,.i .i64)]
noncomputable def o7 := ob Try.f72 [.r,.r,.r,.r,.l,.r,.l,.l,.r,.r,.l,.l,.r,.r,.l,.l,.r,.r,.r]
def B7 (P : PT) (N4 : NTy k2 Pr) (N6 : NTy k3 Pr) (x1 : Nat) (x5 : Value) (x7 : Int) (x20 : Value) (x21 x22 : Int) (x27 : Value) (x28 x29 : Int) (H : AHeap) : Prop :=
  N6 x1 x5 x7 x20 x21 x22 x27 x28 (IntKind.i64.wrap (x29 + 1)) H
theorem q7 (P : PT) (N4 : NTy k2 Pr) (N6 : NTy k3 Pr) : QB Try.prog T0 48 o7 (En 48 k3 N6) k3 (B7 P N4 N6) := fun _ _ _ _ _ _ _ _ _ _ _  => by kernel_rfl
abbrev k4 : Sk := [(1,.x),(5,.v),(7,.i .u64),(9,.i .u64),(20,.v),(21,.i .i64),(22,.i .i64),(27,.v),(28,.i .i64),(29,.i .i64)]
noncomputable def o8 := ob Try.f72 [.r,.r,.r,.r,.l,.r,.l,.l,.r,.r,.l,.l,.r,.r,.l,.l,.r,.r,.l,.l,.r]
def B8 (P : PT) (N4 : NTy k2 Pr) (N6 : NTy k3 Pr) (x1 : Nat) (x5 : Value) (x7 x9 : Int) (x20 : Value) (x21 x22 : Int) (x27 : Value) (x28 x29 : Int) (H : AHeap) : Prop :=
  newK H [(Value.int .u64 (IntKind.u64.wrap (BitVec.ofInt 64 x9 ^^^ BitVec.ofInt 64 x7).toNat))] 82 (fun b1 H2 => apK T0 82 H2 x5 (Value.slice (some ⟨b1, 0, none⟩) 1 (1 + 1)) (fun v3 H4 => B7 P N4 N6 x1 v3 x7 x20 x21 x22 x27 x28 x29 H4))
theorem q8 (P : PT) (N4 : NTy k2 Pr) (N6 : NTy k3 Pr) : QB Try.prog T0 48 o8 (En 48 k3 (B7 P N4 N6)) k4 (B8 P N4 N6) := fun _ _ _ _ _ _ _ _ _ _ _ _  => by kernel_rfl
noncomputable def o9 := ob Try.f72 [.r,.r,.r,.r,.l,.r,.l,.l,.r,.r,.l,.l,.r,.r,.l,.l,.r,.r,.l,.l,.l]
def B9 (P : PT) (N4 : NTy k2 Pr) (N6 : NTy k3 Pr) (x1 : Nat) (x5 : Value) (x7 : Int) (x20 : Value) (x21 x22 : Int) (x27 : Value) (x28 x29 : Int) (H : AHeap) : Prop :=
  idxK x27 x29 1 (fun b1 o2 => ldI .u64 H b1 o2 (fun v3 => B8 P N4 N6 x1 x5 x7 v3 x20 x21 x22 x27 x28 x29 H))
theorem q9 (P : PT) (N4 : NTy k2 Pr) (N6 : NTy k3 Pr) : QB Try.prog T0 48 o9 (En 48 k4 (B8 P N4 N6)) k3 (B9 P N4 N6) := fun _ _ _ _ _ _ _ _ _ _ _  => by kernel_rfl
noncomputable def o10 := ob Try.f72 [.r,.r,.r,.r,.l,.r,.l,.l,.r,.r,.l,.l,.r,.r,.l,.l,.l]
def B10 (P : PT) (N4 : NTy k2 Pr) (N6 : NTy k3 Pr) (x1 : Nat) (x5 : Value) (x7 : Int) (x20 : Value) (x21 x22 : Int) (x27 : Value) (x28 x29 : Int) (H : AHeap) : Prop :=
  pif (decide ((x29 : Int) < x28)) (B9 P N4 N6 x1 x5 x7 x20 x21 x22 x27 x28 x29 H) (B5 P N4 x1 x5 x20 x21 x22 H)
theorem q10 (P : PT) (N4 : NTy k2 Pr) (N6 : NTy k3 Pr) : QB Try.prog T0 48 o10 (cnd 30 (En 48 k3 (B9 P N4 N6)) (En 48 k2 (B5 P N4))) k3 (B10 P N4 N6) := fun _ _ _ _ _ _ _ _ _ _ _  => by kernel_rfl
def L6 (P : PT) (N4 : NTy k2 Pr) (x1 : Nat) (x5 : Value) (x7 : Int) (x20 : Value) (x21 x22 : Int) (x27 : Value) (x28 x29 : Int) (H : AHeap) : Prop :=
  ∃ (I : NTy k3 Pr) (μ : NTy k3 (AHeap → Nat)), I x1 x5 x7 x20 x21 x22 x27 x28 x29 H ∧ ∀ y1 y5 y7 y20 y21 y22 y27 y28 y29 G, I y1 y5 y7 y20 y21 y22 y27 y28 y29 G → B10 P N4 (fun z1 z5 z7 z20 z21 z22 z27 z28 z29 G' => I z1 z5 z7 z20 z21 z22 z27 z28 z29 G' ∧ μ z1 z5 z7 z20 z21 z22 z27 z28 z29 G' < μ y1 y5 y7 y20 y21 y22 y27 y28 y29 G) y1 y5 y7 y20 y21 y22 y27 y28 y29 G
theorem l6 (P : PT) (N4 : NTy k2 Pr) : LQ k3 (L6 P N4) (B10 P N4) := fun ⟨_,_,_,_,_,_,_,_,_,_⟩ _ ⟨I, μ, h0, hI⟩ => ⟨apT _ I, apT _ μ, h0, fun ⟨_,_,_,_,_,_,_,_,_,_⟩ _ h => hI _ _ _ _ _ _ _ _ _ _  h⟩
abbrev k5 : Sk := [(1,.x),(5,.v),(7,.i .u64),(20,.v),(21,.i .i64),(22,.i .i64)]
noncomputable def o11 := ob Try.f72 [.r,.r,.r,.r,.l,.r,.l,.l,.r,.r,.l,.l,.r,.l]
def B11 (P : PT) (N4 : NTy k2 Pr) (x1 : Nat) (x5 : Value) (x7 : Int) (x20 : Value) (x21 x22 : Int) (H : AHeap) : Prop :=
  AC Try.prog T0 121 [x5] H (fun v1 H2 => lenK v1 (fun n4 => L6 P N4 x1 x5 x7 x20 x21 x22 v1 (n4 : Int) 0 H2))
theorem q11 (P : PT) (N4 : NTy k2 Pr) : QB Try.prog T0 48 o11 (En 48 k3 (L6 P N4)) k5 (B11 P N4) := fun _ _ _ _ _ _ _ _  => by kernel_rfl
noncomputable def o12 := ob Try.f72 [.r,.r,.r,.r,.l,.r,.l,.l,.r,.r,.l,.l,.l]
def B12 (P : PT) (N4 : NTy k2 Pr) (x1 : Nat) (x5 x20 : Value) (x21 x22 : Int) (H : AHeap) : Prop :=
  idxK x20 x22 1 (fun b1 o2 => ldI .u64 H b1 o2 (fun v3 => B11 P N4 x1 x5 v3 x20 x21 x22 H))
theorem q12 (P : PT) (N4 : NTy k2 Pr) : QB Try.prog T0 48 o12 (En 48 k5 (B11 P N4)) k2 (B12 P N4) := fun _ _ _ _ _ _ _  => by kernel_rfl
noncomputable def o13 := ob Try.f72 [.r,.r,.r,.r,.l,.r,.l,.l,.l]
def B13 (P : PT) (N4 : NTy k2 Pr) (x1 : Nat) (x5 x20 : Value) (x21 x22 : Int) (H : AHeap) : Prop :=
  pif (decide ((x22 : Int) < x21)) (B12 P N4 x1 x5 x20 x21 x22 H) (B3 P x1 x5 H)
theorem q13 (P : PT) (N4 : NTy k2 Pr) : QB Try.prog T0 48 o13 (cnd 23 (En 48 k2 (B12 P N4)) (En 48 k1 (B3 P))) k2 (B13 P N4) := fun _ _ _ _ _ _ _  => by kernel_rfl
def L4 (P : PT) (x1 : Nat) (x5 x20 : Value) (x21 x22 : Int) (H : AHeap) : Prop :=
  ∃ (I : NTy k2 Pr) (μ : NTy k2 (AHeap → Nat)), I x1 x5 x20 x21 x22 H ∧ ∀ y1 y5 y20 y21 y22 G, I y1 y5 y20 y21 y22 G → B13 P (fun z1 z5 z20 z21 z22 G' => I z1 z5 z20 z21 z22 G' ∧ μ z1 z5 z20 z21 z22 G' < μ y1 y5 y20 y21 y22 G) y1 y5 y20 y21 y22 G
theorem l4 (P : PT) : LQ k2 (L4 P) (B13 P) := fun ⟨_,_,_,_,_,_⟩ _ ⟨I, μ, h0, hI⟩ => ⟨apT _ I, apT _ μ, h0, fun ⟨_,_,_,_,_,_⟩ _ h => hI _ _ _ _ _ _  h⟩
noncomputable def o14 := ob Try.f72 [.r,.r,.r,.r,.l,.l]
def B14 (P : PT) (x1 : Nat) (x5 : Value) (H : AHeap) : Prop :=
  ldI .i64 H x1 0 (fun v1 => ld1 H x1 1 (fun v2 => AC Try.prog T0 120 [(Value.agg ⟨[(Value.int .i64 v1), v2]⟩)] H (fun v3 H4 => lenK v3 (fun n6 => L4 P x1 x5 v3 (n6 : Int) 0 H4))))
theorem q14 (P : PT) : QB Try.prog T0 48 o14 (En 48 k2 (L4 P)) k1 (B14 P) := fun _ _ _ _  => by kernel_rfl
abbrev k6 : Sk := [(1,.x)]
noncomputable def o15 := ob Try.f72 [.r,.r,.r,.l]
def B15 (P : PT) (x1 : Nat) (H : AHeap) : Prop :=
  newK H [(Value.int .u64 0)] 82 (fun b1 H2 => B14 P x1 (Value.slice (some ⟨b1, 0, none⟩) 1 (1 + 1)) H2)
theorem q15 (P : PT) : QB Try.prog T0 48 o15 (En 48 k1 (B14 P)) k6 (B15 P) := fun _ _ _  => by kernel_rfl
abbrev k7 : Sk := []
noncomputable def o16 := ob Try.f72 [.r,.r,.l,.r,.l,.l]
def B16 (P : PT) (H : AHeap) : Prop :=
  P (Value.tuple ⟨[(Value.slice none 0 0), (Value.int .i64 3)]⟩) H
theorem q16 (P : PT) : QB Try.prog T0 48 o16 (ret P) k7 (B16 P) := fun _ _  => by kernel_rfl
noncomputable def o17 := ob Try.f72 [.r,.r,.l,.l]
def B17 (P : PT) (x1 : Nat) (H : AHeap) : Prop :=
  ldI .i64 H x1 0 (fun v1 => pif (decide ((v1 : Int) > 12)) (B16 P H) (B15 P x1 H))
theorem q17 (P : PT) : QB Try.prog T0 48 o17 (cnd 17 (En 48 k7 (B16 P)) (En 48 k6 (B15 P))) k6 (B17 P) := fun _ _ _  => by kernel_rfl
abbrev k8 : Sk := [(4,.i .i64)]
noncomputable def o18 := ob Try.f72 [.r,.l,.r,.r,.l,.l]
def B18 (P : PT) (x4 : Int) (H : AHeap) : Prop :=
  P (Value.tuple ⟨[(Value.slice none 0 0), (Value.int .i64 x4)]⟩) H
theorem q18 (P : PT) : QB Try.prog T0 48 o18 (ret P) k8 (B18 P) := fun _ _ _  => by kernel_rfl
abbrev k9 : Sk := [(1,.x),(4,.i .i64)]
noncomputable def o19 := ob Try.f72 [.r,.l,.r,.l]
def B19 (P : PT) (x1 : Nat) (x4 : Int) (H : AHeap) : Prop :=
  pif ((x4 : Int) != 0) (B18 P x4 H) (B17 P x1 H)
theorem q19 (P : PT) : QB Try.prog T0 48 o19 (cnd 13 (En 48 k8 (B18 P)) (En 48 k6 (B17 P))) k9 (B19 P) := fun _ _ _ _  => by kernel_rfl
noncomputable def o20 := ob Try.f72 [.r,.l,.l]
def B20 (P : PT) (x1 : Nat) (H : AHeap) : Prop :=
  ldI .i64 H x1 0 (fun v1 => ld1 H x1 1 (fun v2 => AC Try.prog T0 41 [(Value.agg ⟨[(Value.int .i64 v1), v2]⟩), (Value.bool true)] H (fun v3 H4 => asI .i64 v3 (fun v5 => B19 P x1 v5 H4))))
theorem q20 (P : PT) : QB Try.prog T0 48 o20 (En 48 k9 (B19 P)) k6 (B20 P) := fun _ _ _  => by kernel_rfl
abbrev k10 : Sk := [(0,.g [.i,.v])]
noncomputable def o21 := ob Try.f72 [.l]
def B21 (P : PT) (x0a : Int) (x0b : Value) (H : AHeap) : Prop :=
  newK H [(Value.int .i64 x0a), x0b] 31 (fun b1 H2 => B20 P b1 H2)
theorem q21 (P : PT) : QB Try.prog T0 48 o21 (En 48 k6 (B20 P)) k10 (B21 P) := fun _ _ _ _  => by kernel_rfl
noncomputable def code : Code := (.seq (.region 0 ⟨o21⟩ false) (.seq (.seq (.region 1 ⟨o20⟩ false) (.seq (.region 2 ⟨o19⟩ false) (.cond (.tmp 13) (.seq (.region 3 ⟨o18⟩ false) .ret) .skip))) (.seq (.seq (.region 4 ⟨o17⟩ false) (.cond (.tmp 17) (.seq (.region 5 ⟨o16⟩ false) .ret) .skip)) (.seq (.region 6 ⟨o15⟩ false) (.seq (.seq (.region 7 ⟨o14⟩ false) (.block 0 (.loop (.seq (.region 8 ⟨o13⟩ false) (.seq (.cond (.tmp 23) .skip (.exit 0)) (.seq (.block 1 (.seq (.region 9 ⟨o12⟩ false) (.seq (.region 10 ⟨o11⟩ false) (.block 2 (.loop (.seq (.region 11 ⟨o10⟩ false) (.seq (.cond (.tmp 30) .skip (.exit 2)) (.seq (.block 3 (.seq (.region 12 ⟨o9⟩ false) (.region 13 ⟨o8⟩ false))) (.region 14 ⟨o7⟩ false))))))))) (.region 15 ⟨o5⟩ false))))))) (.seq (.region 16 ⟨o3⟩ false) (.seq (.region 17 ⟨o2⟩ false) (.seq (.region 18 ⟨o1⟩ false) .ret))))))))
theorem body : Try.f72.body = some code := by kernel_rfl
theorem main (P : PT) : ∀ env H, (En 48 k10 (B21 P)) env H → AW Try.prog T0 code env H (mkQ (ret P) (fun _ _ _ => False) (ret P)) :=
  (r_seq (rB T0_ok (q21 P)) (r_seq (r_seq (rB T0_ok (q20 P)) (r_seq (rB T0_ok (q19 P)) (r_cond rfl (r_seq (rB T0_ok (q18 P)) r_ret) r_skip))) (r_seq (r_seq (rB T0_ok (q17 P)) (r_cond rfl (r_seq (rB T0_ok (q16 P)) r_ret) r_skip)) (r_seq (rB T0_ok (q15 P)) (r_seq (r_seq (rB T0_ok (q14 P)) (r_block (rL (l4 P) (fun N4 => (r_seq (rB T0_ok (q13 P N4)) (r_seq (r_cond rfl r_skip (r_exit (fun _ _ h => h))) (r_seq (r_block (r_seq (rB T0_ok (q12 P N4)) (r_seq (rB T0_ok (q11 P N4)) (r_block (rL (l6 P N4) (fun N6 => (r_seq (rB T0_ok (q10 P N4 N6)) (r_seq (r_cond rfl r_skip (r_exit (fun _ _ h => h))) (r_seq (r_block (r_seq (rB T0_ok (q9 P N4 N6)) (rB T0_ok (q8 P N4 N6)))) (rB T0_ok (q7 P N4 N6))))))))))) (rB T0_ok (q5 P N4))))))))) (r_seq (rB T0_ok (q3 P)) (r_seq (rB T0_ok (q2 P)) (r_seq (rB T0_ok (q1 P)) r_ret))))))))
theorem ac (P : PT) (x0a : Int) (x0b : Value) (H : AHeap) (h : B21 P x0a x0b H) : AC Try.prog T0 72 [(Value.agg ⟨[(Value.int .i64 x0a), x0b]⟩)] H P :=
  r_fn T0_ok (c := code) (n := 48) Try.func72 body (by kernel_rfl) (main P) (En_mk (x0a, x0b, ()) (by kernel_rfl) ⟨by kernel_rfl, trivial⟩ h)

end F72
-- loop.example/g01329/spec.l01Is
namespace F73
noncomputable def ret (P : PT) : EP := retE T0 56 Try.f73 P
abbrev k0 : Sk := []
noncomputable def o1 := ob Try.f73 [.r,.r,.r,.l]
def B1 (P : PT) (H : AHeap) : Prop :=
  P (Value.bool true) H
theorem q1 (P : PT) : QB Try.prog T0 56 o1 (ret P) k0 (B1 P) := fun _ _  => by kernel_rfl
abbrev k1 : Sk := [(1,.x),(3,.i .i64)]
noncomputable def o3 := ob Try.f73 [.r,.r,.l,.r,.l,.l,.r,.r]
def B3 (P : PT) (N2 : NTy k1 Pr) (x1 : Nat) (x3 : Int) (H : AHeap) : Prop :=
  N2 x1 (IntKind.i64.wrap (x3 + 1)) H
theorem q3 (P : PT) (N2 : NTy k1 Pr) : QB Try.prog T0 56 o3 (En 56 k1 N2) k1 (B3 P N2) := fun _ _ _ _  => by kernel_rfl
noncomputable def o4 := ob Try.f73 [.r,.r,.l,.r,.l,.l,.r,.l,.l,.r,.l,.l]
def B4 (P : PT) (N2 : NTy k1 Pr) (H : AHeap) : Prop :=
  P (Value.bool false) H
theorem q4 (P : PT) (N2 : NTy k1 Pr) : QB Try.prog T0 56 o4 (ret P) k0 (B4 P N2) := fun _ _  => by kernel_rfl
noncomputable def o5 := ob Try.f73 [.r,.r,.l,.r,.l,.l,.r,.l,.l,.l]
def B5 (P : PT) (N2 : NTy k1 Pr) (x1 : Nat) (x3 : Int) (H : AHeap) : Prop :=
  ld1 H x1 1 (fun v1 => idxK v1 x3 2 (fun b2 o3 => ldI .i64 H b2 o3 (fun v4 => ld1 H x1 1 (fun v5 => idxK v5 x3 2 (fun b6 o7 => ldI .i64 H b6 (o7 + 1) (fun v8 => pif (decide ((v4 : Int) > v8)) (B4 P N2 H) (pif (decide ((x3 : Int) > 0)) (ld1 H x1 1 (fun v9 => idxK v9 x3 2 (fun b10 o11 => ldI .i64 H b10 o11 (fun v12 => ldI .i64 H b10 (o11 + 1) (fun v13 => ld1 H x1 1 (fun v14 => idxK v14 (IntKind.i64.wrap (x3 - 1)) 2 (fun b15 o16 => ldI .i64 H b15 o16 (fun v17 => ldI .i64 H b15 (o16 + 1) (fun v18 => AC Try.prog T0 129 [(Value.agg ⟨[(Value.int .i64 v12), (Value.int .i64 v13)]⟩), (Value.agg ⟨[(Value.int .i64 v17), (Value.int .i64 v18)]⟩)] H (fun v19 H20 => asB v19 (fun v21 => pif v21 (B4 P N2 H20) (B3 P N2 x1 x3 H20)))))))))))) (B3 P N2 x1 x3 H))))))))
theorem q5 (P : PT) (N2 : NTy k1 Pr) : QD Try.prog T0 56 o5 [(0, false), (1, false), (2, false), (3, false), (4, false), (5, false), (6, false), (7, false), (8, false), (9, false), (10, false), (11, false), (12, false), (13, false), (14, false), (15, false), (16, false), (17, false), (18, false), (19, false), (20, false), (21, false), (22, false), (23, false), (24, false), (25, false), (26, false), (27, false), (28, false), (29, false), (30, false)] (cnd 55 (En 56 k0 (B4 P N2)) (En 56 k1 (B3 P N2))) k1 (B5 P N2) := fun _ _ _ _  => by kernel_rfl
noncomputable def o6 := ob Try.f73 [.r,.r,.l,.r,.l,.l,.l,.l]
def B6 (P : PT) (N2 : NTy k1 Pr) (x1 : Nat) (x3 : Int) (H : AHeap) : Prop :=
  ld1 H x1 1 (fun v1 => lenK v1 (fun n2 => pif (decide ((x3 : Int) < (n2 : Int))) (B5 P N2 x1 x3 H) (B1 P H)))
theorem q6 (P : PT) (N2 : NTy k1 Pr) : QB Try.prog T0 56 o6 (cnd 22 (En 56 k1 (B5 P N2)) (En 56 k0 (B1 P))) k1 (B6 P N2) := fun _ _ _ _  => by kernel_rfl
def L2 (P : PT) (x1 : Nat) (x3 : Int) (H : AHeap) : Prop :=
  ∃ (I : NTy k1 Pr) (μ : NTy k1 (AHeap → Nat)), I x1 x3 H ∧ ∀ y1 y3 G, I y1 y3 G → B6 P (fun z1 z3 G' => I z1 z3 G' ∧ μ z1 z3 G' < μ y1 y3 G) y1 y3 G
theorem l2 (P : PT) : LQ k1 (L2 P) (B6 P) := fun ⟨_,_,_⟩ _ ⟨I, μ, h0, hI⟩ => ⟨apT _ I, apT _ μ, h0, fun ⟨_,_,_⟩ _ h => hI _ _ _  h⟩
abbrev k2 : Sk := [(1,.x)]
noncomputable def o7 := ob Try.f73 [.r,.r,.l,.l]
def B7 (P : PT) (x1 : Nat) (H : AHeap) : Prop :=
  L2 P x1 0 H
theorem q7 (P : PT) : QB Try.prog T0 56 o7 (En 56 k1 (L2 P)) k2 (B7 P) := fun _ _ _  => by kernel_rfl
noncomputable def o8 := ob Try.f73 [.r,.l,.r,.l,.l]
def B8 (P : PT) (H : AHeap) : Prop :=
  P (Value.bool false) H
theorem q8 (P : PT) : QB Try.prog T0 56 o8 (ret P) k0 (B8 P) := fun _ _  => by kernel_rfl
noncomputable def o9 := ob Try.f73 [.r,.l,.l]
def B9 (P : PT) (x1 : Nat) (H : AHeap) : Prop :=
  ldI .i64 H x1 0 (fun v1 => ld1 H x1 1 (fun v2 => AC Try.prog T0 127 [(Value.int .i64 v1), v2] H (fun v3 H4 => asI .i64 v3 (fun v5 => pif ((v5 : Int) != 0) (B8 P H4) (ldI .i64 H4 x1 0 (fun v6 => ld1 H4 x1 1 (fun v7 => AC Try.prog T0 128 [(Value.int .i64 v6), v7] H4 (fun v8 H9 => asB v8 (fun v10 => pif (!v10) (B8 P H9) (B7 P x1 H9))))))))))
theorem q9 (P : PT) : QB Try.prog T0 56 o9 (cnd 17 (En 56 k0 (B8 P)) (En 56 k2 (B7 P))) k2 (B9 P) := fun _ _ _  => by kernel_rfl
abbrev k3 : Sk := [(0,.g [.i,.v])]
noncomputable def o10 := ob Try.f73 [.l]
def B10 (P : PT) (x0a : Int) (x0b : Value) (H : AHeap) : Prop :=
  newK H [(Value.int .i64 x0a), x0b] 31 (fun b1 H2 => B9 P b1 H2)
theorem q10 (P : PT) : QB Try.prog T0 56 o10 (En 56 k2 (B9 P)) k3 (B10 P) := fun _ _ _ _  => by kernel_rfl
noncomputable def code : Code := (.seq (.region 0 ⟨o10⟩ false) (.seq (.seq (.region 1 ⟨o9⟩ false) (.cond (.tmp 17) (.seq (.region 2 ⟨o8⟩ false) .ret) .skip)) (.seq (.seq (.region 3 ⟨o7⟩ false) (.block 0 (.loop (.seq (.seq (.region 4 ⟨o6⟩ false) (.cond (.tmp 22) .skip (.exit 0))) (.seq (.block 1 (.seq (.region 6 ⟨o5⟩ true) (.cond (.tmp 55) (.seq (.region 7 ⟨o4⟩ false) .ret) .skip))) (.region 5 ⟨o3⟩ false)))))) (.seq (.region 8 ⟨o1⟩ false) .ret))))
theorem body : Try.f73.body = some code := by kernel_rfl
theorem main (P : PT) : ∀ env H, (En 56 k3 (B10 P)) env H → AW Try.prog T0 code env H (mkQ (ret P) (fun _ _ _ => False) (ret P)) :=
  (r_seq (rB T0_ok (q10 P)) (r_seq (r_seq (rB T0_ok (q9 P)) (r_cond rfl (r_seq (rB T0_ok (q8 P)) r_ret) r_skip)) (r_seq (r_seq (rB T0_ok (q7 P)) (r_block (rL (l2 P) (fun N2 => (r_seq (r_seq (rB T0_ok (q6 P N2)) (r_cond rfl r_skip (r_exit (fun _ _ h => h)))) (r_seq (r_block (r_seq (rD T0_ok mixed [(0, false), (1, false), (2, false), (3, false), (4, false), (5, false), (6, false), (7, false), (8, false), (9, false), (10, false), (11, false), (12, false), (13, false), (14, false), (15, false), (16, false), (17, false), (18, false), (19, false), (20, false), (21, false), (22, false), (23, false), (24, false), (25, false), (26, false), (27, false), (28, false), (29, false), (30, false)] (by kernel_rfl) (q5 P N2)) (r_cond rfl (r_seq (rB T0_ok (q4 P N2)) r_ret) r_skip))) (rB T0_ok (q3 P N2)))))))) (r_seq (rB T0_ok (q1 P)) r_ret))))
theorem ac (P : PT) (x0a : Int) (x0b : Value) (H : AHeap) (h : B10 P x0a x0b H) : AC Try.prog T0 73 [(Value.agg ⟨[(Value.int .i64 x0a), x0b]⟩)] H P :=
  r_fn T0_ok (c := code) (n := 56) Try.func73 body (by kernel_rfl) (main P) (En_mk (x0a, x0b, ()) (by kernel_rfl) ⟨by kernel_rfl, trivial⟩ h)

end F73
-- loop.example/g01329/laws.toEdge
namespace F76
noncomputable def ret (P : PT) : EP := retE T0 15 Try.f76 P
abbrev k0 : Sk := [(2,.x),(3,.x)]
noncomputable def o1 := ob Try.f76 [.r,.r,.r,.l]
def B1 (P : PT) (x2 x3 : Nat) (H : AHeap) : Prop :=
  ldI .i64 H x3 0 (fun v1 => ldI .i64 H x3 1 (fun v2 => stK H x2 0 [(Value.int .i64 v1), (Value.int .i64 v2)] (fun H3 => ldI .i64 H3 x2 0 (fun v4 => ldI .i64 H3 x2 1 (fun v5 => P (Value.agg ⟨[(Value.int .i64 v4), (Value.int .i64 v5)]⟩) H3)))))
theorem q1 (P : PT) : QB Try.prog T0 15 o1 (ret P) k0 (B1 P) := fun _ _ _ _  => by kernel_rfl
abbrev k1 : Sk := [(1,.x),(2,.x),(3,.x),(4,.i .i64)]
noncomputable def o3 := ob Try.f76 [.r,.r,.l,.r,.l,.l,.r,.r]
def B3 (P : PT) (N2 : NTy k1 Pr) (x1 x2 x3 : Nat) (x4 : Int) (H : AHeap) : Prop :=
  N2 x1 x2 x3 (IntKind.i64.wrap (x4 + 1)) H
theorem q3 (P : PT) (N2 : NTy k1 Pr) : QB Try.prog T0 15 o3 (En 15 k1 N2) k1 (B3 P N2) := fun _ _ _ _ _ _  => by kernel_rfl
noncomputable def o4 := ob Try.f76 [.r,.r,.l,.r,.l,.l,.r,.l,.l]
def B4 (P : PT) (N2 : NTy k1 Pr) (x1 x2 x3 : Nat) (x4 : Int) (H : AHeap) : Prop :=
  bndK x4 2 (ldI .i64 H x1 (0 + Int.toNat x4 * 1) (fun v1 => bndK x4 2 (stK H x3 (0 + Int.toNat x4 * 1) [(Value.int .i64 v1)] (fun H2 => B3 P N2 x1 x2 x3 x4 H2))))
theorem q4 (P : PT) (N2 : NTy k1 Pr) : QB Try.prog T0 15 o4 (En 15 k1 (B3 P N2)) k1 (B4 P N2) := fun _ _ _ _ _ _  => by kernel_rfl
noncomputable def o5 := ob Try.f76 [.r,.r,.l,.r,.l,.l,.l,.l]
def B5 (P : PT) (N2 : NTy k1 Pr) (x1 x2 x3 : Nat) (x4 : Int) (H : AHeap) : Prop :=
  pif (decide ((x4 : Int) < 2)) (B4 P N2 x1 x2 x3 x4 H) (B1 P x2 x3 H)
theorem q5 (P : PT) (N2 : NTy k1 Pr) : QB Try.prog T0 15 o5 (cnd 6 (En 15 k1 (B4 P N2)) (En 15 k0 (B1 P))) k1 (B5 P N2) := fun _ _ _ _ _ _  => by kernel_rfl
def L2 (P : PT) (x1 x2 x3 : Nat) (x4 : Int) (H : AHeap) : Prop :=
  ∃ (I : NTy k1 Pr) (μ : NTy k1 (AHeap → Nat)), I x1 x2 x3 x4 H ∧ ∀ y1 y2 y3 y4 G, I y1 y2 y3 y4 G → B5 P (fun z1 z2 z3 z4 G' => I z1 z2 z3 z4 G' ∧ μ z1 z2 z3 z4 G' < μ y1 y2 y3 y4 G) y1 y2 y3 y4 G
theorem l2 (P : PT) : LQ k1 (L2 P) (B5 P) := fun ⟨_,_,_,_,_⟩ _ ⟨I, μ, h0, hI⟩ => ⟨apT _ I, apT _ μ, h0, fun ⟨_,_,_,_,_⟩ _ h => hI _ _ _ _ _  h⟩
abbrev k2 : Sk := [(1,.x),(2,.x),(3,.x)]
noncomputable def o6 := ob Try.f76 [.r,.r,.l,.l]
def B6 (P : PT) (x1 x2 x3 : Nat) (H : AHeap) : Prop :=
  L2 P x1 x2 x3 0 H
theorem q6 (P : PT) : QB Try.prog T0 15 o6 (En 15 k1 (L2 P)) k2 (B6 P) := fun _ _ _ _ _  => by kernel_rfl
abbrev k3 : Sk := [(1,.x),(2,.x)]
noncomputable def o7 := ob Try.f76 [.r,.l]
def B7 (P : PT) (x1 x2 : Nat) (H : AHeap) : Prop :=
  newK H [(Value.int .i64 0), (Value.int .i64 0)] 67 (fun b1 H2 => B6 P x1 x2 b1 H2)
theorem q7 (P : PT) : QB Try.prog T0 15 o7 (En 15 k2 (B6 P)) k3 (B7 P) := fun _ _ _ _  => by kernel_rfl
abbrev k4 : Sk := [(0,.g [.i,.i])]
noncomputable def o8 := ob Try.f76 [.l]
def B8 (P : PT) (x0a x0b : Int) (H : AHeap) : Prop :=
  newK H [(Value.int .i64 x0a), (Value.int .i64 x0b)] 66 (fun b1 H2 => newK H2 [(Value.int .i64 0), (Value.int .i64 0)] 67 (fun b3 H4 => B7 P b1 b3 H4))
theorem q8 (P : PT) : QB Try.prog T0 15 o8 (En 15 k3 (B7 P)) k4 (B8 P) := fun _ _ _ _  => by kernel_rfl
noncomputable def code : Code := (.seq (.region 0 ⟨o8⟩ false) (.seq (.region 1 ⟨o7⟩ false) (.seq (.seq (.region 2 ⟨o6⟩ false) (.block 0 (.loop (.seq (.seq (.region 3 ⟨o5⟩ false) (.cond (.tmp 6) .skip (.exit 0))) (.seq (.block 1 (.region 5 ⟨o4⟩ false)) (.region 4 ⟨o3⟩ false)))))) (.seq (.region 6 ⟨o1⟩ false) .ret))))
theorem body : Try.f76.body = some code := by kernel_rfl
theorem main (P : PT) : ∀ env H, (En 15 k4 (B8 P)) env H → AW Try.prog T0 code env H (mkQ (ret P) (fun _ _ _ => False) (ret P)) :=
  (r_seq (rB T0_ok (q8 P)) (r_seq (rB T0_ok (q7 P)) (r_seq (r_seq (rB T0_ok (q6 P)) (r_block (rL (l2 P) (fun N2 => (r_seq (r_seq (rB T0_ok (q5 P N2)) (r_cond rfl r_skip (r_exit (fun _ _ h => h)))) (r_seq (r_block (rB T0_ok (q4 P N2))) (rB T0_ok (q3 P N2)))))))) (r_seq (rB T0_ok (q1 P)) r_ret))))
theorem ac (P : PT) (x0a x0b : Int) (H : AHeap) (h : B8 P x0a x0b H) : AC Try.prog T0 76 [(Value.agg ⟨[(Value.int .i64 x0a), (Value.int .i64 x0b)]⟩)] H P :=
  r_fn T0_ok (c := code) (n := 15) Try.func76 body (by kernel_rfl) (main P) (En_mk (x0a, x0b, ()) (by kernel_rfl) ⟨by kernel_rfl, trivial⟩ h)

end F76
-- loop.example/g01329/impl.IsGraph
namespace F77
noncomputable def ret (P : PT) : EP := retE T0 25 Try.f77 P
abbrev k0 : Sk := [(1,.x)]
noncomputable def o1 := ob Try.f77 [.r,.l]
def B1 (P : PT) (x1 : Nat) (H : AHeap) : Prop :=
  ldI .i64 H x1 0 (fun v1 => ld1 H x1 1 (fun v2 => AC Try.prog T0 131 [(Value.int .i64 v1), v2] H (fun v3 H4 => asB v3 (fun v5 => pif v5 (ld1 H4 x1 1 (fun v6 => AC Try.prog T0 132 [v6, (Value.func (.func 133) ⟨[]⟩ ⟨[]⟩)] H4 (fun v7 H8 => asB v7 (fun v9 => pif v9 (ld1 H8 x1 1 (fun v10 => AC Try.prog T0 134 [v10, (Value.func (.func 135) ⟨[]⟩ ⟨[]⟩)] H8 (fun v11 H12 => asB v11 (fun v13 => pif v13 (ldI .i64 H12 x1 0 (fun v14 => ld1 H12 x1 1 (fun v15 => AC Try.prog T0 136 [(Value.int .i64 v14), v15] H12 (fun v16 H17 => asB v16 (fun v18 => P (Value.bool v18) H17))))) (P (Value.bool false) H12))))) (P (Value.bool false) H8))))) (P (Value.bool false) H4)))))
theorem q1 (P : PT) : QB Try.prog T0 25 o1 (ret P) k0 (B1 P) := fun _ _ _  => by kernel_rfl
abbrev k1 : Sk := [(0,.g [.i,.v])]
noncomputable def o2 := ob Try.f77 [.l]
def B2 (P : PT) (x0a : Int) (x0b : Value) (H : AHeap) : Prop :=
  newK H [(Value.int .i64 x0a), x0b] 31 (fun b1 H2 => B1 P b1 H2)
theorem q2 (P : PT) : QB Try.prog T0 25 o2 (En 25 k0 (B1 P)) k1 (B2 P) := fun _ _ _ _  => by kernel_rfl
noncomputable def code : Code := (.seq (.region 0 ⟨o2⟩ false) (.seq (.region 1 ⟨o1⟩ false) .ret))
theorem body : Try.f77.body = some code := by kernel_rfl
theorem main (P : PT) : ∀ env H, (En 25 k1 (B2 P)) env H → AW Try.prog T0 code env H (mkQ (ret P) (fun _ _ _ => False) (ret P)) :=
  (r_seq (rB T0_ok (q2 P)) (r_seq (rB T0_ok (q1 P)) r_ret))
theorem ac (P : PT) (x0a : Int) (x0b : Value) (H : AHeap) (h : B2 P x0a x0b H) : AC Try.prog T0 77 [(Value.agg ⟨[(Value.int .i64 x0a), x0b]⟩)] H P :=
  r_fn T0_ok (c := code) (n := 25) Try.func77 body (by kernel_rfl) (main P) (En_mk (x0a, x0b, ()) (by kernel_rfl) ⟨by kernel_rfl, trivial⟩ h)

end F77
-- (loop.example/g01329/impl.set).has
namespace F79
noncomputable def ret (P : PT) : EP := retE T0 10 Try.f79 P
abbrev k0 : Sk := [(0,.i .u64),(1,.i .i64)]
noncomputable def o1 := ob Try.f79 [.r,.l]
def B1 (P : PT) (x0 x1 : Int) (H : AHeap) : Prop :=
  ((0 : Int) ≤ x1) ∧ (P (Value.bool ((IntKind.u64.wrap (BitVec.ofInt 64 (Int.fdiv x0 (2 ^ (min (Int.toNat x1) 64))) &&& BitVec.ofInt 64 1).toNat : Int) == 1)) H)
theorem q1 (P : PT) : QB Try.prog T0 10 o1 (ret P) k0 (B1 P) := fun _ _ _ _  => by kernel_rfl
noncomputable def o2 := ob Try.f79 [.l]
def B2 (P : PT) (x0 x1 : Int) (H : AHeap) : Prop :=
  B1 P x0 x1 H
theorem q2 (P : PT) : QB Try.prog T0 10 o2 (En 10 k0 (B1 P)) k0 (B2 P) := fun _ _ _ _  => by kernel_rfl
noncomputable def code : Code := (.seq (.region 0 ⟨o2⟩ false) (.seq (.region 1 ⟨o1⟩ false) .ret))
theorem body : Try.f79.body = some code := by kernel_rfl
theorem main (P : PT) : ∀ env H, (En 10 k0 (B2 P)) env H → AW Try.prog T0 code env H (mkQ (ret P) (fun _ _ _ => False) (ret P)) :=
  (r_seq (rB T0_ok (q2 P)) (r_seq (rB T0_ok (q1 P)) r_ret))
theorem ac (P : PT) (x0 x1 : Int) (H : AHeap) (h : B2 P x0 x1 H) : AC Try.prog T0 79 [(Value.int .u64 x0), (Value.int .i64 x1)] H P :=
  r_fn T0_ok (c := code) (n := 10) Try.func79 body (by kernel_rfl) (main P) (En_mk (x0, x1, ()) (by kernel_rfl) ⟨by kernel_rfl, by kernel_rfl, trivial⟩ h)

end F79
-- (loop.example/g01329/impl.set).list
namespace F82
noncomputable def ret (P : PT) : EP := retE T0 19 Try.f82 P
abbrev k0 : Sk := [(3,.v)]
noncomputable def o1 := ob Try.f82 [.r,.r,.r,.l]
def B1 (P : PT) (x3 : Value) (H : AHeap) : Prop :=
  P x3 H
theorem q1 (P : PT) : QB Try.prog T0 19 o1 (ret P) k0 (B1 P) := fun _ _ _  => by kernel_rfl
abbrev k1 : Sk := [(0,.i .u64),(3,.v),(4,.i .i64)]
noncomputable def o3 := ob Try.f82 [.r,.r,.l,.r,.l,.l,.r,.r]
def B3 (P : PT) (N2 : NTy k1 Pr) (x0 : Int) (x3 : Value) (x4 : Int) (H : AHeap) : Prop :=
  N2 x0 x3 (IntKind.i64.wrap (x4 + 1)) H
theorem q3 (P : PT) (N2 : NTy k1 Pr) : QB Try.prog T0 19 o3 (En 19 k1 N2) k1 (B3 P N2) := fun _ _ _ _ _  => by kernel_rfl
noncomputable def o4 := ob Try.f82 [.r,.r,.l,.r,.l,.l,.r,.l,.l,.r,.l]
def B4 (P : PT) (N2 : NTy k1 Pr) (x0 : Int) (x3 : Value) (x4 : Int) (H : AHeap) : Prop :=
  newK H [(Value.int .i64 x4)] 2 (fun b1 H2 => apK T0 2 H2 x3 (Value.slice (some ⟨b1, 0, none⟩) 1 (1 + 1)) (fun v3 H4 => B3 P N2 x0 v3 x4 H4))
theorem q4 (P : PT) (N2 : NTy k1 Pr) : QB Try.prog T0 19 o4 (En 19 k1 (B3 P N2)) k1 (B4 P N2) := fun _ _ _ _ _  => by kernel_rfl
noncomputable def o5 := ob Try.f82 [.r,.r,.l,.r,.l,.l,.r,.l,.l,.l]
def B5 (P : PT) (N2 : NTy k1 Pr) (x0 : Int) (x3 : Value) (x4 : Int) (H : AHeap) : Prop :=
  AC Try.prog T0 79 [(Value.int .u64 x0), (Value.int .i64 x4)] H (fun v1 H2 => asB v1 (fun v3 => pif v3 (B4 P N2 x0 x3 x4 H2) (B3 P N2 x0 x3 x4 H2)))
theorem q5 (P : PT) (N2 : NTy k1 Pr) : QB Try.prog T0 19 o5 (cnd 13 (En 19 k1 (B4 P N2)) (En 19 k1 (B3 P N2))) k1 (B5 P N2) := fun _ _ _ _ _  => by kernel_rfl
noncomputable def o6 := ob Try.f82 [.r,.r,.l,.r,.l,.l,.l,.l]
def B6 (P : PT) (N2 : NTy k1 Pr) (x0 : Int) (x3 : Value) (x4 : Int) (H : AHeap) : Prop :=
  ((0 : Int) ≤ x4) ∧ (pif ((Int.fdiv x0 (2 ^ (min (Int.toNat x4) 64)) : Int) != 0) (B5 P N2 x0 x3 x4 H) (B1 P x3 H))
theorem q6 (P : PT) (N2 : NTy k1 Pr) : QB Try.prog T0 19 o6 (cnd 8 (En 19 k1 (B5 P N2)) (En 19 k0 (B1 P))) k1 (B6 P N2) := fun _ _ _ _ _  => by kernel_rfl
def L2 (P : PT) (x0 : Int) (x3 : Value) (x4 : Int) (H : AHeap) : Prop :=
  ∃ (I : NTy k1 Pr) (μ : NTy k1 (AHeap → Nat)), I x0 x3 x4 H ∧ ∀ y0 y3 y4 G, I y0 y3 y4 G → B6 P (fun z0 z3 z4 G' => I z0 z3 z4 G' ∧ μ z0 z3 z4 G' < μ y0 y3 y4 G) y0 y3 y4 G
theorem l2 (P : PT) : LQ k1 (L2 P) (B6 P) := fun ⟨_,_,_,_⟩ _ ⟨I, μ, h0, hI⟩ => ⟨apT _ I, apT _ μ, h0, fun ⟨_,_,_,_⟩ _ h => hI _ _ _ _  h⟩
abbrev k2 : Sk := [(0,.i .u64),(3,.v)]
noncomputable def o7 := ob Try.f82 [.r,.r,.l,.l]
def B7 (P : PT) (x0 : Int) (x3 : Value) (H : AHeap) : Prop :=
  L2 P x0 x3 0 H
theorem q7 (P : PT) : QB Try.prog T0 19 o7 (En 19 k1 (L2 P)) k2 (B7 P) := fun _ _ _ _  => by kernel_rfl
abbrev k3 : Sk := [(0,.i .u64)]
noncomputable def o8 := ob Try.f82 [.r,.l]
def B8 (P : PT) (x0 : Int) (H : AHeap) : Prop :=
  B7 P x0 (Value.slice none 0 0) H
theorem q8 (P : PT) : QB Try.prog T0 19 o8 (En 19 k2 (B7 P)) k3 (B8 P) := fun _ _ _  => by kernel_rfl
noncomputable def o9 := ob Try.f82 [.l]
def B9 (P : PT) (x0 : Int) (H : AHeap) : Prop :=
  B8 P x0 H
theorem q9 (P : PT) : QB Try.prog T0 19 o9 (En 19 k3 (B8 P)) k3 (B9 P) := fun _ _ _  => by kernel_rfl
noncomputable def code : Code := (.seq (.region 0 ⟨o9⟩ false) (.seq (.region 1 ⟨o8⟩ false) (.seq (.seq (.region 2 ⟨o7⟩ false) (.block 0 (.loop (.seq (.seq (.region 3 ⟨o6⟩ false) (.cond (.tmp 8) .skip (.exit 0))) (.seq (.block 1 (.seq (.region 5 ⟨o5⟩ false) (.cond (.tmp 13) (.region 6 ⟨o4⟩ false) .skip))) (.region 4 ⟨o3⟩ false)))))) (.seq (.region 7 ⟨o1⟩ false) .ret))))
theorem body : Try.f82.body = some code := by kernel_rfl
theorem main (P : PT) : ∀ env H, (En 19 k3 (B9 P)) env H → AW Try.prog T0 code env H (mkQ (ret P) (fun _ _ _ => False) (ret P)) :=
  (r_seq (rB T0_ok (q9 P)) (r_seq (rB T0_ok (q8 P)) (r_seq (r_seq (rB T0_ok (q7 P)) (r_block (rL (l2 P) (fun N2 => (r_seq (r_seq (rB T0_ok (q6 P N2)) (r_cond rfl r_skip (r_exit (fun _ _ h => h)))) (r_seq (r_block (r_seq (rB T0_ok (q5 P N2)) (r_cond rfl (rB T0_ok (q4 P N2)) r_skip))) (rB T0_ok (q3 P N2)))))))) (r_seq (rB T0_ok (q1 P)) r_ret))))
theorem ac (P : PT) (x0 : Int) (H : AHeap) (h : B9 P x0 H) : AC Try.prog T0 82 [(Value.int .u64 x0)] H P :=
  r_fn T0_ok (c := code) (n := 19) Try.func82 body (by kernel_rfl) (main P) (En_mk (x0, ()) (by kernel_rfl) ⟨by kernel_rfl, trivial⟩ h)

end F82
-- loop.example/g01329/laws.eqEdge
namespace F83
noncomputable def ret (P : PT) : EP := retE T0 17 Try.f83 P
abbrev k0 : Sk := []
noncomputable def o1 := ob Try.f83 [.r,.r,.l]
def B1 (P : PT) (H : AHeap) : Prop :=
  P (Value.bool true) H
theorem q1 (P : PT) : QB Try.prog T0 17 o1 (ret P) k0 (B1 P) := fun _ _  => by kernel_rfl
abbrev k1 : Sk := [(2,.x),(3,.x),(5,.i .i64)]
noncomputable def o3 := ob Try.f83 [.r,.l,.r,.l,.l,.r,.r]
def B3 (P : PT) (N2 : NTy k1 Pr) (x2 x3 : Nat) (x5 : Int) (H : AHeap) : Prop :=
  N2 x2 x3 (IntKind.i64.wrap (x5 + 1)) H
theorem q3 (P : PT) (N2 : NTy k1 Pr) : QB Try.prog T0 17 o3 (En 17 k1 N2) k1 (B3 P N2) := fun _ _ _ _ _  => by kernel_rfl
noncomputable def o4 := ob Try.f83 [.r,.l,.r,.l,.l,.r,.l,.l,.r,.l,.l]
def B4 (P : PT) (N2 : NTy k1 Pr) (H : AHeap) : Prop :=
  P (Value.bool false) H
theorem q4 (P : PT) (N2 : NTy k1 Pr) : QB Try.prog T0 17 o4 (ret P) k0 (B4 P N2) := fun _ _  => by kernel_rfl
noncomputable def o5 := ob Try.f83 [.r,.l,.r,.l,.l,.r,.l,.l,.l]
def B5 (P : PT) (N2 : NTy k1 Pr) (x2 x3 : Nat) (x5 : Int) (H : AHeap) : Prop :=
  bndK x5 2 (ldI .i64 H x2 (0 + Int.toNat x5 * 1) (fun v1 => bndK x5 2 (ldI .i64 H x3 (0 + Int.toNat x5 * 1) (fun v2 => pif ((v1 : Int) != v2) (B4 P N2 H) (B3 P N2 x2 x3 x5 H)))))
theorem q5 (P : PT) (N2 : NTy k1 Pr) : QD Try.prog T0 17 o5 [(0, false), (1, false), (2, false), (3, false), (4, false), (5, false), (6, false)] (cnd 16 (En 17 k0 (B4 P N2)) (En 17 k1 (B3 P N2))) k1 (B5 P N2) := fun _ _ _ _ _  => by kernel_rfl
noncomputable def o6 := ob Try.f83 [.r,.l,.r,.l,.l,.l,.l]
def B6 (P : PT) (N2 : NTy k1 Pr) (x2 x3 : Nat) (x5 : Int) (H : AHeap) : Prop :=
  pif (decide ((x5 : Int) < 2)) (B5 P N2 x2 x3 x5 H) (B1 P H)
theorem q6 (P : PT) (N2 : NTy k1 Pr) : QB Try.prog T0 17 o6 (cnd 7 (En 17 k1 (B5 P N2)) (En 17 k0 (B1 P))) k1 (B6 P N2) := fun _ _ _ _ _  => by kernel_rfl
def L2 (P : PT) (x2 x3 : Nat) (x5 : Int) (H : AHeap) : Prop :=
  ∃ (I : NTy k1 Pr) (μ : NTy k1 (AHeap → Nat)), I x2 x3 x5 H ∧ ∀ y2 y3 y5 G, I y2 y3 y5 G → B6 P (fun z2 z3 z5 G' => I z2 z3 z5 G' ∧ μ z2 z3 z5 G' < μ y2 y3 y5 G) y2 y3 y5 G
theorem l2 (P : PT) : LQ k1 (L2 P) (B6 P) := fun ⟨_,_,_,_⟩ _ ⟨I, μ, h0, hI⟩ => ⟨apT _ I, apT _ μ, h0, fun ⟨_,_,_,_⟩ _ h => hI _ _ _ _  h⟩
abbrev k2 : Sk := [(2,.x),(3,.x)]
noncomputable def o7 := ob Try.f83 [.r,.l,.l]
def B7 (P : PT) (x2 x3 : Nat) (H : AHeap) : Prop :=
  L2 P x2 x3 0 H
theorem q7 (P : PT) : QB Try.prog T0 17 o7 (En 17 k1 (L2 P)) k2 (B7 P) := fun _ _ _ _  => by kernel_rfl
abbrev k3 : Sk := [(0,.g [.i,.i]),(1,.g [.i,.i])]
noncomputable def o8 := ob Try.f83 [.l]
def B8 (P : PT) (x0a x0b x1a x1b : Int) (H : AHeap) : Prop :=
  newK H [(Value.int .i64 x0a), (Value.int .i64 x0b)] 67 (fun b1 H2 => newK H2 [(Value.int .i64 x1a), (Value.int .i64 x1b)] 67 (fun b3 H4 => B7 P b1 b3 H4))
theorem q8 (P : PT) : QB Try.prog T0 17 o8 (En 17 k2 (B7 P)) k3 (B8 P) := fun _ _ _ _ _ _  => by kernel_rfl
noncomputable def code : Code := (.seq (.region 0 ⟨o8⟩ false) (.seq (.seq (.region 1 ⟨o7⟩ false) (.block 0 (.loop (.seq (.seq (.region 2 ⟨o6⟩ false) (.cond (.tmp 7) .skip (.exit 0))) (.seq (.block 1 (.seq (.region 4 ⟨o5⟩ true) (.cond (.tmp 16) (.seq (.region 5 ⟨o4⟩ false) .ret) .skip))) (.region 3 ⟨o3⟩ false)))))) (.seq (.region 6 ⟨o1⟩ false) .ret)))
theorem body : Try.f83.body = some code := by kernel_rfl
theorem main (P : PT) : ∀ env H, (En 17 k3 (B8 P)) env H → AW Try.prog T0 code env H (mkQ (ret P) (fun _ _ _ => False) (ret P)) :=
  (r_seq (rB T0_ok (q8 P)) (r_seq (r_seq (rB T0_ok (q7 P)) (r_block (rL (l2 P) (fun N2 => (r_seq (r_seq (rB T0_ok (q6 P N2)) (r_cond rfl r_skip (r_exit (fun _ _ h => h)))) (r_seq (r_block (r_seq (rD T0_ok mixed [(0, false), (1, false), (2, false), (3, false), (4, false), (5, false), (6, false)] (by kernel_rfl) (q5 P N2)) (r_cond rfl (r_seq (rB T0_ok (q4 P N2)) r_ret) r_skip))) (rB T0_ok (q3 P N2)))))))) (r_seq (rB T0_ok (q1 P)) r_ret)))
theorem ac (P : PT) (x0a x0b x1a x1b : Int) (H : AHeap) (h : B8 P x0a x0b x1a x1b H) : AC Try.prog T0 83 [(Value.agg ⟨[(Value.int .i64 x0a), (Value.int .i64 x0b)]⟩), (Value.agg ⟨[(Value.int .i64 x1a), (Value.int .i64 x1b)]⟩)] H P :=
  r_fn T0_ok (c := code) (n := 17) Try.func83 body (by kernel_rfl) (main P) (En_mk (x0a, x0b, x1a, x1b, ()) (by kernel_rfl) ⟨by kernel_rfl, by kernel_rfl, trivial⟩ h)

end F83
-- (loop.example/g01329/impl.Graph).isCycle
namespace F91
noncomputable def ret (P : PT) : EP := retE T0 15 Try.f91 P
abbrev k0 : Sk := [(1,.i .u64),(2,.x)]
noncomputable def o1 := ob Try.f91 [.r,.l]
def B1 (P : PT) (x1 : Int) (x2 : Nat) (H : AHeap) : Prop :=
  ldI .i64 H x2 0 (fun v1 => ld1 H x2 1 (fun v2 => AC Try.prog T0 142 [(Value.agg ⟨[(Value.int .i64 v1), v2]⟩), (Value.int .u64 x1)] H (fun v3 H4 => asB v3 (fun v5 => pif v5 (ldI .i64 H4 x2 0 (fun v6 => ld1 H4 x2 1 (fun v7 => AC Try.prog T0 113 [(Value.agg ⟨[(Value.int .i64 v6), v7]⟩), (Value.int .u64 x1)] H4 (fun v8 H9 => lenK v8 (fun n11 => P (Value.bool (((n11 : Int) : Int) == 1)) H9))))) (P (Value.bool false) H4)))))
theorem q1 (P : PT) : QB Try.prog T0 15 o1 (ret P) k0 (B1 P) := fun _ _ _ _  => by kernel_rfl
abbrev k1 : Sk := [(0,.g [.i,.v]),(1,.i .u64)]
noncomputable def o2 := ob Try.f91 [.l]
def B2 (P : PT) (x0a : Int) (x0b : Value) (x1 : Int) (H : AHeap) : Prop :=
  newK H [(Value.int .i64 x0a), x0b] 31 (fun b1 H2 => B1 P x1 b1 H2)
theorem q2 (P : PT) : QB Try.prog T0 15 o2 (En 15 k0 (B1 P)) k1 (B2 P) := fun _ _ _ _ _  => by kernel_rfl
noncomputable def code : Code := (.seq (.region 0 ⟨o2⟩ false) (.seq (.region 1 ⟨o1⟩ false) .ret))
theorem body : Try.f91.body = some code := by kernel_rfl
theorem main (P : PT) : ∀ env H, (En 15 k1 (B2 P)) env H → AW Try.prog T0 code env H (mkQ (ret P) (fun _ _ _ => False) (ret P)) :=
  (r_seq (rB T0_ok (q2 P)) (r_seq (rB T0_ok (q1 P)) r_ret))
theorem ac (P : PT) (x0a : Int) (x0b : Value) (x1 : Int) (H : AHeap) (h : B2 P x0a x0b x1 H) : AC Try.prog T0 91 [(Value.agg ⟨[(Value.int .i64 x0a), x0b]⟩), (Value.int .u64 x1)] H P :=
  r_fn T0_ok (c := code) (n := 15) Try.func91 body (by kernel_rfl) (main P) (En_mk (x0a, x0b, x1, ()) (by kernel_rfl) ⟨by kernel_rfl, by kernel_rfl, trivial⟩ h)

end F91
-- loop.example/g01329/impl.areAll[int]
namespace F92
noncomputable def ret (P : PT) : EP := retE T0 9 Try.f92 P
abbrev k0 : Sk := [(0,.v),(3,.x)]
noncomputable def o1 := ob Try.f92 [.r,.l]
def B1 (P : PT) (x0 : Value) (x3 : Nat) (H : AHeap) : Prop :=
  AC Try.prog T0 143 [x0, (Value.func (.func 144) ⟨[]⟩ ⟨[(Value.pointer (some ⟨x3, 0, none⟩))]⟩)] H (fun v1 H2 => asB v1 (fun v3 => P (Value.bool (!v3)) H2))
theorem q1 (P : PT) : QB Try.prog T0 9 o1 (ret P) k0 (B1 P) := fun _ _ _ _  => by kernel_rfl
abbrev k1 : Sk := [(0,.v),(1,.v)]
noncomputable def o2 := ob Try.f92 [.l]
def B2 (P : PT) (x0 x1 : Value) (H : AHeap) : Prop :=
  pif (Value.oneCell' x1) (newK H [x1] 113 (fun b1 H2 => B1 P x0 b1 H2)) False
theorem q2 (P : PT) : QB Try.prog T0 9 o2 (En 9 k0 (B1 P)) k1 (B2 P) := fun _ _ _ _  => by kernel_rfl
noncomputable def code : Code := (.seq (.region 0 ⟨o2⟩ false) (.seq (.region 1 ⟨o1⟩ false) .ret))
theorem body : Try.f92.body = some code := by kernel_rfl
theorem main (P : PT) : ∀ env H, (En 9 k1 (B2 P)) env H → AW Try.prog T0 code env H (mkQ (ret P) (fun _ _ _ => False) (ret P)) :=
  (r_seq (rB T0_ok (q2 P)) (r_seq (rB T0_ok (q1 P)) r_ret))
theorem ac (P : PT) (x0 x1 : Value) (H : AHeap) (h : B2 P x0 x1 H) : AC Try.prog T0 92 [x0, x1] H P :=
  r_fn T0_ok (c := code) (n := 9) Try.func92 body (by kernel_rfl) (main P) (En_mk (x0, x1, ()) (by kernel_rfl) ⟨by kernel_rfl, by kernel_rfl, trivial⟩ h)

end F92
-- (loop.example/g01329/impl.Graph).at
namespace F95
noncomputable def ret (P : PT) : EP := retE T0 25 Try.f95 P
abbrev k0 : Sk := [(5,.v)]
noncomputable def o1 := ob Try.f95 [.r,.r,.r,.l]
def B1 (P : PT) (x5 : Value) (H : AHeap) : Prop :=
  P x5 H
theorem q1 (P : PT) : QB Try.prog T0 25 o1 (ret P) k0 (B1 P) := fun _ _ _  => by kernel_rfl
abbrev k1 : Sk := [(1,.i .i64),(5,.v),(9,.v),(10,.i .i64),(11,.i .i64)]
noncomputable def o3 := ob Try.f95 [.r,.r,.l,.r,.l,.l,.r,.r,.r]
def B3 (P : PT) (N2 : NTy k1 Pr) (x1 : Int) (x5 x9 : Value) (x10 x11 : Int) (H : AHeap) : Prop :=
  N2 x1 x5 x9 x10 (IntKind.i64.wrap (x11 + 1)) H
theorem q3 (P : PT) (N2 : NTy k1 Pr) : QB Try.prog T0 25 o3 (En 25 k1 N2) k1 (B3 P N2) := fun _ _ _ _ _ _ _  => by kernel_rfl
abbrev k2 : Sk := [(1,.i .i64),(5,.v),(6,.i .i64),(9,.v),(10,.i .i64),(11,.i .i64)]
noncomputable def o4 := ob Try.f95 [.r,.r,.l,.r,.l,.l,.r,.r,.l,.l,.r,.r,.l]
def B4 (P : PT) (N2 : NTy k1 Pr) (x1 : Int) (x5 : Value) (x6 : Int) (x9 : Value) (x10 x11 : Int) (H : AHeap) : Prop :=
  newK H [(Value.int .i64 x6)] 2 (fun b1 H2 => apK T0 2 H2 x5 (Value.slice (some ⟨b1, 0, none⟩) 1 (1 + 1)) (fun v3 H4 => B3 P N2 x1 v3 x9 x10 x11 H4))
theorem q4 (P : PT) (N2 : NTy k1 Pr) : QB Try.prog T0 25 o4 (En 25 k1 (B3 P N2)) k2 (B4 P N2) := fun _ _ _ _ _ _ _ _  => by kernel_rfl
abbrev k3 : Sk := [(1,.i .i64),(5,.v),(6,.i .i64),(7,.x),(9,.v),(10,.i .i64),(11,.i .i64)]
noncomputable def o5 := ob Try.f95 [.r,.r,.l,.r,.l,.l,.r,.r,.l,.l,.r,.l]
def B5 (P : PT) (N2 : NTy k1 Pr) (x1 : Int) (x5 : Value) (x6 : Int) (x7 : Nat) (x9 : Value) (x10 x11 : Int) (H : AHeap) : Prop :=
  ldI .i64 H x7 0 (fun v1 => ldI .i64 H x7 1 (fun v2 => AC Try.prog T0 145 [(Value.agg ⟨[(Value.int .i64 v1), (Value.int .i64 v2)]⟩), (Value.int .i64 x1)] H (fun v3 H4 => asB v3 (fun v5 => pif v5 (B4 P N2 x1 x5 x6 x9 x10 x11 H4) (B3 P N2 x1 x5 x9 x10 x11 H4)))))
theorem q5 (P : PT) (N2 : NTy k1 Pr) : QB Try.prog T0 25 o5 (cnd 18 (En 25 k2 (B4 P N2)) (En 25 k1 (B3 P N2))) k3 (B5 P N2) := fun _ _ _ _ _ _ _ _ _  => by kernel_rfl
noncomputable def o6 := ob Try.f95 [.r,.r,.l,.r,.l,.l,.r,.r,.l,.l,.l]
def B6 (P : PT) (N2 : NTy k1 Pr) (x1 : Int) (x5 x9 : Value) (x10 x11 : Int) (H : AHeap) : Prop :=
  idxK x9 x11 2 (fun b1 o2 => ldI .i64 H b1 o2 (fun v3 => ldI .i64 H b1 (o2 + 1) (fun v4 => newK H [(Value.int .i64 0), (Value.int .i64 0)] 67 (fun b5 H6 => stK H6 b5 0 [(Value.int .i64 v3), (Value.int .i64 v4)] (fun H7 => B5 P N2 x1 x5 x11 b5 x9 x10 x11 H7)))))
theorem q6 (P : PT) (N2 : NTy k1 Pr) : QB Try.prog T0 25 o6 (En 25 k3 (B5 P N2)) k1 (B6 P N2) := fun _ _ _ _ _ _ _  => by kernel_rfl
noncomputable def o7 := ob Try.f95 [.r,.r,.l,.r,.l,.l,.l]
def B7 (P : PT) (N2 : NTy k1 Pr) (x1 : Int) (x5 x9 : Value) (x10 x11 : Int) (H : AHeap) : Prop :=
  pif (decide ((x11 : Int) < x10)) (B6 P N2 x1 x5 x9 x10 x11 H) (B1 P x5 H)
theorem q7 (P : PT) (N2 : NTy k1 Pr) : QB Try.prog T0 25 o7 (cnd 12 (En 25 k1 (B6 P N2)) (En 25 k0 (B1 P))) k1 (B7 P N2) := fun _ _ _ _ _ _ _  => by kernel_rfl
def L2 (P : PT) (x1 : Int) (x5 x9 : Value) (x10 x11 : Int) (H : AHeap) : Prop :=
  ∃ (I : NTy k1 Pr) (μ : NTy k1 (AHeap → Nat)), I x1 x5 x9 x10 x11 H ∧ ∀ y1 y5 y9 y10 y11 G, I y1 y5 y9 y10 y11 G → B7 P (fun z1 z5 z9 z10 z11 G' => I z1 z5 z9 z10 z11 G' ∧ μ z1 z5 z9 z10 z11 G' < μ y1 y5 y9 y10 y11 G) y1 y5 y9 y10 y11 G
theorem l2 (P : PT) : LQ k1 (L2 P) (B7 P) := fun ⟨_,_,_,_,_,_⟩ _ ⟨I, μ, h0, hI⟩ => ⟨apT _ I, apT _ μ, h0, fun ⟨_,_,_,_,_,_⟩ _ h => hI _ _ _ _ _ _  h⟩
abbrev k4 : Sk := [(1,.i .i64),(2,.x),(5,.v)]
noncomputable def o8 := ob Try.f95 [.r,.r,.l,.l]
def B8 (P : PT) (x1 : Int) (x2 : Nat) (x5 : Value) (H : AHeap) : Prop :=
  ld1 H x2 1 (fun v1 => lenK v1 (fun n2 => L2 P x1 x5 v1 (n2 : Int) 0 H))
theorem q8 (P : PT) : QB Try.prog T0 25 o8 (En 25 k1 (L2 P)) k4 (B8 P) := fun _ _ _ _ _  => by kernel_rfl
abbrev k5 : Sk := [(1,.i .i64),(2,.x)]
noncomputable def o9 := ob Try.f95 [.r,.l]
def B9 (P : PT) (x1 : Int) (x2 : Nat) (H : AHeap) : Prop :=
  B8 P x1 x2 (Value.slice none 0 0) H
theorem q9 (P : PT) : QB Try.prog T0 25 o9 (En 25 k4 (B8 P)) k5 (B9 P) := fun _ _ _ _  => by kernel_rfl
abbrev k6 : Sk := [(0,.g [.i,.v]),(1,.i .i64)]
noncomputable def o10 := ob Try.f95 [.l]
def B10 (P : PT) (x0a : Int) (x0b : Value) (x1 : Int) (H : AHeap) : Prop :=
  newK H [(Value.int .i64 x0a), x0b] 31 (fun b1 H2 => B9 P x1 b1 H2)
theorem q10 (P : PT) : QB Try.prog T0 25 o10 (En 25 k5 (B9 P)) k6 (B10 P) := fun _ _ _ _ _  => by kernel_rfl
noncomputable def code : Code := (.seq (.region 0 ⟨o10⟩ false) (.seq (.region 1 ⟨o9⟩ false) (.seq (.seq (.region 2 ⟨o8⟩ false) (.block 0 (.loop (.seq (.region 3 ⟨o7⟩ false) (.seq (.cond (.tmp 12) .skip (.exit 0)) (.seq (.block 1 (.seq (.region 4 ⟨o6⟩ false) (.seq (.region 5 ⟨o5⟩ false) (.cond (.tmp 18) (.region 6 ⟨o4⟩ false) .skip)))) (.region 7 ⟨o3⟩ false))))))) (.seq (.region 8 ⟨o1⟩ false) .ret))))
theorem body : Try.f95.body = some code := by kernel_rfl
theorem main (P : PT) : ∀ env H, (En 25 k6 (B10 P)) env H → AW Try.prog T0 code env H (mkQ (ret P) (fun _ _ _ => False) (ret P)) :=
  (r_seq (rB T0_ok (q10 P)) (r_seq (rB T0_ok (q9 P)) (r_seq (r_seq (rB T0_ok (q8 P)) (r_block (rL (l2 P) (fun N2 => (r_seq (rB T0_ok (q7 P N2)) (r_seq (r_cond rfl r_skip (r_exit (fun _ _ h => h))) (r_seq (r_block (r_seq (rB T0_ok (q6 P N2)) (r_seq (rB T0_ok (q5 P N2)) (r_cond rfl (rB T0_ok (q4 P N2)) r_skip)))) (rB T0_ok (q3 P N2))))))))) (r_seq (rB T0_ok (q1 P)) r_ret))))
theorem ac (P : PT) (x0a : Int) (x0b : Value) (x1 : Int) (H : AHeap) (h : B10 P x0a x0b x1 H) : AC Try.prog T0 95 [(Value.agg ⟨[(Value.int .i64 x0a), x0b]⟩), (Value.int .i64 x1)] H P :=
  r_fn T0_ok (c := code) (n := 25) Try.func95 body (by kernel_rfl) (main P) (En_mk (x0a, x0b, x1, ()) (by kernel_rfl) ⟨by kernel_rfl, by kernel_rfl, trivial⟩ h)

end F95
-- loop.example/g01329/spec.l01At
namespace F110
noncomputable def ret (P : PT) : EP := retE T0 38 Try.f110 P
abbrev k0 : Sk := [(5,.v)]
noncomputable def o1 := ob Try.f110 [.r,.r,.r,.l]
def B1 (P : PT) (x5 : Value) (H : AHeap) : Prop :=
  P x5 H
theorem q1 (P : PT) : QB Try.prog T0 38 o1 (ret P) k0 (B1 P) := fun _ _ _  => by kernel_rfl
abbrev k1 : Sk := [(1,.i .i64),(2,.x),(5,.v),(6,.i .i64)]
noncomputable def o3 := ob Try.f110 [.r,.r,.l,.r,.l,.l,.r,.r]
def B3 (P : PT) (N2 : NTy k1 Pr) (x1 : Int) (x2 : Nat) (x5 : Value) (x6 : Int) (H : AHeap) : Prop :=
  N2 x1 x2 x5 (IntKind.i64.wrap (x6 + 1)) H
theorem q3 (P : PT) (N2 : NTy k1 Pr) : QB Try.prog T0 38 o3 (En 38 k1 N2) k1 (B3 P N2) := fun _ _ _ _ _ _  => by kernel_rfl
noncomputable def o4 := ob Try.f110 [.r,.r,.l,.r,.l,.l,.r,.l,.l,.r,.l]
def B4 (P : PT) (N2 : NTy k1 Pr) (x1 : Int) (x2 : Nat) (x5 : Value) (x6 : Int) (H : AHeap) : Prop :=
  newK H [(Value.int .i64 x6)] 2 (fun b1 H2 => apK T0 2 H2 x5 (Value.slice (some ⟨b1, 0, none⟩) 1 (1 + 1)) (fun v3 H4 => B3 P N2 x1 x2 v3 x6 H4))
theorem q4 (P : PT) (N2 : NTy k1 Pr) : QB Try.prog T0 38 o4 (En 38 k1 (B3 P N2)) k1 (B4 P N2) := fun _ _ _ _ _ _  => by kernel_rfl
noncomputable def o5 := ob Try.f110 [.r,.r,.l,.r,.l,.l,.r,.l,.l,.l]
def B5 (P : PT) (N2 : NTy k1 Pr) (x1 : Int) (x2 : Nat) (x5 : Value) (x6 : Int) (H : AHeap) : Prop :=
  ld1 H x2 1 (fun v1 => idxK v1 x6 2 (fun b2 o3 => ldI .i64 H b2 o3 (fun v4 => pif ((v4 : Int) == x1) (B4 P N2 x1 x2 x5 x6 H) (ld1 H x2 1 (fun v5 => idxK v5 x6 2 (fun b6 o7 => ldI .i64 H b6 (o7 + 1) (fun v8 => pif ((v8 : Int) == x1) (B4 P N2 x1 x2 x5 x6 H) (B3 P N2 x1 x2 x5 x6 H))))))))
theorem q5 (P : PT) (N2 : NTy k1 Pr) : QB Try.prog T0 38 o5 (cnd 32 (En 38 k1 (B4 P N2)) (En 38 k1 (B3 P N2))) k1 (B5 P N2) := fun _ _ _ _ _ _  => by kernel_rfl
noncomputable def o6 := ob Try.f110 [.r,.r,.l,.r,.l,.l,.l,.l]
def B6 (P : PT) (N2 : NTy k1 Pr) (x1 : Int) (x2 : Nat) (x5 : Value) (x6 : Int) (H : AHeap) : Prop :=
  ld1 H x2 1 (fun v1 => lenK v1 (fun n2 => pif (decide ((x6 : Int) < (n2 : Int))) (B5 P N2 x1 x2 x5 x6 H) (B1 P x5 H)))
theorem q6 (P : PT) (N2 : NTy k1 Pr) : QB Try.prog T0 38 o6 (cnd 12 (En 38 k1 (B5 P N2)) (En 38 k0 (B1 P))) k1 (B6 P N2) := fun _ _ _ _ _ _  => by kernel_rfl
def L2 (P : PT) (x1 : Int) (x2 : Nat) (x5 : Value) (x6 : Int) (H : AHeap) : Prop :=
  ∃ (I : NTy k1 Pr) (μ : NTy k1 (AHeap → Nat)), I x1 x2 x5 x6 H ∧ ∀ y1 y2 y5 y6 G, I y1 y2 y5 y6 G → B6 P (fun z1 z2 z5 z6 G' => I z1 z2 z5 z6 G' ∧ μ z1 z2 z5 z6 G' < μ y1 y2 y5 y6 G) y1 y2 y5 y6 G
theorem l2 (P : PT) : LQ k1 (L2 P) (B6 P) := fun ⟨_,_,_,_,_⟩ _ ⟨I, μ, h0, hI⟩ => ⟨apT _ I, apT _ μ, h0, fun ⟨_,_,_,_,_⟩ _ h => hI _ _ _ _ _  h⟩
abbrev k2 : Sk := [(1,.i .i64),(2,.x),(5,.v)]
noncomputable def o7 := ob Try.f110 [.r,.r,.l,.l]
def B7 (P : PT) (x1 : Int) (x2 : Nat) (x5 : Value) (H : AHeap) : Prop :=
  L2 P x1 x2 x5 0 H
theorem q7 (P : PT) : QB Try.prog T0 38 o7 (En 38 k1 (L2 P)) k2 (B7 P) := fun _ _ _ _ _  => by kernel_rfl
abbrev k3 : Sk := [(1,.i .i64),(2,.x)]
noncomputable def o8 := ob Try.f110 [.r,.l]
def B8 (P : PT) (x1 : Int) (x2 : Nat) (H : AHeap) : Prop :=
  newK H [] 2 (fun b1 H2 => B7 P x1 x2 (Value.slice (some ⟨b1, 0, none⟩) 0 (0 + 1)) H2)
theorem q8 (P : PT) : QB Try.prog T0 38 o8 (En 38 k2 (B7 P)) k3 (B8 P) := fun _ _ _ _  => by kernel_rfl
abbrev k4 : Sk := [(0,.g [.i,.v]),(1,.i .i64)]
noncomputable def o9 := ob Try.f110 [.l]
def B9 (P : PT) (x0a : Int) (x0b : Value) (x1 : Int) (H : AHeap) : Prop :=
  newK H [(Value.int .i64 x0a), x0b] 31 (fun b1 H2 => B8 P x1 b1 H2)
theorem q9 (P : PT) : QB Try.prog T0 38 o9 (En 38 k3 (B8 P)) k4 (B9 P) := fun _ _ _ _ _  => by kernel_rfl
noncomputable def code : Code := (.seq (.region 0 ⟨o9⟩ false) (.seq (.region 1 ⟨o8⟩ false) (.seq (.seq (.region 2 ⟨o7⟩ false) (.block 0 (.loop (.seq (.seq (.region 3 ⟨o6⟩ false) (.cond (.tmp 12) .skip (.exit 0))) (.seq (.block 1 (.seq (.region 5 ⟨o5⟩ false) (.cond (.tmp 32) (.region 6 ⟨o4⟩ false) .skip))) (.region 4 ⟨o3⟩ false)))))) (.seq (.region 7 ⟨o1⟩ false) .ret))))
theorem body : Try.f110.body = some code := by kernel_rfl
theorem main (P : PT) : ∀ env H, (En 38 k4 (B9 P)) env H → AW Try.prog T0 code env H (mkQ (ret P) (fun _ _ _ => False) (ret P)) :=
  (r_seq (rB T0_ok (q9 P)) (r_seq (rB T0_ok (q8 P)) (r_seq (r_seq (rB T0_ok (q7 P)) (r_block (rL (l2 P) (fun N2 => (r_seq (r_seq (rB T0_ok (q6 P N2)) (r_cond rfl r_skip (r_exit (fun _ _ h => h)))) (r_seq (r_block (r_seq (rB T0_ok (q5 P N2)) (r_cond rfl (rB T0_ok (q4 P N2)) r_skip))) (rB T0_ok (q3 P N2)))))))) (r_seq (rB T0_ok (q1 P)) r_ret))))
theorem ac (P : PT) (x0a : Int) (x0b : Value) (x1 : Int) (H : AHeap) (h : B9 P x0a x0b x1 H) : AC Try.prog T0 110 [(Value.agg ⟨[(Value.int .i64 x0a), x0b]⟩), (Value.int .i64 x1)] H P :=
  r_fn T0_ok (c := code) (n := 38) Try.func110 body (by kernel_rfl) (main P) (En_mk (x0a, x0b, x1, ()) (by kernel_rfl) ⟨by kernel_rfl, by kernel_rfl, trivial⟩ h)

end F110
-- loop.example/g01329/spec.l01Other
namespace F111
noncomputable def ret (P : PT) : EP := retE T0 22 Try.f111 P
abbrev k0 : Sk := [(1,.i .i64),(2,.i .i64),(3,.x)]
noncomputable def o1 := ob Try.f111 [.r,.l]
def B1 (P : PT) (x1 x2 : Int) (x3 : Nat) (H : AHeap) : Prop :=
  ld1 H x3 1 (fun v1 => idxK v1 x1 2 (fun b2 o3 => ldI .i64 H b2 o3 (fun v4 => ld1 H x3 1 (fun v5 => idxK v5 x1 2 (fun b6 o7 => ldI .i64 H b6 (o7 + 1) (fun v8 => P (Value.int .i64 (IntKind.i64.wrap ((IntKind.i64.wrap (v4 + v8)) - x2))) H))))))
theorem q1 (P : PT) : QD Try.prog T0 22 o1 [(0, false), (1, false), (2, false), (3, false), (4, false), (5, false), (6, false), (7, false), (8, false), (9, false), (10, false), (11, false), (12, false), (13, false), (14, false), (15, false)] (ret P) k0 (B1 P) := fun _ _ _ _ _  => by kernel_rfl
abbrev k1 : Sk := [(0,.g [.i,.v]),(1,.i .i64),(2,.i .i64)]
noncomputable def o2 := ob Try.f111 [.l]
def B2 (P : PT) (x0a : Int) (x0b : Value) (x1 x2 : Int) (H : AHeap) : Prop :=
  newK H [(Value.int .i64 x0a), x0b] 31 (fun b1 H2 => B1 P x1 x2 b1 H2)
theorem q2 (P : PT) : QB Try.prog T0 22 o2 (En 22 k0 (B1 P)) k1 (B2 P) := fun _ _ _ _ _ _  => by kernel_rfl
noncomputable def code : Code := (.seq (.region 0 ⟨o2⟩ false) (.seq (.region 1 ⟨o1⟩ true) .ret))
theorem body : Try.f111.body = some code := by kernel_rfl
theorem main (P : PT) : ∀ env H, (En 22 k1 (B2 P)) env H → AW Try.prog T0 code env H (mkQ (ret P) (fun _ _ _ => False) (ret P)) :=
  (r_seq (rB T0_ok (q2 P)) (r_seq (rD T0_ok mixed [(0, false), (1, false), (2, false), (3, false), (4, false), (5, false), (6, false), (7, false), (8, false), (9, false), (10, false), (11, false), (12, false), (13, false), (14, false), (15, false)] (by kernel_rfl) (q1 P)) r_ret))
theorem ac (P : PT) (x0a : Int) (x0b : Value) (x1 x2 : Int) (H : AHeap) (h : B2 P x0a x0b x1 x2 H) : AC Try.prog T0 111 [(Value.agg ⟨[(Value.int .i64 x0a), x0b]⟩), (Value.int .i64 x1), (Value.int .i64 x2)] H P :=
  r_fn T0_ok (c := code) (n := 22) Try.func111 body (by kernel_rfl) (main P) (En_mk (x0a, x0b, x1, x2, ()) (by kernel_rfl) ⟨by kernel_rfl, by kernel_rfl, by kernel_rfl, trivial⟩ h)

end F111
-- (loop.example/g01329/impl.Graph).cycles
namespace F113
noncomputable def ret (P : PT) : EP := retE T0 81 Try.f113 P
abbrev k0 : Sk := [(5,.v)]
noncomputable def o1 := ob Try.f113 [.r,.r,.r,.l]
def B1 (P : PT) (x5 : Value) (H : AHeap) : Prop :=
  P x5 H
theorem q1 (P : PT) : QB Try.prog T0 81 o1 (ret P) k0 (B1 P) := fun _ _ _  => by kernel_rfl
abbrev k1 : Sk := [(1,.i .u64),(2,.x),(5,.v),(15,.v),(16,.i .i64),(17,.i .i64)]
noncomputable def o3 := ob Try.f113 [.r,.r,.l,.r,.l,.l,.r,.r,.r]
def B3 (P : PT) (N2 : NTy k1 Pr) (x1 : Int) (x2 : Nat) (x5 x15 : Value) (x16 x17 : Int) (H : AHeap) : Prop :=
  N2 x1 x2 x5 x15 x16 (IntKind.i64.wrap (x17 + 1)) H
theorem q3 (P : PT) (N2 : NTy k1 Pr) : QB Try.prog T0 81 o3 (En 81 k1 N2) k1 (B3 P N2) := fun _ _ _ _ _ _ _ _  => by kernel_rfl
abbrev k2 : Sk := [(1,.i .u64),(2,.x),(5,.v),(8,.i .u64),(15,.v),(16,.i .i64),(17,.i .i64)]
noncomputable def o4 := ob Try.f113 [.r,.r,.l,.r,.l,.l,.r,.r,.l,.l,.r,.r,.r,.r]
def B4 (P : PT) (N2 : NTy k1 Pr) (x1 : Int) (x2 : Nat) (x5 : Value) (x8 : Int) (x15 : Value) (x16 x17 : Int) (H : AHeap) : Prop :=
  newK H [(Value.int .u64 x8)] 82 (fun b1 H2 => apK T0 82 H2 x5 (Value.slice (some ⟨b1, 0, none⟩) 1 (1 + 1)) (fun v3 H4 => B3 P N2 x1 x2 v3 x15 x16 x17 H4))
theorem q4 (P : PT) (N2 : NTy k1 Pr) : QB Try.prog T0 81 o4 (En 81 k1 (B3 P N2)) k2 (B4 P N2) := fun _ _ _ _ _ _ _ _ _  => by kernel_rfl
abbrev k3 : Sk := [(1,.i .u64),(2,.x),(5,.v),(8,.i .u64),(9,.v),(15,.v),(16,.i .i64),(17,.i .i64)]
noncomputable def o6 := ob Try.f113 [.r,.r,.l,.r,.l,.l,.r,.r,.l,.l,.r,.r,.r,.l,.r,.l,.l,.r,.r]
def B6 (P : PT) (N2 : NTy k1 Pr) (N5 : NTy k3 Pr) (x1 : Int) (x2 : Nat) (x5 : Value) (x8 : Int) (x9 x15 : Value) (x16 x17 : Int) (H : AHeap) : Prop :=
  sliceK H 2 x9 (some (Value.int .i64 1)) none 1 (fun v1 => N5 x1 x2 x5 x8 v1 x15 x16 x17 H)
theorem q6 (P : PT) (N2 : NTy k1 Pr) (N5 : NTy k3 Pr) : QB Try.prog T0 81 o6 (En 81 k3 N5) k3 (B6 P N2 N5) := fun _ _ _ _ _ _ _ _ _ _  => by kernel_rfl
abbrev k4 : Sk := [(1,.i .u64),(2,.x),(5,.v),(8,.i .u64),(9,.v),(15,.v),(16,.i .i64),(17,.i .i64),(44,.g [.i,.i]),(45,.i .i64)]
noncomputable def o8 := ob Try.f113 [.r,.r,.l,.r,.l,.l,.r,.r,.l,.l,.r,.r,.r,.l,.r,.l,.l,.r,.l,.l,.r,.l,.l,.r,.r,.r]
def B8 (P : PT) (N2 : NTy k1 Pr) (N5 : NTy k3 Pr) (N7 : NTy k4 Pr) (x1 : Int) (x2 : Nat) (x5 : Value) (x8 : Int) (x9 x15 : Value) (x16 x17 x44a x44b x45 : Int) (H : AHeap) : Prop :=
  N7 x1 x2 x5 x8 x9 x15 x16 x17 x44a x44b (IntKind.i64.wrap (x45 + 1)) H
theorem q8 (P : PT) (N2 : NTy k1 Pr) (N5 : NTy k3 Pr) (N7 : NTy k4 Pr) : QB Try.prog T0 81 o8 (En 81 k4 N7) k4 (B8 P N2 N5 N7) := fun _ _ _ _ _ _ _ _ _ _ _ _ _  => by kernel_rfl
abbrev k5 : Sk := [(1,.i .u64),(2,.x),(5,.v),(8,.i .u64),(9,.v),(15,.v),(16,.i .i64),(17,.i .i64),(44,.g [.i,.i]),(45,.i .i64),(50,.v),(51,.i .i64),(52,.i .i64)]
noncomputable def o10 := ob Try.f113 [.r,.r,.l,.r,.l,.l,.r,.r,.l,.l,.r,.r,.r,.l,.r,.l,.l,.r,.l,.l,.r,.l,.l,.r,.r,.l,.l,.r,.r,.l,.l,.r,.r,.r]
def B10 (P : PT) (N2 : NTy k1 Pr) (N5 : NTy k3 Pr) (N7 : NTy k4 Pr) (N9 : NTy k5 Pr) (x1 : Int) (x2 : Nat) (x5 : Value) (x8 : Int) (x9 x15 : Value) (x16 x17 x44a x44b x45 : Int) (x50 : Value) (x51 x52 : Int) (H : AHeap) : Prop :=
  N9 x1 x2 x5 x8 x9 x15 x16 x17 x44a x44b x45 x50 x51 (IntKind.i64.wrap (x52 + 1)) H
theorem q10 (P : PT) (N2 : NTy k1 Pr) (N5 : NTy k3 Pr) (N7 : NTy k4 Pr) (N9 : NTy k5 Pr) : QB Try.prog T0 81 o10 (En 81 k5 N9) k5 (B10 P N2 N5 N7 N9) := fun _ _ _ _ _ _ _ _ _ _ _ _ _ _ _ _  => by kernel_rfl
abbrev k6 : Sk := [(1,.i .u64),(2,.x),(5,.v),(8,.i .u64),(9,.v),(13,.i .i64),(15,.v),(16,.i .i64),(17,.i .i64),(44,.g [.i,.i]),(45,.i .i64),(50,.v),(51,.i .i64),(52,.i .i64)]
noncomputable def o11 := ob Try.f113 [.r,.r,.l,.r,.l,.l,.r,.r,.l,.l,.r,.r,.r,.l,.r,.l,.l,.r,.l,.l,.r,.l,.l,.r,.r,.l,.l,.r,.r,.l,.l,.r,.r,.l,.l,.r,.r,.l,.r]
def B11 (P : PT) (N2 : NTy k1 Pr) (N5 : NTy k3 Pr) (N7 : NTy k4 Pr) (N9 : NTy k5 Pr) (x1 : Int) (x2 : Nat) (x5 : Value) (x8 : Int) (x9 : Value) (x13 : Int) (x15 : Value) (x16 x17 x44a x44b x45 : Int) (x50 : Value) (x51 x52 : Int) (H : AHeap) : Prop :=
  newK H [(Value.int .i64 x13)] 2 (fun b1 H2 => apK T0 2 H2 x9 (Value.slice (some ⟨b1, 0, none⟩) 1 (1 + 1)) (fun v3 H4 => B10 P N2 N5 N7 N9 x1 x2 x5 x8 v3 x15 x16 x17 x44a x44b x45 x50 x51 x52 H4))
theorem q11 (P : PT) (N2 : NTy k1 Pr) (N5 : NTy k3 Pr) (N7 : NTy k4 Pr) (N9 : NTy k5 Pr) : QB Try.prog T0 81 o11 (En 81 k5 (B10 P N2 N5 N7 N9)) k6 (B11 P N2 N5 N7 N9) := fun _ _ _ _ _ _ _ _ _ _ _ _ _ _ _ _ _  => by kernel_rfl
noncomputable def o12 := ob Try.f113 [.r,.r,.l,.r,.l,.l,.r,.r,.l,.l,.r,.r,.r,.l,.r,.l,.l,.r,.l,.l,.r,.l,.l,.r,.r,.l,.l,.r,.r,.l,.l,.r,.r,.l,.l,.r,.r,.l,.l]
def B12 (P : PT) (N2 : NTy k1 Pr) (N5 : NTy k3 Pr) (N7 : NTy k4 Pr) (N9 : NTy k5 Pr) (x1 : Int) (x2 : Nat) (x5 : Value) (x8 : Int) (x9 : Value) (x13 : Int) (x15 : Value) (x16 x17 x44a x44b x45 : Int) (x50 : Value) (x51 x52 : Int) (H : AHeap) : Prop :=
  ((0 : Int) ≤ x13) ∧ (B11 P N2 N5 N7 N9 x1 x2 x5 (IntKind.u64.wrap (BitVec.ofInt 64 x8 ||| BitVec.ofInt 64 (IntKind.u64.wrap (1 * 2 ^ (min (Int.toNat x13) 64)))).toNat) x9 x13 x15 x16 x17 x44a x44b x45 x50 x51 x52 H)
theorem q12 (P : PT) (N2 : NTy k1 Pr) (N5 : NTy k3 Pr) (N7 : NTy k4 Pr) (N9 : NTy k5 Pr) : QB Try.prog T0 81 o12 (En 81 k6 (B11 P N2 N5 N7 N9)) k6 (B12 P N2 N5 N7 N9) := fun _ _ _ _ _ _ _ _ _ _ _ _ _ _ _ _ _  => by kernel_rfl
noncomputable def o13 := ob Try.f113 [.r,.r,.l,.r,.l,.l,.r,.r,.l,.l,.r,.r,.r,.l,.r,.l,.l,.r,.l,.l,.r,.l,.l,.r,.r,.l,.l,.r,.r,.l,.l,.r,.r,.l,.l,.r,.l]
def B13 (P : PT) (N2 : NTy k1 Pr) (N5 : NTy k3 Pr) (N7 : NTy k4 Pr) (N9 : NTy k5 Pr) (x1 : Int) (x2 : Nat) (x5 : Value) (x8 : Int) (x9 : Value) (x13 : Int) (x15 : Value) (x16 x17 x44a x44b x45 : Int) (x50 : Value) (x51 x52 : Int) (H : AHeap) : Prop :=
  AC Try.prog T0 79 [(Value.int .u64 x1), (Value.int .i64 x13)] H (fun v1 H2 => asB v1 (fun v3 => pif v3 (AC Try.prog T0 79 [(Value.int .u64 x8), (Value.int .i64 x13)] H2 (fun v4 H5 => asB v4 (fun v6 => pif (!v6) (B12 P N2 N5 N7 N9 x1 x2 x5 x8 x9 x13 x15 x16 x17 x44a x44b x45 x50 x51 x52 H5) (B10 P N2 N5 N7 N9 x1 x2 x5 x8 x9 x15 x16 x17 x44a x44b x45 x50 x51 x52 H5)))) (B10 P N2 N5 N7 N9 x1 x2 x5 x8 x9 x15 x16 x17 x44a x44b x45 x50 x51 x52 H2)))
theorem q13 (P : PT) (N2 : NTy k1 Pr) (N5 : NTy k3 Pr) (N7 : NTy k4 Pr) (N9 : NTy k5 Pr) : QB Try.prog T0 81 o13 (cnd 64 (En 81 k6 (B12 P N2 N5 N7 N9)) (En 81 k5 (B10 P N2 N5 N7 N9))) k6 (B13 P N2 N5 N7 N9) := fun _ _ _ _ _ _ _ _ _ _ _ _ _ _ _ _ _  => by kernel_rfl
noncomputable def o14 := ob Try.f113 [.r,.r,.l,.r,.l,.l,.r,.r,.l,.l,.r,.r,.r,.l,.r,.l,.l,.r,.l,.l,.r,.l,.l,.r,.r,.l,.l,.r,.r,.l,.l,.r,.r,.l,.l,.l]
def B14 (P : PT) (N2 : NTy k1 Pr) (N5 : NTy k3 Pr) (N7 : NTy k4 Pr) (N9 : NTy k5 Pr) (x1 : Int) (x2 : Nat) (x5 : Value) (x8 : Int) (x9 x15 : Value) (x16 x17 x44a x44b x45 : Int) (x50 : Value) (x51 x52 : Int) (H : AHeap) : Prop :=
  idxK x50 x52 1 (fun b1 o2 => ldI .i64 H b1 o2 (fun v3 => B13 P N2 N5 N7 N9 x1 x2 x5 x8 x9 v3 x15 x16 x17 x44a x44b x45 x50 x51 x52 H))
theorem q14 (P : PT) (N2 : NTy k1 Pr) (N5 : NTy k3 Pr) (N7 : NTy k4 Pr) (N9 : NTy k5 Pr) : QB Try.prog T0 81 o14 (En 81 k6 (B13 P N2 N5 N7 N9)) k5 (B14 P N2 N5 N7 N9) := fun _ _ _ _ _ _ _ _ _ _ _ _ _ _ _ _  => by kernel_rfl
noncomputable def o15 := ob Try.f113 [.r,.r,.l,.r,.l,.l,.r,.r,.l,.l,.r,.r,.r,.l,.r,.l,.l,.r,.l,.l,.r,.l,.l,.r,.r,.l,.l,.r,.r,.l,.l,.l]
def B15 (P : PT) (N2 : NTy k1 Pr) (N5 : NTy k3 Pr) (N7 : NTy k4 Pr) (N9 : NTy k5 Pr) (x1 : Int) (x2 : Nat) (x5 : Value) (x8 : Int) (x9 x15 : Value) (x16 x17 x44a x44b x45 : Int) (x50 : Value) (x51 x52 : Int) (H : AHeap) : Prop :=
  pif (decide ((x52 : Int) < x51)) (B14 P N2 N5 N7 N9 x1 x2 x5 x8 x9 x15 x16 x17 x44a x44b x45 x50 x51 x52 H) (B8 P N2 N5 N7 x1 x2 x5 x8 x9 x15 x16 x17 x44a x44b x45 H)
theorem q15 (P : PT) (N2 : NTy k1 Pr) (N5 : NTy k3 Pr) (N7 : NTy k4 Pr) (N9 : NTy k5 Pr) : QB Try.prog T0 81 o15 (cnd 53 (En 81 k5 (B14 P N2 N5 N7 N9)) (En 81 k4 (B8 P N2 N5 N7))) k5 (B15 P N2 N5 N7 N9) := fun _ _ _ _ _ _ _ _ _ _ _ _ _ _ _ _  => by kernel_rfl
def L9 (P : PT) (N2 : NTy k1 Pr) (N5 : NTy k3 Pr) (N7 : NTy k4 Pr) (x1 : Int) (x2 : Nat) (x5 : Value) (x8 : Int) (x9 x15 : Value) (x16 x17 x44a x44b x45 : Int) (x50 : Value) (x51 x52 : Int) (H : AHeap) : Prop :=
  ∃ (I : NTy k5 Pr) (μ : NTy k5 (AHeap → Nat)), I x1 x2 x5 x8 x9 x15 x16 x17 x44a x44b x45 x50 x51 x52 H ∧ ∀ y1 y2 y5 y8 y9 y15 y16 y17 y44a y44b y45 y50 y51 y52 G, I y1 y2 y5 y8 y9 y15 y16 y17 y44a y44b y45 y50 y51 y52 G → B15 P N2 N5 N7 (fun z1 z2 z5 z8 z9 z15 z16 z17 z44a z44b z45 z50 z51 z52 G' => I z1 z2 z5 z8 z9 z15 z16 z17 z44a z44b z45 z50 z51 z52 G' ∧ μ z1 z2 z5 z8 z9 z15 z16 z17 z44a z44b z45 z50 z51 z52 G' < μ y1 y2 y5 y8 y9 y15 y16 y17 y44a y44b y45 y50 y51 y52 G) y1 y2 y5 y8 y9 y15 y16 y17 y44a y44b y45 y50 y51 y52 G
theorem l9 (P : PT) (N2 : NTy k1 Pr) (N5 : NTy k3 Pr) (N7 : NTy k4 Pr) : LQ k5 (L9 P N2 N5 N7) (B15 P N2 N5 N7) := fun ⟨_,_,_,_,_,_,_,_,_,_,_,_,_,_,_⟩ _ ⟨I, μ, h0, hI⟩ => ⟨apT _ I, apT _ μ, h0, fun ⟨_,_,_,_,_,_,_,_,_,_,_,_,_,_,_⟩ _ h => hI _ _ _ _ _ _ _ _ _ _ _ _ _ _ _  h⟩
abbrev k7 : Sk := [(1,.i .u64),(2,.x),(5,.v),(8,.i .u64),(9,.v),(11,.i .i64),(15,.v),(16,.i .i64),(17,.i .i64),(44,.g [.i,.i]),(45,.i .i64)]
noncomputable def o16 := ob Try.f113 [.r,.r,.l,.r,.l,.l,.r,.r,.l,.l,.r,.r,.r,.l,.r,.l,.l,.r,.l,.l,.r,.l,.l,.r,.r,.l,.l,.r,.l]
def B16 (P : PT) (N2 : NTy k1 Pr) (N5 : NTy k3 Pr) (N7 : NTy k4 Pr) (x1 : Int) (x2 : Nat) (x5 : Value) (x8 : Int) (x9 : Value) (x11 : Int) (x15 : Value) (x16 x17 x44a x44b x45 : Int) (H : AHeap) : Prop :=
  ldI .i64 H x2 0 (fun v1 => ld1 H x2 1 (fun v2 => AC Try.prog T0 95 [(Value.agg ⟨[(Value.int .i64 v1), v2]⟩), (Value.int .i64 x11)] H (fun v3 H4 => lenK v3 (fun n6 => L9 P N2 N5 N7 x1 x2 x5 x8 x9 x15 x16 x17 x44a x44b x45 v3 (n6 : Int) 0 H4))))
theorem q16 (P : PT) (N2 : NTy k1 Pr) (N5 : NTy k3 Pr) (N7 : NTy k4 Pr) : QB Try.prog T0 81 o16 (En 81 k5 (L9 P N2 N5 N7)) k7 (B16 P N2 N5 N7) := fun _ _ _ _ _ _ _ _ _ _ _ _ _ _  => by kernel_rfl
noncomputable def o17 := ob Try.f113 [.r,.r,.l,.r,.l,.l,.r,.r,.l,.l,.r,.r,.r,.l,.r,.l,.l,.r,.l,.l,.r,.l,.l,.r,.r,.l,.l,.l]
def B17 (P : PT) (N2 : NTy k1 Pr) (N5 : NTy k3 Pr) (N7 : NTy k4 Pr) (x1 : Int) (x2 : Nat) (x5 : Value) (x8 : Int) (x9 x15 : Value) (x16 x17 x44a x44b x45 : Int) (H : AHeap) : Prop :=
  bndK x45 2 (atK [(Value.int .i64 x44a), (Value.int .i64 x44b)] (Int.toNat x45 * 1) (fun v1 => asI .i64 v1 (fun v2 => B16 P N2 N5 N7 x1 x2 x5 x8 x9 v2 x15 x16 x17 x44a x44b x45 H)))
theorem q17 (P : PT) (N2 : NTy k1 Pr) (N5 : NTy k3 Pr) (N7 : NTy k4 Pr) : QB Try.prog T0 81 o17 (En 81 k7 (B16 P N2 N5 N7)) k4 (B17 P N2 N5 N7) := fun _ _ _ _ _ _ _ _ _ _ _ _ _  => by kernel_rfl
noncomputable def o18 := ob Try.f113 [.r,.r,.l,.r,.l,.l,.r,.r,.l,.l,.r,.r,.r,.l,.r,.l,.l,.r,.l,.l,.r,.l,.l,.l]
def B18 (P : PT) (N2 : NTy k1 Pr) (N5 : NTy k3 Pr) (N7 : NTy k4 Pr) (x1 : Int) (x2 : Nat) (x5 : Value) (x8 : Int) (x9 x15 : Value) (x16 x17 x44a x44b x45 : Int) (H : AHeap) : Prop :=
  pif (decide ((x45 : Int) < 2)) (B17 P N2 N5 N7 x1 x2 x5 x8 x9 x15 x16 x17 x44a x44b x45 H) (B6 P N2 N5 x1 x2 x5 x8 x9 x15 x16 x17 H)
theorem q18 (P : PT) (N2 : NTy k1 Pr) (N5 : NTy k3 Pr) (N7 : NTy k4 Pr) : QB Try.prog T0 81 o18 (cnd 46 (En 81 k4 (B17 P N2 N5 N7)) (En 81 k3 (B6 P N2 N5))) k4 (B18 P N2 N5 N7) := fun _ _ _ _ _ _ _ _ _ _ _ _ _  => by kernel_rfl
def L7 (P : PT) (N2 : NTy k1 Pr) (N5 : NTy k3 Pr) (x1 : Int) (x2 : Nat) (x5 : Value) (x8 : Int) (x9 x15 : Value) (x16 x17 x44a x44b x45 : Int) (H : AHeap) : Prop :=
  ∃ (I : NTy k4 Pr) (μ : NTy k4 (AHeap → Nat)), I x1 x2 x5 x8 x9 x15 x16 x17 x44a x44b x45 H ∧ ∀ y1 y2 y5 y8 y9 y15 y16 y17 y44a y44b y45 G, I y1 y2 y5 y8 y9 y15 y16 y17 y44a y44b y45 G → B18 P N2 N5 (fun z1 z2 z5 z8 z9 z15 z16 z17 z44a z44b z45 G' => I z1 z2 z5 z8 z9 z15 z16 z17 z44a z44b z45 G' ∧ μ z1 z2 z5 z8 z9 z15 z16 z17 z44a z44b z45 G' < μ y1 y2 y5 y8 y9 y15 y16 y17 y44a y44b y45 G) y1 y2 y5 y8 y9 y15 y16 y17 y44a y44b y45 G
theorem l7 (P : PT) (N2 : NTy k1 Pr) (N5 : NTy k3 Pr) : LQ k4 (L7 P N2 N5) (B18 P N2 N5) := fun ⟨_,_,_,_,_,_,_,_,_,_,_,_⟩ _ ⟨I, μ, h0, hI⟩ => ⟨apT _ I, apT _ μ, h0, fun ⟨_,_,_,_,_,_,_,_,_,_,_,_⟩ _ h => hI _ _ _ _ _ _ _ _ _ _ _ _  h⟩
noncomputable def o19 := ob Try.f113 [.r,.r,.l,.r,.l,.l,.r,.r,.l,.l,.r,.r,.r,.l,.r,.l,.l,.r,.l,.l,.l]
def B19 (P : PT) (N2 : NTy k1 Pr) (N5 : NTy k3 Pr) (x1 : Int) (x2 : Nat) (x5 : Value) (x8 : Int) (x9 x15 : Value) (x16 x17 : Int) (H : AHeap) : Prop :=
  ld1 H x2 1 (fun v1 => idxK x9 0 1 (fun b2 o3 => ldI .i64 H b2 o3 (fun v4 => idxK v1 v4 2 (fun b5 o6 => ldI .i64 H b5 o6 (fun v7 => ldI .i64 H b5 (o6 + 1) (fun v8 => L7 P N2 N5 x1 x2 x5 x8 x9 x15 x16 x17 v7 v8 0 H))))))
theorem q19 (P : PT) (N2 : NTy k1 Pr) (N5 : NTy k3 Pr) : QD Try.prog T0 81 o19 [(0, false), (1, false), (2, false), (3, false), (4, false), (5, false), (6, false), (7, false)] (En 81 k4 (L7 P N2 N5)) k3 (B19 P N2 N5) := fun _ _ _ _ _ _ _ _ _ _  => by kernel_rfl
noncomputable def o20 := ob Try.f113 [.r,.r,.l,.r,.l,.l,.r,.r,.l,.l,.r,.r,.r,.l,.r,.l,.l,.l,.l]
def B20 (P : PT) (N2 : NTy k1 Pr) (N5 : NTy k3 Pr) (x1 : Int) (x2 : Nat) (x5 : Value) (x8 : Int) (x9 x15 : Value) (x16 x17 : Int) (H : AHeap) : Prop :=
  lenK x9 (fun n1 => pif (decide (((n1 : Int) : Int) > 0)) (B19 P N2 N5 x1 x2 x5 x8 x9 x15 x16 x17 H) (B4 P N2 x1 x2 x5 x8 x15 x16 x17 H))
theorem q20 (P : PT) (N2 : NTy k1 Pr) (N5 : NTy k3 Pr) : QB Try.prog T0 81 o20 (cnd 35 (En 81 k3 (B19 P N2 N5)) (En 81 k2 (B4 P N2))) k3 (B20 P N2 N5) := fun _ _ _ _ _ _ _ _ _ _  => by kernel_rfl
def L5 (P : PT) (N2 : NTy k1 Pr) (x1 : Int) (x2 : Nat) (x5 : Value) (x8 : Int) (x9 x15 : Value) (x16 x17 : Int) (H : AHeap) : Prop :=
  ∃ (I : NTy k3 Pr) (μ : NTy k3 (AHeap → Nat)), I x1 x2 x5 x8 x9 x15 x16 x17 H ∧ ∀ y1 y2 y5 y8 y9 y15 y16 y17 G, I y1 y2 y5 y8 y9 y15 y16 y17 G → B20 P N2 (fun z1 z2 z5 z8 z9 z15 z16 z17 G' => I z1 z2 z5 z8 z9 z15 z16 z17 G' ∧ μ z1 z2 z5 z8 z9 z15 z16 z17 G' < μ y1 y2 y5 y8 y9 y15 y16 y17 G) y1 y2 y5 y8 y9 y15 y16 y17 G
theorem l5 (P : PT) (N2 : NTy k1 Pr) : LQ k3 (L5 P N2) (B20 P N2) := fun ⟨_,_,_,_,_,_,_,_,_⟩ _ ⟨I, μ, h0, hI⟩ => ⟨apT _ I, apT _ μ, h0, fun ⟨_,_,_,_,_,_,_,_,_⟩ _ h => hI _ _ _ _ _ _ _ _ _  h⟩
abbrev k8 : Sk := [(1,.i .u64),(2,.x),(5,.v),(7,.x),(8,.i .u64),(15,.v),(16,.i .i64),(17,.i .i64)]
noncomputable def o21 := ob Try.f113 [.r,.r,.l,.r,.l,.l,.r,.r,.l,.l,.r,.r,.r,.l,.l]
def B21 (P : PT) (N2 : NTy k1 Pr) (x1 : Int) (x2 : Nat) (x5 : Value) (x7 : Nat) (x8 : Int) (x15 : Value) (x16 x17 : Int) (H : AHeap) : Prop :=
  ldI .i64 H x7 0 (fun v1 => newK H [(Value.int .i64 v1)] 2 (fun b2 H3 => L5 P N2 x1 x2 x5 x8 (Value.slice (some ⟨b2, 0, none⟩) 1 (1 + 1)) x15 x16 x17 H3))
theorem q21 (P : PT) (N2 : NTy k1 Pr) : QB Try.prog T0 81 o21 (En 81 k3 (L5 P N2)) k8 (B21 P N2) := fun _ _ _ _ _ _ _ _ _ _  => by kernel_rfl
abbrev k9 : Sk := [(1,.i .u64),(2,.x),(5,.v),(7,.x),(15,.v),(16,.i .i64),(17,.i .i64)]
noncomputable def o22 := ob Try.f113 [.r,.r,.l,.r,.l,.l,.r,.r,.l,.l,.r,.r,.l]
def B22 (P : PT) (N2 : NTy k1 Pr) (x1 : Int) (x2 : Nat) (x5 : Value) (x7 : Nat) (x15 : Value) (x16 x17 : Int) (H : AHeap) : Prop :=
  ldI .i64 H x7 0 (fun v1 => ((0 : Int) ≤ v1) ∧ (B21 P N2 x1 x2 x5 x7 (IntKind.u64.wrap (1 * 2 ^ (min (Int.toNat v1) 64))) x15 x16 x17 H))
theorem q22 (P : PT) (N2 : NTy k1 Pr) : QB Try.prog T0 81 o22 (En 81 k8 (B21 P N2)) k9 (B22 P N2) := fun _ _ _ _ _ _ _ _ _  => by kernel_rfl
noncomputable def o23 := ob Try.f113 [.r,.r,.l,.r,.l,.l,.r,.r,.l,.l,.r,.l,.l]
def B23 (P : PT) (N2 : NTy k1 Pr) (x1 : Int) (x2 : Nat) (x5 : Value) (x7 : Nat) (x15 : Value) (x16 x17 : Int) (H : AHeap) : Prop :=
  lenK x5 (fun n1 => pif (decide (((n1 : Int) : Int) > 0)) (AC Try.prog T0 152 [x5, (Value.func (.func 153) ⟨[]⟩ ⟨[(Value.pointer (some ⟨x7, 0, none⟩))]⟩)] H (fun v2 H3 => asB v2 (fun v4 => pif v4 (B3 P N2 x1 x2 x5 x15 x16 x17 H3) (B22 P N2 x1 x2 x5 x7 x15 x16 x17 H3)))) (B22 P N2 x1 x2 x5 x7 x15 x16 x17 H))
theorem q23 (P : PT) (N2 : NTy k1 Pr) : QB Try.prog T0 81 o23 (cnd 28 (En 81 k1 (B3 P N2)) (En 81 k9 (B22 P N2))) k9 (B23 P N2) := fun _ _ _ _ _ _ _ _ _  => by kernel_rfl
noncomputable def o24 := ob Try.f113 [.r,.r,.l,.r,.l,.l,.r,.r,.l,.l,.l]
def B24 (P : PT) (N2 : NTy k1 Pr) (x1 : Int) (x2 : Nat) (x5 x15 : Value) (x16 x17 : Int) (H : AHeap) : Prop :=
  idxK x15 x17 1 (fun b1 o2 => ldI .i64 H b1 o2 (fun v3 => newK H [(Value.int .i64 0)] 2 (fun b4 H5 => stK H5 b4 0 [(Value.int .i64 v3)] (fun H6 => B23 P N2 x1 x2 x5 b4 x15 x16 x17 H6))))
theorem q24 (P : PT) (N2 : NTy k1 Pr) : QB Try.prog T0 81 o24 (En 81 k9 (B23 P N2)) k1 (B24 P N2) := fun _ _ _ _ _ _ _ _  => by kernel_rfl
noncomputable def o25 := ob Try.f113 [.r,.r,.l,.r,.l,.l,.l]
def B25 (P : PT) (N2 : NTy k1 Pr) (x1 : Int) (x2 : Nat) (x5 x15 : Value) (x16 x17 : Int) (H : AHeap) : Prop :=
  pif (decide ((x17 : Int) < x16)) (B24 P N2 x1 x2 x5 x15 x16 x17 H) (B1 P x5 H)
theorem q25 (P : PT) (N2 : NTy k1 Pr) : QB Try.prog T0 81 o25 (cnd 18 (En 81 k1 (B24 P N2)) (En 81 k0 (B1 P))) k1 (B25 P N2) := fun _ _ _ _ _ _ _ _  => by kernel_rfl
def L2 (P : PT) (x1 : Int) (x2 : Nat) (x5 x15 : Value) (x16 x17 : Int) (H : AHeap) : Prop :=
  ∃ (I : NTy k1 Pr) (μ : NTy k1 (AHeap → Nat)), I x1 x2 x5 x15 x16 x17 H ∧ ∀ y1 y2 y5 y15 y16 y17 G, I y1 y2 y5 y15 y16 y17 G → B25 P (fun z1 z2 z5 z15 z16 z17 G' => I z1 z2 z5 z15 z16 z17 G' ∧ μ z1 z2 z5 z15 z16 z17 G' < μ y1 y2 y5 y15 y16 y17 G) y1 y2 y5 y15 y16 y17 G
theorem l2 (P : PT) : LQ k1 (L2 P) (B25 P) := fun ⟨_,_,_,_,_,_,_⟩ _ ⟨I, μ, h0, hI⟩ => ⟨apT _ I, apT _ μ, h0, fun ⟨_,_,_,_,_,_,_⟩ _ h => hI _ _ _ _ _ _ _  h⟩
abbrev k10 : Sk := [(1,.i .u64),(2,.x),(5,.v)]
noncomputable def o26 := ob Try.f113 [.r,.r,.l,.l]
def B26 (P : PT) (x1 : Int) (x2 : Nat) (x5 : Value) (H : AHeap) : Prop :=
  AC Try.prog T0 82 [(Value.int .u64 x1)] H (fun v1 H2 => lenK v1 (fun n4 => L2 P x1 x2 x5 v1 (n4 : Int) 0 H2))
theorem q26 (P : PT) : QB Try.prog T0 81 o26 (En 81 k1 (L2 P)) k10 (B26 P) := fun _ _ _ _ _  => by kernel_rfl
abbrev k11 : Sk := [(1,.i .u64),(2,.x)]
noncomputable def o27 := ob Try.f113 [.r,.l]
def B27 (P : PT) (x1 : Int) (x2 : Nat) (H : AHeap) : Prop :=
  B26 P x1 x2 (Value.slice none 0 0) H
theorem q27 (P : PT) : QB Try.prog T0 81 o27 (En 81 k10 (B26 P)) k11 (B27 P) := fun _ _ _ _  => by kernel_rfl
abbrev k12 : Sk := [(0,.g [.i,.v]),(1,.i .u64)]
noncomputable def o28 := ob Try.f113 [.l]
def B28 (P : PT) (x0a : Int) (x0b : Value) (x1 : Int) (H : AHeap) : Prop :=
  newK H [(Value.int .i64 x0a), x0b] 31 (fun b1 H2 => B27 P x1 b1 H2)
theorem q28 (P : PT) : QB Try.prog T0 81 o28 (En 81 k11 (B27 P)) k12 (B28 P) := fun _ _ _ _ _  => by kernel_rfl
noncomputable def code : Code := (.seq (.region 0 ⟨o28⟩ false) (.seq (.region 1 ⟨o27⟩ false) (.seq (.seq (.region 2 ⟨o26⟩ false) (.block 0 (.loop (.seq (.region 3 ⟨o25⟩ false) (.seq (.cond (.tmp 18) .skip (.exit 0)) (.seq (.block 1 (.seq (.region 4 ⟨o24⟩ false) (.seq (.seq (.region 5 ⟨o23⟩ false) (.cond (.tmp 28) (.exit 1) .skip)) (.seq (.region 6 ⟨o22⟩ false) (.seq (.seq (.region 7 ⟨o21⟩ false) (.block 2 (.loop (.seq (.seq (.region 8 ⟨o20⟩ false) (.cond (.tmp 35) .skip (.exit 2))) (.seq (.block 3 (.seq (.region 10 ⟨o19⟩ true) (.block 4 (.loop (.seq (.region 11 ⟨o18⟩ false) (.seq (.cond (.tmp 46) .skip (.exit 4)) (.seq (.block 5 (.seq (.region 12 ⟨o17⟩ false) (.seq (.region 13 ⟨o16⟩ false) (.block 6 (.loop (.seq (.region 14 ⟨o15⟩ false) (.seq (.cond (.tmp 53) .skip (.exit 6)) (.seq (.block 7 (.seq (.region 15 ⟨o14⟩ false) (.seq (.region 16 ⟨o13⟩ false) (.cond (.tmp 64) (.seq (.region 17 ⟨o12⟩ false) (.region 18 ⟨o11⟩ false)) .skip)))) (.region 19 ⟨o10⟩ false))))))))) (.region 20 ⟨o8⟩ false)))))))) (.region 9 ⟨o6⟩ false)))))) (.region 21 ⟨o4⟩ false)))))) (.region 22 ⟨o3⟩ false))))))) (.seq (.region 23 ⟨o1⟩ false) .ret))))
theorem body : Try.f113.body = some code := by kernel_rfl
theorem main (P : PT) : ∀ env H, (En 81 k12 (B28 P)) env H → AW Try.prog T0 code env H (mkQ (ret P) (fun _ _ _ => False) (ret P)) :=
  (r_seq (rB T0_ok (q28 P)) (r_seq (rB T0_ok (q27 P)) (r_seq (r_seq (rB T0_ok (q26 P)) (r_block (rL (l2 P) (fun N2 => (r_seq (rB T0_ok (q25 P N2)) (r_seq (r_cond rfl r_skip (r_exit (fun _ _ h => h))) (r_seq (r_block (r_seq (rB T0_ok (q24 P N2)) (r_seq (r_seq (rB T0_ok (q23 P N2)) (r_cond rfl (r_exit (fun _ _ h => h)) r_skip)) (r_seq (rB T0_ok (q22 P N2)) (r_seq (r_seq (rB T0_ok (q21 P N2)) (r_block (rL (l5 P N2) (fun N5 => (r_seq (r_seq (rB T0_ok (q20 P N2 N5)) (r_cond rfl r_skip (r_exit (fun _ _ h => h)))) (r_seq (r_block (r_seq (rD T0_ok mixed [(0, false), (1, false), (2, false), (3, false), (4, false), (5, false), (6, false), (7, false)] (by kernel_rfl) (q19 P N2 N5)) (r_block (rL (l7 P N2 N5) (fun N7 => (r_seq (rB T0_ok (q18 P N2 N5 N7)) (r_seq (r_cond rfl r_skip (r_exit (fun _ _ h => h))) (r_seq (r_block (r_seq (rB T0_ok (q17 P N2 N5 N7)) (r_seq (rB T0_ok (q16 P N2 N5 N7)) (r_block (rL (l9 P N2 N5 N7) (fun N9 => (r_seq (rB T0_ok (q15 P N2 N5 N7 N9)) (r_seq (r_cond rfl r_skip (r_exit (fun _ _ h => h))) (r_seq (r_block (r_seq (rB T0_ok (q14 P N2 N5 N7 N9)) (r_seq (rB T0_ok (q13 P N2 N5 N7 N9)) (r_cond rfl (r_seq (rB T0_ok (q12 P N2 N5 N7 N9)) (rB T0_ok (q11 P N2 N5 N7 N9))) r_skip)))) (rB T0_ok (q10 P N2 N5 N7 N9))))))))))) (rB T0_ok (q8 P N2 N5 N7)))))))))) (rB T0_ok (q6 P N2 N5)))))))) (rB T0_ok (q4 P N2))))))) (rB T0_ok (q3 P N2))))))))) (r_seq (rB T0_ok (q1 P)) r_ret))))
theorem ac (P : PT) (x0a : Int) (x0b : Value) (x1 : Int) (H : AHeap) (h : B28 P x0a x0b x1 H) : AC Try.prog T0 113 [(Value.agg ⟨[(Value.int .i64 x0a), x0b]⟩), (Value.int .u64 x1)] H P :=
  r_fn T0_ok (c := code) (n := 81) Try.func113 body (by kernel_rfl) (main P) (En_mk (x0a, x0b, x1, ()) (by kernel_rfl) ⟨by kernel_rfl, by kernel_rfl, trivial⟩ h)

end F113
-- (loop.example/g01329/impl.Graph).every
namespace F114
noncomputable def ret (P : PT) : EP := retE T0 8 Try.f114 P
abbrev k0 : Sk := [(1,.x)]
noncomputable def o1 := ob Try.f114 [.r,.l]
def B1 (P : PT) (x1 : Nat) (H : AHeap) : Prop :=
  ld1 H x1 1 (fun v1 => lenK v1 (fun n2 => ((0 : Int) ≤ (n2 : Int)) ∧ (P (Value.int .u64 (IntKind.u64.wrap ((IntKind.u64.wrap (1 * 2 ^ (min (Int.toNat (n2 : Int)) 64))) - 1))) H)))
theorem q1 (P : PT) : QB Try.prog T0 8 o1 (ret P) k0 (B1 P) := fun _ _ _  => by kernel_rfl
abbrev k1 : Sk := [(0,.g [.i,.v])]
noncomputable def o2 := ob Try.f114 [.l]
def B2 (P : PT) (x0a : Int) (x0b : Value) (H : AHeap) : Prop :=
  newK H [(Value.int .i64 x0a), x0b] 31 (fun b1 H2 => B1 P b1 H2)
theorem q2 (P : PT) : QB Try.prog T0 8 o2 (En 8 k0 (B1 P)) k1 (B2 P) := fun _ _ _ _  => by kernel_rfl
noncomputable def code : Code := (.seq (.region 0 ⟨o2⟩ false) (.seq (.region 1 ⟨o1⟩ false) .ret))
theorem body : Try.f114.body = some code := by kernel_rfl
theorem main (P : PT) : ∀ env H, (En 8 k1 (B2 P)) env H → AW Try.prog T0 code env H (mkQ (ret P) (fun _ _ _ => False) (ret P)) :=
  (r_seq (rB T0_ok (q2 P)) (r_seq (rB T0_ok (q1 P)) r_ret))
theorem ac (P : PT) (x0a : Int) (x0b : Value) (H : AHeap) (h : B2 P x0a x0b H) : AC Try.prog T0 114 [(Value.agg ⟨[(Value.int .i64 x0a), x0b]⟩)] H P :=
  r_fn T0_ok (c := code) (n := 8) Try.func114 body (by kernel_rfl) (main P) (En_mk (x0a, x0b, ()) (by kernel_rfl) ⟨by kernel_rfl, trivial⟩ h)

end F114
-- math/bits.OnesCount64
namespace F115
noncomputable def ret (P : PT) : EP := retE T0 35 Try.f115 P
abbrev k0 : Sk := [(0,.i .u64)]
noncomputable def o1 := ob Try.f115 [.r,.r,.r,.r,.r,.r,.r,.l]
def B1 (P : PT) (x0 : Int) (H : AHeap) : Prop :=
  P (Value.int .i64 (IntKind.i64.wrap (BitVec.ofInt 64 (IntKind.i64.wrap x0) &&& BitVec.ofInt 64 127).toNat)) H
theorem q1 (P : PT) : QB Try.prog T0 35 o1 (ret P) k0 (B1 P) := fun _ _ _  => by kernel_rfl
noncomputable def o2 := ob Try.f115 [.r,.r,.r,.r,.r,.r,.l]
def B2 (P : PT) (x0 : Int) (H : AHeap) : Prop :=
  ((0 : Int) ≤ 32) ∧ (B1 P (IntKind.u64.wrap (x0 + (Int.fdiv x0 (2 ^ (min (Int.toNat 32) 64))))) H)
theorem q2 (P : PT) : QB Try.prog T0 35 o2 (En 35 k0 (B1 P)) k0 (B2 P) := fun _ _ _  => by kernel_rfl
noncomputable def o3 := ob Try.f115 [.r,.r,.r,.r,.r,.l]
def B3 (P : PT) (x0 : Int) (H : AHeap) : Prop :=
  ((0 : Int) ≤ 16) ∧ (B2 P (IntKind.u64.wrap (x0 + (Int.fdiv x0 (2 ^ (min (Int.toNat 16) 64))))) H)
theorem q3 (P : PT) : QB Try.prog T0 35 o3 (En 35 k0 (B2 P)) k0 (B3 P) := fun _ _ _  => by kernel_rfl
noncomputable def o4 := ob Try.f115 [.r,.r,.r,.r,.l]
def B4 (P : PT) (x0 : Int) (H : AHeap) : Prop :=
  ((0 : Int) ≤ 8) ∧ (B3 P (IntKind.u64.wrap (x0 + (Int.fdiv x0 (2 ^ (min (Int.toNat 8) 64))))) H)
theorem q4 (P : PT) : QB Try.prog T0 35 o4 (En 35 k0 (B3 P)) k0 (B4 P) := fun _ _ _  => by kernel_rfl
noncomputable def o5 := ob Try.f115 [.r,.r,.r,.l]
def B5 (P : PT) (x0 : Int) (H : AHeap) : Prop :=
  ((0 : Int) ≤ 4) ∧ (B4 P (IntKind.u64.wrap (BitVec.ofInt 64 (IntKind.u64.wrap ((Int.fdiv x0 (2 ^ (min (Int.toNat 4) 64))) + x0)) &&& BitVec.ofInt 64 1085102592571150095).toNat) H)
theorem q5 (P : PT) : QB Try.prog T0 35 o5 (En 35 k0 (B4 P)) k0 (B5 P) := fun _ _ _  => by kernel_rfl
noncomputable def o6 := ob Try.f115 [.r,.r,.l]
def B6 (P : PT) (x0 : Int) (H : AHeap) : Prop :=
  ((0 : Int) ≤ 2) ∧ (B5 P (IntKind.u64.wrap ((IntKind.u64.wrap (BitVec.ofInt 64 (Int.fdiv x0 (2 ^ (min (Int.toNat 2) 64))) &&& BitVec.ofInt 64 3689348814741910323).toNat) + (IntKind.u64.wrap (BitVec.ofInt 64 x0 &&& BitVec.ofInt 64 3689348814741910323).toNat))) H)
theorem q6 (P : PT) : QB Try.prog T0 35 o6 (En 35 k0 (B5 P)) k0 (B6 P) := fun _ _ _  => by kernel_rfl
noncomputable def o7 := ob Try.f115 [.r,.l]
def B7 (P : PT) (x0 : Int) (H : AHeap) : Prop :=
  ((0 : Int) ≤ 1) ∧ (B6 P (IntKind.u64.wrap ((IntKind.u64.wrap (BitVec.ofInt 64 (Int.fdiv x0 (2 ^ (min (Int.toNat 1) 64))) &&& BitVec.ofInt 64 6148914691236517205).toNat) + (IntKind.u64.wrap (BitVec.ofInt 64 x0 &&& BitVec.ofInt 64 6148914691236517205).toNat))) H)
theorem q7 (P : PT) : QB Try.prog T0 35 o7 (En 35 k0 (B6 P)) k0 (B7 P) := fun _ _ _  => by kernel_rfl
noncomputable def o8 := ob Try.f115 [.l]
def B8 (P : PT) (x0 : Int) (H : AHeap) : Prop :=
  B7 P x0 H
theorem q8 (P : PT) : QB Try.prog T0 35 o8 (En 35 k0 (B7 P)) k0 (B8 P) := fun _ _ _  => by kernel_rfl
noncomputable def code : Code := (.seq (.region 0 ⟨o8⟩ false) (.seq (.region 1 ⟨o7⟩ false) (.seq (.region 2 ⟨o6⟩ false) (.seq (.region 3 ⟨o5⟩ false) (.seq (.region 4 ⟨o4⟩ false) (.seq (.region 5 ⟨o3⟩ false) (.seq (.region 6 ⟨o2⟩ false) (.seq (.region 7 ⟨o1⟩ false) .ret))))))))
theorem body : Try.f115.body = some code := by kernel_rfl
theorem main (P : PT) : ∀ env H, (En 35 k0 (B8 P)) env H → AW Try.prog T0 code env H (mkQ (ret P) (fun _ _ _ => False) (ret P)) :=
  (r_seq (rB T0_ok (q8 P)) (r_seq (rB T0_ok (q7 P)) (r_seq (rB T0_ok (q6 P)) (r_seq (rB T0_ok (q5 P)) (r_seq (rB T0_ok (q4 P)) (r_seq (rB T0_ok (q3 P)) (r_seq (rB T0_ok (q2 P)) (r_seq (rB T0_ok (q1 P)) r_ret))))))))
theorem ac (P : PT) (x0 : Int) (H : AHeap) (h : B8 P x0 H) : AC Try.prog T0 115 [(Value.int .u64 x0)] H P :=
  r_fn T0_ok (c := code) (n := 35) Try.func115 body (by kernel_rfl) (main P) (En_mk (x0, ()) (by kernel_rfl) ⟨by kernel_rfl, trivial⟩ h)

end F115
-- math/bits.Len
namespace F117
noncomputable def ret (P : PT) : EP := retE T0 8 Try.f117 P
abbrev k0 : Sk := [(0,.i .u64)]
noncomputable def o1 := ob Try.f117 [.r,.r,.l]
def B1 (P : PT) (x0 : Int) (H : AHeap) : Prop :=
  AC Try.prog T0 164 [(Value.int .u64 x0)] H (fun v1 H2 => asI .i64 v1 (fun v3 => P (Value.int .i64 v3) H2))
theorem q1 (P : PT) : QB Try.prog T0 8 o1 (ret P) k0 (B1 P) := fun _ _ _  => by kernel_rfl
noncomputable def o2 := ob Try.f117 [.l]
def B2 (P : PT) (x0 : Int) (H : AHeap) : Prop :=
  B1 P x0 H
theorem q2 (P : PT) : QB Try.prog T0 8 o2 (En 8 k0 (B1 P)) k0 (B2 P) := fun _ _ _  => by kernel_rfl
noncomputable def code : Code := (.seq (.region 0 ⟨o2⟩ false) (.seq (.cond (.const (.bool false)) (codeAt (bodyOf Try.f117) [.r,.l,.l]) .skip) (.seq (.region 2 ⟨o1⟩ false) .ret)))
theorem body : Try.f117.body = some code := by kernel_rfl
theorem main (P : PT) : ∀ env H, (En 8 k0 (B2 P)) env H → AW Try.prog T0 code env H (mkQ (ret P) (fun _ _ _ => False) (ret P)) :=
  (r_seq (rB T0_ok (q2 P)) (r_seq (r_condF r_skip) (r_seq (rB T0_ok (q1 P)) r_ret)))
theorem ac (P : PT) (x0 : Int) (H : AHeap) (h : B2 P x0 H) : AC Try.prog T0 117 [(Value.int .u64 x0)] H P :=
  r_fn T0_ok (c := code) (n := 8) Try.func117 body (by kernel_rfl) (main P) (En_mk (x0, ()) (by kernel_rfl) ⟨by kernel_rfl, trivial⟩ h)

end F117
-- loop.example/g01329/spec.l07Walk
namespace F118
noncomputable def ret (P : PT) : EP := retE T0 74 Try.f118 P
abbrev k0 : Sk := [(11,.v)]
noncomputable def o1 := ob Try.f118 [.r,.r,.r,.r,.l]
def B1 (P : PT) (x11 : Value) (H : AHeap) : Prop :=
  P x11 H
theorem q1 (P : PT) : QB Try.prog T0 74 o1 (ret P) k0 (B1 P) := fun _ _ _  => by kernel_rfl
abbrev k1 : Sk := [(1,.v),(2,.i .i64),(3,.i .i64),(4,.v),(5,.x),(11,.v),(12,.v),(13,.i .i64)]
noncomputable def o3 := ob Try.f118 [.r,.r,.r,.l,.r,.l,.l,.r,.r]
def B3 (P : PT) (N2 : NTy k1 Pr) (x1 : Value) (x2 x3 : Int) (x4 : Value) (x5 : Nat) (x11 x12 : Value) (x13 : Int) (H : AHeap) : Prop :=
  N2 x1 x2 x3 x4 x5 x11 x12 (IntKind.i64.wrap (x13 + 1)) H
theorem q3 (P : PT) (N2 : NTy k1 Pr) : QB Try.prog T0 74 o3 (En 74 k1 N2) k1 (B3 P N2) := fun _ _ _ _ _ _ _ _ _ _  => by kernel_rfl
abbrev k2 : Sk := [(1,.v),(2,.i .i64),(3,.i .i64),(4,.v),(5,.x),(11,.v),(12,.v),(13,.i .i64),(14,.i .i64)]
noncomputable def o4 := ob Try.f118 [.r,.r,.r,.l,.r,.l,.l,.r,.l,.l,.r,.r,.r,.r]
def B4 (P : PT) (N2 : NTy k1 Pr) (x1 : Value) (x2 x3 : Int) (x4 : Value) (x5 : Nat) (x11 x12 : Value) (x13 x14 : Int) (H : AHeap) : Prop :=
  idxK x4 x14 1 (fun b1 o2 => stK H b1 o2 [(Value.bool false)] (fun H3 => B3 P N2 x1 x2 x3 x4 x5 x11 x12 x13 H3))
theorem q4 (P : PT) (N2 : NTy k1 Pr) : QB Try.prog T0 74 o4 (En 74 k1 (B3 P N2)) k2 (B4 P N2) := fun _ _ _ _ _ _ _ _ _ _ _  => by kernel_rfl
noncomputable def o5 := ob Try.f118 [.r,.r,.r,.l,.r,.l,.l,.r,.l,.l,.r,.r,.r,.l]
def B5 (P : PT) (N2 : NTy k1 Pr) (x1 : Value) (x2 x3 : Int) (x4 : Value) (x5 : Nat) (x11 x12 : Value) (x13 x14 : Int) (H : AHeap) : Prop :=
  ldI .i64 H x5 0 (fun v1 => ld1 H x5 1 (fun v2 => idxK x12 x13 1 (fun b3 o4 => ldI .i64 H b3 o4 (fun v5 => (AC Try.prog T0 37 [x1] H (fun v6 H7 => (ldI .i64 H7 x5 0 (fun v9 => ld1 H7 x5 1 (fun v10 => ((Value.agg ⟨[(Value.int .i64 v9), v10]⟩) = (Value.agg ⟨[(Value.int .i64 v1), v2]⟩)) ∧ (H7 = H7)))) ∧ ((ldI .i64 H7 b3 o4 (fun v11 => ((Value.int .i64 v11) = (Value.int .i64 v5)) ∧ (H7 = H7))) ∧ (newK H7 [(Value.int .i64 v5)] 2 (fun b12 H13 => apK T0 2 H13 v6 (Value.slice (some ⟨b12, 0, none⟩) 1 (1 + 1)) (fun v14 H15 => (ldI .i64 H15 x5 0 (fun v16 => ld1 H15 x5 1 (fun v17 => ((Value.agg ⟨[(Value.int .i64 v16), v17]⟩) = (Value.agg ⟨[(Value.int .i64 v1), v2]⟩)) ∧ (H15 = H15)))) ∧ (AC Try.prog T0 118 [(Value.agg ⟨[(Value.int .i64 v1), v2]⟩), v14, (Value.int .i64 x14), (Value.int .i64 x3), x4] H15 (fun v18 H19 => apK T0 25 H19 x11 v18 (fun v21 H22 => B4 P N2 x1 x2 x3 x4 x5 v21 x12 x13 x14 H22))))))))) ∧ (newK H [(Value.int .i64 v5)] 2 (fun b23 H24 => AC Try.prog T0 37 [x1] H24 (fun v25 H26 => (ldI .i64 H26 x5 0 (fun v28 => ld1 H26 x5 1 (fun v29 => ((Value.agg ⟨[(Value.int .i64 v28), v29]⟩) = (Value.agg ⟨[(Value.int .i64 v1), v2]⟩)) ∧ (H26 = H26)))) ∧ ((ldI .i64 H26 b3 o4 (fun v30 => ((Value.int .i64 v30) = (Value.int .i64 v5)) ∧ (H26 = H26))) ∧ (apK T0 2 H26 v25 (Value.slice (some ⟨b23, 0, none⟩) 1 (1 + 1)) (fun v31 H32 => (ldI .i64 H32 x5 0 (fun v33 => ld1 H32 x5 1 (fun v34 => ((Value.agg ⟨[(Value.int .i64 v33), v34]⟩) = (Value.agg ⟨[(Value.int .i64 v1), v2]⟩)) ∧ (H32 = H32)))) ∧ (AC Try.prog T0 118 [(Value.agg ⟨[(Value.int .i64 v1), v2]⟩), v31, (Value.int .i64 x14), (Value.int .i64 x3), x4] H32 (fun v35 H36 => apK T0 25 H36 x11 v35 (fun v38 H39 => B4 P N2 x1 x2 x3 x4 x5 v38 x12 x13 x14 H39)))))))))))))
theorem q5 (P : PT) (N2 : NTy k1 Pr) : QT Try.prog T0 74 o5 (.op 0 [] (.op 1 [] (.op 2 [] (.op 4 [] (.op 5 [] (.op 6 [] (.op 7 [] (.op 10 [] (.op 11 [] (.op 12 [] (.alt (.op 3 [1, 7] (.op 8 [] (.op 9 [1] (.op 13 [] (.op 14 [] (.op 15 [] .done)))))) (.op 8 [] (.op 3 [1, 7] (.op 9 [1] (.op 13 [] (.op 14 [] (.op 15 [] .done))))))))))))))))) (En 74 k2 (B4 P N2)) k2 (B5 P N2) := fun _ _ _ _ _ _ _ _ _ _ _  => by kernel_rfl
noncomputable def o6 := ob Try.f118 [.r,.r,.r,.l,.r,.l,.l,.r,.l,.l,.r,.r,.l]
def B6 (P : PT) (N2 : NTy k1 Pr) (x1 : Value) (x2 x3 : Int) (x4 : Value) (x5 : Nat) (x11 x12 : Value) (x13 x14 : Int) (H : AHeap) : Prop :=
  idxK x4 x14 1 (fun b1 o2 => stK H b1 o2 [(Value.bool true)] (fun H3 => B5 P N2 x1 x2 x3 x4 x5 x11 x12 x13 x14 H3))
theorem q6 (P : PT) (N2 : NTy k1 Pr) : QB Try.prog T0 74 o6 (En 74 k2 (B5 P N2)) k2 (B6 P N2) := fun _ _ _ _ _ _ _ _ _ _ _  => by kernel_rfl
noncomputable def o7 := ob Try.f118 [.r,.r,.r,.l,.r,.l,.l,.r,.l,.l,.r,.l,.l]
def B7 (P : PT) (N2 : NTy k1 Pr) (x1 : Value) (x2 x3 : Int) (x4 : Value) (x5 : Nat) (x11 x12 : Value) (x13 x14 : Int) (H : AHeap) : Prop :=
  idxK x12 x13 1 (fun b1 o2 => ldI .i64 H b1 o2 (fun v3 => idxK x1 0 1 (fun b4 o5 => ldI .i64 H b4 o5 (fun v6 => pif (decide ((v3 : Int) ≤ v6)) (B3 P N2 x1 x2 x3 x4 x5 x11 x12 x13 H) (idxK x4 x14 1 (fun b7 o8 => ld1 H b7 o8 (fun v10 => asB v10 (fun v9 => pif v9 (B3 P N2 x1 x2 x3 x4 x5 x11 x12 x13 H) (B6 P N2 x1 x2 x3 x4 x5 x11 x12 x13 x14 H)))))))))
theorem q7 (P : PT) (N2 : NTy k1 Pr) : QD Try.prog T0 74 o7 [(0, false), (1, false), (2, false), (3, false), (4, false), (5, false), (6, false), (7, false), (8, false), (9, false), (10, false), (11, false), (12, false), (13, false)] (cnd 51 (En 74 k1 (B3 P N2)) (En 74 k2 (B6 P N2))) k2 (B7 P N2) := fun _ _ _ _ _ _ _ _ _ _ _  => by kernel_rfl
noncomputable def o8 := ob Try.f118 [.r,.r,.r,.l,.r,.l,.l,.r,.l,.l,.l]
def B8 (P : PT) (N2 : NTy k1 Pr) (x1 : Value) (x2 x3 : Int) (x4 : Value) (x5 : Nat) (x11 x12 : Value) (x13 : Int) (H : AHeap) : Prop :=
  ldI .i64 H x5 0 (fun v1 => ld1 H x5 1 (fun v2 => idxK x12 x13 1 (fun b3 o4 => ldI .i64 H b3 o4 (fun v5 => AC Try.prog T0 111 [(Value.agg ⟨[(Value.int .i64 v1), v2]⟩), (Value.int .i64 v5), (Value.int .i64 x2)] H (fun v6 H7 => asI .i64 v6 (fun v8 => B7 P N2 x1 x2 x3 x4 x5 x11 x12 x13 v8 H7))))))
theorem q8 (P : PT) (N2 : NTy k1 Pr) : QD Try.prog T0 74 o8 [(0, false), (1, false), (2, false), (3, false), (4, false), (5, false), (6, false), (7, false)] (En 74 k2 (B7 P N2)) k1 (B8 P N2) := fun _ _ _ _ _ _ _ _ _ _  => by kernel_rfl
noncomputable def o9 := ob Try.f118 [.r,.r,.r,.l,.r,.l,.l,.l,.l]
def B9 (P : PT) (N2 : NTy k1 Pr) (x1 : Value) (x2 x3 : Int) (x4 : Value) (x5 : Nat) (x11 x12 : Value) (x13 : Int) (H : AHeap) : Prop :=
  lenK x12 (fun n1 => pif (decide ((x13 : Int) < (n1 : Int))) (B8 P N2 x1 x2 x3 x4 x5 x11 x12 x13 H) (B1 P x11 H))
theorem q9 (P : PT) (N2 : NTy k1 Pr) : QB Try.prog T0 74 o9 (cnd 28 (En 74 k1 (B8 P N2)) (En 74 k0 (B1 P))) k1 (B9 P N2) := fun _ _ _ _ _ _ _ _ _ _  => by kernel_rfl
def L2 (P : PT) (x1 : Value) (x2 x3 : Int) (x4 : Value) (x5 : Nat) (x11 x12 : Value) (x13 : Int) (H : AHeap) : Prop :=
  ∃ (I : NTy k1 Pr) (μ : NTy k1 (AHeap → Nat)), I x1 x2 x3 x4 x5 x11 x12 x13 H ∧ ∀ y1 y2 y3 y4 y5 y11 y12 y13 G, I y1 y2 y3 y4 y5 y11 y12 y13 G → B9 P (fun z1 z2 z3 z4 z5 z11 z12 z13 G' => I z1 z2 z3 z4 z5 z11 z12 z13 G' ∧ μ z1 z2 z3 z4 z5 z11 z12 z13 G' < μ y1 y2 y3 y4 y5 y11 y12 y13 G) y1 y2 y3 y4 y5 y11 y12 y13 G
theorem l2 (P : PT) : LQ k1 (L2 P) (B9 P) := fun ⟨_,_,_,_,_,_,_,_,_⟩ _ ⟨I, μ, h0, hI⟩ => ⟨apT _ I, apT _ μ, h0, fun ⟨_,_,_,_,_,_,_,_,_⟩ _ h => hI _ _ _ _ _ _ _ _ _  h⟩
abbrev k3 : Sk := [(1,.v),(2,.i .i64),(3,.i .i64),(4,.v),(5,.x),(11,.v),(12,.v)]
noncomputable def o10 := ob Try.f118 [.r,.r,.r,.l,.l]
def B10 (P : PT) (x1 : Value) (x2 x3 : Int) (x4 : Value) (x5 : Nat) (x11 x12 : Value) (H : AHeap) : Prop :=
  L2 P x1 x2 x3 x4 x5 x11 x12 0 H
theorem q10 (P : PT) : QB Try.prog T0 74 o10 (En 74 k1 (L2 P)) k3 (B10 P) := fun _ _ _ _ _ _ _ _ _  => by kernel_rfl
abbrev k4 : Sk := [(1,.v),(2,.i .i64),(3,.i .i64),(4,.v),(5,.x)]
noncomputable def o11 := ob Try.f118 [.r,.r,.l]
def B11 (P : PT) (x1 : Value) (x2 x3 : Int) (x4 : Value) (x5 : Nat) (H : AHeap) : Prop :=
  newK H [] 25 (fun b1 H2 => ldI .i64 H2 x5 0 (fun v3 => ld1 H2 x5 1 (fun v4 => AC Try.prog T0 110 [(Value.agg ⟨[(Value.int .i64 v3), v4]⟩), (Value.int .i64 x2)] H2 (fun v5 H6 => B10 P x1 x2 x3 x4 x5 (Value.slice (some ⟨b1, 0, none⟩) 0 (0 + 1)) v5 H6))))
theorem q11 (P : PT) : QB Try.prog T0 74 o11 (En 74 k3 (B10 P)) k4 (B11 P) := fun _ _ _ _ _ _ _  => by kernel_rfl
abbrev k5 : Sk := [(1,.v)]
noncomputable def o12 := ob Try.f118 [.r,.l,.r,.l,.l]
def B12 (P : PT) (x1 : Value) (H : AHeap) : Prop :=
  AC Try.prog T0 165 [x1] H (fun v1 H2 => pif (Value.oneCell' v1) (newK H2 [v1] 25 (fun b4 H5 => P (Value.slice (some ⟨b4, 0, none⟩) 1 (1 + 1)) H5)) False)
theorem q12 (P : PT) : QB Try.prog T0 74 o12 (ret P) k5 (B12 P) := fun _ _ _  => by kernel_rfl
noncomputable def o13 := ob Try.f118 [.r,.l,.l]
def B13 (P : PT) (x1 : Value) (x2 x3 : Int) (x4 : Value) (x5 : Nat) (H : AHeap) : Prop :=
  pif ((x2 : Int) == x3) (B12 P x1 H) (B11 P x1 x2 x3 x4 x5 H)
theorem q13 (P : PT) : QB Try.prog T0 74 o13 (cnd 17 (En 74 k5 (B12 P)) (En 74 k4 (B11 P))) k4 (B13 P) := fun _ _ _ _ _ _ _  => by kernel_rfl
abbrev k6 : Sk := [(0,.g [.i,.v]),(1,.v),(2,.i .i64),(3,.i .i64),(4,.v)]
noncomputable def o14 := ob Try.f118 [.l]
def B14 (P : PT) (x0a : Int) (x0b x1 : Value) (x2 x3 : Int) (x4 : Value) (H : AHeap) : Prop :=
  newK H [(Value.int .i64 x0a), x0b] 31 (fun b1 H2 => B13 P x1 x2 x3 x4 b1 H2)
theorem q14 (P : PT) : QB Try.prog T0 74 o14 (En 74 k4 (B13 P)) k6 (B14 P) := fun _ _ _ _ _ _ _ _  => by kernel_rfl
noncomputable def code : Code := (.seq (.region 0 ⟨o14⟩ false) (.seq (.seq (.region 1 ⟨o13⟩ false) (.cond (.tmp 17) (.seq (.region 2 ⟨o12⟩ false) .ret) .skip)) (.seq (.region 3 ⟨o11⟩ false) (.seq (.seq (.region 4 ⟨o10⟩ false) (.block 0 (.loop (.seq (.seq (.region 5 ⟨o9⟩ false) (.cond (.tmp 28) .skip (.exit 0))) (.seq (.block 1 (.seq (.region 7 ⟨o8⟩ true) (.seq (.seq (.region 8 ⟨o7⟩ true) (.cond (.tmp 51) (.exit 1) .skip)) (.seq (.region 9 ⟨o6⟩ false) (.seq (.region 10 ⟨o5⟩ true) (.region 11 ⟨o4⟩ false)))))) (.region 6 ⟨o3⟩ false)))))) (.seq (.region 12 ⟨o1⟩ false) .ret)))))
theorem body : Try.f118.body = some code := by kernel_rfl
theorem main (P : PT) : ∀ env H, (En 74 k6 (B14 P)) env H → AW Try.prog T0 code env H (mkQ (ret P) (fun _ _ _ => False) (ret P)) :=
  (r_seq (rB T0_ok (q14 P)) (r_seq (r_seq (rB T0_ok (q13 P)) (r_cond rfl (r_seq (rB T0_ok (q12 P)) r_ret) r_skip)) (r_seq (rB T0_ok (q11 P)) (r_seq (r_seq (rB T0_ok (q10 P)) (r_block (rL (l2 P) (fun N2 => (r_seq (r_seq (rB T0_ok (q9 P N2)) (r_cond rfl r_skip (r_exit (fun _ _ h => h)))) (r_seq (r_block (r_seq (rD T0_ok mixed [(0, false), (1, false), (2, false), (3, false), (4, false), (5, false), (6, false), (7, false)] (by kernel_rfl) (q8 P N2)) (r_seq (r_seq (rD T0_ok mixed [(0, false), (1, false), (2, false), (3, false), (4, false), (5, false), (6, false), (7, false), (8, false), (9, false), (10, false), (11, false), (12, false), (13, false)] (by kernel_rfl) (q7 P N2)) (r_cond rfl (r_exit (fun _ _ h => h)) r_skip)) (r_seq (rB T0_ok (q6 P N2)) (r_seq (rT T0_ok mixed (.op 0 [] (.op 1 [] (.op 2 [] (.op 4 [] (.op 5 [] (.op 6 [] (.op 7 [] (.op 10 [] (.op 11 [] (.op 12 [] (.alt (.op 3 [1, 7] (.op 8 [] (.op 9 [1] (.op 13 [] (.op 14 [] (.op 15 [] .done)))))) (.op 8 [] (.op 3 [1, 7] (.op 9 [1] (.op 13 [] (.op 14 [] (.op 15 [] .done))))))))))))))))) (by kernel_rfl) (q5 P N2)) (rB T0_ok (q4 P N2))))))) (rB T0_ok (q3 P N2)))))))) (r_seq (rB T0_ok (q1 P)) r_ret)))))
theorem ac (P : PT) (x0a : Int) (x0b x1 : Value) (x2 x3 : Int) (x4 : Value) (H : AHeap) (h : B14 P x0a x0b x1 x2 x3 x4 H) : AC Try.prog T0 118 [(Value.agg ⟨[(Value.int .i64 x0a), x0b]⟩), x1, (Value.int .i64 x2), (Value.int .i64 x3), x4] H P :=
  r_fn T0_ok (c := code) (n := 74) Try.func118 body (by kernel_rfl) (main P) (En_mk (x0a, x0b, x1, x2, x3, x4, ()) (by kernel_rfl) ⟨by kernel_rfl, by kernel_rfl, by kernel_rfl, by kernel_rfl, by kernel_rfl, trivial⟩ h)

end F118
-- loop.example/g01329/impl.smallCode
namespace F119
noncomputable def ret (P : PT) : EP := retE T0 18 Try.f119 P
abbrev k0 : Sk := []
noncomputable def o1 := ob Try.f119 [.r,.r,.r,.l]
def B1 (P : PT) (H : AHeap) : Prop :=
  P (Value.int .i64 0) H
theorem q1 (P : PT) : QB Try.prog T0 18 o1 (ret P) k0 (B1 P) := fun _ _  => by kernel_rfl
noncomputable def o2 := ob Try.f119 [.r,.r,.l,.r,.l,.l]
def B2 (P : PT) (H : AHeap) : Prop :=
  P (Value.int .i64 3) H
theorem q2 (P : PT) : QB Try.prog T0 18 o2 (ret P) k0 (B2 P) := fun _ _  => by kernel_rfl
abbrev k1 : Sk := [(2,.i .i64),(3,.x)]
noncomputable def o3 := ob Try.f119 [.r,.r,.l,.l]
def B3 (P : PT) (x2 : Int) (x3 : Nat) (H : AHeap) : Prop :=
  ldI .i64 H x3 0 (fun v1 => pif (decide ((v1 : Int) > x2)) (B2 P H) (B1 P H))
theorem q3 (P : PT) : QB Try.prog T0 18 o3 (cnd 17 (En 18 k0 (B2 P)) (En 18 k0 (B1 P))) k1 (B3 P) := fun _ _ _ _  => by kernel_rfl
abbrev k2 : Sk := [(7,.i .i64)]
noncomputable def o4 := ob Try.f119 [.r,.l,.r,.r,.l,.l]
def B4 (P : PT) (x7 : Int) (H : AHeap) : Prop :=
  P (Value.int .i64 x7) H
theorem q4 (P : PT) : QB Try.prog T0 18 o4 (ret P) k2 (B4 P) := fun _ _ _  => by kernel_rfl
abbrev k3 : Sk := [(2,.i .i64),(3,.x),(7,.i .i64)]
noncomputable def o5 := ob Try.f119 [.r,.l,.r,.l]
def B5 (P : PT) (x2 : Int) (x3 : Nat) (x7 : Int) (H : AHeap) : Prop :=
  pif ((x7 : Int) != 0) (B4 P x7 H) (B3 P x2 x3 H)
theorem q5 (P : PT) : QB Try.prog T0 18 o5 (cnd 12 (En 18 k2 (B4 P)) (En 18 k1 (B3 P))) k3 (B5 P) := fun _ _ _ _ _  => by kernel_rfl
abbrev k4 : Sk := [(1,.b),(2,.i .i64),(3,.x)]
noncomputable def o6 := ob Try.f119 [.r,.l,.l]
def B6 (P : PT) (x1 : Bool) (x2 : Int) (x3 : Nat) (H : AHeap) : Prop :=
  ldI .i64 H x3 0 (fun v1 => ld1 H x3 1 (fun v2 => AC Try.prog T0 41 [(Value.agg ⟨[(Value.int .i64 v1), v2]⟩), (Value.bool x1)] H (fun v3 H4 => asI .i64 v3 (fun v5 => B5 P x2 x3 v5 H4))))
theorem q6 (P : PT) : QB Try.prog T0 18 o6 (En 18 k3 (B5 P)) k4 (B6 P) := fun _ _ _ _ _  => by kernel_rfl
abbrev k5 : Sk := [(0,.g [.i,.v]),(1,.b),(2,.i .i64)]
noncomputable def o7 := ob Try.f119 [.l]
def B7 (P : PT) (x0a : Int) (x0b : Value) (x1 : Bool) (x2 : Int) (H : AHeap) : Prop :=
  newK H [(Value.int .i64 x0a), x0b] 31 (fun b1 H2 => B6 P x1 x2 b1 H2)
theorem q7 (P : PT) : QB Try.prog T0 18 o7 (En 18 k4 (B6 P)) k5 (B7 P) := fun _ _ _ _ _ _  => by kernel_rfl
noncomputable def code : Code := (.seq (.region 0 ⟨o7⟩ false) (.seq (.seq (.region 1 ⟨o6⟩ false) (.seq (.region 2 ⟨o5⟩ false) (.cond (.tmp 12) (.seq (.region 3 ⟨o4⟩ false) .ret) .skip))) (.seq (.seq (.region 4 ⟨o3⟩ false) (.cond (.tmp 17) (.seq (.region 5 ⟨o2⟩ false) .ret) .skip)) (.seq (.region 6 ⟨o1⟩ false) .ret))))
theorem body : Try.f119.body = some code := by kernel_rfl
theorem main (P : PT) : ∀ env H, (En 18 k5 (B7 P)) env H → AW Try.prog T0 code env H (mkQ (ret P) (fun _ _ _ => False) (ret P)) :=
  (r_seq (rB T0_ok (q7 P)) (r_seq (r_seq (rB T0_ok (q6 P)) (r_seq (rB T0_ok (q5 P)) (r_cond rfl (r_seq (rB T0_ok (q4 P)) r_ret) r_skip))) (r_seq (r_seq (rB T0_ok (q3 P)) (r_cond rfl (r_seq (rB T0_ok (q2 P)) r_ret) r_skip)) (r_seq (rB T0_ok (q1 P)) r_ret))))
theorem ac (P : PT) (x0a : Int) (x0b : Value) (x1 : Bool) (x2 : Int) (H : AHeap) (h : B7 P x0a x0b x1 x2 H) : AC Try.prog T0 119 [(Value.agg ⟨[(Value.int .i64 x0a), x0b]⟩), (Value.bool x1), (Value.int .i64 x2)] H P :=
  r_fn T0_ok (c := code) (n := 18) Try.func119 body (by kernel_rfl) (main P) (En_mk (x0a, x0b, x1, x2, ()) (by kernel_rfl) ⟨by kernel_rfl, by kernel_rfl, by kernel_rfl, trivial⟩ h)

end F119
-- (loop.example/g01329/impl.Graph).basis
namespace F120
noncomputable def ret (P : PT) : EP := retE T0 76 Try.f120 P
abbrev k0 : Sk := [(4,.v)]
noncomputable def o1 := ob Try.f120 [.r,.r,.r,.r,.r,.l]
def B1 (P : PT) (x4 : Value) (H : AHeap) : Prop :=
  P x4 H
theorem q1 (P : PT) : QB Try.prog T0 76 o1 (ret P) k0 (B1 P) := fun _ _ _  => by kernel_rfl
abbrev k1 : Sk := [(1,.x),(3,.i .u64),(4,.v),(40,.i .i64),(41,.i .i64)]
noncomputable def o3 := ob Try.f120 [.r,.r,.r,.r,.l,.r,.l,.l,.r,.r,.r]
def B3 (P : PT) (N2 : NTy k1 Pr) (x1 : Nat) (x3 : Int) (x4 : Value) (x40 x41 : Int) (H : AHeap) : Prop :=
  N2 x1 x3 x4 x40 (IntKind.i64.wrap (x41 + 1)) H
theorem q3 (P : PT) (N2 : NTy k1 Pr) : QB Try.prog T0 76 o3 (En 76 k1 N2) k1 (B3 P N2) := fun _ _ _ _ _ _ _  => by kernel_rfl
abbrev k2 : Sk := [(1,.x),(3,.i .u64),(4,.v),(8,.i .u64),(40,.i .i64),(41,.i .i64)]
noncomputable def o4 := ob Try.f120 [.r,.r,.r,.r,.l,.r,.l,.l,.r,.r,.l,.l,.r,.r,.r,.r]
def B4 (P : PT) (N2 : NTy k1 Pr) (x1 : Nat) (x3 : Int) (x4 : Value) (x8 x40 x41 : Int) (H : AHeap) : Prop :=
  newK H [(Value.int .u64 x8)] 82 (fun b1 H2 => apK T0 82 H2 x4 (Value.slice (some ⟨b1, 0, none⟩) 1 (1 + 1)) (fun v3 H4 => B3 P N2 x1 x3 v3 x40 x41 H4))
theorem q4 (P : PT) (N2 : NTy k1 Pr) : QB Try.prog T0 76 o4 (En 76 k1 (B3 P N2)) k2 (B4 P N2) := fun _ _ _ _ _ _ _ _  => by kernel_rfl
abbrev k3 : Sk := [(1,.x),(3,.i .u64),(4,.v),(8,.i .u64),(9,.b),(40,.i .i64),(41,.i .i64)]
abbrev k4 : Sk := [(1,.x),(3,.i .u64),(4,.v),(8,.i .u64),(9,.b),(40,.i .i64),(41,.i .i64),(53,.i .i64),(54,.i .i64)]
noncomputable def o7 := ob Try.f120 [.r,.r,.r,.r,.l,.r,.l,.l,.r,.r,.l,.l,.r,.r,.r,.l,.r,.l,.l,.r,.l,.r,.r,.l,.l,.r,.r,.r]
def B7 (P : PT) (N2 : NTy k1 Pr) (N5 : NTy k3 Pr) (N6 : NTy k4 Pr) (x1 : Nat) (x3 : Int) (x4 : Value) (x8 : Int) (x9 : Bool) (x40 x41 x53 x54 : Int) (H : AHeap) : Prop :=
  N6 x1 x3 x4 x8 x9 x40 x41 x53 (IntKind.i64.wrap (x54 + 1)) H
theorem q7 (P : PT) (N2 : NTy k1 Pr) (N5 : NTy k3 Pr) (N6 : NTy k4 Pr) : QB Try.prog T0 76 o7 (En 76 k4 N6) k4 (B7 P N2 N5 N6) := fun _ _ _ _ _ _ _ _ _ _ _  => by kernel_rfl
abbrev k5 : Sk := [(1,.x),(3,.i .u64),(4,.v),(8,.i .u64),(40,.i .i64),(41,.i .i64),(53,.i .i64),(54,.i .i64)]
noncomputable def o8 := ob Try.f120 [.r,.r,.r,.r,.l,.r,.l,.l,.r,.r,.l,.l,.r,.r,.r,.l,.r,.l,.l,.r,.l,.r,.r,.l,.l,.r,.r,.l,.l,.r,.r,.r,.l,.r]
def B8 (P : PT) (N2 : NTy k1 Pr) (N5 : NTy k3 Pr) (N6 : NTy k4 Pr) (x1 : Nat) (x3 : Int) (x4 : Value) (x8 x40 x41 x53 x54 : Int) (H : AHeap) : Prop :=
  B7 P N2 N5 N6 x1 x3 x4 x8 true x40 x41 x53 x54 H
theorem q8 (P : PT) (N2 : NTy k1 Pr) (N5 : NTy k3 Pr) (N6 : NTy k4 Pr) : QB Try.prog T0 76 o8 (En 76 k4 (B7 P N2 N5 N6)) k5 (B8 P N2 N5 N6) := fun _ _ _ _ _ _ _ _ _ _  => by kernel_rfl
abbrev k6 : Sk := [(1,.x),(3,.i .u64),(4,.v),(8,.i .u64),(11,.i .u64),(40,.i .i64),(41,.i .i64),(53,.i .i64),(54,.i .i64)]
noncomputable def o9 := ob Try.f120 [.r,.r,.r,.r,.l,.r,.l,.l,.r,.r,.l,.l,.r,.r,.r,.l,.r,.l,.l,.r,.l,.r,.r,.l,.l,.r,.r,.l,.l,.r,.r,.r,.l,.l]
def B9 (P : PT) (N2 : NTy k1 Pr) (N5 : NTy k3 Pr) (N6 : NTy k4 Pr) (x1 : Nat) (x3 : Int) (x4 : Value) (x8 x11 x40 x41 x53 x54 : Int) (H : AHeap) : Prop :=
  B8 P N2 N5 N6 x1 x3 x4 (IntKind.u64.wrap (BitVec.ofInt 64 x8 &&& ~~~(BitVec.ofInt 64 x11)).toNat) x40 x41 x53 x54 H
theorem q9 (P : PT) (N2 : NTy k1 Pr) (N5 : NTy k3 Pr) (N6 : NTy k4 Pr) : QB Try.prog T0 76 o9 (En 76 k5 (B8 P N2 N5 N6)) k6 (B9 P N2 N5 N6) := fun _ _ _ _ _ _ _ _ _ _ _  => by kernel_rfl
abbrev k7 : Sk := [(1,.x),(3,.i .u64),(4,.v),(8,.i .u64),(9,.b),(11,.i .u64),(40,.i .i64),(41,.i .i64),(53,.i .i64),(54,.i .i64)]
noncomputable def o10 := ob Try.f120 [.r,.r,.r,.r,.l,.r,.l,.l,.r,.r,.l,.l,.r,.r,.r,.l,.r,.l,.l,.r,.l,.r,.r,.l,.l,.r,.r,.l,.l,.r,.r,.l]
def B10 (P : PT) (N2 : NTy k1 Pr) (N5 : NTy k3 Pr) (N6 : NTy k4 Pr) (x1 : Nat) (x3 : Int) (x4 : Value) (x8 : Int) (x9 : Bool) (x11 x40 x41 x53 x54 : Int) (H : AHeap) : Prop :=
  AC Try.prog T0 66 [(Value.int .u64 x11)] H (fun v1 H2 => asI .i64 v1 (fun v3 => pif ((v3 : Int) == 1) (B9 P N2 N5 N6 x1 x3 x4 x8 x11 x40 x41 x53 x54 H2) (B7 P N2 N5 N6 x1 x3 x4 x8 x9 x40 x41 x53 x54 H2)))
theorem q10 (P : PT) (N2 : NTy k1 Pr) (N5 : NTy k3 Pr) (N6 : NTy k4 Pr) : QB Try.prog T0 76 o10 (cnd 65 (En 76 k6 (B9 P N2 N5 N6)) (En 76 k4 (B7 P N2 N5 N6))) k7 (B10 P N2 N5 N6) := fun _ _ _ _ _ _ _ _ _ _ _ _  => by kernel_rfl
abbrev k8 : Sk := [(1,.x),(3,.i .u64),(4,.v),(8,.i .u64),(9,.b),(10,.i .i64),(40,.i .i64),(41,.i .i64),(53,.i .i64),(54,.i .i64)]
noncomputable def o11 := ob Try.f120 [.r,.r,.r,.r,.l,.r,.l,.l,.r,.r,.l,.l,.r,.r,.r,.l,.r,.l,.l,.r,.l,.r,.r,.l,.l,.r,.r,.l,.l,.r,.l]
def B11 (P : PT) (N2 : NTy k1 Pr) (N5 : NTy k3 Pr) (N6 : NTy k4 Pr) (x1 : Nat) (x3 : Int) (x4 : Value) (x8 : Int) (x9 : Bool) (x10 x40 x41 x53 x54 : Int) (H : AHeap) : Prop :=
  ldI .i64 H x1 0 (fun v1 => ld1 H x1 1 (fun v2 => AC Try.prog T0 95 [(Value.agg ⟨[(Value.int .i64 v1), v2]⟩), (Value.int .i64 x10)] H (fun v3 H4 => AC Try.prog T0 58 [v3] H4 (fun v6 H7 => asI .u64 v6 (fun v8 => B10 P N2 N5 N6 x1 x3 x4 x8 x9 (IntKind.u64.wrap (BitVec.ofInt 64 v8 &&& BitVec.ofInt 64 x8).toNat) x40 x41 x53 x54 H7)))))
theorem q11 (P : PT) (N2 : NTy k1 Pr) (N5 : NTy k3 Pr) (N6 : NTy k4 Pr) : QB Try.prog T0 76 o11 (En 76 k7 (B10 P N2 N5 N6)) k8 (B11 P N2 N5 N6) := fun _ _ _ _ _ _ _ _ _ _ _ _  => by kernel_rfl
noncomputable def o12 := ob Try.f120 [.r,.r,.r,.r,.l,.r,.l,.l,.r,.r,.l,.l,.r,.r,.r,.l,.r,.l,.l,.r,.l,.r,.r,.l,.l,.r,.r,.l,.l,.l]
def B12 (P : PT) (N2 : NTy k1 Pr) (N5 : NTy k3 Pr) (N6 : NTy k4 Pr) (x1 : Nat) (x3 : Int) (x4 : Value) (x8 : Int) (x9 : Bool) (x40 x41 x53 x54 : Int) (H : AHeap) : Prop :=
  B11 P N2 N5 N6 x1 x3 x4 x8 x9 x54 x40 x41 x53 x54 H
theorem q12 (P : PT) (N2 : NTy k1 Pr) (N5 : NTy k3 Pr) (N6 : NTy k4 Pr) : QB Try.prog T0 76 o12 (En 76 k8 (B11 P N2 N5 N6)) k4 (B12 P N2 N5 N6) := fun _ _ _ _ _ _ _ _ _ _ _  => by kernel_rfl
noncomputable def o13 := ob Try.f120 [.r,.r,.r,.r,.l,.r,.l,.l,.r,.r,.l,.l,.r,.r,.r,.l,.r,.l,.l,.r,.l,.r,.r,.l,.l,.l]
def B13 (P : PT) (N2 : NTy k1 Pr) (N5 : NTy k3 Pr) (N6 : NTy k4 Pr) (x1 : Nat) (x3 : Int) (x4 : Value) (x8 : Int) (x9 : Bool) (x40 x41 x53 x54 : Int) (H : AHeap) : Prop :=
  pif (decide ((x54 : Int) < x53)) (B12 P N2 N5 N6 x1 x3 x4 x8 x9 x40 x41 x53 x54 H) (N5 x1 x3 x4 x8 x9 x40 x41 H)
theorem q13 (P : PT) (N2 : NTy k1 Pr) (N5 : NTy k3 Pr) (N6 : NTy k4 Pr) : QB Try.prog T0 76 o13 (cnd 55 (En 76 k4 (B12 P N2 N5 N6)) (En 76 k3 N5)) k4 (B13 P N2 N5 N6) := fun _ _ _ _ _ _ _ _ _ _ _  => by kernel_rfl
def L6 (P : PT) (N2 : NTy k1 Pr) (N5 : NTy k3 Pr) (x1 : Nat) (x3 : Int) (x4 : Value) (x8 : Int) (x9 : Bool) (x40 x41 x53 x54 : Int) (H : AHeap) : Prop :=
  ∃ (I : NTy k4 Pr) (μ : NTy k4 (AHeap → Nat)), I x1 x3 x4 x8 x9 x40 x41 x53 x54 H ∧ ∀ y1 y3 y4 y8 y9 y40 y41 y53 y54 G, I y1 y3 y4 y8 y9 y40 y41 y53 y54 G → B13 P N2 N5 (fun z1 z3 z4 z8 z9 z40 z41 z53 z54 G' => I z1 z3 z4 z8 z9 z40 z41 z53 z54 G' ∧ μ z1 z3 z4 z8 z9 z40 z41 z53 z54 G' < μ y1 y3 y4 y8 y9 y40 y41 y53 y54 G) y1 y3 y4 y8 y9 y40 y41 y53 y54 G
theorem l6 (P : PT) (N2 : NTy k1 Pr) (N5 : NTy k3 Pr) : LQ k4 (L6 P N2 N5) (B13 P N2 N5) := fun ⟨_,_,_,_,_,_,_,_,_,_⟩ _ ⟨I, μ, h0, hI⟩ => ⟨apT _ I, apT _ μ, h0, fun ⟨_,_,_,_,_,_,_,_,_,_⟩ _ h => hI _ _ _ _ _ _ _ _ _ _  h⟩
noncomputable def o14 := ob Try.f120 [.r,.r,.r,.r,.l,.r,.l,.l,.r,.r,.l,.l,.r,.r,.r,.l,.r,.l,.l,.r,.l,.r,.l]
def B14 (P : PT) (N2 : NTy k1 Pr) (N5 : NTy k3 Pr) (x1 : Nat) (x3 : Int) (x4 : Value) (x8 : Int) (x9 : Bool) (x40 x41 : Int) (H : AHeap) : Prop :=
  ldI .i64 H x1 0 (fun v1 => L6 P N2 N5 x1 x3 x4 x8 x9 x40 x41 v1 0 H)
theorem q14 (P : PT) (N2 : NTy k1 Pr) (N5 : NTy k3 Pr) : QB Try.prog T0 76 o14 (En 76 k4 (L6 P N2 N5)) k3 (B14 P N2 N5) := fun _ _ _ _ _ _ _ _ _  => by kernel_rfl
noncomputable def o15 := ob Try.f120 [.r,.r,.r,.r,.l,.r,.l,.l,.r,.r,.l,.l,.r,.r,.r,.l,.r,.l,.l,.r,.l,.l]
def B15 (P : PT) (N2 : NTy k1 Pr) (N5 : NTy k3 Pr) (x1 : Nat) (x3 : Int) (x4 : Value) (x8 x40 x41 : Int) (H : AHeap) : Prop :=
  B14 P N2 N5 x1 x3 x4 x8 false x40 x41 H
theorem q15 (P : PT) (N2 : NTy k1 Pr) (N5 : NTy k3 Pr) : QB Try.prog T0 76 o15 (En 76 k3 (B14 P N2 N5)) k2 (B15 P N2 N5) := fun _ _ _ _ _ _ _ _  => by kernel_rfl
noncomputable def o16 := ob Try.f120 [.r,.r,.r,.r,.l,.r,.l,.l,.r,.r,.l,.l,.r,.r,.r,.l,.r,.l,.l,.l,.l]
def B16 (P : PT) (N2 : NTy k1 Pr) (N5 : NTy k3 Pr) (x1 : Nat) (x3 : Int) (x4 : Value) (x8 : Int) (x9 : Bool) (x40 x41 : Int) (H : AHeap) : Prop :=
  pif x9 (B15 P N2 N5 x1 x3 x4 x8 x40 x41 H) (B4 P N2 x1 x3 x4 x8 x40 x41 H)
theorem q16 (P : PT) (N2 : NTy k1 Pr) (N5 : NTy k3 Pr) : QB Try.prog T0 76 o16 (cnd 51 (En 76 k2 (B15 P N2 N5)) (En 76 k2 (B4 P N2))) k3 (B16 P N2 N5) := fun _ _ _ _ _ _ _ _ _  => by kernel_rfl
def L5 (P : PT) (N2 : NTy k1 Pr) (x1 : Nat) (x3 : Int) (x4 : Value) (x8 : Int) (x9 : Bool) (x40 x41 : Int) (H : AHeap) : Prop :=
  ∃ (I : NTy k3 Pr) (μ : NTy k3 (AHeap → Nat)), I x1 x3 x4 x8 x9 x40 x41 H ∧ ∀ y1 y3 y4 y8 y9 y40 y41 G, I y1 y3 y4 y8 y9 y40 y41 G → B16 P N2 (fun z1 z3 z4 z8 z9 z40 z41 G' => I z1 z3 z4 z8 z9 z40 z41 G' ∧ μ z1 z3 z4 z8 z9 z40 z41 G' < μ y1 y3 y4 y8 y9 y40 y41 G) y1 y3 y4 y8 y9 y40 y41 G
theorem l5 (P : PT) (N2 : NTy k1 Pr) : LQ k3 (L5 P N2) (B16 P N2) := fun ⟨_,_,_,_,_,_,_,_⟩ _ ⟨I, μ, h0, hI⟩ => ⟨apT _ I, apT _ μ, h0, fun ⟨_,_,_,_,_,_,_,_⟩ _ h => hI _ _ _ _ _ _ _ _  h⟩
noncomputable def o17 := ob Try.f120 [.r,.r,.r,.r,.l,.r,.l,.l,.r,.r,.l,.l,.r,.r,.r,.l,.l]
def B17 (P : PT) (N2 : NTy k1 Pr) (x1 : Nat) (x3 : Int) (x4 : Value) (x8 x40 x41 : Int) (H : AHeap) : Prop :=
  L5 P N2 x1 x3 x4 x8 true x40 x41 H
theorem q17 (P : PT) (N2 : NTy k1 Pr) : QB Try.prog T0 76 o17 (En 76 k3 (L5 P N2)) k2 (B17 P N2) := fun _ _ _ _ _ _ _ _  => by kernel_rfl
abbrev k9 : Sk := [(1,.x),(3,.i .u64),(4,.v),(7,.i .i64),(40,.i .i64),(41,.i .i64)]
noncomputable def o18 := ob Try.f120 [.r,.r,.r,.r,.l,.r,.l,.l,.r,.r,.l,.l,.r,.r,.l]
def B18 (P : PT) (N2 : NTy k1 Pr) (x1 : Nat) (x3 : Int) (x4 : Value) (x7 x40 x41 : Int) (H : AHeap) : Prop :=
  ((0 : Int) ≤ x7) ∧ (B17 P N2 x1 x3 x4 (IntKind.u64.wrap (BitVec.ofInt 64 x3 ||| BitVec.ofInt 64 (IntKind.u64.wrap (1 * 2 ^ (min (Int.toNat x7) 64)))).toNat) x40 x41 H)
theorem q18 (P : PT) (N2 : NTy k1 Pr) : QB Try.prog T0 76 o18 (En 76 k2 (B17 P N2)) k9 (B18 P N2) := fun _ _ _ _ _ _ _ _  => by kernel_rfl
noncomputable def o19 := ob Try.f120 [.r,.r,.r,.r,.l,.r,.l,.l,.r,.r,.l,.l,.r,.l,.l]
def B19 (P : PT) (N2 : NTy k1 Pr) (x1 : Nat) (x3 : Int) (x4 : Value) (x7 x40 x41 : Int) (H : AHeap) : Prop :=
  AC Try.prog T0 79 [(Value.int .u64 x3), (Value.int .i64 x7)] H (fun v1 H2 => asB v1 (fun v3 => pif v3 (B3 P N2 x1 x3 x4 x40 x41 H2) (B18 P N2 x1 x3 x4 x7 x40 x41 H2)))
theorem q19 (P : PT) (N2 : NTy k1 Pr) : QB Try.prog T0 76 o19 (cnd 46 (En 76 k1 (B3 P N2)) (En 76 k9 (B18 P N2))) k9 (B19 P N2) := fun _ _ _ _ _ _ _ _  => by kernel_rfl
noncomputable def o20 := ob Try.f120 [.r,.r,.r,.r,.l,.r,.l,.l,.r,.r,.l,.l,.l]
def B20 (P : PT) (N2 : NTy k1 Pr) (x1 : Nat) (x3 : Int) (x4 : Value) (x40 x41 : Int) (H : AHeap) : Prop :=
  B19 P N2 x1 x3 x4 x41 x40 x41 H
theorem q20 (P : PT) (N2 : NTy k1 Pr) : QB Try.prog T0 76 o20 (En 76 k9 (B19 P N2)) k1 (B20 P N2) := fun _ _ _ _ _ _ _  => by kernel_rfl
noncomputable def o21 := ob Try.f120 [.r,.r,.r,.r,.l,.r,.l,.l,.l]
def B21 (P : PT) (N2 : NTy k1 Pr) (x1 : Nat) (x3 : Int) (x4 : Value) (x40 x41 : Int) (H : AHeap) : Prop :=
  pif (decide ((x41 : Int) < x40)) (B20 P N2 x1 x3 x4 x40 x41 H) (B1 P x4 H)
theorem q21 (P : PT) (N2 : NTy k1 Pr) : QB Try.prog T0 76 o21 (cnd 42 (En 76 k1 (B20 P N2)) (En 76 k0 (B1 P))) k1 (B21 P N2) := fun _ _ _ _ _ _ _  => by kernel_rfl
def L2 (P : PT) (x1 : Nat) (x3 : Int) (x4 : Value) (x40 x41 : Int) (H : AHeap) : Prop :=
  ∃ (I : NTy k1 Pr) (μ : NTy k1 (AHeap → Nat)), I x1 x3 x4 x40 x41 H ∧ ∀ y1 y3 y4 y40 y41 G, I y1 y3 y4 y40 y41 G → B21 P (fun z1 z3 z4 z40 z41 G' => I z1 z3 z4 z40 z41 G' ∧ μ z1 z3 z4 z40 z41 G' < μ y1 y3 y4 y40 y41 G) y1 y3 y4 y40 y41 G
theorem l2 (P : PT) : LQ k1 (L2 P) (B21 P) := fun ⟨_,_,_,_,_,_⟩ _ ⟨I, μ, h0, hI⟩ => ⟨apT _ I, apT _ μ, h0, fun ⟨_,_,_,_,_,_⟩ _ h => hI _ _ _ _ _ _  h⟩
abbrev k10 : Sk := [(1,.x),(3,.i .u64),(4,.v)]
noncomputable def o22 := ob Try.f120 [.r,.r,.r,.r,.l,.l]
def B22 (P : PT) (x1 : Nat) (x3 : Int) (x4 : Value) (H : AHeap) : Prop :=
  ld1 H x1 1 (fun v1 => lenK v1 (fun n2 => L2 P x1 x3 x4 (n2 : Int) 0 H))
theorem q22 (P : PT) : QB Try.prog T0 76 o22 (En 76 k1 (L2 P)) k10 (B22 P) := fun _ _ _ _ _  => by kernel_rfl
abbrev k11 : Sk := [(1,.x),(3,.i .u64),(4,.v),(13,.v),(14,.i .i64),(15,.i .i64)]
noncomputable def o24 := ob Try.f120 [.r,.r,.r,.l,.r,.l,.l,.r,.r,.r]
def B24 (P : PT) (N23 : NTy k11 Pr) (x1 : Nat) (x3 : Int) (x4 x13 : Value) (x14 x15 : Int) (H : AHeap) : Prop :=
  N23 x1 x3 x4 x13 x14 (IntKind.i64.wrap (x15 + 1)) H
theorem q24 (P : PT) (N23 : NTy k11 Pr) : QB Try.prog T0 76 o24 (En 76 k11 N23) k11 (B24 P N23) := fun _ _ _ _ _ _ _ _  => by kernel_rfl
abbrev k12 : Sk := [(1,.x),(3,.i .u64),(4,.v),(5,.i .i64),(13,.v),(14,.i .i64),(15,.i .i64)]
noncomputable def o25 := ob Try.f120 [.r,.r,.r,.l,.r,.l,.l,.r,.r,.l,.l,.r,.r,.l]
def B25 (P : PT) (N23 : NTy k11 Pr) (x1 : Nat) (x3 : Int) (x4 : Value) (x5 : Int) (x13 : Value) (x14 x15 : Int) (H : AHeap) : Prop :=
  ((0 : Int) ≤ x5) ∧ (B24 P N23 x1 (IntKind.u64.wrap (BitVec.ofInt 64 x3 ||| BitVec.ofInt 64 (IntKind.u64.wrap (1 * 2 ^ (min (Int.toNat x5) 64)))).toNat) x4 x13 x14 x15 H)
theorem q25 (P : PT) (N23 : NTy k11 Pr) : QB Try.prog T0 76 o25 (En 76 k11 (B24 P N23)) k12 (B25 P N23) := fun _ _ _ _ _ _ _ _ _  => by kernel_rfl
abbrev k13 : Sk := [(1,.x),(3,.i .u64),(4,.v),(5,.i .i64),(6,.x),(13,.v),(14,.i .i64),(15,.i .i64)]
noncomputable def o26 := ob Try.f120 [.r,.r,.r,.l,.r,.l,.l,.r,.r,.l,.l,.r,.l]
def B26 (P : PT) (N23 : NTy k11 Pr) (x1 : Nat) (x3 : Int) (x4 : Value) (x5 : Int) (x6 : Nat) (x13 : Value) (x14 x15 : Int) (H : AHeap) : Prop :=
  ldI .i64 H x1 0 (fun v1 => ld1 H x1 1 (fun v2 => ldI .i64 H x6 0 (fun v3 => ldI .i64 H x1 0 (fun v4 => ld1 H x1 1 (fun v5 => ldI .i64 H x6 1 (fun v6 => AC Try.prog T0 114 [(Value.agg ⟨[(Value.int .i64 v4), v5]⟩)] H (fun v7 H8 => asI .u64 v7 (fun v9 => (AHeap.le H H8) ∧ (AC Try.prog T0 166 [(Value.agg ⟨[(Value.int .i64 v1), v2]⟩), (Value.int .i64 v3), (Value.int .u64 (IntKind.u64.wrap (BitVec.ofInt 64 v9 &&& ~~~(BitVec.ofInt 64 x3)).toNat))] H8 (fun v10 H11 => (AHeap.le H8 H11) ∧ (idxK v10 v6 1 (fun b13 o14 => ldI .i64 H11 b13 o14 (fun v15 => pif (decide ((v15 : Int) < 0)) (B25 P N23 x1 x3 x4 x5 x13 x14 x15 H11) (B24 P N23 x1 x3 x4 x13 x14 x15 H11))))))))))))))
theorem q26 (P : PT) (N23 : NTy k11 Pr) : QD Try.prog T0 76 o26 [(0, false), (1, false), (2, false), (3, false), (5, false), (8, false), (9, false), (4, true), (6, false), (7, true), (10, false), (11, false), (12, false)] (cnd 32 (En 76 k12 (B25 P N23)) (En 76 k11 (B24 P N23))) k13 (B26 P N23) := fun _ _ _ _ _ _ _ _ _ _  => by kernel_rfl
noncomputable def o27 := ob Try.f120 [.r,.r,.r,.l,.r,.l,.l,.r,.r,.l,.l,.l]
def B27 (P : PT) (N23 : NTy k11 Pr) (x1 : Nat) (x3 : Int) (x4 x13 : Value) (x14 x15 : Int) (H : AHeap) : Prop :=
  idxK x13 x15 2 (fun b1 o2 => ldI .i64 H b1 o2 (fun v3 => ldI .i64 H b1 (o2 + 1) (fun v4 => newK H [(Value.int .i64 0), (Value.int .i64 0)] 67 (fun b5 H6 => stK H6 b5 0 [(Value.int .i64 v3), (Value.int .i64 v4)] (fun H7 => B26 P N23 x1 x3 x4 x15 b5 x13 x14 x15 H7)))))
theorem q27 (P : PT) (N23 : NTy k11 Pr) : QB Try.prog T0 76 o27 (En 76 k13 (B26 P N23)) k11 (B27 P N23) := fun _ _ _ _ _ _ _ _  => by kernel_rfl
noncomputable def o28 := ob Try.f120 [.r,.r,.r,.l,.r,.l,.l,.l]
def B28 (P : PT) (N23 : NTy k11 Pr) (x1 : Nat) (x3 : Int) (x4 x13 : Value) (x14 x15 : Int) (H : AHeap) : Prop :=
  pif (decide ((x15 : Int) < x14)) (B27 P N23 x1 x3 x4 x13 x14 x15 H) (B22 P x1 x3 x4 H)
theorem q28 (P : PT) (N23 : NTy k11 Pr) : QB Try.prog T0 76 o28 (cnd 16 (En 76 k11 (B27 P N23)) (En 76 k10 (B22 P))) k11 (B28 P N23) := fun _ _ _ _ _ _ _ _  => by kernel_rfl
def L23 (P : PT) (x1 : Nat) (x3 : Int) (x4 x13 : Value) (x14 x15 : Int) (H : AHeap) : Prop :=
  ∃ (I : NTy k11 Pr) (μ : NTy k11 (AHeap → Nat)), I x1 x3 x4 x13 x14 x15 H ∧ ∀ y1 y3 y4 y13 y14 y15 G, I y1 y3 y4 y13 y14 y15 G → B28 P (fun z1 z3 z4 z13 z14 z15 G' => I z1 z3 z4 z13 z14 z15 G' ∧ μ z1 z3 z4 z13 z14 z15 G' < μ y1 y3 y4 y13 y14 y15 G) y1 y3 y4 y13 y14 y15 G
theorem l23 (P : PT) : LQ k11 (L23 P) (B28 P) := fun ⟨_,_,_,_,_,_,_⟩ _ ⟨I, μ, h0, hI⟩ => ⟨apT _ I, apT _ μ, h0, fun ⟨_,_,_,_,_,_,_⟩ _ h => hI _ _ _ _ _ _ _  h⟩
noncomputable def o29 := ob Try.f120 [.r,.r,.r,.l,.l]
def B29 (P : PT) (x1 : Nat) (x3 : Int) (x4 : Value) (H : AHeap) : Prop :=
  ld1 H x1 1 (fun v1 => lenK v1 (fun n2 => L23 P x1 x3 x4 v1 (n2 : Int) 0 H))
theorem q29 (P : PT) : QB Try.prog T0 76 o29 (En 76 k11 (L23 P)) k10 (B29 P) := fun _ _ _ _ _  => by kernel_rfl
abbrev k14 : Sk := [(1,.x),(3,.i .u64)]
noncomputable def o30 := ob Try.f120 [.r,.r,.l]
def B30 (P : PT) (x1 : Nat) (x3 : Int) (H : AHeap) : Prop :=
  B29 P x1 x3 (Value.slice none 0 0) H
theorem q30 (P : PT) : QB Try.prog T0 76 o30 (En 76 k10 (B29 P)) k14 (B30 P) := fun _ _ _ _  => by kernel_rfl
abbrev k15 : Sk := [(1,.x)]
noncomputable def o31 := ob Try.f120 [.r,.l]
def B31 (P : PT) (x1 : Nat) (H : AHeap) : Prop :=
  B30 P x1 0 H
theorem q31 (P : PT) : QB Try.prog T0 76 o31 (En 76 k14 (B30 P)) k15 (B31 P) := fun _ _ _  => by kernel_rfl
abbrev k16 : Sk := [(0,.g [.i,.v])]
noncomputable def o32 := ob Try.f120 [.l]
def B32 (P : PT) (x0a : Int) (x0b : Value) (H : AHeap) : Prop :=
  newK H [(Value.int .i64 x0a), x0b] 31 (fun b1 H2 => B31 P b1 H2)
theorem q32 (P : PT) : QB Try.prog T0 76 o32 (En 76 k15 (B31 P)) k16 (B32 P) := fun _ _ _ _  => by kernel_rfl
noncomputable def code : Code := (.seq (.region 0 ⟨o32⟩ false) (.seq (.region 1 ⟨o31⟩ false) (.seq (.region 2 ⟨o30⟩ false) (.seq (.seq (.region 3 ⟨o29⟩ false) (.block 0 (.loop (.seq (.region 4 ⟨o28⟩ false) (.seq (.cond (.tmp 16) .skip (.exit 0)) (.seq (.block 1 (.seq (.region 5 ⟨o27⟩ false) (.seq (.region 6 ⟨o26⟩ true) (.cond (.tmp 32) (.region 7 ⟨o25⟩ false) .skip)))) (.region 8 ⟨o24⟩ false))))))) (.seq (.seq (.region 9 ⟨o22⟩ false) (.block 2 (.loop (.seq (.region 10 ⟨o21⟩ false) (.seq (.cond (.tmp 42) .skip (.exit 2)) (.seq (.block 3 (.seq (.region 11 ⟨o20⟩ false) (.seq (.seq (.region 12 ⟨o19⟩ false) (.cond (.tmp 46) (.exit 3) .skip)) (.seq (.region 13 ⟨o18⟩ false) (.seq (.seq (.region 14 ⟨o17⟩ false) (.block 4 (.loop (.seq (.seq (.region 15 ⟨o16⟩ false) (.cond (.tmp 51) .skip (.exit 4))) (.block 5 (.seq (.region 16 ⟨o15⟩ false) (.seq (.region 17 ⟨o14⟩ false) (.block 6 (.loop (.seq (.region 18 ⟨o13⟩ false) (.seq (.cond (.tmp 55) .skip (.exit 6)) (.seq (.block 7 (.seq (.region 19 ⟨o12⟩ false) (.seq (.region 20 ⟨o11⟩ false) (.seq (.region 21 ⟨o10⟩ false) (.cond (.tmp 65) (.seq (.region 22 ⟨o9⟩ false) (.region 23 ⟨o8⟩ false)) .skip))))) (.region 24 ⟨o7⟩ false))))))))))))) (.region 25 ⟨o4⟩ false)))))) (.region 26 ⟨o3⟩ false))))))) (.seq (.region 27 ⟨o1⟩ false) .ret))))))
theorem body : Try.f120.body = some code := by kernel_rfl
theorem main (P : PT) : ∀ env H, (En 76 k16 (B32 P)) env H → AW Try.prog T0 code env H (mkQ (ret P) (fun _ _ _ => False) (ret P)) :=
  (r_seq (rB T0_ok (q32 P)) (r_seq (rB T0_ok (q31 P)) (r_seq (rB T0_ok (q30 P)) (r_seq (r_seq (rB T0_ok (q29 P)) (r_block (rL (l23 P) (fun N23 => (r_seq (rB T0_ok (q28 P N23)) (r_seq (r_cond rfl r_skip (r_exit (fun _ _ h => h))) (r_seq (r_block (r_seq (rB T0_ok (q27 P N23)) (r_seq (rD T0_ok mixed [(0, false), (1, false), (2, false), (3, false), (5, false), (8, false), (9, false), (4, true), (6, false), (7, true), (10, false), (11, false), (12, false)] (by kernel_rfl) (q26 P N23)) (r_cond rfl (rB T0_ok (q25 P N23)) r_skip)))) (rB T0_ok (q24 P N23))))))))) (r_seq (r_seq (rB T0_ok (q22 P)) (r_block (rL (l2 P) (fun N2 => (r_seq (rB T0_ok (q21 P N2)) (r_seq (r_cond rfl r_skip (r_exit (fun _ _ h => h))) (r_seq (r_block (r_seq (rB T0_ok (q20 P N2)) (r_seq (r_seq (rB T0_ok (q19 P N2)) (r_cond rfl (r_exit (fun _ _ h => h)) r_skip)) (r_seq (rB T0_ok (q18 P N2)) (r_seq (r_seq (rB T0_ok (q17 P N2)) (r_block (rL (l5 P N2) (fun N5 => (r_seq (r_seq (rB T0_ok (q16 P N2 N5)) (r_cond rfl r_skip (r_exit (fun _ _ h => h)))) (r_block (r_seq (rB T0_ok (q15 P N2 N5)) (r_seq (rB T0_ok (q14 P N2 N5)) (r_block (rL (l6 P N2 N5) (fun N6 => (r_seq (rB T0_ok (q13 P N2 N5 N6)) (r_seq (r_cond rfl r_skip (r_exit (fun _ _ h => h))) (r_seq (r_block (r_seq (rB T0_ok (q12 P N2 N5 N6)) (r_seq (rB T0_ok (q11 P N2 N5 N6)) (r_seq (rB T0_ok (q10 P N2 N5 N6)) (r_cond rfl (r_seq (rB T0_ok (q9 P N2 N5 N6)) (rB T0_ok (q8 P N2 N5 N6))) r_skip))))) (rB T0_ok (q7 P N2 N5 N6)))))))))))))))) (rB T0_ok (q4 P N2))))))) (rB T0_ok (q3 P N2))))))))) (r_seq (rB T0_ok (q1 P)) r_ret))))))
theorem ac (P : PT) (x0a : Int) (x0b : Value) (H : AHeap) (h : B32 P x0a x0b H) : AC Try.prog T0 120 [(Value.agg ⟨[(Value.int .i64 x0a), x0b]⟩)] H P :=
  r_fn T0_ok (c := code) (n := 76) Try.func120 body (by kernel_rfl) (main P) (En_mk (x0a, x0b, ()) (by kernel_rfl) ⟨by kernel_rfl, trivial⟩ h)

end F120
-- slices.Clone[[]loop.example/g01329/impl.set,loop.example/g01329/impl.set]
namespace F121
noncomputable def ret (P : PT) : EP := retE T0 8 Try.f121 P
abbrev k0 : Sk := [(0,.v)]
noncomputable def o1 := ob Try.f121 [.r,.r,.l]
def B1 (P : PT) (x0 : Value) (H : AHeap) : Prop :=
  newK H [] 82 (fun b1 H2 => apK T0 82 H2 (Value.slice (some ⟨b1, 0, none⟩) 0 (0 + 1)) x0 (fun v3 H4 => P v3 H4))
theorem q1 (P : PT) : QB Try.prog T0 8 o1 (ret P) k0 (B1 P) := fun _ _ _  => by kernel_rfl
abbrev k1 : Sk := []
noncomputable def o2 := ob Try.f121 [.r,.l,.r,.l,.l]
def B2 (P : PT) (H : AHeap) : Prop :=
  P (Value.slice none 0 0) H
theorem q2 (P : PT) : QB Try.prog T0 8 o2 (ret P) k1 (B2 P) := fun _ _  => by kernel_rfl
noncomputable def o3 := ob Try.f121 [.r,.l,.l]
def B3 (P : PT) (x0 : Value) (H : AHeap) : Prop :=
  isNilK x0 (fun v1 => pif v1 (B2 P H) (B1 P x0 H))
theorem q3 (P : PT) : QB Try.prog T0 8 o3 (cnd 4 (En 8 k1 (B2 P)) (En 8 k0 (B1 P))) k0 (B3 P) := fun _ _ _  => by kernel_rfl
noncomputable def o4 := ob Try.f121 [.l]
def B4 (P : PT) (x0 : Value) (H : AHeap) : Prop :=
  B3 P x0 H
theorem q4 (P : PT) : QB Try.prog T0 8 o4 (En 8 k0 (B3 P)) k0 (B4 P) := fun _ _ _  => by kernel_rfl
noncomputable def code : Code := (.seq (.region 0 ⟨o4⟩ false) (.seq (.seq (.region 1 ⟨o3⟩ false) (.cond (.tmp 4) (.seq (.region 2 ⟨o2⟩ false) .ret) .skip)) (.seq (.region 3 ⟨o1⟩ false) .ret)))
theorem body : Try.f121.body = some code := by kernel_rfl
theorem main (P : PT) : ∀ env H, (En 8 k0 (B4 P)) env H → AW Try.prog T0 code env H (mkQ (ret P) (fun _ _ _ => False) (ret P)) :=
  (r_seq (rB T0_ok (q4 P)) (r_seq (r_seq (rB T0_ok (q3 P)) (r_cond rfl (r_seq (rB T0_ok (q2 P)) r_ret) r_skip)) (r_seq (rB T0_ok (q1 P)) r_ret)))
theorem ac (P : PT) (x0 : Value) (H : AHeap) (h : B4 P x0 H) : AC Try.prog T0 121 [x0] H P :=
  r_fn T0_ok (c := code) (n := 8) Try.func121 body (by kernel_rfl) (main P) (En_mk (x0, ()) (by kernel_rfl) ⟨by kernel_rfl, trivial⟩ h)

end F121
-- slices.DeleteFunc[[]loop.example/g01329/impl.set,loop.example/g01329/impl.set]
namespace F122
noncomputable def ret (P : PT) : EP := retE T0 42 Try.f122 P
abbrev k0 : Sk := [(0,.v),(5,.i .i64)]
noncomputable def o1 := ob Try.f122 [.r,.r,.r,.r,.r,.l]
def B1 (P : PT) (x0 : Value) (x5 : Int) (H : AHeap) : Prop :=
  sliceK H 82 x0 none (some (Value.int .i64 x5)) 1 (fun v1 => P v1 H)
theorem q1 (P : PT) : QB Try.prog T0 42 o1 (ret P) k0 (B1 P) := fun _ _ _ _  => by kernel_rfl
noncomputable def o2 := ob Try.f122 [.r,.r,.r,.r,.l]
def B2 (P : PT) (x0 : Value) (x5 : Int) (H : AHeap) : Prop :=
  sliceK H 82 x0 (some (Value.int .i64 x5)) none 1 (fun v1 => clrK T0 82 H v1 (fun H2 => B1 P x0 x5 H2))
theorem q2 (P : PT) : QB Try.prog T0 42 o2 (En 42 k0 (B1 P)) k0 (B2 P) := fun _ _ _ _  => by kernel_rfl
abbrev k1 : Sk := [(0,.v),(1,.v),(5,.i .i64),(6,.i .i64)]
noncomputable def o4 := ob Try.f122 [.r,.r,.r,.l,.r,.l,.l,.r,.r]
def B4 (P : PT) (N3 : NTy k1 Pr) (x0 x1 : Value) (x5 x6 : Int) (H : AHeap) : Prop :=
  N3 x0 x1 x5 (IntKind.i64.wrap (x6 + 1)) H
theorem q4 (P : PT) (N3 : NTy k1 Pr) : QB Try.prog T0 42 o4 (En 42 k1 N3) k1 (B4 P N3) := fun _ _ _ _ _ _  => by kernel_rfl
noncomputable def o5 := ob Try.f122 [.r,.r,.r,.l,.r,.l,.l,.r,.l,.l,.r,.r,.l,.r]
def B5 (P : PT) (N3 : NTy k1 Pr) (x0 x1 : Value) (x5 x6 : Int) (H : AHeap) : Prop :=
  B4 P N3 x0 x1 (IntKind.i64.wrap (x5 + 1)) x6 H
theorem q5 (P : PT) (N3 : NTy k1 Pr) : QB Try.prog T0 42 o5 (En 42 k1 (B4 P N3)) k1 (B5 P N3) := fun _ _ _ _ _ _  => by kernel_rfl
abbrev k2 : Sk := [(0,.v),(1,.v),(5,.i .i64),(6,.i .i64),(7,.i .u64)]
noncomputable def o6 := ob Try.f122 [.r,.r,.r,.l,.r,.l,.l,.r,.l,.l,.r,.r,.l,.l]
def B6 (P : PT) (N3 : NTy k1 Pr) (x0 x1 : Value) (x5 x6 x7 : Int) (H : AHeap) : Prop :=
  idxK x0 x5 1 (fun b1 o2 => stK H b1 o2 [(Value.int .u64 x7)] (fun H3 => B5 P N3 x0 x1 x5 x6 H3))
theorem q6 (P : PT) (N3 : NTy k1 Pr) : QB Try.prog T0 42 o6 (En 42 k1 (B5 P N3)) k2 (B6 P N3) := fun _ _ _ _ _ _ _  => by kernel_rfl
noncomputable def o7 := ob Try.f122 [.r,.r,.r,.l,.r,.l,.l,.r,.l,.l,.r,.l]
def B7 (P : PT) (N3 : NTy k1 Pr) (x0 x1 : Value) (x5 x6 x7 : Int) (H : AHeap) : Prop :=
  callV Try.prog T0 x1 [(Value.int .u64 x7)] H (fun v1 H2 => asB v1 (fun v3 => pif (!v3) (B6 P N3 x0 x1 x5 x6 x7 H2) (B4 P N3 x0 x1 x5 x6 H2)))
theorem q7 (P : PT) (N3 : NTy k1 Pr) : QB Try.prog T0 42 o7 (cnd 29 (En 42 k2 (B6 P N3)) (En 42 k1 (B4 P N3))) k2 (B7 P N3) := fun _ _ _ _ _ _ _  => by kernel_rfl
noncomputable def o8 := ob Try.f122 [.r,.r,.r,.l,.r,.l,.l,.r,.l,.l,.l]
def B8 (P : PT) (N3 : NTy k1 Pr) (x0 x1 : Value) (x5 x6 : Int) (H : AHeap) : Prop :=
  idxK x0 x6 1 (fun b1 o2 => ldI .u64 H b1 o2 (fun v3 => B7 P N3 x0 x1 x5 x6 v3 H))
theorem q8 (P : PT) (N3 : NTy k1 Pr) : QB Try.prog T0 42 o8 (En 42 k2 (B7 P N3)) k1 (B8 P N3) := fun _ _ _ _ _ _  => by kernel_rfl
noncomputable def o9 := ob Try.f122 [.r,.r,.r,.l,.r,.l,.l,.l,.l]
def B9 (P : PT) (N3 : NTy k1 Pr) (x0 x1 : Value) (x5 x6 : Int) (H : AHeap) : Prop :=
  lenK x0 (fun n1 => pif (decide ((x6 : Int) < (n1 : Int))) (B8 P N3 x0 x1 x5 x6 H) (B2 P x0 x5 H))
theorem q9 (P : PT) (N3 : NTy k1 Pr) : QB Try.prog T0 42 o9 (cnd 19 (En 42 k1 (B8 P N3)) (En 42 k0 (B2 P))) k1 (B9 P N3) := fun _ _ _ _ _ _  => by kernel_rfl
def L3 (P : PT) (x0 x1 : Value) (x5 x6 : Int) (H : AHeap) : Prop :=
  ∃ (I : NTy k1 Pr) (μ : NTy k1 (AHeap → Nat)), I x0 x1 x5 x6 H ∧ ∀ y0 y1 y5 y6 G, I y0 y1 y5 y6 G → B9 P (fun z0 z1 z5 z6 G' => I z0 z1 z5 z6 G' ∧ μ z0 z1 z5 z6 G' < μ y0 y1 y5 y6 G) y0 y1 y5 y6 G
theorem l3 (P : PT) : LQ k1 (L3 P) (B9 P) := fun ⟨_,_,_,_,_⟩ _ ⟨I, μ, h0, hI⟩ => ⟨apT _ I, apT _ μ, h0, fun ⟨_,_,_,_,_⟩ _ h => hI _ _ _ _ _  h⟩
abbrev k3 : Sk := [(0,.v),(1,.v),(5,.i .i64)]
noncomputable def o10 := ob Try.f122 [.r,.r,.r,.l,.l]
def B10 (P : PT) (x0 x1 : Value) (x5 : Int) (H : AHeap) : Prop :=
  L3 P x0 x1 x5 (IntKind.i64.wrap (x5 + 1)) H
theorem q10 (P : PT) : QB Try.prog T0 42 o10 (En 42 k1 (L3 P)) k3 (B10 P) := fun _ _ _ _ _  => by kernel_rfl
abbrev k4 : Sk := [(0,.v)]
noncomputable def o11 := ob Try.f122 [.r,.r,.l,.r,.l,.l]
def B11 (P : PT) (x0 : Value) (H : AHeap) : Prop :=
  P x0 H
theorem q11 (P : PT) : QB Try.prog T0 42 o11 (ret P) k4 (B11 P) := fun _ _ _  => by kernel_rfl
noncomputable def o12 := ob Try.f122 [.r,.r,.l,.l]
def B12 (P : PT) (x0 x1 : Value) (x5 : Int) (H : AHeap) : Prop :=
  pif ((x5 : Int) == (-1)) (B11 P x0 H) (B10 P x0 x1 x5 H)
theorem q12 (P : PT) : QB Try.prog T0 42 o12 (cnd 12 (En 42 k4 (B11 P)) (En 42 k3 (B10 P))) k3 (B12 P) := fun _ _ _ _ _  => by kernel_rfl
abbrev k5 : Sk := [(0,.v),(1,.v)]
noncomputable def o13 := ob Try.f122 [.r,.l]
def B13 (P : PT) (x0 x1 : Value) (H : AHeap) : Prop :=
  AC Try.prog T0 167 [x0, x1] H (fun v1 H2 => asI .i64 v1 (fun v3 => B12 P x0 x1 v3 H2))
theorem q13 (P : PT) : QB Try.prog T0 42 o13 (En 42 k3 (B12 P)) k5 (B13 P) := fun _ _ _ _  => by kernel_rfl
noncomputable def o14 := ob Try.f122 [.l]
def B14 (P : PT) (x0 x1 : Value) (H : AHeap) : Prop :=
  B13 P x0 x1 H
theorem q14 (P : PT) : QB Try.prog T0 42 o14 (En 42 k5 (B13 P)) k5 (B14 P) := fun _ _ _ _  => by kernel_rfl
noncomputable def code : Code := (.seq (.region 0 ⟨o14⟩ false) (.seq (.region 1 ⟨o13⟩ false) (.seq (.seq (.region 2 ⟨o12⟩ false) (.cond (.tmp 12) (.seq (.region 3 ⟨o11⟩ false) .ret) .skip)) (.seq (.seq (.region 4 ⟨o10⟩ false) (.block 0 (.loop (.seq (.seq (.region 5 ⟨o9⟩ false) (.cond (.tmp 19) .skip (.exit 0))) (.seq (.block 1 (.seq (.region 7 ⟨o8⟩ false) (.seq (.region 8 ⟨o7⟩ false) (.cond (.tmp 29) (.seq (.region 9 ⟨o6⟩ false) (.region 10 ⟨o5⟩ false)) .skip)))) (.region 6 ⟨o4⟩ false)))))) (.seq (.region 11 ⟨o2⟩ false) (.seq (.region 12 ⟨o1⟩ false) .ret))))))
theorem body : Try.f122.body = some code := by kernel_rfl
theorem main (P : PT) : ∀ env H, (En 42 k5 (B14 P)) env H → AW Try.prog T0 code env H (mkQ (ret P) (fun _ _ _ => False) (ret P)) :=
  (r_seq (rB T0_ok (q14 P)) (r_seq (rB T0_ok (q13 P)) (r_seq (r_seq (rB T0_ok (q12 P)) (r_cond rfl (r_seq (rB T0_ok (q11 P)) r_ret) r_skip)) (r_seq (r_seq (rB T0_ok (q10 P)) (r_block (rL (l3 P) (fun N3 => (r_seq (r_seq (rB T0_ok (q9 P N3)) (r_cond rfl r_skip (r_exit (fun _ _ h => h)))) (r_seq (r_block (r_seq (rB T0_ok (q8 P N3)) (r_seq (rB T0_ok (q7 P N3)) (r_cond rfl (r_seq (rB T0_ok (q6 P N3)) (rB T0_ok (q5 P N3))) r_skip)))) (rB T0_ok (q4 P N3)))))))) (r_seq (rB T0_ok (q2 P)) (r_seq (rB T0_ok (q1 P)) r_ret))))))
theorem ac (P : PT) (x0 x1 : Value) (H : AHeap) (h : B14 P x0 x1 H) : AC Try.prog T0 122 [x0, x1] H P :=
  r_fn T0_ok (c := code) (n := 42) Try.func122 body (by kernel_rfl) (main P) (En_mk (x0, x1, ()) (by kernel_rfl) ⟨by kernel_rfl, by kernel_rfl, trivial⟩ h)

end F122
-- loop.example/g01329/impl.AllCycles$1
namespace F123
noncomputable def ret (P : PT) : EP := retE T0 8 Try.f123 P
abbrev k0 : Sk := [(0,.i .u64),(1,.v)]
noncomputable def o1 := ob Try.f123 [.r,.l]
def B1 (P : PT) (x0 : Int) (x1 : Value) (H : AHeap) : Prop :=
  asP x1 (fun b1 o2 => ldI .i64 H b1 o2 (fun v3 => ld1 H b1 (o2 + 1) (fun v4 => AC Try.prog T0 91 [(Value.agg ⟨[(Value.int .i64 v3), v4]⟩), (Value.int .u64 x0)] H (fun v5 H6 => asB v5 (fun v7 => P (Value.bool (!v7)) H6)))))
theorem q1 (P : PT) : QB Try.prog T0 8 o1 (ret P) k0 (B1 P) := fun _ _ _ _  => by kernel_rfl
noncomputable def o2 := ob Try.f123 [.l]
def B2 (P : PT) (x0 : Int) (x1 : Value) (H : AHeap) : Prop :=
  B1 P x0 x1 H
theorem q2 (P : PT) : QB Try.prog T0 8 o2 (En 8 k0 (B1 P)) k0 (B2 P) := fun _ _ _ _  => by kernel_rfl
noncomputable def code : Code := (.seq (.region 0 ⟨o2⟩ false) (.seq (.region 1 ⟨o1⟩ false) .ret))
theorem body : Try.f123.body = some code := by kernel_rfl
theorem main (P : PT) : ∀ env H, (En 8 k0 (B2 P)) env H → AW Try.prog T0 code env H (mkQ (ret P) (fun _ _ _ => False) (ret P)) :=
  (r_seq (rB T0_ok (q2 P)) (r_seq (rB T0_ok (q1 P)) r_ret))
theorem ac (P : PT) (x0 : Int) (x1 : Value) (H : AHeap) (h : B2 P x0 x1 H) : AC Try.prog T0 123 [(Value.int .u64 x0), x1] H P :=
  r_fn T0_ok (c := code) (n := 8) Try.func123 body (by kernel_rfl) (main P) (En_mk (x0, x1, ()) (by kernel_rfl) ⟨by kernel_rfl, by kernel_rfl, trivial⟩ h)

end F123
-- slices.SortFunc[[]loop.example/g01329/impl.set,loop.example/g01329/impl.set]
namespace F124
noncomputable def ret (P : PT) : EP := retE T0 14 Try.f124 P
abbrev k0 : Sk := [(0,.v),(1,.v),(4,.i .i64)]
noncomputable def o1 := ob Try.f124 [.r]
def B1 (P : PT) (x0 x1 : Value) (x4 : Int) (H : AHeap) : Prop :=
  AC Try.prog T0 117 [(Value.int .u64 (IntKind.u64.wrap x4))] H (fun v1 H2 => asI .i64 v1 (fun v3 => AC Try.prog T0 168 [x0, (Value.int .i64 0), (Value.int .i64 x4), (Value.int .i64 v3), x1] H2 (fun v4 H5 => asTup v4 (fun l6 => P (Value.tuple ⟨[]⟩) H5))))
theorem q1 (P : PT) : QB Try.prog T0 14 o1 (ret P) k0 (B1 P) := fun _ _ _ _ _  => by kernel_rfl
abbrev k1 : Sk := [(0,.v),(1,.v)]
noncomputable def o2 := ob Try.f124 [.l]
def B2 (P : PT) (x0 x1 : Value) (H : AHeap) : Prop :=
  lenK x0 (fun n1 => B1 P x0 x1 (n1 : Int) H)
theorem q2 (P : PT) : QB Try.prog T0 14 o2 (En 14 k0 (B1 P)) k1 (B2 P) := fun _ _ _ _  => by kernel_rfl
noncomputable def code : Code := (.seq (.region 0 ⟨o2⟩ false) (.region 1 ⟨o1⟩ false))
theorem body : Try.f124.body = some code := by kernel_rfl
theorem main (P : PT) : ∀ env H, (En 14 k1 (B2 P)) env H → AW Try.prog T0 code env H (mkQ (ret P) (fun _ _ _ => False) (ret P)) :=
  (r_seq (rB T0_ok (q2 P)) (rB T0_ok (q1 P)))
theorem ac (P : PT) (x0 x1 : Value) (H : AHeap) (h : B2 P x0 x1 H) : AC Try.prog T0 124 [x0, x1] H P :=
  r_fn T0_ok (c := code) (n := 14) Try.func124 body (by kernel_rfl) (main P) (En_mk (x0, x1, ()) (by kernel_rfl) ⟨by kernel_rfl, by kernel_rfl, trivial⟩ h)

end F124
-- loop.example/g01329/impl.compareSets
namespace F125
noncomputable def ret (P : PT) : EP := retE T0 17 Try.f125 P
abbrev k0 : Sk := [(0,.i .u64),(1,.i .u64)]
noncomputable def o1 := ob Try.f125 [.r,.l]
def B1 (P : PT) (x0 x1 : Int) (H : AHeap) : Prop :=
  AC Try.prog T0 66 [(Value.int .u64 x0)] H (fun v1 H2 => asI .i64 v1 (fun v3 => AC Try.prog T0 66 [(Value.int .u64 x1)] H2 (fun v4 H5 => asI .i64 v4 (fun v6 => AC Try.prog T0 170 [(Value.int .i64 v3), (Value.int .i64 v6)] H5 (fun v7 H8 => asI .i64 v7 (fun v9 => AC Try.prog T0 82 [(Value.int .u64 x0)] H8 (fun v10 H11 => AC Try.prog T0 82 [(Value.int .u64 x1)] H11 (fun v13 H14 => AC Try.prog T0 171 [v10, v13] H14 (fun v16 H17 => asI .i64 v16 (fun v18 => newK H17 [(Value.int .i64 v9), (Value.int .i64 v18)] 3 (fun b19 H20 => AC Try.prog T0 169 [(Value.slice (some ⟨b19, 0, none⟩) 2 (2 + 1))] H20 (fun v21 H22 => asI .i64 v21 (fun v23 => P (Value.int .i64 v23) H22)))))))))))))
theorem q1 (P : PT) : QB Try.prog T0 17 o1 (ret P) k0 (B1 P) := fun _ _ _ _  => by kernel_rfl
noncomputable def o2 := ob Try.f125 [.l]
def B2 (P : PT) (x0 x1 : Int) (H : AHeap) : Prop :=
  B1 P x0 x1 H
theorem q2 (P : PT) : QB Try.prog T0 17 o2 (En 17 k0 (B1 P)) k0 (B2 P) := fun _ _ _ _  => by kernel_rfl
noncomputable def code : Code := (.seq (.region 0 ⟨o2⟩ false) (.seq (.region 1 ⟨o1⟩ false) .ret))
theorem body : Try.f125.body = some code := by kernel_rfl
theorem main (P : PT) : ∀ env H, (En 17 k0 (B2 P)) env H → AW Try.prog T0 code env H (mkQ (ret P) (fun _ _ _ => False) (ret P)) :=
  (r_seq (rB T0_ok (q2 P)) (r_seq (rB T0_ok (q1 P)) r_ret))
theorem ac (P : PT) (x0 x1 : Int) (H : AHeap) (h : B2 P x0 x1 H) : AC Try.prog T0 125 [(Value.int .u64 x0), (Value.int .u64 x1)] H P :=
  r_fn T0_ok (c := code) (n := 17) Try.func125 body (by kernel_rfl) (main P) (En_mk (x0, x1, ()) (by kernel_rfl) ⟨by kernel_rfl, by kernel_rfl, trivial⟩ h)

end F125
-- loop.example/g01329/impl.lists
namespace F126
noncomputable def ret (P : PT) : EP := retE T0 19 Try.f126 P
abbrev k0 : Sk := [(3,.v)]
noncomputable def o1 := ob Try.f126 [.r,.r,.r,.l]
def B1 (P : PT) (x3 : Value) (H : AHeap) : Prop :=
  P x3 H
theorem q1 (P : PT) : QB Try.prog T0 19 o1 (ret P) k0 (B1 P) := fun _ _ _  => by kernel_rfl
abbrev k1 : Sk := [(3,.v),(6,.v),(7,.i .i64),(8,.i .i64)]
noncomputable def o3 := ob Try.f126 [.r,.r,.l,.r,.l,.l,.r,.r,.r]
def B3 (P : PT) (N2 : NTy k1 Pr) (x3 x6 : Value) (x7 x8 : Int) (H : AHeap) : Prop :=
  N2 x3 x6 x7 (IntKind.i64.wrap (x8 + 1)) H
theorem q3 (P : PT) (N2 : NTy k1 Pr) : QB Try.prog T0 19 o3 (En 19 k1 N2) k1 (B3 P N2) := fun _ _ _ _ _ _  => by kernel_rfl
abbrev k2 : Sk := [(3,.v),(5,.i .u64),(6,.v),(7,.i .i64),(8,.i .i64)]
noncomputable def o4 := ob Try.f126 [.r,.r,.l,.r,.l,.l,.r,.r,.l,.l,.r]
def B4 (P : PT) (N2 : NTy k1 Pr) (x3 : Value) (x5 : Int) (x6 : Value) (x7 x8 : Int) (H : AHeap) : Prop :=
  AC Try.prog T0 82 [(Value.int .u64 x5)] H (fun v1 H2 => pif (Value.oneCell' v1) (newK H2 [v1] 25 (fun b4 H5 => apK T0 25 H5 x3 (Value.slice (some ⟨b4, 0, none⟩) 1 (1 + 1)) (fun v6 H7 => B3 P N2 v6 x6 x7 x8 H7))) False)
theorem q4 (P : PT) (N2 : NTy k1 Pr) : QB Try.prog T0 19 o4 (En 19 k1 (B3 P N2)) k2 (B4 P N2) := fun _ _ _ _ _ _ _  => by kernel_rfl
noncomputable def o5 := ob Try.f126 [.r,.r,.l,.r,.l,.l,.r,.r,.l,.l,.l]
def B5 (P : PT) (N2 : NTy k1 Pr) (x3 x6 : Value) (x7 x8 : Int) (H : AHeap) : Prop :=
  idxK x6 x8 1 (fun b1 o2 => ldI .u64 H b1 o2 (fun v3 => B4 P N2 x3 v3 x6 x7 x8 H))
theorem q5 (P : PT) (N2 : NTy k1 Pr) : QB Try.prog T0 19 o5 (En 19 k2 (B4 P N2)) k1 (B5 P N2) := fun _ _ _ _ _ _  => by kernel_rfl
noncomputable def o6 := ob Try.f126 [.r,.r,.l,.r,.l,.l,.l]
def B6 (P : PT) (N2 : NTy k1 Pr) (x3 x6 : Value) (x7 x8 : Int) (H : AHeap) : Prop :=
  pif (decide ((x8 : Int) < x7)) (B5 P N2 x3 x6 x7 x8 H) (B1 P x3 H)
theorem q6 (P : PT) (N2 : NTy k1 Pr) : QB Try.prog T0 19 o6 (cnd 9 (En 19 k1 (B5 P N2)) (En 19 k0 (B1 P))) k1 (B6 P N2) := fun _ _ _ _ _ _  => by kernel_rfl
def L2 (P : PT) (x3 x6 : Value) (x7 x8 : Int) (H : AHeap) : Prop :=
  ∃ (I : NTy k1 Pr) (μ : NTy k1 (AHeap → Nat)), I x3 x6 x7 x8 H ∧ ∀ y3 y6 y7 y8 G, I y3 y6 y7 y8 G → B6 P (fun z3 z6 z7 z8 G' => I z3 z6 z7 z8 G' ∧ μ z3 z6 z7 z8 G' < μ y3 y6 y7 y8 G) y3 y6 y7 y8 G
theorem l2 (P : PT) : LQ k1 (L2 P) (B6 P) := fun ⟨_,_,_,_,_⟩ _ ⟨I, μ, h0, hI⟩ => ⟨apT _ I, apT _ μ, h0, fun ⟨_,_,_,_,_⟩ _ h => hI _ _ _ _ _  h⟩
abbrev k3 : Sk := [(0,.v),(3,.v)]
noncomputable def o7 := ob Try.f126 [.r,.r,.l,.l]
def B7 (P : PT) (x0 x3 : Value) (H : AHeap) : Prop :=
  lenK x0 (fun n1 => L2 P x3 x0 (n1 : Int) 0 H)
theorem q7 (P : PT) : QB Try.prog T0 19 o7 (En 19 k1 (L2 P)) k3 (B7 P) := fun _ _ _ _  => by kernel_rfl
abbrev k4 : Sk := [(0,.v)]
noncomputable def o8 := ob Try.f126 [.r,.l]
def B8 (P : PT) (x0 : Value) (H : AHeap) : Prop :=
  B7 P x0 (Value.slice none 0 0) H
theorem q8 (P : PT) : QB Try.prog T0 19 o8 (En 19 k3 (B7 P)) k4 (B8 P) := fun _ _ _  => by kernel_rfl
noncomputable def o9 := ob Try.f126 [.l]
def B9 (P : PT) (x0 : Value) (H : AHeap) : Prop :=
  B8 P x0 H
theorem q9 (P : PT) : QB Try.prog T0 19 o9 (En 19 k4 (B8 P)) k4 (B9 P) := fun _ _ _  => by kernel_rfl
noncomputable def code : Code := (.seq (.region 0 ⟨o9⟩ false) (.seq (.region 1 ⟨o8⟩ false) (.seq (.seq (.region 2 ⟨o7⟩ false) (.block 0 (.loop (.seq (.region 3 ⟨o6⟩ false) (.seq (.cond (.tmp 9) .skip (.exit 0)) (.seq (.block 1 (.seq (.region 4 ⟨o5⟩ false) (.region 5 ⟨o4⟩ false))) (.region 6 ⟨o3⟩ false))))))) (.seq (.region 7 ⟨o1⟩ false) .ret))))
theorem body : Try.f126.body = some code := by kernel_rfl
theorem main (P : PT) : ∀ env H, (En 19 k4 (B9 P)) env H → AW Try.prog T0 code env H (mkQ (ret P) (fun _ _ _ => False) (ret P)) :=
  (r_seq (rB T0_ok (q9 P)) (r_seq (rB T0_ok (q8 P)) (r_seq (r_seq (rB T0_ok (q7 P)) (r_block (rL (l2 P) (fun N2 => (r_seq (rB T0_ok (q6 P N2)) (r_seq (r_cond rfl r_skip (r_exit (fun _ _ h => h))) (r_seq (r_block (r_seq (rB T0_ok (q5 P N2)) (rB T0_ok (q4 P N2)))) (rB T0_ok (q3 P N2))))))))) (r_seq (rB T0_ok (q1 P)) r_ret))))
theorem ac (P : PT) (x0 : Value) (H : AHeap) (h : B9 P x0 H) : AC Try.prog T0 126 [x0] H P :=
  r_fn T0_ok (c := code) (n := 19) Try.func126 body (by kernel_rfl) (main P) (En_mk (x0, ()) (by kernel_rfl) ⟨by kernel_rfl, trivial⟩ h)

end F126
-- loop.example/g01329/spec.l01Ends
namespace F127
noncomputable def ret (P : PT) : EP := retE T0 61 Try.f127 P
abbrev k0 : Sk := []
noncomputable def o1 := ob Try.f127 [.r,.r,.r,.l]
def B1 (P : PT) (H : AHeap) : Prop :=
  P (Value.int .i64 0) H
theorem q1 (P : PT) : QB Try.prog T0 61 o1 (ret P) k0 (B1 P) := fun _ _  => by kernel_rfl
abbrev k1 : Sk := [(0,.i .i64),(1,.v),(5,.i .i64)]
noncomputable def o3 := ob Try.f127 [.r,.r,.l,.r,.l,.l,.r,.r]
def B3 (P : PT) (N2 : NTy k1 Pr) (x0 : Int) (x1 : Value) (x5 : Int) (H : AHeap) : Prop :=
  N2 x0 x1 (IntKind.i64.wrap (x5 + 1)) H
theorem q3 (P : PT) (N2 : NTy k1 Pr) : QB Try.prog T0 61 o3 (En 61 k1 N2) k1 (B3 P N2) := fun _ _ _ _ _  => by kernel_rfl
noncomputable def o4 := ob Try.f127 [.r,.r,.l,.r,.l,.l,.r,.l,.l,.r,.l,.l]
def B4 (P : PT) (N2 : NTy k1 Pr) (H : AHeap) : Prop :=
  P (Value.int .i64 2) H
theorem q4 (P : PT) (N2 : NTy k1 Pr) : QB Try.prog T0 61 o4 (ret P) k0 (B4 P N2) := fun _ _  => by kernel_rfl
noncomputable def o5 := ob Try.f127 [.r,.r,.l,.r,.l,.l,.r,.l,.l,.l]
def B5 (P : PT) (N2 : NTy k1 Pr) (x0 : Int) (x1 : Value) (x5 : Int) (H : AHeap) : Prop :=
  idxK x1 x5 2 (fun b1 o2 => ldI .i64 H b1 o2 (fun v3 => AC Try.prog T0 49 [(Value.int .i64 v3), (Value.int .i64 0), (Value.int .i64 (IntKind.i64.wrap (x0 - 1)))] H (fun v4 H5 => asB v4 (fun v6 => pif (!v6) (B4 P N2 H5) (idxK x1 x5 2 (fun b7 o8 => ldI .i64 H5 b7 (o8 + 1) (fun v9 => AC Try.prog T0 49 [(Value.int .i64 v9), (Value.int .i64 0), (Value.int .i64 (IntKind.i64.wrap (x0 - 1)))] H5 (fun v10 H11 => asB v10 (fun v12 => pif (!v12) (B4 P N2 H11) (idxK x1 x5 2 (fun b13 o14 => ldI .i64 H11 b13 o14 (fun v15 => idxK x1 x5 2 (fun b16 o17 => ldI .i64 H11 b16 (o17 + 1) (fun v18 => pif ((v15 : Int) == v18) (B4 P N2 H11) (B3 P N2 x0 x1 x5 H11)))))))))))))))
theorem q5 (P : PT) (N2 : NTy k1 Pr) : QD Try.prog T0 61 o5 [(0, false), (1, false), (2, false), (3, false), (4, false), (5, false), (6, false), (7, false), (8, false), (9, false), (10, false), (11, false), (12, false), (13, false), (14, false), (15, false), (16, false), (17, false), (18, false), (19, false), (20, false), (21, false), (22, false), (23, false), (24, false), (25, false), (26, false), (27, false), (28, false), (29, false), (30, false), (31, false), (32, false)] (cnd 60 (En 61 k0 (B4 P N2)) (En 61 k1 (B3 P N2))) k1 (B5 P N2) := fun _ _ _ _ _  => by kernel_rfl
noncomputable def o6 := ob Try.f127 [.r,.r,.l,.r,.l,.l,.l,.l]
def B6 (P : PT) (N2 : NTy k1 Pr) (x0 : Int) (x1 : Value) (x5 : Int) (H : AHeap) : Prop :=
  lenK x1 (fun n1 => pif (decide ((x5 : Int) < (n1 : Int))) (B5 P N2 x0 x1 x5 H) (B1 P H))
theorem q6 (P : PT) (N2 : NTy k1 Pr) : QB Try.prog T0 61 o6 (cnd 25 (En 61 k1 (B5 P N2)) (En 61 k0 (B1 P))) k1 (B6 P N2) := fun _ _ _ _ _  => by kernel_rfl
def L2 (P : PT) (x0 : Int) (x1 : Value) (x5 : Int) (H : AHeap) : Prop :=
  ∃ (I : NTy k1 Pr) (μ : NTy k1 (AHeap → Nat)), I x0 x1 x5 H ∧ ∀ y0 y1 y5 G, I y0 y1 y5 G → B6 P (fun z0 z1 z5 G' => I z0 z1 z5 G' ∧ μ z0 z1 z5 G' < μ y0 y1 y5 G) y0 y1 y5 G
theorem l2 (P : PT) : LQ k1 (L2 P) (B6 P) := fun ⟨_,_,_,_⟩ _ ⟨I, μ, h0, hI⟩ => ⟨apT _ I, apT _ μ, h0, fun ⟨_,_,_,_⟩ _ h => hI _ _ _ _  h⟩
abbrev k2 : Sk := [(0,.i .i64),(1,.v)]
noncomputable def o7 := ob Try.f127 [.r,.r,.l,.l]
def B7 (P : PT) (x0 : Int) (x1 : Value) (H : AHeap) : Prop :=
  L2 P x0 x1 0 H
theorem q7 (P : PT) : QB Try.prog T0 61 o7 (En 61 k1 (L2 P)) k2 (B7 P) := fun _ _ _ _  => by kernel_rfl
noncomputable def o8 := ob Try.f127 [.r,.l,.r,.l,.l]
def B8 (P : PT) (H : AHeap) : Prop :=
  P (Value.int .i64 2) H
theorem q8 (P : PT) : QB Try.prog T0 61 o8 (ret P) k0 (B8 P) := fun _ _  => by kernel_rfl
noncomputable def o9 := ob Try.f127 [.r,.l,.l]
def B9 (P : PT) (x0 : Int) (x1 : Value) (H : AHeap) : Prop :=
  AC Try.prog T0 49 [(Value.int .i64 x0), (Value.int .i64 2), (Value.int .i64 20)] H (fun v1 H2 => asB v1 (fun v3 => pif (!v3) (B8 P H2) (pif ((Int.tmod x0 2 : Int) != 0) (B8 P H2) (lenK x1 (fun n4 => pif (((n4 : Int) : Int) != (IntKind.i64.wrap (Int.tdiv (IntKind.i64.wrap (3 * x0)) 2))) (B8 P H2) (B7 P x0 x1 H2))))))
theorem q9 (P : PT) : QB Try.prog T0 61 o9 (cnd 21 (En 61 k0 (B8 P)) (En 61 k2 (B7 P))) k2 (B9 P) := fun _ _ _ _  => by kernel_rfl
noncomputable def o10 := ob Try.f127 [.l]
def B10 (P : PT) (x0 : Int) (x1 : Value) (H : AHeap) : Prop :=
  B9 P x0 x1 H
theorem q10 (P : PT) : QB Try.prog T0 61 o10 (En 61 k2 (B9 P)) k2 (B10 P) := fun _ _ _ _  => by kernel_rfl
noncomputable def code : Code := (.seq (.region 0 ⟨o10⟩ false) (.seq (.seq (.region 1 ⟨o9⟩ false) (.cond (.tmp 21) (.seq (.region 2 ⟨o8⟩ false) .ret) .skip)) (.seq (.seq (.region 3 ⟨o7⟩ false) (.block 0 (.loop (.seq (.seq (.region 4 ⟨o6⟩ false) (.cond (.tmp 25) .skip (.exit 0))) (.seq (.block 1 (.seq (.region 6 ⟨o5⟩ true) (.cond (.tmp 60) (.seq (.region 7 ⟨o4⟩ false) .ret) .skip))) (.region 5 ⟨o3⟩ false)))))) (.seq (.region 8 ⟨o1⟩ false) .ret))))
theorem body : Try.f127.body = some code := by kernel_rfl
theorem main (P : PT) : ∀ env H, (En 61 k2 (B10 P)) env H → AW Try.prog T0 code env H (mkQ (ret P) (fun _ _ _ => False) (ret P)) :=
  (r_seq (rB T0_ok (q10 P)) (r_seq (r_seq (rB T0_ok (q9 P)) (r_cond rfl (r_seq (rB T0_ok (q8 P)) r_ret) r_skip)) (r_seq (r_seq (rB T0_ok (q7 P)) (r_block (rL (l2 P) (fun N2 => (r_seq (r_seq (rB T0_ok (q6 P N2)) (r_cond rfl r_skip (r_exit (fun _ _ h => h)))) (r_seq (r_block (r_seq (rD T0_ok mixed [(0, false), (1, false), (2, false), (3, false), (4, false), (5, false), (6, false), (7, false), (8, false), (9, false), (10, false), (11, false), (12, false), (13, false), (14, false), (15, false), (16, false), (17, false), (18, false), (19, false), (20, false), (21, false), (22, false), (23, false), (24, false), (25, false), (26, false), (27, false), (28, false), (29, false), (30, false), (31, false), (32, false)] (by kernel_rfl) (q5 P N2)) (r_cond rfl (r_seq (rB T0_ok (q4 P N2)) r_ret) r_skip))) (rB T0_ok (q3 P N2)))))))) (r_seq (rB T0_ok (q1 P)) r_ret))))
theorem ac (P : PT) (x0 : Int) (x1 : Value) (H : AHeap) (h : B10 P x0 x1 H) : AC Try.prog T0 127 [(Value.int .i64 x0), x1] H P :=
  r_fn T0_ok (c := code) (n := 61) Try.func127 body (by kernel_rfl) (main P) (En_mk (x0, x1, ()) (by kernel_rfl) ⟨by kernel_rfl, by kernel_rfl, trivial⟩ h)

end F127
-- loop.example/g01329/spec.l01Cubic
namespace F128
noncomputable def ret (P : PT) : EP := retE T0 46 Try.f128 P
abbrev k0 : Sk := []
noncomputable def o1 := ob Try.f128 [.r,.r,.r,.r,.l]
def B1 (P : PT) (H : AHeap) : Prop :=
  P (Value.bool true) H
theorem q1 (P : PT) : QB Try.prog T0 46 o1 (ret P) k0 (B1 P) := fun _ _  => by kernel_rfl
abbrev k1 : Sk := [(0,.i .i64),(5,.v),(7,.i .i64)]
noncomputable def o3 := ob Try.f128 [.r,.r,.r,.l,.r,.l,.l,.r,.r]
def B3 (P : PT) (N2 : NTy k1 Pr) (x0 : Int) (x5 : Value) (x7 : Int) (H : AHeap) : Prop :=
  N2 x0 x5 (IntKind.i64.wrap (x7 + 1)) H
theorem q3 (P : PT) (N2 : NTy k1 Pr) : QB Try.prog T0 46 o3 (En 46 k1 N2) k1 (B3 P N2) := fun _ _ _ _ _  => by kernel_rfl
noncomputable def o4 := ob Try.f128 [.r,.r,.r,.l,.r,.l,.l,.r,.l,.l,.r,.l,.l]
def B4 (P : PT) (N2 : NTy k1 Pr) (H : AHeap) : Prop :=
  P (Value.bool false) H
theorem q4 (P : PT) (N2 : NTy k1 Pr) : QB Try.prog T0 46 o4 (ret P) k0 (B4 P N2) := fun _ _  => by kernel_rfl
noncomputable def o5 := ob Try.f128 [.r,.r,.r,.l,.r,.l,.l,.r,.l,.l,.l]
def B5 (P : PT) (N2 : NTy k1 Pr) (x0 : Int) (x5 : Value) (x7 : Int) (H : AHeap) : Prop :=
  idxK x5 x7 1 (fun b1 o2 => ldI .i64 H b1 o2 (fun v3 => pif ((v3 : Int) != 3) (B4 P N2 H) (B3 P N2 x0 x5 x7 H)))
theorem q5 (P : PT) (N2 : NTy k1 Pr) : QB Try.prog T0 46 o5 (cnd 45 (En 46 k0 (B4 P N2)) (En 46 k1 (B3 P N2))) k1 (B5 P N2) := fun _ _ _ _ _  => by kernel_rfl
noncomputable def o6 := ob Try.f128 [.r,.r,.r,.l,.r,.l,.l,.l,.l]
def B6 (P : PT) (N2 : NTy k1 Pr) (x0 : Int) (x5 : Value) (x7 : Int) (H : AHeap) : Prop :=
  pif (decide ((x7 : Int) < x0)) (B5 P N2 x0 x5 x7 H) (B1 P H)
theorem q6 (P : PT) (N2 : NTy k1 Pr) : QB Try.prog T0 46 o6 (cnd 38 (En 46 k1 (B5 P N2)) (En 46 k0 (B1 P))) k1 (B6 P N2) := fun _ _ _ _ _  => by kernel_rfl
def L2 (P : PT) (x0 : Int) (x5 : Value) (x7 : Int) (H : AHeap) : Prop :=
  ∃ (I : NTy k1 Pr) (μ : NTy k1 (AHeap → Nat)), I x0 x5 x7 H ∧ ∀ y0 y5 y7 G, I y0 y5 y7 G → B6 P (fun z0 z5 z7 G' => I z0 z5 z7 G' ∧ μ z0 z5 z7 G' < μ y0 y5 y7 G) y0 y5 y7 G
theorem l2 (P : PT) : LQ k1 (L2 P) (B6 P) := fun ⟨_,_,_,_⟩ _ ⟨I, μ, h0, hI⟩ => ⟨apT _ I, apT _ μ, h0, fun ⟨_,_,_,_⟩ _ h => hI _ _ _ _  h⟩
abbrev k2 : Sk := [(0,.i .i64),(5,.v)]
noncomputable def o7 := ob Try.f128 [.r,.r,.r,.l,.l]
def B7 (P : PT) (x0 : Int) (x5 : Value) (H : AHeap) : Prop :=
  L2 P x0 x5 0 H
theorem q7 (P : PT) : QB Try.prog T0 46 o7 (En 46 k1 (L2 P)) k2 (B7 P) := fun _ _ _ _  => by kernel_rfl
abbrev k3 : Sk := [(0,.i .i64),(1,.v),(5,.v),(6,.i .i64)]
noncomputable def o9 := ob Try.f128 [.r,.r,.l,.r,.l,.l,.r,.r]
def B9 (P : PT) (N8 : NTy k3 Pr) (x0 : Int) (x1 x5 : Value) (x6 : Int) (H : AHeap) : Prop :=
  N8 x0 x1 x5 (IntKind.i64.wrap (x6 + 1)) H
theorem q9 (P : PT) (N8 : NTy k3 Pr) : QB Try.prog T0 46 o9 (En 46 k3 N8) k3 (B9 P N8) := fun _ _ _ _ _ _  => by kernel_rfl
noncomputable def o10 := ob Try.f128 [.r,.r,.l,.r,.l,.l,.r,.l,.l,.r]
def B10 (P : PT) (N8 : NTy k3 Pr) (x0 : Int) (x1 x5 : Value) (x6 : Int) (H : AHeap) : Prop :=
  idxK x1 x6 2 (fun b1 o2 => ldI .i64 H b1 (o2 + 1) (fun v3 => idxK x5 v3 1 (fun b4 o5 => ldI .i64 H b4 o5 (fun v6 => idxK x5 v3 1 (fun b7 o8 => stK H b7 o8 [(Value.int .i64 (IntKind.i64.wrap (v6 + 1)))] (fun H9 => B9 P N8 x0 x1 x5 x6 H9))))))
theorem q10 (P : PT) (N8 : NTy k3 Pr) : QB Try.prog T0 46 o10 (En 46 k3 (B9 P N8)) k3 (B10 P N8) := fun _ _ _ _ _ _  => by kernel_rfl
noncomputable def o11 := ob Try.f128 [.r,.r,.l,.r,.l,.l,.r,.l,.l,.l]
def B11 (P : PT) (N8 : NTy k3 Pr) (x0 : Int) (x1 x5 : Value) (x6 : Int) (H : AHeap) : Prop :=
  idxK x1 x6 2 (fun b1 o2 => ldI .i64 H b1 o2 (fun v3 => idxK x5 v3 1 (fun b4 o5 => ldI .i64 H b4 o5 (fun v6 => idxK x5 v3 1 (fun b7 o8 => stK H b7 o8 [(Value.int .i64 (IntKind.i64.wrap (v6 + 1)))] (fun H9 => B10 P N8 x0 x1 x5 x6 H9))))))
theorem q11 (P : PT) (N8 : NTy k3 Pr) : QB Try.prog T0 46 o11 (En 46 k3 (B10 P N8)) k3 (B11 P N8) := fun _ _ _ _ _ _  => by kernel_rfl
noncomputable def o12 := ob Try.f128 [.r,.r,.l,.r,.l,.l,.l,.l]
def B12 (P : PT) (N8 : NTy k3 Pr) (x0 : Int) (x1 x5 : Value) (x6 : Int) (H : AHeap) : Prop :=
  lenK x1 (fun n1 => pif (decide ((x6 : Int) < (n1 : Int))) (B11 P N8 x0 x1 x5 x6 H) (B7 P x0 x5 H))
theorem q12 (P : PT) (N8 : NTy k3 Pr) : QB Try.prog T0 46 o12 (cnd 13 (En 46 k3 (B11 P N8)) (En 46 k2 (B7 P))) k3 (B12 P N8) := fun _ _ _ _ _ _  => by kernel_rfl
def L8 (P : PT) (x0 : Int) (x1 x5 : Value) (x6 : Int) (H : AHeap) : Prop :=
  ∃ (I : NTy k3 Pr) (μ : NTy k3 (AHeap → Nat)), I x0 x1 x5 x6 H ∧ ∀ y0 y1 y5 y6 G, I y0 y1 y5 y6 G → B12 P (fun z0 z1 z5 z6 G' => I z0 z1 z5 z6 G' ∧ μ z0 z1 z5 z6 G' < μ y0 y1 y5 y6 G) y0 y1 y5 y6 G
theorem l8 (P : PT) : LQ k3 (L8 P) (B12 P) := fun ⟨_,_,_,_,_⟩ _ ⟨I, μ, h0, hI⟩ => ⟨apT _ I, apT _ μ, h0, fun ⟨_,_,_,_,_⟩ _ h => hI _ _ _ _ _  h⟩
abbrev k4 : Sk := [(0,.i .i64),(1,.v),(5,.v)]
noncomputable def o13 := ob Try.f128 [.r,.r,.l,.l]
def B13 (P : PT) (x0 : Int) (x1 x5 : Value) (H : AHeap) : Prop :=
  L8 P x0 x1 x5 0 H
theorem q13 (P : PT) : QB Try.prog T0 46 o13 (En 46 k3 (L8 P)) k4 (B13 P) := fun _ _ _ _ _  => by kernel_rfl
abbrev k5 : Sk := [(0,.i .i64),(1,.v)]
noncomputable def o14 := ob Try.f128 [.r,.l]
def B14 (P : PT) (x0 : Int) (x1 : Value) (H : AHeap) : Prop :=
  mkR H 8 2 [(Value.int .i64 0)] x0 x0 (fun v2 H1 => B13 P x0 x1 v2 H1)
theorem q14 (P : PT) : QB Try.prog T0 46 o14 (En 46 k4 (B13 P)) k5 (B14 P) := fun _ _ _ _  => by kernel_rfl
noncomputable def o15 := ob Try.f128 [.l]
def B15 (P : PT) (x0 : Int) (x1 : Value) (H : AHeap) : Prop :=
  B14 P x0 x1 H
theorem q15 (P : PT) : QB Try.prog T0 46 o15 (En 46 k5 (B14 P)) k5 (B15 P) := fun _ _ _ _  => by kernel_rfl
noncomputable def code : Code := (.seq (.region 0 ⟨o15⟩ false) (.seq (.region 1 ⟨o14⟩ false) (.seq (.seq (.region 2 ⟨o13⟩ false) (.block 0 (.loop (.seq (.seq (.region 3 ⟨o12⟩ false) (.cond (.tmp 13) .skip (.exit 0))) (.seq (.block 1 (.seq (.region 5 ⟨o11⟩ false) (.region 6 ⟨o10⟩ false))) (.region 4 ⟨o9⟩ false)))))) (.seq (.seq (.region 7 ⟨o7⟩ false) (.block 2 (.loop (.seq (.seq (.region 8 ⟨o6⟩ false) (.cond (.tmp 38) .skip (.exit 2))) (.seq (.block 3 (.seq (.region 10 ⟨o5⟩ false) (.cond (.tmp 45) (.seq (.region 11 ⟨o4⟩ false) .ret) .skip))) (.region 9 ⟨o3⟩ false)))))) (.seq (.region 12 ⟨o1⟩ false) .ret)))))
theorem body : Try.f128.body = some code := by kernel_rfl
theorem main (P : PT) : ∀ env H, (En 46 k5 (B15 P)) env H → AW Try.prog T0 code env H (mkQ (ret P) (fun _ _ _ => False) (ret P)) :=
  (r_seq (rB T0_ok (q15 P)) (r_seq (rB T0_ok (q14 P)) (r_seq (r_seq (rB T0_ok (q13 P)) (r_block (rL (l8 P) (fun N8 => (r_seq (r_seq (rB T0_ok (q12 P N8)) (r_cond rfl r_skip (r_exit (fun _ _ h => h)))) (r_seq (r_block (r_seq (rB T0_ok (q11 P N8)) (rB T0_ok (q10 P N8)))) (rB T0_ok (q9 P N8)))))))) (r_seq (r_seq (rB T0_ok (q7 P)) (r_block (rL (l2 P) (fun N2 => (r_seq (r_seq (rB T0_ok (q6 P N2)) (r_cond rfl r_skip (r_exit (fun _ _ h => h)))) (r_seq (r_block (r_seq (rB T0_ok (q5 P N2)) (r_cond rfl (r_seq (rB T0_ok (q4 P N2)) r_ret) r_skip))) (rB T0_ok (q3 P N2)))))))) (r_seq (rB T0_ok (q1 P)) r_ret)))))
theorem ac (P : PT) (x0 : Int) (x1 : Value) (H : AHeap) (h : B15 P x0 x1 H) : AC Try.prog T0 128 [(Value.int .i64 x0), x1] H P :=
  r_fn T0_ok (c := code) (n := 46) Try.func128 body (by kernel_rfl) (main P) (En_mk (x0, x1, ()) (by kernel_rfl) ⟨by kernel_rfl, by kernel_rfl, trivial⟩ h)

end F128
-- loop.example/g01329/spec.l01Before
namespace F129
noncomputable def ret (P : PT) : EP := retE T0 24 Try.f129 P
abbrev k0 : Sk := [(2,.x),(3,.x)]
noncomputable def o1 := ob Try.f129 [.r,.l]
def B1 (P : PT) (x2 x3 : Nat) (H : AHeap) : Prop :=
  ldI .i64 H x2 0 (fun v1 => ldI .i64 H x3 0 (fun v2 => pif (decide ((v1 : Int) < v2)) (P (Value.bool true) H) (ldI .i64 H x2 0 (fun v3 => ldI .i64 H x3 0 (fun v4 => pif ((v3 : Int) == v4) (ldI .i64 H x2 1 (fun v5 => ldI .i64 H x3 1 (fun v6 => P (Value.bool (decide ((v5 : Int) < v6))) H))) (P (Value.bool false) H))))))
theorem q1 (P : PT) : QB Try.prog T0 24 o1 (ret P) k0 (B1 P) := fun _ _ _ _  => by kernel_rfl
abbrev k1 : Sk := [(0,.g [.i,.i]),(1,.g [.i,.i])]
noncomputable def o2 := ob Try.f129 [.l]
def B2 (P : PT) (x0a x0b x1a x1b : Int) (H : AHeap) : Prop :=
  newK H [(Value.int .i64 x0a), (Value.int .i64 x0b)] 67 (fun b1 H2 => newK H2 [(Value.int .i64 x1a), (Value.int .i64 x1b)] 67 (fun b3 H4 => B1 P b1 b3 H4))
theorem q2 (P : PT) : QB Try.prog T0 24 o2 (En 24 k0 (B1 P)) k1 (B2 P) := fun _ _ _ _ _ _  => by kernel_rfl
noncomputable def code : Code := (.seq (.region 0 ⟨o2⟩ false) (.seq (.region 1 ⟨o1⟩ false) .ret))
theorem body : Try.f129.body = some code := by kernel_rfl
theorem main (P : PT) : ∀ env H, (En 24 k1 (B2 P)) env H → AW Try.prog T0 code env H (mkQ (ret P) (fun _ _ _ => False) (ret P)) :=
  (r_seq (rB T0_ok (q2 P)) (r_seq (rB T0_ok (q1 P)) r_ret))
theorem ac (P : PT) (x0a x0b x1a x1b : Int) (H : AHeap) (h : B2 P x0a x0b x1a x1b H) : AC Try.prog T0 129 [(Value.agg ⟨[(Value.int .i64 x0a), (Value.int .i64 x0b)]⟩), (Value.agg ⟨[(Value.int .i64 x1a), (Value.int .i64 x1b)]⟩)] H P :=
  r_fn T0_ok (c := code) (n := 24) Try.func129 body (by kernel_rfl) (main P) (En_mk (x0a, x0b, x1a, x1b, ()) (by kernel_rfl) ⟨by kernel_rfl, by kernel_rfl, trivial⟩ h)

end F129
-- loop.example/g01329/impl.areEdges
namespace F131
noncomputable def ret (P : PT) : EP := retE T0 20 Try.f131 P
abbrev k0 : Sk := [(1,.v),(2,.x)]
noncomputable def o1 := ob Try.f131 [.r,.l]
def B1 (P : PT) (x1 : Value) (x2 : Nat) (H : AHeap) : Prop :=
  ldI .i64 H x2 0 (fun v1 => AC Try.prog T0 172 [(Value.int .i64 v1)] H (fun v2 H3 => asB v2 (fun v4 => pif v4 (ldI .i64 H3 x2 0 (fun v5 => AC Try.prog T0 44 [x1] H3 (fun v6 H7 => asI .i64 v6 (fun v8 => (AHeap.le H3 H7) ∧ (pif ((v8 : Int) == (IntKind.i64.wrap (Int.tdiv (IntKind.i64.wrap (3 * v5)) 2))) (AC Try.prog T0 132 [x1, (Value.func (.func 173) ⟨[]⟩ ⟨[(Value.pointer (some ⟨x2, 0, none⟩))]⟩)] H7 (fun v9 H10 => asB v9 (fun v11 => P (Value.bool v11) H10))) (P (Value.bool false) H7)))))) (P (Value.bool false) H3))))
theorem q1 (P : PT) : QD Try.prog T0 20 o1 [(0, false), (1, false), (2, false), (3, false), (5, false), (6, false), (7, false), (4, true), (8, false), (9, false), (10, false), (11, false), (12, false), (13, false), (14, false), (15, false)] (ret P) k0 (B1 P) := fun _ _ _ _  => by kernel_rfl
abbrev k1 : Sk := [(0,.i .i64),(1,.v)]
noncomputable def o2 := ob Try.f131 [.l]
def B2 (P : PT) (x0 : Int) (x1 : Value) (H : AHeap) : Prop :=
  newK H [(Value.int .i64 x0)] 2 (fun b1 H2 => B1 P x1 b1 H2)
theorem q2 (P : PT) : QB Try.prog T0 20 o2 (En 20 k0 (B1 P)) k1 (B2 P) := fun _ _ _ _  => by kernel_rfl
noncomputable def code : Code := (.seq (.region 0 ⟨o2⟩ false) (.seq (.region 1 ⟨o1⟩ true) .ret))
theorem body : Try.f131.body = some code := by kernel_rfl
theorem main (P : PT) : ∀ env H, (En 20 k1 (B2 P)) env H → AW Try.prog T0 code env H (mkQ (ret P) (fun _ _ _ => False) (ret P)) :=
  (r_seq (rB T0_ok (q2 P)) (r_seq (rD T0_ok mixed [(0, false), (1, false), (2, false), (3, false), (5, false), (6, false), (7, false), (4, true), (8, false), (9, false), (10, false), (11, false), (12, false), (13, false), (14, false), (15, false)] (by kernel_rfl) (q1 P)) r_ret))
theorem ac (P : PT) (x0 : Int) (x1 : Value) (H : AHeap) (h : B2 P x0 x1 H) : AC Try.prog T0 131 [(Value.int .i64 x0), x1] H P :=
  r_fn T0_ok (c := code) (n := 20) Try.func131 body (by kernel_rfl) (main P) (En_mk (x0, x1, ()) (by kernel_rfl) ⟨by kernel_rfl, by kernel_rfl, trivial⟩ h)

end F131
-- loop.example/g01329/impl.areAll[loop.example/g01329/impl.Edge]
namespace F132
noncomputable def ret (P : PT) : EP := retE T0 9 Try.f132 P
abbrev k0 : Sk := [(0,.v),(3,.x)]
noncomputable def o1 := ob Try.f132 [.r,.l]
def B1 (P : PT) (x0 : Value) (x3 : Nat) (H : AHeap) : Prop :=
  AC Try.prog T0 174 [x0, (Value.func (.func 175) ⟨[]⟩ ⟨[(Value.pointer (some ⟨x3, 0, none⟩))]⟩)] H (fun v1 H2 => asB v1 (fun v3 => P (Value.bool (!v3)) H2))
theorem q1 (P : PT) : QB Try.prog T0 9 o1 (ret P) k0 (B1 P) := fun _ _ _ _  => by kernel_rfl
abbrev k1 : Sk := [(0,.v),(1,.v)]
noncomputable def o2 := ob Try.f132 [.l]
def B2 (P : PT) (x0 x1 : Value) (H : AHeap) : Prop :=
  pif (Value.oneCell' x1) (newK H [x1] 144 (fun b1 H2 => B1 P x0 b1 H2)) False
theorem q2 (P : PT) : QB Try.prog T0 9 o2 (En 9 k0 (B1 P)) k1 (B2 P) := fun _ _ _ _  => by kernel_rfl
noncomputable def code : Code := (.seq (.region 0 ⟨o2⟩ false) (.seq (.region 1 ⟨o1⟩ false) .ret))
theorem body : Try.f132.body = some code := by kernel_rfl
theorem main (P : PT) : ∀ env H, (En 9 k1 (B2 P)) env H → AW Try.prog T0 code env H (mkQ (ret P) (fun _ _ _ => False) (ret P)) :=
  (r_seq (rB T0_ok (q2 P)) (r_seq (rB T0_ok (q1 P)) r_ret))
theorem ac (P : PT) (x0 x1 : Value) (H : AHeap) (h : B2 P x0 x1 H) : AC Try.prog T0 132 [x0, x1] H P :=
  r_fn T0_ok (c := code) (n := 9) Try.func132 body (by kernel_rfl) (main P) (En_mk (x0, x1, ()) (by kernel_rfl) ⟨by kernel_rfl, by kernel_rfl, trivial⟩ h)

end F132
-- loop.example/g01329/impl.IsGraph$1
namespace F133
noncomputable def ret (P : PT) : EP := retE T0 8 Try.f133 P
abbrev k0 : Sk := [(1,.x)]
noncomputable def o1 := ob Try.f133 [.r,.l]
def B1 (P : PT) (x1 : Nat) (H : AHeap) : Prop :=
  ldI .i64 H x1 0 (fun v1 => ldI .i64 H x1 1 (fun v2 => P (Value.bool (decide ((v1 : Int) < v2))) H))
theorem q1 (P : PT) : QB Try.prog T0 8 o1 (ret P) k0 (B1 P) := fun _ _ _  => by kernel_rfl
abbrev k1 : Sk := [(0,.g [.i,.i])]
noncomputable def o2 := ob Try.f133 [.l]
def B2 (P : PT) (x0a x0b : Int) (H : AHeap) : Prop :=
  newK H [(Value.int .i64 x0a), (Value.int .i64 x0b)] 67 (fun b1 H2 => B1 P b1 H2)
theorem q2 (P : PT) : QB Try.prog T0 8 o2 (En 8 k0 (B1 P)) k1 (B2 P) := fun _ _ _ _  => by kernel_rfl
noncomputable def code : Code := (.seq (.region 0 ⟨o2⟩ false) (.seq (.region 1 ⟨o1⟩ false) .ret))
theorem body : Try.f133.body = some code := by kernel_rfl
theorem main (P : PT) : ∀ env H, (En 8 k1 (B2 P)) env H → AW Try.prog T0 code env H (mkQ (ret P) (fun _ _ _ => False) (ret P)) :=
  (r_seq (rB T0_ok (q2 P)) (r_seq (rB T0_ok (q1 P)) r_ret))
theorem ac (P : PT) (x0a x0b : Int) (H : AHeap) (h : B2 P x0a x0b H) : AC Try.prog T0 133 [(Value.agg ⟨[(Value.int .i64 x0a), (Value.int .i64 x0b)]⟩)] H P :=
  r_fn T0_ok (c := code) (n := 8) Try.func133 body (by kernel_rfl) (main P) (En_mk (x0a, x0b, ()) (by kernel_rfl) ⟨by kernel_rfl, trivial⟩ h)

end F133
end Go.Proofs
