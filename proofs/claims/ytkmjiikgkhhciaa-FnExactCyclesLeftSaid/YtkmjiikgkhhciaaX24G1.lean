import Derived.Test.YtkmjiikgkhhciaaT
set_option linter.unusedVariables false
set_option maxRecDepth 100000
namespace Go.Proofs
open Go.Abs
-- loop.example/g01329/laws.FnExactCyclesLeft
namespace F6
noncomputable def ret (P : PT) : EP := retE T0 117 Try.f6 P
abbrev k0 : Sk := []
noncomputable def o1 := ob Try.f6 [.r,.r,.r,.r,.r,.r,.r,.r,.r,.r,.r,.r,.r,.r,.r,.r,.r,.r,.r,.r,.r,.r,.r,.r,.r,.r,.r,.r,.l]
def B1 (P : PT) (H : AHeap) : Prop :=
  P (Value.bool true) H
theorem q1 (P : PT) : QB Try.prog T0 117 o1 (ret P) k0 (B1 P) := fun _ _  => by kernel_rfl
noncomputable def o2 := ob Try.f6 [.r,.r,.r,.r,.r,.r,.r,.r,.r,.r,.r,.r,.r,.r,.r,.r,.r,.r,.r,.r,.r,.r,.r,.r,.r,.r,.r,.l,.r,.l,.l]
def B2 (P : PT) (H : AHeap) : Prop :=
  P (Value.bool false) H
theorem q2 (P : PT) : QB Try.prog T0 117 o2 (ret P) k0 (B2 P) := fun _ _  => by kernel_rfl
abbrev k1 : Sk := [(13,.i .i64),(14,.i .i64)]
noncomputable def o3 := ob Try.f6 [.r,.r,.r,.r,.r,.r,.r,.r,.r,.r,.r,.r,.r,.r,.r,.r,.r,.r,.r,.r,.r,.r,.r,.r,.r,.r,.r,.l,.l]
def B3 (P : PT) (x13 x14 : Int) (H : AHeap) : Prop :=
  pif ((x14 : Int) != x13) (B2 P H) (B1 P H)
theorem q3 (P : PT) : QB Try.prog T0 117 o3 (cnd 116 (En 117 k0 (B2 P)) (En 117 k0 (B1 P))) k1 (B3 P) := fun _ _ _ _  => by kernel_rfl
noncomputable def o4 := ob Try.f6 [.r,.r,.r,.r,.r,.r,.r,.r,.r,.r,.r,.r,.r,.r,.r,.r,.r,.r,.r,.r,.r,.r,.r,.r,.r,.r,.l,.r,.l,.l]
def B4 (P : PT) (H : AHeap) : Prop :=
  P (Value.bool false) H
theorem q4 (P : PT) : QB Try.prog T0 117 o4 (ret P) k0 (B4 P) := fun _ _  => by kernel_rfl
noncomputable def o5 := ob Try.f6 [.r,.r,.r,.r,.r,.r,.r,.r,.r,.r,.r,.r,.r,.r,.r,.r,.r,.r,.r,.r,.r,.r,.r,.r,.r,.r,.l,.l]
def B5 (P : PT) (x13 x14 : Int) (H : AHeap) : Prop :=
  pif (decide ((x14 : Int) < 0)) (B4 P H) (B3 P x13 x14 H)
theorem q5 (P : PT) : QB Try.prog T0 117 o5 (cnd 113 (En 117 k0 (B4 P)) (En 117 k1 (B3 P))) k1 (B5 P) := fun _ _ _ _  => by kernel_rfl
abbrev k2 : Sk := [(10,.v),(13,.i .i64),(14,.i .i64)]
noncomputable def o6 := ob Try.f6 [.r,.r,.r,.r,.r,.r,.r,.r,.r,.r,.r,.r,.r,.r,.r,.r,.r,.r,.r,.r,.r,.r,.r,.r,.r,.l]
def B6 (P : PT) (x10 : Value) (x13 x14 : Int) (H : AHeap) : Prop :=
  AC Try.prog T0 30 [x10, (Value.int .i64 x14)] H (fun v1 H2 => asI .i64 v1 (fun v3 => B5 P x13 v3 H2))
theorem q6 (P : PT) : QB Try.prog T0 117 o6 (En 117 k1 (B5 P)) k2 (B6 P) := fun _ _ _ _ _  => by kernel_rfl
abbrev k3 : Sk := [(10,.v),(13,.i .i64)]
noncomputable def o7 := ob Try.f6 [.r,.r,.r,.r,.r,.r,.r,.r,.r,.r,.r,.r,.r,.r,.r,.r,.r,.r,.r,.r,.r,.r,.r,.r,.l]
def B7 (P : PT) (x10 : Value) (x13 : Int) (H : AHeap) : Prop :=
  B6 P x10 x13 1 H
theorem q7 (P : PT) : QB Try.prog T0 117 o7 (En 117 k2 (B6 P)) k3 (B7 P) := fun _ _ _ _  => by kernel_rfl
noncomputable def o8 := ob Try.f6 [.r,.r,.r,.r,.r,.r,.r,.r,.r,.r,.r,.r,.r,.r,.r,.r,.r,.r,.r,.r,.r,.r,.r,.l,.r,.l,.l]
def B8 (P : PT) (H : AHeap) : Prop :=
  P (Value.bool false) H
theorem q8 (P : PT) : QB Try.prog T0 117 o8 (ret P) k0 (B8 P) := fun _ _  => by kernel_rfl
abbrev k4 : Sk := [(6,.v),(7,.i .i64),(10,.v),(13,.i .i64),(15,.v),(16,.i .i64)]
noncomputable def o9 := ob Try.f6 [.r,.r,.r,.r,.r,.r,.r,.r,.r,.r,.r,.r,.r,.r,.r,.r,.r,.r,.r,.r,.r,.r,.r,.l,.l]
def B9 (P : PT) (x6 : Value) (x7 : Int) (x10 : Value) (x13 : Int) (x15 : Value) (x16 : Int) (H : AHeap) : Prop :=
  AC Try.prog T0 15 [x15, x6] H (fun v1 H2 => asB v1 (fun v3 => pif (!v3) (B8 P H2) (pif ((x16 : Int) != x7) (B8 P H2) (B7 P x10 x13 H2))))
theorem q9 (P : PT) : QB Try.prog T0 117 o9 (cnd 108 (En 117 k0 (B8 P)) (En 117 k3 (B7 P))) k4 (B9 P) := fun _ _ _ _ _ _ _ _  => by kernel_rfl
abbrev k5 : Sk := [(1,.v),(2,.x),(6,.v),(7,.i .i64),(10,.v),(13,.i .i64)]
noncomputable def o10 := ob Try.f6 [.r,.r,.r,.r,.r,.r,.r,.r,.r,.r,.r,.r,.r,.r,.r,.r,.r,.r,.r,.r,.r,.r,.l]
def B10 (P : PT) (x1 : Value) (x2 : Nat) (x6 : Value) (x7 : Int) (x10 : Value) (x13 : Int) (H : AHeap) : Prop :=
  ldI .i64 H x2 0 (fun v1 => ld1 H x2 1 (fun v2 => AC Try.prog T0 11 [(Value.agg ⟨[(Value.int .i64 v1), v2]⟩)] H (fun v3 H4 => agg2 v3 (fun v5 v6 => asI .i64 v5 (fun v7 => AC Try.prog T0 12 [x1] H4 (fun v9 H10 => AC Try.prog T0 27 [(Value.agg ⟨[(Value.int .i64 v7), v6]⟩), v9] H10 (fun v12 H13 => tup2 v12 (fun v14 v15 => asI .i64 v15 (fun v17 => B9 P x6 x7 x10 x13 v14 v17 H13)))))))))
theorem q10 (P : PT) : QB Try.prog T0 117 o10 (En 117 k4 (B9 P)) k5 (B10 P) := fun _ _ _ _ _ _ _ _  => by kernel_rfl
noncomputable def o11 := ob Try.f6 [.r,.r,.r,.r,.r,.r,.r,.r,.r,.r,.r,.r,.r,.r,.r,.r,.r,.r,.r,.r,.r,.l,.r,.l,.l]
def B11 (P : PT) (H : AHeap) : Prop :=
  P (Value.bool false) H
theorem q11 (P : PT) : QB Try.prog T0 117 o11 (ret P) k0 (B11 P) := fun _ _  => by kernel_rfl
abbrev k6 : Sk := [(1,.v),(2,.x),(6,.v),(7,.i .i64),(10,.v),(13,.i .i64),(14,.i .i64)]
noncomputable def o12 := ob Try.f6 [.r,.r,.r,.r,.r,.r,.r,.r,.r,.r,.r,.r,.r,.r,.r,.r,.r,.r,.r,.r,.r,.l,.l]
def B12 (P : PT) (x1 : Value) (x2 : Nat) (x6 : Value) (x7 : Int) (x10 : Value) (x13 x14 : Int) (H : AHeap) : Prop :=
  pif ((x14 : Int) != x13) (B11 P H) (B10 P x1 x2 x6 x7 x10 x13 H)
theorem q12 (P : PT) : QB Try.prog T0 117 o12 (cnd 91 (En 117 k0 (B11 P)) (En 117 k5 (B10 P))) k6 (B12 P) := fun _ _ _ _ _ _ _ _ _  => by kernel_rfl
noncomputable def o13 := ob Try.f6 [.r,.r,.r,.r,.r,.r,.r,.r,.r,.r,.r,.r,.r,.r,.r,.r,.r,.r,.r,.r,.l,.r,.l,.l]
def B13 (P : PT) (H : AHeap) : Prop :=
  P (Value.bool false) H
theorem q13 (P : PT) : QB Try.prog T0 117 o13 (ret P) k0 (B13 P) := fun _ _  => by kernel_rfl
noncomputable def o14 := ob Try.f6 [.r,.r,.r,.r,.r,.r,.r,.r,.r,.r,.r,.r,.r,.r,.r,.r,.r,.r,.r,.r,.l,.l]
def B14 (P : PT) (x1 : Value) (x2 : Nat) (x6 : Value) (x7 : Int) (x10 : Value) (x13 x14 : Int) (H : AHeap) : Prop :=
  pif (decide ((x14 : Int) < 0)) (B13 P H) (B12 P x1 x2 x6 x7 x10 x13 x14 H)
theorem q14 (P : PT) : QB Try.prog T0 117 o14 (cnd 88 (En 117 k0 (B13 P)) (En 117 k6 (B12 P))) k6 (B14 P) := fun _ _ _ _ _ _ _ _ _  => by kernel_rfl
noncomputable def o15 := ob Try.f6 [.r,.r,.r,.r,.r,.r,.r,.r,.r,.r,.r,.r,.r,.r,.r,.r,.r,.r,.r,.l]
def B15 (P : PT) (x1 : Value) (x2 : Nat) (x6 : Value) (x7 : Int) (x10 : Value) (x13 x14 : Int) (H : AHeap) : Prop :=
  AC Try.prog T0 30 [x10, (Value.int .i64 x14)] H (fun v1 H2 => asI .i64 v1 (fun v3 => B14 P x1 x2 x6 x7 x10 x13 v3 H2))
theorem q15 (P : PT) : QB Try.prog T0 117 o15 (En 117 k6 (B14 P)) k6 (B15 P) := fun _ _ _ _ _ _ _ _ _  => by kernel_rfl
noncomputable def o16 := ob Try.f6 [.r,.r,.r,.r,.r,.r,.r,.r,.r,.r,.r,.r,.r,.r,.r,.r,.r,.r,.l]
def B16 (P : PT) (x1 : Value) (x2 : Nat) (x6 : Value) (x7 : Int) (x10 : Value) (x13 : Int) (H : AHeap) : Prop :=
  B15 P x1 x2 x6 x7 x10 x13 1 H
theorem q16 (P : PT) : QB Try.prog T0 117 o16 (En 117 k6 (B15 P)) k5 (B16 P) := fun _ _ _ _ _ _ _ _  => by kernel_rfl
noncomputable def o17 := ob Try.f6 [.r,.r,.r,.r,.r,.r,.r,.r,.r,.r,.r,.r,.r,.r,.r,.r,.r,.l]
def B17 (P : PT) (x1 : Value) (x2 : Nat) (x6 : Value) (x7 : Int) (x10 : Value) (x13 : Int) (H : AHeap) : Prop :=
  AC Try.prog T0 29 [x10, (Value.int .i64 x13)] H (fun v1 H2 => asI .i64 v1 (fun v3 => B16 P x1 x2 x6 x7 x10 v3 H2))
theorem q17 (P : PT) : QB Try.prog T0 117 o17 (En 117 k5 (B16 P)) k5 (B17 P) := fun _ _ _ _ _ _ _ _  => by kernel_rfl
abbrev k7 : Sk := [(1,.v),(2,.x),(6,.v),(7,.i .i64),(10,.v)]
noncomputable def o18 := ob Try.f6 [.r,.r,.r,.r,.r,.r,.r,.r,.r,.r,.r,.r,.r,.r,.r,.r,.l]
def B18 (P : PT) (x1 : Value) (x2 : Nat) (x6 : Value) (x7 : Int) (x10 : Value) (H : AHeap) : Prop :=
  B17 P x1 x2 x6 x7 x10 1 H
theorem q18 (P : PT) : QB Try.prog T0 117 o18 (En 117 k5 (B17 P)) k7 (B18 P) := fun _ _ _ _ _ _ _  => by kernel_rfl
noncomputable def o19 := ob Try.f6 [.r,.r,.r,.r,.r,.r,.r,.r,.r,.r,.r,.r,.r,.r,.r,.l,.r,.l,.l]
def B19 (P : PT) (H : AHeap) : Prop :=
  P (Value.bool false) H
theorem q19 (P : PT) : QB Try.prog T0 117 o19 (ret P) k0 (B19 P) := fun _ _  => by kernel_rfl
abbrev k8 : Sk := [(1,.v),(2,.x),(6,.v),(7,.i .i64),(10,.v),(11,.i .i64),(12,.i .i64)]
noncomputable def o20 := ob Try.f6 [.r,.r,.r,.r,.r,.r,.r,.r,.r,.r,.r,.r,.r,.r,.r,.l,.l]
def B20 (P : PT) (x1 : Value) (x2 : Nat) (x6 : Value) (x7 : Int) (x10 : Value) (x11 x12 : Int) (H : AHeap) : Prop :=
  pif (decide ((x12 : Int) < 0)) (B19 P H) (AC Try.prog T0 15 [x10, x6] H (fun v1 H2 => asB v1 (fun v3 => pif (!v3) (B19 P H2) (pif ((x11 : Int) != x7) (B19 P H2) (B18 P x1 x2 x6 x7 x10 H2)))))
theorem q20 (P : PT) : QB Try.prog T0 117 o20 (cnd 80 (En 117 k0 (B19 P)) (En 117 k7 (B18 P))) k8 (B20 P) := fun _ _ _ _ _ _ _ _ _  => by kernel_rfl
abbrev k9 : Sk := [(1,.v),(2,.x),(6,.v),(7,.i .i64),(9,.v),(10,.v),(11,.i .i64),(12,.i .i64)]
noncomputable def o21 := ob Try.f6 [.r,.r,.r,.r,.r,.r,.r,.r,.r,.r,.r,.r,.r,.r,.l]
def B21 (P : PT) (x1 : Value) (x2 : Nat) (x6 : Value) (x7 : Int) (x9 x10 : Value) (x11 x12 : Int) (H : AHeap) : Prop :=
  AC Try.prog T0 29 [x9, (Value.int .i64 x12)] H (fun v1 H2 => asI .i64 v1 (fun v3 => B20 P x1 x2 x6 x7 x10 x11 v3 H2))
theorem q21 (P : PT) : QB Try.prog T0 117 o21 (En 117 k8 (B20 P)) k9 (B21 P) := fun _ _ _ _ _ _ _ _ _ _  => by kernel_rfl
abbrev k10 : Sk := [(1,.v),(2,.x),(6,.v),(7,.i .i64),(8,.x),(9,.v),(10,.v),(11,.i .i64),(12,.i .i64)]
noncomputable def o22 := ob Try.f6 [.r,.r,.r,.r,.r,.r,.r,.r,.r,.r,.r,.r,.r,.l]
def B22 (P : PT) (x1 : Value) (x2 : Nat) (x6 : Value) (x7 : Int) (x8 : Nat) (x9 x10 : Value) (x11 x12 : Int) (H : AHeap) : Prop :=
  ldI .i64 H x8 0 (fun v1 => ld1 H x8 1 (fun v2 => AC Try.prog T0 28 [(Value.agg ⟨[(Value.int .i64 v1), v2]⟩), (Value.int .i64 x12)] H (fun v3 H4 => asI .i64 v3 (fun v5 => B21 P x1 x2 x6 x7 x9 x10 x11 v5 H4))))
theorem q22 (P : PT) : QB Try.prog T0 117 o22 (En 117 k9 (B21 P)) k10 (B22 P) := fun _ _ _ _ _ _ _ _ _ _ _  => by kernel_rfl
abbrev k11 : Sk := [(1,.v),(2,.x),(6,.v),(7,.i .i64),(8,.x),(9,.v),(10,.v),(11,.i .i64)]
noncomputable def o23 := ob Try.f6 [.r,.r,.r,.r,.r,.r,.r,.r,.r,.r,.r,.r,.l]
def B23 (P : PT) (x1 : Value) (x2 : Nat) (x6 : Value) (x7 : Int) (x8 : Nat) (x9 x10 : Value) (x11 : Int) (H : AHeap) : Prop :=
  B22 P x1 x2 x6 x7 x8 x9 x10 x11 1 H
theorem q23 (P : PT) : QB Try.prog T0 117 o23 (En 117 k10 (B22 P)) k11 (B23 P) := fun _ _ _ _ _ _ _ _ _ _  => by kernel_rfl
noncomputable def o24 := ob Try.f6 [.r,.r,.r,.r,.r,.r,.r,.r,.r,.r,.r,.l,.r,.l,.l]
def B24 (P : PT) (H : AHeap) : Prop :=
  P (Value.bool false) H
theorem q24 (P : PT) : QB Try.prog T0 117 o24 (ret P) k0 (B24 P) := fun _ _  => by kernel_rfl
noncomputable def o25 := ob Try.f6 [.r,.r,.r,.r,.r,.r,.r,.r,.r,.r,.r,.l,.l]
def B25 (P : PT) (x1 : Value) (x2 : Nat) (x6 : Value) (x7 : Int) (x8 : Nat) (x9 x10 : Value) (x11 : Int) (H : AHeap) : Prop :=
  AC Try.prog T0 12 [x1] H (fun v1 H2 => AC Try.prog T0 15 [x9, v1] H2 (fun v4 H5 => asB v4 (fun v6 => pif (!v6) (B24 P H5) (B23 P x1 x2 x6 x7 x8 x9 x10 x11 H5))))
theorem q25 (P : PT) : QB Try.prog T0 117 o25 (cnd 61 (En 117 k0 (B24 P)) (En 117 k11 (B23 P))) k11 (B25 P) := fun _ _ _ _ _ _ _ _ _ _  => by kernel_rfl
noncomputable def o26 := ob Try.f6 [.r,.r,.r,.r,.r,.r,.r,.r,.r,.r,.l,.r,.l,.l]
def B26 (P : PT) (H : AHeap) : Prop :=
  P (Value.bool false) H
theorem q26 (P : PT) : QB Try.prog T0 117 o26 (ret P) k0 (B26 P) := fun _ _  => by kernel_rfl
noncomputable def o27 := ob Try.f6 [.r,.r,.r,.r,.r,.r,.r,.r,.r,.r,.l,.l]
def B27 (P : PT) (x1 : Value) (x2 : Nat) (x6 : Value) (x7 : Int) (x8 : Nat) (x9 x10 : Value) (x11 : Int) (H : AHeap) : Prop :=
  ldI .i64 H x8 0 (fun v1 => ld1 H x8 1 (fun v2 => ldI .i64 H x2 0 (fun v3 => ld1 H x2 1 (fun v4 => AC Try.prog T0 11 [(Value.agg ⟨[(Value.int .i64 v3), v4]⟩)] H (fun v5 H6 => agg2 v5 (fun v7 v8 => asI .i64 v7 (fun v9 => (AHeap.le H H6) ∧ (AC Try.prog T0 14 [(Value.agg ⟨[(Value.int .i64 v1), v2]⟩), (Value.agg ⟨[(Value.int .i64 v9), v8]⟩)] H6 (fun v11 H12 => asB v11 (fun v13 => pif (!v13) (B26 P H12) (B25 P x1 x2 x6 x7 x8 x9 x10 x11 H12)))))))))))
theorem q27 (P : PT) : QD Try.prog T0 117 o27 [(0, false), (1, false), (2, true), (3, false), (4, false)] (cnd 56 (En 117 k0 (B26 P)) (En 117 k11 (B25 P))) k11 (B27 P) := fun _ _ _ _ _ _ _ _ _ _  => by kernel_rfl
noncomputable def o28 := ob Try.f6 [.r,.r,.r,.r,.r,.r,.r,.r,.r,.l,.r,.l,.l]
def B28 (P : PT) (H : AHeap) : Prop :=
  P (Value.bool false) H
theorem q28 (P : PT) : QB Try.prog T0 117 o28 (ret P) k0 (B28 P) := fun _ _  => by kernel_rfl
noncomputable def o29 := ob Try.f6 [.r,.r,.r,.r,.r,.r,.r,.r,.r,.l,.l]
def B29 (P : PT) (x1 : Value) (x2 : Nat) (x6 : Value) (x7 : Int) (x8 : Nat) (x9 x10 : Value) (x11 : Int) (H : AHeap) : Prop :=
  AC Try.prog T0 15 [x10, x6] H (fun v1 H2 => asB v1 (fun v3 => pif (!v3) (B28 P H2) (pif ((x11 : Int) != x7) (B28 P H2) (B27 P x1 x2 x6 x7 x8 x9 x10 x11 H2))))
theorem q29 (P : PT) : QB Try.prog T0 117 o29 (cnd 51 (En 117 k0 (B28 P)) (En 117 k11 (B27 P))) k11 (B29 P) := fun _ _ _ _ _ _ _ _ _ _  => by kernel_rfl
abbrev k12 : Sk := [(1,.v),(2,.x),(6,.v),(7,.i .i64),(8,.x),(9,.v)]
noncomputable def o30 := ob Try.f6 [.r,.r,.r,.r,.r,.r,.r,.r,.l]
def B30 (P : PT) (x1 : Value) (x2 : Nat) (x6 : Value) (x7 : Int) (x8 : Nat) (x9 : Value) (H : AHeap) : Prop :=
  ldI .i64 H x8 0 (fun v1 => ld1 H x8 1 (fun v2 => AC Try.prog T0 27 [(Value.agg ⟨[(Value.int .i64 v1), v2]⟩), x9] H (fun v3 H4 => tup2 v3 (fun v5 v6 => asI .i64 v6 (fun v8 => B29 P x1 x2 x6 x7 x8 x9 v5 v8 H4)))))
theorem q30 (P : PT) : QB Try.prog T0 117 o30 (En 117 k11 (B29 P)) k12 (B30 P) := fun _ _ _ _ _ _ _ _  => by kernel_rfl
abbrev k13 : Sk := [(1,.v),(2,.x),(6,.v),(7,.i .i64),(8,.x)]
noncomputable def o31 := ob Try.f6 [.r,.r,.r,.r,.r,.r,.r,.l]
def B31 (P : PT) (x1 : Value) (x2 : Nat) (x6 : Value) (x7 : Int) (x8 : Nat) (H : AHeap) : Prop :=
  AC Try.prog T0 12 [x1] H (fun v1 H2 => B30 P x1 x2 x6 x7 x8 v1 H2)
theorem q31 (P : PT) : QB Try.prog T0 117 o31 (En 117 k12 (B30 P)) k13 (B31 P) := fun _ _ _ _ _ _ _  => by kernel_rfl
abbrev k14 : Sk := [(1,.v),(2,.x),(6,.v),(7,.i .i64)]
noncomputable def o32 := ob Try.f6 [.r,.r,.r,.r,.r,.r,.l]
def B32 (P : PT) (x1 : Value) (x2 : Nat) (x6 : Value) (x7 : Int) (H : AHeap) : Prop :=
  ldI .i64 H x2 0 (fun v1 => ld1 H x2 1 (fun v2 => AC Try.prog T0 11 [(Value.agg ⟨[(Value.int .i64 v1), v2]⟩)] H (fun v3 H4 => agg2 v3 (fun v5 v6 => asI .i64 v5 (fun v7 => newK H4 [(Value.int .i64 0), (Value.slice none 0 0)] 31 (fun b9 H10 => stK H10 b9 0 [(Value.int .i64 v7), v6] (fun H11 => B31 P x1 x2 x6 x7 b9 H11)))))))
theorem q32 (P : PT) : QB Try.prog T0 117 o32 (En 117 k13 (B31 P)) k14 (B32 P) := fun _ _ _ _ _ _  => by kernel_rfl
abbrev k15 : Sk := [(1,.v),(2,.x)]
noncomputable def o33 := ob Try.f6 [.r,.r,.r,.r,.r,.l]
def B33 (P : PT) (x1 : Value) (x2 : Nat) (H : AHeap) : Prop :=
  ldI .i64 H x2 0 (fun v1 => ld1 H x2 1 (fun v2 => AC Try.prog T0 11 [(Value.agg ⟨[(Value.int .i64 v1), v2]⟩)] H (fun v3 H4 => agg2 v3 (fun v5 v6 => asI .i64 v5 (fun v7 => AC Try.prog T0 12 [x1] H4 (fun v9 H10 => AC Try.prog T0 26 [(Value.agg ⟨[(Value.int .i64 v7), v6]⟩), v9] H10 (fun v12 H13 => tup2 v12 (fun v14 v15 => asI .i64 v15 (fun v17 => B32 P x1 x2 v14 v17 H13)))))))))
theorem q33 (P : PT) : QB Try.prog T0 117 o33 (En 117 k14 (B32 P)) k15 (B33 P) := fun _ _ _ _  => by kernel_rfl
noncomputable def o34 := ob Try.f6 [.r,.r,.r,.r,.l,.r,.l,.l]
def B34 (P : PT) (H : AHeap) : Prop :=
  P (Value.bool true) H
theorem q34 (P : PT) : QB Try.prog T0 117 o34 (ret P) k0 (B34 P) := fun _ _  => by kernel_rfl
abbrev k16 : Sk := [(1,.v),(2,.x),(5,.i .i64)]
noncomputable def o35 := ob Try.f6 [.r,.r,.r,.r,.l,.l]
def B35 (P : PT) (x1 : Value) (x2 : Nat) (x5 : Int) (H : AHeap) : Prop :=
  pif (decide ((x5 : Int) < 0)) (B34 P H) (B33 P x1 x2 H)
theorem q35 (P : PT) : QB Try.prog T0 117 o35 (cnd 24 (En 117 k0 (B34 P)) (En 117 k15 (B33 P))) k16 (B35 P) := fun _ _ _ _ _  => by kernel_rfl
noncomputable def o36 := ob Try.f6 [.r,.r,.r,.l]
def B36 (P : PT) (x1 : Value) (x2 : Nat) (x5 : Int) (H : AHeap) : Prop :=
  ldI .i64 H x2 0 (fun v1 => ld1 H x2 1 (fun v2 => AC Try.prog T0 9 [(Value.agg ⟨[(Value.int .i64 v1), v2]⟩), (Value.int .i64 x5)] H (fun v3 H4 => asI .i64 v3 (fun v5 => B35 P x1 x2 v5 H4))))
theorem q36 (P : PT) : QB Try.prog T0 117 o36 (En 117 k16 (B35 P)) k16 (B36 P) := fun _ _ _ _ _  => by kernel_rfl
noncomputable def o37 := ob Try.f6 [.r,.r,.l]
def B37 (P : PT) (x1 : Value) (x2 : Nat) (H : AHeap) : Prop :=
  B36 P x1 x2 1048576 H
theorem q37 (P : PT) : QB Try.prog T0 117 o37 (En 117 k16 (B36 P)) k15 (B37 P) := fun _ _ _ _  => by kernel_rfl
noncomputable def o38 := ob Try.f6 [.r,.l,.r,.l,.l]
def B38 (P : PT) (H : AHeap) : Prop :=
  P (Value.bool true) H
theorem q38 (P : PT) : QB Try.prog T0 117 o38 (ret P) k0 (B38 P) := fun _ _  => by kernel_rfl
noncomputable def o39 := ob Try.f6 [.r,.l,.l]
def B39 (P : PT) (x1 : Value) (x2 : Nat) (H : AHeap) : Prop :=
  lenK x1 (fun n1 => pif (decide (((n1 : Int) : Int) > 1048576)) (B38 P H) (B37 P x1 x2 H))
theorem q39 (P : PT) : QB Try.prog T0 117 o39 (cnd 19 (En 117 k0 (B38 P)) (En 117 k15 (B37 P))) k15 (B39 P) := fun _ _ _ _  => by kernel_rfl
abbrev k17 : Sk := [(0,.g [.i,.v]),(1,.v)]
noncomputable def o40 := ob Try.f6 [.l]
def B40 (P : PT) (x0a : Int) (x0b x1 : Value) (H : AHeap) : Prop :=
  newK H [(Value.int .i64 x0a), x0b] 24 (fun b1 H2 => B39 P x1 b1 H2)
theorem q40 (P : PT) : QB Try.prog T0 117 o40 (En 117 k15 (B39 P)) k17 (B40 P) := fun _ _ _ _ _  => by kernel_rfl
noncomputable def code : Code := (.seq (.region 0 ⟨o40⟩ false) (.seq (.seq (.region 1 ⟨o39⟩ false) (.cond (.tmp 19) (.seq (.region 2 ⟨o38⟩ false) .ret) .skip)) (.seq (.region 3 ⟨o37⟩ false) (.seq (.region 4 ⟨o36⟩ false) (.seq (.seq (.region 5 ⟨o35⟩ false) (.cond (.tmp 24) (.seq (.region 6 ⟨o34⟩ false) .ret) .skip)) (.seq (.region 7 ⟨o33⟩ false) (.seq (.region 8 ⟨o32⟩ false) (.seq (.region 9 ⟨o31⟩ false) (.seq (.region 10 ⟨o30⟩ false) (.seq (.seq (.region 11 ⟨o29⟩ false) (.cond (.tmp 51) (.seq (.region 12 ⟨o28⟩ false) .ret) .skip)) (.seq (.seq (.region 13 ⟨o27⟩ true) (.cond (.tmp 56) (.seq (.region 14 ⟨o26⟩ false) .ret) .skip)) (.seq (.seq (.region 15 ⟨o25⟩ false) (.cond (.tmp 61) (.seq (.region 16 ⟨o24⟩ false) .ret) .skip)) (.seq (.region 17 ⟨o23⟩ false) (.seq (.region 18 ⟨o22⟩ false) (.seq (.region 19 ⟨o21⟩ false) (.seq (.seq (.region 20 ⟨o20⟩ false) (.cond (.tmp 80) (.seq (.region 21 ⟨o19⟩ false) .ret) .skip)) (.seq (.region 22 ⟨o18⟩ false) (.seq (.region 23 ⟨o17⟩ false) (.seq (.region 24 ⟨o16⟩ false) (.seq (.region 25 ⟨o15⟩ false) (.seq (.seq (.region 26 ⟨o14⟩ false) (.cond (.tmp 88) (.seq (.region 27 ⟨o13⟩ false) .ret) .skip)) (.seq (.seq (.region 28 ⟨o12⟩ false) (.cond (.tmp 91) (.seq (.region 29 ⟨o11⟩ false) .ret) .skip)) (.seq (.region 30 ⟨o10⟩ false) (.seq (.seq (.region 31 ⟨o9⟩ false) (.cond (.tmp 108) (.seq (.region 32 ⟨o8⟩ false) .ret) .skip)) (.seq (.region 33 ⟨o7⟩ false) (.seq (.region 34 ⟨o6⟩ false) (.seq (.seq (.region 35 ⟨o5⟩ false) (.cond (.tmp 113) (.seq (.region 36 ⟨o4⟩ false) .ret) .skip)) (.seq (.seq (.region 37 ⟨o3⟩ false) (.cond (.tmp 116) (.seq (.region 38 ⟨o2⟩ false) .ret) .skip)) (.seq (.region 39 ⟨o1⟩ false) .ret)))))))))))))))))))))))))))))
theorem body : Try.f6.body = some code := by kernel_rfl
theorem main (P : PT) : ∀ env H, (En 117 k17 (B40 P)) env H → AW Try.prog T0 code env H (mkQ (ret P) (fun _ _ _ => False) (ret P)) :=
  (r_seq (rB T0_ok (q40 P)) (r_seq (r_seq (rB T0_ok (q39 P)) (r_cond rfl (r_seq (rB T0_ok (q38 P)) r_ret) r_skip)) (r_seq (rB T0_ok (q37 P)) (r_seq (rB T0_ok (q36 P)) (r_seq (r_seq (rB T0_ok (q35 P)) (r_cond rfl (r_seq (rB T0_ok (q34 P)) r_ret) r_skip)) (r_seq (rB T0_ok (q33 P)) (r_seq (rB T0_ok (q32 P)) (r_seq (rB T0_ok (q31 P)) (r_seq (rB T0_ok (q30 P)) (r_seq (r_seq (rB T0_ok (q29 P)) (r_cond rfl (r_seq (rB T0_ok (q28 P)) r_ret) r_skip)) (r_seq (r_seq (rD T0_ok mixed [(0, false), (1, false), (2, true), (3, false), (4, false)] (by kernel_rfl) (q27 P)) (r_cond rfl (r_seq (rB T0_ok (q26 P)) r_ret) r_skip)) (r_seq (r_seq (rB T0_ok (q25 P)) (r_cond rfl (r_seq (rB T0_ok (q24 P)) r_ret) r_skip)) (r_seq (rB T0_ok (q23 P)) (r_seq (rB T0_ok (q22 P)) (r_seq (rB T0_ok (q21 P)) (r_seq (r_seq (rB T0_ok (q20 P)) (r_cond rfl (r_seq (rB T0_ok (q19 P)) r_ret) r_skip)) (r_seq (rB T0_ok (q18 P)) (r_seq (rB T0_ok (q17 P)) (r_seq (rB T0_ok (q16 P)) (r_seq (rB T0_ok (q15 P)) (r_seq (r_seq (rB T0_ok (q14 P)) (r_cond rfl (r_seq (rB T0_ok (q13 P)) r_ret) r_skip)) (r_seq (r_seq (rB T0_ok (q12 P)) (r_cond rfl (r_seq (rB T0_ok (q11 P)) r_ret) r_skip)) (r_seq (rB T0_ok (q10 P)) (r_seq (r_seq (rB T0_ok (q9 P)) (r_cond rfl (r_seq (rB T0_ok (q8 P)) r_ret) r_skip)) (r_seq (rB T0_ok (q7 P)) (r_seq (rB T0_ok (q6 P)) (r_seq (r_seq (rB T0_ok (q5 P)) (r_cond rfl (r_seq (rB T0_ok (q4 P)) r_ret) r_skip)) (r_seq (r_seq (rB T0_ok (q3 P)) (r_cond rfl (r_seq (rB T0_ok (q2 P)) r_ret) r_skip)) (r_seq (rB T0_ok (q1 P)) r_ret)))))))))))))))))))))))))))))
theorem ac (P : PT) (x0a : Int) (x0b x1 : Value) (H : AHeap) (h : B40 P x0a x0b x1 H) : AC Try.prog T0 6 [(Value.agg ⟨[(Value.int .i64 x0a), x0b]⟩), x1] H P :=
  r_fn T0_ok (c := code) (n := 117) Try.func6 body (by kernel_rfl) (main P) (En_mk (x0a, x0b, x1, ()) (by kernel_rfl) ⟨by kernel_rfl, by kernel_rfl, trivial⟩ h)

end F6
-- loop.example/g01329/laws.szGraph
namespace F9
noncomputable def ret (P : PT) : EP := retE T0 12 Try.f9 P
abbrev k0 : Sk := [(1,.i .i64)]
noncomputable def o1 := ob Try.f9 [.r,.r,.r,.l]
def B1 (P : PT) (x1 : Int) (H : AHeap) : Prop :=
  P (Value.int .i64 x1) H
theorem q1 (P : PT) : QB Try.prog T0 12 o1 (ret P) k0 (B1 P) := fun _ _ _  => by kernel_rfl
abbrev k1 : Sk := []
noncomputable def o2 := ob Try.f9 [.r,.r,.l,.r,.l,.l]
def B2 (P : PT) (H : AHeap) : Prop :=
  P (Value.int .i64 (-1)) H
theorem q2 (P : PT) : QB Try.prog T0 12 o2 (ret P) k1 (B2 P) := fun _ _  => by kernel_rfl
noncomputable def o3 := ob Try.f9 [.r,.r,.l,.l]
def B3 (P : PT) (x1 : Int) (H : AHeap) : Prop :=
  pif (decide ((x1 : Int) < 0)) (B2 P H) (B1 P x1 H)
theorem q3 (P : PT) : QB Try.prog T0 12 o3 (cnd 10 (En 12 k1 (B2 P)) (En 12 k0 (B1 P))) k0 (B3 P) := fun _ _ _  => by kernel_rfl
abbrev k2 : Sk := [(1,.i .i64),(2,.x)]
noncomputable def o4 := ob Try.f9 [.r,.l]
def B4 (P : PT) (x1 : Int) (x2 : Nat) (H : AHeap) : Prop :=
  ld1 H x2 1 (fun v1 => AC Try.prog T0 35 [v1, (Value.int .i64 x1)] H (fun v2 H3 => asI .i64 v2 (fun v4 => B3 P v4 H3)))
theorem q4 (P : PT) : QB Try.prog T0 12 o4 (En 12 k0 (B3 P)) k2 (B4 P) := fun _ _ _ _  => by kernel_rfl
abbrev k3 : Sk := [(0,.g [.i,.v]),(1,.i .i64)]
noncomputable def o5 := ob Try.f9 [.l]
def B5 (P : PT) (x0a : Int) (x0b : Value) (x1 : Int) (H : AHeap) : Prop :=
  newK H [(Value.int .i64 x0a), x0b] 24 (fun b1 H2 => B4 P x1 b1 H2)
theorem q5 (P : PT) : QB Try.prog T0 12 o5 (En 12 k2 (B4 P)) k3 (B5 P) := fun _ _ _ _ _  => by kernel_rfl
noncomputable def code : Code := (.seq (.region 0 ⟨o5⟩ false) (.seq (.region 1 ⟨o4⟩ false) (.seq (.seq (.region 2 ⟨o3⟩ false) (.cond (.tmp 10) (.seq (.region 3 ⟨o2⟩ false) .ret) .skip)) (.seq (.region 4 ⟨o1⟩ false) .ret))))
theorem body : Try.f9.body = some code := by kernel_rfl
theorem main (P : PT) : ∀ env H, (En 12 k3 (B5 P)) env H → AW Try.prog T0 code env H (mkQ (ret P) (fun _ _ _ => False) (ret P)) :=
  (r_seq (rB T0_ok (q5 P)) (r_seq (rB T0_ok (q4 P)) (r_seq (r_seq (rB T0_ok (q3 P)) (r_cond rfl (r_seq (rB T0_ok (q2 P)) r_ret) r_skip)) (r_seq (rB T0_ok (q1 P)) r_ret))))
theorem ac (P : PT) (x0a : Int) (x0b : Value) (x1 : Int) (H : AHeap) (h : B5 P x0a x0b x1 H) : AC Try.prog T0 9 [(Value.agg ⟨[(Value.int .i64 x0a), x0b]⟩), (Value.int .i64 x1)] H P :=
  r_fn T0_ok (c := code) (n := 12) Try.func9 body (by kernel_rfl) (main P) (En_mk (x0a, x0b, x1, ()) (by kernel_rfl) ⟨by kernel_rfl, by kernel_rfl, trivial⟩ h)

end F9
-- loop.example/g01329/laws.toGraph
namespace F11
noncomputable def ret (P : PT) : EP := retE T0 12 Try.f11 P
abbrev k0 : Sk := [(2,.x),(3,.x)]
noncomputable def o1 := ob Try.f11 [.r,.r,.r,.r,.l]
def B1 (P : PT) (x2 x3 : Nat) (H : AHeap) : Prop :=
  ldI .i64 H x3 0 (fun v1 => ld1 H x3 1 (fun v2 => stK H x2 0 [(Value.int .i64 v1), v2] (fun H3 => ldI .i64 H3 x2 0 (fun v4 => ld1 H3 x2 1 (fun v5 => P (Value.agg ⟨[(Value.int .i64 v4), v5]⟩) H3)))))
theorem q1 (P : PT) : QB Try.prog T0 12 o1 (ret P) k0 (B1 P) := fun _ _ _ _  => by kernel_rfl
abbrev k1 : Sk := [(1,.x),(2,.x),(3,.x)]
noncomputable def o2 := ob Try.f11 [.r,.r,.r,.l]
def B2 (P : PT) (x1 x2 x3 : Nat) (H : AHeap) : Prop :=
  ld1 H x1 1 (fun v1 => AC Try.prog T0 40 [v1] H (fun v2 H3 => pif (Value.oneCell' v2) (stK H3 x3 1 [v2] (fun H5 => B1 P x2 x3 H5)) False))
theorem q2 (P : PT) : QB Try.prog T0 12 o2 (En 12 k0 (B1 P)) k1 (B2 P) := fun _ _ _ _ _  => by kernel_rfl
noncomputable def o3 := ob Try.f11 [.r,.r,.l]
def B3 (P : PT) (x1 x2 x3 : Nat) (H : AHeap) : Prop :=
  ldI .i64 H x1 0 (fun v1 => stK H x3 0 [(Value.int .i64 v1)] (fun H2 => B2 P x1 x2 x3 H2))
theorem q3 (P : PT) : QB Try.prog T0 12 o3 (En 12 k1 (B2 P)) k1 (B3 P) := fun _ _ _ _ _  => by kernel_rfl
abbrev k2 : Sk := [(1,.x),(2,.x)]
noncomputable def o4 := ob Try.f11 [.r,.l]
def B4 (P : PT) (x1 x2 : Nat) (H : AHeap) : Prop :=
  newK H [(Value.int .i64 0), (Value.slice none 0 0)] 31 (fun b1 H2 => B3 P x1 x2 b1 H2)
theorem q4 (P : PT) : QB Try.prog T0 12 o4 (En 12 k1 (B3 P)) k2 (B4 P) := fun _ _ _ _  => by kernel_rfl
abbrev k3 : Sk := [(0,.g [.i,.v])]
noncomputable def o5 := ob Try.f11 [.l]
def B5 (P : PT) (x0a : Int) (x0b : Value) (H : AHeap) : Prop :=
  newK H [(Value.int .i64 x0a), x0b] 24 (fun b1 H2 => newK H2 [(Value.int .i64 0), (Value.slice none 0 0)] 31 (fun b3 H4 => B4 P b1 b3 H4))
theorem q5 (P : PT) : QB Try.prog T0 12 o5 (En 12 k2 (B4 P)) k3 (B5 P) := fun _ _ _ _  => by kernel_rfl
noncomputable def code : Code := (.seq (.region 0 ⟨o5⟩ false) (.seq (.region 1 ⟨o4⟩ false) (.seq (.region 2 ⟨o3⟩ false) (.seq (.region 3 ⟨o2⟩ false) (.seq (.region 4 ⟨o1⟩ false) .ret)))))
theorem body : Try.f11.body = some code := by kernel_rfl
theorem main (P : PT) : ∀ env H, (En 12 k3 (B5 P)) env H → AW Try.prog T0 code env H (mkQ (ret P) (fun _ _ _ => False) (ret P)) :=
  (r_seq (rB T0_ok (q5 P)) (r_seq (rB T0_ok (q4 P)) (r_seq (rB T0_ok (q3 P)) (r_seq (rB T0_ok (q2 P)) (r_seq (rB T0_ok (q1 P)) r_ret)))))
theorem ac (P : PT) (x0a : Int) (x0b : Value) (H : AHeap) (h : B5 P x0a x0b H) : AC Try.prog T0 11 [(Value.agg ⟨[(Value.int .i64 x0a), x0b]⟩)] H P :=
  r_fn T0_ok (c := code) (n := 12) Try.func11 body (by kernel_rfl) (main P) (En_mk (x0a, x0b, ()) (by kernel_rfl) ⟨by kernel_rfl, trivial⟩ h)

end F11
-- loop.example/g01329/laws.toInt64S
namespace F12
noncomputable def ret (P : PT) : EP := retE T0 22 Try.f12 P
abbrev k0 : Sk := [(3,.v)]
noncomputable def o1 := ob Try.f12 [.r,.r,.r,.l]
def B1 (P : PT) (x3 : Value) (H : AHeap) : Prop :=
  P x3 H
theorem q1 (P : PT) : QB Try.prog T0 22 o1 (ret P) k0 (B1 P) := fun _ _ _  => by kernel_rfl
abbrev k1 : Sk := [(0,.v),(3,.v),(4,.i .i64)]
noncomputable def o3 := ob Try.f12 [.r,.r,.l,.r,.l,.l,.r,.r]
def B3 (P : PT) (N2 : NTy k1 Pr) (x0 x3 : Value) (x4 : Int) (H : AHeap) : Prop :=
  N2 x0 x3 (IntKind.i64.wrap (x4 + 1)) H
theorem q3 (P : PT) (N2 : NTy k1 Pr) : QB Try.prog T0 22 o3 (En 22 k1 N2) k1 (B3 P N2) := fun _ _ _ _ _  => by kernel_rfl
noncomputable def o4 := ob Try.f12 [.r,.r,.l,.r,.l,.l,.r,.l,.l]
def B4 (P : PT) (N2 : NTy k1 Pr) (x0 x3 : Value) (x4 : Int) (H : AHeap) : Prop :=
  idxK x0 x4 1 (fun b1 o2 => ldI .i64 H b1 o2 (fun v3 => idxK x3 x4 1 (fun b4 o5 => stK H b4 o5 [(Value.int .i64 v3)] (fun H6 => B3 P N2 x0 x3 x4 H6))))
theorem q4 (P : PT) (N2 : NTy k1 Pr) : QB Try.prog T0 22 o4 (En 22 k1 (B3 P N2)) k1 (B4 P N2) := fun _ _ _ _ _  => by kernel_rfl
noncomputable def o5 := ob Try.f12 [.r,.r,.l,.r,.l,.l,.l,.l]
def B5 (P : PT) (N2 : NTy k1 Pr) (x0 x3 : Value) (x4 : Int) (H : AHeap) : Prop :=
  lenK x0 (fun n1 => pif (decide ((x4 : Int) < (n1 : Int))) (B4 P N2 x0 x3 x4 H) (B1 P x3 H))
theorem q5 (P : PT) (N2 : NTy k1 Pr) : QB Try.prog T0 22 o5 (cnd 11 (En 22 k1 (B4 P N2)) (En 22 k0 (B1 P))) k1 (B5 P N2) := fun _ _ _ _ _  => by kernel_rfl
def L2 (P : PT) (x0 x3 : Value) (x4 : Int) (H : AHeap) : Prop :=
  ∃ (I : NTy k1 Pr) (μ : NTy k1 (AHeap → Nat)), I x0 x3 x4 H ∧ ∀ y0 y3 y4 G, I y0 y3 y4 G → B5 P (fun z0 z3 z4 G' => I z0 z3 z4 G' ∧ μ z0 z3 z4 G' < μ y0 y3 y4 G) y0 y3 y4 G
theorem l2 (P : PT) : LQ k1 (L2 P) (B5 P) := fun ⟨_,_,_,_⟩ _ ⟨I, μ, h0, hI⟩ => ⟨apT _ I, apT _ μ, h0, fun ⟨_,_,_,_⟩ _ h => hI _ _ _ _  h⟩
abbrev k2 : Sk := [(0,.v),(3,.v)]
noncomputable def o6 := ob Try.f12 [.r,.r,.l,.l]
def B6 (P : PT) (x0 x3 : Value) (H : AHeap) : Prop :=
  L2 P x0 x3 0 H
theorem q6 (P : PT) : QB Try.prog T0 22 o6 (En 22 k1 (L2 P)) k2 (B6 P) := fun _ _ _ _  => by kernel_rfl
abbrev k3 : Sk := [(0,.v)]
noncomputable def o7 := ob Try.f12 [.r,.l]
def B7 (P : PT) (x0 : Value) (H : AHeap) : Prop :=
  lenK x0 (fun n1 => mkR H 8 2 [(Value.int .i64 0)] (n1 : Int) (n1 : Int) (fun v3 H2 => B6 P x0 v3 H2))
theorem q7 (P : PT) : QB Try.prog T0 22 o7 (En 22 k2 (B6 P)) k3 (B7 P) := fun _ _ _  => by kernel_rfl
noncomputable def o8 := ob Try.f12 [.l]
def B8 (P : PT) (x0 : Value) (H : AHeap) : Prop :=
  B7 P x0 H
theorem q8 (P : PT) : QB Try.prog T0 22 o8 (En 22 k3 (B7 P)) k3 (B8 P) := fun _ _ _  => by kernel_rfl
noncomputable def code : Code := (.seq (.region 0 ⟨o8⟩ false) (.seq (.region 1 ⟨o7⟩ false) (.seq (.seq (.region 2 ⟨o6⟩ false) (.block 0 (.loop (.seq (.seq (.region 3 ⟨o5⟩ false) (.cond (.tmp 11) .skip (.exit 0))) (.seq (.block 1 (.region 5 ⟨o4⟩ false)) (.region 4 ⟨o3⟩ false)))))) (.seq (.region 6 ⟨o1⟩ false) .ret))))
theorem body : Try.f12.body = some code := by kernel_rfl
theorem main (P : PT) : ∀ env H, (En 22 k3 (B8 P)) env H → AW Try.prog T0 code env H (mkQ (ret P) (fun _ _ _ => False) (ret P)) :=
  (r_seq (rB T0_ok (q8 P)) (r_seq (rB T0_ok (q7 P)) (r_seq (r_seq (rB T0_ok (q6 P)) (r_block (rL (l2 P) (fun N2 => (r_seq (r_seq (rB T0_ok (q5 P N2)) (r_cond rfl r_skip (r_exit (fun _ _ h => h)))) (r_seq (r_block (rB T0_ok (q4 P N2))) (rB T0_ok (q3 P N2)))))))) (r_seq (rB T0_ok (q1 P)) r_ret))))
theorem ac (P : PT) (x0 : Value) (H : AHeap) (h : B8 P x0 H) : AC Try.prog T0 12 [x0] H P :=
  r_fn T0_ok (c := code) (n := 22) Try.func12 body (by kernel_rfl) (main P) (En_mk (x0, ()) (by kernel_rfl) ⟨by kernel_rfl, trivial⟩ h)

end F12
-- loop.example/g01329/laws.eqGraph
namespace F14
noncomputable def ret (P : PT) : EP := retE T0 16 Try.f14 P
abbrev k0 : Sk := []
noncomputable def o1 := ob Try.f14 [.r,.r,.r,.l]
def B1 (P : PT) (H : AHeap) : Prop :=
  P (Value.bool true) H
theorem q1 (P : PT) : QB Try.prog T0 16 o1 (ret P) k0 (B1 P) := fun _ _  => by kernel_rfl
noncomputable def o2 := ob Try.f14 [.r,.r,.l,.r,.l,.l]
def B2 (P : PT) (H : AHeap) : Prop :=
  P (Value.bool false) H
theorem q2 (P : PT) : QB Try.prog T0 16 o2 (ret P) k0 (B2 P) := fun _ _  => by kernel_rfl
abbrev k1 : Sk := [(2,.x),(3,.x)]
noncomputable def o3 := ob Try.f14 [.r,.r,.l,.l]
def B3 (P : PT) (x2 x3 : Nat) (H : AHeap) : Prop :=
  ld1 H x2 1 (fun v1 => ld1 H x3 1 (fun v2 => AC Try.prog T0 46 [v1, v2] H (fun v3 H4 => asB v3 (fun v5 => pif (!v5) (B2 P H4) (B1 P H4)))))
theorem q3 (P : PT) : QB Try.prog T0 16 o3 (cnd 15 (En 16 k0 (B2 P)) (En 16 k0 (B1 P))) k1 (B3 P) := fun _ _ _ _  => by kernel_rfl
noncomputable def o4 := ob Try.f14 [.r,.l,.r,.l,.l]
def B4 (P : PT) (H : AHeap) : Prop :=
  P (Value.bool false) H
theorem q4 (P : PT) : QB Try.prog T0 16 o4 (ret P) k0 (B4 P) := fun _ _  => by kernel_rfl
noncomputable def o5 := ob Try.f14 [.r,.l,.l]
def B5 (P : PT) (x2 x3 : Nat) (H : AHeap) : Prop :=
  ldI .i64 H x2 0 (fun v1 => ldI .i64 H x3 0 (fun v2 => pif ((v1 : Int) != v2) (B4 P H) (B3 P x2 x3 H)))
theorem q5 (P : PT) : QB Try.prog T0 16 o5 (cnd 9 (En 16 k0 (B4 P)) (En 16 k1 (B3 P))) k1 (B5 P) := fun _ _ _ _  => by kernel_rfl
abbrev k2 : Sk := [(0,.g [.i,.v]),(1,.g [.i,.v])]
noncomputable def o6 := ob Try.f14 [.l]
def B6 (P : PT) (x0a : Int) (x0b : Value) (x1a : Int) (x1b : Value) (H : AHeap) : Prop :=
  newK H [(Value.int .i64 x0a), x0b] 31 (fun b1 H2 => newK H2 [(Value.int .i64 x1a), x1b] 31 (fun b3 H4 => B5 P b1 b3 H4))
theorem q6 (P : PT) : QB Try.prog T0 16 o6 (En 16 k1 (B5 P)) k2 (B6 P) := fun _ _ _ _ _ _  => by kernel_rfl
noncomputable def code : Code := (.seq (.region 0 ⟨o6⟩ false) (.seq (.seq (.region 1 ⟨o5⟩ false) (.cond (.tmp 9) (.seq (.region 2 ⟨o4⟩ false) .ret) .skip)) (.seq (.seq (.region 3 ⟨o3⟩ false) (.cond (.tmp 15) (.seq (.region 4 ⟨o2⟩ false) .ret) .skip)) (.seq (.region 5 ⟨o1⟩ false) .ret))))
theorem body : Try.f14.body = some code := by kernel_rfl
theorem main (P : PT) : ∀ env H, (En 16 k2 (B6 P)) env H → AW Try.prog T0 code env H (mkQ (ret P) (fun _ _ _ => False) (ret P)) :=
  (r_seq (rB T0_ok (q6 P)) (r_seq (r_seq (rB T0_ok (q5 P)) (r_cond rfl (r_seq (rB T0_ok (q4 P)) r_ret) r_skip)) (r_seq (r_seq (rB T0_ok (q3 P)) (r_cond rfl (r_seq (rB T0_ok (q2 P)) r_ret) r_skip)) (r_seq (rB T0_ok (q1 P)) r_ret))))
theorem ac (P : PT) (x0a : Int) (x0b : Value) (x1a : Int) (x1b : Value) (H : AHeap) (h : B6 P x0a x0b x1a x1b H) : AC Try.prog T0 14 [(Value.agg ⟨[(Value.int .i64 x0a), x0b]⟩), (Value.agg ⟨[(Value.int .i64 x1a), x1b]⟩)] H P :=
  r_fn T0_ok (c := code) (n := 16) Try.func14 body (by kernel_rfl) (main P) (En_mk (x0a, x0b, x1a, x1b, ()) (by kernel_rfl) ⟨by kernel_rfl, by kernel_rfl, trivial⟩ h)

end F14
-- loop.example/g01329/laws.eqInt64S
namespace F15
noncomputable def ret (P : PT) : EP := retE T0 26 Try.f15 P
abbrev k0 : Sk := []
noncomputable def o1 := ob Try.f15 [.r,.r,.r,.l]
def B1 (P : PT) (H : AHeap) : Prop :=
  P (Value.bool true) H
theorem q1 (P : PT) : QB Try.prog T0 26 o1 (ret P) k0 (B1 P) := fun _ _  => by kernel_rfl
abbrev k1 : Sk := [(0,.v),(1,.v),(5,.i .i64)]
noncomputable def o3 := ob Try.f15 [.r,.r,.l,.r,.l,.l,.r,.r]
def B3 (P : PT) (N2 : NTy k1 Pr) (x0 x1 : Value) (x5 : Int) (H : AHeap) : Prop :=
  N2 x0 x1 (IntKind.i64.wrap (x5 + 1)) H
theorem q3 (P : PT) (N2 : NTy k1 Pr) : QB Try.prog T0 26 o3 (En 26 k1 N2) k1 (B3 P N2) := fun _ _ _ _ _  => by kernel_rfl
noncomputable def o4 := ob Try.f15 [.r,.r,.l,.r,.l,.l,.r,.l,.l,.r,.l,.l]
def B4 (P : PT) (N2 : NTy k1 Pr) (H : AHeap) : Prop :=
  P (Value.bool false) H
theorem q4 (P : PT) (N2 : NTy k1 Pr) : QB Try.prog T0 26 o4 (ret P) k0 (B4 P N2) := fun _ _  => by kernel_rfl
noncomputable def o5 := ob Try.f15 [.r,.r,.l,.r,.l,.l,.r,.l,.l,.l]
def B5 (P : PT) (N2 : NTy k1 Pr) (x0 x1 : Value) (x5 : Int) (H : AHeap) : Prop :=
  idxK x0 x5 1 (fun b1 o2 => ldI .i64 H b1 o2 (fun v3 => idxK x1 x5 1 (fun b4 o5 => ldI .i64 H b4 o5 (fun v6 => pif ((v3 : Int) != v6) (B4 P N2 H) (B3 P N2 x0 x1 x5 H)))))
theorem q5 (P : PT) (N2 : NTy k1 Pr) : QD Try.prog T0 26 o5 [(0, false), (1, false), (2, false), (3, false), (4, false), (5, false), (6, false), (7, false), (8, false)] (cnd 25 (En 26 k0 (B4 P N2)) (En 26 k1 (B3 P N2))) k1 (B5 P N2) := fun _ _ _ _ _  => by kernel_rfl
noncomputable def o6 := ob Try.f15 [.r,.r,.l,.r,.l,.l,.l,.l]
def B6 (P : PT) (N2 : NTy k1 Pr) (x0 x1 : Value) (x5 : Int) (H : AHeap) : Prop :=
  lenK x0 (fun n1 => pif (decide ((x5 : Int) < (n1 : Int))) (B5 P N2 x0 x1 x5 H) (B1 P H))
theorem q6 (P : PT) (N2 : NTy k1 Pr) : QB Try.prog T0 26 o6 (cnd 14 (En 26 k1 (B5 P N2)) (En 26 k0 (B1 P))) k1 (B6 P N2) := fun _ _ _ _ _  => by kernel_rfl
def L2 (P : PT) (x0 x1 : Value) (x5 : Int) (H : AHeap) : Prop :=
  ∃ (I : NTy k1 Pr) (μ : NTy k1 (AHeap → Nat)), I x0 x1 x5 H ∧ ∀ y0 y1 y5 G, I y0 y1 y5 G → B6 P (fun z0 z1 z5 G' => I z0 z1 z5 G' ∧ μ z0 z1 z5 G' < μ y0 y1 y5 G) y0 y1 y5 G
theorem l2 (P : PT) : LQ k1 (L2 P) (B6 P) := fun ⟨_,_,_,_⟩ _ ⟨I, μ, h0, hI⟩ => ⟨apT _ I, apT _ μ, h0, fun ⟨_,_,_,_⟩ _ h => hI _ _ _ _  h⟩
abbrev k2 : Sk := [(0,.v),(1,.v)]
noncomputable def o7 := ob Try.f15 [.r,.r,.l,.l]
def B7 (P : PT) (x0 x1 : Value) (H : AHeap) : Prop :=
  L2 P x0 x1 0 H
theorem q7 (P : PT) : QB Try.prog T0 26 o7 (En 26 k1 (L2 P)) k2 (B7 P) := fun _ _ _ _  => by kernel_rfl
noncomputable def o8 := ob Try.f15 [.r,.l,.r,.l,.l]
def B8 (P : PT) (H : AHeap) : Prop :=
  P (Value.bool false) H
theorem q8 (P : PT) : QB Try.prog T0 26 o8 (ret P) k0 (B8 P) := fun _ _  => by kernel_rfl
noncomputable def o9 := ob Try.f15 [.r,.l,.l]
def B9 (P : PT) (x0 x1 : Value) (H : AHeap) : Prop :=
  lenK x0 (fun n1 => lenK x1 (fun n2 => pif (((n1 : Int) : Int) != (n2 : Int)) (B8 P H) (B7 P x0 x1 H)))
theorem q9 (P : PT) : QB Try.prog T0 26 o9 (cnd 10 (En 26 k0 (B8 P)) (En 26 k2 (B7 P))) k2 (B9 P) := fun _ _ _ _  => by kernel_rfl
noncomputable def o10 := ob Try.f15 [.l]
def B10 (P : PT) (x0 x1 : Value) (H : AHeap) : Prop :=
  B9 P x0 x1 H
theorem q10 (P : PT) : QB Try.prog T0 26 o10 (En 26 k2 (B9 P)) k2 (B10 P) := fun _ _ _ _  => by kernel_rfl
noncomputable def code : Code := (.seq (.region 0 ⟨o10⟩ false) (.seq (.seq (.region 1 ⟨o9⟩ false) (.cond (.tmp 10) (.seq (.region 2 ⟨o8⟩ false) .ret) .skip)) (.seq (.seq (.region 3 ⟨o7⟩ false) (.block 0 (.loop (.seq (.seq (.region 4 ⟨o6⟩ false) (.cond (.tmp 14) .skip (.exit 0))) (.seq (.block 1 (.seq (.region 6 ⟨o5⟩ true) (.cond (.tmp 25) (.seq (.region 7 ⟨o4⟩ false) .ret) .skip))) (.region 5 ⟨o3⟩ false)))))) (.seq (.region 8 ⟨o1⟩ false) .ret))))
theorem body : Try.f15.body = some code := by kernel_rfl
theorem main (P : PT) : ∀ env H, (En 26 k2 (B10 P)) env H → AW Try.prog T0 code env H (mkQ (ret P) (fun _ _ _ => False) (ret P)) :=
  (r_seq (rB T0_ok (q10 P)) (r_seq (r_seq (rB T0_ok (q9 P)) (r_cond rfl (r_seq (rB T0_ok (q8 P)) r_ret) r_skip)) (r_seq (r_seq (rB T0_ok (q7 P)) (r_block (rL (l2 P) (fun N2 => (r_seq (r_seq (rB T0_ok (q6 P N2)) (r_cond rfl r_skip (r_exit (fun _ _ h => h)))) (r_seq (r_block (r_seq (rD T0_ok mixed [(0, false), (1, false), (2, false), (3, false), (4, false), (5, false), (6, false), (7, false), (8, false)] (by kernel_rfl) (q5 P N2)) (r_cond rfl (r_seq (rB T0_ok (q4 P N2)) r_ret) r_skip))) (rB T0_ok (q3 P N2)))))))) (r_seq (rB T0_ok (q1 P)) r_ret))))
theorem ac (P : PT) (x0 x1 : Value) (H : AHeap) (h : B10 P x0 x1 H) : AC Try.prog T0 15 [x0, x1] H P :=
  r_fn T0_ok (c := code) (n := 26) Try.func15 body (by kernel_rfl) (main P) (En_mk (x0, x1, ()) (by kernel_rfl) ⟨by kernel_rfl, by kernel_rfl, trivial⟩ h)

end F15
-- loop.example/g01329/spec.CyclesLeft
namespace F26
noncomputable def ret (P : PT) : EP := retE T0 62 Try.f26 P
abbrev k0 : Sk := [(8,.v)]
noncomputable def o1 := ob Try.f26 [.r,.r,.r,.r,.l]
def B1 (P : PT) (x8 : Value) (H : AHeap) : Prop :=
  P (Value.tuple ⟨[x8, (Value.int .i64 0)]⟩) H
theorem q1 (P : PT) : QB Try.prog T0 62 o1 (ret P) k0 (B1 P) := fun _ _ _  => by kernel_rfl
abbrev k1 : Sk := [(7,.v),(8,.v),(9,.i .i64)]
noncomputable def o3 := ob Try.f26 [.r,.r,.r,.l,.r,.l,.l,.r,.r]
def B3 (P : PT) (N2 : NTy k1 Pr) (x7 x8 : Value) (x9 : Int) (H : AHeap) : Prop :=
  N2 x7 x8 (IntKind.i64.wrap (x9 + 1)) H
theorem q3 (P : PT) (N2 : NTy k1 Pr) : QB Try.prog T0 62 o3 (En 62 k1 N2) k1 (B3 P N2) := fun _ _ _ _ _  => by kernel_rfl
abbrev k2 : Sk := [(7,.v),(8,.v),(9,.i .i64),(11,.i .i64),(12,.v)]
noncomputable def o4 := ob Try.f26 [.r,.r,.r,.l,.r,.l,.l,.r,.l,.l,.r,.r,.r]
def B4 (P : PT) (N2 : NTy k1 Pr) (x7 x8 : Value) (x9 x11 : Int) (x12 : Value) (H : AHeap) : Prop :=
  sliceK H 2 x8 none (some (Value.int .i64 x11)) 1 (fun v1 => AC Try.prog T0 37 [v1] H (fun v2 H3 => apK T0 2 H3 v2 x12 (fun v5 H6 => B3 P N2 x7 v5 x9 H6)))
theorem q4 (P : PT) (N2 : NTy k1 Pr) : QB Try.prog T0 62 o4 (En 62 k1 (B3 P N2)) k2 (B4 P N2) := fun _ _ _ _ _ _ _  => by kernel_rfl
abbrev k3 : Sk := [(7,.v),(8,.v),(9,.i .i64),(10,.i .i64),(11,.i .i64)]
noncomputable def o5 := ob Try.f26 [.r,.r,.r,.l,.r,.l,.l,.r,.l,.l,.r,.r,.l]
def B5 (P : PT) (N2 : NTy k1 Pr) (x7 x8 : Value) (x9 x10 x11 : Int) (H : AHeap) : Prop :=
  newK H [(Value.int .i64 x10)] 2 (fun b1 H2 => sliceK H2 2 x8 (some (Value.int .i64 x11)) none 1 (fun v3 => apK T0 2 H2 (Value.slice (some ⟨b1, 0, none⟩) 1 (1 + 1)) v3 (fun v4 H5 => B4 P N2 x7 x8 x9 x11 v4 H5)))
theorem q5 (P : PT) (N2 : NTy k1 Pr) : QB Try.prog T0 62 o5 (En 62 k2 (B4 P N2)) k3 (B5 P N2) := fun _ _ _ _ _ _ _  => by kernel_rfl
noncomputable def o7 := ob Try.f26 [.r,.r,.r,.l,.r,.l,.l,.r,.l,.l,.r,.l,.l,.l,.r,.l]
def B7 (P : PT) (N2 : NTy k1 Pr) (N6 : NTy k3 Pr) (x7 x8 : Value) (x9 x10 x11 : Int) (H : AHeap) : Prop :=
  N6 x7 x8 x9 x10 (IntKind.i64.wrap (x11 - 1)) H
theorem q7 (P : PT) (N2 : NTy k1 Pr) (N6 : NTy k3 Pr) : QB Try.prog T0 62 o7 (En 62 k3 N6) k3 (B7 P N2 N6) := fun _ _ _ _ _ _ _  => by kernel_rfl
noncomputable def o8 := ob Try.f26 [.r,.r,.r,.l,.r,.l,.l,.r,.l,.l,.r,.l,.l,.l,.l,.l]
def B8 (P : PT) (N2 : NTy k1 Pr) (N6 : NTy k3 Pr) (x7 x8 : Value) (x9 x10 x11 : Int) (H : AHeap) : Prop :=
  pif (decide ((x11 : Int) > 0)) (idxK x8 (IntKind.i64.wrap (x11 - 1)) 1 (fun b1 o2 => ldI .i64 H b1 o2 (fun v3 => pif (decide ((v3 : Int) > x10)) (B7 P N2 N6 x7 x8 x9 x10 x11 H) (B5 P N2 x7 x8 x9 x10 x11 H)))) (B5 P N2 x7 x8 x9 x10 x11 H)
theorem q8 (P : PT) (N2 : NTy k1 Pr) (N6 : NTy k3 Pr) : QB Try.prog T0 62 o8 (cnd 46 (En 62 k3 (B7 P N2 N6)) (En 62 k3 (B5 P N2))) k3 (B8 P N2 N6) := fun _ _ _ _ _ _ _  => by kernel_rfl
def L6 (P : PT) (N2 : NTy k1 Pr) (x7 x8 : Value) (x9 x10 x11 : Int) (H : AHeap) : Prop :=
  ∃ (I : NTy k3 Pr) (μ : NTy k3 (AHeap → Nat)), I x7 x8 x9 x10 x11 H ∧ ∀ y7 y8 y9 y10 y11 G, I y7 y8 y9 y10 y11 G → B8 P N2 (fun z7 z8 z9 z10 z11 G' => I z7 z8 z9 z10 z11 G' ∧ μ z7 z8 z9 z10 z11 G' < μ y7 y8 y9 y10 y11 G) y7 y8 y9 y10 y11 G
theorem l6 (P : PT) (N2 : NTy k1 Pr) : LQ k3 (L6 P N2) (B8 P N2) := fun ⟨_,_,_,_,_,_⟩ _ ⟨I, μ, h0, hI⟩ => ⟨apT _ I, apT _ μ, h0, fun ⟨_,_,_,_,_,_⟩ _ h => hI _ _ _ _ _ _  h⟩
noncomputable def o9 := ob Try.f26 [.r,.r,.r,.l,.r,.l,.l,.r,.l,.l,.l]
def B9 (P : PT) (N2 : NTy k1 Pr) (x7 x8 : Value) (x9 : Int) (H : AHeap) : Prop :=
  idxK x7 x9 1 (fun b1 o2 => ld1 H b1 o2 (fun v3 => lenK v3 (fun n4 => lenK x8 (fun n5 => L6 P N2 x7 x8 x9 (n4 : Int) (n5 : Int) H))))
theorem q9 (P : PT) (N2 : NTy k1 Pr) : QB Try.prog T0 62 o9 (En 62 k3 (L6 P N2)) k1 (B9 P N2) := fun _ _ _ _ _  => by kernel_rfl
noncomputable def o10 := ob Try.f26 [.r,.r,.r,.l,.r,.l,.l,.l,.l]
def B10 (P : PT) (N2 : NTy k1 Pr) (x7 x8 : Value) (x9 : Int) (H : AHeap) : Prop :=
  lenK x7 (fun n1 => pif (decide ((x9 : Int) < (n1 : Int))) (B9 P N2 x7 x8 x9 H) (B1 P x8 H))
theorem q10 (P : PT) (N2 : NTy k1 Pr) : QB Try.prog T0 62 o10 (cnd 26 (En 62 k1 (B9 P N2)) (En 62 k0 (B1 P))) k1 (B10 P N2) := fun _ _ _ _ _  => by kernel_rfl
def L2 (P : PT) (x7 x8 : Value) (x9 : Int) (H : AHeap) : Prop :=
  ∃ (I : NTy k1 Pr) (μ : NTy k1 (AHeap → Nat)), I x7 x8 x9 H ∧ ∀ y7 y8 y9 G, I y7 y8 y9 G → B10 P (fun z7 z8 z9 G' => I z7 z8 z9 G' ∧ μ z7 z8 z9 G' < μ y7 y8 y9 G) y7 y8 y9 G
theorem l2 (P : PT) : LQ k1 (L2 P) (B10 P) := fun ⟨_,_,_,_⟩ _ ⟨I, μ, h0, hI⟩ => ⟨apT _ I, apT _ μ, h0, fun ⟨_,_,_,_⟩ _ h => hI _ _ _ _  h⟩
abbrev k4 : Sk := [(7,.v),(8,.v)]
noncomputable def o11 := ob Try.f26 [.r,.r,.r,.l,.l]
def B11 (P : PT) (x7 x8 : Value) (H : AHeap) : Prop :=
  L2 P x7 x8 0 H
theorem q11 (P : PT) : QB Try.prog T0 62 o11 (En 62 k1 (L2 P)) k4 (B11 P) := fun _ _ _ _  => by kernel_rfl
abbrev k5 : Sk := [(1,.v),(2,.x)]
noncomputable def o12 := ob Try.f26 [.r,.r,.l]
def B12 (P : PT) (x1 : Value) (x2 : Nat) (H : AHeap) : Prop :=
  ldI .i64 H x2 0 (fun v1 => ld1 H x2 1 (fun v2 => AC Try.prog T0 63 [(Value.agg ⟨[(Value.int .i64 v1), v2]⟩), x1] H (fun v3 H4 => newK H4 [] 2 (fun b6 H7 => B11 P v3 (Value.slice (some ⟨b6, 0, none⟩) 0 (0 + 1)) H7))))
theorem q12 (P : PT) : QB Try.prog T0 62 o12 (En 62 k4 (B11 P)) k5 (B12 P) := fun _ _ _ _  => by kernel_rfl
abbrev k6 : Sk := [(6,.i .i64)]
noncomputable def o13 := ob Try.f26 [.r,.l,.r,.r,.l,.l]
def B13 (P : PT) (x6 : Int) (H : AHeap) : Prop :=
  P (Value.tuple ⟨[(Value.slice none 0 0), (Value.int .i64 x6)]⟩) H
theorem q13 (P : PT) : QB Try.prog T0 62 o13 (ret P) k6 (B13 P) := fun _ _ _  => by kernel_rfl
abbrev k7 : Sk := [(1,.v),(2,.x),(6,.i .i64)]
noncomputable def o14 := ob Try.f26 [.r,.l,.r,.l]
def B14 (P : PT) (x1 : Value) (x2 : Nat) (x6 : Int) (H : AHeap) : Prop :=
  pif ((x6 : Int) != 0) (B13 P x6 H) (B12 P x1 x2 H)
theorem q14 (P : PT) : QB Try.prog T0 62 o14 (cnd 17 (En 62 k6 (B13 P)) (En 62 k5 (B12 P))) k7 (B14 P) := fun _ _ _ _ _  => by kernel_rfl
noncomputable def o15 := ob Try.f26 [.r,.l,.l]
def B15 (P : PT) (x1 : Value) (x2 : Nat) (H : AHeap) : Prop :=
  ldI .i64 H x2 0 (fun v1 => ld1 H x2 1 (fun v2 => AC Try.prog T0 62 [(Value.agg ⟨[(Value.int .i64 v1), v2]⟩), x1] H (fun v3 H4 => asI .i64 v3 (fun v5 => B14 P x1 x2 v5 H4))))
theorem q15 (P : PT) : QB Try.prog T0 62 o15 (En 62 k7 (B14 P)) k5 (B15 P) := fun _ _ _ _  => by kernel_rfl
abbrev k8 : Sk := [(0,.g [.i,.v]),(1,.v)]
noncomputable def o16 := ob Try.f26 [.l]
def B16 (P : PT) (x0a : Int) (x0b x1 : Value) (H : AHeap) : Prop :=
  newK H [(Value.int .i64 x0a), x0b] 31 (fun b1 H2 => B15 P x1 b1 H2)
theorem q16 (P : PT) : QB Try.prog T0 62 o16 (En 62 k5 (B15 P)) k8 (B16 P) := fun _ _ _ _ _  => by kernel_rfl
noncomputable def code : Code := (.seq (.region 0 ⟨o16⟩ false) (.seq (.seq (.region 1 ⟨o15⟩ false) (.seq (.region 2 ⟨o14⟩ false) (.cond (.tmp 17) (.seq (.region 3 ⟨o13⟩ false) .ret) .skip))) (.seq (.region 4 ⟨o12⟩ false) (.seq (.seq (.region 5 ⟨o11⟩ false) (.block 0 (.loop (.seq (.seq (.region 6 ⟨o10⟩ false) (.cond (.tmp 26) .skip (.exit 0))) (.seq (.block 1 (.seq (.region 8 ⟨o9⟩ false) (.seq (.block 2 (.loop (.seq (.seq (.region 9 ⟨o8⟩ false) (.cond (.tmp 46) .skip (.exit 2))) (.block 3 (.region 10 ⟨o7⟩ false))))) (.seq (.region 11 ⟨o5⟩ false) (.region 12 ⟨o4⟩ false))))) (.region 7 ⟨o3⟩ false)))))) (.seq (.region 13 ⟨o1⟩ false) .ret)))))
theorem body : Try.f26.body = some code := by kernel_rfl
theorem main (P : PT) : ∀ env H, (En 62 k8 (B16 P)) env H → AW Try.prog T0 code env H (mkQ (ret P) (fun _ _ _ => False) (ret P)) :=
  (r_seq (rB T0_ok (q16 P)) (r_seq (r_seq (rB T0_ok (q15 P)) (r_seq (rB T0_ok (q14 P)) (r_cond rfl (r_seq (rB T0_ok (q13 P)) r_ret) r_skip))) (r_seq (rB T0_ok (q12 P)) (r_seq (r_seq (rB T0_ok (q11 P)) (r_block (rL (l2 P) (fun N2 => (r_seq (r_seq (rB T0_ok (q10 P N2)) (r_cond rfl r_skip (r_exit (fun _ _ h => h)))) (r_seq (r_block (r_seq (rB T0_ok (q9 P N2)) (r_seq (r_block (rL (l6 P N2) (fun N6 => (r_seq (r_seq (rB T0_ok (q8 P N2 N6)) (r_cond rfl r_skip (r_exit (fun _ _ h => h)))) (r_block (rB T0_ok (q7 P N2 N6))))))) (r_seq (rB T0_ok (q5 P N2)) (rB T0_ok (q4 P N2)))))) (rB T0_ok (q3 P N2)))))))) (r_seq (rB T0_ok (q1 P)) r_ret)))))
theorem ac (P : PT) (x0a : Int) (x0b x1 : Value) (H : AHeap) (h : B16 P x0a x0b x1 H) : AC Try.prog T0 26 [(Value.agg ⟨[(Value.int .i64 x0a), x0b]⟩), x1] H P :=
  r_fn T0_ok (c := code) (n := 62) Try.func26 body (by kernel_rfl) (main P) (En_mk (x0a, x0b, x1, ()) (by kernel_rfl) ⟨by kernel_rfl, by kernel_rfl, trivial⟩ h)

end F26
-- loop.example/g01329/impl.CyclesLeft
namespace F27
noncomputable def ret (P : PT) : EP := retE T0 36 Try.f27 P
abbrev k0 : Sk := [(7,.v)]
noncomputable def o1 := ob Try.f27 [.r,.r,.r,.r,.r,.l]
def B1 (P : PT) (x7 : Value) (H : AHeap) : Prop :=
  P (Value.tuple ⟨[x7, (Value.int .i64 0)]⟩) H
theorem q1 (P : PT) : QB Try.prog T0 36 o1 (ret P) k0 (B1 P) := fun _ _ _  => by kernel_rfl
noncomputable def o2 := ob Try.f27 [.r,.r,.r,.r,.l]
def B2 (P : PT) (x7 : Value) (H : AHeap) : Prop :=
  AC Try.prog T0 67 [x7] H (fun v1 H2 => asTup v1 (fun l3 => B1 P x7 H2))
theorem q2 (P : PT) : QB Try.prog T0 36 o2 (En 36 k0 (B1 P)) k0 (B2 P) := fun _ _ _  => by kernel_rfl
abbrev k1 : Sk := [(7,.v),(21,.v),(22,.i .i64),(23,.i .i64)]
noncomputable def o4 := ob Try.f27 [.r,.r,.r,.l,.r,.l,.l,.r,.r,.r]
def B4 (P : PT) (N3 : NTy k1 Pr) (x7 x21 : Value) (x22 x23 : Int) (H : AHeap) : Prop :=
  N3 x7 x21 x22 (IntKind.i64.wrap (x23 + 1)) H
theorem q4 (P : PT) (N3 : NTy k1 Pr) : QB Try.prog T0 36 o4 (En 36 k1 N3) k1 (B4 P N3) := fun _ _ _ _ _ _  => by kernel_rfl
abbrev k2 : Sk := [(7,.v),(9,.i .u64),(21,.v),(22,.i .i64),(23,.i .i64)]
noncomputable def o5 := ob Try.f27 [.r,.r,.r,.l,.r,.l,.l,.r,.r,.l,.l,.r]
def B5 (P : PT) (N3 : NTy k1 Pr) (x7 : Value) (x9 : Int) (x21 : Value) (x22 x23 : Int) (H : AHeap) : Prop :=
  AC Try.prog T0 66 [(Value.int .u64 x9)] H (fun v1 H2 => asI .i64 v1 (fun v3 => newK H2 [(Value.int .i64 v3)] 2 (fun b4 H5 => apK T0 2 H5 x7 (Value.slice (some ⟨b4, 0, none⟩) 1 (1 + 1)) (fun v6 H7 => B4 P N3 v6 x21 x22 x23 H7))))
theorem q5 (P : PT) (N3 : NTy k1 Pr) : QB Try.prog T0 36 o5 (En 36 k1 (B4 P N3)) k2 (B5 P N3) := fun _ _ _ _ _ _ _  => by kernel_rfl
noncomputable def o6 := ob Try.f27 [.r,.r,.r,.l,.r,.l,.l,.r,.r,.l,.l,.l]
def B6 (P : PT) (N3 : NTy k1 Pr) (x7 x21 : Value) (x22 x23 : Int) (H : AHeap) : Prop :=
  idxK x21 x23 1 (fun b1 o2 => ldI .u64 H b1 o2 (fun v3 => B5 P N3 x7 v3 x21 x22 x23 H))
theorem q6 (P : PT) (N3 : NTy k1 Pr) : QB Try.prog T0 36 o6 (En 36 k2 (B5 P N3)) k1 (B6 P N3) := fun _ _ _ _ _ _  => by kernel_rfl
noncomputable def o7 := ob Try.f27 [.r,.r,.r,.l,.r,.l,.l,.l]
def B7 (P : PT) (N3 : NTy k1 Pr) (x7 x21 : Value) (x22 x23 : Int) (H : AHeap) : Prop :=
  pif (decide ((x23 : Int) < x22)) (B6 P N3 x7 x21 x22 x23 H) (B2 P x7 H)
theorem q7 (P : PT) (N3 : NTy k1 Pr) : QB Try.prog T0 36 o7 (cnd 24 (En 36 k1 (B6 P N3)) (En 36 k0 (B2 P))) k1 (B7 P N3) := fun _ _ _ _ _ _  => by kernel_rfl
def L3 (P : PT) (x7 x21 : Value) (x22 x23 : Int) (H : AHeap) : Prop :=
  ∃ (I : NTy k1 Pr) (μ : NTy k1 (AHeap → Nat)), I x7 x21 x22 x23 H ∧ ∀ y7 y21 y22 y23 G, I y7 y21 y22 y23 G → B7 P (fun z7 z21 z22 z23 G' => I z7 z21 z22 z23 G' ∧ μ z7 z21 z22 z23 G' < μ y7 y21 y22 y23 G) y7 y21 y22 y23 G
theorem l3 (P : PT) : LQ k1 (L3 P) (B7 P) := fun ⟨_,_,_,_,_⟩ _ ⟨I, μ, h0, hI⟩ => ⟨apT _ I, apT _ μ, h0, fun ⟨_,_,_,_,_⟩ _ h => hI _ _ _ _ _  h⟩
abbrev k3 : Sk := [(1,.v),(2,.x),(7,.v)]
noncomputable def o8 := ob Try.f27 [.r,.r,.r,.l,.l]
def B8 (P : PT) (x1 : Value) (x2 : Nat) (x7 : Value) (H : AHeap) : Prop :=
  ldI .i64 H x2 0 (fun v1 => ld1 H x2 1 (fun v2 => AC Try.prog T0 58 [x1] H (fun v3 H4 => asI .u64 v3 (fun v5 => (AHeap.le H H4) ∧ (AC Try.prog T0 65 [(Value.agg ⟨[(Value.int .i64 v1), v2]⟩), (Value.int .u64 v5)] H4 (fun v6 H7 => lenK v6 (fun n9 => L3 P x7 v6 (n9 : Int) 0 H7)))))))
theorem q8 (P : PT) : QD Try.prog T0 36 o8 [(0, false), (1, false), (5, false), (2, true), (3, false), (4, false)] (En 36 k1 (L3 P)) k3 (B8 P) := fun _ _ _ _ _  => by kernel_rfl
abbrev k4 : Sk := [(1,.v),(2,.x)]
noncomputable def o9 := ob Try.f27 [.r,.r,.l]
def B9 (P : PT) (x1 : Value) (x2 : Nat) (H : AHeap) : Prop :=
  B8 P x1 x2 (Value.slice none 0 0) H
theorem q9 (P : PT) : QB Try.prog T0 36 o9 (En 36 k3 (B8 P)) k4 (B9 P) := fun _ _ _ _  => by kernel_rfl
abbrev k5 : Sk := [(6,.i .i64)]
noncomputable def o10 := ob Try.f27 [.r,.l,.r,.r,.l,.l]
def B10 (P : PT) (x6 : Int) (H : AHeap) : Prop :=
  P (Value.tuple ⟨[(Value.slice none 0 0), (Value.int .i64 x6)]⟩) H
theorem q10 (P : PT) : QB Try.prog T0 36 o10 (ret P) k5 (B10 P) := fun _ _ _  => by kernel_rfl
abbrev k6 : Sk := [(1,.v),(2,.x),(6,.i .i64)]
noncomputable def o11 := ob Try.f27 [.r,.l,.r,.l]
def B11 (P : PT) (x1 : Value) (x2 : Nat) (x6 : Int) (H : AHeap) : Prop :=
  pif ((x6 : Int) != 0) (B10 P x6 H) (B9 P x1 x2 H)
theorem q11 (P : PT) : QB Try.prog T0 36 o11 (cnd 16 (En 36 k5 (B10 P)) (En 36 k4 (B9 P))) k6 (B11 P) := fun _ _ _ _ _  => by kernel_rfl
noncomputable def o12 := ob Try.f27 [.r,.l,.l]
def B12 (P : PT) (x1 : Value) (x2 : Nat) (H : AHeap) : Prop :=
  ldI .i64 H x2 0 (fun v1 => ld1 H x2 1 (fun v2 => ldI .i64 H x2 0 (fun v3 => ld1 H x2 1 (fun v4 => AC Try.prog T0 64 [(Value.agg ⟨[(Value.int .i64 v3), v4]⟩), x1] H (fun v5 H6 => asB v5 (fun v7 => (AHeap.le H H6) ∧ (AC Try.prog T0 41 [(Value.agg ⟨[(Value.int .i64 v1), v2]⟩), (Value.bool v7)] H6 (fun v8 H9 => asI .i64 v8 (fun v10 => B11 P x1 x2 v10 H9)))))))))
theorem q12 (P : PT) : QD Try.prog T0 36 o12 [(0, false), (1, false), (2, false), (3, true), (4, false), (5, false)] (En 36 k6 (B11 P)) k4 (B12 P) := fun _ _ _ _  => by kernel_rfl
abbrev k7 : Sk := [(0,.g [.i,.v]),(1,.v)]
noncomputable def o13 := ob Try.f27 [.l]
def B13 (P : PT) (x0a : Int) (x0b x1 : Value) (H : AHeap) : Prop :=
  newK H [(Value.int .i64 x0a), x0b] 31 (fun b1 H2 => B12 P x1 b1 H2)
theorem q13 (P : PT) : QB Try.prog T0 36 o13 (En 36 k4 (B12 P)) k7 (B13 P) := fun _ _ _ _ _  => by kernel_rfl
noncomputable def code : Code := (.seq (.region 0 ⟨o13⟩ false) (.seq (.seq (.region 1 ⟨o12⟩ true) (.seq (.region 2 ⟨o11⟩ false) (.cond (.tmp 16) (.seq (.region 3 ⟨o10⟩ false) .ret) .skip))) (.seq (.region 4 ⟨o9⟩ false) (.seq (.seq (.region 5 ⟨o8⟩ true) (.block 0 (.loop (.seq (.region 6 ⟨o7⟩ false) (.seq (.cond (.tmp 24) .skip (.exit 0)) (.seq (.block 1 (.seq (.region 7 ⟨o6⟩ false) (.region 8 ⟨o5⟩ false))) (.region 9 ⟨o4⟩ false))))))) (.seq (.region 10 ⟨o2⟩ false) (.seq (.region 11 ⟨o1⟩ false) .ret))))))
theorem body : Try.f27.body = some code := by kernel_rfl
theorem main (P : PT) : ∀ env H, (En 36 k7 (B13 P)) env H → AW Try.prog T0 code env H (mkQ (ret P) (fun _ _ _ => False) (ret P)) :=
  (r_seq (rB T0_ok (q13 P)) (r_seq (r_seq (rD T0_ok mixed [(0, false), (1, false), (2, false), (3, true), (4, false), (5, false)] (by kernel_rfl) (q12 P)) (r_seq (rB T0_ok (q11 P)) (r_cond rfl (r_seq (rB T0_ok (q10 P)) r_ret) r_skip))) (r_seq (rB T0_ok (q9 P)) (r_seq (r_seq (rD T0_ok mixed [(0, false), (1, false), (5, false), (2, true), (3, false), (4, false)] (by kernel_rfl) (q8 P)) (r_block (rL (l3 P) (fun N3 => (r_seq (rB T0_ok (q7 P N3)) (r_seq (r_cond rfl r_skip (r_exit (fun _ _ h => h))) (r_seq (r_block (r_seq (rB T0_ok (q6 P N3)) (rB T0_ok (q5 P N3)))) (rB T0_ok (q4 P N3))))))))) (r_seq (rB T0_ok (q2 P)) (r_seq (rB T0_ok (q1 P)) r_ret))))))
theorem ac (P : PT) (x0a : Int) (x0b x1 : Value) (H : AHeap) (h : B13 P x0a x0b x1 H) : AC Try.prog T0 27 [(Value.agg ⟨[(Value.int .i64 x0a), x0b]⟩), x1] H P :=
  r_fn T0_ok (c := code) (n := 36) Try.func27 body (by kernel_rfl) (main P) (En_mk (x0a, x0b, x1, ()) (by kernel_rfl) ⟨by kernel_rfl, by kernel_rfl, trivial⟩ h)

end F27
-- loop.example/g01329/laws.markGraph
namespace F28
noncomputable def ret (P : PT) : EP := retE T0 10 Try.f28 P
abbrev k0 : Sk := [(1,.i .i64)]
noncomputable def o1 := ob Try.f28 [.r,.r,.l]
def B1 (P : PT) (x1 : Int) (H : AHeap) : Prop :=
  P (Value.int .i64 x1) H
theorem q1 (P : PT) : QB Try.prog T0 10 o1 (ret P) k0 (B1 P) := fun _ _ _  => by kernel_rfl
abbrev k1 : Sk := [(1,.i .i64),(2,.x)]
noncomputable def o2 := ob Try.f28 [.r,.l]
def B2 (P : PT) (x1 : Int) (x2 : Nat) (H : AHeap) : Prop :=
  ld1 H x2 1 (fun v1 => AC Try.prog T0 68 [v1, (Value.int .i64 x1)] H (fun v2 H3 => asI .i64 v2 (fun v4 => B1 P v4 H3)))
theorem q2 (P : PT) : QB Try.prog T0 10 o2 (En 10 k0 (B1 P)) k1 (B2 P) := fun _ _ _ _  => by kernel_rfl
abbrev k2 : Sk := [(0,.g [.i,.v]),(1,.i .i64)]
noncomputable def o3 := ob Try.f28 [.l]
def B3 (P : PT) (x0a : Int) (x0b : Value) (x1 : Int) (H : AHeap) : Prop :=
  newK H [(Value.int .i64 x0a), x0b] 31 (fun b1 H2 => B2 P x1 b1 H2)
theorem q3 (P : PT) : QB Try.prog T0 10 o3 (En 10 k1 (B2 P)) k2 (B3 P) := fun _ _ _ _ _  => by kernel_rfl
noncomputable def code : Code := (.seq (.region 0 ⟨o3⟩ false) (.seq (.region 1 ⟨o2⟩ false) (.seq (.region 2 ⟨o1⟩ false) .ret)))
theorem body : Try.f28.body = some code := by kernel_rfl
theorem main (P : PT) : ∀ env H, (En 10 k2 (B3 P)) env H → AW Try.prog T0 code env H (mkQ (ret P) (fun _ _ _ => False) (ret P)) :=
  (r_seq (rB T0_ok (q3 P)) (r_seq (rB T0_ok (q2 P)) (r_seq (rB T0_ok (q1 P)) r_ret)))
theorem ac (P : PT) (x0a : Int) (x0b : Value) (x1 : Int) (H : AHeap) (h : B3 P x0a x0b x1 H) : AC Try.prog T0 28 [(Value.agg ⟨[(Value.int .i64 x0a), x0b]⟩), (Value.int .i64 x1)] H P :=
  r_fn T0_ok (c := code) (n := 10) Try.func28 body (by kernel_rfl) (main P) (En_mk (x0a, x0b, x1, ()) (by kernel_rfl) ⟨by kernel_rfl, by kernel_rfl, trivial⟩ h)

end F28
-- loop.example/g01329/laws.markInt64S
namespace F29
noncomputable def ret (P : PT) : EP := retE T0 19 Try.f29 P
abbrev k0 : Sk := [(1,.i .i64)]
noncomputable def o1 := ob Try.f29 [.r,.r,.l]
def B1 (P : PT) (x1 : Int) (H : AHeap) : Prop :=
  P (Value.int .i64 x1) H
theorem q1 (P : PT) : QB Try.prog T0 19 o1 (ret P) k0 (B1 P) := fun _ _ _  => by kernel_rfl
abbrev k1 : Sk := [(0,.v),(1,.i .i64),(5,.i .i64)]
noncomputable def o3 := ob Try.f29 [.r,.l,.r,.l,.l,.r,.r]
def B3 (P : PT) (N2 : NTy k1 Pr) (x0 : Value) (x1 x5 : Int) (H : AHeap) : Prop :=
  N2 x0 x1 (IntKind.i64.wrap (x5 + 1)) H
theorem q3 (P : PT) (N2 : NTy k1 Pr) : QB Try.prog T0 19 o3 (En 19 k1 N2) k1 (B3 P N2) := fun _ _ _ _ _  => by kernel_rfl
noncomputable def o4 := ob Try.f29 [.r,.l,.r,.l,.l,.r,.l,.l,.r]
def B4 (P : PT) (N2 : NTy k1 Pr) (x0 : Value) (x1 x5 : Int) (H : AHeap) : Prop :=
  B3 P N2 x0 (IntKind.i64.wrap (x1 + 1)) x5 H
theorem q4 (P : PT) (N2 : NTy k1 Pr) : QB Try.prog T0 19 o4 (En 19 k1 (B3 P N2)) k1 (B4 P N2) := fun _ _ _ _ _  => by kernel_rfl
noncomputable def o5 := ob Try.f29 [.r,.l,.r,.l,.l,.r,.l,.l,.l]
def B5 (P : PT) (N2 : NTy k1 Pr) (x0 : Value) (x1 x5 : Int) (H : AHeap) : Prop :=
  idxK x0 x5 1 (fun b1 o2 => stK H b1 o2 [(Value.int .i64 x1)] (fun H3 => B4 P N2 x0 x1 x5 H3))
theorem q5 (P : PT) (N2 : NTy k1 Pr) : QB Try.prog T0 19 o5 (En 19 k1 (B4 P N2)) k1 (B5 P N2) := fun _ _ _ _ _  => by kernel_rfl
noncomputable def o6 := ob Try.f29 [.r,.l,.r,.l,.l,.l,.l]
def B6 (P : PT) (N2 : NTy k1 Pr) (x0 : Value) (x1 x5 : Int) (H : AHeap) : Prop :=
  lenK x0 (fun n1 => pif (decide ((x5 : Int) < (n1 : Int))) (B5 P N2 x0 x1 x5 H) (B1 P x1 H))
theorem q6 (P : PT) (N2 : NTy k1 Pr) : QB Try.prog T0 19 o6 (cnd 9 (En 19 k1 (B5 P N2)) (En 19 k0 (B1 P))) k1 (B6 P N2) := fun _ _ _ _ _  => by kernel_rfl
def L2 (P : PT) (x0 : Value) (x1 x5 : Int) (H : AHeap) : Prop :=
  ∃ (I : NTy k1 Pr) (μ : NTy k1 (AHeap → Nat)), I x0 x1 x5 H ∧ ∀ y0 y1 y5 G, I y0 y1 y5 G → B6 P (fun z0 z1 z5 G' => I z0 z1 z5 G' ∧ μ z0 z1 z5 G' < μ y0 y1 y5 G) y0 y1 y5 G
theorem l2 (P : PT) : LQ k1 (L2 P) (B6 P) := fun ⟨_,_,_,_⟩ _ ⟨I, μ, h0, hI⟩ => ⟨apT _ I, apT _ μ, h0, fun ⟨_,_,_,_⟩ _ h => hI _ _ _ _  h⟩
abbrev k2 : Sk := [(0,.v),(1,.i .i64)]
noncomputable def o7 := ob Try.f29 [.r,.l,.l]
def B7 (P : PT) (x0 : Value) (x1 : Int) (H : AHeap) : Prop :=
  L2 P x0 x1 0 H
theorem q7 (P : PT) : QB Try.prog T0 19 o7 (En 19 k1 (L2 P)) k2 (B7 P) := fun _ _ _ _  => by kernel_rfl
noncomputable def o8 := ob Try.f29 [.l]
def B8 (P : PT) (x0 : Value) (x1 : Int) (H : AHeap) : Prop :=
  B7 P x0 x1 H
theorem q8 (P : PT) : QB Try.prog T0 19 o8 (En 19 k2 (B7 P)) k2 (B8 P) := fun _ _ _ _  => by kernel_rfl
noncomputable def code : Code := (.seq (.region 0 ⟨o8⟩ false) (.seq (.seq (.region 1 ⟨o7⟩ false) (.block 0 (.loop (.seq (.seq (.region 2 ⟨o6⟩ false) (.cond (.tmp 9) .skip (.exit 0))) (.seq (.block 1 (.seq (.region 4 ⟨o5⟩ false) (.region 5 ⟨o4⟩ false))) (.region 3 ⟨o3⟩ false)))))) (.seq (.region 6 ⟨o1⟩ false) .ret)))
theorem body : Try.f29.body = some code := by kernel_rfl
theorem main (P : PT) : ∀ env H, (En 19 k2 (B8 P)) env H → AW Try.prog T0 code env H (mkQ (ret P) (fun _ _ _ => False) (ret P)) :=
  (r_seq (rB T0_ok (q8 P)) (r_seq (r_seq (rB T0_ok (q7 P)) (r_block (rL (l2 P) (fun N2 => (r_seq (r_seq (rB T0_ok (q6 P N2)) (r_cond rfl r_skip (r_exit (fun _ _ h => h)))) (r_seq (r_block (r_seq (rB T0_ok (q5 P N2)) (rB T0_ok (q4 P N2)))) (rB T0_ok (q3 P N2)))))))) (r_seq (rB T0_ok (q1 P)) r_ret)))
theorem ac (P : PT) (x0 : Value) (x1 : Int) (H : AHeap) (h : B8 P x0 x1 H) : AC Try.prog T0 29 [x0, (Value.int .i64 x1)] H P :=
  r_fn T0_ok (c := code) (n := 19) Try.func29 body (by kernel_rfl) (main P) (En_mk (x0, x1, ()) (by kernel_rfl) ⟨by kernel_rfl, by kernel_rfl, trivial⟩ h)

end F29
-- loop.example/g01329/laws.heldInt64S
namespace F30
noncomputable def ret (P : PT) : EP := retE T0 21 Try.f30 P
abbrev k0 : Sk := [(1,.i .i64)]
noncomputable def o1 := ob Try.f30 [.r,.r,.l]
def B1 (P : PT) (x1 : Int) (H : AHeap) : Prop :=
  P (Value.int .i64 x1) H
theorem q1 (P : PT) : QB Try.prog T0 21 o1 (ret P) k0 (B1 P) := fun _ _ _  => by kernel_rfl
abbrev k1 : Sk := [(0,.v),(1,.i .i64),(5,.i .i64)]
noncomputable def o3 := ob Try.f30 [.r,.l,.r,.l,.l,.r,.r]
def B3 (P : PT) (N2 : NTy k1 Pr) (x0 : Value) (x1 x5 : Int) (H : AHeap) : Prop :=
  N2 x0 x1 (IntKind.i64.wrap (x5 + 1)) H
theorem q3 (P : PT) (N2 : NTy k1 Pr) : QB Try.prog T0 21 o3 (En 21 k1 N2) k1 (B3 P N2) := fun _ _ _ _ _  => by kernel_rfl
noncomputable def o4 := ob Try.f30 [.r,.l,.r,.l,.l,.r,.l,.l,.r]
def B4 (P : PT) (N2 : NTy k1 Pr) (x0 : Value) (x1 x5 : Int) (H : AHeap) : Prop :=
  B3 P N2 x0 (IntKind.i64.wrap (x1 + 1)) x5 H
theorem q4 (P : PT) (N2 : NTy k1 Pr) : QB Try.prog T0 21 o4 (En 21 k1 (B3 P N2)) k1 (B4 P N2) := fun _ _ _ _ _  => by kernel_rfl
abbrev k2 : Sk := []
noncomputable def o5 := ob Try.f30 [.r,.l,.r,.l,.l,.r,.l,.l,.l,.r,.l,.l]
def B5 (P : PT) (N2 : NTy k1 Pr) (H : AHeap) : Prop :=
  P (Value.int .i64 (-1)) H
theorem q5 (P : PT) (N2 : NTy k1 Pr) : QB Try.prog T0 21 o5 (ret P) k2 (B5 P N2) := fun _ _  => by kernel_rfl
noncomputable def o6 := ob Try.f30 [.r,.l,.r,.l,.l,.r,.l,.l,.l,.l]
def B6 (P : PT) (N2 : NTy k1 Pr) (x0 : Value) (x1 x5 : Int) (H : AHeap) : Prop :=
  idxK x0 x5 1 (fun b1 o2 => ldI .i64 H b1 o2 (fun v3 => pif ((v3 : Int) != x1) (B5 P N2 H) (B4 P N2 x0 x1 x5 H)))
theorem q6 (P : PT) (N2 : NTy k1 Pr) : QB Try.prog T0 21 o6 (cnd 17 (En 21 k2 (B5 P N2)) (En 21 k1 (B4 P N2))) k1 (B6 P N2) := fun _ _ _ _ _  => by kernel_rfl
noncomputable def o7 := ob Try.f30 [.r,.l,.r,.l,.l,.l,.l]
def B7 (P : PT) (N2 : NTy k1 Pr) (x0 : Value) (x1 x5 : Int) (H : AHeap) : Prop :=
  lenK x0 (fun n1 => pif (decide ((x5 : Int) < (n1 : Int))) (B6 P N2 x0 x1 x5 H) (B1 P x1 H))
theorem q7 (P : PT) (N2 : NTy k1 Pr) : QB Try.prog T0 21 o7 (cnd 9 (En 21 k1 (B6 P N2)) (En 21 k0 (B1 P))) k1 (B7 P N2) := fun _ _ _ _ _  => by kernel_rfl
def L2 (P : PT) (x0 : Value) (x1 x5 : Int) (H : AHeap) : Prop :=
  ∃ (I : NTy k1 Pr) (μ : NTy k1 (AHeap → Nat)), I x0 x1 x5 H ∧ ∀ y0 y1 y5 G, I y0 y1 y5 G → B7 P (fun z0 z1 z5 G' => I z0 z1 z5 G' ∧ μ z0 z1 z5 G' < μ y0 y1 y5 G) y0 y1 y5 G
theorem l2 (P : PT) : LQ k1 (L2 P) (B7 P) := fun ⟨_,_,_,_⟩ _ ⟨I, μ, h0, hI⟩ => ⟨apT _ I, apT _ μ, h0, fun ⟨_,_,_,_⟩ _ h => hI _ _ _ _  h⟩
abbrev k3 : Sk := [(0,.v),(1,.i .i64)]
noncomputable def o8 := ob Try.f30 [.r,.l,.l]
def B8 (P : PT) (x0 : Value) (x1 : Int) (H : AHeap) : Prop :=
  L2 P x0 x1 0 H
theorem q8 (P : PT) : QB Try.prog T0 21 o8 (En 21 k1 (L2 P)) k3 (B8 P) := fun _ _ _ _  => by kernel_rfl
noncomputable def o9 := ob Try.f30 [.l]
def B9 (P : PT) (x0 : Value) (x1 : Int) (H : AHeap) : Prop :=
  B8 P x0 x1 H
theorem q9 (P : PT) : QB Try.prog T0 21 o9 (En 21 k3 (B8 P)) k3 (B9 P) := fun _ _ _ _  => by kernel_rfl
noncomputable def code : Code := (.seq (.region 0 ⟨o9⟩ false) (.seq (.seq (.region 1 ⟨o8⟩ false) (.block 0 (.loop (.seq (.seq (.region 2 ⟨o7⟩ false) (.cond (.tmp 9) .skip (.exit 0))) (.seq (.block 1 (.seq (.seq (.region 4 ⟨o6⟩ false) (.cond (.tmp 17) (.seq (.region 5 ⟨o5⟩ false) .ret) .skip)) (.region 6 ⟨o4⟩ false))) (.region 3 ⟨o3⟩ false)))))) (.seq (.region 7 ⟨o1⟩ false) .ret)))
theorem body : Try.f30.body = some code := by kernel_rfl
theorem main (P : PT) : ∀ env H, (En 21 k3 (B9 P)) env H → AW Try.prog T0 code env H (mkQ (ret P) (fun _ _ _ => False) (ret P)) :=
  (r_seq (rB T0_ok (q9 P)) (r_seq (r_seq (rB T0_ok (q8 P)) (r_block (rL (l2 P) (fun N2 => (r_seq (r_seq (rB T0_ok (q7 P N2)) (r_cond rfl r_skip (r_exit (fun _ _ h => h)))) (r_seq (r_block (r_seq (r_seq (rB T0_ok (q6 P N2)) (r_cond rfl (r_seq (rB T0_ok (q5 P N2)) r_ret) r_skip)) (rB T0_ok (q4 P N2)))) (rB T0_ok (q3 P N2)))))))) (r_seq (rB T0_ok (q1 P)) r_ret)))
theorem ac (P : PT) (x0 : Value) (x1 : Int) (H : AHeap) (h : B9 P x0 x1 H) : AC Try.prog T0 30 [x0, (Value.int .i64 x1)] H P :=
  r_fn T0_ok (c := code) (n := 21) Try.func30 body (by kernel_rfl) (main P) (En_mk (x0, x1, ()) (by kernel_rfl) ⟨by kernel_rfl, by kernel_rfl, trivial⟩ h)

end F30
-- loop.example/g01329/laws.szEdgeS
namespace F35
noncomputable def ret (P : PT) : EP := retE T0 12 Try.f35 P
abbrev k0 : Sk := [(1,.i .i64)]
noncomputable def o1 := ob Try.f35 [.r,.r,.r,.l]
def B1 (P : PT) (x1 : Int) (H : AHeap) : Prop :=
  P (Value.int .i64 x1) H
theorem q1 (P : PT) : QB Try.prog T0 12 o1 (ret P) k0 (B1 P) := fun _ _ _  => by kernel_rfl
abbrev k1 : Sk := []
noncomputable def o2 := ob Try.f35 [.r,.r,.l,.r,.l,.l]
def B2 (P : PT) (H : AHeap) : Prop :=
  P (Value.int .i64 (-1)) H
theorem q2 (P : PT) : QB Try.prog T0 12 o2 (ret P) k1 (B2 P) := fun _ _  => by kernel_rfl
noncomputable def o3 := ob Try.f35 [.r,.r,.l,.l]
def B3 (P : PT) (x1 : Int) (H : AHeap) : Prop :=
  pif (decide ((x1 : Int) < 0)) (B2 P H) (B1 P x1 H)
theorem q3 (P : PT) : QB Try.prog T0 12 o3 (cnd 10 (En 12 k1 (B2 P)) (En 12 k0 (B1 P))) k0 (B3 P) := fun _ _ _  => by kernel_rfl
abbrev k2 : Sk := [(0,.v),(1,.i .i64)]
noncomputable def o4 := ob Try.f35 [.r,.l]
def B4 (P : PT) (x0 : Value) (x1 : Int) (H : AHeap) : Prop :=
  lenK x0 (fun n1 => B3 P (IntKind.i64.wrap (x1 - (n1 : Int))) H)
theorem q4 (P : PT) : QB Try.prog T0 12 o4 (En 12 k0 (B3 P)) k2 (B4 P) := fun _ _ _ _  => by kernel_rfl
noncomputable def o5 := ob Try.f35 [.l]
def B5 (P : PT) (x0 : Value) (x1 : Int) (H : AHeap) : Prop :=
  B4 P x0 x1 H
theorem q5 (P : PT) : QB Try.prog T0 12 o5 (En 12 k2 (B4 P)) k2 (B5 P) := fun _ _ _ _  => by kernel_rfl
noncomputable def code : Code := (.seq (.region 0 ⟨o5⟩ false) (.seq (.region 1 ⟨o4⟩ false) (.seq (.seq (.region 2 ⟨o3⟩ false) (.cond (.tmp 10) (.seq (.region 3 ⟨o2⟩ false) .ret) .skip)) (.seq (.region 4 ⟨o1⟩ false) .ret))))
theorem body : Try.f35.body = some code := by kernel_rfl
theorem main (P : PT) : ∀ env H, (En 12 k2 (B5 P)) env H → AW Try.prog T0 code env H (mkQ (ret P) (fun _ _ _ => False) (ret P)) :=
  (r_seq (rB T0_ok (q5 P)) (r_seq (rB T0_ok (q4 P)) (r_seq (r_seq (rB T0_ok (q3 P)) (r_cond rfl (r_seq (rB T0_ok (q2 P)) r_ret) r_skip)) (r_seq (rB T0_ok (q1 P)) r_ret))))
theorem ac (P : PT) (x0 : Value) (x1 : Int) (H : AHeap) (h : B5 P x0 x1 H) : AC Try.prog T0 35 [x0, (Value.int .i64 x1)] H P :=
  r_fn T0_ok (c := code) (n := 12) Try.func35 body (by kernel_rfl) (main P) (En_mk (x0, x1, ()) (by kernel_rfl) ⟨by kernel_rfl, by kernel_rfl, trivial⟩ h)

end F35
-- loop.example/g01329/spec.l01Own
namespace F37
noncomputable def ret (P : PT) : EP := retE T0 6 Try.f37 P
abbrev k0 : Sk := [(0,.v)]
noncomputable def o1 := ob Try.f37 [.r,.l]
def B1 (P : PT) (x0 : Value) (H : AHeap) : Prop :=
  newK H [] 2 (fun b1 H2 => apK T0 2 H2 (Value.slice (some ⟨b1, 0, none⟩) 0 (0 + 1)) x0 (fun v3 H4 => P v3 H4))
theorem q1 (P : PT) : QB Try.prog T0 6 o1 (ret P) k0 (B1 P) := fun _ _ _  => by kernel_rfl
noncomputable def o2 := ob Try.f37 [.l]
def B2 (P : PT) (x0 : Value) (H : AHeap) : Prop :=
  B1 P x0 H
theorem q2 (P : PT) : QB Try.prog T0 6 o2 (En 6 k0 (B1 P)) k0 (B2 P) := fun _ _ _  => by kernel_rfl
noncomputable def code : Code := (.seq (.region 0 ⟨o2⟩ false) (.seq (.region 1 ⟨o1⟩ false) .ret))
theorem body : Try.f37.body = some code := by kernel_rfl
theorem main (P : PT) : ∀ env H, (En 6 k0 (B2 P)) env H → AW Try.prog T0 code env H (mkQ (ret P) (fun _ _ _ => False) (ret P)) :=
  (r_seq (rB T0_ok (q2 P)) (r_seq (rB T0_ok (q1 P)) r_ret))
theorem ac (P : PT) (x0 : Value) (H : AHeap) (h : B2 P x0 H) : AC Try.prog T0 37 [x0] H P :=
  r_fn T0_ok (c := code) (n := 6) Try.func37 body (by kernel_rfl) (main P) (En_mk (x0, ()) (by kernel_rfl) ⟨by kernel_rfl, trivial⟩ h)

end F37
-- loop.example/g01329/laws.toEdgeS
namespace F40
noncomputable def ret (P : PT) : EP := retE T0 23 Try.f40 P
abbrev k0 : Sk := [(3,.v)]
noncomputable def o1 := ob Try.f40 [.r,.r,.r,.l]
def B1 (P : PT) (x3 : Value) (H : AHeap) : Prop :=
  P x3 H
theorem q1 (P : PT) : QB Try.prog T0 23 o1 (ret P) k0 (B1 P) := fun _ _ _  => by kernel_rfl
abbrev k1 : Sk := [(0,.v),(3,.v),(4,.i .i64)]
noncomputable def o3 := ob Try.f40 [.r,.r,.l,.r,.l,.l,.r,.r]
def B3 (P : PT) (N2 : NTy k1 Pr) (x0 x3 : Value) (x4 : Int) (H : AHeap) : Prop :=
  N2 x0 x3 (IntKind.i64.wrap (x4 + 1)) H
theorem q3 (P : PT) (N2 : NTy k1 Pr) : QB Try.prog T0 23 o3 (En 23 k1 N2) k1 (B3 P N2) := fun _ _ _ _ _  => by kernel_rfl
noncomputable def o4 := ob Try.f40 [.r,.r,.l,.r,.l,.l,.r,.l,.l]
def B4 (P : PT) (N2 : NTy k1 Pr) (x0 x3 : Value) (x4 : Int) (H : AHeap) : Prop :=
  idxK x0 x4 2 (fun b1 o2 => ldI .i64 H b1 o2 (fun v3 => ldI .i64 H b1 (o2 + 1) (fun v4 => AC Try.prog T0 76 [(Value.agg ⟨[(Value.int .i64 v3), (Value.int .i64 v4)]⟩)] H (fun v5 H6 => agg2 v5 (fun v7 v8 => asI .i64 v7 (fun v9 => asI .i64 v8 (fun v10 => idxK x3 x4 2 (fun b11 o12 => stK H6 b11 o12 [(Value.int .i64 v9), (Value.int .i64 v10)] (fun H13 => B3 P N2 x0 x3 x4 H13)))))))))
theorem q4 (P : PT) (N2 : NTy k1 Pr) : QB Try.prog T0 23 o4 (En 23 k1 (B3 P N2)) k1 (B4 P N2) := fun _ _ _ _ _  => by kernel_rfl
noncomputable def o5 := ob Try.f40 [.r,.r,.l,.r,.l,.l,.l,.l]
def B5 (P : PT) (N2 : NTy k1 Pr) (x0 x3 : Value) (x4 : Int) (H : AHeap) : Prop :=
  lenK x0 (fun n1 => pif (decide ((x4 : Int) < (n1 : Int))) (B4 P N2 x0 x3 x4 H) (B1 P x3 H))
theorem q5 (P : PT) (N2 : NTy k1 Pr) : QB Try.prog T0 23 o5 (cnd 11 (En 23 k1 (B4 P N2)) (En 23 k0 (B1 P))) k1 (B5 P N2) := fun _ _ _ _ _  => by kernel_rfl
def L2 (P : PT) (x0 x3 : Value) (x4 : Int) (H : AHeap) : Prop :=
  ∃ (I : NTy k1 Pr) (μ : NTy k1 (AHeap → Nat)), I x0 x3 x4 H ∧ ∀ y0 y3 y4 G, I y0 y3 y4 G → B5 P (fun z0 z3 z4 G' => I z0 z3 z4 G' ∧ μ z0 z3 z4 G' < μ y0 y3 y4 G) y0 y3 y4 G
theorem l2 (P : PT) : LQ k1 (L2 P) (B5 P) := fun ⟨_,_,_,_⟩ _ ⟨I, μ, h0, hI⟩ => ⟨apT _ I, apT _ μ, h0, fun ⟨_,_,_,_⟩ _ h => hI _ _ _ _  h⟩
abbrev k2 : Sk := [(0,.v),(3,.v)]
noncomputable def o6 := ob Try.f40 [.r,.r,.l,.l]
def B6 (P : PT) (x0 x3 : Value) (H : AHeap) : Prop :=
  L2 P x0 x3 0 H
theorem q6 (P : PT) : QB Try.prog T0 23 o6 (En 23 k1 (L2 P)) k2 (B6 P) := fun _ _ _ _  => by kernel_rfl
abbrev k3 : Sk := [(0,.v)]
noncomputable def o7 := ob Try.f40 [.r,.l]
def B7 (P : PT) (x0 : Value) (H : AHeap) : Prop :=
  lenK x0 (fun n1 => mkR H 16 67 [(Value.int .i64 0), (Value.int .i64 0)] (n1 : Int) (n1 : Int) (fun v3 H2 => B6 P x0 v3 H2))
theorem q7 (P : PT) : QB Try.prog T0 23 o7 (En 23 k2 (B6 P)) k3 (B7 P) := fun _ _ _  => by kernel_rfl
noncomputable def o8 := ob Try.f40 [.l]
def B8 (P : PT) (x0 : Value) (H : AHeap) : Prop :=
  B7 P x0 H
theorem q8 (P : PT) : QB Try.prog T0 23 o8 (En 23 k3 (B7 P)) k3 (B8 P) := fun _ _ _  => by kernel_rfl
noncomputable def code : Code := (.seq (.region 0 ⟨o8⟩ false) (.seq (.region 1 ⟨o7⟩ false) (.seq (.seq (.region 2 ⟨o6⟩ false) (.block 0 (.loop (.seq (.seq (.region 3 ⟨o5⟩ false) (.cond (.tmp 11) .skip (.exit 0))) (.seq (.block 1 (.region 5 ⟨o4⟩ false)) (.region 4 ⟨o3⟩ false)))))) (.seq (.region 6 ⟨o1⟩ false) .ret))))
theorem body : Try.f40.body = some code := by kernel_rfl
theorem main (P : PT) : ∀ env H, (En 23 k3 (B8 P)) env H → AW Try.prog T0 code env H (mkQ (ret P) (fun _ _ _ => False) (ret P)) :=
  (r_seq (rB T0_ok (q8 P)) (r_seq (rB T0_ok (q7 P)) (r_seq (r_seq (rB T0_ok (q6 P)) (r_block (rL (l2 P) (fun N2 => (r_seq (r_seq (rB T0_ok (q5 P N2)) (r_cond rfl r_skip (r_exit (fun _ _ h => h)))) (r_seq (r_block (rB T0_ok (q4 P N2))) (rB T0_ok (q3 P N2)))))))) (r_seq (rB T0_ok (q1 P)) r_ret))))
theorem ac (P : PT) (x0 : Value) (H : AHeap) (h : B8 P x0 H) : AC Try.prog T0 40 [x0] H P :=
  r_fn T0_ok (c := code) (n := 23) Try.func40 body (by kernel_rfl) (main P) (En_mk (x0, ()) (by kernel_rfl) ⟨by kernel_rfl, trivial⟩ h)

end F40
-- loop.example/g01329/impl.graphCode
namespace F41
noncomputable def ret (P : PT) : EP := retE T0 12 Try.f41 P
abbrev k0 : Sk := []
noncomputable def o1 := ob Try.f41 [.r,.r,.l]
def B1 (P : PT) (H : AHeap) : Prop :=
  P (Value.int .i64 0) H
theorem q1 (P : PT) : QB Try.prog T0 12 o1 (ret P) k0 (B1 P) := fun _ _  => by kernel_rfl
noncomputable def o2 := ob Try.f41 [.r,.l,.l,.r,.l,.l]
def B2 (P : PT) (H : AHeap) : Prop :=
  P (Value.int .i64 1) H
theorem q2 (P : PT) : QB Try.prog T0 12 o2 (ret P) k0 (B2 P) := fun _ _  => by kernel_rfl
noncomputable def o3 := ob Try.f41 [.r,.l,.l,.r,.r,.r,.l,.l]
def B3 (P : PT) (H : AHeap) : Prop :=
  P (Value.int .i64 2) H
theorem q3 (P : PT) : QB Try.prog T0 12 o3 (ret P) k0 (B3 P) := fun _ _  => by kernel_rfl
abbrev k1 : Sk := [(1,.b)]
noncomputable def o4 := ob Try.f41 [.r,.l,.l,.r,.r,.l]
def B4 (P : PT) (x1 : Bool) (H : AHeap) : Prop :=
  pif (!x1) (B3 P H) (B1 P H)
theorem q4 (P : PT) : QB Try.prog T0 12 o4 (cnd 9 (En 12 k0 (B3 P)) (En 12 k0 (B1 P))) k1 (B4 P) := fun _ _ _  => by kernel_rfl
abbrev k2 : Sk := [(1,.b),(2,.x)]
noncomputable def o5 := ob Try.f41 [.r,.l,.l,.l]
def B5 (P : PT) (x1 : Bool) (x2 : Nat) (H : AHeap) : Prop :=
  ldI .i64 H x2 0 (fun v1 => ld1 H x2 1 (fun v2 => AC Try.prog T0 77 [(Value.agg ⟨[(Value.int .i64 v1), v2]⟩)] H (fun v3 H4 => asB v3 (fun v5 => pif (!v5) (B2 P H4) (B4 P x1 H4)))))
theorem q5 (P : PT) : QB Try.prog T0 12 o5 (cnd 5 (En 12 k0 (B2 P)) (En 12 k1 (B4 P))) k2 (B5 P) := fun _ _ _ _  => by kernel_rfl
abbrev k3 : Sk := [(0,.g [.i,.v]),(1,.b)]
noncomputable def o6 := ob Try.f41 [.l]
def B6 (P : PT) (x0a : Int) (x0b : Value) (x1 : Bool) (H : AHeap) : Prop :=
  newK H [(Value.int .i64 x0a), x0b] 31 (fun b1 H2 => B5 P x1 b1 H2)
theorem q6 (P : PT) : QB Try.prog T0 12 o6 (En 12 k2 (B5 P)) k3 (B6 P) := fun _ _ _ _ _  => by kernel_rfl
noncomputable def code : Code := (.seq (.region 0 ⟨o6⟩ false) (.seq (.block 0 (.seq (.region 1 ⟨o5⟩ false) (.cond (.tmp 5) (.seq (.region 2 ⟨o2⟩ false) .ret) (.seq (.region 3 ⟨o4⟩ false) (.cond (.tmp 9) (.seq (.region 4 ⟨o3⟩ false) .ret) .skip))))) (.seq (.region 5 ⟨o1⟩ false) .ret)))
theorem body : Try.f41.body = some code := by kernel_rfl
theorem main (P : PT) : ∀ env H, (En 12 k3 (B6 P)) env H → AW Try.prog T0 code env H (mkQ (ret P) (fun _ _ _ => False) (ret P)) :=
  (r_seq (rB T0_ok (q6 P)) (r_seq (r_block (r_seq (rB T0_ok (q5 P)) (r_cond rfl (r_seq (rB T0_ok (q2 P)) r_ret) (r_seq (rB T0_ok (q4 P)) (r_cond rfl (r_seq (rB T0_ok (q3 P)) r_ret) r_skip))))) (r_seq (rB T0_ok (q1 P)) r_ret)))
theorem ac (P : PT) (x0a : Int) (x0b : Value) (x1 : Bool) (H : AHeap) (h : B6 P x0a x0b x1 H) : AC Try.prog T0 41 [(Value.agg ⟨[(Value.int .i64 x0a), x0b]⟩), (Value.bool x1)] H P :=
  r_fn T0_ok (c := code) (n := 12) Try.func41 body (by kernel_rfl) (main P) (En_mk (x0a, x0b, x1, ()) (by kernel_rfl) ⟨by kernel_rfl, by kernel_rfl, trivial⟩ h)

end F41
-- loop.example/g01329/impl.length[loop.example/g01329/impl.Edge]
namespace F44
noncomputable def ret (P : PT) : EP := retE T0 5 Try.f44 P
abbrev k0 : Sk := [(0,.v)]
noncomputable def o1 := ob Try.f44 [.r,.l]
def B1 (P : PT) (x0 : Value) (H : AHeap) : Prop :=
  lenK x0 (fun n1 => P (Value.int .i64 (n1 : Int)) H)
theorem q1 (P : PT) : QB Try.prog T0 5 o1 (ret P) k0 (B1 P) := fun _ _ _  => by kernel_rfl
noncomputable def o2 := ob Try.f44 [.l]
def B2 (P : PT) (x0 : Value) (H : AHeap) : Prop :=
  B1 P x0 H
theorem q2 (P : PT) : QB Try.prog T0 5 o2 (En 5 k0 (B1 P)) k0 (B2 P) := fun _ _ _  => by kernel_rfl
noncomputable def code : Code := (.seq (.region 0 ⟨o2⟩ false) (.seq (.region 1 ⟨o1⟩ false) .ret))
theorem body : Try.f44.body = some code := by kernel_rfl
theorem main (P : PT) : ∀ env H, (En 5 k0 (B2 P)) env H → AW Try.prog T0 code env H (mkQ (ret P) (fun _ _ _ => False) (ret P)) :=
  (r_seq (rB T0_ok (q2 P)) (r_seq (rB T0_ok (q1 P)) r_ret))
theorem ac (P : PT) (x0 : Value) (H : AHeap) (h : B2 P x0 H) : AC Try.prog T0 44 [x0] H P :=
  r_fn T0_ok (c := code) (n := 5) Try.func44 body (by kernel_rfl) (main P) (En_mk (x0, ()) (by kernel_rfl) ⟨by kernel_rfl, trivial⟩ h)

end F44
-- loop.example/g01329/laws.eqEdgeS
namespace F46
noncomputable def ret (P : PT) : EP := retE T0 27 Try.f46 P
abbrev k0 : Sk := []
noncomputable def o1 := ob Try.f46 [.r,.r,.r,.l]
def B1 (P : PT) (H : AHeap) : Prop :=
  P (Value.bool true) H
theorem q1 (P : PT) : QB Try.prog T0 27 o1 (ret P) k0 (B1 P) := fun _ _  => by kernel_rfl
abbrev k1 : Sk := [(0,.v),(1,.v),(5,.i .i64)]
noncomputable def o3 := ob Try.f46 [.r,.r,.l,.r,.l,.l,.r,.r]
def B3 (P : PT) (N2 : NTy k1 Pr) (x0 x1 : Value) (x5 : Int) (H : AHeap) : Prop :=
  N2 x0 x1 (IntKind.i64.wrap (x5 + 1)) H
theorem q3 (P : PT) (N2 : NTy k1 Pr) : QB Try.prog T0 27 o3 (En 27 k1 N2) k1 (B3 P N2) := fun _ _ _ _ _  => by kernel_rfl
noncomputable def o4 := ob Try.f46 [.r,.r,.l,.r,.l,.l,.r,.l,.l,.r,.l,.l]
def B4 (P : PT) (N2 : NTy k1 Pr) (H : AHeap) : Prop :=
  P (Value.bool false) H
theorem q4 (P : PT) (N2 : NTy k1 Pr) : QB Try.prog T0 27 o4 (ret P) k0 (B4 P N2) := fun _ _  => by kernel_rfl
noncomputable def o5 := ob Try.f46 [.r,.r,.l,.r,.l,.l,.r,.l,.l,.l]
def B5 (P : PT) (N2 : NTy k1 Pr) (x0 x1 : Value) (x5 : Int) (H : AHeap) : Prop :=
  idxK x0 x5 2 (fun b1 o2 => ldI .i64 H b1 o2 (fun v3 => ldI .i64 H b1 (o2 + 1) (fun v4 => idxK x1 x5 2 (fun b5 o6 => ldI .i64 H b5 o6 (fun v7 => ldI .i64 H b5 (o6 + 1) (fun v8 => AC Try.prog T0 83 [(Value.agg ⟨[(Value.int .i64 v3), (Value.int .i64 v4)]⟩), (Value.agg ⟨[(Value.int .i64 v7), (Value.int .i64 v8)]⟩)] H (fun v9 H10 => asB v9 (fun v11 => pif (!v11) (B4 P N2 H10) (B3 P N2 x0 x1 x5 H10)))))))))
theorem q5 (P : PT) (N2 : NTy k1 Pr) : QD Try.prog T0 27 o5 [(0, false), (1, false), (2, false), (3, false), (4, false), (5, false), (6, false), (7, false), (8, false), (9, false)] (cnd 26 (En 27 k0 (B4 P N2)) (En 27 k1 (B3 P N2))) k1 (B5 P N2) := fun _ _ _ _ _  => by kernel_rfl
noncomputable def o6 := ob Try.f46 [.r,.r,.l,.r,.l,.l,.l,.l]
def B6 (P : PT) (N2 : NTy k1 Pr) (x0 x1 : Value) (x5 : Int) (H : AHeap) : Prop :=
  lenK x0 (fun n1 => pif (decide ((x5 : Int) < (n1 : Int))) (B5 P N2 x0 x1 x5 H) (B1 P H))
theorem q6 (P : PT) (N2 : NTy k1 Pr) : QB Try.prog T0 27 o6 (cnd 14 (En 27 k1 (B5 P N2)) (En 27 k0 (B1 P))) k1 (B6 P N2) := fun _ _ _ _ _  => by kernel_rfl
def L2 (P : PT) (x0 x1 : Value) (x5 : Int) (H : AHeap) : Prop :=
  ∃ (I : NTy k1 Pr) (μ : NTy k1 (AHeap → Nat)), I x0 x1 x5 H ∧ ∀ y0 y1 y5 G, I y0 y1 y5 G → B6 P (fun z0 z1 z5 G' => I z0 z1 z5 G' ∧ μ z0 z1 z5 G' < μ y0 y1 y5 G) y0 y1 y5 G
theorem l2 (P : PT) : LQ k1 (L2 P) (B6 P) := fun ⟨_,_,_,_⟩ _ ⟨I, μ, h0, hI⟩ => ⟨apT _ I, apT _ μ, h0, fun ⟨_,_,_,_⟩ _ h => hI _ _ _ _  h⟩
abbrev k2 : Sk := [(0,.v),(1,.v)]
noncomputable def o7 := ob Try.f46 [.r,.r,.l,.l]
def B7 (P : PT) (x0 x1 : Value) (H : AHeap) : Prop :=
  L2 P x0 x1 0 H
theorem q7 (P : PT) : QB Try.prog T0 27 o7 (En 27 k1 (L2 P)) k2 (B7 P) := fun _ _ _ _  => by kernel_rfl
noncomputable def o8 := ob Try.f46 [.r,.l,.r,.l,.l]
def B8 (P : PT) (H : AHeap) : Prop :=
  P (Value.bool false) H
theorem q8 (P : PT) : QB Try.prog T0 27 o8 (ret P) k0 (B8 P) := fun _ _  => by kernel_rfl
noncomputable def o9 := ob Try.f46 [.r,.l,.l]
def B9 (P : PT) (x0 x1 : Value) (H : AHeap) : Prop :=
  lenK x0 (fun n1 => lenK x1 (fun n2 => pif (((n1 : Int) : Int) != (n2 : Int)) (B8 P H) (B7 P x0 x1 H)))
theorem q9 (P : PT) : QB Try.prog T0 27 o9 (cnd 10 (En 27 k0 (B8 P)) (En 27 k2 (B7 P))) k2 (B9 P) := fun _ _ _ _  => by kernel_rfl
noncomputable def o10 := ob Try.f46 [.l]
def B10 (P : PT) (x0 x1 : Value) (H : AHeap) : Prop :=
  B9 P x0 x1 H
theorem q10 (P : PT) : QB Try.prog T0 27 o10 (En 27 k2 (B9 P)) k2 (B10 P) := fun _ _ _ _  => by kernel_rfl
noncomputable def code : Code := (.seq (.region 0 ⟨o10⟩ false) (.seq (.seq (.region 1 ⟨o9⟩ false) (.cond (.tmp 10) (.seq (.region 2 ⟨o8⟩ false) .ret) .skip)) (.seq (.seq (.region 3 ⟨o7⟩ false) (.block 0 (.loop (.seq (.seq (.region 4 ⟨o6⟩ false) (.cond (.tmp 14) .skip (.exit 0))) (.seq (.block 1 (.seq (.region 6 ⟨o5⟩ true) (.cond (.tmp 26) (.seq (.region 7 ⟨o4⟩ false) .ret) .skip))) (.region 5 ⟨o3⟩ false)))))) (.seq (.region 8 ⟨o1⟩ false) .ret))))
theorem body : Try.f46.body = some code := by kernel_rfl
theorem main (P : PT) : ∀ env H, (En 27 k2 (B10 P)) env H → AW Try.prog T0 code env H (mkQ (ret P) (fun _ _ _ => False) (ret P)) :=
  (r_seq (rB T0_ok (q10 P)) (r_seq (r_seq (rB T0_ok (q9 P)) (r_cond rfl (r_seq (rB T0_ok (q8 P)) r_ret) r_skip)) (r_seq (r_seq (rB T0_ok (q7 P)) (r_block (rL (l2 P) (fun N2 => (r_seq (r_seq (rB T0_ok (q6 P N2)) (r_cond rfl r_skip (r_exit (fun _ _ h => h)))) (r_seq (r_block (r_seq (rD T0_ok mixed [(0, false), (1, false), (2, false), (3, false), (4, false), (5, false), (6, false), (7, false), (8, false), (9, false)] (by kernel_rfl) (q5 P N2)) (r_cond rfl (r_seq (rB T0_ok (q4 P N2)) r_ret) r_skip))) (rB T0_ok (q3 P N2)))))))) (r_seq (rB T0_ok (q1 P)) r_ret))))
theorem ac (P : PT) (x0 x1 : Value) (H : AHeap) (h : B10 P x0 x1 H) : AC Try.prog T0 46 [x0, x1] H P :=
  r_fn T0_ok (c := code) (n := 27) Try.func46 body (by kernel_rfl) (main P) (En_mk (x0, x1, ()) (by kernel_rfl) ⟨by kernel_rfl, by kernel_rfl, trivial⟩ h)

end F46
-- loop.example/g01329/spec.l01In
namespace F49
noncomputable def ret (P : PT) : EP := retE T0 15 Try.f49 P
abbrev k0 : Sk := [(0,.i .i64),(1,.i .i64),(2,.i .i64)]
noncomputable def o1 := ob Try.f49 [.r,.l]
def B1 (P : PT) (x0 x1 x2 : Int) (H : AHeap) : Prop :=
  pif (decide ((x0 : Int) ≥ x1)) (P (Value.bool (decide ((x0 : Int) ≤ x2))) H) (P (Value.bool false) H)
theorem q1 (P : PT) : QB Try.prog T0 15 o1 (ret P) k0 (B1 P) := fun _ _ _ _ _  => by kernel_rfl
noncomputable def o2 := ob Try.f49 [.l]
def B2 (P : PT) (x0 x1 x2 : Int) (H : AHeap) : Prop :=
  B1 P x0 x1 x2 H
theorem q2 (P : PT) : QB Try.prog T0 15 o2 (En 15 k0 (B1 P)) k0 (B2 P) := fun _ _ _ _ _  => by kernel_rfl
noncomputable def code : Code := (.seq (.region 0 ⟨o2⟩ false) (.seq (.region 1 ⟨o1⟩ false) .ret))
theorem body : Try.f49.body = some code := by kernel_rfl
theorem main (P : PT) : ∀ env H, (En 15 k0 (B2 P)) env H → AW Try.prog T0 code env H (mkQ (ret P) (fun _ _ _ => False) (ret P)) :=
  (r_seq (rB T0_ok (q2 P)) (r_seq (rB T0_ok (q1 P)) r_ret))
theorem ac (P : PT) (x0 x1 x2 : Int) (H : AHeap) (h : B2 P x0 x1 x2 H) : AC Try.prog T0 49 [(Value.int .i64 x0), (Value.int .i64 x1), (Value.int .i64 x2)] H P :=
  r_fn T0_ok (c := code) (n := 15) Try.func49 body (by kernel_rfl) (main P) (En_mk (x0, x1, x2, ()) (by kernel_rfl) ⟨by kernel_rfl, by kernel_rfl, by kernel_rfl, trivial⟩ h)

end F49
-- loop.example/g01329/impl.within
namespace F53
noncomputable def ret (P : PT) : EP := retE T0 15 Try.f53 P
abbrev k0 : Sk := [(0,.i .i64),(1,.i .i64),(2,.i .i64)]
noncomputable def o1 := ob Try.f53 [.r,.l]
def B1 (P : PT) (x0 x1 x2 : Int) (H : AHeap) : Prop :=
  pif (decide ((x1 : Int) ≤ x0)) (P (Value.bool (decide ((x0 : Int) ≤ x2))) H) (P (Value.bool false) H)
theorem q1 (P : PT) : QB Try.prog T0 15 o1 (ret P) k0 (B1 P) := fun _ _ _ _ _  => by kernel_rfl
noncomputable def o2 := ob Try.f53 [.l]
def B2 (P : PT) (x0 x1 x2 : Int) (H : AHeap) : Prop :=
  B1 P x0 x1 x2 H
theorem q2 (P : PT) : QB Try.prog T0 15 o2 (En 15 k0 (B1 P)) k0 (B2 P) := fun _ _ _ _ _  => by kernel_rfl
noncomputable def code : Code := (.seq (.region 0 ⟨o2⟩ false) (.seq (.region 1 ⟨o1⟩ false) .ret))
theorem body : Try.f53.body = some code := by kernel_rfl
theorem main (P : PT) : ∀ env H, (En 15 k0 (B2 P)) env H → AW Try.prog T0 code env H (mkQ (ret P) (fun _ _ _ => False) (ret P)) :=
  (r_seq (rB T0_ok (q2 P)) (r_seq (rB T0_ok (q1 P)) r_ret))
theorem ac (P : PT) (x0 x1 x2 : Int) (H : AHeap) (h : B2 P x0 x1 x2 H) : AC Try.prog T0 53 [(Value.int .i64 x0), (Value.int .i64 x1), (Value.int .i64 x2)] H P :=
  r_fn T0_ok (c := code) (n := 15) Try.func53 body (by kernel_rfl) (main P) (En_mk (x0, x1, x2, ()) (by kernel_rfl) ⟨by kernel_rfl, by kernel_rfl, by kernel_rfl, trivial⟩ h)

end F53
-- loop.example/g01329/impl.setOf
namespace F58
noncomputable def ret (P : PT) : EP := retE T0 18 Try.f58 P
abbrev k0 : Sk := [(3,.i .u64)]
noncomputable def o1 := ob Try.f58 [.r,.r,.r,.l]
def B1 (P : PT) (x3 : Int) (H : AHeap) : Prop :=
  P (Value.int .u64 x3) H
theorem q1 (P : PT) : QB Try.prog T0 18 o1 (ret P) k0 (B1 P) := fun _ _ _  => by kernel_rfl
abbrev k1 : Sk := [(3,.i .u64),(6,.v),(7,.i .i64),(8,.i .i64)]
noncomputable def o3 := ob Try.f58 [.r,.r,.l,.r,.l,.l,.r,.r,.r]
def B3 (P : PT) (N2 : NTy k1 Pr) (x3 : Int) (x6 : Value) (x7 x8 : Int) (H : AHeap) : Prop :=
  N2 x3 x6 x7 (IntKind.i64.wrap (x8 + 1)) H
theorem q3 (P : PT) (N2 : NTy k1 Pr) : QB Try.prog T0 18 o3 (En 18 k1 N2) k1 (B3 P N2) := fun _ _ _ _ _ _  => by kernel_rfl
abbrev k2 : Sk := [(3,.i .u64),(5,.i .i64),(6,.v),(7,.i .i64),(8,.i .i64)]
noncomputable def o4 := ob Try.f58 [.r,.r,.l,.r,.l,.l,.r,.r,.l,.l,.r]
def B4 (P : PT) (N2 : NTy k1 Pr) (x3 x5 : Int) (x6 : Value) (x7 x8 : Int) (H : AHeap) : Prop :=
  ((0 : Int) ≤ x5) ∧ (B3 P N2 (IntKind.u64.wrap (BitVec.ofInt 64 x3 ||| BitVec.ofInt 64 (IntKind.u64.wrap (1 * 2 ^ (min (Int.toNat x5) 64)))).toNat) x6 x7 x8 H)
theorem q4 (P : PT) (N2 : NTy k1 Pr) : QB Try.prog T0 18 o4 (En 18 k1 (B3 P N2)) k2 (B4 P N2) := fun _ _ _ _ _ _ _  => by kernel_rfl
noncomputable def o5 := ob Try.f58 [.r,.r,.l,.r,.l,.l,.r,.r,.l,.l,.l]
def B5 (P : PT) (N2 : NTy k1 Pr) (x3 : Int) (x6 : Value) (x7 x8 : Int) (H : AHeap) : Prop :=
  idxK x6 x8 1 (fun b1 o2 => ldI .i64 H b1 o2 (fun v3 => B4 P N2 x3 v3 x6 x7 x8 H))
theorem q5 (P : PT) (N2 : NTy k1 Pr) : QB Try.prog T0 18 o5 (En 18 k2 (B4 P N2)) k1 (B5 P N2) := fun _ _ _ _ _ _  => by kernel_rfl
noncomputable def o6 := ob Try.f58 [.r,.r,.l,.r,.l,.l,.l]
def B6 (P : PT) (N2 : NTy k1 Pr) (x3 : Int) (x6 : Value) (x7 x8 : Int) (H : AHeap) : Prop :=
  pif (decide ((x8 : Int) < x7)) (B5 P N2 x3 x6 x7 x8 H) (B1 P x3 H)
theorem q6 (P : PT) (N2 : NTy k1 Pr) : QB Try.prog T0 18 o6 (cnd 9 (En 18 k1 (B5 P N2)) (En 18 k0 (B1 P))) k1 (B6 P N2) := fun _ _ _ _ _ _  => by kernel_rfl
def L2 (P : PT) (x3 : Int) (x6 : Value) (x7 x8 : Int) (H : AHeap) : Prop :=
  ∃ (I : NTy k1 Pr) (μ : NTy k1 (AHeap → Nat)), I x3 x6 x7 x8 H ∧ ∀ y3 y6 y7 y8 G, I y3 y6 y7 y8 G → B6 P (fun z3 z6 z7 z8 G' => I z3 z6 z7 z8 G' ∧ μ z3 z6 z7 z8 G' < μ y3 y6 y7 y8 G) y3 y6 y7 y8 G
theorem l2 (P : PT) : LQ k1 (L2 P) (B6 P) := fun ⟨_,_,_,_,_⟩ _ ⟨I, μ, h0, hI⟩ => ⟨apT _ I, apT _ μ, h0, fun ⟨_,_,_,_,_⟩ _ h => hI _ _ _ _ _  h⟩
abbrev k3 : Sk := [(0,.v),(3,.i .u64)]
noncomputable def o7 := ob Try.f58 [.r,.r,.l,.l]
def B7 (P : PT) (x0 : Value) (x3 : Int) (H : AHeap) : Prop :=
  lenK x0 (fun n1 => L2 P x3 x0 (n1 : Int) 0 H)
theorem q7 (P : PT) : QB Try.prog T0 18 o7 (En 18 k1 (L2 P)) k3 (B7 P) := fun _ _ _ _  => by kernel_rfl
abbrev k4 : Sk := [(0,.v)]
noncomputable def o8 := ob Try.f58 [.r,.l]
def B8 (P : PT) (x0 : Value) (H : AHeap) : Prop :=
  B7 P x0 0 H
theorem q8 (P : PT) : QB Try.prog T0 18 o8 (En 18 k3 (B7 P)) k4 (B8 P) := fun _ _ _  => by kernel_rfl
noncomputable def o9 := ob Try.f58 [.l]
def B9 (P : PT) (x0 : Value) (H : AHeap) : Prop :=
  B8 P x0 H
theorem q9 (P : PT) : QB Try.prog T0 18 o9 (En 18 k4 (B8 P)) k4 (B9 P) := fun _ _ _  => by kernel_rfl
noncomputable def code : Code := (.seq (.region 0 ⟨o9⟩ false) (.seq (.region 1 ⟨o8⟩ false) (.seq (.seq (.region 2 ⟨o7⟩ false) (.block 0 (.loop (.seq (.region 3 ⟨o6⟩ false) (.seq (.cond (.tmp 9) .skip (.exit 0)) (.seq (.block 1 (.seq (.region 4 ⟨o5⟩ false) (.region 5 ⟨o4⟩ false))) (.region 6 ⟨o3⟩ false))))))) (.seq (.region 7 ⟨o1⟩ false) .ret))))
theorem body : Try.f58.body = some code := by kernel_rfl
theorem main (P : PT) : ∀ env H, (En 18 k4 (B9 P)) env H → AW Try.prog T0 code env H (mkQ (ret P) (fun _ _ _ => False) (ret P)) :=
  (r_seq (rB T0_ok (q9 P)) (r_seq (rB T0_ok (q8 P)) (r_seq (r_seq (rB T0_ok (q7 P)) (r_block (rL (l2 P) (fun N2 => (r_seq (rB T0_ok (q6 P N2)) (r_seq (r_cond rfl r_skip (r_exit (fun _ _ h => h))) (r_seq (r_block (r_seq (rB T0_ok (q5 P N2)) (rB T0_ok (q4 P N2)))) (rB T0_ok (q3 P N2))))))))) (r_seq (rB T0_ok (q1 P)) r_ret))))
theorem ac (P : PT) (x0 : Value) (H : AHeap) (h : B9 P x0 H) : AC Try.prog T0 58 [x0] H P :=
  r_fn T0_ok (c := code) (n := 18) Try.func58 body (by kernel_rfl) (main P) (En_mk (x0, ()) (by kernel_rfl) ⟨by kernel_rfl, trivial⟩ h)

end F58
-- loop.example/g01329/spec.l04Code
namespace F62
noncomputable def ret (P : PT) : EP := retE T0 14 Try.f62 P
abbrev k0 : Sk := []
noncomputable def o1 := ob Try.f62 [.r,.r,.l]
def B1 (P : PT) (H : AHeap) : Prop :=
  P (Value.int .i64 0) H
theorem q1 (P : PT) : QB Try.prog T0 14 o1 (ret P) k0 (B1 P) := fun _ _  => by kernel_rfl
noncomputable def o2 := ob Try.f62 [.r,.l,.l,.r,.l,.l]
def B2 (P : PT) (H : AHeap) : Prop :=
  P (Value.int .i64 1) H
theorem q2 (P : PT) : QB Try.prog T0 14 o2 (ret P) k0 (B2 P) := fun _ _  => by kernel_rfl
noncomputable def o3 := ob Try.f62 [.r,.l,.l,.r,.r,.r,.l,.l]
def B3 (P : PT) (H : AHeap) : Prop :=
  P (Value.int .i64 2) H
theorem q3 (P : PT) : QB Try.prog T0 14 o3 (ret P) k0 (B3 P) := fun _ _  => by kernel_rfl
abbrev k1 : Sk := [(1,.v),(2,.x)]
noncomputable def o4 := ob Try.f62 [.r,.l,.l,.r,.r,.l]
def B4 (P : PT) (x1 : Value) (x2 : Nat) (H : AHeap) : Prop :=
  ldI .i64 H x2 0 (fun v1 => ld1 H x2 1 (fun v2 => AC Try.prog T0 108 [(Value.agg ⟨[(Value.int .i64 v1), v2]⟩), x1] H (fun v3 H4 => asB v3 (fun v5 => pif (!v5) (B3 P H4) (B1 P H4)))))
theorem q4 (P : PT) : QB Try.prog T0 14 o4 (cnd 9 (En 14 k0 (B3 P)) (En 14 k0 (B1 P))) k1 (B4 P) := fun _ _ _ _  => by kernel_rfl
noncomputable def o5 := ob Try.f62 [.r,.l,.l,.l]
def B5 (P : PT) (x1 : Value) (x2 : Nat) (H : AHeap) : Prop :=
  ldI .i64 H x2 0 (fun v1 => ld1 H x2 1 (fun v2 => AC Try.prog T0 73 [(Value.agg ⟨[(Value.int .i64 v1), v2]⟩)] H (fun v3 H4 => asB v3 (fun v5 => pif (!v5) (B2 P H4) (B4 P x1 x2 H4)))))
theorem q5 (P : PT) : QB Try.prog T0 14 o5 (cnd 5 (En 14 k0 (B2 P)) (En 14 k1 (B4 P))) k1 (B5 P) := fun _ _ _ _  => by kernel_rfl
abbrev k2 : Sk := [(0,.g [.i,.v]),(1,.v)]
noncomputable def o6 := ob Try.f62 [.l]
def B6 (P : PT) (x0a : Int) (x0b x1 : Value) (H : AHeap) : Prop :=
  newK H [(Value.int .i64 x0a), x0b] 31 (fun b1 H2 => B5 P x1 b1 H2)
theorem q6 (P : PT) : QB Try.prog T0 14 o6 (En 14 k1 (B5 P)) k2 (B6 P) := fun _ _ _ _ _  => by kernel_rfl
noncomputable def code : Code := (.seq (.region 0 ⟨o6⟩ false) (.seq (.block 0 (.seq (.region 1 ⟨o5⟩ false) (.cond (.tmp 5) (.seq (.region 2 ⟨o2⟩ false) .ret) (.seq (.region 3 ⟨o4⟩ false) (.cond (.tmp 9) (.seq (.region 4 ⟨o3⟩ false) .ret) .skip))))) (.seq (.region 5 ⟨o1⟩ false) .ret)))
theorem body : Try.f62.body = some code := by kernel_rfl
theorem main (P : PT) : ∀ env H, (En 14 k2 (B6 P)) env H → AW Try.prog T0 code env H (mkQ (ret P) (fun _ _ _ => False) (ret P)) :=
  (r_seq (rB T0_ok (q6 P)) (r_seq (r_block (r_seq (rB T0_ok (q5 P)) (r_cond rfl (r_seq (rB T0_ok (q2 P)) r_ret) (r_seq (rB T0_ok (q4 P)) (r_cond rfl (r_seq (rB T0_ok (q3 P)) r_ret) r_skip))))) (r_seq (rB T0_ok (q1 P)) r_ret)))
theorem ac (P : PT) (x0a : Int) (x0b x1 : Value) (H : AHeap) (h : B6 P x0a x0b x1 H) : AC Try.prog T0 62 [(Value.agg ⟨[(Value.int .i64 x0a), x0b]⟩), x1] H P :=
  r_fn T0_ok (c := code) (n := 14) Try.func62 body (by kernel_rfl) (main P) (En_mk (x0a, x0b, x1, ()) (by kernel_rfl) ⟨by kernel_rfl, by kernel_rfl, trivial⟩ h)

end F62
-- loop.example/g01329/spec.l04Cycles
namespace F63
noncomputable def ret (P : PT) : EP := retE T0 92 Try.f63 P
abbrev k0 : Sk := [(6,.v)]
noncomputable def o1 := ob Try.f63 [.r,.r,.r,.l]
def B1 (P : PT) (x6 : Value) (H : AHeap) : Prop :=
  P x6 H
theorem q1 (P : PT) : QB Try.prog T0 92 o1 (ret P) k0 (B1 P) := fun _ _ _  => by kernel_rfl
abbrev k1 : Sk := [(1,.v),(2,.x),(5,.v),(6,.v),(7,.i .i64)]
noncomputable def o3 := ob Try.f63 [.r,.r,.l,.r,.l,.l,.r,.r]
def B3 (P : PT) (N2 : NTy k1 Pr) (x1 : Value) (x2 : Nat) (x5 x6 : Value) (x7 : Int) (H : AHeap) : Prop :=
  N2 x1 x2 x5 x6 (IntKind.i64.wrap (x7 + 1)) H
theorem q3 (P : PT) (N2 : NTy k1 Pr) : QB Try.prog T0 92 o3 (En 92 k1 N2) k1 (B3 P N2) := fun _ _ _ _ _ _ _  => by kernel_rfl
abbrev k2 : Sk := [(1,.v),(2,.x),(5,.v),(6,.v),(7,.i .i64),(8,.v)]
noncomputable def o4 := ob Try.f63 [.r,.r,.l,.r,.l,.l,.r,.l,.l,.r,.r,.r]
def B4 (P : PT) (N2 : NTy k1 Pr) (x1 : Value) (x2 : Nat) (x5 x6 : Value) (x7 : Int) (x8 : Value) (H : AHeap) : Prop :=
  pif (Value.oneCell' x8) (newK H [x8] 25 (fun b1 H2 => apK T0 25 H2 x6 (Value.slice (some ⟨b1, 0, none⟩) 1 (1 + 1)) (fun v3 H4 => B3 P N2 x1 x2 x5 v3 x7 H4))) False
theorem q4 (P : PT) (N2 : NTy k1 Pr) : QB Try.prog T0 92 o4 (En 92 k1 (B3 P N2)) k2 (B4 P N2) := fun _ _ _ _ _ _ _ _  => by kernel_rfl
abbrev k3 : Sk := [(1,.v),(2,.x),(5,.v),(6,.v),(7,.i .i64),(8,.v),(9,.i .i64),(10,.i .i64)]
noncomputable def o6 := ob Try.f63 [.r,.r,.l,.r,.l,.l,.r,.l,.l,.r,.r,.l,.l,.l,.r,.l,.r,.r,.r,.r,.r]
def B6 (P : PT) (N2 : NTy k1 Pr) (N5 : NTy k3 Pr) (x1 : Value) (x2 : Nat) (x5 x6 : Value) (x7 : Int) (x8 : Value) (x9 x10 : Int) (H : AHeap) : Prop :=
  ldI .i64 H x2 0 (fun v1 => ld1 H x2 1 (fun v2 => AC Try.prog T0 111 [(Value.agg ⟨[(Value.int .i64 v1), v2]⟩), (Value.int .i64 x9), (Value.int .i64 x10)] H (fun v3 H4 => asI .i64 v3 (fun v5 => N5 x1 x2 x5 x6 x7 x8 x9 v5 H4))))
theorem q6 (P : PT) (N2 : NTy k1 Pr) (N5 : NTy k3 Pr) : QB Try.prog T0 92 o6 (En 92 k3 N5) k3 (B6 P N2 N5) := fun _ _ _ _ _ _ _ _ _ _  => by kernel_rfl
abbrev k4 : Sk := [(1,.v),(2,.x),(5,.v),(6,.v),(7,.i .i64),(8,.v),(10,.i .i64),(12,.i .i64)]
noncomputable def o7 := ob Try.f63 [.r,.r,.l,.r,.l,.l,.r,.l,.l,.r,.r,.l,.l,.l,.r,.l,.r,.r,.r,.r,.l]
def B7 (P : PT) (N2 : NTy k1 Pr) (N5 : NTy k3 Pr) (x1 : Value) (x2 : Nat) (x5 x6 : Value) (x7 : Int) (x8 : Value) (x10 x12 : Int) (H : AHeap) : Prop :=
  B6 P N2 N5 x1 x2 x5 x6 x7 x8 x12 x10 H
theorem q7 (P : PT) (N2 : NTy k1 Pr) (N5 : NTy k3 Pr) : QB Try.prog T0 92 o7 (En 92 k3 (B6 P N2 N5)) k4 (B7 P N2 N5) := fun _ _ _ _ _ _ _ _ _ _  => by kernel_rfl
abbrev k5 : Sk := [(1,.v),(2,.x),(5,.v),(6,.v),(7,.i .i64),(8,.v),(9,.i .i64),(10,.i .i64),(11,.v),(12,.i .i64),(13,.i .i64)]
noncomputable def o9 := ob Try.f63 [.r,.r,.l,.r,.l,.l,.r,.l,.l,.r,.r,.l,.l,.l,.r,.l,.r,.r,.r,.l,.r,.l,.l,.r,.r]
def B9 (P : PT) (N2 : NTy k1 Pr) (N5 : NTy k3 Pr) (N8 : NTy k5 Pr) (x1 : Value) (x2 : Nat) (x5 x6 : Value) (x7 : Int) (x8 : Value) (x9 x10 : Int) (x11 : Value) (x12 x13 : Int) (H : AHeap) : Prop :=
  N8 x1 x2 x5 x6 x7 x8 x9 x10 x11 x12 (IntKind.i64.wrap (x13 + 1)) H
theorem q9 (P : PT) (N2 : NTy k1 Pr) (N5 : NTy k3 Pr) (N8 : NTy k5 Pr) : QB Try.prog T0 92 o9 (En 92 k5 N8) k5 (B9 P N2 N5 N8) := fun _ _ _ _ _ _ _ _ _ _ _ _ _  => by kernel_rfl
abbrev k6 : Sk := [(1,.v),(2,.x),(5,.v),(6,.v),(7,.i .i64),(8,.v),(9,.i .i64),(10,.i .i64),(11,.v),(13,.i .i64)]
noncomputable def o10 := ob Try.f63 [.r,.r,.l,.r,.l,.l,.r,.l,.l,.r,.r,.l,.l,.l,.r,.l,.r,.r,.r,.l,.r,.l,.l,.r,.l,.l,.r,.l]
def B10 (P : PT) (N2 : NTy k1 Pr) (N5 : NTy k3 Pr) (N8 : NTy k5 Pr) (x1 : Value) (x2 : Nat) (x5 x6 : Value) (x7 : Int) (x8 : Value) (x9 x10 : Int) (x11 : Value) (x13 : Int) (H : AHeap) : Prop :=
  idxK x11 x13 1 (fun b1 o2 => ldI .i64 H b1 o2 (fun v3 => B9 P N2 N5 N8 x1 x2 x5 x6 x7 x8 x9 x10 x11 v3 x13 H))
theorem q10 (P : PT) (N2 : NTy k1 Pr) (N5 : NTy k3 Pr) (N8 : NTy k5 Pr) : QB Try.prog T0 92 o10 (En 92 k5 (B9 P N2 N5 N8)) k6 (B10 P N2 N5 N8) := fun _ _ _ _ _ _ _ _ _ _ _ _  => by kernel_rfl
noncomputable def o11 := ob Try.f63 [.r,.r,.l,.r,.l,.l,.r,.l,.l,.r,.r,.l,.l,.l,.r,.l,.r,.r,.r,.l,.r,.l,.l,.r,.l,.l,.l]
def B11 (P : PT) (N2 : NTy k1 Pr) (N5 : NTy k3 Pr) (N8 : NTy k5 Pr) (x1 : Value) (x2 : Nat) (x5 x6 : Value) (x7 : Int) (x8 : Value) (x9 x10 : Int) (x11 : Value) (x12 x13 : Int) (H : AHeap) : Prop :=
  idxK x11 x13 1 (fun b1 o2 => ldI .i64 H b1 o2 (fun v3 => pif ((v3 : Int) != x9) (idxK x11 x13 1 (fun b4 o5 => ldI .i64 H b4 o5 (fun v6 => AC Try.prog T0 109 [x1, (Value.int .i64 v6)] H (fun v7 H8 => asB v7 (fun v9 => pif (!v9) (B10 P N2 N5 N8 x1 x2 x5 x6 x7 x8 x9 x10 x11 x13 H8) (B9 P N2 N5 N8 x1 x2 x5 x6 x7 x8 x9 x10 x11 x12 x13 H8)))))) (B9 P N2 N5 N8 x1 x2 x5 x6 x7 x8 x9 x10 x11 x12 x13 H)))
theorem q11 (P : PT) (N2 : NTy k1 Pr) (N5 : NTy k3 Pr) (N8 : NTy k5 Pr) : QB Try.prog T0 92 o11 (cnd 77 (En 92 k6 (B10 P N2 N5 N8)) (En 92 k5 (B9 P N2 N5 N8))) k5 (B11 P N2 N5 N8) := fun _ _ _ _ _ _ _ _ _ _ _ _ _  => by kernel_rfl
noncomputable def o12 := ob Try.f63 [.r,.r,.l,.r,.l,.l,.r,.l,.l,.r,.r,.l,.l,.l,.r,.l,.r,.r,.r,.l,.r,.l,.l,.l,.l]
def B12 (P : PT) (N2 : NTy k1 Pr) (N5 : NTy k3 Pr) (N8 : NTy k5 Pr) (x1 : Value) (x2 : Nat) (x5 x6 : Value) (x7 : Int) (x8 : Value) (x9 x10 : Int) (x11 : Value) (x12 x13 : Int) (H : AHeap) : Prop :=
  pif (decide ((x13 : Int) < 3)) (B11 P N2 N5 N8 x1 x2 x5 x6 x7 x8 x9 x10 x11 x12 x13 H) (B7 P N2 N5 x1 x2 x5 x6 x7 x8 x10 x12 H)
theorem q12 (P : PT) (N2 : NTy k1 Pr) (N5 : NTy k3 Pr) (N8 : NTy k5 Pr) : QB Try.prog T0 92 o12 (cnd 60 (En 92 k5 (B11 P N2 N5 N8)) (En 92 k4 (B7 P N2 N5))) k5 (B12 P N2 N5 N8) := fun _ _ _ _ _ _ _ _ _ _ _ _ _  => by kernel_rfl
def L8 (P : PT) (N2 : NTy k1 Pr) (N5 : NTy k3 Pr) (x1 : Value) (x2 : Nat) (x5 x6 : Value) (x7 : Int) (x8 : Value) (x9 x10 : Int) (x11 : Value) (x12 x13 : Int) (H : AHeap) : Prop :=
  ∃ (I : NTy k5 Pr) (μ : NTy k5 (AHeap → Nat)), I x1 x2 x5 x6 x7 x8 x9 x10 x11 x12 x13 H ∧ ∀ y1 y2 y5 y6 y7 y8 y9 y10 y11 y12 y13 G, I y1 y2 y5 y6 y7 y8 y9 y10 y11 y12 y13 G → B12 P N2 N5 (fun z1 z2 z5 z6 z7 z8 z9 z10 z11 z12 z13 G' => I z1 z2 z5 z6 z7 z8 z9 z10 z11 z12 z13 G' ∧ μ z1 z2 z5 z6 z7 z8 z9 z10 z11 z12 z13 G' < μ y1 y2 y5 y6 y7 y8 y9 y10 y11 y12 y13 G) y1 y2 y5 y6 y7 y8 y9 y10 y11 y12 y13 G
theorem l8 (P : PT) (N2 : NTy k1 Pr) (N5 : NTy k3 Pr) : LQ k5 (L8 P N2 N5) (B12 P N2 N5) := fun ⟨_,_,_,_,_,_,_,_,_,_,_,_⟩ _ ⟨I, μ, h0, hI⟩ => ⟨apT _ I, apT _ μ, h0, fun ⟨_,_,_,_,_,_,_,_,_,_,_,_⟩ _ h => hI _ _ _ _ _ _ _ _ _ _ _ _  h⟩
abbrev k7 : Sk := [(1,.v),(2,.x),(5,.v),(6,.v),(7,.i .i64),(8,.v),(9,.i .i64),(10,.i .i64),(11,.v),(12,.i .i64)]
noncomputable def o13 := ob Try.f63 [.r,.r,.l,.r,.l,.l,.r,.l,.l,.r,.r,.l,.l,.l,.r,.l,.r,.r,.r,.l,.l]
def B13 (P : PT) (N2 : NTy k1 Pr) (N5 : NTy k3 Pr) (x1 : Value) (x2 : Nat) (x5 x6 : Value) (x7 : Int) (x8 : Value) (x9 x10 : Int) (x11 : Value) (x12 : Int) (H : AHeap) : Prop :=
  L8 P N2 N5 x1 x2 x5 x6 x7 x8 x9 x10 x11 x12 0 H
theorem q13 (P : PT) (N2 : NTy k1 Pr) (N5 : NTy k3 Pr) : QB Try.prog T0 92 o13 (En 92 k5 (L8 P N2 N5)) k7 (B13 P N2 N5) := fun _ _ _ _ _ _ _ _ _ _ _ _  => by kernel_rfl
noncomputable def o14 := ob Try.f63 [.r,.r,.l,.r,.l,.l,.r,.l,.l,.r,.r,.l,.l,.l,.r,.l,.r,.r,.l]
def B14 (P : PT) (N2 : NTy k1 Pr) (N5 : NTy k3 Pr) (x1 : Value) (x2 : Nat) (x5 x6 : Value) (x7 : Int) (x8 : Value) (x9 x10 : Int) (H : AHeap) : Prop :=
  ldI .i64 H x2 0 (fun v1 => ld1 H x2 1 (fun v2 => AC Try.prog T0 110 [(Value.agg ⟨[(Value.int .i64 v1), v2]⟩), (Value.int .i64 x10)] H (fun v3 H4 => B13 P N2 N5 x1 x2 x5 x6 x7 x8 x9 x10 v3 x9 H4)))
theorem q14 (P : PT) (N2 : NTy k1 Pr) (N5 : NTy k3 Pr) : QB Try.prog T0 92 o14 (En 92 k7 (B13 P N2 N5)) k3 (B14 P N2 N5) := fun _ _ _ _ _ _ _ _ _ _  => by kernel_rfl
noncomputable def o15 := ob Try.f63 [.r,.r,.l,.r,.l,.l,.r,.l,.l,.r,.r,.l,.l,.l,.r,.l,.r,.l]
def B15 (P : PT) (N2 : NTy k1 Pr) (N5 : NTy k3 Pr) (x1 : Value) (x2 : Nat) (x5 x6 : Value) (x7 : Int) (x8 : Value) (x9 x10 : Int) (H : AHeap) : Prop :=
  newK H [(Value.int .i64 x9)] 2 (fun b1 H2 => apK T0 2 H2 x8 (Value.slice (some ⟨b1, 0, none⟩) 1 (1 + 1)) (fun v3 H4 => B14 P N2 N5 x1 x2 x5 x6 x7 v3 x9 x10 H4))
theorem q15 (P : PT) (N2 : NTy k1 Pr) (N5 : NTy k3 Pr) : QB Try.prog T0 92 o15 (En 92 k3 (B14 P N2 N5)) k3 (B15 P N2 N5) := fun _ _ _ _ _ _ _ _ _ _  => by kernel_rfl
noncomputable def o16 := ob Try.f63 [.r,.r,.l,.r,.l,.l,.r,.l,.l,.r,.r,.l,.l,.l,.r,.l,.l]
def B16 (P : PT) (N2 : NTy k1 Pr) (N5 : NTy k3 Pr) (x1 : Value) (x2 : Nat) (x5 x6 : Value) (x7 : Int) (x8 : Value) (x9 x10 : Int) (H : AHeap) : Prop :=
  idxK x5 x9 1 (fun b1 o2 => stK H b1 o2 [(Value.bool true)] (fun H3 => B15 P N2 N5 x1 x2 x5 x6 x7 x8 x9 x10 H3))
theorem q16 (P : PT) (N2 : NTy k1 Pr) (N5 : NTy k3 Pr) : QB Try.prog T0 92 o16 (En 92 k3 (B15 P N2 N5)) k3 (B16 P N2 N5) := fun _ _ _ _ _ _ _ _ _ _  => by kernel_rfl
noncomputable def o17 := ob Try.f63 [.r,.r,.l,.r,.l,.l,.r,.l,.l,.r,.r,.l,.l,.l,.l,.l]
def B17 (P : PT) (N2 : NTy k1 Pr) (N5 : NTy k3 Pr) (x1 : Value) (x2 : Nat) (x5 x6 : Value) (x7 : Int) (x8 : Value) (x9 x10 : Int) (H : AHeap) : Prop :=
  idxK x5 x9 1 (fun b1 o2 => ld1 H b1 o2 (fun v4 => asB v4 (fun v3 => pif (!v3) (B16 P N2 N5 x1 x2 x5 x6 x7 x8 x9 x10 H) (B4 P N2 x1 x2 x5 x6 x7 x8 H))))
theorem q17 (P : PT) (N2 : NTy k1 Pr) (N5 : NTy k3 Pr) : QB Try.prog T0 92 o17 (cnd 47 (En 92 k3 (B16 P N2 N5)) (En 92 k2 (B4 P N2))) k3 (B17 P N2 N5) := fun _ _ _ _ _ _ _ _ _ _  => by kernel_rfl
def L5 (P : PT) (N2 : NTy k1 Pr) (x1 : Value) (x2 : Nat) (x5 x6 : Value) (x7 : Int) (x8 : Value) (x9 x10 : Int) (H : AHeap) : Prop :=
  ∃ (I : NTy k3 Pr) (μ : NTy k3 (AHeap → Nat)), I x1 x2 x5 x6 x7 x8 x9 x10 H ∧ ∀ y1 y2 y5 y6 y7 y8 y9 y10 G, I y1 y2 y5 y6 y7 y8 y9 y10 G → B17 P N2 (fun z1 z2 z5 z6 z7 z8 z9 z10 G' => I z1 z2 z5 z6 z7 z8 z9 z10 G' ∧ μ z1 z2 z5 z6 z7 z8 z9 z10 G' < μ y1 y2 y5 y6 y7 y8 y9 y10 G) y1 y2 y5 y6 y7 y8 y9 y10 G
theorem l5 (P : PT) (N2 : NTy k1 Pr) : LQ k3 (L5 P N2) (B17 P N2) := fun ⟨_,_,_,_,_,_,_,_,_⟩ _ ⟨I, μ, h0, hI⟩ => ⟨apT _ I, apT _ μ, h0, fun ⟨_,_,_,_,_,_,_,_,_⟩ _ h => hI _ _ _ _ _ _ _ _ _  h⟩
noncomputable def o18 := ob Try.f63 [.r,.r,.l,.r,.l,.l,.r,.l,.l,.r,.l]
def B18 (P : PT) (N2 : NTy k1 Pr) (x1 : Value) (x2 : Nat) (x5 x6 : Value) (x7 : Int) (H : AHeap) : Prop :=
  ld1 H x2 1 (fun v1 => idxK v1 x7 2 (fun b2 o3 => ldI .i64 H b2 (o3 + 1) (fun v4 => newK H [] 2 (fun b5 H6 => L5 P N2 x1 x2 x5 x6 x7 (Value.slice (some ⟨b5, 0, none⟩) 0 (0 + 1)) x7 v4 H6))))
theorem q18 (P : PT) (N2 : NTy k1 Pr) : QD Try.prog T0 92 o18 [(1, false), (2, false), (3, false), (4, false), (5, false), (6, false), (7, false), (0, false), (8, false), (9, false), (10, false)] (En 92 k3 (L5 P N2)) k1 (B18 P N2) := fun _ _ _ _ _ _ _  => by kernel_rfl
noncomputable def o19 := ob Try.f63 [.r,.r,.l,.r,.l,.l,.r,.l,.l,.l,.l]
def B19 (P : PT) (N2 : NTy k1 Pr) (x1 : Value) (x2 : Nat) (x5 x6 : Value) (x7 : Int) (H : AHeap) : Prop :=
  idxK x5 x7 1 (fun b1 o2 => ld1 H b1 o2 (fun v4 => asB v4 (fun v3 => pif v3 (B3 P N2 x1 x2 x5 x6 x7 H) (AC Try.prog T0 109 [x1, (Value.int .i64 x7)] H (fun v5 H6 => asB v5 (fun v7 => pif v7 (B3 P N2 x1 x2 x5 x6 x7 H6) (B18 P N2 x1 x2 x5 x6 x7 H6)))))))
theorem q19 (P : PT) (N2 : NTy k1 Pr) : QB Try.prog T0 92 o19 (cnd 34 (En 92 k1 (B3 P N2)) (En 92 k1 (B18 P N2))) k1 (B19 P N2) := fun _ _ _ _ _ _ _  => by kernel_rfl
noncomputable def o20 := ob Try.f63 [.r,.r,.l,.r,.l,.l,.l,.l]
def B20 (P : PT) (N2 : NTy k1 Pr) (x1 : Value) (x2 : Nat) (x5 x6 : Value) (x7 : Int) (H : AHeap) : Prop :=
  ld1 H x2 1 (fun v1 => lenK v1 (fun n2 => pif (decide ((x7 : Int) < (n2 : Int))) (B19 P N2 x1 x2 x5 x6 x7 H) (B1 P x6 H)))
theorem q20 (P : PT) (N2 : NTy k1 Pr) : QB Try.prog T0 92 o20 (cnd 23 (En 92 k1 (B19 P N2)) (En 92 k0 (B1 P))) k1 (B20 P N2) := fun _ _ _ _ _ _ _  => by kernel_rfl
def L2 (P : PT) (x1 : Value) (x2 : Nat) (x5 x6 : Value) (x7 : Int) (H : AHeap) : Prop :=
  ∃ (I : NTy k1 Pr) (μ : NTy k1 (AHeap → Nat)), I x1 x2 x5 x6 x7 H ∧ ∀ y1 y2 y5 y6 y7 G, I y1 y2 y5 y6 y7 G → B20 P (fun z1 z2 z5 z6 z7 G' => I z1 z2 z5 z6 z7 G' ∧ μ z1 z2 z5 z6 z7 G' < μ y1 y2 y5 y6 y7 G) y1 y2 y5 y6 y7 G
theorem l2 (P : PT) : LQ k1 (L2 P) (B20 P) := fun ⟨_,_,_,_,_,_⟩ _ ⟨I, μ, h0, hI⟩ => ⟨apT _ I, apT _ μ, h0, fun ⟨_,_,_,_,_,_⟩ _ h => hI _ _ _ _ _ _  h⟩
abbrev k8 : Sk := [(1,.v),(2,.x),(5,.v),(6,.v)]
noncomputable def o21 := ob Try.f63 [.r,.r,.l,.l]
def B21 (P : PT) (x1 : Value) (x2 : Nat) (x5 x6 : Value) (H : AHeap) : Prop :=
  L2 P x1 x2 x5 x6 0 H
theorem q21 (P : PT) : QB Try.prog T0 92 o21 (En 92 k1 (L2 P)) k8 (B21 P) := fun _ _ _ _ _ _  => by kernel_rfl
abbrev k9 : Sk := [(1,.v),(2,.x)]
noncomputable def o22 := ob Try.f63 [.r,.l]
def B22 (P : PT) (x1 : Value) (x2 : Nat) (H : AHeap) : Prop :=
  ld1 H x2 1 (fun v1 => lenK v1 (fun n2 => mkR H 1 4 [(Value.bool false)] (n2 : Int) (n2 : Int) (fun v4 H3 => newK H3 [] 25 (fun b5 H6 => B21 P x1 x2 v4 (Value.slice (some ⟨b5, 0, none⟩) 0 (0 + 1)) H6))))
theorem q22 (P : PT) : QB Try.prog T0 92 o22 (En 92 k8 (B21 P)) k9 (B22 P) := fun _ _ _ _  => by kernel_rfl
abbrev k10 : Sk := [(0,.g [.i,.v]),(1,.v)]
noncomputable def o23 := ob Try.f63 [.l]
def B23 (P : PT) (x0a : Int) (x0b x1 : Value) (H : AHeap) : Prop :=
  newK H [(Value.int .i64 x0a), x0b] 31 (fun b1 H2 => B22 P x1 b1 H2)
theorem q23 (P : PT) : QB Try.prog T0 92 o23 (En 92 k9 (B22 P)) k10 (B23 P) := fun _ _ _ _ _  => by kernel_rfl
noncomputable def code : Code := (.seq (.region 0 ⟨o23⟩ false) (.seq (.region 1 ⟨o22⟩ false) (.seq (.seq (.region 2 ⟨o21⟩ false) (.block 0 (.loop (.seq (.seq (.region 3 ⟨o20⟩ false) (.cond (.tmp 23) .skip (.exit 0))) (.seq (.block 1 (.seq (.seq (.region 5 ⟨o19⟩ false) (.cond (.tmp 34) (.exit 1) .skip)) (.seq (.region 6 ⟨o18⟩ true) (.seq (.block 2 (.loop (.seq (.seq (.region 7 ⟨o17⟩ false) (.cond (.tmp 47) .skip (.exit 2))) (.block 3 (.seq (.region 8 ⟨o16⟩ false) (.seq (.region 9 ⟨o15⟩ false) (.seq (.region 10 ⟨o14⟩ false) (.seq (.seq (.region 11 ⟨o13⟩ false) (.block 4 (.loop (.seq (.seq (.region 12 ⟨o12⟩ false) (.cond (.tmp 60) .skip (.exit 4))) (.seq (.block 5 (.seq (.region 14 ⟨o11⟩ false) (.cond (.tmp 77) (.region 15 ⟨o10⟩ false) .skip))) (.region 13 ⟨o9⟩ false)))))) (.seq (.region 16 ⟨o7⟩ false) (.region 17 ⟨o6⟩ false)))))))))) (.region 18 ⟨o4⟩ false))))) (.region 4 ⟨o3⟩ false)))))) (.seq (.region 19 ⟨o1⟩ false) .ret))))
theorem body : Try.f63.body = some code := by kernel_rfl
theorem main (P : PT) : ∀ env H, (En 92 k10 (B23 P)) env H → AW Try.prog T0 code env H (mkQ (ret P) (fun _ _ _ => False) (ret P)) :=
  (r_seq (rB T0_ok (q23 P)) (r_seq (rB T0_ok (q22 P)) (r_seq (r_seq (rB T0_ok (q21 P)) (r_block (rL (l2 P) (fun N2 => (r_seq (r_seq (rB T0_ok (q20 P N2)) (r_cond rfl r_skip (r_exit (fun _ _ h => h)))) (r_seq (r_block (r_seq (r_seq (rB T0_ok (q19 P N2)) (r_cond rfl (r_exit (fun _ _ h => h)) r_skip)) (r_seq (rD T0_ok mixed [(1, false), (2, false), (3, false), (4, false), (5, false), (6, false), (7, false), (0, false), (8, false), (9, false), (10, false)] (by kernel_rfl) (q18 P N2)) (r_seq (r_block (rL (l5 P N2) (fun N5 => (r_seq (r_seq (rB T0_ok (q17 P N2 N5)) (r_cond rfl r_skip (r_exit (fun _ _ h => h)))) (r_block (r_seq (rB T0_ok (q16 P N2 N5)) (r_seq (rB T0_ok (q15 P N2 N5)) (r_seq (rB T0_ok (q14 P N2 N5)) (r_seq (r_seq (rB T0_ok (q13 P N2 N5)) (r_block (rL (l8 P N2 N5) (fun N8 => (r_seq (r_seq (rB T0_ok (q12 P N2 N5 N8)) (r_cond rfl r_skip (r_exit (fun _ _ h => h)))) (r_seq (r_block (r_seq (rB T0_ok (q11 P N2 N5 N8)) (r_cond rfl (rB T0_ok (q10 P N2 N5 N8)) r_skip))) (rB T0_ok (q9 P N2 N5 N8)))))))) (r_seq (rB T0_ok (q7 P N2 N5)) (rB T0_ok (q6 P N2 N5)))))))))))) (rB T0_ok (q4 P N2)))))) (rB T0_ok (q3 P N2)))))))) (r_seq (rB T0_ok (q1 P)) r_ret))))
theorem ac (P : PT) (x0a : Int) (x0b x1 : Value) (H : AHeap) (h : B23 P x0a x0b x1 H) : AC Try.prog T0 63 [(Value.agg ⟨[(Value.int .i64 x0a), x0b]⟩), x1] H P :=
  r_fn T0_ok (c := code) (n := 92) Try.func63 body (by kernel_rfl) (main P) (En_mk (x0a, x0b, x1, ()) (by kernel_rfl) ⟨by kernel_rfl, by kernel_rfl, trivial⟩ h)

end F63
-- (loop.example/g01329/impl.Graph).isMatching
namespace F64
noncomputable def ret (P : PT) : EP := retE T0 57 Try.f64 P
abbrev k0 : Sk := [(2,.x),(5,.i .u64)]
noncomputable def o1 := ob Try.f64 [.r,.r,.r,.r,.l]
def B1 (P : PT) (x2 : Nat) (x5 : Int) (H : AHeap) : Prop :=
  ldI .i64 H x2 0 (fun v1 => ((0 : Int) ≤ v1) ∧ (P (Value.bool ((x5 : Int) == (IntKind.u64.wrap ((IntKind.u64.wrap (1 * 2 ^ (min (Int.toNat v1) 64))) - 1)))) H))
theorem q1 (P : PT) : QB Try.prog T0 57 o1 (ret P) k0 (B1 P) := fun _ _ _ _  => by kernel_rfl
abbrev k1 : Sk := [(2,.x),(5,.i .u64),(27,.v),(28,.i .i64),(29,.i .i64)]
noncomputable def o3 := ob Try.f64 [.r,.r,.r,.l,.r,.l,.l,.r,.r,.r]
def B3 (P : PT) (N2 : NTy k1 Pr) (x2 : Nat) (x5 : Int) (x27 : Value) (x28 x29 : Int) (H : AHeap) : Prop :=
  N2 x2 x5 x27 x28 (IntKind.i64.wrap (x29 + 1)) H
theorem q3 (P : PT) (N2 : NTy k1 Pr) : QB Try.prog T0 57 o3 (En 57 k1 N2) k1 (B3 P N2) := fun _ _ _ _ _ _ _  => by kernel_rfl
abbrev k2 : Sk := [(2,.x),(5,.i .u64),(7,.i .i64),(27,.v),(28,.i .i64),(29,.i .i64)]
noncomputable def o4 := ob Try.f64 [.r,.r,.r,.l,.r,.l,.l,.r,.r,.l,.l,.r]
def B4 (P : PT) (N2 : NTy k1 Pr) (x2 : Nat) (x5 x7 : Int) (x27 : Value) (x28 x29 : Int) (H : AHeap) : Prop :=
  ld1 H x2 1 (fun v1 => idxK v1 x7 2 (fun b2 o3 => ldI .i64 H b2 o3 (fun v4 => ((0 : Int) ≤ v4) ∧ (ld1 H x2 1 (fun v5 => idxK v5 x7 2 (fun b6 o7 => ldI .i64 H b6 (o7 + 1) (fun v8 => ((0 : Int) ≤ v8) ∧ (B3 P N2 x2 (IntKind.u64.wrap (BitVec.ofInt 64 x5 ||| BitVec.ofInt 64 (IntKind.u64.wrap (BitVec.ofInt 64 (IntKind.u64.wrap (1 * 2 ^ (min (Int.toNat v4) 64))) ||| BitVec.ofInt 64 (IntKind.u64.wrap (1 * 2 ^ (min (Int.toNat v8) 64)))).toNat)).toNat) x27 x28 x29 H))))))))
theorem q4 (P : PT) (N2 : NTy k1 Pr) : QD Try.prog T0 57 o4 [(0, false), (1, false), (2, false), (3, false), (4, false), (5, false), (6, false), (7, false), (8, false), (9, false), (10, false), (11, false), (12, false), (13, false), (14, false), (15, false), (16, false), (17, false)] (En 57 k1 (B3 P N2)) k2 (B4 P N2) := fun _ _ _ _ _ _ _ _  => by kernel_rfl
noncomputable def o5 := ob Try.f64 [.r,.r,.r,.l,.r,.l,.l,.r,.r,.l,.l,.l]
def B5 (P : PT) (N2 : NTy k1 Pr) (x2 : Nat) (x5 : Int) (x27 : Value) (x28 x29 : Int) (H : AHeap) : Prop :=
  idxK x27 x29 1 (fun b1 o2 => ldI .i64 H b1 o2 (fun v3 => B4 P N2 x2 x5 v3 x27 x28 x29 H))
theorem q5 (P : PT) (N2 : NTy k1 Pr) : QB Try.prog T0 57 o5 (En 57 k2 (B4 P N2)) k1 (B5 P N2) := fun _ _ _ _ _ _ _  => by kernel_rfl
noncomputable def o6 := ob Try.f64 [.r,.r,.r,.l,.r,.l,.l,.l]
def B6 (P : PT) (N2 : NTy k1 Pr) (x2 : Nat) (x5 : Int) (x27 : Value) (x28 x29 : Int) (H : AHeap) : Prop :=
  pif (decide ((x29 : Int) < x28)) (B5 P N2 x2 x5 x27 x28 x29 H) (B1 P x2 x5 H)
theorem q6 (P : PT) (N2 : NTy k1 Pr) : QB Try.prog T0 57 o6 (cnd 30 (En 57 k1 (B5 P N2)) (En 57 k0 (B1 P))) k1 (B6 P N2) := fun _ _ _ _ _ _ _  => by kernel_rfl
def L2 (P : PT) (x2 : Nat) (x5 : Int) (x27 : Value) (x28 x29 : Int) (H : AHeap) : Prop :=
  ∃ (I : NTy k1 Pr) (μ : NTy k1 (AHeap → Nat)), I x2 x5 x27 x28 x29 H ∧ ∀ y2 y5 y27 y28 y29 G, I y2 y5 y27 y28 y29 G → B6 P (fun z2 z5 z27 z28 z29 G' => I z2 z5 z27 z28 z29 G' ∧ μ z2 z5 z27 z28 z29 G' < μ y2 y5 y27 y28 y29 G) y2 y5 y27 y28 y29 G
theorem l2 (P : PT) : LQ k1 (L2 P) (B6 P) := fun ⟨_,_,_,_,_,_⟩ _ ⟨I, μ, h0, hI⟩ => ⟨apT _ I, apT _ μ, h0, fun ⟨_,_,_,_,_,_⟩ _ h => hI _ _ _ _ _ _  h⟩
abbrev k3 : Sk := [(1,.v),(2,.x),(5,.i .u64)]
noncomputable def o7 := ob Try.f64 [.r,.r,.r,.l,.l]
def B7 (P : PT) (x1 : Value) (x2 : Nat) (x5 : Int) (H : AHeap) : Prop :=
  lenK x1 (fun n1 => L2 P x2 x5 x1 (n1 : Int) 0 H)
theorem q7 (P : PT) : QB Try.prog T0 57 o7 (En 57 k1 (L2 P)) k3 (B7 P) := fun _ _ _ _ _  => by kernel_rfl
abbrev k4 : Sk := [(1,.v),(2,.x)]
noncomputable def o8 := ob Try.f64 [.r,.r,.l]
def B8 (P : PT) (x1 : Value) (x2 : Nat) (H : AHeap) : Prop :=
  B7 P x1 x2 0 H
theorem q8 (P : PT) : QB Try.prog T0 57 o8 (En 57 k3 (B7 P)) k4 (B8 P) := fun _ _ _ _  => by kernel_rfl
abbrev k5 : Sk := []
noncomputable def o9 := ob Try.f64 [.r,.l,.r,.l,.l]
def B9 (P : PT) (H : AHeap) : Prop :=
  P (Value.bool false) H
theorem q9 (P : PT) : QB Try.prog T0 57 o9 (ret P) k5 (B9 P) := fun _ _  => by kernel_rfl
noncomputable def o10 := ob Try.f64 [.r,.l,.l]
def B10 (P : PT) (x1 : Value) (x2 : Nat) (H : AHeap) : Prop :=
  ldI .i64 H x2 0 (fun v1 => ld1 H x2 1 (fun v2 => AC Try.prog T0 77 [(Value.agg ⟨[(Value.int .i64 v1), v2]⟩)] H (fun v3 H4 => asB v3 (fun v5 => pif (!v5) (B9 P H4) (ld1 H4 x2 1 (fun v6 => AC Try.prog T0 44 [v6] H4 (fun v7 H8 => asI .i64 v7 (fun v9 => AC Try.prog T0 88 [x1, (Value.int .i64 v9)] H8 (fun v10 H11 => asB v10 (fun v12 => pif (!v12) (B9 P H11) (ldI .i64 H11 x2 0 (fun v13 => AC Try.prog T0 112 [x1] H11 (fun v14 H15 => asI .i64 v14 (fun v16 => (AHeap.le H11 H15) ∧ (pif ((v16 : Int) != (IntKind.i64.wrap (Int.tdiv v13 2))) (B9 P H15) (B8 P x1 x2 H15))))))))))))))))
theorem q10 (P : PT) : QD Try.prog T0 57 o10 [(0, false), (1, false), (2, false), (3, false), (4, false), (5, false), (6, false), (7, false), (8, false), (9, false), (10, false), (11, false), (12, false), (14, false), (15, false), (16, false), (13, true), (17, false), (18, false)] (cnd 26 (En 57 k5 (B9 P)) (En 57 k4 (B8 P))) k4 (B10 P) := fun _ _ _ _  => by kernel_rfl
abbrev k6 : Sk := [(0,.g [.i,.v]),(1,.v)]
noncomputable def o11 := ob Try.f64 [.l]
def B11 (P : PT) (x0a : Int) (x0b x1 : Value) (H : AHeap) : Prop :=
  newK H [(Value.int .i64 x0a), x0b] 31 (fun b1 H2 => B10 P x1 b1 H2)
theorem q11 (P : PT) : QB Try.prog T0 57 o11 (En 57 k4 (B10 P)) k6 (B11 P) := fun _ _ _ _ _  => by kernel_rfl
noncomputable def code : Code := (.seq (.region 0 ⟨o11⟩ false) (.seq (.seq (.region 1 ⟨o10⟩ true) (.cond (.tmp 26) (.seq (.region 2 ⟨o9⟩ false) .ret) .skip)) (.seq (.region 3 ⟨o8⟩ false) (.seq (.seq (.region 4 ⟨o7⟩ false) (.block 0 (.loop (.seq (.region 5 ⟨o6⟩ false) (.seq (.cond (.tmp 30) .skip (.exit 0)) (.seq (.block 1 (.seq (.region 6 ⟨o5⟩ false) (.region 7 ⟨o4⟩ true))) (.region 8 ⟨o3⟩ false))))))) (.seq (.region 9 ⟨o1⟩ false) .ret)))))
theorem body : Try.f64.body = some code := by kernel_rfl
theorem main (P : PT) : ∀ env H, (En 57 k6 (B11 P)) env H → AW Try.prog T0 code env H (mkQ (ret P) (fun _ _ _ => False) (ret P)) :=
  (r_seq (rB T0_ok (q11 P)) (r_seq (r_seq (rD T0_ok mixed [(0, false), (1, false), (2, false), (3, false), (4, false), (5, false), (6, false), (7, false), (8, false), (9, false), (10, false), (11, false), (12, false), (14, false), (15, false), (16, false), (13, true), (17, false), (18, false)] (by kernel_rfl) (q10 P)) (r_cond rfl (r_seq (rB T0_ok (q9 P)) r_ret) r_skip)) (r_seq (rB T0_ok (q8 P)) (r_seq (r_seq (rB T0_ok (q7 P)) (r_block (rL (l2 P) (fun N2 => (r_seq (rB T0_ok (q6 P N2)) (r_seq (r_cond rfl r_skip (r_exit (fun _ _ h => h))) (r_seq (r_block (r_seq (rB T0_ok (q5 P N2)) (rD T0_ok mixed [(0, false), (1, false), (2, false), (3, false), (4, false), (5, false), (6, false), (7, false), (8, false), (9, false), (10, false), (11, false), (12, false), (13, false), (14, false), (15, false), (16, false), (17, false)] (by kernel_rfl) (q4 P N2)))) (rB T0_ok (q3 P N2))))))))) (r_seq (rB T0_ok (q1 P)) r_ret)))))
theorem ac (P : PT) (x0a : Int) (x0b x1 : Value) (H : AHeap) (h : B11 P x0a x0b x1 H) : AC Try.prog T0 64 [(Value.agg ⟨[(Value.int .i64 x0a), x0b]⟩), x1] H P :=
  r_fn T0_ok (c := code) (n := 57) Try.func64 body (by kernel_rfl) (main P) (En_mk (x0a, x0b, x1, ()) (by kernel_rfl) ⟨by kernel_rfl, by kernel_rfl, trivial⟩ h)

end F64
-- (loop.example/g01329/impl.Graph).left
namespace F65
noncomputable def ret (P : PT) : EP := retE T0 11 Try.f65 P
abbrev k0 : Sk := [(1,.i .u64),(2,.x)]
noncomputable def o1 := ob Try.f65 [.r,.l]
def B1 (P : PT) (x1 : Int) (x2 : Nat) (H : AHeap) : Prop :=
  ldI .i64 H x2 0 (fun v1 => ld1 H x2 1 (fun v2 => ldI .i64 H x2 0 (fun v3 => ld1 H x2 1 (fun v4 => AC Try.prog T0 114 [(Value.agg ⟨[(Value.int .i64 v3), v4]⟩)] H (fun v5 H6 => asI .u64 v5 (fun v7 => (AHeap.le H H6) ∧ (AC Try.prog T0 113 [(Value.agg ⟨[(Value.int .i64 v1), v2]⟩), (Value.int .u64 (IntKind.u64.wrap (BitVec.ofInt 64 v7 &&& ~~~(BitVec.ofInt 64 x1)).toNat))] H6 (fun v8 H9 => P v8 H9))))))))
theorem q1 (P : PT) : QD Try.prog T0 11 o1 [(0, false), (1, false), (3, false), (2, true), (4, false), (5, false), (6, false)] (ret P) k0 (B1 P) := fun _ _ _ _  => by kernel_rfl
abbrev k1 : Sk := [(0,.g [.i,.v]),(1,.i .u64)]
noncomputable def o2 := ob Try.f65 [.l]
def B2 (P : PT) (x0a : Int) (x0b : Value) (x1 : Int) (H : AHeap) : Prop :=
  newK H [(Value.int .i64 x0a), x0b] 31 (fun b1 H2 => B1 P x1 b1 H2)
theorem q2 (P : PT) : QB Try.prog T0 11 o2 (En 11 k0 (B1 P)) k1 (B2 P) := fun _ _ _ _ _  => by kernel_rfl
noncomputable def code : Code := (.seq (.region 0 ⟨o2⟩ false) (.seq (.region 1 ⟨o1⟩ true) .ret))
theorem body : Try.f65.body = some code := by kernel_rfl
theorem main (P : PT) : ∀ env H, (En 11 k1 (B2 P)) env H → AW Try.prog T0 code env H (mkQ (ret P) (fun _ _ _ => False) (ret P)) :=
  (r_seq (rB T0_ok (q2 P)) (r_seq (rD T0_ok mixed [(0, false), (1, false), (3, false), (2, true), (4, false), (5, false), (6, false)] (by kernel_rfl) (q1 P)) r_ret))
theorem ac (P : PT) (x0a : Int) (x0b : Value) (x1 : Int) (H : AHeap) (h : B2 P x0a x0b x1 H) : AC Try.prog T0 65 [(Value.agg ⟨[(Value.int .i64 x0a), x0b]⟩), (Value.int .u64 x1)] H P :=
  r_fn T0_ok (c := code) (n := 11) Try.func65 body (by kernel_rfl) (main P) (En_mk (x0a, x0b, x1, ()) (by kernel_rfl) ⟨by kernel_rfl, by kernel_rfl, trivial⟩ h)

end F65
-- (loop.example/g01329/impl.set).size
namespace F66
noncomputable def ret (P : PT) : EP := retE T0 5 Try.f66 P
abbrev k0 : Sk := [(0,.i .u64)]
noncomputable def o1 := ob Try.f66 [.r,.l]
def B1 (P : PT) (x0 : Int) (H : AHeap) : Prop :=
  AC Try.prog T0 115 [(Value.int .u64 x0)] H (fun v1 H2 => asI .i64 v1 (fun v3 => P (Value.int .i64 v3) H2))
theorem q1 (P : PT) : QB Try.prog T0 5 o1 (ret P) k0 (B1 P) := fun _ _ _  => by kernel_rfl
noncomputable def o2 := ob Try.f66 [.l]
def B2 (P : PT) (x0 : Int) (H : AHeap) : Prop :=
  B1 P x0 H
theorem q2 (P : PT) : QB Try.prog T0 5 o2 (En 5 k0 (B1 P)) k0 (B2 P) := fun _ _ _  => by kernel_rfl
noncomputable def code : Code := (.seq (.region 0 ⟨o2⟩ false) (.seq (.region 1 ⟨o1⟩ false) .ret))
theorem body : Try.f66.body = some code := by kernel_rfl
theorem main (P : PT) : ∀ env H, (En 5 k0 (B2 P)) env H → AW Try.prog T0 code env H (mkQ (ret P) (fun _ _ _ => False) (ret P)) :=
  (r_seq (rB T0_ok (q2 P)) (r_seq (rB T0_ok (q1 P)) r_ret))
theorem ac (P : PT) (x0 : Int) (H : AHeap) (h : B2 P x0 H) : AC Try.prog T0 66 [(Value.int .u64 x0)] H P :=
  r_fn T0_ok (c := code) (n := 5) Try.func66 body (by kernel_rfl) (main P) (En_mk (x0, ()) (by kernel_rfl) ⟨by kernel_rfl, trivial⟩ h)

end F66
-- slices.Sort[[]int64,int64]
namespace F67
noncomputable def ret (P : PT) : EP := retE T0 11 Try.f67 P
abbrev k0 : Sk := [(0,.v),(2,.i .i64)]
noncomputable def o1 := ob Try.f67 [.r]
def B1 (P : PT) (x0 : Value) (x2 : Int) (H : AHeap) : Prop :=
  AC Try.prog T0 117 [(Value.int .u64 (IntKind.u64.wrap x2))] H (fun v1 H2 => asI .i64 v1 (fun v3 => AC Try.prog T0 116 [x0, (Value.int .i64 0), (Value.int .i64 x2), (Value.int .i64 v3)] H2 (fun v4 H5 => asTup v4 (fun l6 => P (Value.tuple ⟨[]⟩) H5))))
theorem q1 (P : PT) : QB Try.prog T0 11 o1 (ret P) k0 (B1 P) := fun _ _ _ _  => by kernel_rfl
abbrev k1 : Sk := [(0,.v)]
noncomputable def o2 := ob Try.f67 [.l]
def B2 (P : PT) (x0 : Value) (H : AHeap) : Prop :=
  lenK x0 (fun n1 => B1 P x0 (n1 : Int) H)
theorem q2 (P : PT) : QB Try.prog T0 11 o2 (En 11 k0 (B1 P)) k1 (B2 P) := fun _ _ _  => by kernel_rfl
noncomputable def code : Code := (.seq (.region 0 ⟨o2⟩ false) (.region 1 ⟨o1⟩ false))
theorem body : Try.f67.body = some code := by kernel_rfl
theorem main (P : PT) : ∀ env H, (En 11 k1 (B2 P)) env H → AW Try.prog T0 code env H (mkQ (ret P) (fun _ _ _ => False) (ret P)) :=
  (r_seq (rB T0_ok (q2 P)) (rB T0_ok (q1 P)))
theorem ac (P : PT) (x0 : Value) (H : AHeap) (h : B2 P x0 H) : AC Try.prog T0 67 [x0] H P :=
  r_fn T0_ok (c := code) (n := 11) Try.func67 body (by kernel_rfl) (main P) (En_mk (x0, ()) (by kernel_rfl) ⟨by kernel_rfl, trivial⟩ h)

end F67
-- loop.example/g01329/laws.markEdgeS
namespace F68
noncomputable def ret (P : PT) : EP := retE T0 26 Try.f68 P
abbrev k0 : Sk := [(1,.i .i64)]
noncomputable def o1 := ob Try.f68 [.r,.r,.l]
def B1 (P : PT) (x1 : Int) (H : AHeap) : Prop :=
  P (Value.int .i64 x1) H
theorem q1 (P : PT) : QB Try.prog T0 26 o1 (ret P) k0 (B1 P) := fun _ _ _  => by kernel_rfl
abbrev k1 : Sk := [(0,.v),(1,.i .i64),(5,.i .i64)]
noncomputable def o3 := ob Try.f68 [.r,.l,.r,.l,.l,.r,.r]
def B3 (P : PT) (N2 : NTy k1 Pr) (x0 : Value) (x1 x5 : Int) (H : AHeap) : Prop :=
  N2 x0 x1 (IntKind.i64.wrap (x5 + 1)) H
theorem q3 (P : PT) (N2 : NTy k1 Pr) : QB Try.prog T0 26 o3 (En 26 k1 N2) k1 (B3 P N2) := fun _ _ _ _ _  => by kernel_rfl
abbrev k2 : Sk := [(0,.v),(1,.i .i64),(5,.i .i64),(6,.i .i64)]
noncomputable def o5 := ob Try.f68 [.r,.l,.r,.l,.l,.r,.l,.l,.r,.l,.l,.r,.r]
def B5 (P : PT) (N2 : NTy k1 Pr) (N4 : NTy k2 Pr) (x0 : Value) (x1 x5 x6 : Int) (H : AHeap) : Prop :=
  N4 x0 x1 x5 (IntKind.i64.wrap (x6 + 1)) H
theorem q5 (P : PT) (N2 : NTy k1 Pr) (N4 : NTy k2 Pr) : QB Try.prog T0 26 o5 (En 26 k2 N4) k2 (B5 P N2 N4) := fun _ _ _ _ _ _  => by kernel_rfl
noncomputable def o6 := ob Try.f68 [.r,.l,.r,.l,.l,.r,.l,.l,.r,.l,.l,.r,.l,.l,.r]
def B6 (P : PT) (N2 : NTy k1 Pr) (N4 : NTy k2 Pr) (x0 : Value) (x1 x5 x6 : Int) (H : AHeap) : Prop :=
  B5 P N2 N4 x0 (IntKind.i64.wrap (x1 + 1)) x5 x6 H
theorem q6 (P : PT) (N2 : NTy k1 Pr) (N4 : NTy k2 Pr) : QB Try.prog T0 26 o6 (En 26 k2 (B5 P N2 N4)) k2 (B6 P N2 N4) := fun _ _ _ _ _ _  => by kernel_rfl
noncomputable def o7 := ob Try.f68 [.r,.l,.r,.l,.l,.r,.l,.l,.r,.l,.l,.r,.l,.l,.l]
def B7 (P : PT) (N2 : NTy k1 Pr) (N4 : NTy k2 Pr) (x0 : Value) (x1 x5 x6 : Int) (H : AHeap) : Prop :=
  idxK x0 x5 2 (fun b1 o2 => bndK x6 2 (stK H b1 (o2 + Int.toNat x6 * 1) [(Value.int .i64 x1)] (fun H3 => B6 P N2 N4 x0 x1 x5 x6 H3)))
theorem q7 (P : PT) (N2 : NTy k1 Pr) (N4 : NTy k2 Pr) : QB Try.prog T0 26 o7 (En 26 k2 (B6 P N2 N4)) k2 (B7 P N2 N4) := fun _ _ _ _ _ _  => by kernel_rfl
noncomputable def o8 := ob Try.f68 [.r,.l,.r,.l,.l,.r,.l,.l,.r,.l,.l,.l,.l]
def B8 (P : PT) (N2 : NTy k1 Pr) (N4 : NTy k2 Pr) (x0 : Value) (x1 x5 x6 : Int) (H : AHeap) : Prop :=
  pif (decide ((x6 : Int) < 2)) (B7 P N2 N4 x0 x1 x5 x6 H) (B3 P N2 x0 x1 x5 H)
theorem q8 (P : PT) (N2 : NTy k1 Pr) (N4 : NTy k2 Pr) : QB Try.prog T0 26 o8 (cnd 14 (En 26 k2 (B7 P N2 N4)) (En 26 k1 (B3 P N2))) k2 (B8 P N2 N4) := fun _ _ _ _ _ _  => by kernel_rfl
def L4 (P : PT) (N2 : NTy k1 Pr) (x0 : Value) (x1 x5 x6 : Int) (H : AHeap) : Prop :=
  ∃ (I : NTy k2 Pr) (μ : NTy k2 (AHeap → Nat)), I x0 x1 x5 x6 H ∧ ∀ y0 y1 y5 y6 G, I y0 y1 y5 y6 G → B8 P N2 (fun z0 z1 z5 z6 G' => I z0 z1 z5 z6 G' ∧ μ z0 z1 z5 z6 G' < μ y0 y1 y5 y6 G) y0 y1 y5 y6 G
theorem l4 (P : PT) (N2 : NTy k1 Pr) : LQ k2 (L4 P N2) (B8 P N2) := fun ⟨_,_,_,_,_⟩ _ ⟨I, μ, h0, hI⟩ => ⟨apT _ I, apT _ μ, h0, fun ⟨_,_,_,_,_⟩ _ h => hI _ _ _ _ _  h⟩
noncomputable def o9 := ob Try.f68 [.r,.l,.r,.l,.l,.r,.l,.l,.l]
def B9 (P : PT) (N2 : NTy k1 Pr) (x0 : Value) (x1 x5 : Int) (H : AHeap) : Prop :=
  L4 P N2 x0 x1 x5 0 H
theorem q9 (P : PT) (N2 : NTy k1 Pr) : QB Try.prog T0 26 o9 (En 26 k2 (L4 P N2)) k1 (B9 P N2) := fun _ _ _ _ _  => by kernel_rfl
noncomputable def o10 := ob Try.f68 [.r,.l,.r,.l,.l,.l,.l]
def B10 (P : PT) (N2 : NTy k1 Pr) (x0 : Value) (x1 x5 : Int) (H : AHeap) : Prop :=
  lenK x0 (fun n1 => pif (decide ((x5 : Int) < (n1 : Int))) (B9 P N2 x0 x1 x5 H) (B1 P x1 H))
theorem q10 (P : PT) (N2 : NTy k1 Pr) : QB Try.prog T0 26 o10 (cnd 10 (En 26 k1 (B9 P N2)) (En 26 k0 (B1 P))) k1 (B10 P N2) := fun _ _ _ _ _  => by kernel_rfl
def L2 (P : PT) (x0 : Value) (x1 x5 : Int) (H : AHeap) : Prop :=
  ∃ (I : NTy k1 Pr) (μ : NTy k1 (AHeap → Nat)), I x0 x1 x5 H ∧ ∀ y0 y1 y5 G, I y0 y1 y5 G → B10 P (fun z0 z1 z5 G' => I z0 z1 z5 G' ∧ μ z0 z1 z5 G' < μ y0 y1 y5 G) y0 y1 y5 G
theorem l2 (P : PT) : LQ k1 (L2 P) (B10 P) := fun ⟨_,_,_,_⟩ _ ⟨I, μ, h0, hI⟩ => ⟨apT _ I, apT _ μ, h0, fun ⟨_,_,_,_⟩ _ h => hI _ _ _ _  h⟩
abbrev k3 : Sk := [(0,.v),(1,.i .i64)]
noncomputable def o11 := ob Try.f68 [.r,.l,.l]
def B11 (P : PT) (x0 : Value) (x1 : Int) (H : AHeap) : Prop :=
  L2 P x0 x1 0 H
theorem q11 (P : PT) : QB Try.prog T0 26 o11 (En 26 k1 (L2 P)) k3 (B11 P) := fun _ _ _ _  => by kernel_rfl
noncomputable def o12 := ob Try.f68 [.l]
def B12 (P : PT) (x0 : Value) (x1 : Int) (H : AHeap) : Prop :=
  B11 P x0 x1 H
theorem q12 (P : PT) : QB Try.prog T0 26 o12 (En 26 k3 (B11 P)) k3 (B12 P) := fun _ _ _ _  => by kernel_rfl
noncomputable def code : Code := (.seq (.region 0 ⟨o12⟩ false) (.seq (.seq (.region 1 ⟨o11⟩ false) (.block 0 (.loop (.seq (.seq (.region 2 ⟨o10⟩ false) (.cond (.tmp 10) .skip (.exit 0))) (.seq (.block 1 (.seq (.region 4 ⟨o9⟩ false) (.block 2 (.loop (.seq (.seq (.region 5 ⟨o8⟩ false) (.cond (.tmp 14) .skip (.exit 2))) (.seq (.block 3 (.seq (.region 7 ⟨o7⟩ false) (.region 8 ⟨o6⟩ false))) (.region 6 ⟨o5⟩ false))))))) (.region 3 ⟨o3⟩ false)))))) (.seq (.region 9 ⟨o1⟩ false) .ret)))
theorem body : Try.f68.body = some code := by kernel_rfl
theorem main (P : PT) : ∀ env H, (En 26 k3 (B12 P)) env H → AW Try.prog T0 code env H (mkQ (ret P) (fun _ _ _ => False) (ret P)) :=
  (r_seq (rB T0_ok (q12 P)) (r_seq (r_seq (rB T0_ok (q11 P)) (r_block (rL (l2 P) (fun N2 => (r_seq (r_seq (rB T0_ok (q10 P N2)) (r_cond rfl r_skip (r_exit (fun _ _ h => h)))) (r_seq (r_block (r_seq (rB T0_ok (q9 P N2)) (r_block (rL (l4 P N2) (fun N4 => (r_seq (r_seq (rB T0_ok (q8 P N2 N4)) (r_cond rfl r_skip (r_exit (fun _ _ h => h)))) (r_seq (r_block (r_seq (rB T0_ok (q7 P N2 N4)) (rB T0_ok (q6 P N2 N4)))) (rB T0_ok (q5 P N2 N4))))))))) (rB T0_ok (q3 P N2)))))))) (r_seq (rB T0_ok (q1 P)) r_ret)))
theorem ac (P : PT) (x0 : Value) (x1 : Int) (H : AHeap) (h : B12 P x0 x1 H) : AC Try.prog T0 68 [x0, (Value.int .i64 x1)] H P :=
  r_fn T0_ok (c := code) (n := 26) Try.func68 body (by kernel_rfl) (main P) (En_mk (x0, x1, ()) (by kernel_rfl) ⟨by kernel_rfl, by kernel_rfl, trivial⟩ h)

end F68
-- loop.example/g01329/spec.l01Is
namespace F73
noncomputable def ret (P : PT) : EP := retE T0 56 Try.f73 P
abbrev k0 : Sk := []
noncomputable def o1 := ob Try.f73 [.r,.r,.r,.l]
def B1 (P : PT) (H : AHeap) : Prop :=
  P (Value.bool true) H
theorem q1 (P : PT) : QB Try.prog T0 56 o1 (ret P) k0 (B1 P) := fun _ _  => by kernel_rfl
abbrev k1 : Sk := [(1,.x),(3,.i .i64)]
noncomputable def o3 := ob Try.f73 [.r,.r,.l,.r,.l,.l,.r,.r]
def B3 (P : PT) (N2 : NTy k1 Pr) (x1 : Nat) (x3 : Int) (H : AHeap) : Prop :=
  N2 x1 (IntKind.i64.wrap (x3 + 1)) H
theorem q3 (P : PT) (N2 : NTy k1 Pr) : QB Try.prog T0 56 o3 (En 56 k1 N2) k1 (B3 P N2) := fun _ _ _ _  => by kernel_rfl
noncomputable def o4 := ob Try.f73 [.r,.r,.l,.r,.l,.l,.r,.l,.l,.r,.l,.l]
def B4 (P : PT) (N2 : NTy k1 Pr) (H : AHeap) : Prop :=
  P (Value.bool false) H
theorem q4 (P : PT) (N2 : NTy k1 Pr) : QB Try.prog T0 56 o4 (ret P) k0 (B4 P N2) := fun _ _  => by kernel_rfl
noncomputable def o5 := ob Try.f73 [.r,.r,.l,.r,.l,.l,.r,.l,.l,.l]
def B5 (P : PT) (N2 : NTy k1 Pr) (x1 : Nat) (x3 : Int) (H : AHeap) : Prop :=
  ld1 H x1 1 (fun v1 => idxK v1 x3 2 (fun b2 o3 => ldI .i64 H b2 o3 (fun v4 => ld1 H x1 1 (fun v5 => idxK v5 x3 2 (fun b6 o7 => ldI .i64 H b6 (o7 + 1) (fun v8 => pif (decide ((v4 : Int) > v8)) (B4 P N2 H) (pif (decide ((x3 : Int) > 0)) (ld1 H x1 1 (fun v9 => idxK v9 x3 2 (fun b10 o11 => ldI .i64 H b10 o11 (fun v12 => ldI .i64 H b10 (o11 + 1) (fun v13 => ld1 H x1 1 (fun v14 => idxK v14 (IntKind.i64.wrap (x3 - 1)) 2 (fun b15 o16 => ldI .i64 H b15 o16 (fun v17 => ldI .i64 H b15 (o16 + 1) (fun v18 => AC Try.prog T0 129 [(Value.agg ⟨[(Value.int .i64 v12), (Value.int .i64 v13)]⟩), (Value.agg ⟨[(Value.int .i64 v17), (Value.int .i64 v18)]⟩)] H (fun v19 H20 => asB v19 (fun v21 => pif v21 (B4 P N2 H20) (B3 P N2 x1 x3 H20)))))))))))) (B3 P N2 x1 x3 H))))))))
theorem q5 (P : PT) (N2 : NTy k1 Pr) : QD Try.prog T0 56 o5 [(0, false), (1, false), (2, false), (3, false), (4, false), (5, false), (6, false), (7, false), (8, false), (9, false), (10, false), (11, false), (12, false), (13, false), (14, false), (15, false), (16, false), (17, false), (18, false), (19, false), (20, false), (21, false), (22, false), (23, false), (24, false), (25, false), (26, false), (27, false), (28, false), (29, false), (30, false)] (cnd 55 (En 56 k0 (B4 P N2)) (En 56 k1 (B3 P N2))) k1 (B5 P N2) := fun _ _ _ _  => by kernel_rfl
noncomputable def o6 := ob Try.f73 [.r,.r,.l,.r,.l,.l,.l,.l]
def B6 (P : PT) (N2 : NTy k1 Pr) (x1 : Nat) (x3 : Int) (H : AHeap) : Prop :=
  ld1 H x1 1 (fun v1 => lenK v1 (fun n2 => pif (decide ((x3 : Int) < (n2 : Int))) (B5 P N2 x1 x3 H) (B1 P H)))
theorem q6 (P : PT) (N2 : NTy k1 Pr) : QB Try.prog T0 56 o6 (cnd 22 (En 56 k1 (B5 P N2)) (En 56 k0 (B1 P))) k1 (B6 P N2) := fun _ _ _ _  => by kernel_rfl
def L2 (P : PT) (x1 : Nat) (x3 : Int) (H : AHeap) : Prop :=
  ∃ (I : NTy k1 Pr) (μ : NTy k1 (AHeap → Nat)), I x1 x3 H ∧ ∀ y1 y3 G, I y1 y3 G → B6 P (fun z1 z3 G' => I z1 z3 G' ∧ μ z1 z3 G' < μ y1 y3 G) y1 y3 G
theorem l2 (P : PT) : LQ k1 (L2 P) (B6 P) := fun ⟨_,_,_⟩ _ ⟨I, μ, h0, hI⟩ => ⟨apT _ I, apT _ μ, h0, fun ⟨_,_,_⟩ _ h => hI _ _ _  h⟩
abbrev k2 : Sk := [(1,.x)]
noncomputable def o7 := ob Try.f73 [.r,.r,.l,.l]
def B7 (P : PT) (x1 : Nat) (H : AHeap) : Prop :=
  L2 P x1 0 H
theorem q7 (P : PT) : QB Try.prog T0 56 o7 (En 56 k1 (L2 P)) k2 (B7 P) := fun _ _ _  => by kernel_rfl
noncomputable def o8 := ob Try.f73 [.r,.l,.r,.l,.l]
def B8 (P : PT) (H : AHeap) : Prop :=
  P (Value.bool false) H
theorem q8 (P : PT) : QB Try.prog T0 56 o8 (ret P) k0 (B8 P) := fun _ _  => by kernel_rfl
noncomputable def o9 := ob Try.f73 [.r,.l,.l]
def B9 (P : PT) (x1 : Nat) (H : AHeap) : Prop :=
  ldI .i64 H x1 0 (fun v1 => ld1 H x1 1 (fun v2 => AC Try.prog T0 127 [(Value.int .i64 v1), v2] H (fun v3 H4 => asI .i64 v3 (fun v5 => pif ((v5 : Int) != 0) (B8 P H4) (ldI .i64 H4 x1 0 (fun v6 => ld1 H4 x1 1 (fun v7 => AC Try.prog T0 128 [(Value.int .i64 v6), v7] H4 (fun v8 H9 => asB v8 (fun v10 => pif (!v10) (B8 P H9) (B7 P x1 H9))))))))))
theorem q9 (P : PT) : QB Try.prog T0 56 o9 (cnd 17 (En 56 k0 (B8 P)) (En 56 k2 (B7 P))) k2 (B9 P) := fun _ _ _  => by kernel_rfl
abbrev k3 : Sk := [(0,.g [.i,.v])]
noncomputable def o10 := ob Try.f73 [.l]
def B10 (P : PT) (x0a : Int) (x0b : Value) (H : AHeap) : Prop :=
  newK H [(Value.int .i64 x0a), x0b] 31 (fun b1 H2 => B9 P b1 H2)
theorem q10 (P : PT) : QB Try.prog T0 56 o10 (En 56 k2 (B9 P)) k3 (B10 P) := fun _ _ _ _  => by kernel_rfl
noncomputable def code : Code := (.seq (.region 0 ⟨o10⟩ false) (.seq (.seq (.region 1 ⟨o9⟩ false) (.cond (.tmp 17) (.seq (.region 2 ⟨o8⟩ false) .ret) .skip)) (.seq (.seq (.region 3 ⟨o7⟩ false) (.block 0 (.loop (.seq (.seq (.region 4 ⟨o6⟩ false) (.cond (.tmp 22) .skip (.exit 0))) (.seq (.block 1 (.seq (.region 6 ⟨o5⟩ true) (.cond (.tmp 55) (.seq (.region 7 ⟨o4⟩ false) .ret) .skip))) (.region 5 ⟨o3⟩ false)))))) (.seq (.region 8 ⟨o1⟩ false) .ret))))
theorem body : Try.f73.body = some code := by kernel_rfl
theorem main (P : PT) : ∀ env H, (En 56 k3 (B10 P)) env H → AW Try.prog T0 code env H (mkQ (ret P) (fun _ _ _ => False) (ret P)) :=
  (r_seq (rB T0_ok (q10 P)) (r_seq (r_seq (rB T0_ok (q9 P)) (r_cond rfl (r_seq (rB T0_ok (q8 P)) r_ret) r_skip)) (r_seq (r_seq (rB T0_ok (q7 P)) (r_block (rL (l2 P) (fun N2 => (r_seq (r_seq (rB T0_ok (q6 P N2)) (r_cond rfl r_skip (r_exit (fun _ _ h => h)))) (r_seq (r_block (r_seq (rD T0_ok mixed [(0, false), (1, false), (2, false), (3, false), (4, false), (5, false), (6, false), (7, false), (8, false), (9, false), (10, false), (11, false), (12, false), (13, false), (14, false), (15, false), (16, false), (17, false), (18, false), (19, false), (20, false), (21, false), (22, false), (23, false), (24, false), (25, false), (26, false), (27, false), (28, false), (29, false), (30, false)] (by kernel_rfl) (q5 P N2)) (r_cond rfl (r_seq (rB T0_ok (q4 P N2)) r_ret) r_skip))) (rB T0_ok (q3 P N2)))))))) (r_seq (rB T0_ok (q1 P)) r_ret))))
theorem ac (P : PT) (x0a : Int) (x0b : Value) (H : AHeap) (h : B10 P x0a x0b H) : AC Try.prog T0 73 [(Value.agg ⟨[(Value.int .i64 x0a), x0b]⟩)] H P :=
  r_fn T0_ok (c := code) (n := 56) Try.func73 body (by kernel_rfl) (main P) (En_mk (x0a, x0b, ()) (by kernel_rfl) ⟨by kernel_rfl, trivial⟩ h)

end F73
-- loop.example/g01329/laws.toEdge
namespace F76
noncomputable def ret (P : PT) : EP := retE T0 15 Try.f76 P
abbrev k0 : Sk := [(2,.x),(3,.x)]
noncomputable def o1 := ob Try.f76 [.r,.r,.r,.l]
def B1 (P : PT) (x2 x3 : Nat) (H : AHeap) : Prop :=
  ldI .i64 H x3 0 (fun v1 => ldI .i64 H x3 1 (fun v2 => stK H x2 0 [(Value.int .i64 v1), (Value.int .i64 v2)] (fun H3 => ldI .i64 H3 x2 0 (fun v4 => ldI .i64 H3 x2 1 (fun v5 => P (Value.agg ⟨[(Value.int .i64 v4), (Value.int .i64 v5)]⟩) H3)))))
theorem q1 (P : PT) : QB Try.prog T0 15 o1 (ret P) k0 (B1 P) := fun _ _ _ _  => by kernel_rfl
abbrev k1 : Sk := [(1,.x),(2,.x),(3,.x),(4,.i .i64)]
noncomputable def o3 := ob Try.f76 [.r,.r,.l,.r,.l,.l,.r,.r]
def B3 (P : PT) (N2 : NTy k1 Pr) (x1 x2 x3 : Nat) (x4 : Int) (H : AHeap) : Prop :=
  N2 x1 x2 x3 (IntKind.i64.wrap (x4 + 1)) H
theorem q3 (P : PT) (N2 : NTy k1 Pr) : QB Try.prog T0 15 o3 (En 15 k1 N2) k1 (B3 P N2) := fun _ _ _ _ _ _  => by kernel_rfl
noncomputable def o4 := ob Try.f76 [.r,.r,.l,.r,.l,.l,.r,.l,.l]
def B4 (P : PT) (N2 : NTy k1 Pr) (x1 x2 x3 : Nat) (x4 : Int) (H : AHeap) : Prop :=
  bndK x4 2 (ldI .i64 H x1 (0 + Int.toNat x4 * 1) (fun v1 => bndK x4 2 (stK H x3 (0 + Int.toNat x4 * 1) [(Value.int .i64 v1)] (fun H2 => B3 P N2 x1 x2 x3 x4 H2))))
theorem q4 (P : PT) (N2 : NTy k1 Pr) : QB Try.prog T0 15 o4 (En 15 k1 (B3 P N2)) k1 (B4 P N2) := fun _ _ _ _ _ _  => by kernel_rfl
noncomputable def o5 := ob Try.f76 [.r,.r,.l,.r,.l,.l,.l,.l]
def B5 (P : PT) (N2 : NTy k1 Pr) (x1 x2 x3 : Nat) (x4 : Int) (H : AHeap) : Prop :=
  pif (decide ((x4 : Int) < 2)) (B4 P N2 x1 x2 x3 x4 H) (B1 P x2 x3 H)
theorem q5 (P : PT) (N2 : NTy k1 Pr) : QB Try.prog T0 15 o5 (cnd 6 (En 15 k1 (B4 P N2)) (En 15 k0 (B1 P))) k1 (B5 P N2) := fun _ _ _ _ _ _  => by kernel_rfl
def L2 (P : PT) (x1 x2 x3 : Nat) (x4 : Int) (H : AHeap) : Prop :=
  ∃ (I : NTy k1 Pr) (μ : NTy k1 (AHeap → Nat)), I x1 x2 x3 x4 H ∧ ∀ y1 y2 y3 y4 G, I y1 y2 y3 y4 G → B5 P (fun z1 z2 z3 z4 G' => I z1 z2 z3 z4 G' ∧ μ z1 z2 z3 z4 G' < μ y1 y2 y3 y4 G) y1 y2 y3 y4 G
theorem l2 (P : PT) : LQ k1 (L2 P) (B5 P) := fun ⟨_,_,_,_,_⟩ _ ⟨I, μ, h0, hI⟩ => ⟨apT _ I, apT _ μ, h0, fun ⟨_,_,_,_,_⟩ _ h => hI _ _ _ _ _  h⟩
abbrev k2 : Sk := [(1,.x),(2,.x),(3,.x)]
noncomputable def o6 := ob Try.f76 [.r,.r,.l,.l]
def B6 (P : PT) (x1 x2 x3 : Nat) (H : AHeap) : Prop :=
  L2 P x1 x2 x3 0 H
theorem q6 (P : PT) : QB Try.prog T0 15 o6 (En 15 k1 (L2 P)) k2 (B6 P) := fun _ _ _ _ _  => by kernel_rfl
abbrev k3 : Sk := [(1,.x),(2,.x)]
noncomputable def o7 := ob Try.f76 [.r,.l]
def B7 (P : PT) (x1 x2 : Nat) (H : AHeap) : Prop :=
  newK H [(Value.int .i64 0), (Value.int .i64 0)] 67 (fun b1 H2 => B6 P x1 x2 b1 H2)
theorem q7 (P : PT) : QB Try.prog T0 15 o7 (En 15 k2 (B6 P)) k3 (B7 P) := fun _ _ _ _  => by kernel_rfl
abbrev k4 : Sk := [(0,.g [.i,.i])]
noncomputable def o8 := ob Try.f76 [.l]
def B8 (P : PT) (x0a x0b : Int) (H : AHeap) : Prop :=
  newK H [(Value.int .i64 x0a), (Value.int .i64 x0b)] 66 (fun b1 H2 => newK H2 [(Value.int .i64 0), (Value.int .i64 0)] 67 (fun b3 H4 => B7 P b1 b3 H4))
theorem q8 (P : PT) : QB Try.prog T0 15 o8 (En 15 k3 (B7 P)) k4 (B8 P) := fun _ _ _ _  => by kernel_rfl
noncomputable def code : Code := (.seq (.region 0 ⟨o8⟩ false) (.seq (.region 1 ⟨o7⟩ false) (.seq (.seq (.region 2 ⟨o6⟩ false) (.block 0 (.loop (.seq (.seq (.region 3 ⟨o5⟩ false) (.cond (.tmp 6) .skip (.exit 0))) (.seq (.block 1 (.region 5 ⟨o4⟩ false)) (.region 4 ⟨o3⟩ false)))))) (.seq (.region 6 ⟨o1⟩ false) .ret))))
theorem body : Try.f76.body = some code := by kernel_rfl
theorem main (P : PT) : ∀ env H, (En 15 k4 (B8 P)) env H → AW Try.prog T0 code env H (mkQ (ret P) (fun _ _ _ => False) (ret P)) :=
  (r_seq (rB T0_ok (q8 P)) (r_seq (rB T0_ok (q7 P)) (r_seq (r_seq (rB T0_ok (q6 P)) (r_block (rL (l2 P) (fun N2 => (r_seq (r_seq (rB T0_ok (q5 P N2)) (r_cond rfl r_skip (r_exit (fun _ _ h => h)))) (r_seq (r_block (rB T0_ok (q4 P N2))) (rB T0_ok (q3 P N2)))))))) (r_seq (rB T0_ok (q1 P)) r_ret))))
theorem ac (P : PT) (x0a x0b : Int) (H : AHeap) (h : B8 P x0a x0b H) : AC Try.prog T0 76 [(Value.agg ⟨[(Value.int .i64 x0a), (Value.int .i64 x0b)]⟩)] H P :=
  r_fn T0_ok (c := code) (n := 15) Try.func76 body (by kernel_rfl) (main P) (En_mk (x0a, x0b, ()) (by kernel_rfl) ⟨by kernel_rfl, trivial⟩ h)

end F76
-- loop.example/g01329/impl.IsGraph
namespace F77
noncomputable def ret (P : PT) : EP := retE T0 25 Try.f77 P
abbrev k0 : Sk := [(1,.x)]
noncomputable def o1 := ob Try.f77 [.r,.l]
def B1 (P : PT) (x1 : Nat) (H : AHeap) : Prop :=
  ldI .i64 H x1 0 (fun v1 => ld1 H x1 1 (fun v2 => AC Try.prog T0 131 [(Value.int .i64 v1), v2] H (fun v3 H4 => asB v3 (fun v5 => pif v5 (ld1 H4 x1 1 (fun v6 => AC Try.prog T0 132 [v6, (Value.func (.func 133) ⟨[]⟩ ⟨[]⟩)] H4 (fun v7 H8 => asB v7 (fun v9 => pif v9 (ld1 H8 x1 1 (fun v10 => AC Try.prog T0 134 [v10, (Value.func (.func 135) ⟨[]⟩ ⟨[]⟩)] H8 (fun v11 H12 => asB v11 (fun v13 => pif v13 (ldI .i64 H12 x1 0 (fun v14 => ld1 H12 x1 1 (fun v15 => AC Try.prog T0 136 [(Value.int .i64 v14), v15] H12 (fun v16 H17 => asB v16 (fun v18 => P (Value.bool v18) H17))))) (P (Value.bool false) H12))))) (P (Value.bool false) H8))))) (P (Value.bool false) H4)))))
theorem q1 (P : PT) : QB Try.prog T0 25 o1 (ret P) k0 (B1 P) := fun _ _ _  => by kernel_rfl
abbrev k1 : Sk := [(0,.g [.i,.v])]
noncomputable def o2 := ob Try.f77 [.l]
def B2 (P : PT) (x0a : Int) (x0b : Value) (H : AHeap) : Prop :=
  newK H [(Value.int .i64 x0a), x0b] 31 (fun b1 H2 => B1 P b1 H2)
theorem q2 (P : PT) : QB Try.prog T0 25 o2 (En 25 k0 (B1 P)) k1 (B2 P) := fun _ _ _ _  => by kernel_rfl
noncomputable def code : Code := (.seq (.region 0 ⟨o2⟩ false) (.seq (.region 1 ⟨o1⟩ false) .ret))
theorem body : Try.f77.body = some code := by kernel_rfl
theorem main (P : PT) : ∀ env H, (En 25 k1 (B2 P)) env H → AW Try.prog T0 code env H (mkQ (ret P) (fun _ _ _ => False) (ret P)) :=
  (r_seq (rB T0_ok (q2 P)) (r_seq (rB T0_ok (q1 P)) r_ret))
theorem ac (P : PT) (x0a : Int) (x0b : Value) (H : AHeap) (h : B2 P x0a x0b H) : AC Try.prog T0 77 [(Value.agg ⟨[(Value.int .i64 x0a), x0b]⟩)] H P :=
  r_fn T0_ok (c := code) (n := 25) Try.func77 body (by kernel_rfl) (main P) (En_mk (x0a, x0b, ()) (by kernel_rfl) ⟨by kernel_rfl, trivial⟩ h)

end F77
-- (loop.example/g01329/impl.set).has
namespace F79
noncomputable def ret (P : PT) : EP := retE T0 10 Try.f79 P
abbrev k0 : Sk := [(0,.i .u64),(1,.i .i64)]
noncomputable def o1 := ob Try.f79 [.r,.l]
def B1 (P : PT) (x0 x1 : Int) (H : AHeap) : Prop :=
  ((0 : Int) ≤ x1) ∧ (P (Value.bool ((IntKind.u64.wrap (BitVec.ofInt 64 (Int.fdiv x0 (2 ^ (min (Int.toNat x1) 64))) &&& BitVec.ofInt 64 1).toNat : Int) == 1)) H)
theorem q1 (P : PT) : QB Try.prog T0 10 o1 (ret P) k0 (B1 P) := fun _ _ _ _  => by kernel_rfl
noncomputable def o2 := ob Try.f79 [.l]
def B2 (P : PT) (x0 x1 : Int) (H : AHeap) : Prop :=
  B1 P x0 x1 H
theorem q2 (P : PT) : QB Try.prog T0 10 o2 (En 10 k0 (B1 P)) k0 (B2 P) := fun _ _ _ _  => by kernel_rfl
noncomputable def code : Code := (.seq (.region 0 ⟨o2⟩ false) (.seq (.region 1 ⟨o1⟩ false) .ret))
theorem body : Try.f79.body = some code := by kernel_rfl
theorem main (P : PT) : ∀ env H, (En 10 k0 (B2 P)) env H → AW Try.prog T0 code env H (mkQ (ret P) (fun _ _ _ => False) (ret P)) :=
  (r_seq (rB T0_ok (q2 P)) (r_seq (rB T0_ok (q1 P)) r_ret))
theorem ac (P : PT) (x0 x1 : Int) (H : AHeap) (h : B2 P x0 x1 H) : AC Try.prog T0 79 [(Value.int .u64 x0), (Value.int .i64 x1)] H P :=
  r_fn T0_ok (c := code) (n := 10) Try.func79 body (by kernel_rfl) (main P) (En_mk (x0, x1, ()) (by kernel_rfl) ⟨by kernel_rfl, by kernel_rfl, trivial⟩ h)

end F79
-- (loop.example/g01329/impl.set).list
namespace F82
noncomputable def ret (P : PT) : EP := retE T0 19 Try.f82 P
abbrev k0 : Sk := [(3,.v)]
noncomputable def o1 := ob Try.f82 [.r,.r,.r,.l]
def B1 (P : PT) (x3 : Value) (H : AHeap) : Prop :=
  P x3 H
theorem q1 (P : PT) : QB Try.prog T0 19 o1 (ret P) k0 (B1 P) := fun _ _ _  => by kernel_rfl
abbrev k1 : Sk := [(0,.i .u64),(3,.v),(4,.i .i64)]
noncomputable def o3 := ob Try.f82 [.r,.r,.l,.r,.l,.l,.r,.r]
def B3 (P : PT) (N2 : NTy k1 Pr) (x0 : Int) (x3 : Value) (x4 : Int) (H : AHeap) : Prop :=
  N2 x0 x3 (IntKind.i64.wrap (x4 + 1)) H
theorem q3 (P : PT) (N2 : NTy k1 Pr) : QB Try.prog T0 19 o3 (En 19 k1 N2) k1 (B3 P N2) := fun _ _ _ _ _  => by kernel_rfl
noncomputable def o4 := ob Try.f82 [.r,.r,.l,.r,.l,.l,.r,.l,.l,.r,.l]
def B4 (P : PT) (N2 : NTy k1 Pr) (x0 : Int) (x3 : Value) (x4 : Int) (H : AHeap) : Prop :=
  newK H [(Value.int .i64 x4)] 2 (fun b1 H2 => apK T0 2 H2 x3 (Value.slice (some ⟨b1, 0, none⟩) 1 (1 + 1)) (fun v3 H4 => B3 P N2 x0 v3 x4 H4))
theorem q4 (P : PT) (N2 : NTy k1 Pr) : QB Try.prog T0 19 o4 (En 19 k1 (B3 P N2)) k1 (B4 P N2) := fun _ _ _ _ _  => by kernel_rfl
noncomputable def o5 := ob Try.f82 [.r,.r,.l,.r,.l,.l,.r,.l,.l,.l]
def B5 (P : PT) (N2 : NTy k1 Pr) (x0 : Int) (x3 : Value) (x4 : Int) (H : AHeap) : Prop :=
  AC Try.prog T0 79 [(Value.int .u64 x0), (Value.int .i64 x4)] H (fun v1 H2 => asB v1 (fun v3 => pif v3 (B4 P N2 x0 x3 x4 H2) (B3 P N2 x0 x3 x4 H2)))
theorem q5 (P : PT) (N2 : NTy k1 Pr) : QB Try.prog T0 19 o5 (cnd 13 (En 19 k1 (B4 P N2)) (En 19 k1 (B3 P N2))) k1 (B5 P N2) := fun _ _ _ _ _  => by kernel_rfl
noncomputable def o6 := ob Try.f82 [.r,.r,.l,.r,.l,.l,.l,.l]
def B6 (P : PT) (N2 : NTy k1 Pr) (x0 : Int) (x3 : Value) (x4 : Int) (H : AHeap) : Prop :=
  ((0 : Int) ≤ x4) ∧ (pif ((Int.fdiv x0 (2 ^ (min (Int.toNat x4) 64)) : Int) != 0) (B5 P N2 x0 x3 x4 H) (B1 P x3 H))
theorem q6 (P : PT) (N2 : NTy k1 Pr) : QB Try.prog T0 19 o6 (cnd 8 (En 19 k1 (B5 P N2)) (En 19 k0 (B1 P))) k1 (B6 P N2) := fun _ _ _ _ _  => by kernel_rfl
def L2 (P : PT) (x0 : Int) (x3 : Value) (x4 : Int) (H : AHeap) : Prop :=
  ∃ (I : NTy k1 Pr) (μ : NTy k1 (AHeap → Nat)), I x0 x3 x4 H ∧ ∀ y0 y3 y4 G, I y0 y3 y4 G → B6 P (fun z0 z3 z4 G' => I z0 z3 z4 G' ∧ μ z0 z3 z4 G' < μ y0 y3 y4 G) y0 y3 y4 G
theorem l2 (P : PT) : LQ k1 (L2 P) (B6 P) := fun ⟨_,_,_,_⟩ _ ⟨I, μ, h0, hI⟩ => ⟨apT _ I, apT _ μ, h0, fun ⟨_,_,_,_⟩ _ h => hI _ _ _ _  h⟩
abbrev k2 : Sk := [(0,.i .u64),(3,.v)]
noncomputable def o7 := ob Try.f82 [.r,.r,.l,.l]
def B7 (P : PT) (x0 : Int) (x3 : Value) (H : AHeap) : Prop :=
  L2 P x0 x3 0 H
theorem q7 (P : PT) : QB Try.prog T0 19 o7 (En 19 k1 (L2 P)) k2 (B7 P) := fun _ _ _ _  => by kernel_rfl
abbrev k3 : Sk := [(0,.i .u64)]
noncomputable def o8 := ob Try.f82 [.r,.l]
def B8 (P : PT) (x0 : Int) (H : AHeap) : Prop :=
  B7 P x0 (Value.slice none 0 0) H
theorem q8 (P : PT) : QB Try.prog T0 19 o8 (En 19 k2 (B7 P)) k3 (B8 P) := fun _ _ _  => by kernel_rfl
noncomputable def o9 := ob Try.f82 [.l]
def B9 (P : PT) (x0 : Int) (H : AHeap) : Prop :=
  B8 P x0 H
theorem q9 (P : PT) : QB Try.prog T0 19 o9 (En 19 k3 (B8 P)) k3 (B9 P) := fun _ _ _  => by kernel_rfl
noncomputable def code : Code := (.seq (.region 0 ⟨o9⟩ false) (.seq (.region 1 ⟨o8⟩ false) (.seq (.seq (.region 2 ⟨o7⟩ false) (.block 0 (.loop (.seq (.seq (.region 3 ⟨o6⟩ false) (.cond (.tmp 8) .skip (.exit 0))) (.seq (.block 1 (.seq (.region 5 ⟨o5⟩ false) (.cond (.tmp 13) (.region 6 ⟨o4⟩ false) .skip))) (.region 4 ⟨o3⟩ false)))))) (.seq (.region 7 ⟨o1⟩ false) .ret))))
theorem body : Try.f82.body = some code := by kernel_rfl
theorem main (P : PT) : ∀ env H, (En 19 k3 (B9 P)) env H → AW Try.prog T0 code env H (mkQ (ret P) (fun _ _ _ => False) (ret P)) :=
  (r_seq (rB T0_ok (q9 P)) (r_seq (rB T0_ok (q8 P)) (r_seq (r_seq (rB T0_ok (q7 P)) (r_block (rL (l2 P) (fun N2 => (r_seq (r_seq (rB T0_ok (q6 P N2)) (r_cond rfl r_skip (r_exit (fun _ _ h => h)))) (r_seq (r_block (r_seq (rB T0_ok (q5 P N2)) (r_cond rfl (rB T0_ok (q4 P N2)) r_skip))) (rB T0_ok (q3 P N2)))))))) (r_seq (rB T0_ok (q1 P)) r_ret))))
theorem ac (P : PT) (x0 : Int) (H : AHeap) (h : B9 P x0 H) : AC Try.prog T0 82 [(Value.int .u64 x0)] H P :=
  r_fn T0_ok (c := code) (n := 19) Try.func82 body (by kernel_rfl) (main P) (En_mk (x0, ()) (by kernel_rfl) ⟨by kernel_rfl, trivial⟩ h)

end F82
-- loop.example/g01329/laws.eqEdge
namespace F83
noncomputable def ret (P : PT) : EP := retE T0 17 Try.f83 P
abbrev k0 : Sk := []
noncomputable def o1 := ob Try.f83 [.r,.r,.l]
def B1 (P : PT) (H : AHeap) : Prop :=
  P (Value.bool true) H
theorem q1 (P : PT) : QB Try.prog T0 17 o1 (ret P) k0 (B1 P) := fun _ _  => by kernel_rfl
abbrev k1 : Sk := [(2,.x),(3,.x),(5,.i .i64)]
noncomputable def o3 := ob Try.f83 [.r,.l,.r,.l,.l,.r,.r]
def B3 (P : PT) (N2 : NTy k1 Pr) (x2 x3 : Nat) (x5 : Int) (H : AHeap) : Prop :=
  N2 x2 x3 (IntKind.i64.wrap (x5 + 1)) H
theorem q3 (P : PT) (N2 : NTy k1 Pr) : QB Try.prog T0 17 o3 (En 17 k1 N2) k1 (B3 P N2) := fun _ _ _ _ _  => by kernel_rfl
noncomputable def o4 := ob Try.f83 [.r,.l,.r,.l,.l,.r,.l,.l,.r,.l,.l]
def B4 (P : PT) (N2 : NTy k1 Pr) (H : AHeap) : Prop :=
  P (Value.bool false) H
theorem q4 (P : PT) (N2 : NTy k1 Pr) : QB Try.prog T0 17 o4 (ret P) k0 (B4 P N2) := fun _ _  => by kernel_rfl
noncomputable def o5 := ob Try.f83 [.r,.l,.r,.l,.l,.r,.l,.l,.l]
def B5 (P : PT) (N2 : NTy k1 Pr) (x2 x3 : Nat) (x5 : Int) (H : AHeap) : Prop :=
  bndK x5 2 (ldI .i64 H x2 (0 + Int.toNat x5 * 1) (fun v1 => bndK x5 2 (ldI .i64 H x3 (0 + Int.toNat x5 * 1) (fun v2 => pif ((v1 : Int) != v2) (B4 P N2 H) (B3 P N2 x2 x3 x5 H)))))
theorem q5 (P : PT) (N2 : NTy k1 Pr) : QD Try.prog T0 17 o5 [(0, false), (1, false), (2, false), (3, false), (4, false), (5, false), (6, false)] (cnd 16 (En 17 k0 (B4 P N2)) (En 17 k1 (B3 P N2))) k1 (B5 P N2) := fun _ _ _ _ _  => by kernel_rfl
noncomputable def o6 := ob Try.f83 [.r,.l,.r,.l,.l,.l,.l]
def B6 (P : PT) (N2 : NTy k1 Pr) (x2 x3 : Nat) (x5 : Int) (H : AHeap) : Prop :=
  pif (decide ((x5 : Int) < 2)) (B5 P N2 x2 x3 x5 H) (B1 P H)
theorem q6 (P : PT) (N2 : NTy k1 Pr) : QB Try.prog T0 17 o6 (cnd 7 (En 17 k1 (B5 P N2)) (En 17 k0 (B1 P))) k1 (B6 P N2) := fun _ _ _ _ _  => by kernel_rfl
def L2 (P : PT) (x2 x3 : Nat) (x5 : Int) (H : AHeap) : Prop :=
  ∃ (I : NTy k1 Pr) (μ : NTy k1 (AHeap → Nat)), I x2 x3 x5 H ∧ ∀ y2 y3 y5 G, I y2 y3 y5 G → B6 P (fun z2 z3 z5 G' => I z2 z3 z5 G' ∧ μ z2 z3 z5 G' < μ y2 y3 y5 G) y2 y3 y5 G
theorem l2 (P : PT) : LQ k1 (L2 P) (B6 P) := fun ⟨_,_,_,_⟩ _ ⟨I, μ, h0, hI⟩ => ⟨apT _ I, apT _ μ, h0, fun ⟨_,_,_,_⟩ _ h => hI _ _ _ _  h⟩
abbrev k2 : Sk := [(2,.x),(3,.x)]
noncomputable def o7 := ob Try.f83 [.r,.l,.l]
def B7 (P : PT) (x2 x3 : Nat) (H : AHeap) : Prop :=
  L2 P x2 x3 0 H
theorem q7 (P : PT) : QB Try.prog T0 17 o7 (En 17 k1 (L2 P)) k2 (B7 P) := fun _ _ _ _  => by kernel_rfl
abbrev k3 : Sk := [(0,.g [.i,.i]),(1,.g [.i,.i])]
noncomputable def o8 := ob Try.f83 [.l]
def B8 (P : PT) (x0a x0b x1a x1b : Int) (H : AHeap) : Prop :=
  newK H [(Value.int .i64 x0a), (Value.int .i64 x0b)] 67 (fun b1 H2 => newK H2 [(Value.int .i64 x1a), (Value.int .i64 x1b)] 67 (fun b3 H4 => B7 P b1 b3 H4))
theorem q8 (P : PT) : QB Try.prog T0 17 o8 (En 17 k2 (B7 P)) k3 (B8 P) := fun _ _ _ _ _ _  => by kernel_rfl
noncomputable def code : Code := (.seq (.region 0 ⟨o8⟩ false) (.seq (.seq (.region 1 ⟨o7⟩ false) (.block 0 (.loop (.seq (.seq (.region 2 ⟨o6⟩ false) (.cond (.tmp 7) .skip (.exit 0))) (.seq (.block 1 (.seq (.region 4 ⟨o5⟩ true) (.cond (.tmp 16) (.seq (.region 5 ⟨o4⟩ false) .ret) .skip))) (.region 3 ⟨o3⟩ false)))))) (.seq (.region 6 ⟨o1⟩ false) .ret)))
theorem body : Try.f83.body = some code := by kernel_rfl
theorem main (P : PT) : ∀ env H, (En 17 k3 (B8 P)) env H → AW Try.prog T0 code env H (mkQ (ret P) (fun _ _ _ => False) (ret P)) :=
  (r_seq (rB T0_ok (q8 P)) (r_seq (r_seq (rB T0_ok (q7 P)) (r_block (rL (l2 P) (fun N2 => (r_seq (r_seq (rB T0_ok (q6 P N2)) (r_cond rfl r_skip (r_exit (fun _ _ h => h)))) (r_seq (r_block (r_seq (rD T0_ok mixed [(0, false), (1, false), (2, false), (3, false), (4, false), (5, false), (6, false)] (by kernel_rfl) (q5 P N2)) (r_cond rfl (r_seq (rB T0_ok (q4 P N2)) r_ret) r_skip))) (rB T0_ok (q3 P N2)))))))) (r_seq (rB T0_ok (q1 P)) r_ret)))
theorem ac (P : PT) (x0a x0b x1a x1b : Int) (H : AHeap) (h : B8 P x0a x0b x1a x1b H) : AC Try.prog T0 83 [(Value.agg ⟨[(Value.int .i64 x0a), (Value.int .i64 x0b)]⟩), (Value.agg ⟨[(Value.int .i64 x1a), (Value.int .i64 x1b)]⟩)] H P :=
  r_fn T0_ok (c := code) (n := 17) Try.func83 body (by kernel_rfl) (main P) (En_mk (x0a, x0b, x1a, x1b, ()) (by kernel_rfl) ⟨by kernel_rfl, by kernel_rfl, trivial⟩ h)

end F83
-- loop.example/g01329/impl.isSet
namespace F88
noncomputable def ret (P : PT) : EP := retE T0 33 Try.f88 P
abbrev k0 : Sk := []
noncomputable def o1 := ob Try.f88 [.r,.r,.l]
def B1 (P : PT) (H : AHeap) : Prop :=
  P (Value.bool true) H
theorem q1 (P : PT) : QB Try.prog T0 33 o1 (ret P) k0 (B1 P) := fun _ _  => by kernel_rfl
abbrev k1 : Sk := [(0,.v),(1,.i .i64),(7,.v),(8,.i .i64),(9,.i .i64)]
noncomputable def o3 := ob Try.f88 [.r,.l,.r,.l,.l,.r,.r,.r]
def B3 (P : PT) (N2 : NTy k1 Pr) (x0 : Value) (x1 : Int) (x7 : Value) (x8 x9 : Int) (H : AHeap) : Prop :=
  N2 x0 x1 x7 x8 (IntKind.i64.wrap (x9 + 1)) H
theorem q3 (P : PT) (N2 : NTy k1 Pr) : QB Try.prog T0 33 o3 (En 33 k1 N2) k1 (B3 P N2) := fun _ _ _ _ _ _ _  => by kernel_rfl
noncomputable def o4 := ob Try.f88 [.r,.l,.r,.l,.l,.r,.r,.l,.l,.r,.r,.l,.l]
def B4 (P : PT) (N2 : NTy k1 Pr) (H : AHeap) : Prop :=
  P (Value.bool false) H
theorem q4 (P : PT) (N2 : NTy k1 Pr) : QB Try.prog T0 33 o4 (ret P) k0 (B4 P N2) := fun _ _  => by kernel_rfl
abbrev k2 : Sk := [(0,.v),(1,.i .i64),(5,.i .i64),(6,.i .i64),(7,.v),(8,.i .i64),(9,.i .i64)]
noncomputable def o5 := ob Try.f88 [.r,.l,.r,.l,.l,.r,.r,.l,.l,.r,.l]
def B5 (P : PT) (N2 : NTy k1 Pr) (x0 : Value) (x1 x5 x6 : Int) (x7 : Value) (x8 x9 : Int) (H : AHeap) : Prop :=
  AC Try.prog T0 53 [(Value.int .i64 x6), (Value.int .i64 0), (Value.int .i64 (IntKind.i64.wrap (x1 - 1)))] H (fun v1 H2 => asB v1 (fun v3 => pif (!v3) (B4 P N2 H2) (pif (decide ((x5 : Int) > 0)) (idxK x0 (IntKind.i64.wrap (x5 - 1)) 1 (fun b4 o5 => ldI .i64 H2 b4 o5 (fun v6 => pif (decide ((x6 : Int) ≤ v6)) (B4 P N2 H2) (B3 P N2 x0 x1 x7 x8 x9 H2)))) (B3 P N2 x0 x1 x7 x8 x9 H2))))
theorem q5 (P : PT) (N2 : NTy k1 Pr) : QB Try.prog T0 33 o5 (cnd 31 (En 33 k0 (B4 P N2)) (En 33 k1 (B3 P N2))) k2 (B5 P N2) := fun _ _ _ _ _ _ _ _ _  => by kernel_rfl
noncomputable def o6 := ob Try.f88 [.r,.l,.r,.l,.l,.r,.r,.l,.l,.l]
def B6 (P : PT) (N2 : NTy k1 Pr) (x0 : Value) (x1 : Int) (x7 : Value) (x8 x9 : Int) (H : AHeap) : Prop :=
  idxK x7 x9 1 (fun b1 o2 => ldI .i64 H b1 o2 (fun v3 => B5 P N2 x0 x1 x9 v3 x7 x8 x9 H))
theorem q6 (P : PT) (N2 : NTy k1 Pr) : QB Try.prog T0 33 o6 (En 33 k2 (B5 P N2)) k1 (B6 P N2) := fun _ _ _ _ _ _ _  => by kernel_rfl
noncomputable def o7 := ob Try.f88 [.r,.l,.r,.l,.l,.l]
def B7 (P : PT) (N2 : NTy k1 Pr) (x0 : Value) (x1 : Int) (x7 : Value) (x8 x9 : Int) (H : AHeap) : Prop :=
  pif (decide ((x9 : Int) < x8)) (B6 P N2 x0 x1 x7 x8 x9 H) (B1 P H)
theorem q7 (P : PT) (N2 : NTy k1 Pr) : QB Try.prog T0 33 o7 (cnd 10 (En 33 k1 (B6 P N2)) (En 33 k0 (B1 P))) k1 (B7 P N2) := fun _ _ _ _ _ _ _  => by kernel_rfl
def L2 (P : PT) (x0 : Value) (x1 : Int) (x7 : Value) (x8 x9 : Int) (H : AHeap) : Prop :=
  ∃ (I : NTy k1 Pr) (μ : NTy k1 (AHeap → Nat)), I x0 x1 x7 x8 x9 H ∧ ∀ y0 y1 y7 y8 y9 G, I y0 y1 y7 y8 y9 G → B7 P (fun z0 z1 z7 z8 z9 G' => I z0 z1 z7 z8 z9 G' ∧ μ z0 z1 z7 z8 z9 G' < μ y0 y1 y7 y8 y9 G) y0 y1 y7 y8 y9 G
theorem l2 (P : PT) : LQ k1 (L2 P) (B7 P) := fun ⟨_,_,_,_,_,_⟩ _ ⟨I, μ, h0, hI⟩ => ⟨apT _ I, apT _ μ, h0, fun ⟨_,_,_,_,_,_⟩ _ h => hI _ _ _ _ _ _  h⟩
abbrev k3 : Sk := [(0,.v),(1,.i .i64)]
noncomputable def o8 := ob Try.f88 [.r,.l,.l]
def B8 (P : PT) (x0 : Value) (x1 : Int) (H : AHeap) : Prop :=
  lenK x0 (fun n1 => L2 P x0 x1 x0 (n1 : Int) 0 H)
theorem q8 (P : PT) : QB Try.prog T0 33 o8 (En 33 k1 (L2 P)) k3 (B8 P) := fun _ _ _ _  => by kernel_rfl
noncomputable def o9 := ob Try.f88 [.l]
def B9 (P : PT) (x0 : Value) (x1 : Int) (H : AHeap) : Prop :=
  B8 P x0 x1 H
theorem q9 (P : PT) : QB Try.prog T0 33 o9 (En 33 k3 (B8 P)) k3 (B9 P) := fun _ _ _ _  => by kernel_rfl
noncomputable def code : Code := (.seq (.region 0 ⟨o9⟩ false) (.seq (.seq (.region 1 ⟨o8⟩ false) (.block 0 (.loop (.seq (.region 2 ⟨o7⟩ false) (.seq (.cond (.tmp 10) .skip (.exit 0)) (.seq (.block 1 (.seq (.region 3 ⟨o6⟩ false) (.seq (.region 4 ⟨o5⟩ false) (.cond (.tmp 31) (.seq (.region 5 ⟨o4⟩ false) .ret) .skip)))) (.region 6 ⟨o3⟩ false))))))) (.seq (.region 7 ⟨o1⟩ false) .ret)))
theorem body : Try.f88.body = some code := by kernel_rfl
theorem main (P : PT) : ∀ env H, (En 33 k3 (B9 P)) env H → AW Try.prog T0 code env H (mkQ (ret P) (fun _ _ _ => False) (ret P)) :=
  (r_seq (rB T0_ok (q9 P)) (r_seq (r_seq (rB T0_ok (q8 P)) (r_block (rL (l2 P) (fun N2 => (r_seq (rB T0_ok (q7 P N2)) (r_seq (r_cond rfl r_skip (r_exit (fun _ _ h => h))) (r_seq (r_block (r_seq (rB T0_ok (q6 P N2)) (r_seq (rB T0_ok (q5 P N2)) (r_cond rfl (r_seq (rB T0_ok (q4 P N2)) r_ret) r_skip)))) (rB T0_ok (q3 P N2))))))))) (r_seq (rB T0_ok (q1 P)) r_ret)))
theorem ac (P : PT) (x0 : Value) (x1 : Int) (H : AHeap) (h : B9 P x0 x1 H) : AC Try.prog T0 88 [x0, (Value.int .i64 x1)] H P :=
  r_fn T0_ok (c := code) (n := 33) Try.func88 body (by kernel_rfl) (main P) (En_mk (x0, x1, ()) (by kernel_rfl) ⟨by kernel_rfl, by kernel_rfl, trivial⟩ h)

end F88
-- loop.example/g01329/impl.areAll[int]
namespace F92
noncomputable def ret (P : PT) : EP := retE T0 9 Try.f92 P
abbrev k0 : Sk := [(0,.v),(3,.x)]
noncomputable def o1 := ob Try.f92 [.r,.l]
def B1 (P : PT) (x0 : Value) (x3 : Nat) (H : AHeap) : Prop :=
  AC Try.prog T0 143 [x0, (Value.func (.func 144) ⟨[]⟩ ⟨[(Value.pointer (some ⟨x3, 0, none⟩))]⟩)] H (fun v1 H2 => asB v1 (fun v3 => P (Value.bool (!v3)) H2))
theorem q1 (P : PT) : QB Try.prog T0 9 o1 (ret P) k0 (B1 P) := fun _ _ _ _  => by kernel_rfl
abbrev k1 : Sk := [(0,.v),(1,.v)]
noncomputable def o2 := ob Try.f92 [.l]
def B2 (P : PT) (x0 x1 : Value) (H : AHeap) : Prop :=
  pif (Value.oneCell' x1) (newK H [x1] 113 (fun b1 H2 => B1 P x0 b1 H2)) False
theorem q2 (P : PT) : QB Try.prog T0 9 o2 (En 9 k0 (B1 P)) k1 (B2 P) := fun _ _ _ _  => by kernel_rfl
noncomputable def code : Code := (.seq (.region 0 ⟨o2⟩ false) (.seq (.region 1 ⟨o1⟩ false) .ret))
theorem body : Try.f92.body = some code := by kernel_rfl
theorem main (P : PT) : ∀ env H, (En 9 k1 (B2 P)) env H → AW Try.prog T0 code env H (mkQ (ret P) (fun _ _ _ => False) (ret P)) :=
  (r_seq (rB T0_ok (q2 P)) (r_seq (rB T0_ok (q1 P)) r_ret))
theorem ac (P : PT) (x0 x1 : Value) (H : AHeap) (h : B2 P x0 x1 H) : AC Try.prog T0 92 [x0, x1] H P :=
  r_fn T0_ok (c := code) (n := 9) Try.func92 body (by kernel_rfl) (main P) (En_mk (x0, x1, ()) (by kernel_rfl) ⟨by kernel_rfl, by kernel_rfl, trivial⟩ h)

end F92
-- (loop.example/g01329/impl.Graph).at
namespace F95
noncomputable def ret (P : PT) : EP := retE T0 25 Try.f95 P
abbrev k0 : Sk := [(5,.v)]
noncomputable def o1 := ob Try.f95 [.r,.r,.r,.l]
def B1 (P : PT) (x5 : Value) (H : AHeap) : Prop :=
  P x5 H
theorem q1 (P : PT) : QB Try.prog T0 25 o1 (ret P) k0 (B1 P) := fun _ _ _  => by kernel_rfl
abbrev k1 : Sk := [(1,.i .i64),(5,.v),(9,.v),(10,.i .i64),(11,.i .i64)]
noncomputable def o3 := ob Try.f95 [.r,.r,.l,.r,.l,.l,.r,.r,.r]
def B3 (P : PT) (N2 : NTy k1 Pr) (x1 : Int) (x5 x9 : Value) (x10 x11 : Int) (H : AHeap) : Prop :=
  N2 x1 x5 x9 x10 (IntKind.i64.wrap (x11 + 1)) H
theorem q3 (P : PT) (N2 : NTy k1 Pr) : QB Try.prog T0 25 o3 (En 25 k1 N2) k1 (B3 P N2) := fun _ _ _ _ _ _ _  => by kernel_rfl
abbrev k2 : Sk := [(1,.i .i64),(5,.v),(6,.i .i64),(9,.v),(10,.i .i64),(11,.i .i64)]
noncomputable def o4 := ob Try.f95 [.r,.r,.l,.r,.l,.l,.r,.r,.l,.l,.r,.r,.l]
def B4 (P : PT) (N2 : NTy k1 Pr) (x1 : Int) (x5 : Value) (x6 : Int) (x9 : Value) (x10 x11 : Int) (H : AHeap) : Prop :=
  newK H [(Value.int .i64 x6)] 2 (fun b1 H2 => apK T0 2 H2 x5 (Value.slice (some ⟨b1, 0, none⟩) 1 (1 + 1)) (fun v3 H4 => B3 P N2 x1 v3 x9 x10 x11 H4))
theorem q4 (P : PT) (N2 : NTy k1 Pr) : QB Try.prog T0 25 o4 (En 25 k1 (B3 P N2)) k2 (B4 P N2) := fun _ _ _ _ _ _ _ _  => by kernel_rfl
abbrev k3 : Sk := [(1,.i .i64),(5,.v),(6,.i .i64),(7,.x),(9,.v),(10,.i .i64),(11,.i .i64)]
noncomputable def o5 := ob Try.f95 [.r,.r,.l,.r,.l,.l,.r,.r,.l,.l,.r,.l]
def B5 (P : PT) (N2 : NTy k1 Pr) (x1 : Int) (x5 : Value) (x6 : Int) (x7 : Nat) (x9 : Value) (x10 x11 : Int) (H : AHeap) : Prop :=
  ldI .i64 H x7 0 (fun v1 => ldI .i64 H x7 1 (fun v2 => AC Try.prog T0 145 [(Value.agg ⟨[(Value.int .i64 v1), (Value.int .i64 v2)]⟩), (Value.int .i64 x1)] H (fun v3 H4 => asB v3 (fun v5 => pif v5 (B4 P N2 x1 x5 x6 x9 x10 x11 H4) (B3 P N2 x1 x5 x9 x10 x11 H4)))))
theorem q5 (P : PT) (N2 : NTy k1 Pr) : QB Try.prog T0 25 o5 (cnd 18 (En 25 k2 (B4 P N2)) (En 25 k1 (B3 P N2))) k3 (B5 P N2) := fun _ _ _ _ _ _ _ _ _  => by kernel_rfl
noncomputable def o6 := ob Try.f95 [.r,.r,.l,.r,.l,.l,.r,.r,.l,.l,.l]
def B6 (P : PT) (N2 : NTy k1 Pr) (x1 : Int) (x5 x9 : Value) (x10 x11 : Int) (H : AHeap) : Prop :=
  idxK x9 x11 2 (fun b1 o2 => ldI .i64 H b1 o2 (fun v3 => ldI .i64 H b1 (o2 + 1) (fun v4 => newK H [(Value.int .i64 0), (Value.int .i64 0)] 67 (fun b5 H6 => stK H6 b5 0 [(Value.int .i64 v3), (Value.int .i64 v4)] (fun H7 => B5 P N2 x1 x5 x11 b5 x9 x10 x11 H7)))))
theorem q6 (P : PT) (N2 : NTy k1 Pr) : QB Try.prog T0 25 o6 (En 25 k3 (B5 P N2)) k1 (B6 P N2) := fun _ _ _ _ _ _ _  => by kernel_rfl
noncomputable def o7 := ob Try.f95 [.r,.r,.l,.r,.l,.l,.l]
def B7 (P : PT) (N2 : NTy k1 Pr) (x1 : Int) (x5 x9 : Value) (x10 x11 : Int) (H : AHeap) : Prop :=
  pif (decide ((x11 : Int) < x10)) (B6 P N2 x1 x5 x9 x10 x11 H) (B1 P x5 H)
theorem q7 (P : PT) (N2 : NTy k1 Pr) : QB Try.prog T0 25 o7 (cnd 12 (En 25 k1 (B6 P N2)) (En 25 k0 (B1 P))) k1 (B7 P N2) := fun _ _ _ _ _ _ _  => by kernel_rfl
def L2 (P : PT) (x1 : Int) (x5 x9 : Value) (x10 x11 : Int) (H : AHeap) : Prop :=
  ∃ (I : NTy k1 Pr) (μ : NTy k1 (AHeap → Nat)), I x1 x5 x9 x10 x11 H ∧ ∀ y1 y5 y9 y10 y11 G, I y1 y5 y9 y10 y11 G → B7 P (fun z1 z5 z9 z10 z11 G' => I z1 z5 z9 z10 z11 G' ∧ μ z1 z5 z9 z10 z11 G' < μ y1 y5 y9 y10 y11 G) y1 y5 y9 y10 y11 G
theorem l2 (P : PT) : LQ k1 (L2 P) (B7 P) := fun ⟨_,_,_,_,_,_⟩ _ ⟨I, μ, h0, hI⟩ => ⟨apT _ I, apT _ μ, h0, fun ⟨_,_,_,_,_,_⟩ _ h => hI _ _ _ _ _ _  h⟩
abbrev k4 : Sk := [(1,.i .i64),(2,.x),(5,.v)]
noncomputable def o8 := ob Try.f95 [.r,.r,.l,.l]
def B8 (P : PT) (x1 : Int) (x2 : Nat) (x5 : Value) (H : AHeap) : Prop :=
  ld1 H x2 1 (fun v1 => lenK v1 (fun n2 => L2 P x1 x5 v1 (n2 : Int) 0 H))
theorem q8 (P : PT) : QB Try.prog T0 25 o8 (En 25 k1 (L2 P)) k4 (B8 P) := fun _ _ _ _ _  => by kernel_rfl
abbrev k5 : Sk := [(1,.i .i64),(2,.x)]
noncomputable def o9 := ob Try.f95 [.r,.l]
def B9 (P : PT) (x1 : Int) (x2 : Nat) (H : AHeap) : Prop :=
  B8 P x1 x2 (Value.slice none 0 0) H
theorem q9 (P : PT) : QB Try.prog T0 25 o9 (En 25 k4 (B8 P)) k5 (B9 P) := fun _ _ _ _  => by kernel_rfl
abbrev k6 : Sk := [(0,.g [.i,.v]),(1,.i .i64)]
noncomputable def o10 := ob Try.f95 [.l]
def B10 (P : PT) (x0a : Int) (x0b : Value) (x1 : Int) (H : AHeap) : Prop :=
  newK H [(Value.int .i64 x0a), x0b] 31 (fun b1 H2 => B9 P x1 b1 H2)
theorem q10 (P : PT) : QB Try.prog T0 25 o10 (En 25 k5 (B9 P)) k6 (B10 P) := fun _ _ _ _ _  => by kernel_rfl
noncomputable def code : Code := (.seq (.region 0 ⟨o10⟩ false) (.seq (.region 1 ⟨o9⟩ false) (.seq (.seq (.region 2 ⟨o8⟩ false) (.block 0 (.loop (.seq (.region 3 ⟨o7⟩ false) (.seq (.cond (.tmp 12) .skip (.exit 0)) (.seq (.block 1 (.seq (.region 4 ⟨o6⟩ false) (.seq (.region 5 ⟨o5⟩ false) (.cond (.tmp 18) (.region 6 ⟨o4⟩ false) .skip)))) (.region 7 ⟨o3⟩ false))))))) (.seq (.region 8 ⟨o1⟩ false) .ret))))
theorem body : Try.f95.body = some code := by kernel_rfl
theorem main (P : PT) : ∀ env H, (En 25 k6 (B10 P)) env H → AW Try.prog T0 code env H (mkQ (ret P) (fun _ _ _ => False) (ret P)) :=
  (r_seq (rB T0_ok (q10 P)) (r_seq (rB T0_ok (q9 P)) (r_seq (r_seq (rB T0_ok (q8 P)) (r_block (rL (l2 P) (fun N2 => (r_seq (rB T0_ok (q7 P N2)) (r_seq (r_cond rfl r_skip (r_exit (fun _ _ h => h))) (r_seq (r_block (r_seq (rB T0_ok (q6 P N2)) (r_seq (rB T0_ok (q5 P N2)) (r_cond rfl (rB T0_ok (q4 P N2)) r_skip)))) (rB T0_ok (q3 P N2))))))))) (r_seq (rB T0_ok (q1 P)) r_ret))))
theorem ac (P : PT) (x0a : Int) (x0b : Value) (x1 : Int) (H : AHeap) (h : B10 P x0a x0b x1 H) : AC Try.prog T0 95 [(Value.agg ⟨[(Value.int .i64 x0a), x0b]⟩), (Value.int .i64 x1)] H P :=
  r_fn T0_ok (c := code) (n := 25) Try.func95 body (by kernel_rfl) (main P) (En_mk (x0a, x0b, x1, ()) (by kernel_rfl) ⟨by kernel_rfl, by kernel_rfl, trivial⟩ h)

end F95
-- loop.example/g01329/spec.l04Is
namespace F108
noncomputable def ret (P : PT) : EP := retE T0 71 Try.f108 P
abbrev k0 : Sk := [(1,.v),(2,.x)]
noncomputable def o1 := ob Try.f108 [.r,.r,.r,.l]
def B1 (P : PT) (x1 : Value) (x2 : Nat) (H : AHeap) : Prop :=
  lenK x1 (fun n1 => ldI .i64 H x2 0 (fun v2 => P (Value.bool ((IntKind.i64.wrap (2 * (n1 : Int)) : Int) == v2)) H))
theorem q1 (P : PT) : QB Try.prog T0 71 o1 (ret P) k0 (B1 P) := fun _ _ _ _  => by kernel_rfl
abbrev k1 : Sk := [(1,.v),(2,.x),(5,.v),(6,.i .i64)]
noncomputable def o3 := ob Try.f108 [.r,.r,.l,.r,.l,.l,.r,.r]
def B3 (P : PT) (N2 : NTy k1 Pr) (x1 : Value) (x2 : Nat) (x5 : Value) (x6 : Int) (H : AHeap) : Prop :=
  N2 x1 x2 x5 (IntKind.i64.wrap (x6 + 1)) H
theorem q3 (P : PT) (N2 : NTy k1 Pr) : QB Try.prog T0 71 o3 (En 71 k1 N2) k1 (B3 P N2) := fun _ _ _ _ _ _  => by kernel_rfl
abbrev k2 : Sk := [(1,.v),(2,.x),(5,.v),(6,.i .i64),(7,.i .i64)]
noncomputable def o5 := ob Try.f108 [.r,.r,.l,.r,.l,.l,.r,.l,.l,.r,.r,.l,.l,.r,.r]
def B5 (P : PT) (N2 : NTy k1 Pr) (N4 : NTy k2 Pr) (x1 : Value) (x2 : Nat) (x5 : Value) (x6 x7 : Int) (H : AHeap) : Prop :=
  N4 x1 x2 x5 x6 (IntKind.i64.wrap (x7 + 1)) H
theorem q5 (P : PT) (N2 : NTy k1 Pr) (N4 : NTy k2 Pr) : QB Try.prog T0 71 o5 (En 71 k2 N4) k2 (B5 P N2 N4) := fun _ _ _ _ _ _ _  => by kernel_rfl
abbrev k3 : Sk := [(1,.v),(2,.x),(5,.v),(6,.i .i64),(7,.i .i64),(8,.i .i64)]
noncomputable def o6 := ob Try.f108 [.r,.r,.l,.r,.l,.l,.r,.l,.l,.r,.r,.l,.l,.r,.l,.l,.r,.r]
def B6 (P : PT) (N2 : NTy k1 Pr) (N4 : NTy k2 Pr) (x1 : Value) (x2 : Nat) (x5 : Value) (x6 x7 x8 : Int) (H : AHeap) : Prop :=
  idxK x5 x8 1 (fun b1 o2 => stK H b1 o2 [(Value.bool true)] (fun H3 => B5 P N2 N4 x1 x2 x5 x6 x7 H3))
theorem q6 (P : PT) (N2 : NTy k1 Pr) (N4 : NTy k2 Pr) : QB Try.prog T0 71 o6 (En 71 k2 (B5 P N2 N4)) k3 (B6 P N2 N4) := fun _ _ _ _ _ _ _ _  => by kernel_rfl
abbrev k4 : Sk := []
noncomputable def o7 := ob Try.f108 [.r,.r,.l,.r,.l,.l,.r,.l,.l,.r,.r,.l,.l,.r,.l,.l,.r,.l,.r,.l,.l]
def B7 (P : PT) (N2 : NTy k1 Pr) (N4 : NTy k2 Pr) (H : AHeap) : Prop :=
  P (Value.bool false) H
theorem q7 (P : PT) (N2 : NTy k1 Pr) (N4 : NTy k2 Pr) : QB Try.prog T0 71 o7 (ret P) k4 (B7 P N2 N4) := fun _ _  => by kernel_rfl
noncomputable def o8 := ob Try.f108 [.r,.r,.l,.r,.l,.l,.r,.l,.l,.r,.r,.l,.l,.r,.l,.l,.r,.l,.l]
def B8 (P : PT) (N2 : NTy k1 Pr) (N4 : NTy k2 Pr) (x1 : Value) (x2 : Nat) (x5 : Value) (x6 x7 x8 : Int) (H : AHeap) : Prop :=
  idxK x5 x8 1 (fun b1 o2 => ld1 H b1 o2 (fun v4 => asB v4 (fun v3 => pif v3 (B7 P N2 N4 H) (B6 P N2 N4 x1 x2 x5 x6 x7 x8 H))))
theorem q8 (P : PT) (N2 : NTy k1 Pr) (N4 : NTy k2 Pr) : QB Try.prog T0 71 o8 (cnd 61 (En 71 k4 (B7 P N2 N4)) (En 71 k3 (B6 P N2 N4))) k3 (B8 P N2 N4) := fun _ _ _ _ _ _ _ _  => by kernel_rfl
noncomputable def o9 := ob Try.f108 [.r,.r,.l,.r,.l,.l,.r,.l,.l,.r,.r,.l,.l,.r,.l,.l,.l]
def B9 (P : PT) (N2 : NTy k1 Pr) (N4 : NTy k2 Pr) (x1 : Value) (x2 : Nat) (x5 : Value) (x6 x7 : Int) (H : AHeap) : Prop :=
  ld1 H x2 1 (fun v1 => idxK x1 x6 1 (fun b2 o3 => ldI .i64 H b2 o3 (fun v4 => idxK v1 v4 2 (fun b5 o6 => bndK x7 2 (ldI .i64 H b5 (o6 + Int.toNat x7 * 1) (fun v7 => B8 P N2 N4 x1 x2 x5 x6 x7 v7 H))))))
theorem q9 (P : PT) (N2 : NTy k1 Pr) (N4 : NTy k2 Pr) : QD Try.prog T0 71 o9 [(0, false), (1, false), (2, false), (3, false), (4, false), (5, false), (6, false), (7, false), (8, false), (9, false), (10, false)] (En 71 k3 (B8 P N2 N4)) k2 (B9 P N2 N4) := fun _ _ _ _ _ _ _  => by kernel_rfl
noncomputable def o10 := ob Try.f108 [.r,.r,.l,.r,.l,.l,.r,.l,.l,.r,.r,.l,.l,.l,.l]
def B10 (P : PT) (N2 : NTy k1 Pr) (N4 : NTy k2 Pr) (x1 : Value) (x2 : Nat) (x5 : Value) (x6 x7 : Int) (H : AHeap) : Prop :=
  pif (decide ((x7 : Int) < 2)) (B9 P N2 N4 x1 x2 x5 x6 x7 H) (B3 P N2 x1 x2 x5 x6 H)
theorem q10 (P : PT) (N2 : NTy k1 Pr) (N4 : NTy k2 Pr) : QB Try.prog T0 71 o10 (cnd 45 (En 71 k2 (B9 P N2 N4)) (En 71 k1 (B3 P N2))) k2 (B10 P N2 N4) := fun _ _ _ _ _ _ _  => by kernel_rfl
def L4 (P : PT) (N2 : NTy k1 Pr) (x1 : Value) (x2 : Nat) (x5 : Value) (x6 x7 : Int) (H : AHeap) : Prop :=
  ∃ (I : NTy k2 Pr) (μ : NTy k2 (AHeap → Nat)), I x1 x2 x5 x6 x7 H ∧ ∀ y1 y2 y5 y6 y7 G, I y1 y2 y5 y6 y7 G → B10 P N2 (fun z1 z2 z5 z6 z7 G' => I z1 z2 z5 z6 z7 G' ∧ μ z1 z2 z5 z6 z7 G' < μ y1 y2 y5 y6 y7 G) y1 y2 y5 y6 y7 G
theorem l4 (P : PT) (N2 : NTy k1 Pr) : LQ k2 (L4 P N2) (B10 P N2) := fun ⟨_,_,_,_,_,_⟩ _ ⟨I, μ, h0, hI⟩ => ⟨apT _ I, apT _ μ, h0, fun ⟨_,_,_,_,_,_⟩ _ h => hI _ _ _ _ _ _  h⟩
noncomputable def o11 := ob Try.f108 [.r,.r,.l,.r,.l,.l,.r,.l,.l,.r,.l]
def B11 (P : PT) (N2 : NTy k1 Pr) (x1 : Value) (x2 : Nat) (x5 : Value) (x6 : Int) (H : AHeap) : Prop :=
  L4 P N2 x1 x2 x5 x6 0 H
theorem q11 (P : PT) (N2 : NTy k1 Pr) : QB Try.prog T0 71 o11 (En 71 k2 (L4 P N2)) k1 (B11 P N2) := fun _ _ _ _ _ _  => by kernel_rfl
noncomputable def o12 := ob Try.f108 [.r,.r,.l,.r,.l,.l,.r,.l,.l,.l,.r,.l,.l]
def B12 (P : PT) (N2 : NTy k1 Pr) (H : AHeap) : Prop :=
  P (Value.bool false) H
theorem q12 (P : PT) (N2 : NTy k1 Pr) : QB Try.prog T0 71 o12 (ret P) k4 (B12 P N2) := fun _ _  => by kernel_rfl
noncomputable def o13 := ob Try.f108 [.r,.r,.l,.r,.l,.l,.r,.l,.l,.l,.l]
def B13 (P : PT) (N2 : NTy k1 Pr) (x1 : Value) (x2 : Nat) (x5 : Value) (x6 : Int) (H : AHeap) : Prop :=
  idxK x1 x6 1 (fun b1 o2 => ldI .i64 H b1 o2 (fun v3 => ld1 H x2 1 (fun v4 => lenK v4 (fun n5 => AC Try.prog T0 49 [(Value.int .i64 v3), (Value.int .i64 0), (Value.int .i64 (IntKind.i64.wrap ((n5 : Int) - 1)))] H (fun v6 H7 => asB v6 (fun v8 => pif (!v8) (B12 P N2 H7) (pif (decide ((x6 : Int) > 0)) (idxK x1 x6 1 (fun b9 o10 => ldI .i64 H7 b9 o10 (fun v11 => idxK x1 (IntKind.i64.wrap (x6 - 1)) 1 (fun b12 o13 => ldI .i64 H7 b12 o13 (fun v14 => pif (decide ((v11 : Int) ≤ v14)) (B12 P N2 H7) (B11 P N2 x1 x2 x5 x6 H7)))))) (B11 P N2 x1 x2 x5 x6 H7))))))))
theorem q13 (P : PT) (N2 : NTy k1 Pr) : QD Try.prog T0 71 o13 [(0, false), (1, false), (2, false), (3, false), (4, false), (5, false), (6, false), (7, false), (8, false), (9, false), (10, false), (11, false), (12, false), (13, false), (14, false), (15, false), (16, false), (17, false), (18, false), (19, false), (20, false), (21, false), (22, false), (23, false), (24, false), (25, false)] (cnd 43 (En 71 k4 (B12 P N2)) (En 71 k1 (B11 P N2))) k1 (B13 P N2) := fun _ _ _ _ _ _  => by kernel_rfl
noncomputable def o14 := ob Try.f108 [.r,.r,.l,.r,.l,.l,.l,.l]
def B14 (P : PT) (N2 : NTy k1 Pr) (x1 : Value) (x2 : Nat) (x5 : Value) (x6 : Int) (H : AHeap) : Prop :=
  lenK x1 (fun n1 => pif (decide ((x6 : Int) < (n1 : Int))) (B13 P N2 x1 x2 x5 x6 H) (B1 P x1 x2 H))
theorem q14 (P : PT) (N2 : NTy k1 Pr) : QB Try.prog T0 71 o14 (cnd 15 (En 71 k1 (B13 P N2)) (En 71 k0 (B1 P))) k1 (B14 P N2) := fun _ _ _ _ _ _  => by kernel_rfl
def L2 (P : PT) (x1 : Value) (x2 : Nat) (x5 : Value) (x6 : Int) (H : AHeap) : Prop :=
  ∃ (I : NTy k1 Pr) (μ : NTy k1 (AHeap → Nat)), I x1 x2 x5 x6 H ∧ ∀ y1 y2 y5 y6 G, I y1 y2 y5 y6 G → B14 P (fun z1 z2 z5 z6 G' => I z1 z2 z5 z6 G' ∧ μ z1 z2 z5 z6 G' < μ y1 y2 y5 y6 G) y1 y2 y5 y6 G
theorem l2 (P : PT) : LQ k1 (L2 P) (B14 P) := fun ⟨_,_,_,_,_⟩ _ ⟨I, μ, h0, hI⟩ => ⟨apT _ I, apT _ μ, h0, fun ⟨_,_,_,_,_⟩ _ h => hI _ _ _ _ _  h⟩
abbrev k5 : Sk := [(1,.v),(2,.x),(5,.v)]
noncomputable def o15 := ob Try.f108 [.r,.r,.l,.l]
def B15 (P : PT) (x1 : Value) (x2 : Nat) (x5 : Value) (H : AHeap) : Prop :=
  L2 P x1 x2 x5 0 H
theorem q15 (P : PT) : QB Try.prog T0 71 o15 (En 71 k1 (L2 P)) k5 (B15 P) := fun _ _ _ _ _  => by kernel_rfl
noncomputable def o16 := ob Try.f108 [.r,.l]
def B16 (P : PT) (x1 : Value) (x2 : Nat) (H : AHeap) : Prop :=
  ldI .i64 H x2 0 (fun v1 => mkR H 1 4 [(Value.bool false)] v1 v1 (fun v3 H2 => B15 P x1 x2 v3 H2))
theorem q16 (P : PT) : QB Try.prog T0 71 o16 (En 71 k5 (B15 P)) k0 (B16 P) := fun _ _ _ _  => by kernel_rfl
abbrev k6 : Sk := [(0,.g [.i,.v]),(1,.v)]
noncomputable def o17 := ob Try.f108 [.l]
def B17 (P : PT) (x0a : Int) (x0b x1 : Value) (H : AHeap) : Prop :=
  newK H [(Value.int .i64 x0a), x0b] 31 (fun b1 H2 => B16 P x1 b1 H2)
theorem q17 (P : PT) : QB Try.prog T0 71 o17 (En 71 k0 (B16 P)) k6 (B17 P) := fun _ _ _ _ _  => by kernel_rfl
noncomputable def code : Code := (.seq (.region 0 ⟨o17⟩ false) (.seq (.region 1 ⟨o16⟩ false) (.seq (.seq (.region 2 ⟨o15⟩ false) (.block 0 (.loop (.seq (.seq (.region 3 ⟨o14⟩ false) (.cond (.tmp 15) .skip (.exit 0))) (.seq (.block 1 (.seq (.seq (.region 5 ⟨o13⟩ true) (.cond (.tmp 43) (.seq (.region 6 ⟨o12⟩ false) .ret) .skip)) (.seq (.region 7 ⟨o11⟩ false) (.block 2 (.loop (.seq (.seq (.region 8 ⟨o10⟩ false) (.cond (.tmp 45) .skip (.exit 2))) (.seq (.block 3 (.seq (.region 10 ⟨o9⟩ true) (.seq (.seq (.region 11 ⟨o8⟩ false) (.cond (.tmp 61) (.seq (.region 12 ⟨o7⟩ false) .ret) .skip)) (.region 13 ⟨o6⟩ false)))) (.region 9 ⟨o5⟩ false)))))))) (.region 4 ⟨o3⟩ false)))))) (.seq (.region 14 ⟨o1⟩ false) .ret))))
theorem body : Try.f108.body = some code := by kernel_rfl
theorem main (P : PT) : ∀ env H, (En 71 k6 (B17 P)) env H → AW Try.prog T0 code env H (mkQ (ret P) (fun _ _ _ => False) (ret P)) :=
  (r_seq (rB T0_ok (q17 P)) (r_seq (rB T0_ok (q16 P)) (r_seq (r_seq (rB T0_ok (q15 P)) (r_block (rL (l2 P) (fun N2 => (r_seq (r_seq (rB T0_ok (q14 P N2)) (r_cond rfl r_skip (r_exit (fun _ _ h => h)))) (r_seq (r_block (r_seq (r_seq (rD T0_ok mixed [(0, false), (1, false), (2, false), (3, false), (4, false), (5, false), (6, false), (7, false), (8, false), (9, false), (10, false), (11, false), (12, false), (13, false), (14, false), (15, false), (16, false), (17, false), (18, false), (19, false), (20, false), (21, false), (22, false), (23, false), (24, false), (25, false)] (by kernel_rfl) (q13 P N2)) (r_cond rfl (r_seq (rB T0_ok (q12 P N2)) r_ret) r_skip)) (r_seq (rB T0_ok (q11 P N2)) (r_block (rL (l4 P N2) (fun N4 => (r_seq (r_seq (rB T0_ok (q10 P N2 N4)) (r_cond rfl r_skip (r_exit (fun _ _ h => h)))) (r_seq (r_block (r_seq (rD T0_ok mixed [(0, false), (1, false), (2, false), (3, false), (4, false), (5, false), (6, false), (7, false), (8, false), (9, false), (10, false)] (by kernel_rfl) (q9 P N2 N4)) (r_seq (r_seq (rB T0_ok (q8 P N2 N4)) (r_cond rfl (r_seq (rB T0_ok (q7 P N2 N4)) r_ret) r_skip)) (rB T0_ok (q6 P N2 N4))))) (rB T0_ok (q5 P N2 N4)))))))))) (rB T0_ok (q3 P N2)))))))) (r_seq (rB T0_ok (q1 P)) r_ret))))
theorem ac (P : PT) (x0a : Int) (x0b x1 : Value) (H : AHeap) (h : B17 P x0a x0b x1 H) : AC Try.prog T0 108 [(Value.agg ⟨[(Value.int .i64 x0a), x0b]⟩), x1] H P :=
  r_fn T0_ok (c := code) (n := 71) Try.func108 body (by kernel_rfl) (main P) (En_mk (x0a, x0b, x1, ()) (by kernel_rfl) ⟨by kernel_rfl, by kernel_rfl, trivial⟩ h)

end F108
-- loop.example/g01329/spec.l04Has
namespace F109
noncomputable def ret (P : PT) : EP := retE T0 18 Try.f109 P
abbrev k0 : Sk := []
noncomputable def o1 := ob Try.f109 [.r,.r,.l]
def B1 (P : PT) (H : AHeap) : Prop :=
  P (Value.bool false) H
theorem q1 (P : PT) : QB Try.prog T0 18 o1 (ret P) k0 (B1 P) := fun _ _  => by kernel_rfl
abbrev k1 : Sk := [(0,.v),(1,.i .i64),(5,.i .i64)]
noncomputable def o3 := ob Try.f109 [.r,.l,.r,.l,.l,.r,.r]
def B3 (P : PT) (N2 : NTy k1 Pr) (x0 : Value) (x1 x5 : Int) (H : AHeap) : Prop :=
  N2 x0 x1 (IntKind.i64.wrap (x5 + 1)) H
theorem q3 (P : PT) (N2 : NTy k1 Pr) : QB Try.prog T0 18 o3 (En 18 k1 N2) k1 (B3 P N2) := fun _ _ _ _ _  => by kernel_rfl
noncomputable def o4 := ob Try.f109 [.r,.l,.r,.l,.l,.r,.l,.l,.r,.l,.l]
def B4 (P : PT) (N2 : NTy k1 Pr) (H : AHeap) : Prop :=
  P (Value.bool true) H
theorem q4 (P : PT) (N2 : NTy k1 Pr) : QB Try.prog T0 18 o4 (ret P) k0 (B4 P N2) := fun _ _  => by kernel_rfl
noncomputable def o5 := ob Try.f109 [.r,.l,.r,.l,.l,.r,.l,.l,.l]
def B5 (P : PT) (N2 : NTy k1 Pr) (x0 : Value) (x1 x5 : Int) (H : AHeap) : Prop :=
  idxK x0 x5 1 (fun b1 o2 => ldI .i64 H b1 o2 (fun v3 => pif ((v3 : Int) == x1) (B4 P N2 H) (B3 P N2 x0 x1 x5 H)))
theorem q5 (P : PT) (N2 : NTy k1 Pr) : QB Try.prog T0 18 o5 (cnd 17 (En 18 k0 (B4 P N2)) (En 18 k1 (B3 P N2))) k1 (B5 P N2) := fun _ _ _ _ _  => by kernel_rfl
noncomputable def o6 := ob Try.f109 [.r,.l,.r,.l,.l,.l,.l]
def B6 (P : PT) (N2 : NTy k1 Pr) (x0 : Value) (x1 x5 : Int) (H : AHeap) : Prop :=
  lenK x0 (fun n1 => pif (decide ((x5 : Int) < (n1 : Int))) (B5 P N2 x0 x1 x5 H) (B1 P H))
theorem q6 (P : PT) (N2 : NTy k1 Pr) : QB Try.prog T0 18 o6 (cnd 9 (En 18 k1 (B5 P N2)) (En 18 k0 (B1 P))) k1 (B6 P N2) := fun _ _ _ _ _  => by kernel_rfl
def L2 (P : PT) (x0 : Value) (x1 x5 : Int) (H : AHeap) : Prop :=
  ∃ (I : NTy k1 Pr) (μ : NTy k1 (AHeap → Nat)), I x0 x1 x5 H ∧ ∀ y0 y1 y5 G, I y0 y1 y5 G → B6 P (fun z0 z1 z5 G' => I z0 z1 z5 G' ∧ μ z0 z1 z5 G' < μ y0 y1 y5 G) y0 y1 y5 G
theorem l2 (P : PT) : LQ k1 (L2 P) (B6 P) := fun ⟨_,_,_,_⟩ _ ⟨I, μ, h0, hI⟩ => ⟨apT _ I, apT _ μ, h0, fun ⟨_,_,_,_⟩ _ h => hI _ _ _ _  h⟩
abbrev k2 : Sk := [(0,.v),(1,.i .i64)]
noncomputable def o7 := ob Try.f109 [.r,.l,.l]
def B7 (P : PT) (x0 : Value) (x1 : Int) (H : AHeap) : Prop :=
  L2 P x0 x1 0 H
theorem q7 (P : PT) : QB Try.prog T0 18 o7 (En 18 k1 (L2 P)) k2 (B7 P) := fun _ _ _ _  => by kernel_rfl
noncomputable def o8 := ob Try.f109 [.l]
def B8 (P : PT) (x0 : Value) (x1 : Int) (H : AHeap) : Prop :=
  B7 P x0 x1 H
theorem q8 (P : PT) : QB Try.prog T0 18 o8 (En 18 k2 (B7 P)) k2 (B8 P) := fun _ _ _ _  => by kernel_rfl
noncomputable def code : Code := (.seq (.region 0 ⟨o8⟩ false) (.seq (.seq (.region 1 ⟨o7⟩ false) (.block 0 (.loop (.seq (.seq (.region 2 ⟨o6⟩ false) (.cond (.tmp 9) .skip (.exit 0))) (.seq (.block 1 (.seq (.region 4 ⟨o5⟩ false) (.cond (.tmp 17) (.seq (.region 5 ⟨o4⟩ false) .ret) .skip))) (.region 3 ⟨o3⟩ false)))))) (.seq (.region 6 ⟨o1⟩ false) .ret)))
theorem body : Try.f109.body = some code := by kernel_rfl
theorem main (P : PT) : ∀ env H, (En 18 k2 (B8 P)) env H → AW Try.prog T0 code env H (mkQ (ret P) (fun _ _ _ => False) (ret P)) :=
  (r_seq (rB T0_ok (q8 P)) (r_seq (r_seq (rB T0_ok (q7 P)) (r_block (rL (l2 P) (fun N2 => (r_seq (r_seq (rB T0_ok (q6 P N2)) (r_cond rfl r_skip (r_exit (fun _ _ h => h)))) (r_seq (r_block (r_seq (rB T0_ok (q5 P N2)) (r_cond rfl (r_seq (rB T0_ok (q4 P N2)) r_ret) r_skip))) (rB T0_ok (q3 P N2)))))))) (r_seq (rB T0_ok (q1 P)) r_ret)))
theorem ac (P : PT) (x0 : Value) (x1 : Int) (H : AHeap) (h : B8 P x0 x1 H) : AC Try.prog T0 109 [x0, (Value.int .i64 x1)] H P :=
  r_fn T0_ok (c := code) (n := 18) Try.func109 body (by kernel_rfl) (main P) (En_mk (x0, x1, ()) (by kernel_rfl) ⟨by kernel_rfl, by kernel_rfl, trivial⟩ h)

end F109
-- loop.example/g01329/spec.l01At
namespace F110
noncomputable def ret (P : PT) : EP := retE T0 38 Try.f110 P
abbrev k0 : Sk := [(5,.v)]
noncomputable def o1 := ob Try.f110 [.r,.r,.r,.l]
def B1 (P : PT) (x5 : Value) (H : AHeap) : Prop :=
  P x5 H
theorem q1 (P : PT) : QB Try.prog T0 38 o1 (ret P) k0 (B1 P) := fun _ _ _  => by kernel_rfl
abbrev k1 : Sk := [(1,.i .i64),(2,.x),(5,.v),(6,.i .i64)]
noncomputable def o3 := ob Try.f110 [.r,.r,.l,.r,.l,.l,.r,.r]
def B3 (P : PT) (N2 : NTy k1 Pr) (x1 : Int) (x2 : Nat) (x5 : Value) (x6 : Int) (H : AHeap) : Prop :=
  N2 x1 x2 x5 (IntKind.i64.wrap (x6 + 1)) H
theorem q3 (P : PT) (N2 : NTy k1 Pr) : QB Try.prog T0 38 o3 (En 38 k1 N2) k1 (B3 P N2) := fun _ _ _ _ _ _  => by kernel_rfl
noncomputable def o4 := ob Try.f110 [.r,.r,.l,.r,.l,.l,.r,.l,.l,.r,.l]
def B4 (P : PT) (N2 : NTy k1 Pr) (x1 : Int) (x2 : Nat) (x5 : Value) (x6 : Int) (H : AHeap) : Prop :=
  newK H [(Value.int .i64 x6)] 2 (fun b1 H2 => apK T0 2 H2 x5 (Value.slice (some ⟨b1, 0, none⟩) 1 (1 + 1)) (fun v3 H4 => B3 P N2 x1 x2 v3 x6 H4))
theorem q4 (P : PT) (N2 : NTy k1 Pr) : QB Try.prog T0 38 o4 (En 38 k1 (B3 P N2)) k1 (B4 P N2) := fun _ _ _ _ _ _  => by kernel_rfl
noncomputable def o5 := ob Try.f110 [.r,.r,.l,.r,.l,.l,.r,.l,.l,.l]
def B5 (P : PT) (N2 : NTy k1 Pr) (x1 : Int) (x2 : Nat) (x5 : Value) (x6 : Int) (H : AHeap) : Prop :=
  ld1 H x2 1 (fun v1 => idxK v1 x6 2 (fun b2 o3 => ldI .i64 H b2 o3 (fun v4 => pif ((v4 : Int) == x1) (B4 P N2 x1 x2 x5 x6 H) (ld1 H x2 1 (fun v5 => idxK v5 x6 2 (fun b6 o7 => ldI .i64 H b6 (o7 + 1) (fun v8 => pif ((v8 : Int) == x1) (B4 P N2 x1 x2 x5 x6 H) (B3 P N2 x1 x2 x5 x6 H))))))))
theorem q5 (P : PT) (N2 : NTy k1 Pr) : QB Try.prog T0 38 o5 (cnd 32 (En 38 k1 (B4 P N2)) (En 38 k1 (B3 P N2))) k1 (B5 P N2) := fun _ _ _ _ _ _  => by kernel_rfl
noncomputable def o6 := ob Try.f110 [.r,.r,.l,.r,.l,.l,.l,.l]
def B6 (P : PT) (N2 : NTy k1 Pr) (x1 : Int) (x2 : Nat) (x5 : Value) (x6 : Int) (H : AHeap) : Prop :=
  ld1 H x2 1 (fun v1 => lenK v1 (fun n2 => pif (decide ((x6 : Int) < (n2 : Int))) (B5 P N2 x1 x2 x5 x6 H) (B1 P x5 H)))
theorem q6 (P : PT) (N2 : NTy k1 Pr) : QB Try.prog T0 38 o6 (cnd 12 (En 38 k1 (B5 P N2)) (En 38 k0 (B1 P))) k1 (B6 P N2) := fun _ _ _ _ _ _  => by kernel_rfl
def L2 (P : PT) (x1 : Int) (x2 : Nat) (x5 : Value) (x6 : Int) (H : AHeap) : Prop :=
  ∃ (I : NTy k1 Pr) (μ : NTy k1 (AHeap → Nat)), I x1 x2 x5 x6 H ∧ ∀ y1 y2 y5 y6 G, I y1 y2 y5 y6 G → B6 P (fun z1 z2 z5 z6 G' => I z1 z2 z5 z6 G' ∧ μ z1 z2 z5 z6 G' < μ y1 y2 y5 y6 G) y1 y2 y5 y6 G
theorem l2 (P : PT) : LQ k1 (L2 P) (B6 P) := fun ⟨_,_,_,_,_⟩ _ ⟨I, μ, h0, hI⟩ => ⟨apT _ I, apT _ μ, h0, fun ⟨_,_,_,_,_⟩ _ h => hI _ _ _ _ _  h⟩
abbrev k2 : Sk := [(1,.i .i64),(2,.x),(5,.v)]
noncomputable def o7 := ob Try.f110 [.r,.r,.l,.l]
def B7 (P : PT) (x1 : Int) (x2 : Nat) (x5 : Value) (H : AHeap) : Prop :=
  L2 P x1 x2 x5 0 H
theorem q7 (P : PT) : QB Try.prog T0 38 o7 (En 38 k1 (L2 P)) k2 (B7 P) := fun _ _ _ _ _  => by kernel_rfl
abbrev k3 : Sk := [(1,.i .i64),(2,.x)]
noncomputable def o8 := ob Try.f110 [.r,.l]
def B8 (P : PT) (x1 : Int) (x2 : Nat) (H : AHeap) : Prop :=
  newK H [] 2 (fun b1 H2 => B7 P x1 x2 (Value.slice (some ⟨b1, 0, none⟩) 0 (0 + 1)) H2)
theorem q8 (P : PT) : QB Try.prog T0 38 o8 (En 38 k2 (B7 P)) k3 (B8 P) := fun _ _ _ _  => by kernel_rfl
abbrev k4 : Sk := [(0,.g [.i,.v]),(1,.i .i64)]
noncomputable def o9 := ob Try.f110 [.l]
def B9 (P : PT) (x0a : Int) (x0b : Value) (x1 : Int) (H : AHeap) : Prop :=
  newK H [(Value.int .i64 x0a), x0b] 31 (fun b1 H2 => B8 P x1 b1 H2)
theorem q9 (P : PT) : QB Try.prog T0 38 o9 (En 38 k3 (B8 P)) k4 (B9 P) := fun _ _ _ _ _  => by kernel_rfl
noncomputable def code : Code := (.seq (.region 0 ⟨o9⟩ false) (.seq (.region 1 ⟨o8⟩ false) (.seq (.seq (.region 2 ⟨o7⟩ false) (.block 0 (.loop (.seq (.seq (.region 3 ⟨o6⟩ false) (.cond (.tmp 12) .skip (.exit 0))) (.seq (.block 1 (.seq (.region 5 ⟨o5⟩ false) (.cond (.tmp 32) (.region 6 ⟨o4⟩ false) .skip))) (.region 4 ⟨o3⟩ false)))))) (.seq (.region 7 ⟨o1⟩ false) .ret))))
theorem body : Try.f110.body = some code := by kernel_rfl
theorem main (P : PT) : ∀ env H, (En 38 k4 (B9 P)) env H → AW Try.prog T0 code env H (mkQ (ret P) (fun _ _ _ => False) (ret P)) :=
  (r_seq (rB T0_ok (q9 P)) (r_seq (rB T0_ok (q8 P)) (r_seq (r_seq (rB T0_ok (q7 P)) (r_block (rL (l2 P) (fun N2 => (r_seq (r_seq (rB T0_ok (q6 P N2)) (r_cond rfl r_skip (r_exit (fun _ _ h => h)))) (r_seq (r_block (r_seq (rB T0_ok (q5 P N2)) (r_cond rfl (rB T0_ok (q4 P N2)) r_skip))) (rB T0_ok (q3 P N2)))))))) (r_seq (rB T0_ok (q1 P)) r_ret))))
theorem ac (P : PT) (x0a : Int) (x0b : Value) (x1 : Int) (H : AHeap) (h : B9 P x0a x0b x1 H) : AC Try.prog T0 110 [(Value.agg ⟨[(Value.int .i64 x0a), x0b]⟩), (Value.int .i64 x1)] H P :=
  r_fn T0_ok (c := code) (n := 38) Try.func110 body (by kernel_rfl) (main P) (En_mk (x0a, x0b, x1, ()) (by kernel_rfl) ⟨by kernel_rfl, by kernel_rfl, trivial⟩ h)

end F110
-- loop.example/g01329/spec.l01Other
namespace F111
noncomputable def ret (P : PT) : EP := retE T0 22 Try.f111 P
abbrev k0 : Sk := [(1,.i .i64),(2,.i .i64),(3,.x)]
noncomputable def o1 := ob Try.f111 [.r,.l]
def B1 (P : PT) (x1 x2 : Int) (x3 : Nat) (H : AHeap) : Prop :=
  ld1 H x3 1 (fun v1 => idxK v1 x1 2 (fun b2 o3 => ldI .i64 H b2 o3 (fun v4 => ld1 H x3 1 (fun v5 => idxK v5 x1 2 (fun b6 o7 => ldI .i64 H b6 (o7 + 1) (fun v8 => P (Value.int .i64 (IntKind.i64.wrap ((IntKind.i64.wrap (v4 + v8)) - x2))) H))))))
theorem q1 (P : PT) : QD Try.prog T0 22 o1 [(0, false), (1, false), (2, false), (3, false), (4, false), (5, false), (6, false), (7, false), (8, false), (9, false), (10, false), (11, false), (12, false), (13, false), (14, false), (15, false)] (ret P) k0 (B1 P) := fun _ _ _ _ _  => by kernel_rfl
abbrev k1 : Sk := [(0,.g [.i,.v]),(1,.i .i64),(2,.i .i64)]
noncomputable def o2 := ob Try.f111 [.l]
def B2 (P : PT) (x0a : Int) (x0b : Value) (x1 x2 : Int) (H : AHeap) : Prop :=
  newK H [(Value.int .i64 x0a), x0b] 31 (fun b1 H2 => B1 P x1 x2 b1 H2)
theorem q2 (P : PT) : QB Try.prog T0 22 o2 (En 22 k0 (B1 P)) k1 (B2 P) := fun _ _ _ _ _ _  => by kernel_rfl
noncomputable def code : Code := (.seq (.region 0 ⟨o2⟩ false) (.seq (.region 1 ⟨o1⟩ true) .ret))
theorem body : Try.f111.body = some code := by kernel_rfl
theorem main (P : PT) : ∀ env H, (En 22 k1 (B2 P)) env H → AW Try.prog T0 code env H (mkQ (ret P) (fun _ _ _ => False) (ret P)) :=
  (r_seq (rB T0_ok (q2 P)) (r_seq (rD T0_ok mixed [(0, false), (1, false), (2, false), (3, false), (4, false), (5, false), (6, false), (7, false), (8, false), (9, false), (10, false), (11, false), (12, false), (13, false), (14, false), (15, false)] (by kernel_rfl) (q1 P)) r_ret))
theorem ac (P : PT) (x0a : Int) (x0b : Value) (x1 x2 : Int) (H : AHeap) (h : B2 P x0a x0b x1 x2 H) : AC Try.prog T0 111 [(Value.agg ⟨[(Value.int .i64 x0a), x0b]⟩), (Value.int .i64 x1), (Value.int .i64 x2)] H P :=
  r_fn T0_ok (c := code) (n := 22) Try.func111 body (by kernel_rfl) (main P) (En_mk (x0a, x0b, x1, x2, ()) (by kernel_rfl) ⟨by kernel_rfl, by kernel_rfl, by kernel_rfl, trivial⟩ h)

end F111
-- loop.example/g01329/impl.length[int64]
namespace F112
noncomputable def ret (P : PT) : EP := retE T0 5 Try.f112 P
abbrev k0 : Sk := [(0,.v)]
noncomputable def o1 := ob Try.f112 [.r,.l]
def B1 (P : PT) (x0 : Value) (H : AHeap) : Prop :=
  lenK x0 (fun n1 => P (Value.int .i64 (n1 : Int)) H)
theorem q1 (P : PT) : QB Try.prog T0 5 o1 (ret P) k0 (B1 P) := fun _ _ _  => by kernel_rfl
noncomputable def o2 := ob Try.f112 [.l]
def B2 (P : PT) (x0 : Value) (H : AHeap) : Prop :=
  B1 P x0 H
theorem q2 (P : PT) : QB Try.prog T0 5 o2 (En 5 k0 (B1 P)) k0 (B2 P) := fun _ _ _  => by kernel_rfl
noncomputable def code : Code := (.seq (.region 0 ⟨o2⟩ false) (.seq (.region 1 ⟨o1⟩ false) .ret))
theorem body : Try.f112.body = some code := by kernel_rfl
theorem main (P : PT) : ∀ env H, (En 5 k0 (B2 P)) env H → AW Try.prog T0 code env H (mkQ (ret P) (fun _ _ _ => False) (ret P)) :=
  (r_seq (rB T0_ok (q2 P)) (r_seq (rB T0_ok (q1 P)) r_ret))
theorem ac (P : PT) (x0 : Value) (H : AHeap) (h : B2 P x0 H) : AC Try.prog T0 112 [x0] H P :=
  r_fn T0_ok (c := code) (n := 5) Try.func112 body (by kernel_rfl) (main P) (En_mk (x0, ()) (by kernel_rfl) ⟨by kernel_rfl, trivial⟩ h)

end F112
-- (loop.example/g01329/impl.Graph).cycles
namespace F113
noncomputable def ret (P : PT) : EP := retE T0 81 Try.f113 P
abbrev k0 : Sk := [(5,.v)]
noncomputable def o1 := ob Try.f113 [.r,.r,.r,.l]
def B1 (P : PT) (x5 : Value) (H : AHeap) : Prop :=
  P x5 H
theorem q1 (P : PT) : QB Try.prog T0 81 o1 (ret P) k0 (B1 P) := fun _ _ _  => by kernel_rfl
abbrev k1 : Sk := [(1,.i .u64),(2,.x),(5,.v),(15,.v),(16,.i .i64),(17,.i .i64)]
noncomputable def o3 := ob Try.f113 [.r,.r,.l,.r,.l,.l,.r,.r,.r]
def B3 (P : PT) (N2 : NTy k1 Pr) (x1 : Int) (x2 : Nat) (x5 x15 : Value) (x16 x17 : Int) (H : AHeap) : Prop :=
  N2 x1 x2 x5 x15 x16 (IntKind.i64.wrap (x17 + 1)) H
theorem q3 (P : PT) (N2 : NTy k1 Pr) : QB Try.prog T0 81 o3 (En 81 k1 N2) k1 (B3 P N2) := fun _ _ _ _ _ _ _ _  => by kernel_rfl
abbrev k2 : Sk := [(1,.i .u64),(2,.x),(5,.v),(8,.i .u64),(15,.v),(16,.i .i64),(17,.i .i64)]
noncomputable def o4 := ob Try.f113 [.r,.r,.l,.r,.l,.l,.r,.r,.l,.l,.r,.r,.r,.r]
def B4 (P : PT) (N2 : NTy k1 Pr) (x1 : Int) (x2 : Nat) (x5 : Value) (x8 : Int) (x15 : Value) (x16 x17 : Int) (H : AHeap) : Prop :=
  newK H [(Value.int .u64 x8)] 82 (fun b1 H2 => apK T0 82 H2 x5 (Value.slice (some ⟨b1, 0, none⟩) 1 (1 + 1)) (fun v3 H4 => B3 P N2 x1 x2 v3 x15 x16 x17 H4))
theorem q4 (P : PT) (N2 : NTy k1 Pr) : QB Try.prog T0 81 o4 (En 81 k1 (B3 P N2)) k2 (B4 P N2) := fun _ _ _ _ _ _ _ _ _  => by kernel_rfl
abbrev k3 : Sk := [(1,.i .u64),(2,.x),(5,.v),(8,.i .u64),(9,.v),(15,.v),(16,.i .i64),(17,.i .i64)]
noncomputable def o6 := ob Try.f113 [.r,.r,.l,.r,.l,.l,.r,.r,.l,.l,.r,.r,.r,.l,.r,.l,.l,.r,.r]
def B6 (P : PT) (N2 : NTy k1 Pr) (N5 : NTy k3 Pr) (x1 : Int) (x2 : Nat) (x5 : Value) (x8 : Int) (x9 x15 : Value) (x16 x17 : Int) (H : AHeap) : Prop :=
  sliceK H 2 x9 (some (Value.int .i64 1)) none 1 (fun v1 => N5 x1 x2 x5 x8 v1 x15 x16 x17 H)
theorem q6 (P : PT) (N2 : NTy k1 Pr) (N5 : NTy k3 Pr) : QB Try.prog T0 81 o6 (En 81 k3 N5) k3 (B6 P N2 N5) := fun _ _ _ _ _ _ _ _ _ _  => by kernel_rfl
abbrev k4 : Sk := [(1,.i .u64),(2,.x),(5,.v),(8,.i .u64),(9,.v),(15,.v),(16,.i .i64),(17,.i .i64),(44,.g [.i,.i]),(45,.i .i64)]
noncomputable def o8 := ob Try.f113 [.r,.r,.l,.r,.l,.l,.r,.r,.l,.l,.r,.r,.r,.l,.r,.l,.l,.r,.l,.l,.r,.l,.l,.r,.r,.r]
def B8 (P : PT) (N2 : NTy k1 Pr) (N5 : NTy k3 Pr) (N7 : NTy k4 Pr) (x1 : Int) (x2 : Nat) (x5 : Value) (x8 : Int) (x9 x15 : Value) (x16 x17 x44a x44b x45 : Int) (H : AHeap) : Prop :=
  N7 x1 x2 x5 x8 x9 x15 x16 x17 x44a x44b (IntKind.i64.wrap (x45 + 1)) H
theorem q8 (P : PT) (N2 : NTy k1 Pr) (N5 : NTy k3 Pr) (N7 : NTy k4 Pr) : QB Try.prog T0 81 o8 (En 81 k4 N7) k4 (B8 P N2 N5 N7) := fun _ _ _ _ _ _ _ _ _ _ _ _ _  => by kernel_rfl
abbrev k5 : Sk := [(1,.i .u64),(2,.x),(5,.v),(8,.i .u64),(9,.v),(15,.v),(16,.i .i64),(17,.i .i64),(44,.g [.i,.i]),(45,.i .i64),(50,.v),(51,.i .i64),(52,.i .i64)]
noncomputable def o10 := ob Try.f113 [.r,.r,.l,.r,.l,.l,.r,.r,.l,.l,.r,.r,.r,.l,.r,.l,.l,.r,.l,.l,.r,.l,.l,.r,.r,.l,.l,.r,.r,.l,.l,.r,.r,.r]
def B10 (P : PT) (N2 : NTy k1 Pr) (N5 : NTy k3 Pr) (N7 : NTy k4 Pr) (N9 : NTy k5 Pr) (x1 : Int) (x2 : Nat) (x5 : Value) (x8 : Int) (x9 x15 : Value) (x16 x17 x44a x44b x45 : Int) (x50 : Value) (x51 x52 : Int) (H : AHeap) : Prop :=
  N9 x1 x2 x5 x8 x9 x15 x16 x17 x44a x44b x45 x50 x51 (IntKind.i64.wrap (x52 + 1)) H
theorem q10 (P : PT) (N2 : NTy k1 Pr) (N5 : NTy k3 Pr) (N7 : NTy k4 Pr) (N9 : NTy k5 Pr) : QB Try.prog T0 81 o10 (En 81 k5 N9) k5 (B10 P N2 N5 N7 N9) := fun _ _ _ _ _ _ _ _ _ _ _ _ _ _ _ _  => by kernel_rfl
abbrev k6 : Sk := [(1,.i .u64),(2,.x),(5,.v),(8,.i .u64),(9,.v),(13,.i .i64),(15,.v),(16,.i .i64),(17,.i .i64),(44,.g [.i,.i]),(45,.i .i64),(50,.v),(51,.i .i64),(52,.i .i64)]
noncomputable def o11 := ob Try.f113 [.r,.r,.l,.r,.l,.l,.r,.r,.l,.l,.r,.r,.r,.l,.r,.l,.l,.r,.l,.l,.r,.l,.l,.r,.r,.l,.l,.r,.r,.l,.l,.r,.r,.l,.l,.r,.r,.l,.r]
def B11 (P : PT) (N2 : NTy k1 Pr) (N5 : NTy k3 Pr) (N7 : NTy k4 Pr) (N9 : NTy k5 Pr) (x1 : Int) (x2 : Nat) (x5 : Value) (x8 : Int) (x9 : Value) (x13 : Int) (x15 : Value) (x16 x17 x44a x44b x45 : Int) (x50 : Value) (x51 x52 : Int) (H : AHeap) : Prop :=
  newK H [(Value.int .i64 x13)] 2 (fun b1 H2 => apK T0 2 H2 x9 (Value.slice (some ⟨b1, 0, none⟩) 1 (1 + 1)) (fun v3 H4 => B10 P N2 N5 N7 N9 x1 x2 x5 x8 v3 x15 x16 x17 x44a x44b x45 x50 x51 x52 H4))
theorem q11 (P : PT) (N2 : NTy k1 Pr) (N5 : NTy k3 Pr) (N7 : NTy k4 Pr) (N9 : NTy k5 Pr) : QB Try.prog T0 81 o11 (En 81 k5 (B10 P N2 N5 N7 N9)) k6 (B11 P N2 N5 N7 N9) := fun _ _ _ _ _ _ _ _ _ _ _ _ _ _ _ _ _  => by kernel_rfl
noncomputable def o12 := ob Try.f113 [.r,.r,.l,.r,.l,.l,.r,.r,.l,.l,.r,.r,.r,.l,.r,.l,.l,.r,.l,.l,.r,.l,.l,.r,.r,.l,.l,.r,.r,.l,.l,.r,.r,.l,.l,.r,.r,.l,.l]
def B12 (P : PT) (N2 : NTy k1 Pr) (N5 : NTy k3 Pr) (N7 : NTy k4 Pr) (N9 : NTy k5 Pr) (x1 : Int) (x2 : Nat) (x5 : Value) (x8 : Int) (x9 : Value) (x13 : Int) (x15 : Value) (x16 x17 x44a x44b x45 : Int) (x50 : Value) (x51 x52 : Int) (H : AHeap) : Prop :=
  ((0 : Int) ≤ x13) ∧ (B11 P N2 N5 N7 N9 x1 x2 x5 (IntKind.u64.wrap (BitVec.ofInt 64 x8 ||| BitVec.ofInt 64 (IntKind.u64.wrap (1 * 2 ^ (min (Int.toNat x13) 64)))).toNat) x9 x13 x15 x16 x17 x44a x44b x45 x50 x51 x52 H)
theorem q12 (P : PT) (N2 : NTy k1 Pr) (N5 : NTy k3 Pr) (N7 : NTy k4 Pr) (N9 : NTy k5 Pr) : QB Try.prog T0 81 o12 (En 81 k6 (B11 P N2 N5 N7 N9)) k6 (B12 P N2 N5 N7 N9) := fun _ _ _ _ _ _ _ _ _ _ _ _ _ _ _ _ _  => by kernel_rfl
noncomputable def o13 := ob Try.f113 [.r,.r,.l,.r,.l,.l,.r,.r,.l,.l,.r,.r,.r,.l,.r,.l,.l,.r,.l,.l,.r,.l,.l,.r,.r,.l,.l,.r,.r,.l,.l,.r,.r,.l,.l,.r,.l]
def B13 (P : PT) (N2 : NTy k1 Pr) (N5 : NTy k3 Pr) (N7 : NTy k4 Pr) (N9 : NTy k5 Pr) (x1 : Int) (x2 : Nat) (x5 : Value) (x8 : Int) (x9 : Value) (x13 : Int) (x15 : Value) (x16 x17 x44a x44b x45 : Int) (x50 : Value) (x51 x52 : Int) (H : AHeap) : Prop :=
  AC Try.prog T0 79 [(Value.int .u64 x1), (Value.int .i64 x13)] H (fun v1 H2 => asB v1 (fun v3 => pif v3 (AC Try.prog T0 79 [(Value.int .u64 x8), (Value.int .i64 x13)] H2 (fun v4 H5 => asB v4 (fun v6 => pif (!v6) (B12 P N2 N5 N7 N9 x1 x2 x5 x8 x9 x13 x15 x16 x17 x44a x44b x45 x50 x51 x52 H5) (B10 P N2 N5 N7 N9 x1 x2 x5 x8 x9 x15 x16 x17 x44a x44b x45 x50 x51 x52 H5)))) (B10 P N2 N5 N7 N9 x1 x2 x5 x8 x9 x15 x16 x17 x44a x44b x45 x50 x51 x52 H2)))
theorem q13 (P : PT) (N2 : NTy k1 Pr) (N5 : NTy k3 Pr) (N7 : NTy k4 Pr) (N9 : NTy k5 Pr) : QB Try.prog T0 81 o13 (cnd 64 (En 81 k6 (B12 P N2 N5 N7 N9)) (En 81 k5 (B10 P N2 N5 N7 N9))) k6 (B13 P N2 N5 N7 N9) := fun _ _ _ _ _ _ _ _ _ _ _ _ _ _ _ _ _  => by kernel_rfl
noncomputable def o14 := ob Try.f113 [.r,.r,.l,.r,.l,.l,.r,.r,.l,.l,.r,.r,.r,.l,.r,.l,.l,.r,.l,.l,.r,.l,.l,.r,.r,.l,.l,.r,.r,.l,.l,.r,.r,.l,.l,.l]
def B14 (P : PT) (N2 : NTy k1 Pr) (N5 : NTy k3 Pr) (N7 : NTy k4 Pr) (N9 : NTy k5 Pr) (x1 : Int) (x2 : Nat) (x5 : Value) (x8 : Int) (x9 x15 : Value) (x16 x17 x44a x44b x45 : Int) (x50 : Value) (x51 x52 : Int) (H : AHeap) : Prop :=
  idxK x50 x52 1 (fun b1 o2 => ldI .i64 H b1 o2 (fun v3 => B13 P N2 N5 N7 N9 x1 x2 x5 x8 x9 v3 x15 x16 x17 x44a x44b x45 x50 x51 x52 H))
theorem q14 (P : PT) (N2 : NTy k1 Pr) (N5 : NTy k3 Pr) (N7 : NTy k4 Pr) (N9 : NTy k5 Pr) : QB Try.prog T0 81 o14 (En 81 k6 (B13 P N2 N5 N7 N9)) k5 (B14 P N2 N5 N7 N9) := fun _ _ _ _ _ _ _ _ _ _ _ _ _ _ _ _  => by kernel_rfl
noncomputable def o15 := ob Try.f113 [.r,.r,.l,.r,.l,.l,.r,.r,.l,.l,.r,.r,.r,.l,.r,.l,.l,.r,.l,.l,.r,.l,.l,.r,.r,.l,.l,.r,.r,.l,.l,.l]
def B15 (P : PT) (N2 : NTy k1 Pr) (N5 : NTy k3 Pr) (N7 : NTy k4 Pr) (N9 : NTy k5 Pr) (x1 : Int) (x2 : Nat) (x5 : Value) (x8 : Int) (x9 x15 : Value) (x16 x17 x44a x44b x45 : Int) (x50 : Value) (x51 x52 : Int) (H : AHeap) : Prop :=
  pif (decide ((x52 : Int) < x51)) (B14 P N2 N5 N7 N9 x1 x2 x5 x8 x9 x15 x16 x17 x44a x44b x45 x50 x51 x52 H) (B8 P N2 N5 N7 x1 x2 x5 x8 x9 x15 x16 x17 x44a x44b x45 H)
theorem q15 (P : PT) (N2 : NTy k1 Pr) (N5 : NTy k3 Pr) (N7 : NTy k4 Pr) (N9 : NTy k5 Pr) : QB Try.prog T0 81 o15 (cnd 53 (En 81 k5 (B14 P N2 N5 N7 N9)) (En 81 k4 (B8 P N2 N5 N7))) k5 (B15 P N2 N5 N7 N9) := fun _ _ _ _ _ _ _ _ _ _ _ _ _ _ _ _  => by kernel_rfl
def L9 (P : PT) (N2 : NTy k1 Pr) (N5 : NTy k3 Pr) (N7 : NTy k4 Pr) (x1 : Int) (x2 : Nat) (x5 : Value) (x8 : Int) (x9 x15 : Value) (x16 x17 x44a x44b x45 : Int) (x50 : Value) (x51 x52 : Int) (H : AHeap) : Prop :=
  ∃ (I : NTy k5 Pr) (μ : NTy k5 (AHeap → Nat)), I x1 x2 x5 x8 x9 x15 x16 x17 x44a x44b x45 x50 x51 x52 H ∧ ∀ y1 y2 y5 y8 y9 y15 y16 y17 y44a y44b y45 y50 y51 y52 G, I y1 y2 y5 y8 y9 y15 y16 y17 y44a y44b y45 y50 y51 y52 G → B15 P N2 N5 N7 (fun z1 z2 z5 z8 z9 z15 z16 z17 z44a z44b z45 z50 z51 z52 G' => I z1 z2 z5 z8 z9 z15 z16 z17 z44a z44b z45 z50 z51 z52 G' ∧ μ z1 z2 z5 z8 z9 z15 z16 z17 z44a z44b z45 z50 z51 z52 G' < μ y1 y2 y5 y8 y9 y15 y16 y17 y44a y44b y45 y50 y51 y52 G) y1 y2 y5 y8 y9 y15 y16 y17 y44a y44b y45 y50 y51 y52 G
theorem l9 (P : PT) (N2 : NTy k1 Pr) (N5 : NTy k3 Pr) (N7 : NTy k4 Pr) : LQ k5 (L9 P N2 N5 N7) (B15 P N2 N5 N7) := fun ⟨_,_,_,_,_,_,_,_,_,_,_,_,_,_,_⟩ _ ⟨I, μ, h0, hI⟩ => ⟨apT _ I, apT _ μ, h0, fun ⟨_,_,_,_,_,_,_,_,_,_,_,_,_,_,_⟩ _ h => hI _ _ _ _ _ _ _ _ _ _ _ _ _ _ _  h⟩
abbrev k7 : Sk := [(1,.i .u64),(2,.x),(5,.v),(8,.i .u64),(9,.v),(11,.i .i64),(15,.v),(16,.i .i64),(17,.i .i64),(44,.g [.i,.i]),(45,.i .i64)]
noncomputable def o16 := ob Try.f113 [.r,.r,.l,.r,.l,.l,.r,.r,.l,.l,.r,.r,.r,.l,.r,.l,.l,.r,.l,.l,.r,.l,.l,.r,.r,.l,.l,.r,.l]
def B16 (P : PT) (N2 : NTy k1 Pr) (N5 : NTy k3 Pr) (N7 : NTy k4 Pr) (x1 : Int) (x2 : Nat) (x5 : Value) (x8 : Int) (x9 : Value) (x11 : Int) (x15 : Value) (x16 x17 x44a x44b x45 : Int) (H : AHeap) : Prop :=
  ldI .i64 H x2 0 (fun v1 => ld1 H x2 1 (fun v2 => AC Try.prog T0 95 [(Value.agg ⟨[(Value.int .i64 v1), v2]⟩), (Value.int .i64 x11)] H (fun v3 H4 => lenK v3 (fun n6 => L9 P N2 N5 N7 x1 x2 x5 x8 x9 x15 x16 x17 x44a x44b x45 v3 (n6 : Int) 0 H4))))
theorem q16 (P : PT) (N2 : NTy k1 Pr) (N5 : NTy k3 Pr) (N7 : NTy k4 Pr) : QB Try.prog T0 81 o16 (En 81 k5 (L9 P N2 N5 N7)) k7 (B16 P N2 N5 N7) := fun _ _ _ _ _ _ _ _ _ _ _ _ _ _  => by kernel_rfl
noncomputable def o17 := ob Try.f113 [.r,.r,.l,.r,.l,.l,.r,.r,.l,.l,.r,.r,.r,.l,.r,.l,.l,.r,.l,.l,.r,.l,.l,.r,.r,.l,.l,.l]
def B17 (P : PT) (N2 : NTy k1 Pr) (N5 : NTy k3 Pr) (N7 : NTy k4 Pr) (x1 : Int) (x2 : Nat) (x5 : Value) (x8 : Int) (x9 x15 : Value) (x16 x17 x44a x44b x45 : Int) (H : AHeap) : Prop :=
  bndK x45 2 (atK [(Value.int .i64 x44a), (Value.int .i64 x44b)] (Int.toNat x45 * 1) (fun v1 => asI .i64 v1 (fun v2 => B16 P N2 N5 N7 x1 x2 x5 x8 x9 v2 x15 x16 x17 x44a x44b x45 H)))
theorem q17 (P : PT) (N2 : NTy k1 Pr) (N5 : NTy k3 Pr) (N7 : NTy k4 Pr) : QB Try.prog T0 81 o17 (En 81 k7 (B16 P N2 N5 N7)) k4 (B17 P N2 N5 N7) := fun _ _ _ _ _ _ _ _ _ _ _ _ _  => by kernel_rfl
noncomputable def o18 := ob Try.f113 [.r,.r,.l,.r,.l,.l,.r,.r,.l,.l,.r,.r,.r,.l,.r,.l,.l,.r,.l,.l,.r,.l,.l,.l]
def B18 (P : PT) (N2 : NTy k1 Pr) (N5 : NTy k3 Pr) (N7 : NTy k4 Pr) (x1 : Int) (x2 : Nat) (x5 : Value) (x8 : Int) (x9 x15 : Value) (x16 x17 x44a x44b x45 : Int) (H : AHeap) : Prop :=
  pif (decide ((x45 : Int) < 2)) (B17 P N2 N5 N7 x1 x2 x5 x8 x9 x15 x16 x17 x44a x44b x45 H) (B6 P N2 N5 x1 x2 x5 x8 x9 x15 x16 x17 H)
theorem q18 (P : PT) (N2 : NTy k1 Pr) (N5 : NTy k3 Pr) (N7 : NTy k4 Pr) : QB Try.prog T0 81 o18 (cnd 46 (En 81 k4 (B17 P N2 N5 N7)) (En 81 k3 (B6 P N2 N5))) k4 (B18 P N2 N5 N7) := fun _ _ _ _ _ _ _ _ _ _ _ _ _  => by kernel_rfl
def L7 (P : PT) (N2 : NTy k1 Pr) (N5 : NTy k3 Pr) (x1 : Int) (x2 : Nat) (x5 : Value) (x8 : Int) (x9 x15 : Value) (x16 x17 x44a x44b x45 : Int) (H : AHeap) : Prop :=
  ∃ (I : NTy k4 Pr) (μ : NTy k4 (AHeap → Nat)), I x1 x2 x5 x8 x9 x15 x16 x17 x44a x44b x45 H ∧ ∀ y1 y2 y5 y8 y9 y15 y16 y17 y44a y44b y45 G, I y1 y2 y5 y8 y9 y15 y16 y17 y44a y44b y45 G → B18 P N2 N5 (fun z1 z2 z5 z8 z9 z15 z16 z17 z44a z44b z45 G' => I z1 z2 z5 z8 z9 z15 z16 z17 z44a z44b z45 G' ∧ μ z1 z2 z5 z8 z9 z15 z16 z17 z44a z44b z45 G' < μ y1 y2 y5 y8 y9 y15 y16 y17 y44a y44b y45 G) y1 y2 y5 y8 y9 y15 y16 y17 y44a y44b y45 G
theorem l7 (P : PT) (N2 : NTy k1 Pr) (N5 : NTy k3 Pr) : LQ k4 (L7 P N2 N5) (B18 P N2 N5) := fun ⟨_,_,_,_,_,_,_,_,_,_,_,_⟩ _ ⟨I, μ, h0, hI⟩ => ⟨apT _ I, apT _ μ, h0, fun ⟨_,_,_,_,_,_,_,_,_,_,_,_⟩ _ h => hI _ _ _ _ _ _ _ _ _ _ _ _  h⟩
noncomputable def o19 := ob Try.f113 [.r,.r,.l,.r,.l,.l,.r,.r,.l,.l,.r,.r,.r,.l,.r,.l,.l,.r,.l,.l,.l]
def B19 (P : PT) (N2 : NTy k1 Pr) (N5 : NTy k3 Pr) (x1 : Int) (x2 : Nat) (x5 : Value) (x8 : Int) (x9 x15 : Value) (x16 x17 : Int) (H : AHeap) : Prop :=
  ld1 H x2 1 (fun v1 => idxK x9 0 1 (fun b2 o3 => ldI .i64 H b2 o3 (fun v4 => idxK v1 v4 2 (fun b5 o6 => ldI .i64 H b5 o6 (fun v7 => ldI .i64 H b5 (o6 + 1) (fun v8 => L7 P N2 N5 x1 x2 x5 x8 x9 x15 x16 x17 v7 v8 0 H))))))
theorem q19 (P : PT) (N2 : NTy k1 Pr) (N5 : NTy k3 Pr) : QD Try.prog T0 81 o19 [(0, false), (1, false), (2, false), (3, false), (4, false), (5, false), (6, false), (7, false)] (En 81 k4 (L7 P N2 N5)) k3 (B19 P N2 N5) := fun _ _ _ _ _ _ _ _ _ _  => by kernel_rfl
noncomputable def o20 := ob Try.f113 [.r,.r,.l,.r,.l,.l,.r,.r,.l,.l,.r,.r,.r,.l,.r,.l,.l,.l,.l]
def B20 (P : PT) (N2 : NTy k1 Pr) (N5 : NTy k3 Pr) (x1 : Int) (x2 : Nat) (x5 : Value) (x8 : Int) (x9 x15 : Value) (x16 x17 : Int) (H : AHeap) : Prop :=
  lenK x9 (fun n1 => pif (decide (((n1 : Int) : Int) > 0)) (B19 P N2 N5 x1 x2 x5 x8 x9 x15 x16 x17 H) (B4 P N2 x1 x2 x5 x8 x15 x16 x17 H))
theorem q20 (P : PT) (N2 : NTy k1 Pr) (N5 : NTy k3 Pr) : QB Try.prog T0 81 o20 (cnd 35 (En 81 k3 (B19 P N2 N5)) (En 81 k2 (B4 P N2))) k3 (B20 P N2 N5) := fun _ _ _ _ _ _ _ _ _ _  => by kernel_rfl
def L5 (P : PT) (N2 : NTy k1 Pr) (x1 : Int) (x2 : Nat) (x5 : Value) (x8 : Int) (x9 x15 : Value) (x16 x17 : Int) (H : AHeap) : Prop :=
  ∃ (I : NTy k3 Pr) (μ : NTy k3 (AHeap → Nat)), I x1 x2 x5 x8 x9 x15 x16 x17 H ∧ ∀ y1 y2 y5 y8 y9 y15 y16 y17 G, I y1 y2 y5 y8 y9 y15 y16 y17 G → B20 P N2 (fun z1 z2 z5 z8 z9 z15 z16 z17 G' => I z1 z2 z5 z8 z9 z15 z16 z17 G' ∧ μ z1 z2 z5 z8 z9 z15 z16 z17 G' < μ y1 y2 y5 y8 y9 y15 y16 y17 G) y1 y2 y5 y8 y9 y15 y16 y17 G
theorem l5 (P : PT) (N2 : NTy k1 Pr) : LQ k3 (L5 P N2) (B20 P N2) := fun ⟨_,_,_,_,_,_,_,_,_⟩ _ ⟨I, μ, h0, hI⟩ => ⟨apT _ I, apT _ μ, h0, fun ⟨_,_,_,_,_,_,_,_,_⟩ _ h => hI _ _ _ _ _ _ _ _ _  h⟩
abbrev k8 : Sk := [(1,.i .u64),(2,.x),(5,.v),(7,.x),(8,.i .u64),(15,.v),(16,.i .i64),(17,.i .i64)]
noncomputable def o21 := ob Try.f113 [.r,.r,.l,.r,.l,.l,.r,.r,.l,.l,.r,.r,.r,.l,.l]
def B21 (P : PT) (N2 : NTy k1 Pr) (x1 : Int) (x2 : Nat) (x5 : Value) (x7 : Nat) (x8 : Int) (x15 : Value) (x16 x17 : Int) (H : AHeap) : Prop :=
  ldI .i64 H x7 0 (fun v1 => newK H [(Value.int .i64 v1)] 2 (fun b2 H3 => L5 P N2 x1 x2 x5 x8 (Value.slice (some ⟨b2, 0, none⟩) 1 (1 + 1)) x15 x16 x17 H3))
theorem q21 (P : PT) (N2 : NTy k1 Pr) : QB Try.prog T0 81 o21 (En 81 k3 (L5 P N2)) k8 (B21 P N2) := fun _ _ _ _ _ _ _ _ _ _  => by kernel_rfl
abbrev k9 : Sk := [(1,.i .u64),(2,.x),(5,.v),(7,.x),(15,.v),(16,.i .i64),(17,.i .i64)]
noncomputable def o22 := ob Try.f113 [.r,.r,.l,.r,.l,.l,.r,.r,.l,.l,.r,.r,.l]
def B22 (P : PT) (N2 : NTy k1 Pr) (x1 : Int) (x2 : Nat) (x5 : Value) (x7 : Nat) (x15 : Value) (x16 x17 : Int) (H : AHeap) : Prop :=
  ldI .i64 H x7 0 (fun v1 => ((0 : Int) ≤ v1) ∧ (B21 P N2 x1 x2 x5 x7 (IntKind.u64.wrap (1 * 2 ^ (min (Int.toNat v1) 64))) x15 x16 x17 H))
theorem q22 (P : PT) (N2 : NTy k1 Pr) : QB Try.prog T0 81 o22 (En 81 k8 (B21 P N2)) k9 (B22 P N2) := fun _ _ _ _ _ _ _ _ _  => by kernel_rfl
noncomputable def o23 := ob Try.f113 [.r,.r,.l,.r,.l,.l,.r,.r,.l,.l,.r,.l,.l]
def B23 (P : PT) (N2 : NTy k1 Pr) (x1 : Int) (x2 : Nat) (x5 : Value) (x7 : Nat) (x15 : Value) (x16 x17 : Int) (H : AHeap) : Prop :=
  lenK x5 (fun n1 => pif (decide (((n1 : Int) : Int) > 0)) (AC Try.prog T0 152 [x5, (Value.func (.func 153) ⟨[]⟩ ⟨[(Value.pointer (some ⟨x7, 0, none⟩))]⟩)] H (fun v2 H3 => asB v2 (fun v4 => pif v4 (B3 P N2 x1 x2 x5 x15 x16 x17 H3) (B22 P N2 x1 x2 x5 x7 x15 x16 x17 H3)))) (B22 P N2 x1 x2 x5 x7 x15 x16 x17 H))
theorem q23 (P : PT) (N2 : NTy k1 Pr) : QB Try.prog T0 81 o23 (cnd 28 (En 81 k1 (B3 P N2)) (En 81 k9 (B22 P N2))) k9 (B23 P N2) := fun _ _ _ _ _ _ _ _ _  => by kernel_rfl
noncomputable def o24 := ob Try.f113 [.r,.r,.l,.r,.l,.l,.r,.r,.l,.l,.l]
def B24 (P : PT) (N2 : NTy k1 Pr) (x1 : Int) (x2 : Nat) (x5 x15 : Value) (x16 x17 : Int) (H : AHeap) : Prop :=
  idxK x15 x17 1 (fun b1 o2 => ldI .i64 H b1 o2 (fun v3 => newK H [(Value.int .i64 0)] 2 (fun b4 H5 => stK H5 b4 0 [(Value.int .i64 v3)] (fun H6 => B23 P N2 x1 x2 x5 b4 x15 x16 x17 H6))))
theorem q24 (P : PT) (N2 : NTy k1 Pr) : QB Try.prog T0 81 o24 (En 81 k9 (B23 P N2)) k1 (B24 P N2) := fun _ _ _ _ _ _ _ _  => by kernel_rfl
noncomputable def o25 := ob Try.f113 [.r,.r,.l,.r,.l,.l,.l]
def B25 (P : PT) (N2 : NTy k1 Pr) (x1 : Int) (x2 : Nat) (x5 x15 : Value) (x16 x17 : Int) (H : AHeap) : Prop :=
  pif (decide ((x17 : Int) < x16)) (B24 P N2 x1 x2 x5 x15 x16 x17 H) (B1 P x5 H)
theorem q25 (P : PT) (N2 : NTy k1 Pr) : QB Try.prog T0 81 o25 (cnd 18 (En 81 k1 (B24 P N2)) (En 81 k0 (B1 P))) k1 (B25 P N2) := fun _ _ _ _ _ _ _ _  => by kernel_rfl
def L2 (P : PT) (x1 : Int) (x2 : Nat) (x5 x15 : Value) (x16 x17 : Int) (H : AHeap) : Prop :=
  ∃ (I : NTy k1 Pr) (μ : NTy k1 (AHeap → Nat)), I x1 x2 x5 x15 x16 x17 H ∧ ∀ y1 y2 y5 y15 y16 y17 G, I y1 y2 y5 y15 y16 y17 G → B25 P (fun z1 z2 z5 z15 z16 z17 G' => I z1 z2 z5 z15 z16 z17 G' ∧ μ z1 z2 z5 z15 z16 z17 G' < μ y1 y2 y5 y15 y16 y17 G) y1 y2 y5 y15 y16 y17 G
theorem l2 (P : PT) : LQ k1 (L2 P) (B25 P) := fun ⟨_,_,_,_,_,_,_⟩ _ ⟨I, μ, h0, hI⟩ => ⟨apT _ I, apT _ μ, h0, fun ⟨_,_,_,_,_,_,_⟩ _ h => hI _ _ _ _ _ _ _  h⟩
abbrev k10 : Sk := [(1,.i .u64),(2,.x),(5,.v)]
noncomputable def o26 := ob Try.f113 [.r,.r,.l,.l]
def B26 (P : PT) (x1 : Int) (x2 : Nat) (x5 : Value) (H : AHeap) : Prop :=
  AC Try.prog T0 82 [(Value.int .u64 x1)] H (fun v1 H2 => lenK v1 (fun n4 => L2 P x1 x2 x5 v1 (n4 : Int) 0 H2))
theorem q26 (P : PT) : QB Try.prog T0 81 o26 (En 81 k1 (L2 P)) k10 (B26 P) := fun _ _ _ _ _  => by kernel_rfl
abbrev k11 : Sk := [(1,.i .u64),(2,.x)]
noncomputable def o27 := ob Try.f113 [.r,.l]
def B27 (P : PT) (x1 : Int) (x2 : Nat) (H : AHeap) : Prop :=
  B26 P x1 x2 (Value.slice none 0 0) H
theorem q27 (P : PT) : QB Try.prog T0 81 o27 (En 81 k10 (B26 P)) k11 (B27 P) := fun _ _ _ _  => by kernel_rfl
abbrev k12 : Sk := [(0,.g [.i,.v]),(1,.i .u64)]
noncomputable def o28 := ob Try.f113 [.l]
def B28 (P : PT) (x0a : Int) (x0b : Value) (x1 : Int) (H : AHeap) : Prop :=
  newK H [(Value.int .i64 x0a), x0b] 31 (fun b1 H2 => B27 P x1 b1 H2)
theorem q28 (P : PT) : QB Try.prog T0 81 o28 (En 81 k11 (B27 P)) k12 (B28 P) := fun _ _ _ _ _  => by kernel_rfl
noncomputable def code : Code := (.seq (.region 0 ⟨o28⟩ false) (.seq (.region 1 ⟨o27⟩ false) (.seq (.seq (.region 2 ⟨o26⟩ false) (.block 0 (.loop (.seq (.region 3 ⟨o25⟩ false) (.seq (.cond (.tmp 18) .skip (.exit 0)) (.seq (.block 1 (.seq (.region 4 ⟨o24⟩ false) (.seq (.seq (.region 5 ⟨o23⟩ false) (.cond (.tmp 28) (.exit 1) .skip)) (.seq (.region 6 ⟨o22⟩ false) (.seq (.seq (.region 7 ⟨o21⟩ false) (.block 2 (.loop (.seq (.seq (.region 8 ⟨o20⟩ false) (.cond (.tmp 35) .skip (.exit 2))) (.seq (.block 3 (.seq (.region 10 ⟨o19⟩ true) (.block 4 (.loop (.seq (.region 11 ⟨o18⟩ false) (.seq (.cond (.tmp 46) .skip (.exit 4)) (.seq (.block 5 (.seq (.region 12 ⟨o17⟩ false) (.seq (.region 13 ⟨o16⟩ false) (.block 6 (.loop (.seq (.region 14 ⟨o15⟩ false) (.seq (.cond (.tmp 53) .skip (.exit 6)) (.seq (.block 7 (.seq (.region 15 ⟨o14⟩ false) (.seq (.region 16 ⟨o13⟩ false) (.cond (.tmp 64) (.seq (.region 17 ⟨o12⟩ false) (.region 18 ⟨o11⟩ false)) .skip)))) (.region 19 ⟨o10⟩ false))))))))) (.region 20 ⟨o8⟩ false)))))))) (.region 9 ⟨o6⟩ false)))))) (.region 21 ⟨o4⟩ false)))))) (.region 22 ⟨o3⟩ false))))))) (.seq (.region 23 ⟨o1⟩ false) .ret))))
theorem body : Try.f113.body = some code := by kernel_rfl
theorem main (P : PT) : ∀ env H, (En 81 k12 (B28 P)) env H → AW Try.prog T0 code env H (mkQ (ret P) (fun _ _ _ => False) (ret P)) :=
  (r_seq (rB T0_ok (q28 P)) (r_seq (rB T0_ok (q27 P)) (r_seq (r_seq (rB T0_ok (q26 P)) (r_block (rL (l2 P) (fun N2 => (r_seq (rB T0_ok (q25 P N2)) (r_seq (r_cond rfl r_skip (r_exit (fun _ _ h => h))) (r_seq (r_block (r_seq (rB T0_ok (q24 P N2)) (r_seq (r_seq (rB T0_ok (q23 P N2)) (r_cond rfl (r_exit (fun _ _ h => h)) r_skip)) (r_seq (rB T0_ok (q22 P N2)) (r_seq (r_seq (rB T0_ok (q21 P N2)) (r_block (rL (l5 P N2) (fun N5 => (r_seq (r_seq (rB T0_ok (q20 P N2 N5)) (r_cond rfl r_skip (r_exit (fun _ _ h => h)))) (r_seq (r_block (r_seq (rD T0_ok mixed [(0, false), (1, false), (2, false), (3, false), (4, false), (5, false), (6, false), (7, false)] (by kernel_rfl) (q19 P N2 N5)) (r_block (rL (l7 P N2 N5) (fun N7 => (r_seq (rB T0_ok (q18 P N2 N5 N7)) (r_seq (r_cond rfl r_skip (r_exit (fun _ _ h => h))) (r_seq (r_block (r_seq (rB T0_ok (q17 P N2 N5 N7)) (r_seq (rB T0_ok (q16 P N2 N5 N7)) (r_block (rL (l9 P N2 N5 N7) (fun N9 => (r_seq (rB T0_ok (q15 P N2 N5 N7 N9)) (r_seq (r_cond rfl r_skip (r_exit (fun _ _ h => h))) (r_seq (r_block (r_seq (rB T0_ok (q14 P N2 N5 N7 N9)) (r_seq (rB T0_ok (q13 P N2 N5 N7 N9)) (r_cond rfl (r_seq (rB T0_ok (q12 P N2 N5 N7 N9)) (rB T0_ok (q11 P N2 N5 N7 N9))) r_skip)))) (rB T0_ok (q10 P N2 N5 N7 N9))))))))))) (rB T0_ok (q8 P N2 N5 N7)))))))))) (rB T0_ok (q6 P N2 N5)))))))) (rB T0_ok (q4 P N2))))))) (rB T0_ok (q3 P N2))))))))) (r_seq (rB T0_ok (q1 P)) r_ret))))
theorem ac (P : PT) (x0a : Int) (x0b : Value) (x1 : Int) (H : AHeap) (h : B28 P x0a x0b x1 H) : AC Try.prog T0 113 [(Value.agg ⟨[(Value.int .i64 x0a), x0b]⟩), (Value.int .u64 x1)] H P :=
  r_fn T0_ok (c := code) (n := 81) Try.func113 body (by kernel_rfl) (main P) (En_mk (x0a, x0b, x1, ()) (by kernel_rfl) ⟨by kernel_rfl, by kernel_rfl, trivial⟩ h)

end F113
-- (loop.example/g01329/impl.Graph).every
namespace F114
noncomputable def ret (P : PT) : EP := retE T0 8 Try.f114 P
abbrev k0 : Sk := [(1,.x)]
noncomputable def o1 := ob Try.f114 [.r,.l]
def B1 (P : PT) (x1 : Nat) (H : AHeap) : Prop :=
  ld1 H x1 1 (fun v1 => lenK v1 (fun n2 => ((0 : Int) ≤ (n2 : Int)) ∧ (P (Value.int .u64 (IntKind.u64.wrap ((IntKind.u64.wrap (1 * 2 ^ (min (Int.toNat (n2 : Int)) 64))) - 1))) H)))
theorem q1 (P : PT) : QB Try.prog T0 8 o1 (ret P) k0 (B1 P) := fun _ _ _  => by kernel_rfl
abbrev k1 : Sk := [(0,.g [.i,.v])]
noncomputable def o2 := ob Try.f114 [.l]
def B2 (P : PT) (x0a : Int) (x0b : Value) (H : AHeap) : Prop :=
  newK H [(Value.int .i64 x0a), x0b] 31 (fun b1 H2 => B1 P b1 H2)
theorem q2 (P : PT) : QB Try.prog T0 8 o2 (En 8 k0 (B1 P)) k1 (B2 P) := fun _ _ _ _  => by kernel_rfl
noncomputable def code : Code := (.seq (.region 0 ⟨o2⟩ false) (.seq (.region 1 ⟨o1⟩ false) .ret))
theorem body : Try.f114.body = some code := by kernel_rfl
theorem main (P : PT) : ∀ env H, (En 8 k1 (B2 P)) env H → AW Try.prog T0 code env H (mkQ (ret P) (fun _ _ _ => False) (ret P)) :=
  (r_seq (rB T0_ok (q2 P)) (r_seq (rB T0_ok (q1 P)) r_ret))
theorem ac (P : PT) (x0a : Int) (x0b : Value) (H : AHeap) (h : B2 P x0a x0b H) : AC Try.prog T0 114 [(Value.agg ⟨[(Value.int .i64 x0a), x0b]⟩)] H P :=
  r_fn T0_ok (c := code) (n := 8) Try.func114 body (by kernel_rfl) (main P) (En_mk (x0a, x0b, ()) (by kernel_rfl) ⟨by kernel_rfl, trivial⟩ h)

end F114
-- math/bits.OnesCount64
namespace F115
noncomputable def ret (P : PT) : EP := retE T0 35 Try.f115 P
abbrev k0 : Sk := [(0,.i .u64)]
noncomputable def o1 := ob Try.f115 [.r,.r,.r,.r,.r,.r,.r,.l]
def B1 (P : PT) (x0 : Int) (H : AHeap) : Prop :=
  P (Value.int .i64 (IntKind.i64.wrap (BitVec.ofInt 64 (IntKind.i64.wrap x0) &&& BitVec.ofInt 64 127).toNat)) H
theorem q1 (P : PT) : QB Try.prog T0 35 o1 (ret P) k0 (B1 P) := fun _ _ _  => by kernel_rfl
noncomputable def o2 := ob Try.f115 [.r,.r,.r,.r,.r,.r,.l]
def B2 (P : PT) (x0 : Int) (H : AHeap) : Prop :=
  ((0 : Int) ≤ 32) ∧ (B1 P (IntKind.u64.wrap (x0 + (Int.fdiv x0 (2 ^ (min (Int.toNat 32) 64))))) H)
theorem q2 (P : PT) : QB Try.prog T0 35 o2 (En 35 k0 (B1 P)) k0 (B2 P) := fun _ _ _  => by kernel_rfl
noncomputable def o3 := ob Try.f115 [.r,.r,.r,.r,.r,.l]
def B3 (P : PT) (x0 : Int) (H : AHeap) : Prop :=
  ((0 : Int) ≤ 16) ∧ (B2 P (IntKind.u64.wrap (x0 + (Int.fdiv x0 (2 ^ (min (Int.toNat 16) 64))))) H)
theorem q3 (P : PT) : QB Try.prog T0 35 o3 (En 35 k0 (B2 P)) k0 (B3 P) := fun _ _ _  => by kernel_rfl
noncomputable def o4 := ob Try.f115 [.r,.r,.r,.r,.l]
def B4 (P : PT) (x0 : Int) (H : AHeap) : Prop :=
  ((0 : Int) ≤ 8) ∧ (B3 P (IntKind.u64.wrap (x0 + (Int.fdiv x0 (2 ^ (min (Int.toNat 8) 64))))) H)
theorem q4 (P : PT) : QB Try.prog T0 35 o4 (En 35 k0 (B3 P)) k0 (B4 P) := fun _ _ _  => by kernel_rfl
noncomputable def o5 := ob Try.f115 [.r,.r,.r,.l]
def B5 (P : PT) (x0 : Int) (H : AHeap) : Prop :=
  ((0 : Int) ≤ 4) ∧ (B4 P (IntKind.u64.wrap (BitVec.ofInt 64 (IntKind.u64.wrap ((Int.fdiv x0 (2 ^ (min (Int.toNat 4) 64))) + x0)) &&& BitVec.ofInt 64 1085102592571150095).toNat) H)
theorem q5 (P : PT) : QB Try.prog T0 35 o5 (En 35 k0 (B4 P)) k0 (B5 P) := fun _ _ _  => by kernel_rfl
noncomputable def o6 := ob Try.f115 [.r,.r,.l]
def B6 (P : PT) (x0 : Int) (H : AHeap) : Prop :=
  ((0 : Int) ≤ 2) ∧ (B5 P (IntKind.u64.wrap ((IntKind.u64.wrap (BitVec.ofInt 64 (Int.fdiv x0 (2 ^ (min (Int.toNat 2) 64))) &&& BitVec.ofInt 64 3689348814741910323).toNat) + (IntKind.u64.wrap (BitVec.ofInt 64 x0 &&& BitVec.ofInt 64 3689348814741910323).toNat))) H)
theorem q6 (P : PT) : QB Try.prog T0 35 o6 (En 35 k0 (B5 P)) k0 (B6 P) := fun _ _ _  => by kernel_rfl
noncomputable def o7 := ob Try.f115 [.r,.l]
def B7 (P : PT) (x0 : Int) (H : AHeap) : Prop :=
  ((0 : Int) ≤ 1) ∧ (B6 P (IntKind.u64.wrap ((IntKind.u64.wrap (BitVec.ofInt 64 (Int.fdiv x0 (2 ^ (min (Int.toNat 1) 64))) &&& BitVec.ofInt 64 6148914691236517205).toNat) + (IntKind.u64.wrap (BitVec.ofInt 64 x0 &&& BitVec.ofInt 64 6148914691236517205).toNat))) H)
theorem q7 (P : PT) : QB Try.prog T0 35 o7 (En 35 k0 (B6 P)) k0 (B7 P) := fun _ _ _  => by kernel_rfl
noncomputable def o8 := ob Try.f115 [.l]
def B8 (P : PT) (x0 : Int) (H : AHeap) : Prop :=
  B7 P x0 H
theorem q8 (P : PT) : QB Try.prog T0 35 o8 (En 35 k0 (B7 P)) k0 (B8 P) := fun _ _ _  => by kernel_rfl
noncomputable def code : Code := (.seq (.region 0 ⟨o8⟩ false) (.seq (.region 1 ⟨o7⟩ false) (.seq (.region 2 ⟨o6⟩ false) (.seq (.region 3 ⟨o5⟩ false) (.seq (.region 4 ⟨o4⟩ false) (.seq (.region 5 ⟨o3⟩ false) (.seq (.region 6 ⟨o2⟩ false) (.seq (.region 7 ⟨o1⟩ false) .ret))))))))
theorem body : Try.f115.body = some code := by kernel_rfl
theorem main (P : PT) : ∀ env H, (En 35 k0 (B8 P)) env H → AW Try.prog T0 code env H (mkQ (ret P) (fun _ _ _ => False) (ret P)) :=
  (r_seq (rB T0_ok (q8 P)) (r_seq (rB T0_ok (q7 P)) (r_seq (rB T0_ok (q6 P)) (r_seq (rB T0_ok (q5 P)) (r_seq (rB T0_ok (q4 P)) (r_seq (rB T0_ok (q3 P)) (r_seq (rB T0_ok (q2 P)) (r_seq (rB T0_ok (q1 P)) r_ret))))))))
theorem ac (P : PT) (x0 : Int) (H : AHeap) (h : B8 P x0 H) : AC Try.prog T0 115 [(Value.int .u64 x0)] H P :=
  r_fn T0_ok (c := code) (n := 35) Try.func115 body (by kernel_rfl) (main P) (En_mk (x0, ()) (by kernel_rfl) ⟨by kernel_rfl, trivial⟩ h)

end F115
-- slices.pdqsortOrdered[int64]
namespace F116
noncomputable def ret (P : PT) : EP := retE T0 134 Try.f116 P
abbrev k0 : Sk := [(0,.v),(1,.i .i64),(2,.i .i64),(3,.i .i64),(8,.b),(9,.b)]
abbrev k1 : Sk := [(0,.v),(2,.i .i64),(3,.i .i64),(8,.b),(9,.b),(14,.i .i64)]
noncomputable def o2 := ob Try.f116 [.r,.r,.l,.l,.l,.r,.r,.r,.r,.r,.r,.r,.r,.r,.r,.r,.r,.r,.l,.r,.r]
def B2 (P : PT) (N1 : NTy k0 Pr) (x0 : Value) (x2 x3 : Int) (x8 x9 : Bool) (x14 : Int) (H : AHeap) : Prop :=
  N1 x0 (IntKind.i64.wrap (x14 + 1)) x2 x3 x8 x9 H
theorem q2 (P : PT) (N1 : NTy k0 Pr) : QB Try.prog T0 134 o2 (En 134 k0 N1) k1 (B2 P N1) := fun _ _ _ _ _ _ _ _  => by kernel_rfl
abbrev k2 : Sk := [(0,.v),(1,.i .i64),(2,.i .i64),(3,.i .i64),(8,.b),(9,.b),(14,.i .i64)]
noncomputable def o3 := ob Try.f116 [.r,.r,.l,.l,.l,.r,.r,.r,.r,.r,.r,.r,.r,.r,.r,.r,.r,.r,.l,.r,.l]
def B3 (P : PT) (N1 : NTy k0 Pr) (x0 : Value) (x1 x2 x3 : Int) (x8 x9 : Bool) (x14 : Int) (H : AHeap) : Prop :=
  AC Try.prog T0 116 [x0, (Value.int .i64 x1), (Value.int .i64 x14), (Value.int .i64 x3)] H (fun v1 H2 => asTup v1 (fun l3 => B2 P N1 x0 x2 x3 x8 x9 x14 H2))
theorem q3 (P : PT) (N1 : NTy k0 Pr) : QB Try.prog T0 134 o3 (En 134 k1 (B2 P N1)) k2 (B3 P N1) := fun _ _ _ _ _ _ _ _ _  => by kernel_rfl
abbrev k3 : Sk := [(0,.v),(1,.i .i64),(2,.i .i64),(3,.i .i64),(9,.b),(14,.i .i64),(16,.i .i64),(18,.i .i64)]
noncomputable def o4 := ob Try.f116 [.r,.r,.l,.l,.l,.r,.r,.r,.r,.r,.r,.r,.r,.r,.r,.r,.r,.r,.l,.l]
def B4 (P : PT) (N1 : NTy k0 Pr) (x0 : Value) (x1 x2 x3 : Int) (x9 : Bool) (x14 x16 x18 : Int) (H : AHeap) : Prop :=
  B3 P N1 x0 x1 x2 x3 (decide ((x16 : Int) ≥ x18)) x9 x14 H
theorem q4 (P : PT) (N1 : NTy k0 Pr) : QB Try.prog T0 134 o4 (En 134 k2 (B3 P N1)) k3 (B4 P N1) := fun _ _ _ _ _ _ _ _ _ _  => by kernel_rfl
abbrev k4 : Sk := [(0,.v),(1,.i .i64),(3,.i .i64),(8,.b),(9,.b),(14,.i .i64)]
noncomputable def o5 := ob Try.f116 [.r,.r,.l,.l,.l,.r,.r,.r,.r,.r,.r,.r,.r,.r,.r,.r,.r,.r,.r,.r,.r]
def B5 (P : PT) (N1 : NTy k0 Pr) (x0 : Value) (x1 x3 : Int) (x8 x9 : Bool) (x14 : Int) (H : AHeap) : Prop :=
  N1 x0 x1 x14 x3 x8 x9 H
theorem q5 (P : PT) (N1 : NTy k0 Pr) : QB Try.prog T0 134 o5 (En 134 k0 N1) k4 (B5 P N1) := fun _ _ _ _ _ _ _ _  => by kernel_rfl
noncomputable def o6 := ob Try.f116 [.r,.r,.l,.l,.l,.r,.r,.r,.r,.r,.r,.r,.r,.r,.r,.r,.r,.r,.r,.r,.l]
def B6 (P : PT) (N1 : NTy k0 Pr) (x0 : Value) (x1 x2 x3 : Int) (x8 x9 : Bool) (x14 : Int) (H : AHeap) : Prop :=
  AC Try.prog T0 116 [x0, (Value.int .i64 (IntKind.i64.wrap (x14 + 1))), (Value.int .i64 x2), (Value.int .i64 x3)] H (fun v1 H2 => asTup v1 (fun l3 => B5 P N1 x0 x1 x3 x8 x9 x14 H2))
theorem q6 (P : PT) (N1 : NTy k0 Pr) : QB Try.prog T0 134 o6 (En 134 k4 (B5 P N1)) k2 (B6 P N1) := fun _ _ _ _ _ _ _ _ _  => by kernel_rfl
abbrev k5 : Sk := [(0,.v),(1,.i .i64),(2,.i .i64),(3,.i .i64),(9,.b),(14,.i .i64),(17,.i .i64),(18,.i .i64)]
noncomputable def o7 := ob Try.f116 [.r,.r,.l,.l,.l,.r,.r,.r,.r,.r,.r,.r,.r,.r,.r,.r,.r,.r,.r,.l]
def B7 (P : PT) (N1 : NTy k0 Pr) (x0 : Value) (x1 x2 x3 : Int) (x9 : Bool) (x14 x17 x18 : Int) (H : AHeap) : Prop :=
  B6 P N1 x0 x1 x2 x3 (decide ((x17 : Int) ≥ x18)) x9 x14 H
theorem q7 (P : PT) (N1 : NTy k0 Pr) : QB Try.prog T0 134 o7 (En 134 k2 (B6 P N1)) k5 (B7 P N1) := fun _ _ _ _ _ _ _ _ _ _  => by kernel_rfl
abbrev k6 : Sk := [(0,.v),(1,.i .i64),(2,.i .i64),(3,.i .i64),(9,.b),(14,.i .i64),(16,.i .i64),(17,.i .i64),(18,.i .i64)]
noncomputable def o8 := ob Try.f116 [.r,.r,.l,.l,.l,.r,.r,.r,.r,.r,.r,.r,.r,.r,.r,.r,.r,.l]
def B8 (P : PT) (N1 : NTy k0 Pr) (x0 : Value) (x1 x2 x3 : Int) (x9 : Bool) (x14 x16 x17 x18 : Int) (H : AHeap) : Prop :=
  pif (decide ((x16 : Int) < x17)) (B4 P N1 x0 x1 x2 x3 x9 x14 x16 x18 H) (B7 P N1 x0 x1 x2 x3 x9 x14 x17 x18 H)
theorem q8 (P : PT) (N1 : NTy k0 Pr) : QB Try.prog T0 134 o8 (cnd 113 (En 134 k3 (B4 P N1)) (En 134 k5 (B7 P N1))) k6 (B8 P N1) := fun _ _ _ _ _ _ _ _ _ _ _  => by kernel_rfl
abbrev k7 : Sk := [(0,.v),(1,.i .i64),(2,.i .i64),(3,.i .i64),(9,.b),(10,.i .i64),(14,.i .i64),(16,.i .i64),(17,.i .i64)]
noncomputable def o9 := ob Try.f116 [.r,.r,.l,.l,.l,.r,.r,.r,.r,.r,.r,.r,.r,.r,.r,.r,.l]
def B9 (P : PT) (N1 : NTy k0 Pr) (x0 : Value) (x1 x2 x3 : Int) (x9 : Bool) (x10 x14 x16 x17 : Int) (H : AHeap) : Prop :=
  B8 P N1 x0 x1 x2 x3 x9 x14 x16 x17 (IntKind.i64.wrap (Int.tdiv x10 8)) H
theorem q9 (P : PT) (N1 : NTy k0 Pr) : QB Try.prog T0 134 o9 (En 134 k6 (B8 P N1)) k7 (B9 P N1) := fun _ _ _ _ _ _ _ _ _ _ _  => by kernel_rfl
abbrev k8 : Sk := [(0,.v),(1,.i .i64),(2,.i .i64),(3,.i .i64),(9,.b),(10,.i .i64),(14,.i .i64)]
noncomputable def o10 := ob Try.f116 [.r,.r,.l,.l,.l,.r,.r,.r,.r,.r,.r,.r,.r,.r,.r,.l]
def B10 (P : PT) (N1 : NTy k0 Pr) (x0 : Value) (x1 x2 x3 : Int) (x9 : Bool) (x10 x14 : Int) (H : AHeap) : Prop :=
  B9 P N1 x0 x1 x2 x3 x9 x10 x14 (IntKind.i64.wrap (x14 - x1)) (IntKind.i64.wrap (x2 - x14)) H
theorem q10 (P : PT) (N1 : NTy k0 Pr) : QB Try.prog T0 134 o10 (En 134 k7 (B9 P N1)) k8 (B10 P N1) := fun _ _ _ _ _ _ _ _ _  => by kernel_rfl
abbrev k9 : Sk := [(0,.v),(1,.i .i64),(2,.i .i64),(3,.i .i64),(10,.i .i64),(14,.i .i64),(15,.b)]
noncomputable def o11 := ob Try.f116 [.r,.r,.l,.l,.l,.r,.r,.r,.r,.r,.r,.r,.r,.r,.l]
def B11 (P : PT) (N1 : NTy k0 Pr) (x0 : Value) (x1 x2 x3 x10 x14 : Int) (x15 : Bool) (H : AHeap) : Prop :=
  B10 P N1 x0 x1 x2 x3 x15 x10 x14 H
theorem q11 (P : PT) (N1 : NTy k0 Pr) : QB Try.prog T0 134 o11 (En 134 k8 (B10 P N1)) k9 (B11 P N1) := fun _ _ _ _ _ _ _ _ _  => by kernel_rfl
abbrev k10 : Sk := [(0,.v),(1,.i .i64),(2,.i .i64),(3,.i .i64),(10,.i .i64),(11,.i .i64)]
noncomputable def o12 := ob Try.f116 [.r,.r,.l,.l,.l,.r,.r,.r,.r,.r,.r,.r,.r,.l]
def B12 (P : PT) (N1 : NTy k0 Pr) (x0 : Value) (x1 x2 x3 x10 x11 : Int) (H : AHeap) : Prop :=
  AC Try.prog T0 162 [x0, (Value.int .i64 x1), (Value.int .i64 x2), (Value.int .i64 x11)] H (fun v1 H2 => tup2 v1 (fun v3 v4 => asI .i64 v3 (fun v5 => asB v4 (fun v6 => B11 P N1 x0 x1 x2 x3 x10 v5 v6 H2))))
theorem q12 (P : PT) (N1 : NTy k0 Pr) : QB Try.prog T0 134 o12 (En 134 k9 (B11 P N1)) k10 (B12 P N1) := fun _ _ _ _ _ _ _ _  => by kernel_rfl
abbrev k11 : Sk := [(0,.v),(2,.i .i64),(3,.i .i64),(8,.b),(9,.b),(13,.i .i64)]
noncomputable def o13 := ob Try.f116 [.r,.r,.l,.l,.l,.r,.r,.r,.r,.r,.r,.r,.l,.r,.l,.r,.l]
def B13 (P : PT) (N1 : NTy k0 Pr) (x0 : Value) (x2 x3 : Int) (x8 x9 : Bool) (x13 : Int) (H : AHeap) : Prop :=
  N1 x0 x13 x2 x3 x8 x9 H
theorem q13 (P : PT) (N1 : NTy k0 Pr) : QB Try.prog T0 134 o13 (En 134 k0 N1) k11 (B13 P N1) := fun _ _ _ _ _ _ _ _  => by kernel_rfl
abbrev k12 : Sk := [(0,.v),(1,.i .i64),(2,.i .i64),(3,.i .i64),(8,.b),(9,.b),(11,.i .i64)]
noncomputable def o14 := ob Try.f116 [.r,.r,.l,.l,.l,.r,.r,.r,.r,.r,.r,.r,.l,.r,.l,.l]
def B14 (P : PT) (N1 : NTy k0 Pr) (x0 : Value) (x1 x2 x3 : Int) (x8 x9 : Bool) (x11 : Int) (H : AHeap) : Prop :=
  AC Try.prog T0 161 [x0, (Value.int .i64 x1), (Value.int .i64 x2), (Value.int .i64 x11)] H (fun v1 H2 => asI .i64 v1 (fun v3 => B13 P N1 x0 x2 x3 x8 x9 v3 H2))
theorem q14 (P : PT) (N1 : NTy k0 Pr) : QB Try.prog T0 134 o14 (En 134 k11 (B13 P N1)) k12 (B14 P N1) := fun _ _ _ _ _ _ _ _ _  => by kernel_rfl
abbrev k13 : Sk := [(0,.v),(1,.i .i64),(2,.i .i64),(3,.i .i64),(8,.b),(9,.b),(10,.i .i64),(11,.i .i64)]
noncomputable def o15 := ob Try.f116 [.r,.r,.l,.l,.l,.r,.r,.r,.r,.r,.r,.r,.l,.l]
def B15 (P : PT) (N1 : NTy k0 Pr) (x0 : Value) (x1 x2 x3 : Int) (x8 x9 : Bool) (x10 x11 : Int) (H : AHeap) : Prop :=
  pif (decide ((x1 : Int) > 0)) (idxK x0 (IntKind.i64.wrap (x1 - 1)) 1 (fun b1 o2 => ldI .i64 H b1 o2 (fun v3 => idxK x0 x11 1 (fun b4 o5 => ldI .i64 H b4 o5 (fun v6 => AC Try.prog T0 160 [(Value.int .i64 v3), (Value.int .i64 v6)] H (fun v7 H8 => asB v7 (fun v9 => pif (!v9) (B14 P N1 x0 x1 x2 x3 x8 x9 x11 H8) (B12 P N1 x0 x1 x2 x3 x10 x11 H8)))))))) (B12 P N1 x0 x1 x2 x3 x10 x11 H)
theorem q15 (P : PT) (N1 : NTy k0 Pr) : QD Try.prog T0 134 o15 [(0, false), (1, false), (2, false), (3, false), (4, false), (5, false), (6, false), (7, false), (8, false), (9, false), (10, false), (11, false), (12, false), (13, false), (14, false)] (cnd 87 (En 134 k12 (B14 P N1)) (En 134 k10 (B12 P N1))) k13 (B15 P N1) := fun _ _ _ _ _ _ _ _ _ _  => by kernel_rfl
noncomputable def o16 := ob Try.f116 [.r,.r,.l,.l,.l,.r,.r,.r,.r,.r,.r,.l,.r,.l,.l]
def B16 (P : PT) (N1 : NTy k0 Pr) (x0 : Value) (x1 x2 x3 : Int) (x8 x9 : Bool) (x10 x11 : Int) (H : AHeap) : Prop :=
  AC Try.prog T0 159 [x0, (Value.int .i64 x1), (Value.int .i64 x2)] H (fun v1 H2 => asB v1 (fun v3 => pif v3 (P (Value.tuple ⟨[]⟩) H2) (B15 P N1 x0 x1 x2 x3 x8 x9 x10 x11 H2)))
theorem q16 (P : PT) (N1 : NTy k0 Pr) : QB Try.prog T0 134 o16 (cnd 72 (ret P) (En 134 k13 (B15 P N1))) k13 (B16 P N1) := fun _ _ _ _ _ _ _ _ _ _  => by kernel_rfl
abbrev k14 : Sk := [(0,.v),(1,.i .i64),(2,.i .i64),(3,.i .i64),(8,.b),(9,.b),(10,.i .i64),(11,.i .i64),(12,.i .i64)]
noncomputable def o17 := ob Try.f116 [.r,.r,.l,.l,.l,.r,.r,.r,.r,.r,.r,.l,.l]
def B17 (P : PT) (N1 : NTy k0 Pr) (x0 : Value) (x1 x2 x3 : Int) (x8 x9 : Bool) (x10 x11 x12 : Int) (H : AHeap) : Prop :=
  pif x8 (pif x9 (pif ((x12 : Int) == 1) (B16 P N1 x0 x1 x2 x3 x8 x9 x10 x11 H) (B15 P N1 x0 x1 x2 x3 x8 x9 x10 x11 H)) (B15 P N1 x0 x1 x2 x3 x8 x9 x10 x11 H)) (B15 P N1 x0 x1 x2 x3 x8 x9 x10 x11 H)
theorem q17 (P : PT) (N1 : NTy k0 Pr) : QB Try.prog T0 134 o17 (cnd 68 (En 134 k13 (B16 P N1)) (En 134 k13 (B15 P N1))) k14 (B17 P N1) := fun _ _ _ _ _ _ _ _ _ _ _  => by kernel_rfl
noncomputable def o18 := ob Try.f116 [.r,.r,.l,.l,.l,.r,.r,.r,.r,.r,.l,.r,.l,.r,.r]
def B18 (P : PT) (N1 : NTy k0 Pr) (x0 : Value) (x1 x2 x3 : Int) (x8 x9 : Bool) (x10 x11 : Int) (H : AHeap) : Prop :=
  B17 P N1 x0 x1 x2 x3 x8 x9 x10 x11 1 H
theorem q18 (P : PT) (N1 : NTy k0 Pr) : QB Try.prog T0 134 o18 (En 134 k14 (B17 P N1)) k13 (B18 P N1) := fun _ _ _ _ _ _ _ _ _ _  => by kernel_rfl
noncomputable def o19 := ob Try.f116 [.r,.r,.l,.l,.l,.r,.r,.r,.r,.r,.l,.r,.l,.r,.l]
def B19 (P : PT) (N1 : NTy k0 Pr) (x0 : Value) (x1 x2 x3 : Int) (x8 x9 : Bool) (x10 x11 : Int) (H : AHeap) : Prop :=
  B18 P N1 x0 x1 x2 x3 x8 x9 x10 (IntKind.i64.wrap ((IntKind.i64.wrap (x2 - 1)) - (IntKind.i64.wrap (x11 - x1)))) H
theorem q19 (P : PT) (N1 : NTy k0 Pr) : QB Try.prog T0 134 o19 (En 134 k13 (B18 P N1)) k13 (B19 P N1) := fun _ _ _ _ _ _ _ _ _ _  => by kernel_rfl
noncomputable def o20 := ob Try.f116 [.r,.r,.l,.l,.l,.r,.r,.r,.r,.r,.l,.r,.l,.l]
def B20 (P : PT) (N1 : NTy k0 Pr) (x0 : Value) (x1 x2 x3 : Int) (x8 x9 : Bool) (x10 x11 : Int) (H : AHeap) : Prop :=
  AC Try.prog T0 158 [x0, (Value.int .i64 x1), (Value.int .i64 x2)] H (fun v1 H2 => asTup v1 (fun l3 => B19 P N1 x0 x1 x2 x3 x8 x9 x10 x11 H2))
theorem q20 (P : PT) (N1 : NTy k0 Pr) : QB Try.prog T0 134 o20 (En 134 k13 (B19 P N1)) k13 (B20 P N1) := fun _ _ _ _ _ _ _ _ _ _  => by kernel_rfl
noncomputable def o21 := ob Try.f116 [.r,.r,.l,.l,.l,.r,.r,.r,.r,.r,.l,.l]
def B21 (P : PT) (N1 : NTy k0 Pr) (x0 : Value) (x1 x2 x3 : Int) (x8 x9 : Bool) (x10 x11 x12 : Int) (H : AHeap) : Prop :=
  pif ((x12 : Int) == 2) (B20 P N1 x0 x1 x2 x3 x8 x9 x10 x11 H) (B17 P N1 x0 x1 x2 x3 x8 x9 x10 x11 x12 H)
theorem q21 (P : PT) (N1 : NTy k0 Pr) : QB Try.prog T0 134 o21 (cnd 50 (En 134 k13 (B20 P N1)) (En 134 k14 (B17 P N1))) k14 (B21 P N1) := fun _ _ _ _ _ _ _ _ _ _ _  => by kernel_rfl
abbrev k15 : Sk := [(0,.v),(1,.i .i64),(2,.i .i64),(3,.i .i64),(8,.b),(9,.b),(10,.i .i64)]
noncomputable def o22 := ob Try.f116 [.r,.r,.l,.l,.l,.r,.r,.r,.r,.l]
def B22 (P : PT) (N1 : NTy k0 Pr) (x0 : Value) (x1 x2 x3 : Int) (x8 x9 : Bool) (x10 : Int) (H : AHeap) : Prop :=
  AC Try.prog T0 157 [x0, (Value.int .i64 x1), (Value.int .i64 x2)] H (fun v1 H2 => tup2 v1 (fun v3 v4 => asI .i64 v3 (fun v5 => asI .i64 v4 (fun v6 => B21 P N1 x0 x1 x2 x3 x8 x9 x10 v5 v6 H2))))
theorem q22 (P : PT) (N1 : NTy k0 Pr) : QB Try.prog T0 134 o22 (En 134 k14 (B21 P N1)) k15 (B22 P N1) := fun _ _ _ _ _ _ _ _ _  => by kernel_rfl
noncomputable def o23 := ob Try.f116 [.r,.r,.l,.l,.l,.r,.r,.r,.l,.r,.l,.r]
def B23 (P : PT) (N1 : NTy k0 Pr) (x0 : Value) (x1 x2 x3 : Int) (x8 x9 : Bool) (x10 : Int) (H : AHeap) : Prop :=
  B22 P N1 x0 x1 x2 (IntKind.i64.wrap (x3 - 1)) x8 x9 x10 H
theorem q23 (P : PT) (N1 : NTy k0 Pr) : QB Try.prog T0 134 o23 (En 134 k15 (B22 P N1)) k15 (B23 P N1) := fun _ _ _ _ _ _ _ _ _  => by kernel_rfl
noncomputable def o24 := ob Try.f116 [.r,.r,.l,.l,.l,.r,.r,.r,.l,.r,.l,.l]
def B24 (P : PT) (N1 : NTy k0 Pr) (x0 : Value) (x1 x2 x3 : Int) (x8 x9 : Bool) (x10 : Int) (H : AHeap) : Prop :=
  AC Try.prog T0 156 [x0, (Value.int .i64 x1), (Value.int .i64 x2)] H (fun v1 H2 => asTup v1 (fun l3 => B23 P N1 x0 x1 x2 x3 x8 x9 x10 H2))
theorem q24 (P : PT) (N1 : NTy k0 Pr) : QB Try.prog T0 134 o24 (En 134 k15 (B23 P N1)) k15 (B24 P N1) := fun _ _ _ _ _ _ _ _ _  => by kernel_rfl
noncomputable def o25 := ob Try.f116 [.r,.r,.l,.l,.l,.r,.r,.r,.l,.l]
def B25 (P : PT) (N1 : NTy k0 Pr) (x0 : Value) (x1 x2 x3 : Int) (x8 x9 : Bool) (x10 : Int) (H : AHeap) : Prop :=
  pif (!x8) (B24 P N1 x0 x1 x2 x3 x8 x9 x10 H) (B22 P N1 x0 x1 x2 x3 x8 x9 x10 H)
theorem q25 (P : PT) (N1 : NTy k0 Pr) : QB Try.prog T0 134 o25 (cnd 35 (En 134 k15 (B24 P N1)) (En 134 k15 (B22 P N1))) k15 (B25 P N1) := fun _ _ _ _ _ _ _ _ _  => by kernel_rfl
abbrev k16 : Sk := [(0,.v),(1,.i .i64),(2,.i .i64)]
noncomputable def o26 := ob Try.f116 [.r,.r,.l,.l,.l,.r,.r,.l,.r,.l,.l]
def B26 (P : PT) (N1 : NTy k0 Pr) (x0 : Value) (x1 x2 : Int) (H : AHeap) : Prop :=
  AC Try.prog T0 155 [x0, (Value.int .i64 x1), (Value.int .i64 x2)] H (fun v1 H2 => asTup v1 (fun l3 => P (Value.tuple ⟨[]⟩) H2))
theorem q26 (P : PT) (N1 : NTy k0 Pr) : QB Try.prog T0 134 o26 (ret P) k16 (B26 P N1) := fun _ _ _ _ _  => by kernel_rfl
noncomputable def o27 := ob Try.f116 [.r,.r,.l,.l,.l,.r,.r,.l,.l]
def B27 (P : PT) (N1 : NTy k0 Pr) (x0 : Value) (x1 x2 x3 : Int) (x8 x9 : Bool) (x10 : Int) (H : AHeap) : Prop :=
  pif ((x3 : Int) == 0) (B26 P N1 x0 x1 x2 H) (B25 P N1 x0 x1 x2 x3 x8 x9 x10 H)
theorem q27 (P : PT) (N1 : NTy k0 Pr) : QB Try.prog T0 134 o27 (cnd 29 (En 134 k16 (B26 P N1)) (En 134 k15 (B25 P N1))) k15 (B27 P N1) := fun _ _ _ _ _ _ _ _ _  => by kernel_rfl
noncomputable def o28 := ob Try.f116 [.r,.r,.l,.l,.l,.r,.l,.r,.l,.l]
def B28 (P : PT) (N1 : NTy k0 Pr) (x0 : Value) (x1 x2 : Int) (H : AHeap) : Prop :=
  AC Try.prog T0 154 [x0, (Value.int .i64 x1), (Value.int .i64 x2)] H (fun v1 H2 => asTup v1 (fun l3 => P (Value.tuple ⟨[]⟩) H2))
theorem q28 (P : PT) (N1 : NTy k0 Pr) : QB Try.prog T0 134 o28 (ret P) k16 (B28 P N1) := fun _ _ _ _ _  => by kernel_rfl
noncomputable def o29 := ob Try.f116 [.r,.r,.l,.l,.l,.r,.l,.l]
def B29 (P : PT) (N1 : NTy k0 Pr) (x0 : Value) (x1 x2 x3 : Int) (x8 x9 : Bool) (x10 : Int) (H : AHeap) : Prop :=
  pif (decide ((x10 : Int) ≤ 12)) (B28 P N1 x0 x1 x2 H) (B27 P N1 x0 x1 x2 x3 x8 x9 x10 H)
theorem q29 (P : PT) (N1 : NTy k0 Pr) : QB Try.prog T0 134 o29 (cnd 23 (En 134 k16 (B28 P N1)) (En 134 k15 (B27 P N1))) k15 (B29 P N1) := fun _ _ _ _ _ _ _ _ _  => by kernel_rfl
noncomputable def o30 := ob Try.f116 [.r,.r,.l,.l,.l,.l]
def B30 (P : PT) (N1 : NTy k0 Pr) (x0 : Value) (x1 x2 x3 : Int) (x8 x9 : Bool) (H : AHeap) : Prop :=
  B29 P N1 x0 x1 x2 x3 x8 x9 (IntKind.i64.wrap (x2 - x1)) H
theorem q30 (P : PT) (N1 : NTy k0 Pr) : QB Try.prog T0 134 o30 (En 134 k15 (B29 P N1)) k0 (B30 P N1) := fun _ _ _ _ _ _ _ _  => by kernel_rfl
def L1 (P : PT) (x0 : Value) (x1 x2 x3 : Int) (x8 x9 : Bool) (H : AHeap) : Prop :=
  ∃ (I : NTy k0 Pr) (μ : NTy k0 (AHeap → Nat)), I x0 x1 x2 x3 x8 x9 H ∧ ∀ y0 y1 y2 y3 y8 y9 G, I y0 y1 y2 y3 y8 y9 G → B30 P (fun z0 z1 z2 z3 z8 z9 G' => I z0 z1 z2 z3 z8 z9 G' ∧ μ z0 z1 z2 z3 z8 z9 G' < μ y0 y1 y2 y3 y8 y9 G) y0 y1 y2 y3 y8 y9 G
theorem l1 (P : PT) : LQ k0 (L1 P) (B30 P) := fun ⟨_,_,_,_,_,_,_⟩ _ ⟨I, μ, h0, hI⟩ => ⟨apT _ I, apT _ μ, h0, fun ⟨_,_,_,_,_,_,_⟩ _ h => hI _ _ _ _ _ _ _  h⟩
abbrev k17 : Sk := [(0,.v),(1,.i .i64),(2,.i .i64),(3,.i .i64),(8,.b)]
noncomputable def o31 := ob Try.f116 [.r,.l]
def B31 (P : PT) (x0 : Value) (x1 x2 x3 : Int) (x8 : Bool) (H : AHeap) : Prop :=
  L1 P x0 x1 x2 x3 x8 true H
theorem q31 (P : PT) : QB Try.prog T0 134 o31 (En 134 k0 (L1 P)) k17 (B31 P) := fun _ _ _ _ _ _ _  => by kernel_rfl
abbrev k18 : Sk := [(0,.v),(1,.i .i64),(2,.i .i64),(3,.i .i64)]
noncomputable def o32 := ob Try.f116 [.l]
def B32 (P : PT) (x0 : Value) (x1 x2 x3 : Int) (H : AHeap) : Prop :=
  B31 P x0 x1 x2 x3 true H
theorem q32 (P : PT) : QB Try.prog T0 134 o32 (En 134 k17 (B31 P)) k18 (B32 P) := fun _ _ _ _ _ _  => by kernel_rfl
noncomputable def code : Code := (.seq (.region 0 ⟨o32⟩ false) (.seq (.region 1 ⟨o31⟩ false) (.block 0 (.loop (.block 1 (.seq (.region 2 ⟨o30⟩ false) (.seq (.seq (.region 3 ⟨o29⟩ false) (.cond (.tmp 23) (.seq (.region 4 ⟨o28⟩ false) .ret) .skip)) (.seq (.seq (.region 5 ⟨o27⟩ false) (.cond (.tmp 29) (.seq (.region 6 ⟨o26⟩ false) .ret) .skip)) (.seq (.seq (.region 7 ⟨o25⟩ false) (.cond (.tmp 35) (.seq (.region 8 ⟨o24⟩ false) (.region 9 ⟨o23⟩ false)) .skip)) (.seq (.region 10 ⟨o22⟩ false) (.seq (.seq (.region 11 ⟨o21⟩ false) (.cond (.tmp 50) (.seq (.region 12 ⟨o20⟩ false) (.seq (.region 13 ⟨o19⟩ false) (.region 14 ⟨o18⟩ false))) .skip)) (.seq (.seq (.region 15 ⟨o17⟩ false) (.cond (.tmp 68) (.seq (.region 16 ⟨o16⟩ false) (.cond (.tmp 72) .ret .skip)) .skip)) (.seq (.seq (.region 17 ⟨o15⟩ true) (.cond (.tmp 87) (.seq (.region 18 ⟨o14⟩ false) (.seq (.region 19 ⟨o13⟩ false) (.exit 1))) .skip)) (.seq (.region 20 ⟨o12⟩ false) (.seq (.region 21 ⟨o11⟩ false) (.seq (.region 22 ⟨o10⟩ false) (.seq (.region 23 ⟨o9⟩ false) (.seq (.region 24 ⟨o8⟩ false) (.cond (.tmp 113) (.seq (.region 25 ⟨o4⟩ false) (.seq (.region 26 ⟨o3⟩ false) (.region 27 ⟨o2⟩ false))) (.seq (.region 28 ⟨o7⟩ false) (.seq (.region 29 ⟨o6⟩ false) (.region 30 ⟨o5⟩ false))))))))))))))))))))))
theorem body : Try.f116.body = some code := by kernel_rfl
theorem main (P : PT) : ∀ env H, (En 134 k18 (B32 P)) env H → AW Try.prog T0 code env H (mkQ (ret P) (fun _ _ _ => False) (ret P)) :=
  (r_seq (rB T0_ok (q32 P)) (r_seq (rB T0_ok (q31 P)) (r_block (rL (l1 P) (fun N1 => (r_block (r_seq (rB T0_ok (q30 P N1)) (r_seq (r_seq (rB T0_ok (q29 P N1)) (r_cond rfl (r_seq (rB T0_ok (q28 P N1)) r_ret) r_skip)) (r_seq (r_seq (rB T0_ok (q27 P N1)) (r_cond rfl (r_seq (rB T0_ok (q26 P N1)) r_ret) r_skip)) (r_seq (r_seq (rB T0_ok (q25 P N1)) (r_cond rfl (r_seq (rB T0_ok (q24 P N1)) (rB T0_ok (q23 P N1))) r_skip)) (r_seq (rB T0_ok (q22 P N1)) (r_seq (r_seq (rB T0_ok (q21 P N1)) (r_cond rfl (r_seq (rB T0_ok (q20 P N1)) (r_seq (rB T0_ok (q19 P N1)) (rB T0_ok (q18 P N1)))) r_skip)) (r_seq (r_seq (rB T0_ok (q17 P N1)) (r_cond rfl (r_seq (rB T0_ok (q16 P N1)) (r_cond rfl r_ret r_skip)) r_skip)) (r_seq (r_seq (rD T0_ok mixed [(0, false), (1, false), (2, false), (3, false), (4, false), (5, false), (6, false), (7, false), (8, false), (9, false), (10, false), (11, false), (12, false), (13, false), (14, false)] (by kernel_rfl) (q15 P N1)) (r_cond rfl (r_seq (rB T0_ok (q14 P N1)) (r_seq (rB T0_ok (q13 P N1)) (r_exit (fun _ _ h => h)))) r_skip)) (r_seq (rB T0_ok (q12 P N1)) (r_seq (rB T0_ok (q11 P N1)) (r_seq (rB T0_ok (q10 P N1)) (r_seq (rB T0_ok (q9 P N1)) (r_seq (rB T0_ok (q8 P N1)) (r_cond rfl (r_seq (rB T0_ok (q4 P N1)) (r_seq (rB T0_ok (q3 P N1)) (rB T0_ok (q2 P N1)))) (r_seq (rB T0_ok (q7 P N1)) (r_seq (rB T0_ok (q6 P N1)) (rB T0_ok (q5 P N1))))))))))))))))))))))))
theorem ac (P : PT) (x0 : Value) (x1 x2 x3 : Int) (H : AHeap) (h : B32 P x0 x1 x2 x3 H) : AC Try.prog T0 116 [x0, (Value.int .i64 x1), (Value.int .i64 x2), (Value.int .i64 x3)] H P :=
  r_fn T0_ok (c := code) (n := 134) Try.func116 body (by kernel_rfl) (main P) (En_mk (x0, x1, x2, x3, ()) (by kernel_rfl) ⟨by kernel_rfl, by kernel_rfl, by kernel_rfl, by kernel_rfl, trivial⟩ h)

end F116
-- math/bits.Len
namespace F117
noncomputable def ret (P : PT) : EP := retE T0 8 Try.f117 P
abbrev k0 : Sk := [(0,.i .u64)]
noncomputable def o1 := ob Try.f117 [.r,.r,.l]
def B1 (P : PT) (x0 : Int) (H : AHeap) : Prop :=
  AC Try.prog T0 164 [(Value.int .u64 x0)] H (fun v1 H2 => asI .i64 v1 (fun v3 => P (Value.int .i64 v3) H2))
theorem q1 (P : PT) : QB Try.prog T0 8 o1 (ret P) k0 (B1 P) := fun _ _ _  => by kernel_rfl
noncomputable def o2 := ob Try.f117 [.l]
def B2 (P : PT) (x0 : Int) (H : AHeap) : Prop :=
  B1 P x0 H
theorem q2 (P : PT) : QB Try.prog T0 8 o2 (En 8 k0 (B1 P)) k0 (B2 P) := fun _ _ _  => by kernel_rfl
noncomputable def code : Code := (.seq (.region 0 ⟨o2⟩ false) (.seq (.cond (.const (.bool false)) (codeAt (bodyOf Try.f117) [.r,.l,.l]) .skip) (.seq (.region 2 ⟨o1⟩ false) .ret)))
theorem body : Try.f117.body = some code := by kernel_rfl
theorem main (P : PT) : ∀ env H, (En 8 k0 (B2 P)) env H → AW Try.prog T0 code env H (mkQ (ret P) (fun _ _ _ => False) (ret P)) :=
  (r_seq (rB T0_ok (q2 P)) (r_seq (r_condF r_skip) (r_seq (rB T0_ok (q1 P)) r_ret)))
theorem ac (P : PT) (x0 : Int) (H : AHeap) (h : B2 P x0 H) : AC Try.prog T0 117 [(Value.int .u64 x0)] H P :=
  r_fn T0_ok (c := code) (n := 8) Try.func117 body (by kernel_rfl) (main P) (En_mk (x0, ()) (by kernel_rfl) ⟨by kernel_rfl, trivial⟩ h)

end F117
-- loop.example/g01329/spec.l01Ends
namespace F127
noncomputable def ret (P : PT) : EP := retE T0 61 Try.f127 P
abbrev k0 : Sk := []
noncomputable def o1 := ob Try.f127 [.r,.r,.r,.l]
def B1 (P : PT) (H : AHeap) : Prop :=
  P (Value.int .i64 0) H
theorem q1 (P : PT) : QB Try.prog T0 61 o1 (ret P) k0 (B1 P) := fun _ _  => by kernel_rfl
abbrev k1 : Sk := [(0,.i .i64),(1,.v),(5,.i .i64)]
noncomputable def o3 := ob Try.f127 [.r,.r,.l,.r,.l,.l,.r,.r]
def B3 (P : PT) (N2 : NTy k1 Pr) (x0 : Int) (x1 : Value) (x5 : Int) (H : AHeap) : Prop :=
  N2 x0 x1 (IntKind.i64.wrap (x5 + 1)) H
theorem q3 (P : PT) (N2 : NTy k1 Pr) : QB Try.prog T0 61 o3 (En 61 k1 N2) k1 (B3 P N2) := fun _ _ _ _ _  => by kernel_rfl
noncomputable def o4 := ob Try.f127 [.r,.r,.l,.r,.l,.l,.r,.l,.l,.r,.l,.l]
def B4 (P : PT) (N2 : NTy k1 Pr) (H : AHeap) : Prop :=
  P (Value.int .i64 2) H
theorem q4 (P : PT) (N2 : NTy k1 Pr) : QB Try.prog T0 61 o4 (ret P) k0 (B4 P N2) := fun _ _  => by kernel_rfl
noncomputable def o5 := ob Try.f127 [.r,.r,.l,.r,.l,.l,.r,.l,.l,.l]
def B5 (P : PT) (N2 : NTy k1 Pr) (x0 : Int) (x1 : Value) (x5 : Int) (H : AHeap) : Prop :=
  idxK x1 x5 2 (fun b1 o2 => ldI .i64 H b1 o2 (fun v3 => AC Try.prog T0 49 [(Value.int .i64 v3), (Value.int .i64 0), (Value.int .i64 (IntKind.i64.wrap (x0 - 1)))] H (fun v4 H5 => asB v4 (fun v6 => pif (!v6) (B4 P N2 H5) (idxK x1 x5 2 (fun b7 o8 => ldI .i64 H5 b7 (o8 + 1) (fun v9 => AC Try.prog T0 49 [(Value.int .i64 v9), (Value.int .i64 0), (Value.int .i64 (IntKind.i64.wrap (x0 - 1)))] H5 (fun v10 H11 => asB v10 (fun v12 => pif (!v12) (B4 P N2 H11) (idxK x1 x5 2 (fun b13 o14 => ldI .i64 H11 b13 o14 (fun v15 => idxK x1 x5 2 (fun b16 o17 => ldI .i64 H11 b16 (o17 + 1) (fun v18 => pif ((v15 : Int) == v18) (B4 P N2 H11) (B3 P N2 x0 x1 x5 H11)))))))))))))))
theorem q5 (P : PT) (N2 : NTy k1 Pr) : QD Try.prog T0 61 o5 [(0, false), (1, false), (2, false), (3, false), (4, false), (5, false), (6, false), (7, false), (8, false), (9, false), (10, false), (11, false), (12, false), (13, false), (14, false), (15, false), (16, false), (17, false), (18, false), (19, false), (20, false), (21, false), (22, false), (23, false), (24, false), (25, false), (26, false), (27, false), (28, false), (29, false), (30, false), (31, false), (32, false)] (cnd 60 (En 61 k0 (B4 P N2)) (En 61 k1 (B3 P N2))) k1 (B5 P N2) := fun _ _ _ _ _  => by kernel_rfl
noncomputable def o6 := ob Try.f127 [.r,.r,.l,.r,.l,.l,.l,.l]
def B6 (P : PT) (N2 : NTy k1 Pr) (x0 : Int) (x1 : Value) (x5 : Int) (H : AHeap) : Prop :=
  lenK x1 (fun n1 => pif (decide ((x5 : Int) < (n1 : Int))) (B5 P N2 x0 x1 x5 H) (B1 P H))
theorem q6 (P : PT) (N2 : NTy k1 Pr) : QB Try.prog T0 61 o6 (cnd 25 (En 61 k1 (B5 P N2)) (En 61 k0 (B1 P))) k1 (B6 P N2) := fun _ _ _ _ _  => by kernel_rfl
def L2 (P : PT) (x0 : Int) (x1 : Value) (x5 : Int) (H : AHeap) : Prop :=
  ∃ (I : NTy k1 Pr) (μ : NTy k1 (AHeap → Nat)), I x0 x1 x5 H ∧ ∀ y0 y1 y5 G, I y0 y1 y5 G → B6 P (fun z0 z1 z5 G' => I z0 z1 z5 G' ∧ μ z0 z1 z5 G' < μ y0 y1 y5 G) y0 y1 y5 G
theorem l2 (P : PT) : LQ k1 (L2 P) (B6 P) := fun ⟨_,_,_,_⟩ _ ⟨I, μ, h0, hI⟩ => ⟨apT _ I, apT _ μ, h0, fun ⟨_,_,_,_⟩ _ h => hI _ _ _ _  h⟩
abbrev k2 : Sk := [(0,.i .i64),(1,.v)]
noncomputable def o7 := ob Try.f127 [.r,.r,.l,.l]
def B7 (P : PT) (x0 : Int) (x1 : Value) (H : AHeap) : Prop :=
  L2 P x0 x1 0 H
theorem q7 (P : PT) : QB Try.prog T0 61 o7 (En 61 k1 (L2 P)) k2 (B7 P) := fun _ _ _ _  => by kernel_rfl
noncomputable def o8 := ob Try.f127 [.r,.l,.r,.l,.l]
def B8 (P : PT) (H : AHeap) : Prop :=
  P (Value.int .i64 2) H
theorem q8 (P : PT) : QB Try.prog T0 61 o8 (ret P) k0 (B8 P) := fun _ _  => by kernel_rfl
noncomputable def o9 := ob Try.f127 [.r,.l,.l]
def B9 (P : PT) (x0 : Int) (x1 : Value) (H : AHeap) : Prop :=
  AC Try.prog T0 49 [(Value.int .i64 x0), (Value.int .i64 2), (Value.int .i64 20)] H (fun v1 H2 => asB v1 (fun v3 => pif (!v3) (B8 P H2) (pif ((Int.tmod x0 2 : Int) != 0) (B8 P H2) (lenK x1 (fun n4 => pif (((n4 : Int) : Int) != (IntKind.i64.wrap (Int.tdiv (IntKind.i64.wrap (3 * x0)) 2))) (B8 P H2) (B7 P x0 x1 H2))))))
theorem q9 (P : PT) : QB Try.prog T0 61 o9 (cnd 21 (En 61 k0 (B8 P)) (En 61 k2 (B7 P))) k2 (B9 P) := fun _ _ _ _  => by kernel_rfl
noncomputable def o10 := ob Try.f127 [.l]
def B10 (P : PT) (x0 : Int) (x1 : Value) (H : AHeap) : Prop :=
  B9 P x0 x1 H
theorem q10 (P : PT) : QB Try.prog T0 61 o10 (En 61 k2 (B9 P)) k2 (B10 P) := fun _ _ _ _  => by kernel_rfl
noncomputable def code : Code := (.seq (.region 0 ⟨o10⟩ false) (.seq (.seq (.region 1 ⟨o9⟩ false) (.cond (.tmp 21) (.seq (.region 2 ⟨o8⟩ false) .ret) .skip)) (.seq (.seq (.region 3 ⟨o7⟩ false) (.block 0 (.loop (.seq (.seq (.region 4 ⟨o6⟩ false) (.cond (.tmp 25) .skip (.exit 0))) (.seq (.block 1 (.seq (.region 6 ⟨o5⟩ true) (.cond (.tmp 60) (.seq (.region 7 ⟨o4⟩ false) .ret) .skip))) (.region 5 ⟨o3⟩ false)))))) (.seq (.region 8 ⟨o1⟩ false) .ret))))
theorem body : Try.f127.body = some code := by kernel_rfl
theorem main (P : PT) : ∀ env H, (En 61 k2 (B10 P)) env H → AW Try.prog T0 code env H (mkQ (ret P) (fun _ _ _ => False) (ret P)) :=
  (r_seq (rB T0_ok (q10 P)) (r_seq (r_seq (rB T0_ok (q9 P)) (r_cond rfl (r_seq (rB T0_ok (q8 P)) r_ret) r_skip)) (r_seq (r_seq (rB T0_ok (q7 P)) (r_block (rL (l2 P) (fun N2 => (r_seq (r_seq (rB T0_ok (q6 P N2)) (r_cond rfl r_skip (r_exit (fun _ _ h => h)))) (r_seq (r_block (r_seq (rD T0_ok mixed [(0, false), (1, false), (2, false), (3, false), (4, false), (5, false), (6, false), (7, false), (8, false), (9, false), (10, false), (11, false), (12, false), (13, false), (14, false), (15, false), (16, false), (17, false), (18, false), (19, false), (20, false), (21, false), (22, false), (23, false), (24, false), (25, false), (26, false), (27, false), (28, false), (29, false), (30, false), (31, false), (32, false)] (by kernel_rfl) (q5 P N2)) (r_cond rfl (r_seq (rB T0_ok (q4 P N2)) r_ret) r_skip))) (rB T0_ok (q3 P N2)))))))) (r_seq (rB T0_ok (q1 P)) r_ret))))
theorem ac (P : PT) (x0 : Int) (x1 : Value) (H : AHeap) (h : B10 P x0 x1 H) : AC Try.prog T0 127 [(Value.int .i64 x0), x1] H P :=
  r_fn T0_ok (c := code) (n := 61) Try.func127 body (by kernel_rfl) (main P) (En_mk (x0, x1, ()) (by kernel_rfl) ⟨by kernel_rfl, by kernel_rfl, trivial⟩ h)

end F127
-- loop.example/g01329/spec.l01Cubic
namespace F128
noncomputable def ret (P : PT) : EP := retE T0 46 Try.f128 P
abbrev k0 : Sk := []
noncomputable def o1 := ob Try.f128 [.r,.r,.r,.r,.l]
def B1 (P : PT) (H : AHeap) : Prop :=
  P (Value.bool true) H
theorem q1 (P : PT) : QB Try.prog T0 46 o1 (ret P) k0 (B1 P) := fun _ _  => by kernel_rfl
abbrev k1 : Sk := [(0,.i .i64),(5,.v),(7,.i .i64)]
noncomputable def o3 := ob Try.f128 [.r,.r,.r,.l,.r,.l,.l,.r,.r]
def B3 (P : PT) (N2 : NTy k1 Pr) (x0 : Int) (x5 : Value) (x7 : Int) (H : AHeap) : Prop :=
  N2 x0 x5 (IntKind.i64.wrap (x7 + 1)) H
theorem q3 (P : PT) (N2 : NTy k1 Pr) : QB Try.prog T0 46 o3 (En 46 k1 N2) k1 (B3 P N2) := fun _ _ _ _ _  => by kernel_rfl
noncomputable def o4 := ob Try.f128 [.r,.r,.r,.l,.r,.l,.l,.r,.l,.l,.r,.l,.l]
def B4 (P : PT) (N2 : NTy k1 Pr) (H : AHeap) : Prop :=
  P (Value.bool false) H
theorem q4 (P : PT) (N2 : NTy k1 Pr) : QB Try.prog T0 46 o4 (ret P) k0 (B4 P N2) := fun _ _  => by kernel_rfl
noncomputable def o5 := ob Try.f128 [.r,.r,.r,.l,.r,.l,.l,.r,.l,.l,.l]
def B5 (P : PT) (N2 : NTy k1 Pr) (x0 : Int) (x5 : Value) (x7 : Int) (H : AHeap) : Prop :=
  idxK x5 x7 1 (fun b1 o2 => ldI .i64 H b1 o2 (fun v3 => pif ((v3 : Int) != 3) (B4 P N2 H) (B3 P N2 x0 x5 x7 H)))
theorem q5 (P : PT) (N2 : NTy k1 Pr) : QB Try.prog T0 46 o5 (cnd 45 (En 46 k0 (B4 P N2)) (En 46 k1 (B3 P N2))) k1 (B5 P N2) := fun _ _ _ _ _  => by kernel_rfl
noncomputable def o6 := ob Try.f128 [.r,.r,.r,.l,.r,.l,.l,.l,.l]
def B6 (P : PT) (N2 : NTy k1 Pr) (x0 : Int) (x5 : Value) (x7 : Int) (H : AHeap) : Prop :=
  pif (decide ((x7 : Int) < x0)) (B5 P N2 x0 x5 x7 H) (B1 P H)
theorem q6 (P : PT) (N2 : NTy k1 Pr) : QB Try.prog T0 46 o6 (cnd 38 (En 46 k1 (B5 P N2)) (En 46 k0 (B1 P))) k1 (B6 P N2) := fun _ _ _ _ _  => by kernel_rfl
def L2 (P : PT) (x0 : Int) (x5 : Value) (x7 : Int) (H : AHeap) : Prop :=
  ∃ (I : NTy k1 Pr) (μ : NTy k1 (AHeap → Nat)), I x0 x5 x7 H ∧ ∀ y0 y5 y7 G, I y0 y5 y7 G → B6 P (fun z0 z5 z7 G' => I z0 z5 z7 G' ∧ μ z0 z5 z7 G' < μ y0 y5 y7 G) y0 y5 y7 G
theorem l2 (P : PT) : LQ k1 (L2 P) (B6 P) := fun ⟨_,_,_,_⟩ _ ⟨I, μ, h0, hI⟩ => ⟨apT _ I, apT _ μ, h0, fun ⟨_,_,_,_⟩ _ h => hI _ _ _ _  h⟩
abbrev k2 : Sk := [(0,.i .i64),(5,.v)]
noncomputable def o7 := ob Try.f128 [.r,.r,.r,.l,.l]
def B7 (P : PT) (x0 : Int) (x5 : Value) (H : AHeap) : Prop :=
  L2 P x0 x5 0 H
theorem q7 (P : PT) : QB Try.prog T0 46 o7 (En 46 k1 (L2 P)) k2 (B7 P) := fun _ _ _ _  => by kernel_rfl
abbrev k3 : Sk := [(0,.i .i64),(1,.v),(5,.v),(6,.i .i64)]
noncomputable def o9 := ob Try.f128 [.r,.r,.l,.r,.l,.l,.r,.r]
def B9 (P : PT) (N8 : NTy k3 Pr) (x0 : Int) (x1 x5 : Value) (x6 : Int) (H : AHeap) : Prop :=
  N8 x0 x1 x5 (IntKind.i64.wrap (x6 + 1)) H
theorem q9 (P : PT) (N8 : NTy k3 Pr) : QB Try.prog T0 46 o9 (En 46 k3 N8) k3 (B9 P N8) := fun _ _ _ _ _ _  => by kernel_rfl
noncomputable def o10 := ob Try.f128 [.r,.r,.l,.r,.l,.l,.r,.l,.l,.r]
def B10 (P : PT) (N8 : NTy k3 Pr) (x0 : Int) (x1 x5 : Value) (x6 : Int) (H : AHeap) : Prop :=
  idxK x1 x6 2 (fun b1 o2 => ldI .i64 H b1 (o2 + 1) (fun v3 => idxK x5 v3 1 (fun b4 o5 => ldI .i64 H b4 o5 (fun v6 => idxK x5 v3 1 (fun b7 o8 => stK H b7 o8 [(Value.int .i64 (IntKind.i64.wrap (v6 + 1)))] (fun H9 => B9 P N8 x0 x1 x5 x6 H9))))))
theorem q10 (P : PT) (N8 : NTy k3 Pr) : QB Try.prog T0 46 o10 (En 46 k3 (B9 P N8)) k3 (B10 P N8) := fun _ _ _ _ _ _  => by kernel_rfl
noncomputable def o11 := ob Try.f128 [.r,.r,.l,.r,.l,.l,.r,.l,.l,.l]
def B11 (P : PT) (N8 : NTy k3 Pr) (x0 : Int) (x1 x5 : Value) (x6 : Int) (H : AHeap) : Prop :=
  idxK x1 x6 2 (fun b1 o2 => ldI .i64 H b1 o2 (fun v3 => idxK x5 v3 1 (fun b4 o5 => ldI .i64 H b4 o5 (fun v6 => idxK x5 v3 1 (fun b7 o8 => stK H b7 o8 [(Value.int .i64 (IntKind.i64.wrap (v6 + 1)))] (fun H9 => B10 P N8 x0 x1 x5 x6 H9))))))
theorem q11 (P : PT) (N8 : NTy k3 Pr) : QB Try.prog T0 46 o11 (En 46 k3 (B10 P N8)) k3 (B11 P N8) := fun _ _ _ _ _ _  => by kernel_rfl
noncomputable def o12 := ob Try.f128 [.r,.r,.l,.r,.l,.l,.l,.l]
def B12 (P : PT) (N8 : NTy k3 Pr) (x0 : Int) (x1 x5 : Value) (x6 : Int) (H : AHeap) : Prop :=
  lenK x1 (fun n1 => pif (decide ((x6 : Int) < (n1 : Int))) (B11 P N8 x0 x1 x5 x6 H) (B7 P x0 x5 H))
theorem q12 (P : PT) (N8 : NTy k3 Pr) : QB Try.prog T0 46 o12 (cnd 13 (En 46 k3 (B11 P N8)) (En 46 k2 (B7 P))) k3 (B12 P N8) := fun _ _ _ _ _ _  => by kernel_rfl
def L8 (P : PT) (x0 : Int) (x1 x5 : Value) (x6 : Int) (H : AHeap) : Prop :=
  ∃ (I : NTy k3 Pr) (μ : NTy k3 (AHeap → Nat)), I x0 x1 x5 x6 H ∧ ∀ y0 y1 y5 y6 G, I y0 y1 y5 y6 G → B12 P (fun z0 z1 z5 z6 G' => I z0 z1 z5 z6 G' ∧ μ z0 z1 z5 z6 G' < μ y0 y1 y5 y6 G) y0 y1 y5 y6 G
theorem l8 (P : PT) : LQ k3 (L8 P) (B12 P) := fun ⟨_,_,_,_,_⟩ _ ⟨I, μ, h0, hI⟩ => ⟨apT _ I, apT _ μ, h0, fun ⟨_,_,_,_,_⟩ _ h => hI _ _ _ _ _  h⟩
abbrev k4 : Sk := [(0,.i .i64),(1,.v),(5,.v)]
noncomputable def o13 := ob Try.f128 [.r,.r,.l,.l]
def B13 (P : PT) (x0 : Int) (x1 x5 : Value) (H : AHeap) : Prop :=
  L8 P x0 x1 x5 0 H
theorem q13 (P : PT) : QB Try.prog T0 46 o13 (En 46 k3 (L8 P)) k4 (B13 P) := fun _ _ _ _ _  => by kernel_rfl
abbrev k5 : Sk := [(0,.i .i64),(1,.v)]
noncomputable def o14 := ob Try.f128 [.r,.l]
def B14 (P : PT) (x0 : Int) (x1 : Value) (H : AHeap) : Prop :=
  mkR H 8 2 [(Value.int .i64 0)] x0 x0 (fun v2 H1 => B13 P x0 x1 v2 H1)
theorem q14 (P : PT) : QB Try.prog T0 46 o14 (En 46 k4 (B13 P)) k5 (B14 P) := fun _ _ _ _  => by kernel_rfl
noncomputable def o15 := ob Try.f128 [.l]
def B15 (P : PT) (x0 : Int) (x1 : Value) (H : AHeap) : Prop :=
  B14 P x0 x1 H
theorem q15 (P : PT) : QB Try.prog T0 46 o15 (En 46 k5 (B14 P)) k5 (B15 P) := fun _ _ _ _  => by kernel_rfl
noncomputable def code : Code := (.seq (.region 0 ⟨o15⟩ false) (.seq (.region 1 ⟨o14⟩ false) (.seq (.seq (.region 2 ⟨o13⟩ false) (.block 0 (.loop (.seq (.seq (.region 3 ⟨o12⟩ false) (.cond (.tmp 13) .skip (.exit 0))) (.seq (.block 1 (.seq (.region 5 ⟨o11⟩ false) (.region 6 ⟨o10⟩ false))) (.region 4 ⟨o9⟩ false)))))) (.seq (.seq (.region 7 ⟨o7⟩ false) (.block 2 (.loop (.seq (.seq (.region 8 ⟨o6⟩ false) (.cond (.tmp 38) .skip (.exit 2))) (.seq (.block 3 (.seq (.region 10 ⟨o5⟩ false) (.cond (.tmp 45) (.seq (.region 11 ⟨o4⟩ false) .ret) .skip))) (.region 9 ⟨o3⟩ false)))))) (.seq (.region 12 ⟨o1⟩ false) .ret)))))
theorem body : Try.f128.body = some code := by kernel_rfl
theorem main (P : PT) : ∀ env H, (En 46 k5 (B15 P)) env H → AW Try.prog T0 code env H (mkQ (ret P) (fun _ _ _ => False) (ret P)) :=
  (r_seq (rB T0_ok (q15 P)) (r_seq (rB T0_ok (q14 P)) (r_seq (r_seq (rB T0_ok (q13 P)) (r_block (rL (l8 P) (fun N8 => (r_seq (r_seq (rB T0_ok (q12 P N8)) (r_cond rfl r_skip (r_exit (fun _ _ h => h)))) (r_seq (r_block (r_seq (rB T0_ok (q11 P N8)) (rB T0_ok (q10 P N8)))) (rB T0_ok (q9 P N8)))))))) (r_seq (r_seq (rB T0_ok (q7 P)) (r_block (rL (l2 P) (fun N2 => (r_seq (r_seq (rB T0_ok (q6 P N2)) (r_cond rfl r_skip (r_exit (fun _ _ h => h)))) (r_seq (r_block (r_seq (rB T0_ok (q5 P N2)) (r_cond rfl (r_seq (rB T0_ok (q4 P N2)) r_ret) r_skip))) (rB T0_ok (q3 P N2)))))))) (r_seq (rB T0_ok (q1 P)) r_ret)))))
theorem ac (P : PT) (x0 : Int) (x1 : Value) (H : AHeap) (h : B15 P x0 x1 H) : AC Try.prog T0 128 [(Value.int .i64 x0), x1] H P :=
  r_fn T0_ok (c := code) (n := 46) Try.func128 body (by kernel_rfl) (main P) (En_mk (x0, x1, ()) (by kernel_rfl) ⟨by kernel_rfl, by kernel_rfl, trivial⟩ h)

end F128
-- loop.example/g01329/spec.l01Before
namespace F129
noncomputable def ret (P : PT) : EP := retE T0 24 Try.f129 P
abbrev k0 : Sk := [(2,.x),(3,.x)]
noncomputable def o1 := ob Try.f129 [.r,.l]
def B1 (P : PT) (x2 x3 : Nat) (H : AHeap) : Prop :=
  ldI .i64 H x2 0 (fun v1 => ldI .i64 H x3 0 (fun v2 => pif (decide ((v1 : Int) < v2)) (P (Value.bool true) H) (ldI .i64 H x2 0 (fun v3 => ldI .i64 H x3 0 (fun v4 => pif ((v3 : Int) == v4) (ldI .i64 H x2 1 (fun v5 => ldI .i64 H x3 1 (fun v6 => P (Value.bool (decide ((v5 : Int) < v6))) H))) (P (Value.bool false) H))))))
theorem q1 (P : PT) : QB Try.prog T0 24 o1 (ret P) k0 (B1 P) := fun _ _ _ _  => by kernel_rfl
abbrev k1 : Sk := [(0,.g [.i,.i]),(1,.g [.i,.i])]
noncomputable def o2 := ob Try.f129 [.l]
def B2 (P : PT) (x0a x0b x1a x1b : Int) (H : AHeap) : Prop :=
  newK H [(Value.int .i64 x0a), (Value.int .i64 x0b)] 67 (fun b1 H2 => newK H2 [(Value.int .i64 x1a), (Value.int .i64 x1b)] 67 (fun b3 H4 => B1 P b1 b3 H4))
theorem q2 (P : PT) : QB Try.prog T0 24 o2 (En 24 k0 (B1 P)) k1 (B2 P) := fun _ _ _ _ _ _  => by kernel_rfl
noncomputable def code : Code := (.seq (.region 0 ⟨o2⟩ false) (.seq (.region 1 ⟨o1⟩ false) .ret))
theorem body : Try.f129.body = some code := by kernel_rfl
theorem main (P : PT) : ∀ env H, (En 24 k1 (B2 P)) env H → AW Try.prog T0 code env H (mkQ (ret P) (fun _ _ _ => False) (ret P)) :=
  (r_seq (rB T0_ok (q2 P)) (r_seq (rB T0_ok (q1 P)) r_ret))
theorem ac (P : PT) (x0a x0b x1a x1b : Int) (H : AHeap) (h : B2 P x0a x0b x1a x1b H) : AC Try.prog T0 129 [(Value.agg ⟨[(Value.int .i64 x0a), (Value.int .i64 x0b)]⟩), (Value.agg ⟨[(Value.int .i64 x1a), (Value.int .i64 x1b)]⟩)] H P :=
  r_fn T0_ok (c := code) (n := 24) Try.func129 body (by kernel_rfl) (main P) (En_mk (x0a, x0b, x1a, x1b, ()) (by kernel_rfl) ⟨by kernel_rfl, by kernel_rfl, trivial⟩ h)

end F129
-- loop.example/g01329/impl.areEdges
namespace F131
noncomputable def ret (P : PT) : EP := retE T0 20 Try.f131 P
abbrev k0 : Sk := [(1,.v),(2,.x)]
noncomputable def o1 := ob Try.f131 [.r,.l]
def B1 (P : PT) (x1 : Value) (x2 : Nat) (H : AHeap) : Prop :=
  ldI .i64 H x2 0 (fun v1 => AC Try.prog T0 172 [(Value.int .i64 v1)] H (fun v2 H3 => asB v2 (fun v4 => pif v4 (ldI .i64 H3 x2 0 (fun v5 => AC Try.prog T0 44 [x1] H3 (fun v6 H7 => asI .i64 v6 (fun v8 => (AHeap.le H3 H7) ∧ (pif ((v8 : Int) == (IntKind.i64.wrap (Int.tdiv (IntKind.i64.wrap (3 * v5)) 2))) (AC Try.prog T0 132 [x1, (Value.func (.func 173) ⟨[]⟩ ⟨[(Value.pointer (some ⟨x2, 0, none⟩))]⟩)] H7 (fun v9 H10 => asB v9 (fun v11 => P (Value.bool v11) H10))) (P (Value.bool false) H7)))))) (P (Value.bool false) H3))))
theorem q1 (P : PT) : QD Try.prog T0 20 o1 [(0, false), (1, false), (2, false), (3, false), (5, false), (6, false), (7, false), (4, true), (8, false), (9, false), (10, false), (11, false), (12, false), (13, false), (14, false), (15, false)] (ret P) k0 (B1 P) := fun _ _ _ _  => by kernel_rfl
abbrev k1 : Sk := [(0,.i .i64),(1,.v)]
noncomputable def o2 := ob Try.f131 [.l]
def B2 (P : PT) (x0 : Int) (x1 : Value) (H : AHeap) : Prop :=
  newK H [(Value.int .i64 x0)] 2 (fun b1 H2 => B1 P x1 b1 H2)
theorem q2 (P : PT) : QB Try.prog T0 20 o2 (En 20 k0 (B1 P)) k1 (B2 P) := fun _ _ _ _  => by kernel_rfl
noncomputable def code : Code := (.seq (.region 0 ⟨o2⟩ false) (.seq (.region 1 ⟨o1⟩ true) .ret))
theorem body : Try.f131.body = some code := by kernel_rfl
theorem main (P : PT) : ∀ env H, (En 20 k1 (B2 P)) env H → AW Try.prog T0 code env H (mkQ (ret P) (fun _ _ _ => False) (ret P)) :=
  (r_seq (rB T0_ok (q2 P)) (r_seq (rD T0_ok mixed [(0, false), (1, false), (2, false), (3, false), (5, false), (6, false), (7, false), (4, true), (8, false), (9, false), (10, false), (11, false), (12, false), (13, false), (14, false), (15, false)] (by kernel_rfl) (q1 P)) r_ret))
theorem ac (P : PT) (x0 : Int) (x1 : Value) (H : AHeap) (h : B2 P x0 x1 H) : AC Try.prog T0 131 [(Value.int .i64 x0), x1] H P :=
  r_fn T0_ok (c := code) (n := 20) Try.func131 body (by kernel_rfl) (main P) (En_mk (x0, x1, ()) (by kernel_rfl) ⟨by kernel_rfl, by kernel_rfl, trivial⟩ h)

end F131
end Go.Proofs
