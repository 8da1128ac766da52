import Derived.Test.YtfcflpcmjlbedaaT
set_option linter.unusedVariables false
set_option maxRecDepth 100000
namespace Go.Proofs
open Go.Abs
-- loop.example/g01329/laws.FnExactChainOf
namespace F5
noncomputable def ret (P : PT) : EP := retE T0 127 Try.f5 P
abbrev k0 : Sk := []
noncomputable def o1 := ob Try.f5 [.r,.r,.r,.r,.r,.r,.r,.r,.r,.r,.r,.r,.r,.r,.r,.r,.r,.r,.r,.r,.r,.r,.r,.r,.r,.r,.r,.r,.l]
def B1 (P : PT) (H : AHeap) : Prop :=
  P (Value.bool true) H
theorem q1 (P : PT) : QB Try.prog T0 127 o1 (ret P) k0 (B1 P) := fun _ _  => by kernel_rfl
noncomputable def o2 := ob Try.f5 [.r,.r,.r,.r,.r,.r,.r,.r,.r,.r,.r,.r,.r,.r,.r,.r,.r,.r,.r,.r,.r,.r,.r,.r,.r,.r,.r,.l,.r,.l,.l]
def B2 (P : PT) (H : AHeap) : Prop :=
  P (Value.bool false) H
theorem q2 (P : PT) : QB Try.prog T0 127 o2 (ret P) k0 (B2 P) := fun _ _  => by kernel_rfl
abbrev k1 : Sk := [(17,.i .i64),(18,.i .i64)]
noncomputable def o3 := ob Try.f5 [.r,.r,.r,.r,.r,.r,.r,.r,.r,.r,.r,.r,.r,.r,.r,.r,.r,.r,.r,.r,.r,.r,.r,.r,.r,.r,.r,.l,.l]
def B3 (P : PT) (x17 x18 : Int) (H : AHeap) : Prop :=
  pif ((x18 : Int) != x17) (B2 P H) (B1 P H)
theorem q3 (P : PT) : QB Try.prog T0 127 o3 (cnd 126 (En 127 k0 (B2 P)) (En 127 k0 (B1 P))) k1 (B3 P) := fun _ _ _ _  => by kernel_rfl
noncomputable def o4 := ob Try.f5 [.r,.r,.r,.r,.r,.r,.r,.r,.r,.r,.r,.r,.r,.r,.r,.r,.r,.r,.r,.r,.r,.r,.r,.r,.r,.r,.l,.r,.l,.l]
def B4 (P : PT) (H : AHeap) : Prop :=
  P (Value.bool false) H
theorem q4 (P : PT) : QB Try.prog T0 127 o4 (ret P) k0 (B4 P) := fun _ _  => by kernel_rfl
noncomputable def o5 := ob Try.f5 [.r,.r,.r,.r,.r,.r,.r,.r,.r,.r,.r,.r,.r,.r,.r,.r,.r,.r,.r,.r,.r,.r,.r,.r,.r,.r,.l,.l]
def B5 (P : PT) (x17 x18 : Int) (H : AHeap) : Prop :=
  pif (decide ((x18 : Int) < 0)) (B4 P H) (B3 P x17 x18 H)
theorem q5 (P : PT) : QB Try.prog T0 127 o5 (cnd 123 (En 127 k0 (B4 P)) (En 127 k1 (B3 P))) k1 (B5 P) := fun _ _ _ _  => by kernel_rfl
abbrev k2 : Sk := [(14,.v),(17,.i .i64),(18,.i .i64)]
noncomputable def o6 := ob Try.f5 [.r,.r,.r,.r,.r,.r,.r,.r,.r,.r,.r,.r,.r,.r,.r,.r,.r,.r,.r,.r,.r,.r,.r,.r,.r,.l]
def B6 (P : PT) (x14 : Value) (x17 x18 : Int) (H : AHeap) : Prop :=
  AC Try.prog T0 19 [x14, (Value.int .i64 x18)] H (fun v1 H2 => asI .i64 v1 (fun v3 => B5 P x17 v3 H2))
theorem q6 (P : PT) : QB Try.prog T0 127 o6 (En 127 k1 (B5 P)) k2 (B6 P) := fun _ _ _ _ _  => by kernel_rfl
abbrev k3 : Sk := [(14,.v),(17,.i .i64)]
noncomputable def o7 := ob Try.f5 [.r,.r,.r,.r,.r,.r,.r,.r,.r,.r,.r,.r,.r,.r,.r,.r,.r,.r,.r,.r,.r,.r,.r,.r,.l]
def B7 (P : PT) (x14 : Value) (x17 : Int) (H : AHeap) : Prop :=
  B6 P x14 x17 1 H
theorem q7 (P : PT) : QB Try.prog T0 127 o7 (En 127 k2 (B6 P)) k3 (B7 P) := fun _ _ _ _  => by kernel_rfl
noncomputable def o8 := ob Try.f5 [.r,.r,.r,.r,.r,.r,.r,.r,.r,.r,.r,.r,.r,.r,.r,.r,.r,.r,.r,.r,.r,.r,.r,.l,.r,.l,.l]
def B8 (P : PT) (H : AHeap) : Prop :=
  P (Value.bool false) H
theorem q8 (P : PT) : QB Try.prog T0 127 o8 (ret P) k0 (B8 P) := fun _ _  => by kernel_rfl
abbrev k4 : Sk := [(10,.v),(11,.i .i64),(14,.v),(17,.i .i64),(19,.v),(20,.i .i64)]
noncomputable def o9 := ob Try.f5 [.r,.r,.r,.r,.r,.r,.r,.r,.r,.r,.r,.r,.r,.r,.r,.r,.r,.r,.r,.r,.r,.r,.r,.l,.l]
def B9 (P : PT) (x10 : Value) (x11 : Int) (x14 : Value) (x17 : Int) (x19 : Value) (x20 : Int) (H : AHeap) : Prop :=
  AC Try.prog T0 15 [x19, x10] H (fun v1 H2 => asB v1 (fun v3 => pif (!v3) (B8 P H2) (pif ((x20 : Int) != x11) (B8 P H2) (B7 P x14 x17 H2))))
theorem q9 (P : PT) : QB Try.prog T0 127 o9 (cnd 118 (En 127 k0 (B8 P)) (En 127 k3 (B7 P))) k4 (B9 P) := fun _ _ _ _ _ _ _ _  => by kernel_rfl
abbrev k5 : Sk := [(1,.v),(2,.i .i64),(3,.i .i64),(4,.x),(10,.v),(11,.i .i64),(14,.v),(17,.i .i64)]
noncomputable def o10 := ob Try.f5 [.r,.r,.r,.r,.r,.r,.r,.r,.r,.r,.r,.r,.r,.r,.r,.r,.r,.r,.r,.r,.r,.r,.l]
def B10 (P : PT) (x1 : Value) (x2 x3 : Int) (x4 : Nat) (x10 : Value) (x11 : Int) (x14 : Value) (x17 : Int) (H : AHeap) : Prop :=
  ldI .i64 H x4 0 (fun v1 => ld1 H x4 1 (fun v2 => AC Try.prog T0 12 [(Value.agg ⟨[(Value.int .i64 v1), v2]⟩)] H (fun v3 H4 => agg2 v3 (fun v5 v6 => asI .i64 v5 (fun v7 => AC Try.prog T0 13 [x1] H4 (fun v9 H10 => AC Try.prog T0 26 [(Value.agg ⟨[(Value.int .i64 v7), v6]⟩), v9, (Value.int .i64 x2), (Value.int .i64 x3)] H10 (fun v12 H13 => tup2 v12 (fun v14 v15 => asI .i64 v15 (fun v17 => B9 P x10 x11 x14 x17 v14 v17 H13)))))))))
theorem q10 (P : PT) : QB Try.prog T0 127 o10 (En 127 k4 (B9 P)) k5 (B10 P) := fun _ _ _ _ _ _ _ _ _ _  => by kernel_rfl
noncomputable def o11 := ob Try.f5 [.r,.r,.r,.r,.r,.r,.r,.r,.r,.r,.r,.r,.r,.r,.r,.r,.r,.r,.r,.r,.r,.l,.r,.l,.l]
def B11 (P : PT) (H : AHeap) : Prop :=
  P (Value.bool false) H
theorem q11 (P : PT) : QB Try.prog T0 127 o11 (ret P) k0 (B11 P) := fun _ _  => by kernel_rfl
abbrev k6 : Sk := [(1,.v),(2,.i .i64),(3,.i .i64),(4,.x),(10,.v),(11,.i .i64),(14,.v),(17,.i .i64),(18,.i .i64)]
noncomputable def o12 := ob Try.f5 [.r,.r,.r,.r,.r,.r,.r,.r,.r,.r,.r,.r,.r,.r,.r,.r,.r,.r,.r,.r,.r,.l,.l]
def B12 (P : PT) (x1 : Value) (x2 x3 : Int) (x4 : Nat) (x10 : Value) (x11 : Int) (x14 : Value) (x17 x18 : Int) (H : AHeap) : Prop :=
  pif ((x18 : Int) != x17) (B11 P H) (B10 P x1 x2 x3 x4 x10 x11 x14 x17 H)
theorem q12 (P : PT) : QB Try.prog T0 127 o12 (cnd 99 (En 127 k0 (B11 P)) (En 127 k5 (B10 P))) k6 (B12 P) := fun _ _ _ _ _ _ _ _ _ _ _  => by kernel_rfl
noncomputable def o13 := ob Try.f5 [.r,.r,.r,.r,.r,.r,.r,.r,.r,.r,.r,.r,.r,.r,.r,.r,.r,.r,.r,.r,.l,.r,.l,.l]
def B13 (P : PT) (H : AHeap) : Prop :=
  P (Value.bool false) H
theorem q13 (P : PT) : QB Try.prog T0 127 o13 (ret P) k0 (B13 P) := fun _ _  => by kernel_rfl
noncomputable def o14 := ob Try.f5 [.r,.r,.r,.r,.r,.r,.r,.r,.r,.r,.r,.r,.r,.r,.r,.r,.r,.r,.r,.r,.l,.l]
def B14 (P : PT) (x1 : Value) (x2 x3 : Int) (x4 : Nat) (x10 : Value) (x11 : Int) (x14 : Value) (x17 x18 : Int) (H : AHeap) : Prop :=
  pif (decide ((x18 : Int) < 0)) (B13 P H) (B12 P x1 x2 x3 x4 x10 x11 x14 x17 x18 H)
theorem q14 (P : PT) : QB Try.prog T0 127 o14 (cnd 96 (En 127 k0 (B13 P)) (En 127 k6 (B12 P))) k6 (B14 P) := fun _ _ _ _ _ _ _ _ _ _ _  => by kernel_rfl
noncomputable def o15 := ob Try.f5 [.r,.r,.r,.r,.r,.r,.r,.r,.r,.r,.r,.r,.r,.r,.r,.r,.r,.r,.r,.l]
def B15 (P : PT) (x1 : Value) (x2 x3 : Int) (x4 : Nat) (x10 : Value) (x11 : Int) (x14 : Value) (x17 x18 : Int) (H : AHeap) : Prop :=
  AC Try.prog T0 19 [x14, (Value.int .i64 x18)] H (fun v1 H2 => asI .i64 v1 (fun v3 => B14 P x1 x2 x3 x4 x10 x11 x14 x17 v3 H2))
theorem q15 (P : PT) : QB Try.prog T0 127 o15 (En 127 k6 (B14 P)) k6 (B15 P) := fun _ _ _ _ _ _ _ _ _ _ _  => by kernel_rfl
noncomputable def o16 := ob Try.f5 [.r,.r,.r,.r,.r,.r,.r,.r,.r,.r,.r,.r,.r,.r,.r,.r,.r,.r,.l]
def B16 (P : PT) (x1 : Value) (x2 x3 : Int) (x4 : Nat) (x10 : Value) (x11 : Int) (x14 : Value) (x17 : Int) (H : AHeap) : Prop :=
  B15 P x1 x2 x3 x4 x10 x11 x14 x17 1 H
theorem q16 (P : PT) : QB Try.prog T0 127 o16 (En 127 k6 (B15 P)) k5 (B16 P) := fun _ _ _ _ _ _ _ _ _ _  => by kernel_rfl
noncomputable def o17 := ob Try.f5 [.r,.r,.r,.r,.r,.r,.r,.r,.r,.r,.r,.r,.r,.r,.r,.r,.r,.l]
def B17 (P : PT) (x1 : Value) (x2 x3 : Int) (x4 : Nat) (x10 : Value) (x11 : Int) (x14 : Value) (x17 : Int) (H : AHeap) : Prop :=
  AC Try.prog T0 18 [x14, (Value.int .i64 x17)] H (fun v1 H2 => asI .i64 v1 (fun v3 => B16 P x1 x2 x3 x4 x10 x11 x14 v3 H2))
theorem q17 (P : PT) : QB Try.prog T0 127 o17 (En 127 k5 (B16 P)) k5 (B17 P) := fun _ _ _ _ _ _ _ _ _ _  => by kernel_rfl
abbrev k7 : Sk := [(1,.v),(2,.i .i64),(3,.i .i64),(4,.x),(10,.v),(11,.i .i64),(14,.v)]
noncomputable def o18 := ob Try.f5 [.r,.r,.r,.r,.r,.r,.r,.r,.r,.r,.r,.r,.r,.r,.r,.r,.l]
def B18 (P : PT) (x1 : Value) (x2 x3 : Int) (x4 : Nat) (x10 : Value) (x11 : Int) (x14 : Value) (H : AHeap) : Prop :=
  B17 P x1 x2 x3 x4 x10 x11 x14 1 H
theorem q18 (P : PT) : QB Try.prog T0 127 o18 (En 127 k5 (B17 P)) k7 (B18 P) := fun _ _ _ _ _ _ _ _ _  => by kernel_rfl
noncomputable def o19 := ob Try.f5 [.r,.r,.r,.r,.r,.r,.r,.r,.r,.r,.r,.r,.r,.r,.r,.l,.r,.l,.l]
def B19 (P : PT) (H : AHeap) : Prop :=
  P (Value.bool false) H
theorem q19 (P : PT) : QB Try.prog T0 127 o19 (ret P) k0 (B19 P) := fun _ _  => by kernel_rfl
abbrev k8 : Sk := [(1,.v),(2,.i .i64),(3,.i .i64),(4,.x),(10,.v),(11,.i .i64),(14,.v),(15,.i .i64),(16,.i .i64)]
noncomputable def o20 := ob Try.f5 [.r,.r,.r,.r,.r,.r,.r,.r,.r,.r,.r,.r,.r,.r,.r,.l,.l]
def B20 (P : PT) (x1 : Value) (x2 x3 : Int) (x4 : Nat) (x10 : Value) (x11 : Int) (x14 : Value) (x15 x16 : Int) (H : AHeap) : Prop :=
  pif (decide ((x16 : Int) < 0)) (B19 P H) (AC Try.prog T0 15 [x14, x10] H (fun v1 H2 => asB v1 (fun v3 => pif (!v3) (B19 P H2) (pif ((x15 : Int) != x11) (B19 P H2) (B18 P x1 x2 x3 x4 x10 x11 x14 H2)))))
theorem q20 (P : PT) : QB Try.prog T0 127 o20 (cnd 88 (En 127 k0 (B19 P)) (En 127 k7 (B18 P))) k8 (B20 P) := fun _ _ _ _ _ _ _ _ _ _ _  => by kernel_rfl
abbrev k9 : Sk := [(1,.v),(2,.i .i64),(3,.i .i64),(4,.x),(10,.v),(11,.i .i64),(13,.v),(14,.v),(15,.i .i64),(16,.i .i64)]
noncomputable def o21 := ob Try.f5 [.r,.r,.r,.r,.r,.r,.r,.r,.r,.r,.r,.r,.r,.r,.l]
def B21 (P : PT) (x1 : Value) (x2 x3 : Int) (x4 : Nat) (x10 : Value) (x11 : Int) (x13 x14 : Value) (x15 x16 : Int) (H : AHeap) : Prop :=
  AC Try.prog T0 18 [x13, (Value.int .i64 x16)] H (fun v1 H2 => asI .i64 v1 (fun v3 => B20 P x1 x2 x3 x4 x10 x11 x14 x15 v3 H2))
theorem q21 (P : PT) : QB Try.prog T0 127 o21 (En 127 k8 (B20 P)) k9 (B21 P) := fun _ _ _ _ _ _ _ _ _ _ _ _  => by kernel_rfl
abbrev k10 : Sk := [(1,.v),(2,.i .i64),(3,.i .i64),(4,.x),(10,.v),(11,.i .i64),(12,.x),(13,.v),(14,.v),(15,.i .i64),(16,.i .i64)]
noncomputable def o22 := ob Try.f5 [.r,.r,.r,.r,.r,.r,.r,.r,.r,.r,.r,.r,.r,.l]
def B22 (P : PT) (x1 : Value) (x2 x3 : Int) (x4 : Nat) (x10 : Value) (x11 : Int) (x12 : Nat) (x13 x14 : Value) (x15 x16 : Int) (H : AHeap) : Prop :=
  ldI .i64 H x12 0 (fun v1 => ld1 H x12 1 (fun v2 => AC Try.prog T0 17 [(Value.agg ⟨[(Value.int .i64 v1), v2]⟩), (Value.int .i64 x16)] H (fun v3 H4 => asI .i64 v3 (fun v5 => B21 P x1 x2 x3 x4 x10 x11 x13 x14 x15 v5 H4))))
theorem q22 (P : PT) : QB Try.prog T0 127 o22 (En 127 k9 (B21 P)) k10 (B22 P) := fun _ _ _ _ _ _ _ _ _ _ _ _ _  => by kernel_rfl
abbrev k11 : Sk := [(1,.v),(2,.i .i64),(3,.i .i64),(4,.x),(10,.v),(11,.i .i64),(12,.x),(13,.v),(14,.v),(15,.i .i64)]
noncomputable def o23 := ob Try.f5 [.r,.r,.r,.r,.r,.r,.r,.r,.r,.r,.r,.r,.l]
def B23 (P : PT) (x1 : Value) (x2 x3 : Int) (x4 : Nat) (x10 : Value) (x11 : Int) (x12 : Nat) (x13 x14 : Value) (x15 : Int) (H : AHeap) : Prop :=
  B22 P x1 x2 x3 x4 x10 x11 x12 x13 x14 x15 1 H
theorem q23 (P : PT) : QB Try.prog T0 127 o23 (En 127 k10 (B22 P)) k11 (B23 P) := fun _ _ _ _ _ _ _ _ _ _ _ _  => by kernel_rfl
noncomputable def o24 := ob Try.f5 [.r,.r,.r,.r,.r,.r,.r,.r,.r,.r,.r,.l,.r,.l,.l]
def B24 (P : PT) (H : AHeap) : Prop :=
  P (Value.bool false) H
theorem q24 (P : PT) : QB Try.prog T0 127 o24 (ret P) k0 (B24 P) := fun _ _  => by kernel_rfl
noncomputable def o25 := ob Try.f5 [.r,.r,.r,.r,.r,.r,.r,.r,.r,.r,.r,.l,.l]
def B25 (P : PT) (x1 : Value) (x2 x3 : Int) (x4 : Nat) (x10 : Value) (x11 : Int) (x12 : Nat) (x13 x14 : Value) (x15 : Int) (H : AHeap) : Prop :=
  AC Try.prog T0 13 [x1] H (fun v1 H2 => AC Try.prog T0 15 [x13, v1] H2 (fun v4 H5 => asB v4 (fun v6 => pif (!v6) (B24 P H5) (B23 P x1 x2 x3 x4 x10 x11 x12 x13 x14 x15 H5))))
theorem q25 (P : PT) : QB Try.prog T0 127 o25 (cnd 69 (En 127 k0 (B24 P)) (En 127 k11 (B23 P))) k11 (B25 P) := fun _ _ _ _ _ _ _ _ _ _ _ _  => by kernel_rfl
noncomputable def o26 := ob Try.f5 [.r,.r,.r,.r,.r,.r,.r,.r,.r,.r,.l,.r,.l,.l]
def B26 (P : PT) (H : AHeap) : Prop :=
  P (Value.bool false) H
theorem q26 (P : PT) : QB Try.prog T0 127 o26 (ret P) k0 (B26 P) := fun _ _  => by kernel_rfl
noncomputable def o27 := ob Try.f5 [.r,.r,.r,.r,.r,.r,.r,.r,.r,.r,.l,.l]
def B27 (P : PT) (x1 : Value) (x2 x3 : Int) (x4 : Nat) (x10 : Value) (x11 : Int) (x12 : Nat) (x13 x14 : Value) (x15 : Int) (H : AHeap) : Prop :=
  ldI .i64 H x12 0 (fun v1 => ld1 H x12 1 (fun v2 => ldI .i64 H x4 0 (fun v3 => ld1 H x4 1 (fun v4 => AC Try.prog T0 12 [(Value.agg ⟨[(Value.int .i64 v3), v4]⟩)] H (fun v5 H6 => agg2 v5 (fun v7 v8 => asI .i64 v7 (fun v9 => (AHeap.le H H6) ∧ (AC Try.prog T0 16 [(Value.agg ⟨[(Value.int .i64 v1), v2]⟩), (Value.agg ⟨[(Value.int .i64 v9), v8]⟩)] H6 (fun v11 H12 => asB v11 (fun v13 => pif (!v13) (B26 P H12) (B25 P x1 x2 x3 x4 x10 x11 x12 x13 x14 x15 H12)))))))))))
theorem q27 (P : PT) : QD Try.prog T0 127 o27 [(0, false), (1, false), (2, true), (3, false), (4, false)] (cnd 64 (En 127 k0 (B26 P)) (En 127 k11 (B25 P))) k11 (B27 P) := fun _ _ _ _ _ _ _ _ _ _ _ _  => by kernel_rfl
noncomputable def o28 := ob Try.f5 [.r,.r,.r,.r,.r,.r,.r,.r,.r,.l,.r,.l,.l]
def B28 (P : PT) (H : AHeap) : Prop :=
  P (Value.bool false) H
theorem q28 (P : PT) : QB Try.prog T0 127 o28 (ret P) k0 (B28 P) := fun _ _  => by kernel_rfl
noncomputable def o29 := ob Try.f5 [.r,.r,.r,.r,.r,.r,.r,.r,.r,.l,.l]
def B29 (P : PT) (x1 : Value) (x2 x3 : Int) (x4 : Nat) (x10 : Value) (x11 : Int) (x12 : Nat) (x13 x14 : Value) (x15 : Int) (H : AHeap) : Prop :=
  AC Try.prog T0 15 [x14, x10] H (fun v1 H2 => asB v1 (fun v3 => pif (!v3) (B28 P H2) (pif ((x15 : Int) != x11) (B28 P H2) (B27 P x1 x2 x3 x4 x10 x11 x12 x13 x14 x15 H2))))
theorem q29 (P : PT) : QB Try.prog T0 127 o29 (cnd 59 (En 127 k0 (B28 P)) (En 127 k11 (B27 P))) k11 (B29 P) := fun _ _ _ _ _ _ _ _ _ _ _ _  => by kernel_rfl
abbrev k12 : Sk := [(1,.v),(2,.i .i64),(3,.i .i64),(4,.x),(10,.v),(11,.i .i64),(12,.x),(13,.v)]
noncomputable def o30 := ob Try.f5 [.r,.r,.r,.r,.r,.r,.r,.r,.l]
def B30 (P : PT) (x1 : Value) (x2 x3 : Int) (x4 : Nat) (x10 : Value) (x11 : Int) (x12 : Nat) (x13 : Value) (H : AHeap) : Prop :=
  ldI .i64 H x12 0 (fun v1 => ld1 H x12 1 (fun v2 => AC Try.prog T0 26 [(Value.agg ⟨[(Value.int .i64 v1), v2]⟩), x13, (Value.int .i64 x2), (Value.int .i64 x3)] H (fun v3 H4 => tup2 v3 (fun v5 v6 => asI .i64 v6 (fun v8 => B29 P x1 x2 x3 x4 x10 x11 x12 x13 v5 v8 H4)))))
theorem q30 (P : PT) : QB Try.prog T0 127 o30 (En 127 k11 (B29 P)) k12 (B30 P) := fun _ _ _ _ _ _ _ _ _ _  => by kernel_rfl
abbrev k13 : Sk := [(1,.v),(2,.i .i64),(3,.i .i64),(4,.x),(10,.v),(11,.i .i64),(12,.x)]
noncomputable def o31 := ob Try.f5 [.r,.r,.r,.r,.r,.r,.r,.l]
def B31 (P : PT) (x1 : Value) (x2 x3 : Int) (x4 : Nat) (x10 : Value) (x11 : Int) (x12 : Nat) (H : AHeap) : Prop :=
  AC Try.prog T0 13 [x1] H (fun v1 H2 => B30 P x1 x2 x3 x4 x10 x11 x12 v1 H2)
theorem q31 (P : PT) : QB Try.prog T0 127 o31 (En 127 k12 (B30 P)) k13 (B31 P) := fun _ _ _ _ _ _ _ _ _  => by kernel_rfl
abbrev k14 : Sk := [(1,.v),(2,.i .i64),(3,.i .i64),(4,.x),(10,.v),(11,.i .i64)]
noncomputable def o32 := ob Try.f5 [.r,.r,.r,.r,.r,.r,.l]
def B32 (P : PT) (x1 : Value) (x2 x3 : Int) (x4 : Nat) (x10 : Value) (x11 : Int) (H : AHeap) : Prop :=
  ldI .i64 H x4 0 (fun v1 => ld1 H x4 1 (fun v2 => AC Try.prog T0 12 [(Value.agg ⟨[(Value.int .i64 v1), v2]⟩)] H (fun v3 H4 => agg2 v3 (fun v5 v6 => asI .i64 v5 (fun v7 => newK H4 [(Value.int .i64 0), (Value.slice none 0 0)] 31 (fun b9 H10 => stK H10 b9 0 [(Value.int .i64 v7), v6] (fun H11 => B31 P x1 x2 x3 x4 x10 x11 b9 H11)))))))
theorem q32 (P : PT) : QB Try.prog T0 127 o32 (En 127 k13 (B31 P)) k14 (B32 P) := fun _ _ _ _ _ _ _ _  => by kernel_rfl
abbrev k15 : Sk := [(1,.v),(2,.i .i64),(3,.i .i64),(4,.x)]
noncomputable def o33 := ob Try.f5 [.r,.r,.r,.r,.r,.l]
def B33 (P : PT) (x1 : Value) (x2 x3 : Int) (x4 : Nat) (H : AHeap) : Prop :=
  ldI .i64 H x4 0 (fun v1 => ld1 H x4 1 (fun v2 => AC Try.prog T0 12 [(Value.agg ⟨[(Value.int .i64 v1), v2]⟩)] H (fun v3 H4 => agg2 v3 (fun v5 v6 => asI .i64 v5 (fun v7 => AC Try.prog T0 13 [x1] H4 (fun v9 H10 => AC Try.prog T0 25 [(Value.agg ⟨[(Value.int .i64 v7), v6]⟩), v9, (Value.int .i64 x2), (Value.int .i64 x3)] H10 (fun v12 H13 => tup2 v12 (fun v14 v15 => asI .i64 v15 (fun v17 => B32 P x1 x2 x3 x4 v14 v17 H13)))))))))
theorem q33 (P : PT) : QB Try.prog T0 127 o33 (En 127 k14 (B32 P)) k15 (B33 P) := fun _ _ _ _ _ _  => by kernel_rfl
noncomputable def o34 := ob Try.f5 [.r,.r,.r,.r,.l,.r,.l,.l]
def B34 (P : PT) (H : AHeap) : Prop :=
  P (Value.bool true) H
theorem q34 (P : PT) : QB Try.prog T0 127 o34 (ret P) k0 (B34 P) := fun _ _  => by kernel_rfl
abbrev k16 : Sk := [(1,.v),(2,.i .i64),(3,.i .i64),(4,.x),(9,.i .i64)]
noncomputable def o35 := ob Try.f5 [.r,.r,.r,.r,.l,.l]
def B35 (P : PT) (x1 : Value) (x2 x3 : Int) (x4 : Nat) (x9 : Int) (H : AHeap) : Prop :=
  pif (decide ((x9 : Int) < 0)) (B34 P H) (B33 P x1 x2 x3 x4 H)
theorem q35 (P : PT) : QB Try.prog T0 127 o35 (cnd 28 (En 127 k0 (B34 P)) (En 127 k15 (B33 P))) k16 (B35 P) := fun _ _ _ _ _ _ _  => by kernel_rfl
noncomputable def o36 := ob Try.f5 [.r,.r,.r,.l]
def B36 (P : PT) (x1 : Value) (x2 x3 : Int) (x4 : Nat) (x9 : Int) (H : AHeap) : Prop :=
  ldI .i64 H x4 0 (fun v1 => ld1 H x4 1 (fun v2 => AC Try.prog T0 10 [(Value.agg ⟨[(Value.int .i64 v1), v2]⟩), (Value.int .i64 x9)] H (fun v3 H4 => asI .i64 v3 (fun v5 => B35 P x1 x2 x3 x4 v5 H4))))
theorem q36 (P : PT) : QB Try.prog T0 127 o36 (En 127 k16 (B35 P)) k16 (B36 P) := fun _ _ _ _ _ _ _  => by kernel_rfl
noncomputable def o37 := ob Try.f5 [.r,.r,.l]
def B37 (P : PT) (x1 : Value) (x2 x3 : Int) (x4 : Nat) (H : AHeap) : Prop :=
  B36 P x1 x2 x3 x4 1048576 H
theorem q37 (P : PT) : QB Try.prog T0 127 o37 (En 127 k16 (B36 P)) k15 (B37 P) := fun _ _ _ _ _ _  => by kernel_rfl
noncomputable def o38 := ob Try.f5 [.r,.l,.r,.l,.l]
def B38 (P : PT) (H : AHeap) : Prop :=
  P (Value.bool true) H
theorem q38 (P : PT) : QB Try.prog T0 127 o38 (ret P) k0 (B38 P) := fun _ _  => by kernel_rfl
noncomputable def o39 := ob Try.f5 [.r,.l,.l]
def B39 (P : PT) (x1 : Value) (x2 x3 : Int) (x4 : Nat) (H : AHeap) : Prop :=
  lenK x1 (fun n1 => pif (decide (((n1 : Int) : Int) > 1048576)) (B38 P H) (B37 P x1 x2 x3 x4 H))
theorem q39 (P : PT) : QB Try.prog T0 127 o39 (cnd 23 (En 127 k0 (B38 P)) (En 127 k15 (B37 P))) k15 (B39 P) := fun _ _ _ _ _ _  => by kernel_rfl
abbrev k17 : Sk := [(0,.g [.i,.v]),(1,.v),(2,.i .i64),(3,.i .i64)]
noncomputable def o40 := ob Try.f5 [.l]
def B40 (P : PT) (x0a : Int) (x0b x1 : Value) (x2 x3 : Int) (H : AHeap) : Prop :=
  newK H [(Value.int .i64 x0a), x0b] 24 (fun b1 H2 => B39 P x1 x2 x3 b1 H2)
theorem q40 (P : PT) : QB Try.prog T0 127 o40 (En 127 k15 (B39 P)) k17 (B40 P) := fun _ _ _ _ _ _ _  => by kernel_rfl
noncomputable def code : Code := (.seq (.region 0 ⟨o40⟩ false) (.seq (.seq (.region 1 ⟨o39⟩ false) (.cond (.tmp 23) (.seq (.region 2 ⟨o38⟩ false) .ret) .skip)) (.seq (.region 3 ⟨o37⟩ false) (.seq (.region 4 ⟨o36⟩ false) (.seq (.seq (.region 5 ⟨o35⟩ false) (.cond (.tmp 28) (.seq (.region 6 ⟨o34⟩ false) .ret) .skip)) (.seq (.region 7 ⟨o33⟩ false) (.seq (.region 8 ⟨o32⟩ false) (.seq (.region 9 ⟨o31⟩ false) (.seq (.region 10 ⟨o30⟩ false) (.seq (.seq (.region 11 ⟨o29⟩ false) (.cond (.tmp 59) (.seq (.region 12 ⟨o28⟩ false) .ret) .skip)) (.seq (.seq (.region 13 ⟨o27⟩ true) (.cond (.tmp 64) (.seq (.region 14 ⟨o26⟩ false) .ret) .skip)) (.seq (.seq (.region 15 ⟨o25⟩ false) (.cond (.tmp 69) (.seq (.region 16 ⟨o24⟩ false) .ret) .skip)) (.seq (.region 17 ⟨o23⟩ false) (.seq (.region 18 ⟨o22⟩ false) (.seq (.region 19 ⟨o21⟩ false) (.seq (.seq (.region 20 ⟨o20⟩ false) (.cond (.tmp 88) (.seq (.region 21 ⟨o19⟩ false) .ret) .skip)) (.seq (.region 22 ⟨o18⟩ false) (.seq (.region 23 ⟨o17⟩ false) (.seq (.region 24 ⟨o16⟩ false) (.seq (.region 25 ⟨o15⟩ false) (.seq (.seq (.region 26 ⟨o14⟩ false) (.cond (.tmp 96) (.seq (.region 27 ⟨o13⟩ false) .ret) .skip)) (.seq (.seq (.region 28 ⟨o12⟩ false) (.cond (.tmp 99) (.seq (.region 29 ⟨o11⟩ false) .ret) .skip)) (.seq (.region 30 ⟨o10⟩ false) (.seq (.seq (.region 31 ⟨o9⟩ false) (.cond (.tmp 118) (.seq (.region 32 ⟨o8⟩ false) .ret) .skip)) (.seq (.region 33 ⟨o7⟩ false) (.seq (.region 34 ⟨o6⟩ false) (.seq (.seq (.region 35 ⟨o5⟩ false) (.cond (.tmp 123) (.seq (.region 36 ⟨o4⟩ false) .ret) .skip)) (.seq (.seq (.region 37 ⟨o3⟩ false) (.cond (.tmp 126) (.seq (.region 38 ⟨o2⟩ false) .ret) .skip)) (.seq (.region 39 ⟨o1⟩ false) .ret)))))))))))))))))))))))))))))
theorem body : Try.f5.body = some code := by kernel_rfl
theorem main (P : PT) : ∀ env H, (En 127 k17 (B40 P)) env H → AW Try.prog T0 code env H (mkQ (ret P) (fun _ _ _ => False) (ret P)) :=
  (r_seq (rB T0_ok (q40 P)) (r_seq (r_seq (rB T0_ok (q39 P)) (r_cond rfl (r_seq (rB T0_ok (q38 P)) r_ret) r_skip)) (r_seq (rB T0_ok (q37 P)) (r_seq (rB T0_ok (q36 P)) (r_seq (r_seq (rB T0_ok (q35 P)) (r_cond rfl (r_seq (rB T0_ok (q34 P)) r_ret) r_skip)) (r_seq (rB T0_ok (q33 P)) (r_seq (rB T0_ok (q32 P)) (r_seq (rB T0_ok (q31 P)) (r_seq (rB T0_ok (q30 P)) (r_seq (r_seq (rB T0_ok (q29 P)) (r_cond rfl (r_seq (rB T0_ok (q28 P)) r_ret) r_skip)) (r_seq (r_seq (rD T0_ok mixed [(0, false), (1, false), (2, true), (3, false), (4, false)] (by kernel_rfl) (q27 P)) (r_cond rfl (r_seq (rB T0_ok (q26 P)) r_ret) r_skip)) (r_seq (r_seq (rB T0_ok (q25 P)) (r_cond rfl (r_seq (rB T0_ok (q24 P)) r_ret) r_skip)) (r_seq (rB T0_ok (q23 P)) (r_seq (rB T0_ok (q22 P)) (r_seq (rB T0_ok (q21 P)) (r_seq (r_seq (rB T0_ok (q20 P)) (r_cond rfl (r_seq (rB T0_ok (q19 P)) r_ret) r_skip)) (r_seq (rB T0_ok (q18 P)) (r_seq (rB T0_ok (q17 P)) (r_seq (rB T0_ok (q16 P)) (r_seq (rB T0_ok (q15 P)) (r_seq (r_seq (rB T0_ok (q14 P)) (r_cond rfl (r_seq (rB T0_ok (q13 P)) r_ret) r_skip)) (r_seq (r_seq (rB T0_ok (q12 P)) (r_cond rfl (r_seq (rB T0_ok (q11 P)) r_ret) r_skip)) (r_seq (rB T0_ok (q10 P)) (r_seq (r_seq (rB T0_ok (q9 P)) (r_cond rfl (r_seq (rB T0_ok (q8 P)) r_ret) r_skip)) (r_seq (rB T0_ok (q7 P)) (r_seq (rB T0_ok (q6 P)) (r_seq (r_seq (rB T0_ok (q5 P)) (r_cond rfl (r_seq (rB T0_ok (q4 P)) r_ret) r_skip)) (r_seq (r_seq (rB T0_ok (q3 P)) (r_cond rfl (r_seq (rB T0_ok (q2 P)) r_ret) r_skip)) (r_seq (rB T0_ok (q1 P)) r_ret)))))))))))))))))))))))))))))
theorem ac (P : PT) (x0a : Int) (x0b x1 : Value) (x2 x3 : Int) (H : AHeap) (h : B40 P x0a x0b x1 x2 x3 H) : AC Try.prog T0 5 [(Value.agg ⟨[(Value.int .i64 x0a), x0b]⟩), x1, (Value.int .i64 x2), (Value.int .i64 x3)] H P :=
  r_fn T0_ok (c := code) (n := 127) Try.func5 body (by kernel_rfl) (main P) (En_mk (x0a, x0b, x1, x2, x3, ()) (by kernel_rfl) ⟨by kernel_rfl, by kernel_rfl, by kernel_rfl, by kernel_rfl, trivial⟩ h)

end F5
-- loop.example/g01329/laws.FnExactExchangeChain
namespace F7
noncomputable def ret (P : PT) : EP := retE T0 127 Try.f7 P
abbrev k0 : Sk := []
noncomputable def o1 := ob Try.f7 [.r,.r,.r,.r,.r,.r,.r,.r,.r,.r,.r,.r,.r,.r,.r,.r,.r,.r,.r,.r,.r,.r,.r,.r,.r,.r,.r,.r,.l]
def B1 (P : PT) (H : AHeap) : Prop :=
  P (Value.bool true) H
theorem q1 (P : PT) : QB Try.prog T0 127 o1 (ret P) k0 (B1 P) := fun _ _  => by kernel_rfl
noncomputable def o2 := ob Try.f7 [.r,.r,.r,.r,.r,.r,.r,.r,.r,.r,.r,.r,.r,.r,.r,.r,.r,.r,.r,.r,.r,.r,.r,.r,.r,.r,.r,.l,.r,.l,.l]
def B2 (P : PT) (H : AHeap) : Prop :=
  P (Value.bool false) H
theorem q2 (P : PT) : QB Try.prog T0 127 o2 (ret P) k0 (B2 P) := fun _ _  => by kernel_rfl
abbrev k1 : Sk := [(17,.i .i64),(18,.i .i64)]
noncomputable def o3 := ob Try.f7 [.r,.r,.r,.r,.r,.r,.r,.r,.r,.r,.r,.r,.r,.r,.r,.r,.r,.r,.r,.r,.r,.r,.r,.r,.r,.r,.r,.l,.l]
def B3 (P : PT) (x17 x18 : Int) (H : AHeap) : Prop :=
  pif ((x18 : Int) != x17) (B2 P H) (B1 P H)
theorem q3 (P : PT) : QB Try.prog T0 127 o3 (cnd 126 (En 127 k0 (B2 P)) (En 127 k0 (B1 P))) k1 (B3 P) := fun _ _ _ _  => by kernel_rfl
noncomputable def o4 := ob Try.f7 [.r,.r,.r,.r,.r,.r,.r,.r,.r,.r,.r,.r,.r,.r,.r,.r,.r,.r,.r,.r,.r,.r,.r,.r,.r,.r,.l,.r,.l,.l]
def B4 (P : PT) (H : AHeap) : Prop :=
  P (Value.bool false) H
theorem q4 (P : PT) : QB Try.prog T0 127 o4 (ret P) k0 (B4 P) := fun _ _  => by kernel_rfl
noncomputable def o5 := ob Try.f7 [.r,.r,.r,.r,.r,.r,.r,.r,.r,.r,.r,.r,.r,.r,.r,.r,.r,.r,.r,.r,.r,.r,.r,.r,.r,.r,.l,.l]
def B5 (P : PT) (x17 x18 : Int) (H : AHeap) : Prop :=
  pif (decide ((x18 : Int) < 0)) (B4 P H) (B3 P x17 x18 H)
theorem q5 (P : PT) : QB Try.prog T0 127 o5 (cnd 123 (En 127 k0 (B4 P)) (En 127 k1 (B3 P))) k1 (B5 P) := fun _ _ _ _  => by kernel_rfl
abbrev k2 : Sk := [(14,.v),(17,.i .i64),(18,.i .i64)]
noncomputable def o6 := ob Try.f7 [.r,.r,.r,.r,.r,.r,.r,.r,.r,.r,.r,.r,.r,.r,.r,.r,.r,.r,.r,.r,.r,.r,.r,.r,.r,.l]
def B6 (P : PT) (x14 : Value) (x17 x18 : Int) (H : AHeap) : Prop :=
  AC Try.prog T0 19 [x14, (Value.int .i64 x18)] H (fun v1 H2 => asI .i64 v1 (fun v3 => B5 P x17 v3 H2))
theorem q6 (P : PT) : QB Try.prog T0 127 o6 (En 127 k1 (B5 P)) k2 (B6 P) := fun _ _ _ _ _  => by kernel_rfl
abbrev k3 : Sk := [(14,.v),(17,.i .i64)]
noncomputable def o7 := ob Try.f7 [.r,.r,.r,.r,.r,.r,.r,.r,.r,.r,.r,.r,.r,.r,.r,.r,.r,.r,.r,.r,.r,.r,.r,.r,.l]
def B7 (P : PT) (x14 : Value) (x17 : Int) (H : AHeap) : Prop :=
  B6 P x14 x17 1 H
theorem q7 (P : PT) : QB Try.prog T0 127 o7 (En 127 k2 (B6 P)) k3 (B7 P) := fun _ _ _ _  => by kernel_rfl
noncomputable def o8 := ob Try.f7 [.r,.r,.r,.r,.r,.r,.r,.r,.r,.r,.r,.r,.r,.r,.r,.r,.r,.r,.r,.r,.r,.r,.r,.l,.r,.l,.l]
def B8 (P : PT) (H : AHeap) : Prop :=
  P (Value.bool false) H
theorem q8 (P : PT) : QB Try.prog T0 127 o8 (ret P) k0 (B8 P) := fun _ _  => by kernel_rfl
abbrev k4 : Sk := [(10,.v),(11,.i .i64),(14,.v),(17,.i .i64),(19,.v),(20,.i .i64)]
noncomputable def o9 := ob Try.f7 [.r,.r,.r,.r,.r,.r,.r,.r,.r,.r,.r,.r,.r,.r,.r,.r,.r,.r,.r,.r,.r,.r,.r,.l,.l]
def B9 (P : PT) (x10 : Value) (x11 : Int) (x14 : Value) (x17 : Int) (x19 : Value) (x20 : Int) (H : AHeap) : Prop :=
  AC Try.prog T0 15 [x19, x10] H (fun v1 H2 => asB v1 (fun v3 => pif (!v3) (B8 P H2) (pif ((x20 : Int) != x11) (B8 P H2) (B7 P x14 x17 H2))))
theorem q9 (P : PT) : QB Try.prog T0 127 o9 (cnd 118 (En 127 k0 (B8 P)) (En 127 k3 (B7 P))) k4 (B9 P) := fun _ _ _ _ _ _ _ _  => by kernel_rfl
abbrev k5 : Sk := [(1,.v),(2,.i .i64),(3,.i .i64),(4,.x),(10,.v),(11,.i .i64),(14,.v),(17,.i .i64)]
noncomputable def o10 := ob Try.f7 [.r,.r,.r,.r,.r,.r,.r,.r,.r,.r,.r,.r,.r,.r,.r,.r,.r,.r,.r,.r,.r,.r,.l]
def B10 (P : PT) (x1 : Value) (x2 x3 : Int) (x4 : Nat) (x10 : Value) (x11 : Int) (x14 : Value) (x17 : Int) (H : AHeap) : Prop :=
  ldI .i64 H x4 0 (fun v1 => ld1 H x4 1 (fun v2 => AC Try.prog T0 12 [(Value.agg ⟨[(Value.int .i64 v1), v2]⟩)] H (fun v3 H4 => agg2 v3 (fun v5 v6 => asI .i64 v5 (fun v7 => AC Try.prog T0 13 [x1] H4 (fun v9 H10 => AC Try.prog T0 30 [(Value.agg ⟨[(Value.int .i64 v7), v6]⟩), v9, (Value.int .i64 x2), (Value.int .i64 x3)] H10 (fun v12 H13 => tup2 v12 (fun v14 v15 => asI .i64 v15 (fun v17 => B9 P x10 x11 x14 x17 v14 v17 H13)))))))))
theorem q10 (P : PT) : QB Try.prog T0 127 o10 (En 127 k4 (B9 P)) k5 (B10 P) := fun _ _ _ _ _ _ _ _ _ _  => by kernel_rfl
noncomputable def o11 := ob Try.f7 [.r,.r,.r,.r,.r,.r,.r,.r,.r,.r,.r,.r,.r,.r,.r,.r,.r,.r,.r,.r,.r,.l,.r,.l,.l]
def B11 (P : PT) (H : AHeap) : Prop :=
  P (Value.bool false) H
theorem q11 (P : PT) : QB Try.prog T0 127 o11 (ret P) k0 (B11 P) := fun _ _  => by kernel_rfl
abbrev k6 : Sk := [(1,.v),(2,.i .i64),(3,.i .i64),(4,.x),(10,.v),(11,.i .i64),(14,.v),(17,.i .i64),(18,.i .i64)]
noncomputable def o12 := ob Try.f7 [.r,.r,.r,.r,.r,.r,.r,.r,.r,.r,.r,.r,.r,.r,.r,.r,.r,.r,.r,.r,.r,.l,.l]
def B12 (P : PT) (x1 : Value) (x2 x3 : Int) (x4 : Nat) (x10 : Value) (x11 : Int) (x14 : Value) (x17 x18 : Int) (H : AHeap) : Prop :=
  pif ((x18 : Int) != x17) (B11 P H) (B10 P x1 x2 x3 x4 x10 x11 x14 x17 H)
theorem q12 (P : PT) : QB Try.prog T0 127 o12 (cnd 99 (En 127 k0 (B11 P)) (En 127 k5 (B10 P))) k6 (B12 P) := fun _ _ _ _ _ _ _ _ _ _ _  => by kernel_rfl
noncomputable def o13 := ob Try.f7 [.r,.r,.r,.r,.r,.r,.r,.r,.r,.r,.r,.r,.r,.r,.r,.r,.r,.r,.r,.r,.l,.r,.l,.l]
def B13 (P : PT) (H : AHeap) : Prop :=
  P (Value.bool false) H
theorem q13 (P : PT) : QB Try.prog T0 127 o13 (ret P) k0 (B13 P) := fun _ _  => by kernel_rfl
noncomputable def o14 := ob Try.f7 [.r,.r,.r,.r,.r,.r,.r,.r,.r,.r,.r,.r,.r,.r,.r,.r,.r,.r,.r,.r,.l,.l]
def B14 (P : PT) (x1 : Value) (x2 x3 : Int) (x4 : Nat) (x10 : Value) (x11 : Int) (x14 : Value) (x17 x18 : Int) (H : AHeap) : Prop :=
  pif (decide ((x18 : Int) < 0)) (B13 P H) (B12 P x1 x2 x3 x4 x10 x11 x14 x17 x18 H)
theorem q14 (P : PT) : QB Try.prog T0 127 o14 (cnd 96 (En 127 k0 (B13 P)) (En 127 k6 (B12 P))) k6 (B14 P) := fun _ _ _ _ _ _ _ _ _ _ _  => by kernel_rfl
noncomputable def o15 := ob Try.f7 [.r,.r,.r,.r,.r,.r,.r,.r,.r,.r,.r,.r,.r,.r,.r,.r,.r,.r,.r,.l]
def B15 (P : PT) (x1 : Value) (x2 x3 : Int) (x4 : Nat) (x10 : Value) (x11 : Int) (x14 : Value) (x17 x18 : Int) (H : AHeap) : Prop :=
  AC Try.prog T0 19 [x14, (Value.int .i64 x18)] H (fun v1 H2 => asI .i64 v1 (fun v3 => B14 P x1 x2 x3 x4 x10 x11 x14 x17 v3 H2))
theorem q15 (P : PT) : QB Try.prog T0 127 o15 (En 127 k6 (B14 P)) k6 (B15 P) := fun _ _ _ _ _ _ _ _ _ _ _  => by kernel_rfl
noncomputable def o16 := ob Try.f7 [.r,.r,.r,.r,.r,.r,.r,.r,.r,.r,.r,.r,.r,.r,.r,.r,.r,.r,.l]
def B16 (P : PT) (x1 : Value) (x2 x3 : Int) (x4 : Nat) (x10 : Value) (x11 : Int) (x14 : Value) (x17 : Int) (H : AHeap) : Prop :=
  B15 P x1 x2 x3 x4 x10 x11 x14 x17 1 H
theorem q16 (P : PT) : QB Try.prog T0 127 o16 (En 127 k6 (B15 P)) k5 (B16 P) := fun _ _ _ _ _ _ _ _ _ _  => by kernel_rfl
noncomputable def o17 := ob Try.f7 [.r,.r,.r,.r,.r,.r,.r,.r,.r,.r,.r,.r,.r,.r,.r,.r,.r,.l]
def B17 (P : PT) (x1 : Value) (x2 x3 : Int) (x4 : Nat) (x10 : Value) (x11 : Int) (x14 : Value) (x17 : Int) (H : AHeap) : Prop :=
  AC Try.prog T0 18 [x14, (Value.int .i64 x17)] H (fun v1 H2 => asI .i64 v1 (fun v3 => B16 P x1 x2 x3 x4 x10 x11 x14 v3 H2))
theorem q17 (P : PT) : QB Try.prog T0 127 o17 (En 127 k5 (B16 P)) k5 (B17 P) := fun _ _ _ _ _ _ _ _ _ _  => by kernel_rfl
abbrev k7 : Sk := [(1,.v),(2,.i .i64),(3,.i .i64),(4,.x),(10,.v),(11,.i .i64),(14,.v)]
noncomputable def o18 := ob Try.f7 [.r,.r,.r,.r,.r,.r,.r,.r,.r,.r,.r,.r,.r,.r,.r,.r,.l]
def B18 (P : PT) (x1 : Value) (x2 x3 : Int) (x4 : Nat) (x10 : Value) (x11 : Int) (x14 : Value) (H : AHeap) : Prop :=
  B17 P x1 x2 x3 x4 x10 x11 x14 1 H
theorem q18 (P : PT) : QB Try.prog T0 127 o18 (En 127 k5 (B17 P)) k7 (B18 P) := fun _ _ _ _ _ _ _ _ _  => by kernel_rfl
noncomputable def o19 := ob Try.f7 [.r,.r,.r,.r,.r,.r,.r,.r,.r,.r,.r,.r,.r,.r,.r,.l,.r,.l,.l]
def B19 (P : PT) (H : AHeap) : Prop :=
  P (Value.bool false) H
theorem q19 (P : PT) : QB Try.prog T0 127 o19 (ret P) k0 (B19 P) := fun _ _  => by kernel_rfl
abbrev k8 : Sk := [(1,.v),(2,.i .i64),(3,.i .i64),(4,.x),(10,.v),(11,.i .i64),(14,.v),(15,.i .i64),(16,.i .i64)]
noncomputable def o20 := ob Try.f7 [.r,.r,.r,.r,.r,.r,.r,.r,.r,.r,.r,.r,.r,.r,.r,.l,.l]
def B20 (P : PT) (x1 : Value) (x2 x3 : Int) (x4 : Nat) (x10 : Value) (x11 : Int) (x14 : Value) (x15 x16 : Int) (H : AHeap) : Prop :=
  pif (decide ((x16 : Int) < 0)) (B19 P H) (AC Try.prog T0 15 [x14, x10] H (fun v1 H2 => asB v1 (fun v3 => pif (!v3) (B19 P H2) (pif ((x15 : Int) != x11) (B19 P H2) (B18 P x1 x2 x3 x4 x10 x11 x14 H2)))))
theorem q20 (P : PT) : QB Try.prog T0 127 o20 (cnd 88 (En 127 k0 (B19 P)) (En 127 k7 (B18 P))) k8 (B20 P) := fun _ _ _ _ _ _ _ _ _ _ _  => by kernel_rfl
abbrev k9 : Sk := [(1,.v),(2,.i .i64),(3,.i .i64),(4,.x),(10,.v),(11,.i .i64),(13,.v),(14,.v),(15,.i .i64),(16,.i .i64)]
noncomputable def o21 := ob Try.f7 [.r,.r,.r,.r,.r,.r,.r,.r,.r,.r,.r,.r,.r,.r,.l]
def B21 (P : PT) (x1 : Value) (x2 x3 : Int) (x4 : Nat) (x10 : Value) (x11 : Int) (x13 x14 : Value) (x15 x16 : Int) (H : AHeap) : Prop :=
  AC Try.prog T0 18 [x13, (Value.int .i64 x16)] H (fun v1 H2 => asI .i64 v1 (fun v3 => B20 P x1 x2 x3 x4 x10 x11 x14 x15 v3 H2))
theorem q21 (P : PT) : QB Try.prog T0 127 o21 (En 127 k8 (B20 P)) k9 (B21 P) := fun _ _ _ _ _ _ _ _ _ _ _ _  => by kernel_rfl
abbrev k10 : Sk := [(1,.v),(2,.i .i64),(3,.i .i64),(4,.x),(10,.v),(11,.i .i64),(12,.x),(13,.v),(14,.v),(15,.i .i64),(16,.i .i64)]
noncomputable def o22 := ob Try.f7 [.r,.r,.r,.r,.r,.r,.r,.r,.r,.r,.r,.r,.r,.l]
def B22 (P : PT) (x1 : Value) (x2 x3 : Int) (x4 : Nat) (x10 : Value) (x11 : Int) (x12 : Nat) (x13 x14 : Value) (x15 x16 : Int) (H : AHeap) : Prop :=
  ldI .i64 H x12 0 (fun v1 => ld1 H x12 1 (fun v2 => AC Try.prog T0 17 [(Value.agg ⟨[(Value.int .i64 v1), v2]⟩), (Value.int .i64 x16)] H (fun v3 H4 => asI .i64 v3 (fun v5 => B21 P x1 x2 x3 x4 x10 x11 x13 x14 x15 v5 H4))))
theorem q22 (P : PT) : QB Try.prog T0 127 o22 (En 127 k9 (B21 P)) k10 (B22 P) := fun _ _ _ _ _ _ _ _ _ _ _ _ _  => by kernel_rfl
abbrev k11 : Sk := [(1,.v),(2,.i .i64),(3,.i .i64),(4,.x),(10,.v),(11,.i .i64),(12,.x),(13,.v),(14,.v),(15,.i .i64)]
noncomputable def o23 := ob Try.f7 [.r,.r,.r,.r,.r,.r,.r,.r,.r,.r,.r,.r,.l]
def B23 (P : PT) (x1 : Value) (x2 x3 : Int) (x4 : Nat) (x10 : Value) (x11 : Int) (x12 : Nat) (x13 x14 : Value) (x15 : Int) (H : AHeap) : Prop :=
  B22 P x1 x2 x3 x4 x10 x11 x12 x13 x14 x15 1 H
theorem q23 (P : PT) : QB Try.prog T0 127 o23 (En 127 k10 (B22 P)) k11 (B23 P) := fun _ _ _ _ _ _ _ _ _ _ _ _  => by kernel_rfl
noncomputable def o24 := ob Try.f7 [.r,.r,.r,.r,.r,.r,.r,.r,.r,.r,.r,.l,.r,.l,.l]
def B24 (P : PT) (H : AHeap) : Prop :=
  P (Value.bool false) H
theorem q24 (P : PT) : QB Try.prog T0 127 o24 (ret P) k0 (B24 P) := fun _ _  => by kernel_rfl
noncomputable def o25 := ob Try.f7 [.r,.r,.r,.r,.r,.r,.r,.r,.r,.r,.r,.l,.l]
def B25 (P : PT) (x1 : Value) (x2 x3 : Int) (x4 : Nat) (x10 : Value) (x11 : Int) (x12 : Nat) (x13 x14 : Value) (x15 : Int) (H : AHeap) : Prop :=
  AC Try.prog T0 13 [x1] H (fun v1 H2 => AC Try.prog T0 15 [x13, v1] H2 (fun v4 H5 => asB v4 (fun v6 => pif (!v6) (B24 P H5) (B23 P x1 x2 x3 x4 x10 x11 x12 x13 x14 x15 H5))))
theorem q25 (P : PT) : QB Try.prog T0 127 o25 (cnd 69 (En 127 k0 (B24 P)) (En 127 k11 (B23 P))) k11 (B25 P) := fun _ _ _ _ _ _ _ _ _ _ _ _  => by kernel_rfl
noncomputable def o26 := ob Try.f7 [.r,.r,.r,.r,.r,.r,.r,.r,.r,.r,.l,.r,.l,.l]
def B26 (P : PT) (H : AHeap) : Prop :=
  P (Value.bool false) H
theorem q26 (P : PT) : QB Try.prog T0 127 o26 (ret P) k0 (B26 P) := fun _ _  => by kernel_rfl
noncomputable def o27 := ob Try.f7 [.r,.r,.r,.r,.r,.r,.r,.r,.r,.r,.l,.l]
def B27 (P : PT) (x1 : Value) (x2 x3 : Int) (x4 : Nat) (x10 : Value) (x11 : Int) (x12 : Nat) (x13 x14 : Value) (x15 : Int) (H : AHeap) : Prop :=
  ldI .i64 H x12 0 (fun v1 => ld1 H x12 1 (fun v2 => ldI .i64 H x4 0 (fun v3 => ld1 H x4 1 (fun v4 => AC Try.prog T0 12 [(Value.agg ⟨[(Value.int .i64 v3), v4]⟩)] H (fun v5 H6 => agg2 v5 (fun v7 v8 => asI .i64 v7 (fun v9 => (AHeap.le H H6) ∧ (AC Try.prog T0 16 [(Value.agg ⟨[(Value.int .i64 v1), v2]⟩), (Value.agg ⟨[(Value.int .i64 v9), v8]⟩)] H6 (fun v11 H12 => asB v11 (fun v13 => pif (!v13) (B26 P H12) (B25 P x1 x2 x3 x4 x10 x11 x12 x13 x14 x15 H12)))))))))))
theorem q27 (P : PT) : QD Try.prog T0 127 o27 [(0, false), (1, false), (2, true), (3, false), (4, false)] (cnd 64 (En 127 k0 (B26 P)) (En 127 k11 (B25 P))) k11 (B27 P) := fun _ _ _ _ _ _ _ _ _ _ _ _  => by kernel_rfl
noncomputable def o28 := ob Try.f7 [.r,.r,.r,.r,.r,.r,.r,.r,.r,.l,.r,.l,.l]
def B28 (P : PT) (H : AHeap) : Prop :=
  P (Value.bool false) H
theorem q28 (P : PT) : QB Try.prog T0 127 o28 (ret P) k0 (B28 P) := fun _ _  => by kernel_rfl
noncomputable def o29 := ob Try.f7 [.r,.r,.r,.r,.r,.r,.r,.r,.r,.l,.l]
def B29 (P : PT) (x1 : Value) (x2 x3 : Int) (x4 : Nat) (x10 : Value) (x11 : Int) (x12 : Nat) (x13 x14 : Value) (x15 : Int) (H : AHeap) : Prop :=
  AC Try.prog T0 15 [x14, x10] H (fun v1 H2 => asB v1 (fun v3 => pif (!v3) (B28 P H2) (pif ((x15 : Int) != x11) (B28 P H2) (B27 P x1 x2 x3 x4 x10 x11 x12 x13 x14 x15 H2))))
theorem q29 (P : PT) : QB Try.prog T0 127 o29 (cnd 59 (En 127 k0 (B28 P)) (En 127 k11 (B27 P))) k11 (B29 P) := fun _ _ _ _ _ _ _ _ _ _ _ _  => by kernel_rfl
abbrev k12 : Sk := [(1,.v),(2,.i .i64),(3,.i .i64),(4,.x),(10,.v),(11,.i .i64),(12,.x),(13,.v)]
noncomputable def o30 := ob Try.f7 [.r,.r,.r,.r,.r,.r,.r,.r,.l]
def B30 (P : PT) (x1 : Value) (x2 x3 : Int) (x4 : Nat) (x10 : Value) (x11 : Int) (x12 : Nat) (x13 : Value) (H : AHeap) : Prop :=
  ldI .i64 H x12 0 (fun v1 => ld1 H x12 1 (fun v2 => AC Try.prog T0 30 [(Value.agg ⟨[(Value.int .i64 v1), v2]⟩), x13, (Value.int .i64 x2), (Value.int .i64 x3)] H (fun v3 H4 => tup2 v3 (fun v5 v6 => asI .i64 v6 (fun v8 => B29 P x1 x2 x3 x4 x10 x11 x12 x13 v5 v8 H4)))))
theorem q30 (P : PT) : QB Try.prog T0 127 o30 (En 127 k11 (B29 P)) k12 (B30 P) := fun _ _ _ _ _ _ _ _ _ _  => by kernel_rfl
abbrev k13 : Sk := [(1,.v),(2,.i .i64),(3,.i .i64),(4,.x),(10,.v),(11,.i .i64),(12,.x)]
noncomputable def o31 := ob Try.f7 [.r,.r,.r,.r,.r,.r,.r,.l]
def B31 (P : PT) (x1 : Value) (x2 x3 : Int) (x4 : Nat) (x10 : Value) (x11 : Int) (x12 : Nat) (H : AHeap) : Prop :=
  AC Try.prog T0 13 [x1] H (fun v1 H2 => B30 P x1 x2 x3 x4 x10 x11 x12 v1 H2)
theorem q31 (P : PT) : QB Try.prog T0 127 o31 (En 127 k12 (B30 P)) k13 (B31 P) := fun _ _ _ _ _ _ _ _ _  => by kernel_rfl
abbrev k14 : Sk := [(1,.v),(2,.i .i64),(3,.i .i64),(4,.x),(10,.v),(11,.i .i64)]
noncomputable def o32 := ob Try.f7 [.r,.r,.r,.r,.r,.r,.l]
def B32 (P : PT) (x1 : Value) (x2 x3 : Int) (x4 : Nat) (x10 : Value) (x11 : Int) (H : AHeap) : Prop :=
  ldI .i64 H x4 0 (fun v1 => ld1 H x4 1 (fun v2 => AC Try.prog T0 12 [(Value.agg ⟨[(Value.int .i64 v1), v2]⟩)] H (fun v3 H4 => agg2 v3 (fun v5 v6 => asI .i64 v5 (fun v7 => newK H4 [(Value.int .i64 0), (Value.slice none 0 0)] 31 (fun b9 H10 => stK H10 b9 0 [(Value.int .i64 v7), v6] (fun H11 => B31 P x1 x2 x3 x4 x10 x11 b9 H11)))))))
theorem q32 (P : PT) : QB Try.prog T0 127 o32 (En 127 k13 (B31 P)) k14 (B32 P) := fun _ _ _ _ _ _ _ _  => by kernel_rfl
abbrev k15 : Sk := [(1,.v),(2,.i .i64),(3,.i .i64),(4,.x)]
noncomputable def o33 := ob Try.f7 [.r,.r,.r,.r,.r,.l]
def B33 (P : PT) (x1 : Value) (x2 x3 : Int) (x4 : Nat) (H : AHeap) : Prop :=
  ldI .i64 H x4 0 (fun v1 => ld1 H x4 1 (fun v2 => AC Try.prog T0 12 [(Value.agg ⟨[(Value.int .i64 v1), v2]⟩)] H (fun v3 H4 => agg2 v3 (fun v5 v6 => asI .i64 v5 (fun v7 => AC Try.prog T0 13 [x1] H4 (fun v9 H10 => AC Try.prog T0 29 [(Value.agg ⟨[(Value.int .i64 v7), v6]⟩), v9, (Value.int .i64 x2), (Value.int .i64 x3)] H10 (fun v12 H13 => tup2 v12 (fun v14 v15 => asI .i64 v15 (fun v17 => B32 P x1 x2 x3 x4 v14 v17 H13)))))))))
theorem q33 (P : PT) : QB Try.prog T0 127 o33 (En 127 k14 (B32 P)) k15 (B33 P) := fun _ _ _ _ _ _  => by kernel_rfl
noncomputable def o34 := ob Try.f7 [.r,.r,.r,.r,.l,.r,.l,.l]
def B34 (P : PT) (H : AHeap) : Prop :=
  P (Value.bool true) H
theorem q34 (P : PT) : QB Try.prog T0 127 o34 (ret P) k0 (B34 P) := fun _ _  => by kernel_rfl
abbrev k16 : Sk := [(1,.v),(2,.i .i64),(3,.i .i64),(4,.x),(9,.i .i64)]
noncomputable def o35 := ob Try.f7 [.r,.r,.r,.r,.l,.l]
def B35 (P : PT) (x1 : Value) (x2 x3 : Int) (x4 : Nat) (x9 : Int) (H : AHeap) : Prop :=
  pif (decide ((x9 : Int) < 0)) (B34 P H) (B33 P x1 x2 x3 x4 H)
theorem q35 (P : PT) : QB Try.prog T0 127 o35 (cnd 28 (En 127 k0 (B34 P)) (En 127 k15 (B33 P))) k16 (B35 P) := fun _ _ _ _ _ _ _  => by kernel_rfl
noncomputable def o36 := ob Try.f7 [.r,.r,.r,.l]
def B36 (P : PT) (x1 : Value) (x2 x3 : Int) (x4 : Nat) (x9 : Int) (H : AHeap) : Prop :=
  ldI .i64 H x4 0 (fun v1 => ld1 H x4 1 (fun v2 => AC Try.prog T0 10 [(Value.agg ⟨[(Value.int .i64 v1), v2]⟩), (Value.int .i64 x9)] H (fun v3 H4 => asI .i64 v3 (fun v5 => B35 P x1 x2 x3 x4 v5 H4))))
theorem q36 (P : PT) : QB Try.prog T0 127 o36 (En 127 k16 (B35 P)) k16 (B36 P) := fun _ _ _ _ _ _ _  => by kernel_rfl
noncomputable def o37 := ob Try.f7 [.r,.r,.l]
def B37 (P : PT) (x1 : Value) (x2 x3 : Int) (x4 : Nat) (H : AHeap) : Prop :=
  B36 P x1 x2 x3 x4 1048576 H
theorem q37 (P : PT) : QB Try.prog T0 127 o37 (En 127 k16 (B36 P)) k15 (B37 P) := fun _ _ _ _ _ _  => by kernel_rfl
noncomputable def o38 := ob Try.f7 [.r,.l,.r,.l,.l]
def B38 (P : PT) (H : AHeap) : Prop :=
  P (Value.bool true) H
theorem q38 (P : PT) : QB Try.prog T0 127 o38 (ret P) k0 (B38 P) := fun _ _  => by kernel_rfl
noncomputable def o39 := ob Try.f7 [.r,.l,.l]
def B39 (P : PT) (x1 : Value) (x2 x3 : Int) (x4 : Nat) (H : AHeap) : Prop :=
  lenK x1 (fun n1 => pif (decide (((n1 : Int) : Int) > 1048576)) (B38 P H) (B37 P x1 x2 x3 x4 H))
theorem q39 (P : PT) : QB Try.prog T0 127 o39 (cnd 23 (En 127 k0 (B38 P)) (En 127 k15 (B37 P))) k15 (B39 P) := fun _ _ _ _ _ _  => by kernel_rfl
abbrev k17 : Sk := [(0,.g [.i,.v]),(1,.v),(2,.i .i64),(3,.i .i64)]
noncomputable def o40 := ob Try.f7 [.l]
def B40 (P : PT) (x0a : Int) (x0b x1 : Value) (x2 x3 : Int) (H : AHeap) : Prop :=
  newK H [(Value.int .i64 x0a), x0b] 24 (fun b1 H2 => B39 P x1 x2 x3 b1 H2)
theorem q40 (P : PT) : QB Try.prog T0 127 o40 (En 127 k15 (B39 P)) k17 (B40 P) := fun _ _ _ _ _ _ _  => by kernel_rfl
noncomputable def code : Code := (.seq (.region 0 ⟨o40⟩ false) (.seq (.seq (.region 1 ⟨o39⟩ false) (.cond (.tmp 23) (.seq (.region 2 ⟨o38⟩ false) .ret) .skip)) (.seq (.region 3 ⟨o37⟩ false) (.seq (.region 4 ⟨o36⟩ false) (.seq (.seq (.region 5 ⟨o35⟩ false) (.cond (.tmp 28) (.seq (.region 6 ⟨o34⟩ false) .ret) .skip)) (.seq (.region 7 ⟨o33⟩ false) (.seq (.region 8 ⟨o32⟩ false) (.seq (.region 9 ⟨o31⟩ false) (.seq (.region 10 ⟨o30⟩ false) (.seq (.seq (.region 11 ⟨o29⟩ false) (.cond (.tmp 59) (.seq (.region 12 ⟨o28⟩ false) .ret) .skip)) (.seq (.seq (.region 13 ⟨o27⟩ true) (.cond (.tmp 64) (.seq (.region 14 ⟨o26⟩ false) .ret) .skip)) (.seq (.seq (.region 15 ⟨o25⟩ false) (.cond (.tmp 69) (.seq (.region 16 ⟨o24⟩ false) .ret) .skip)) (.seq (.region 17 ⟨o23⟩ false) (.seq (.region 18 ⟨o22⟩ false) (.seq (.region 19 ⟨o21⟩ false) (.seq (.seq (.region 20 ⟨o20⟩ false) (.cond (.tmp 88) (.seq (.region 21 ⟨o19⟩ false) .ret) .skip)) (.seq (.region 22 ⟨o18⟩ false) (.seq (.region 23 ⟨o17⟩ false) (.seq (.region 24 ⟨o16⟩ false) (.seq (.region 25 ⟨o15⟩ false) (.seq (.seq (.region 26 ⟨o14⟩ false) (.cond (.tmp 96) (.seq (.region 27 ⟨o13⟩ false) .ret) .skip)) (.seq (.seq (.region 28 ⟨o12⟩ false) (.cond (.tmp 99) (.seq (.region 29 ⟨o11⟩ false) .ret) .skip)) (.seq (.region 30 ⟨o10⟩ false) (.seq (.seq (.region 31 ⟨o9⟩ false) (.cond (.tmp 118) (.seq (.region 32 ⟨o8⟩ false) .ret) .skip)) (.seq (.region 33 ⟨o7⟩ false) (.seq (.region 34 ⟨o6⟩ false) (.seq (.seq (.region 35 ⟨o5⟩ false) (.cond (.tmp 123) (.seq (.region 36 ⟨o4⟩ false) .ret) .skip)) (.seq (.seq (.region 37 ⟨o3⟩ false) (.cond (.tmp 126) (.seq (.region 38 ⟨o2⟩ false) .ret) .skip)) (.seq (.region 39 ⟨o1⟩ false) .ret)))))))))))))))))))))))))))))
theorem body : Try.f7.body = some code := by kernel_rfl
theorem main (P : PT) : ∀ env H, (En 127 k17 (B40 P)) env H → AW Try.prog T0 code env H (mkQ (ret P) (fun _ _ _ => False) (ret P)) :=
  (r_seq (rB T0_ok (q40 P)) (r_seq (r_seq (rB T0_ok (q39 P)) (r_cond rfl (r_seq (rB T0_ok (q38 P)) r_ret) r_skip)) (r_seq (rB T0_ok (q37 P)) (r_seq (rB T0_ok (q36 P)) (r_seq (r_seq (rB T0_ok (q35 P)) (r_cond rfl (r_seq (rB T0_ok (q34 P)) r_ret) r_skip)) (r_seq (rB T0_ok (q33 P)) (r_seq (rB T0_ok (q32 P)) (r_seq (rB T0_ok (q31 P)) (r_seq (rB T0_ok (q30 P)) (r_seq (r_seq (rB T0_ok (q29 P)) (r_cond rfl (r_seq (rB T0_ok (q28 P)) r_ret) r_skip)) (r_seq (r_seq (rD T0_ok mixed [(0, false), (1, false), (2, true), (3, false), (4, false)] (by kernel_rfl) (q27 P)) (r_cond rfl (r_seq (rB T0_ok (q26 P)) r_ret) r_skip)) (r_seq (r_seq (rB T0_ok (q25 P)) (r_cond rfl (r_seq (rB T0_ok (q24 P)) r_ret) r_skip)) (r_seq (rB T0_ok (q23 P)) (r_seq (rB T0_ok (q22 P)) (r_seq (rB T0_ok (q21 P)) (r_seq (r_seq (rB T0_ok (q20 P)) (r_cond rfl (r_seq (rB T0_ok (q19 P)) r_ret) r_skip)) (r_seq (rB T0_ok (q18 P)) (r_seq (rB T0_ok (q17 P)) (r_seq (rB T0_ok (q16 P)) (r_seq (rB T0_ok (q15 P)) (r_seq (r_seq (rB T0_ok (q14 P)) (r_cond rfl (r_seq (rB T0_ok (q13 P)) r_ret) r_skip)) (r_seq (r_seq (rB T0_ok (q12 P)) (r_cond rfl (r_seq (rB T0_ok (q11 P)) r_ret) r_skip)) (r_seq (rB T0_ok (q10 P)) (r_seq (r_seq (rB T0_ok (q9 P)) (r_cond rfl (r_seq (rB T0_ok (q8 P)) r_ret) r_skip)) (r_seq (rB T0_ok (q7 P)) (r_seq (rB T0_ok (q6 P)) (r_seq (r_seq (rB T0_ok (q5 P)) (r_cond rfl (r_seq (rB T0_ok (q4 P)) r_ret) r_skip)) (r_seq (r_seq (rB T0_ok (q3 P)) (r_cond rfl (r_seq (rB T0_ok (q2 P)) r_ret) r_skip)) (r_seq (rB T0_ok (q1 P)) r_ret)))))))))))))))))))))))))))))
theorem ac (P : PT) (x0a : Int) (x0b x1 : Value) (x2 x3 : Int) (H : AHeap) (h : B40 P x0a x0b x1 x2 x3 H) : AC Try.prog T0 7 [(Value.agg ⟨[(Value.int .i64 x0a), x0b]⟩), x1, (Value.int .i64 x2), (Value.int .i64 x3)] H P :=
  r_fn T0_ok (c := code) (n := 127) Try.func7 body (by kernel_rfl) (main P) (En_mk (x0a, x0b, x1, x2, x3, ()) (by kernel_rfl) ⟨by kernel_rfl, by kernel_rfl, by kernel_rfl, by kernel_rfl, trivial⟩ h)

end F7
-- loop.example/g01329/laws.szGraph
namespace F10
noncomputable def ret (P : PT) : EP := retE T0 12 Try.f10 P
abbrev k0 : Sk := [(1,.i .i64)]
noncomputable def o1 := ob Try.f10 [.r,.r,.r,.l]
def B1 (P : PT) (x1 : Int) (H : AHeap) : Prop :=
  P (Value.int .i64 x1) H
theorem q1 (P : PT) : QB Try.prog T0 12 o1 (ret P) k0 (B1 P) := fun _ _ _  => by kernel_rfl
abbrev k1 : Sk := []
noncomputable def o2 := ob Try.f10 [.r,.r,.l,.r,.l,.l]
def B2 (P : PT) (H : AHeap) : Prop :=
  P (Value.int .i64 (-1)) H
theorem q2 (P : PT) : QB Try.prog T0 12 o2 (ret P) k1 (B2 P) := fun _ _  => by kernel_rfl
noncomputable def o3 := ob Try.f10 [.r,.r,.l,.l]
def B3 (P : PT) (x1 : Int) (H : AHeap) : Prop :=
  pif (decide ((x1 : Int) < 0)) (B2 P H) (B1 P x1 H)
theorem q3 (P : PT) : QB Try.prog T0 12 o3 (cnd 10 (En 12 k1 (B2 P)) (En 12 k0 (B1 P))) k0 (B3 P) := fun _ _ _  => by kernel_rfl
abbrev k2 : Sk := [(1,.i .i64),(2,.x)]
noncomputable def o4 := ob Try.f10 [.r,.l]
def B4 (P : PT) (x1 : Int) (x2 : Nat) (H : AHeap) : Prop :=
  ld1 H x2 1 (fun v1 => AC Try.prog T0 35 [v1, (Value.int .i64 x1)] H (fun v2 H3 => asI .i64 v2 (fun v4 => B3 P v4 H3)))
theorem q4 (P : PT) : QB Try.prog T0 12 o4 (En 12 k0 (B3 P)) k2 (B4 P) := fun _ _ _ _  => by kernel_rfl
abbrev k3 : Sk := [(0,.g [.i,.v]),(1,.i .i64)]
noncomputable def o5 := ob Try.f10 [.l]
def B5 (P : PT) (x0a : Int) (x0b : Value) (x1 : Int) (H : AHeap) : Prop :=
  newK H [(Value.int .i64 x0a), x0b] 24 (fun b1 H2 => B4 P x1 b1 H2)
theorem q5 (P : PT) : QB Try.prog T0 12 o5 (En 12 k2 (B4 P)) k3 (B5 P) := fun _ _ _ _ _  => by kernel_rfl
noncomputable def code : Code := (.seq (.region 0 ⟨o5⟩ false) (.seq (.region 1 ⟨o4⟩ false) (.seq (.seq (.region 2 ⟨o3⟩ false) (.cond (.tmp 10) (.seq (.region 3 ⟨o2⟩ false) .ret) .skip)) (.seq (.region 4 ⟨o1⟩ false) .ret))))
theorem body : Try.f10.body = some code := by kernel_rfl
theorem main (P : PT) : ∀ env H, (En 12 k3 (B5 P)) env H → AW Try.prog T0 code env H (mkQ (ret P) (fun _ _ _ => False) (ret P)) :=
  (r_seq (rB T0_ok (q5 P)) (r_seq (rB T0_ok (q4 P)) (r_seq (r_seq (rB T0_ok (q3 P)) (r_cond rfl (r_seq (rB T0_ok (q2 P)) r_ret) r_skip)) (r_seq (rB T0_ok (q1 P)) r_ret))))
theorem ac (P : PT) (x0a : Int) (x0b : Value) (x1 : Int) (H : AHeap) (h : B5 P x0a x0b x1 H) : AC Try.prog T0 10 [(Value.agg ⟨[(Value.int .i64 x0a), x0b]⟩), (Value.int .i64 x1)] H P :=
  r_fn T0_ok (c := code) (n := 12) Try.func10 body (by kernel_rfl) (main P) (En_mk (x0a, x0b, x1, ()) (by kernel_rfl) ⟨by kernel_rfl, by kernel_rfl, trivial⟩ h)

end F10
-- loop.example/g01329/laws.toGraph
namespace F12
noncomputable def ret (P : PT) : EP := retE T0 12 Try.f12 P
abbrev k0 : Sk := [(2,.x),(3,.x)]
noncomputable def o1 := ob Try.f12 [.r,.r,.r,.r,.l]
def B1 (P : PT) (x2 x3 : Nat) (H : AHeap) : Prop :=
  ldI .i64 H x3 0 (fun v1 => ld1 H x3 1 (fun v2 => stK H x2 0 [(Value.int .i64 v1), v2] (fun H3 => ldI .i64 H3 x2 0 (fun v4 => ld1 H3 x2 1 (fun v5 => P (Value.agg ⟨[(Value.int .i64 v4), v5]⟩) H3)))))
theorem q1 (P : PT) : QB Try.prog T0 12 o1 (ret P) k0 (B1 P) := fun _ _ _ _  => by kernel_rfl
abbrev k1 : Sk := [(1,.x),(2,.x),(3,.x)]
noncomputable def o2 := ob Try.f12 [.r,.r,.r,.l]
def B2 (P : PT) (x1 x2 x3 : Nat) (H : AHeap) : Prop :=
  ld1 H x1 1 (fun v1 => AC Try.prog T0 38 [v1] H (fun v2 H3 => pif (Value.oneCell' v2) (stK H3 x3 1 [v2] (fun H5 => B1 P x2 x3 H5)) False))
theorem q2 (P : PT) : QB Try.prog T0 12 o2 (En 12 k0 (B1 P)) k1 (B2 P) := fun _ _ _ _ _  => by kernel_rfl
noncomputable def o3 := ob Try.f12 [.r,.r,.l]
def B3 (P : PT) (x1 x2 x3 : Nat) (H : AHeap) : Prop :=
  ldI .i64 H x1 0 (fun v1 => stK H x3 0 [(Value.int .i64 v1)] (fun H2 => B2 P x1 x2 x3 H2))
theorem q3 (P : PT) : QB Try.prog T0 12 o3 (En 12 k1 (B2 P)) k1 (B3 P) := fun _ _ _ _ _  => by kernel_rfl
abbrev k2 : Sk := [(1,.x),(2,.x)]
noncomputable def o4 := ob Try.f12 [.r,.l]
def B4 (P : PT) (x1 x2 : Nat) (H : AHeap) : Prop :=
  newK H [(Value.int .i64 0), (Value.slice none 0 0)] 31 (fun b1 H2 => B3 P x1 x2 b1 H2)
theorem q4 (P : PT) : QB Try.prog T0 12 o4 (En 12 k1 (B3 P)) k2 (B4 P) := fun _ _ _ _  => by kernel_rfl
abbrev k3 : Sk := [(0,.g [.i,.v])]
noncomputable def o5 := ob Try.f12 [.l]
def B5 (P : PT) (x0a : Int) (x0b : Value) (H : AHeap) : Prop :=
  newK H [(Value.int .i64 x0a), x0b] 24 (fun b1 H2 => newK H2 [(Value.int .i64 0), (Value.slice none 0 0)] 31 (fun b3 H4 => B4 P b1 b3 H4))
theorem q5 (P : PT) : QB Try.prog T0 12 o5 (En 12 k2 (B4 P)) k3 (B5 P) := fun _ _ _ _  => by kernel_rfl
noncomputable def code : Code := (.seq (.region 0 ⟨o5⟩ false) (.seq (.region 1 ⟨o4⟩ false) (.seq (.region 2 ⟨o3⟩ false) (.seq (.region 3 ⟨o2⟩ false) (.seq (.region 4 ⟨o1⟩ false) .ret)))))
theorem body : Try.f12.body = some code := by kernel_rfl
theorem main (P : PT) : ∀ env H, (En 12 k3 (B5 P)) env H → AW Try.prog T0 code env H (mkQ (ret P) (fun _ _ _ => False) (ret P)) :=
  (r_seq (rB T0_ok (q5 P)) (r_seq (rB T0_ok (q4 P)) (r_seq (rB T0_ok (q3 P)) (r_seq (rB T0_ok (q2 P)) (r_seq (rB T0_ok (q1 P)) r_ret)))))
theorem ac (P : PT) (x0a : Int) (x0b : Value) (H : AHeap) (h : B5 P x0a x0b H) : AC Try.prog T0 12 [(Value.agg ⟨[(Value.int .i64 x0a), x0b]⟩)] H P :=
  r_fn T0_ok (c := code) (n := 12) Try.func12 body (by kernel_rfl) (main P) (En_mk (x0a, x0b, ()) (by kernel_rfl) ⟨by kernel_rfl, trivial⟩ h)

end F12
-- loop.example/g01329/laws.toInt64S
namespace F13
noncomputable def ret (P : PT) : EP := retE T0 22 Try.f13 P
abbrev k0 : Sk := [(3,.v)]
noncomputable def o1 := ob Try.f13 [.r,.r,.r,.l]
def B1 (P : PT) (x3 : Value) (H : AHeap) : Prop :=
  P x3 H
theorem q1 (P : PT) : QB Try.prog T0 22 o1 (ret P) k0 (B1 P) := fun _ _ _  => by kernel_rfl
abbrev k1 : Sk := [(0,.v),(3,.v),(4,.i .i64)]
noncomputable def o3 := ob Try.f13 [.r,.r,.l,.r,.l,.l,.r,.r]
def B3 (P : PT) (N2 : NTy k1 Pr) (x0 x3 : Value) (x4 : Int) (H : AHeap) : Prop :=
  N2 x0 x3 (IntKind.i64.wrap (x4 + 1)) H
theorem q3 (P : PT) (N2 : NTy k1 Pr) : QB Try.prog T0 22 o3 (En 22 k1 N2) k1 (B3 P N2) := fun _ _ _ _ _  => by kernel_rfl
noncomputable def o4 := ob Try.f13 [.r,.r,.l,.r,.l,.l,.r,.l,.l]
def B4 (P : PT) (N2 : NTy k1 Pr) (x0 x3 : Value) (x4 : Int) (H : AHeap) : Prop :=
  idxK x0 x4 1 (fun b1 o2 => ldI .i64 H b1 o2 (fun v3 => idxK x3 x4 1 (fun b4 o5 => stK H b4 o5 [(Value.int .i64 v3)] (fun H6 => B3 P N2 x0 x3 x4 H6))))
theorem q4 (P : PT) (N2 : NTy k1 Pr) : QB Try.prog T0 22 o4 (En 22 k1 (B3 P N2)) k1 (B4 P N2) := fun _ _ _ _ _  => by kernel_rfl
noncomputable def o5 := ob Try.f13 [.r,.r,.l,.r,.l,.l,.l,.l]
def B5 (P : PT) (N2 : NTy k1 Pr) (x0 x3 : Value) (x4 : Int) (H : AHeap) : Prop :=
  lenK x0 (fun n1 => pif (decide ((x4 : Int) < (n1 : Int))) (B4 P N2 x0 x3 x4 H) (B1 P x3 H))
theorem q5 (P : PT) (N2 : NTy k1 Pr) : QB Try.prog T0 22 o5 (cnd 11 (En 22 k1 (B4 P N2)) (En 22 k0 (B1 P))) k1 (B5 P N2) := fun _ _ _ _ _  => by kernel_rfl
def L2 (P : PT) (x0 x3 : Value) (x4 : Int) (H : AHeap) : Prop :=
  ∃ (I : NTy k1 Pr) (μ : NTy k1 (AHeap → Nat)), I x0 x3 x4 H ∧ ∀ y0 y3 y4 G, I y0 y3 y4 G → B5 P (fun z0 z3 z4 G' => I z0 z3 z4 G' ∧ μ z0 z3 z4 G' < μ y0 y3 y4 G) y0 y3 y4 G
theorem l2 (P : PT) : LQ k1 (L2 P) (B5 P) := fun ⟨_,_,_,_⟩ _ ⟨I, μ, h0, hI⟩ => ⟨apT _ I, apT _ μ, h0, fun ⟨_,_,_,_⟩ _ h => hI _ _ _ _  h⟩
abbrev k2 : Sk := [(0,.v),(3,.v)]
noncomputable def o6 := ob Try.f13 [.r,.r,.l,.l]
def B6 (P : PT) (x0 x3 : Value) (H : AHeap) : Prop :=
  L2 P x0 x3 0 H
theorem q6 (P : PT) : QB Try.prog T0 22 o6 (En 22 k1 (L2 P)) k2 (B6 P) := fun _ _ _ _  => by kernel_rfl
abbrev k3 : Sk := [(0,.v)]
noncomputable def o7 := ob Try.f13 [.r,.l]
def B7 (P : PT) (x0 : Value) (H : AHeap) : Prop :=
  lenK x0 (fun n1 => mkR H 8 2 [(Value.int .i64 0)] (n1 : Int) (n1 : Int) (fun v3 H2 => B6 P x0 v3 H2))
theorem q7 (P : PT) : QB Try.prog T0 22 o7 (En 22 k2 (B6 P)) k3 (B7 P) := fun _ _ _  => by kernel_rfl
noncomputable def o8 := ob Try.f13 [.l]
def B8 (P : PT) (x0 : Value) (H : AHeap) : Prop :=
  B7 P x0 H
theorem q8 (P : PT) : QB Try.prog T0 22 o8 (En 22 k3 (B7 P)) k3 (B8 P) := fun _ _ _  => by kernel_rfl
noncomputable def code : Code := (.seq (.region 0 ⟨o8⟩ false) (.seq (.region 1 ⟨o7⟩ false) (.seq (.seq (.region 2 ⟨o6⟩ false) (.block 0 (.loop (.seq (.seq (.region 3 ⟨o5⟩ false) (.cond (.tmp 11) .skip (.exit 0))) (.seq (.block 1 (.region 5 ⟨o4⟩ false)) (.region 4 ⟨o3⟩ false)))))) (.seq (.region 6 ⟨o1⟩ false) .ret))))
theorem body : Try.f13.body = some code := by kernel_rfl
theorem main (P : PT) : ∀ env H, (En 22 k3 (B8 P)) env H → AW Try.prog T0 code env H (mkQ (ret P) (fun _ _ _ => False) (ret P)) :=
  (r_seq (rB T0_ok (q8 P)) (r_seq (rB T0_ok (q7 P)) (r_seq (r_seq (rB T0_ok (q6 P)) (r_block (rL (l2 P) (fun N2 => (r_seq (r_seq (rB T0_ok (q5 P N2)) (r_cond rfl r_skip (r_exit (fun _ _ h => h)))) (r_seq (r_block (rB T0_ok (q4 P N2))) (rB T0_ok (q3 P N2)))))))) (r_seq (rB T0_ok (q1 P)) r_ret))))
theorem ac (P : PT) (x0 : Value) (H : AHeap) (h : B8 P x0 H) : AC Try.prog T0 13 [x0] H P :=
  r_fn T0_ok (c := code) (n := 22) Try.func13 body (by kernel_rfl) (main P) (En_mk (x0, ()) (by kernel_rfl) ⟨by kernel_rfl, trivial⟩ h)

end F13
-- loop.example/g01329/laws.eqInt64S
namespace F15
noncomputable def ret (P : PT) : EP := retE T0 26 Try.f15 P
abbrev k0 : Sk := []
noncomputable def o1 := ob Try.f15 [.r,.r,.r,.l]
def B1 (P : PT) (H : AHeap) : Prop :=
  P (Value.bool true) H
theorem q1 (P : PT) : QB Try.prog T0 26 o1 (ret P) k0 (B1 P) := fun _ _  => by kernel_rfl
abbrev k1 : Sk := [(0,.v),(1,.v),(5,.i .i64)]
noncomputable def o3 := ob Try.f15 [.r,.r,.l,.r,.l,.l,.r,.r]
def B3 (P : PT) (N2 : NTy k1 Pr) (x0 x1 : Value) (x5 : Int) (H : AHeap) : Prop :=
  N2 x0 x1 (IntKind.i64.wrap (x5 + 1)) H
theorem q3 (P : PT) (N2 : NTy k1 Pr) : QB Try.prog T0 26 o3 (En 26 k1 N2) k1 (B3 P N2) := fun _ _ _ _ _  => by kernel_rfl
noncomputable def o4 := ob Try.f15 [.r,.r,.l,.r,.l,.l,.r,.l,.l,.r,.l,.l]
def B4 (P : PT) (N2 : NTy k1 Pr) (H : AHeap) : Prop :=
  P (Value.bool false) H
theorem q4 (P : PT) (N2 : NTy k1 Pr) : QB Try.prog T0 26 o4 (ret P) k0 (B4 P N2) := fun _ _  => by kernel_rfl
noncomputable def o5 := ob Try.f15 [.r,.r,.l,.r,.l,.l,.r,.l,.l,.l]
def B5 (P : PT) (N2 : NTy k1 Pr) (x0 x1 : Value) (x5 : Int) (H : AHeap) : Prop :=
  idxK x0 x5 1 (fun b1 o2 => ldI .i64 H b1 o2 (fun v3 => idxK x1 x5 1 (fun b4 o5 => ldI .i64 H b4 o5 (fun v6 => pif ((v3 : Int) != v6) (B4 P N2 H) (B3 P N2 x0 x1 x5 H)))))
theorem q5 (P : PT) (N2 : NTy k1 Pr) : QD Try.prog T0 26 o5 [(0, false), (1, false), (2, false), (3, false), (4, false), (5, false), (6, false), (7, false), (8, false)] (cnd 25 (En 26 k0 (B4 P N2)) (En 26 k1 (B3 P N2))) k1 (B5 P N2) := fun _ _ _ _ _  => by kernel_rfl
noncomputable def o6 := ob Try.f15 [.r,.r,.l,.r,.l,.l,.l,.l]
def B6 (P : PT) (N2 : NTy k1 Pr) (x0 x1 : Value) (x5 : Int) (H : AHeap) : Prop :=
  lenK x0 (fun n1 => pif (decide ((x5 : Int) < (n1 : Int))) (B5 P N2 x0 x1 x5 H) (B1 P H))
theorem q6 (P : PT) (N2 : NTy k1 Pr) : QB Try.prog T0 26 o6 (cnd 14 (En 26 k1 (B5 P N2)) (En 26 k0 (B1 P))) k1 (B6 P N2) := fun _ _ _ _ _  => by kernel_rfl
def L2 (P : PT) (x0 x1 : Value) (x5 : Int) (H : AHeap) : Prop :=
  ∃ (I : NTy k1 Pr) (μ : NTy k1 (AHeap → Nat)), I x0 x1 x5 H ∧ ∀ y0 y1 y5 G, I y0 y1 y5 G → B6 P (fun z0 z1 z5 G' => I z0 z1 z5 G' ∧ μ z0 z1 z5 G' < μ y0 y1 y5 G) y0 y1 y5 G
theorem l2 (P : PT) : LQ k1 (L2 P) (B6 P) := fun ⟨_,_,_,_⟩ _ ⟨I, μ, h0, hI⟩ => ⟨apT _ I, apT _ μ, h0, fun ⟨_,_,_,_⟩ _ h => hI _ _ _ _  h⟩
abbrev k2 : Sk := [(0,.v),(1,.v)]
noncomputable def o7 := ob Try.f15 [.r,.r,.l,.l]
def B7 (P : PT) (x0 x1 : Value) (H : AHeap) : Prop :=
  L2 P x0 x1 0 H
theorem q7 (P : PT) : QB Try.prog T0 26 o7 (En 26 k1 (L2 P)) k2 (B7 P) := fun _ _ _ _  => by kernel_rfl
noncomputable def o8 := ob Try.f15 [.r,.l,.r,.l,.l]
def B8 (P : PT) (H : AHeap) : Prop :=
  P (Value.bool false) H
theorem q8 (P : PT) : QB Try.prog T0 26 o8 (ret P) k0 (B8 P) := fun _ _  => by kernel_rfl
noncomputable def o9 := ob Try.f15 [.r,.l,.l]
def B9 (P : PT) (x0 x1 : Value) (H : AHeap) : Prop :=
  lenK x0 (fun n1 => lenK x1 (fun n2 => pif (((n1 : Int) : Int) != (n2 : Int)) (B8 P H) (B7 P x0 x1 H)))
theorem q9 (P : PT) : QB Try.prog T0 26 o9 (cnd 10 (En 26 k0 (B8 P)) (En 26 k2 (B7 P))) k2 (B9 P) := fun _ _ _ _  => by kernel_rfl
noncomputable def o10 := ob Try.f15 [.l]
def B10 (P : PT) (x0 x1 : Value) (H : AHeap) : Prop :=
  B9 P x0 x1 H
theorem q10 (P : PT) : QB Try.prog T0 26 o10 (En 26 k2 (B9 P)) k2 (B10 P) := fun _ _ _ _  => by kernel_rfl
noncomputable def code : Code := (.seq (.region 0 ⟨o10⟩ false) (.seq (.seq (.region 1 ⟨o9⟩ false) (.cond (.tmp 10) (.seq (.region 2 ⟨o8⟩ false) .ret) .skip)) (.seq (.seq (.region 3 ⟨o7⟩ false) (.block 0 (.loop (.seq (.seq (.region 4 ⟨o6⟩ false) (.cond (.tmp 14) .skip (.exit 0))) (.seq (.block 1 (.seq (.region 6 ⟨o5⟩ true) (.cond (.tmp 25) (.seq (.region 7 ⟨o4⟩ false) .ret) .skip))) (.region 5 ⟨o3⟩ false)))))) (.seq (.region 8 ⟨o1⟩ false) .ret))))
theorem body : Try.f15.body = some code := by kernel_rfl
theorem main (P : PT) : ∀ env H, (En 26 k2 (B10 P)) env H → AW Try.prog T0 code env H (mkQ (ret P) (fun _ _ _ => False) (ret P)) :=
  (r_seq (rB T0_ok (q10 P)) (r_seq (r_seq (rB T0_ok (q9 P)) (r_cond rfl (r_seq (rB T0_ok (q8 P)) r_ret) r_skip)) (r_seq (r_seq (rB T0_ok (q7 P)) (r_block (rL (l2 P) (fun N2 => (r_seq (r_seq (rB T0_ok (q6 P N2)) (r_cond rfl r_skip (r_exit (fun _ _ h => h)))) (r_seq (r_block (r_seq (rD T0_ok mixed [(0, false), (1, false), (2, false), (3, false), (4, false), (5, false), (6, false), (7, false), (8, false)] (by kernel_rfl) (q5 P N2)) (r_cond rfl (r_seq (rB T0_ok (q4 P N2)) r_ret) r_skip))) (rB T0_ok (q3 P N2)))))))) (r_seq (rB T0_ok (q1 P)) r_ret))))
theorem ac (P : PT) (x0 x1 : Value) (H : AHeap) (h : B10 P x0 x1 H) : AC Try.prog T0 15 [x0, x1] H P :=
  r_fn T0_ok (c := code) (n := 26) Try.func15 body (by kernel_rfl) (main P) (En_mk (x0, x1, ()) (by kernel_rfl) ⟨by kernel_rfl, by kernel_rfl, trivial⟩ h)

end F15
-- loop.example/g01329/laws.eqGraph
namespace F16
noncomputable def ret (P : PT) : EP := retE T0 16 Try.f16 P
abbrev k0 : Sk := []
noncomputable def o1 := ob Try.f16 [.r,.r,.r,.l]
def B1 (P : PT) (H : AHeap) : Prop :=
  P (Value.bool true) H
theorem q1 (P : PT) : QB Try.prog T0 16 o1 (ret P) k0 (B1 P) := fun _ _  => by kernel_rfl
noncomputable def o2 := ob Try.f16 [.r,.r,.l,.r,.l,.l]
def B2 (P : PT) (H : AHeap) : Prop :=
  P (Value.bool false) H
theorem q2 (P : PT) : QB Try.prog T0 16 o2 (ret P) k0 (B2 P) := fun _ _  => by kernel_rfl
abbrev k1 : Sk := [(2,.x),(3,.x)]
noncomputable def o3 := ob Try.f16 [.r,.r,.l,.l]
def B3 (P : PT) (x2 x3 : Nat) (H : AHeap) : Prop :=
  ld1 H x2 1 (fun v1 => ld1 H x3 1 (fun v2 => AC Try.prog T0 44 [v1, v2] H (fun v3 H4 => asB v3 (fun v5 => pif (!v5) (B2 P H4) (B1 P H4)))))
theorem q3 (P : PT) : QB Try.prog T0 16 o3 (cnd 15 (En 16 k0 (B2 P)) (En 16 k0 (B1 P))) k1 (B3 P) := fun _ _ _ _  => by kernel_rfl
noncomputable def o4 := ob Try.f16 [.r,.l,.r,.l,.l]
def B4 (P : PT) (H : AHeap) : Prop :=
  P (Value.bool false) H
theorem q4 (P : PT) : QB Try.prog T0 16 o4 (ret P) k0 (B4 P) := fun _ _  => by kernel_rfl
noncomputable def o5 := ob Try.f16 [.r,.l,.l]
def B5 (P : PT) (x2 x3 : Nat) (H : AHeap) : Prop :=
  ldI .i64 H x2 0 (fun v1 => ldI .i64 H x3 0 (fun v2 => pif ((v1 : Int) != v2) (B4 P H) (B3 P x2 x3 H)))
theorem q5 (P : PT) : QB Try.prog T0 16 o5 (cnd 9 (En 16 k0 (B4 P)) (En 16 k1 (B3 P))) k1 (B5 P) := fun _ _ _ _  => by kernel_rfl
abbrev k2 : Sk := [(0,.g [.i,.v]),(1,.g [.i,.v])]
noncomputable def o6 := ob Try.f16 [.l]
def B6 (P : PT) (x0a : Int) (x0b : Value) (x1a : Int) (x1b : Value) (H : AHeap) : Prop :=
  newK H [(Value.int .i64 x0a), x0b] 31 (fun b1 H2 => newK H2 [(Value.int .i64 x1a), x1b] 31 (fun b3 H4 => B5 P b1 b3 H4))
theorem q6 (P : PT) : QB Try.prog T0 16 o6 (En 16 k1 (B5 P)) k2 (B6 P) := fun _ _ _ _ _ _  => by kernel_rfl
noncomputable def code : Code := (.seq (.region 0 ⟨o6⟩ false) (.seq (.seq (.region 1 ⟨o5⟩ false) (.cond (.tmp 9) (.seq (.region 2 ⟨o4⟩ false) .ret) .skip)) (.seq (.seq (.region 3 ⟨o3⟩ false) (.cond (.tmp 15) (.seq (.region 4 ⟨o2⟩ false) .ret) .skip)) (.seq (.region 5 ⟨o1⟩ false) .ret))))
theorem body : Try.f16.body = some code := by kernel_rfl
theorem main (P : PT) : ∀ env H, (En 16 k2 (B6 P)) env H → AW Try.prog T0 code env H (mkQ (ret P) (fun _ _ _ => False) (ret P)) :=
  (r_seq (rB T0_ok (q6 P)) (r_seq (r_seq (rB T0_ok (q5 P)) (r_cond rfl (r_seq (rB T0_ok (q4 P)) r_ret) r_skip)) (r_seq (r_seq (rB T0_ok (q3 P)) (r_cond rfl (r_seq (rB T0_ok (q2 P)) r_ret) r_skip)) (r_seq (rB T0_ok (q1 P)) r_ret))))
theorem ac (P : PT) (x0a : Int) (x0b : Value) (x1a : Int) (x1b : Value) (H : AHeap) (h : B6 P x0a x0b x1a x1b H) : AC Try.prog T0 16 [(Value.agg ⟨[(Value.int .i64 x0a), x0b]⟩), (Value.agg ⟨[(Value.int .i64 x1a), x1b]⟩)] H P :=
  r_fn T0_ok (c := code) (n := 16) Try.func16 body (by kernel_rfl) (main P) (En_mk (x0a, x0b, x1a, x1b, ()) (by kernel_rfl) ⟨by kernel_rfl, by kernel_rfl, trivial⟩ h)

end F16
-- loop.example/g01329/laws.markGraph
namespace F17
noncomputable def ret (P : PT) : EP := retE T0 10 Try.f17 P
abbrev k0 : Sk := [(1,.i .i64)]
noncomputable def o1 := ob Try.f17 [.r,.r,.l]
def B1 (P : PT) (x1 : Int) (H : AHeap) : Prop :=
  P (Value.int .i64 x1) H
theorem q1 (P : PT) : QB Try.prog T0 10 o1 (ret P) k0 (B1 P) := fun _ _ _  => by kernel_rfl
abbrev k1 : Sk := [(1,.i .i64),(2,.x)]
noncomputable def o2 := ob Try.f17 [.r,.l]
def B2 (P : PT) (x1 : Int) (x2 : Nat) (H : AHeap) : Prop :=
  ld1 H x2 1 (fun v1 => AC Try.prog T0 45 [v1, (Value.int .i64 x1)] H (fun v2 H3 => asI .i64 v2 (fun v4 => B1 P v4 H3)))
theorem q2 (P : PT) : QB Try.prog T0 10 o2 (En 10 k0 (B1 P)) k1 (B2 P) := fun _ _ _ _  => by kernel_rfl
abbrev k2 : Sk := [(0,.g [.i,.v]),(1,.i .i64)]
noncomputable def o3 := ob Try.f17 [.l]
def B3 (P : PT) (x0a : Int) (x0b : Value) (x1 : Int) (H : AHeap) : Prop :=
  newK H [(Value.int .i64 x0a), x0b] 31 (fun b1 H2 => B2 P x1 b1 H2)
theorem q3 (P : PT) : QB Try.prog T0 10 o3 (En 10 k1 (B2 P)) k2 (B3 P) := fun _ _ _ _ _  => by kernel_rfl
noncomputable def code : Code := (.seq (.region 0 ⟨o3⟩ false) (.seq (.region 1 ⟨o2⟩ false) (.seq (.region 2 ⟨o1⟩ false) .ret)))
theorem body : Try.f17.body = some code := by kernel_rfl
theorem main (P : PT) : ∀ env H, (En 10 k2 (B3 P)) env H → AW Try.prog T0 code env H (mkQ (ret P) (fun _ _ _ => False) (ret P)) :=
  (r_seq (rB T0_ok (q3 P)) (r_seq (rB T0_ok (q2 P)) (r_seq (rB T0_ok (q1 P)) r_ret)))
theorem ac (P : PT) (x0a : Int) (x0b : Value) (x1 : Int) (H : AHeap) (h : B3 P x0a x0b x1 H) : AC Try.prog T0 17 [(Value.agg ⟨[(Value.int .i64 x0a), x0b]⟩), (Value.int .i64 x1)] H P :=
  r_fn T0_ok (c := code) (n := 10) Try.func17 body (by kernel_rfl) (main P) (En_mk (x0a, x0b, x1, ()) (by kernel_rfl) ⟨by kernel_rfl, by kernel_rfl, trivial⟩ h)

end F17
-- loop.example/g01329/laws.markInt64S
namespace F18
noncomputable def ret (P : PT) : EP := retE T0 19 Try.f18 P
abbrev k0 : Sk := [(1,.i .i64)]
noncomputable def o1 := ob Try.f18 [.r,.r,.l]
def B1 (P : PT) (x1 : Int) (H : AHeap) : Prop :=
  P (Value.int .i64 x1) H
theorem q1 (P : PT) : QB Try.prog T0 19 o1 (ret P) k0 (B1 P) := fun _ _ _  => by kernel_rfl
abbrev k1 : Sk := [(0,.v),(1,.i .i64),(5,.i .i64)]
noncomputable def o3 := ob Try.f18 [.r,.l,.r,.l,.l,.r,.r]
def B3 (P : PT) (N2 : NTy k1 Pr) (x0 : Value) (x1 x5 : Int) (H : AHeap) : Prop :=
  N2 x0 x1 (IntKind.i64.wrap (x5 + 1)) H
theorem q3 (P : PT) (N2 : NTy k1 Pr) : QB Try.prog T0 19 o3 (En 19 k1 N2) k1 (B3 P N2) := fun _ _ _ _ _  => by kernel_rfl
noncomputable def o4 := ob Try.f18 [.r,.l,.r,.l,.l,.r,.l,.l,.r]
def B4 (P : PT) (N2 : NTy k1 Pr) (x0 : Value) (x1 x5 : Int) (H : AHeap) : Prop :=
  B3 P N2 x0 (IntKind.i64.wrap (x1 + 1)) x5 H
theorem q4 (P : PT) (N2 : NTy k1 Pr) : QB Try.prog T0 19 o4 (En 19 k1 (B3 P N2)) k1 (B4 P N2) := fun _ _ _ _ _  => by kernel_rfl
noncomputable def o5 := ob Try.f18 [.r,.l,.r,.l,.l,.r,.l,.l,.l]
def B5 (P : PT) (N2 : NTy k1 Pr) (x0 : Value) (x1 x5 : Int) (H : AHeap) : Prop :=
  idxK x0 x5 1 (fun b1 o2 => stK H b1 o2 [(Value.int .i64 x1)] (fun H3 => B4 P N2 x0 x1 x5 H3))
theorem q5 (P : PT) (N2 : NTy k1 Pr) : QB Try.prog T0 19 o5 (En 19 k1 (B4 P N2)) k1 (B5 P N2) := fun _ _ _ _ _  => by kernel_rfl
noncomputable def o6 := ob Try.f18 [.r,.l,.r,.l,.l,.l,.l]
def B6 (P : PT) (N2 : NTy k1 Pr) (x0 : Value) (x1 x5 : Int) (H : AHeap) : Prop :=
  lenK x0 (fun n1 => pif (decide ((x5 : Int) < (n1 : Int))) (B5 P N2 x0 x1 x5 H) (B1 P x1 H))
theorem q6 (P : PT) (N2 : NTy k1 Pr) : QB Try.prog T0 19 o6 (cnd 9 (En 19 k1 (B5 P N2)) (En 19 k0 (B1 P))) k1 (B6 P N2) := fun _ _ _ _ _  => by kernel_rfl
def L2 (P : PT) (x0 : Value) (x1 x5 : Int) (H : AHeap) : Prop :=
  ∃ (I : NTy k1 Pr) (μ : NTy k1 (AHeap → Nat)), I x0 x1 x5 H ∧ ∀ y0 y1 y5 G, I y0 y1 y5 G → B6 P (fun z0 z1 z5 G' => I z0 z1 z5 G' ∧ μ z0 z1 z5 G' < μ y0 y1 y5 G) y0 y1 y5 G
theorem l2 (P : PT) : LQ k1 (L2 P) (B6 P) := fun ⟨_,_,_,_⟩ _ ⟨I, μ, h0, hI⟩ => ⟨apT _ I, apT _ μ, h0, fun ⟨_,_,_,_⟩ _ h => hI _ _ _ _  h⟩
abbrev k2 : Sk := [(0,.v),(1,.i .i64)]
noncomputable def o7 := ob Try.f18 [.r,.l,.l]
def B7 (P : PT) (x0 : Value) (x1 : Int) (H : AHeap) : Prop :=
  L2 P x0 x1 0 H
theorem q7 (P : PT) : QB Try.prog T0 19 o7 (En 19 k1 (L2 P)) k2 (B7 P) := fun _ _ _ _  => by kernel_rfl
noncomputable def o8 := ob Try.f18 [.l]
def B8 (P : PT) (x0 : Value) (x1 : Int) (H : AHeap) : Prop :=
  B7 P x0 x1 H
theorem q8 (P : PT) : QB Try.prog T0 19 o8 (En 19 k2 (B7 P)) k2 (B8 P) := fun _ _ _ _  => by kernel_rfl
noncomputable def code : Code := (.seq (.region 0 ⟨o8⟩ false) (.seq (.seq (.region 1 ⟨o7⟩ false) (.block 0 (.loop (.seq (.seq (.region 2 ⟨o6⟩ false) (.cond (.tmp 9) .skip (.exit 0))) (.seq (.block 1 (.seq (.region 4 ⟨o5⟩ false) (.region 5 ⟨o4⟩ false))) (.region 3 ⟨o3⟩ false)))))) (.seq (.region 6 ⟨o1⟩ false) .ret)))
theorem body : Try.f18.body = some code := by kernel_rfl
theorem main (P : PT) : ∀ env H, (En 19 k2 (B8 P)) env H → AW Try.prog T0 code env H (mkQ (ret P) (fun _ _ _ => False) (ret P)) :=
  (r_seq (rB T0_ok (q8 P)) (r_seq (r_seq (rB T0_ok (q7 P)) (r_block (rL (l2 P) (fun N2 => (r_seq (r_seq (rB T0_ok (q6 P N2)) (r_cond rfl r_skip (r_exit (fun _ _ h => h)))) (r_seq (r_block (r_seq (rB T0_ok (q5 P N2)) (rB T0_ok (q4 P N2)))) (rB T0_ok (q3 P N2)))))))) (r_seq (rB T0_ok (q1 P)) r_ret)))
theorem ac (P : PT) (x0 : Value) (x1 : Int) (H : AHeap) (h : B8 P x0 x1 H) : AC Try.prog T0 18 [x0, (Value.int .i64 x1)] H P :=
  r_fn T0_ok (c := code) (n := 19) Try.func18 body (by kernel_rfl) (main P) (En_mk (x0, x1, ()) (by kernel_rfl) ⟨by kernel_rfl, by kernel_rfl, trivial⟩ h)

end F18
-- loop.example/g01329/laws.heldInt64S
namespace F19
noncomputable def ret (P : PT) : EP := retE T0 21 Try.f19 P
abbrev k0 : Sk := [(1,.i .i64)]
noncomputable def o1 := ob Try.f19 [.r,.r,.l]
def B1 (P : PT) (x1 : Int) (H : AHeap) : Prop :=
  P (Value.int .i64 x1) H
theorem q1 (P : PT) : QB Try.prog T0 21 o1 (ret P) k0 (B1 P) := fun _ _ _  => by kernel_rfl
abbrev k1 : Sk := [(0,.v),(1,.i .i64),(5,.i .i64)]
noncomputable def o3 := ob Try.f19 [.r,.l,.r,.l,.l,.r,.r]
def B3 (P : PT) (N2 : NTy k1 Pr) (x0 : Value) (x1 x5 : Int) (H : AHeap) : Prop :=
  N2 x0 x1 (IntKind.i64.wrap (x5 + 1)) H
theorem q3 (P : PT) (N2 : NTy k1 Pr) : QB Try.prog T0 21 o3 (En 21 k1 N2) k1 (B3 P N2) := fun _ _ _ _ _  => by kernel_rfl
noncomputable def o4 := ob Try.f19 [.r,.l,.r,.l,.l,.r,.l,.l,.r]
def B4 (P : PT) (N2 : NTy k1 Pr) (x0 : Value) (x1 x5 : Int) (H : AHeap) : Prop :=
  B3 P N2 x0 (IntKind.i64.wrap (x1 + 1)) x5 H
theorem q4 (P : PT) (N2 : NTy k1 Pr) : QB Try.prog T0 21 o4 (En 21 k1 (B3 P N2)) k1 (B4 P N2) := fun _ _ _ _ _  => by kernel_rfl
abbrev k2 : Sk := []
noncomputable def o5 := ob Try.f19 [.r,.l,.r,.l,.l,.r,.l,.l,.l,.r,.l,.l]
def B5 (P : PT) (N2 : NTy k1 Pr) (H : AHeap) : Prop :=
  P (Value.int .i64 (-1)) H
theorem q5 (P : PT) (N2 : NTy k1 Pr) : QB Try.prog T0 21 o5 (ret P) k2 (B5 P N2) := fun _ _  => by kernel_rfl
noncomputable def o6 := ob Try.f19 [.r,.l,.r,.l,.l,.r,.l,.l,.l,.l]
def B6 (P : PT) (N2 : NTy k1 Pr) (x0 : Value) (x1 x5 : Int) (H : AHeap) : Prop :=
  idxK x0 x5 1 (fun b1 o2 => ldI .i64 H b1 o2 (fun v3 => pif ((v3 : Int) != x1) (B5 P N2 H) (B4 P N2 x0 x1 x5 H)))
theorem q6 (P : PT) (N2 : NTy k1 Pr) : QB Try.prog T0 21 o6 (cnd 17 (En 21 k2 (B5 P N2)) (En 21 k1 (B4 P N2))) k1 (B6 P N2) := fun _ _ _ _ _  => by kernel_rfl
noncomputable def o7 := ob Try.f19 [.r,.l,.r,.l,.l,.l,.l]
def B7 (P : PT) (N2 : NTy k1 Pr) (x0 : Value) (x1 x5 : Int) (H : AHeap) : Prop :=
  lenK x0 (fun n1 => pif (decide ((x5 : Int) < (n1 : Int))) (B6 P N2 x0 x1 x5 H) (B1 P x1 H))
theorem q7 (P : PT) (N2 : NTy k1 Pr) : QB Try.prog T0 21 o7 (cnd 9 (En 21 k1 (B6 P N2)) (En 21 k0 (B1 P))) k1 (B7 P N2) := fun _ _ _ _ _  => by kernel_rfl
def L2 (P : PT) (x0 : Value) (x1 x5 : Int) (H : AHeap) : Prop :=
  ∃ (I : NTy k1 Pr) (μ : NTy k1 (AHeap → Nat)), I x0 x1 x5 H ∧ ∀ y0 y1 y5 G, I y0 y1 y5 G → B7 P (fun z0 z1 z5 G' => I z0 z1 z5 G' ∧ μ z0 z1 z5 G' < μ y0 y1 y5 G) y0 y1 y5 G
theorem l2 (P : PT) : LQ k1 (L2 P) (B7 P) := fun ⟨_,_,_,_⟩ _ ⟨I, μ, h0, hI⟩ => ⟨apT _ I, apT _ μ, h0, fun ⟨_,_,_,_⟩ _ h => hI _ _ _ _  h⟩
abbrev k3 : Sk := [(0,.v),(1,.i .i64)]
noncomputable def o8 := ob Try.f19 [.r,.l,.l]
def B8 (P : PT) (x0 : Value) (x1 : Int) (H : AHeap) : Prop :=
  L2 P x0 x1 0 H
theorem q8 (P : PT) : QB Try.prog T0 21 o8 (En 21 k1 (L2 P)) k3 (B8 P) := fun _ _ _ _  => by kernel_rfl
noncomputable def o9 := ob Try.f19 [.l]
def B9 (P : PT) (x0 : Value) (x1 : Int) (H : AHeap) : Prop :=
  B8 P x0 x1 H
theorem q9 (P : PT) : QB Try.prog T0 21 o9 (En 21 k3 (B8 P)) k3 (B9 P) := fun _ _ _ _  => by kernel_rfl
noncomputable def code : Code := (.seq (.region 0 ⟨o9⟩ false) (.seq (.seq (.region 1 ⟨o8⟩ false) (.block 0 (.loop (.seq (.seq (.region 2 ⟨o7⟩ false) (.cond (.tmp 9) .skip (.exit 0))) (.seq (.block 1 (.seq (.seq (.region 4 ⟨o6⟩ false) (.cond (.tmp 17) (.seq (.region 5 ⟨o5⟩ false) .ret) .skip)) (.region 6 ⟨o4⟩ false))) (.region 3 ⟨o3⟩ false)))))) (.seq (.region 7 ⟨o1⟩ false) .ret)))
theorem body : Try.f19.body = some code := by kernel_rfl
theorem main (P : PT) : ∀ env H, (En 21 k3 (B9 P)) env H → AW Try.prog T0 code env H (mkQ (ret P) (fun _ _ _ => False) (ret P)) :=
  (r_seq (rB T0_ok (q9 P)) (r_seq (r_seq (rB T0_ok (q8 P)) (r_block (rL (l2 P) (fun N2 => (r_seq (r_seq (rB T0_ok (q7 P N2)) (r_cond rfl r_skip (r_exit (fun _ _ h => h)))) (r_seq (r_block (r_seq (r_seq (rB T0_ok (q6 P N2)) (r_cond rfl (r_seq (rB T0_ok (q5 P N2)) r_ret) r_skip)) (rB T0_ok (q4 P N2)))) (rB T0_ok (q3 P N2)))))))) (r_seq (rB T0_ok (q1 P)) r_ret)))
theorem ac (P : PT) (x0 : Value) (x1 : Int) (H : AHeap) (h : B9 P x0 x1 H) : AC Try.prog T0 19 [x0, (Value.int .i64 x1)] H P :=
  r_fn T0_ok (c := code) (n := 21) Try.func19 body (by kernel_rfl) (main P) (En_mk (x0, x1, ()) (by kernel_rfl) ⟨by kernel_rfl, by kernel_rfl, trivial⟩ h)

end F19
-- loop.example/g01329/spec.ChainOf
namespace F25
noncomputable def ret (P : PT) : EP := retE T0 43 Try.f25 P
abbrev k0 : Sk := [(12,.v)]
noncomputable def o1 := ob Try.f25 [.r,.r,.r,.r,.l]
def B1 (P : PT) (x12 : Value) (H : AHeap) : Prop :=
  P (Value.tuple ⟨[x12, (Value.int .i64 0)]⟩) H
theorem q1 (P : PT) : QB Try.prog T0 43 o1 (ret P) k0 (B1 P) := fun _ _ _  => by kernel_rfl
abbrev k1 : Sk := [(11,.v),(12,.v),(13,.i .i64)]
noncomputable def o3 := ob Try.f25 [.r,.r,.r,.l,.r,.l,.l,.r,.r]
def B3 (P : PT) (N2 : NTy k1 Pr) (x11 x12 : Value) (x13 : Int) (H : AHeap) : Prop :=
  N2 x11 x12 (IntKind.i64.wrap (x13 + 1)) H
theorem q3 (P : PT) (N2 : NTy k1 Pr) : QB Try.prog T0 43 o3 (En 43 k1 N2) k1 (B3 P N2) := fun _ _ _ _ _  => by kernel_rfl
noncomputable def o4 := ob Try.f25 [.r,.r,.r,.l,.r,.l,.l,.r,.l,.l,.r,.l]
def B4 (P : PT) (N2 : NTy k1 Pr) (x11 x12 : Value) (x13 : Int) (H : AHeap) : Prop :=
  newK H [(Value.int .i64 x13)] 2 (fun b1 H2 => apK T0 2 H2 x12 (Value.slice (some ⟨b1, 0, none⟩) 1 (1 + 1)) (fun v3 H4 => B3 P N2 x11 v3 x13 H4))
theorem q4 (P : PT) (N2 : NTy k1 Pr) : QB Try.prog T0 43 o4 (En 43 k1 (B3 P N2)) k1 (B4 P N2) := fun _ _ _ _ _  => by kernel_rfl
noncomputable def o5 := ob Try.f25 [.r,.r,.r,.l,.r,.l,.l,.r,.l,.l,.l]
def B5 (P : PT) (N2 : NTy k1 Pr) (x11 x12 : Value) (x13 : Int) (H : AHeap) : Prop :=
  idxK x11 x13 1 (fun b1 o2 => ld1 H b1 o2 (fun v4 => asB v4 (fun v3 => pif v3 (B4 P N2 x11 x12 x13 H) (B3 P N2 x11 x12 x13 H))))
theorem q5 (P : PT) (N2 : NTy k1 Pr) : QB Try.prog T0 43 o5 (cnd 37 (En 43 k1 (B4 P N2)) (En 43 k1 (B3 P N2))) k1 (B5 P N2) := fun _ _ _ _ _  => by kernel_rfl
noncomputable def o6 := ob Try.f25 [.r,.r,.r,.l,.r,.l,.l,.l,.l]
def B6 (P : PT) (N2 : NTy k1 Pr) (x11 x12 : Value) (x13 : Int) (H : AHeap) : Prop :=
  lenK x11 (fun n1 => pif (decide ((x13 : Int) < (n1 : Int))) (B5 P N2 x11 x12 x13 H) (B1 P x12 H))
theorem q6 (P : PT) (N2 : NTy k1 Pr) : QB Try.prog T0 43 o6 (cnd 31 (En 43 k1 (B5 P N2)) (En 43 k0 (B1 P))) k1 (B6 P N2) := fun _ _ _ _ _  => by kernel_rfl
def L2 (P : PT) (x11 x12 : Value) (x13 : Int) (H : AHeap) : Prop :=
  ∃ (I : NTy k1 Pr) (μ : NTy k1 (AHeap → Nat)), I x11 x12 x13 H ∧ ∀ y11 y12 y13 G, I y11 y12 y13 G → B6 P (fun z11 z12 z13 G' => I z11 z12 z13 G' ∧ μ z11 z12 z13 G' < μ y11 y12 y13 G) y11 y12 y13 G
theorem l2 (P : PT) : LQ k1 (L2 P) (B6 P) := fun ⟨_,_,_,_⟩ _ ⟨I, μ, h0, hI⟩ => ⟨apT _ I, apT _ μ, h0, fun ⟨_,_,_,_⟩ _ h => hI _ _ _ _  h⟩
abbrev k2 : Sk := [(11,.v),(12,.v)]
noncomputable def o7 := ob Try.f25 [.r,.r,.r,.l,.l]
def B7 (P : PT) (x11 x12 : Value) (H : AHeap) : Prop :=
  L2 P x11 x12 0 H
theorem q7 (P : PT) : QB Try.prog T0 43 o7 (En 43 k1 (L2 P)) k2 (B7 P) := fun _ _ _ _  => by kernel_rfl
abbrev k3 : Sk := [(1,.v),(2,.i .i64),(3,.i .i64),(4,.x)]
noncomputable def o8 := ob Try.f25 [.r,.r,.l]
def B8 (P : PT) (x1 : Value) (x2 x3 : Int) (x4 : Nat) (H : AHeap) : Prop :=
  ldI .i64 H x4 0 (fun v1 => ld1 H x4 1 (fun v2 => AC Try.prog T0 54 [(Value.agg ⟨[(Value.int .i64 v1), v2]⟩), x1, (Value.int .i64 x2), (Value.int .i64 x3)] H (fun v3 H4 => newK H4 [] 2 (fun b6 H7 => B7 P v3 (Value.slice (some ⟨b6, 0, none⟩) 0 (0 + 1)) H7))))
theorem q8 (P : PT) : QB Try.prog T0 43 o8 (En 43 k2 (B7 P)) k3 (B8 P) := fun _ _ _ _ _ _  => by kernel_rfl
abbrev k4 : Sk := [(10,.i .i64)]
noncomputable def o9 := ob Try.f25 [.r,.l,.r,.r,.l,.l]
def B9 (P : PT) (x10 : Int) (H : AHeap) : Prop :=
  P (Value.tuple ⟨[(Value.slice none 0 0), (Value.int .i64 x10)]⟩) H
theorem q9 (P : PT) : QB Try.prog T0 43 o9 (ret P) k4 (B9 P) := fun _ _ _  => by kernel_rfl
abbrev k5 : Sk := [(1,.v),(2,.i .i64),(3,.i .i64),(4,.x),(10,.i .i64)]
noncomputable def o10 := ob Try.f25 [.r,.l,.r,.l]
def B10 (P : PT) (x1 : Value) (x2 x3 : Int) (x4 : Nat) (x10 : Int) (H : AHeap) : Prop :=
  pif ((x10 : Int) != 0) (B9 P x10 H) (B8 P x1 x2 x3 x4 H)
theorem q10 (P : PT) : QB Try.prog T0 43 o10 (cnd 20 (En 43 k4 (B9 P)) (En 43 k3 (B8 P))) k5 (B10 P) := fun _ _ _ _ _ _ _  => by kernel_rfl
noncomputable def o11 := ob Try.f25 [.r,.l,.l]
def B11 (P : PT) (x1 : Value) (x2 x3 : Int) (x4 : Nat) (H : AHeap) : Prop :=
  ldI .i64 H x4 0 (fun v1 => ld1 H x4 1 (fun v2 => AC Try.prog T0 53 [(Value.agg ⟨[(Value.int .i64 v1), v2]⟩), x1, (Value.int .i64 x2), (Value.int .i64 x3)] H (fun v3 H4 => asI .i64 v3 (fun v5 => B10 P x1 x2 x3 x4 v5 H4))))
theorem q11 (P : PT) : QB Try.prog T0 43 o11 (En 43 k5 (B10 P)) k3 (B11 P) := fun _ _ _ _ _ _  => by kernel_rfl
abbrev k6 : Sk := [(0,.g [.i,.v]),(1,.v),(2,.i .i64),(3,.i .i64)]
noncomputable def o12 := ob Try.f25 [.l]
def B12 (P : PT) (x0a : Int) (x0b x1 : Value) (x2 x3 : Int) (H : AHeap) : Prop :=
  newK H [(Value.int .i64 x0a), x0b] 31 (fun b1 H2 => B11 P x1 x2 x3 b1 H2)
theorem q12 (P : PT) : QB Try.prog T0 43 o12 (En 43 k3 (B11 P)) k6 (B12 P) := fun _ _ _ _ _ _ _  => by kernel_rfl
noncomputable def code : Code := (.seq (.region 0 ⟨o12⟩ false) (.seq (.seq (.region 1 ⟨o11⟩ false) (.seq (.region 2 ⟨o10⟩ false) (.cond (.tmp 20) (.seq (.region 3 ⟨o9⟩ false) .ret) .skip))) (.seq (.region 4 ⟨o8⟩ false) (.seq (.seq (.region 5 ⟨o7⟩ false) (.block 0 (.loop (.seq (.seq (.region 6 ⟨o6⟩ false) (.cond (.tmp 31) .skip (.exit 0))) (.seq (.block 1 (.seq (.region 8 ⟨o5⟩ false) (.cond (.tmp 37) (.region 9 ⟨o4⟩ false) .skip))) (.region 7 ⟨o3⟩ false)))))) (.seq (.region 10 ⟨o1⟩ false) .ret)))))
theorem body : Try.f25.body = some code := by kernel_rfl
theorem main (P : PT) : ∀ env H, (En 43 k6 (B12 P)) env H → AW Try.prog T0 code env H (mkQ (ret P) (fun _ _ _ => False) (ret P)) :=
  (r_seq (rB T0_ok (q12 P)) (r_seq (r_seq (rB T0_ok (q11 P)) (r_seq (rB T0_ok (q10 P)) (r_cond rfl (r_seq (rB T0_ok (q9 P)) r_ret) r_skip))) (r_seq (rB T0_ok (q8 P)) (r_seq (r_seq (rB T0_ok (q7 P)) (r_block (rL (l2 P) (fun N2 => (r_seq (r_seq (rB T0_ok (q6 P N2)) (r_cond rfl r_skip (r_exit (fun _ _ h => h)))) (r_seq (r_block (r_seq (rB T0_ok (q5 P N2)) (r_cond rfl (rB T0_ok (q4 P N2)) r_skip))) (rB T0_ok (q3 P N2)))))))) (r_seq (rB T0_ok (q1 P)) r_ret)))))
theorem ac (P : PT) (x0a : Int) (x0b x1 : Value) (x2 x3 : Int) (H : AHeap) (h : B12 P x0a x0b x1 x2 x3 H) : AC Try.prog T0 25 [(Value.agg ⟨[(Value.int .i64 x0a), x0b]⟩), x1, (Value.int .i64 x2), (Value.int .i64 x3)] H P :=
  r_fn T0_ok (c := code) (n := 43) Try.func25 body (by kernel_rfl) (main P) (En_mk (x0a, x0b, x1, x2, x3, ()) (by kernel_rfl) ⟨by kernel_rfl, by kernel_rfl, by kernel_rfl, by kernel_rfl, trivial⟩ h)

end F25
-- loop.example/g01329/impl.ChainOf
namespace F26
noncomputable def ret (P : PT) : EP := retE T0 25 Try.f26 P
abbrev k0 : Sk := [(1,.v),(2,.i .i64),(3,.i .i64),(4,.x)]
noncomputable def o1 := ob Try.f26 [.r,.r,.l]
def B1 (P : PT) (x1 : Value) (x2 x3 : Int) (x4 : Nat) (H : AHeap) : Prop :=
  ldI .i64 H x4 0 (fun v1 => ld1 H x4 1 (fun v2 => AC Try.prog T0 56 [(Value.agg ⟨[(Value.int .i64 v1), v2]⟩), x1, (Value.int .i64 x2), (Value.int .i64 x3)] H (fun v3 H4 => asI .u64 v3 (fun v5 => AC Try.prog T0 43 [(Value.int .u64 v5)] H4 (fun v6 H7 => P (Value.tuple ⟨[v6, (Value.int .i64 0)]⟩) H7)))))
theorem q1 (P : PT) : QB Try.prog T0 25 o1 (ret P) k0 (B1 P) := fun _ _ _ _ _ _  => by kernel_rfl
abbrev k1 : Sk := [(10,.i .i64)]
noncomputable def o2 := ob Try.f26 [.r,.l,.r,.r,.l,.l]
def B2 (P : PT) (x10 : Int) (H : AHeap) : Prop :=
  P (Value.tuple ⟨[(Value.slice none 0 0), (Value.int .i64 x10)]⟩) H
theorem q2 (P : PT) : QB Try.prog T0 25 o2 (ret P) k1 (B2 P) := fun _ _ _  => by kernel_rfl
abbrev k2 : Sk := [(1,.v),(2,.i .i64),(3,.i .i64),(4,.x),(10,.i .i64)]
noncomputable def o3 := ob Try.f26 [.r,.l,.r,.l]
def B3 (P : PT) (x1 : Value) (x2 x3 : Int) (x4 : Nat) (x10 : Int) (H : AHeap) : Prop :=
  pif ((x10 : Int) != 0) (B2 P x10 H) (B1 P x1 x2 x3 x4 H)
theorem q3 (P : PT) : QB Try.prog T0 25 o3 (cnd 17 (En 25 k1 (B2 P)) (En 25 k0 (B1 P))) k2 (B3 P) := fun _ _ _ _ _ _ _  => by kernel_rfl
noncomputable def o4 := ob Try.f26 [.r,.l,.l]
def B4 (P : PT) (x1 : Value) (x2 x3 : Int) (x4 : Nat) (H : AHeap) : Prop :=
  ldI .i64 H x4 0 (fun v1 => ld1 H x4 1 (fun v2 => AC Try.prog T0 55 [(Value.agg ⟨[(Value.int .i64 v1), v2]⟩), x1, (Value.int .i64 x2), (Value.int .i64 x3)] H (fun v3 H4 => asI .i64 v3 (fun v5 => B3 P x1 x2 x3 x4 v5 H4))))
theorem q4 (P : PT) : QB Try.prog T0 25 o4 (En 25 k2 (B3 P)) k0 (B4 P) := fun _ _ _ _ _ _  => by kernel_rfl
abbrev k3 : Sk := [(0,.g [.i,.v]),(1,.v),(2,.i .i64),(3,.i .i64)]
noncomputable def o5 := ob Try.f26 [.l]
def B5 (P : PT) (x0a : Int) (x0b x1 : Value) (x2 x3 : Int) (H : AHeap) : Prop :=
  newK H [(Value.int .i64 x0a), x0b] 31 (fun b1 H2 => B4 P x1 x2 x3 b1 H2)
theorem q5 (P : PT) : QB Try.prog T0 25 o5 (En 25 k0 (B4 P)) k3 (B5 P) := fun _ _ _ _ _ _ _  => by kernel_rfl
noncomputable def code : Code := (.seq (.region 0 ⟨o5⟩ false) (.seq (.seq (.region 1 ⟨o4⟩ false) (.seq (.region 2 ⟨o3⟩ false) (.cond (.tmp 17) (.seq (.region 3 ⟨o2⟩ false) .ret) .skip))) (.seq (.region 4 ⟨o1⟩ false) .ret)))
theorem body : Try.f26.body = some code := by kernel_rfl
theorem main (P : PT) : ∀ env H, (En 25 k3 (B5 P)) env H → AW Try.prog T0 code env H (mkQ (ret P) (fun _ _ _ => False) (ret P)) :=
  (r_seq (rB T0_ok (q5 P)) (r_seq (r_seq (rB T0_ok (q4 P)) (r_seq (rB T0_ok (q3 P)) (r_cond rfl (r_seq (rB T0_ok (q2 P)) r_ret) r_skip))) (r_seq (rB T0_ok (q1 P)) r_ret)))
theorem ac (P : PT) (x0a : Int) (x0b x1 : Value) (x2 x3 : Int) (H : AHeap) (h : B5 P x0a x0b x1 x2 x3 H) : AC Try.prog T0 26 [(Value.agg ⟨[(Value.int .i64 x0a), x0b]⟩), x1, (Value.int .i64 x2), (Value.int .i64 x3)] H P :=
  r_fn T0_ok (c := code) (n := 25) Try.func26 body (by kernel_rfl) (main P) (En_mk (x0a, x0b, x1, x2, x3, ()) (by kernel_rfl) ⟨by kernel_rfl, by kernel_rfl, by kernel_rfl, by kernel_rfl, trivial⟩ h)

end F26
-- loop.example/g01329/spec.ExchangeChain
namespace F29
noncomputable def ret (P : PT) : EP := retE T0 24 Try.f29 P
abbrev k0 : Sk := [(1,.v),(2,.i .i64),(3,.i .i64),(4,.x)]
noncomputable def o1 := ob Try.f29 [.r,.r,.l]
def B1 (P : PT) (x1 : Value) (x2 x3 : Int) (x4 : Nat) (H : AHeap) : Prop :=
  ldI .i64 H x4 0 (fun v1 => ld1 H x4 1 (fun v2 => AC Try.prog T0 60 [(Value.agg ⟨[(Value.int .i64 v1), v2]⟩), x1, (Value.int .i64 x2), (Value.int .i64 x3)] H (fun v3 H4 => P (Value.tuple ⟨[v3, (Value.int .i64 0)]⟩) H4)))
theorem q1 (P : PT) : QB Try.prog T0 24 o1 (ret P) k0 (B1 P) := fun _ _ _ _ _ _  => by kernel_rfl
abbrev k1 : Sk := [(10,.i .i64)]
noncomputable def o2 := ob Try.f29 [.r,.l,.r,.r,.l,.l]
def B2 (P : PT) (x10 : Int) (H : AHeap) : Prop :=
  P (Value.tuple ⟨[(Value.slice none 0 0), (Value.int .i64 x10)]⟩) H
theorem q2 (P : PT) : QB Try.prog T0 24 o2 (ret P) k1 (B2 P) := fun _ _ _  => by kernel_rfl
abbrev k2 : Sk := [(1,.v),(2,.i .i64),(3,.i .i64),(4,.x),(10,.i .i64)]
noncomputable def o3 := ob Try.f29 [.r,.l,.r,.l]
def B3 (P : PT) (x1 : Value) (x2 x3 : Int) (x4 : Nat) (x10 : Int) (H : AHeap) : Prop :=
  pif ((x10 : Int) != 0) (B2 P x10 H) (B1 P x1 x2 x3 x4 H)
theorem q3 (P : PT) : QB Try.prog T0 24 o3 (cnd 17 (En 24 k1 (B2 P)) (En 24 k0 (B1 P))) k2 (B3 P) := fun _ _ _ _ _ _ _  => by kernel_rfl
noncomputable def o4 := ob Try.f29 [.r,.l,.l]
def B4 (P : PT) (x1 : Value) (x2 x3 : Int) (x4 : Nat) (H : AHeap) : Prop :=
  ldI .i64 H x4 0 (fun v1 => ld1 H x4 1 (fun v2 => AC Try.prog T0 53 [(Value.agg ⟨[(Value.int .i64 v1), v2]⟩), x1, (Value.int .i64 x2), (Value.int .i64 x3)] H (fun v3 H4 => asI .i64 v3 (fun v5 => B3 P x1 x2 x3 x4 v5 H4))))
theorem q4 (P : PT) : QB Try.prog T0 24 o4 (En 24 k2 (B3 P)) k0 (B4 P) := fun _ _ _ _ _ _  => by kernel_rfl
abbrev k3 : Sk := [(0,.g [.i,.v]),(1,.v),(2,.i .i64),(3,.i .i64)]
noncomputable def o5 := ob Try.f29 [.l]
def B5 (P : PT) (x0a : Int) (x0b x1 : Value) (x2 x3 : Int) (H : AHeap) : Prop :=
  newK H [(Value.int .i64 x0a), x0b] 31 (fun b1 H2 => B4 P x1 x2 x3 b1 H2)
theorem q5 (P : PT) : QB Try.prog T0 24 o5 (En 24 k0 (B4 P)) k3 (B5 P) := fun _ _ _ _ _ _ _  => by kernel_rfl
noncomputable def code : Code := (.seq (.region 0 ⟨o5⟩ false) (.seq (.seq (.region 1 ⟨o4⟩ false) (.seq (.region 2 ⟨o3⟩ false) (.cond (.tmp 17) (.seq (.region 3 ⟨o2⟩ false) .ret) .skip))) (.seq (.region 4 ⟨o1⟩ false) .ret)))
theorem body : Try.f29.body = some code := by kernel_rfl
theorem main (P : PT) : ∀ env H, (En 24 k3 (B5 P)) env H → AW Try.prog T0 code env H (mkQ (ret P) (fun _ _ _ => False) (ret P)) :=
  (r_seq (rB T0_ok (q5 P)) (r_seq (r_seq (rB T0_ok (q4 P)) (r_seq (rB T0_ok (q3 P)) (r_cond rfl (r_seq (rB T0_ok (q2 P)) r_ret) r_skip))) (r_seq (rB T0_ok (q1 P)) r_ret)))
theorem ac (P : PT) (x0a : Int) (x0b x1 : Value) (x2 x3 : Int) (H : AHeap) (h : B5 P x0a x0b x1 x2 x3 H) : AC Try.prog T0 29 [(Value.agg ⟨[(Value.int .i64 x0a), x0b]⟩), x1, (Value.int .i64 x2), (Value.int .i64 x3)] H P :=
  r_fn T0_ok (c := code) (n := 24) Try.func29 body (by kernel_rfl) (main P) (En_mk (x0a, x0b, x1, x2, x3, ()) (by kernel_rfl) ⟨by kernel_rfl, by kernel_rfl, by kernel_rfl, by kernel_rfl, trivial⟩ h)

end F29
-- loop.example/g01329/impl.ExchangeChain
namespace F30
noncomputable def ret (P : PT) : EP := retE T0 24 Try.f30 P
abbrev k0 : Sk := [(1,.v),(2,.i .i64),(3,.i .i64),(4,.x)]
noncomputable def o1 := ob Try.f30 [.r,.r,.l]
def B1 (P : PT) (x1 : Value) (x2 x3 : Int) (x4 : Nat) (H : AHeap) : Prop :=
  ldI .i64 H x4 0 (fun v1 => ld1 H x4 1 (fun v2 => AC Try.prog T0 61 [(Value.agg ⟨[(Value.int .i64 v1), v2]⟩), x1, (Value.int .i64 x2), (Value.int .i64 x3)] H (fun v3 H4 => P (Value.tuple ⟨[v3, (Value.int .i64 0)]⟩) H4)))
theorem q1 (P : PT) : QB Try.prog T0 24 o1 (ret P) k0 (B1 P) := fun _ _ _ _ _ _  => by kernel_rfl
abbrev k1 : Sk := [(10,.i .i64)]
noncomputable def o2 := ob Try.f30 [.r,.l,.r,.r,.l,.l]
def B2 (P : PT) (x10 : Int) (H : AHeap) : Prop :=
  P (Value.tuple ⟨[(Value.slice none 0 0), (Value.int .i64 x10)]⟩) H
theorem q2 (P : PT) : QB Try.prog T0 24 o2 (ret P) k1 (B2 P) := fun _ _ _  => by kernel_rfl
abbrev k2 : Sk := [(1,.v),(2,.i .i64),(3,.i .i64),(4,.x),(10,.i .i64)]
noncomputable def o3 := ob Try.f30 [.r,.l,.r,.l]
def B3 (P : PT) (x1 : Value) (x2 x3 : Int) (x4 : Nat) (x10 : Int) (H : AHeap) : Prop :=
  pif ((x10 : Int) != 0) (B2 P x10 H) (B1 P x1 x2 x3 x4 H)
theorem q3 (P : PT) : QB Try.prog T0 24 o3 (cnd 17 (En 24 k1 (B2 P)) (En 24 k0 (B1 P))) k2 (B3 P) := fun _ _ _ _ _ _ _  => by kernel_rfl
noncomputable def o4 := ob Try.f30 [.r,.l,.l]
def B4 (P : PT) (x1 : Value) (x2 x3 : Int) (x4 : Nat) (H : AHeap) : Prop :=
  ldI .i64 H x4 0 (fun v1 => ld1 H x4 1 (fun v2 => AC Try.prog T0 55 [(Value.agg ⟨[(Value.int .i64 v1), v2]⟩), x1, (Value.int .i64 x2), (Value.int .i64 x3)] H (fun v3 H4 => asI .i64 v3 (fun v5 => B3 P x1 x2 x3 x4 v5 H4))))
theorem q4 (P : PT) : QB Try.prog T0 24 o4 (En 24 k2 (B3 P)) k0 (B4 P) := fun _ _ _ _ _ _  => by kernel_rfl
abbrev k3 : Sk := [(0,.g [.i,.v]),(1,.v),(2,.i .i64),(3,.i .i64)]
noncomputable def o5 := ob Try.f30 [.l]
def B5 (P : PT) (x0a : Int) (x0b x1 : Value) (x2 x3 : Int) (H : AHeap) : Prop :=
  newK H [(Value.int .i64 x0a), x0b] 31 (fun b1 H2 => B4 P x1 x2 x3 b1 H2)
theorem q5 (P : PT) : QB Try.prog T0 24 o5 (En 24 k0 (B4 P)) k3 (B5 P) := fun _ _ _ _ _ _ _  => by kernel_rfl
noncomputable def code : Code := (.seq (.region 0 ⟨o5⟩ false) (.seq (.seq (.region 1 ⟨o4⟩ false) (.seq (.region 2 ⟨o3⟩ false) (.cond (.tmp 17) (.seq (.region 3 ⟨o2⟩ false) .ret) .skip))) (.seq (.region 4 ⟨o1⟩ false) .ret)))
theorem body : Try.f30.body = some code := by kernel_rfl
theorem main (P : PT) : ∀ env H, (En 24 k3 (B5 P)) env H → AW Try.prog T0 code env H (mkQ (ret P) (fun _ _ _ => False) (ret P)) :=
  (r_seq (rB T0_ok (q5 P)) (r_seq (r_seq (rB T0_ok (q4 P)) (r_seq (rB T0_ok (q3 P)) (r_cond rfl (r_seq (rB T0_ok (q2 P)) r_ret) r_skip))) (r_seq (rB T0_ok (q1 P)) r_ret)))
theorem ac (P : PT) (x0a : Int) (x0b x1 : Value) (x2 x3 : Int) (H : AHeap) (h : B5 P x0a x0b x1 x2 x3 H) : AC Try.prog T0 30 [(Value.agg ⟨[(Value.int .i64 x0a), x0b]⟩), x1, (Value.int .i64 x2), (Value.int .i64 x3)] H P :=
  r_fn T0_ok (c := code) (n := 24) Try.func30 body (by kernel_rfl) (main P) (En_mk (x0a, x0b, x1, x2, x3, ()) (by kernel_rfl) ⟨by kernel_rfl, by kernel_rfl, by kernel_rfl, by kernel_rfl, trivial⟩ h)

end F30
-- loop.example/g01329/laws.szEdgeS
namespace F35
noncomputable def ret (P : PT) : EP := retE T0 12 Try.f35 P
abbrev k0 : Sk := [(1,.i .i64)]
noncomputable def o1 := ob Try.f35 [.r,.r,.r,.l]
def B1 (P : PT) (x1 : Int) (H : AHeap) : Prop :=
  P (Value.int .i64 x1) H
theorem q1 (P : PT) : QB Try.prog T0 12 o1 (ret P) k0 (B1 P) := fun _ _ _  => by kernel_rfl
abbrev k1 : Sk := []
noncomputable def o2 := ob Try.f35 [.r,.r,.l,.r,.l,.l]
def B2 (P : PT) (H : AHeap) : Prop :=
  P (Value.int .i64 (-1)) H
theorem q2 (P : PT) : QB Try.prog T0 12 o2 (ret P) k1 (B2 P) := fun _ _  => by kernel_rfl
noncomputable def o3 := ob Try.f35 [.r,.r,.l,.l]
def B3 (P : PT) (x1 : Int) (H : AHeap) : Prop :=
  pif (decide ((x1 : Int) < 0)) (B2 P H) (B1 P x1 H)
theorem q3 (P : PT) : QB Try.prog T0 12 o3 (cnd 10 (En 12 k1 (B2 P)) (En 12 k0 (B1 P))) k0 (B3 P) := fun _ _ _  => by kernel_rfl
abbrev k2 : Sk := [(0,.v),(1,.i .i64)]
noncomputable def o4 := ob Try.f35 [.r,.l]
def B4 (P : PT) (x0 : Value) (x1 : Int) (H : AHeap) : Prop :=
  lenK x0 (fun n1 => B3 P (IntKind.i64.wrap (x1 - (n1 : Int))) H)
theorem q4 (P : PT) : QB Try.prog T0 12 o4 (En 12 k0 (B3 P)) k2 (B4 P) := fun _ _ _ _  => by kernel_rfl
noncomputable def o5 := ob Try.f35 [.l]
def B5 (P : PT) (x0 : Value) (x1 : Int) (H : AHeap) : Prop :=
  B4 P x0 x1 H
theorem q5 (P : PT) : QB Try.prog T0 12 o5 (En 12 k2 (B4 P)) k2 (B5 P) := fun _ _ _ _  => by kernel_rfl
noncomputable def code : Code := (.seq (.region 0 ⟨o5⟩ false) (.seq (.region 1 ⟨o4⟩ false) (.seq (.seq (.region 2 ⟨o3⟩ false) (.cond (.tmp 10) (.seq (.region 3 ⟨o2⟩ false) .ret) .skip)) (.seq (.region 4 ⟨o1⟩ false) .ret))))
theorem body : Try.f35.body = some code := by kernel_rfl
theorem main (P : PT) : ∀ env H, (En 12 k2 (B5 P)) env H → AW Try.prog T0 code env H (mkQ (ret P) (fun _ _ _ => False) (ret P)) :=
  (r_seq (rB T0_ok (q5 P)) (r_seq (rB T0_ok (q4 P)) (r_seq (r_seq (rB T0_ok (q3 P)) (r_cond rfl (r_seq (rB T0_ok (q2 P)) r_ret) r_skip)) (r_seq (rB T0_ok (q1 P)) r_ret))))
theorem ac (P : PT) (x0 : Value) (x1 : Int) (H : AHeap) (h : B5 P x0 x1 H) : AC Try.prog T0 35 [x0, (Value.int .i64 x1)] H P :=
  r_fn T0_ok (c := code) (n := 12) Try.func35 body (by kernel_rfl) (main P) (En_mk (x0, x1, ()) (by kernel_rfl) ⟨by kernel_rfl, by kernel_rfl, trivial⟩ h)

end F35
-- loop.example/g01329/spec.l03Edges
namespace F36
noncomputable def ret (P : PT) : EP := retE T0 13 Try.f36 P
abbrev k0 : Sk := [(1,.v),(2,.x)]
noncomputable def o1 := ob Try.f36 [.r,.r,.l]
def B1 (P : PT) (x1 : Value) (x2 : Nat) (H : AHeap) : Prop :=
  ld1 H x2 1 (fun v1 => lenK v1 (fun n2 => AC Try.prog T0 68 [x1, (Value.int .i64 (n2 : Int))] H (fun v3 H4 => asI .i64 v3 (fun v5 => P (Value.int .i64 v5) H4))))
theorem q1 (P : PT) : QB Try.prog T0 13 o1 (ret P) k0 (B1 P) := fun _ _ _ _  => by kernel_rfl
abbrev k1 : Sk := []
noncomputable def o2 := ob Try.f36 [.r,.l,.r,.l,.l]
def B2 (P : PT) (H : AHeap) : Prop :=
  P (Value.int .i64 1) H
theorem q2 (P : PT) : QB Try.prog T0 13 o2 (ret P) k1 (B2 P) := fun _ _  => by kernel_rfl
noncomputable def o3 := ob Try.f36 [.r,.l,.l]
def B3 (P : PT) (x1 : Value) (x2 : Nat) (H : AHeap) : Prop :=
  ldI .i64 H x2 0 (fun v1 => ld1 H x2 1 (fun v2 => AC Try.prog T0 47 [(Value.agg ⟨[(Value.int .i64 v1), v2]⟩)] H (fun v3 H4 => asB v3 (fun v5 => pif (!v5) (B2 P H4) (B1 P x1 x2 H4)))))
theorem q3 (P : PT) : QB Try.prog T0 13 o3 (cnd 7 (En 13 k1 (B2 P)) (En 13 k0 (B1 P))) k0 (B3 P) := fun _ _ _ _  => by kernel_rfl
abbrev k2 : Sk := [(0,.g [.i,.v]),(1,.v)]
noncomputable def o4 := ob Try.f36 [.l]
def B4 (P : PT) (x0a : Int) (x0b x1 : Value) (H : AHeap) : Prop :=
  newK H [(Value.int .i64 x0a), x0b] 31 (fun b1 H2 => B3 P x1 b1 H2)
theorem q4 (P : PT) : QB Try.prog T0 13 o4 (En 13 k0 (B3 P)) k2 (B4 P) := fun _ _ _ _ _  => by kernel_rfl
noncomputable def code : Code := (.seq (.region 0 ⟨o4⟩ false) (.seq (.seq (.region 1 ⟨o3⟩ false) (.cond (.tmp 7) (.seq (.region 2 ⟨o2⟩ false) .ret) .skip)) (.seq (.region 3 ⟨o1⟩ false) .ret)))
theorem body : Try.f36.body = some code := by kernel_rfl
theorem main (P : PT) : ∀ env H, (En 13 k2 (B4 P)) env H → AW Try.prog T0 code env H (mkQ (ret P) (fun _ _ _ => False) (ret P)) :=
  (r_seq (rB T0_ok (q4 P)) (r_seq (r_seq (rB T0_ok (q3 P)) (r_cond rfl (r_seq (rB T0_ok (q2 P)) r_ret) r_skip)) (r_seq (rB T0_ok (q1 P)) r_ret)))
theorem ac (P : PT) (x0a : Int) (x0b x1 : Value) (H : AHeap) (h : B4 P x0a x0b x1 H) : AC Try.prog T0 36 [(Value.agg ⟨[(Value.int .i64 x0a), x0b]⟩), x1] H P :=
  r_fn T0_ok (c := code) (n := 13) Try.func36 body (by kernel_rfl) (main P) (En_mk (x0a, x0b, x1, ()) (by kernel_rfl) ⟨by kernel_rfl, by kernel_rfl, trivial⟩ h)

end F36
-- loop.example/g01329/laws.toEdgeS
namespace F38
noncomputable def ret (P : PT) : EP := retE T0 23 Try.f38 P
abbrev k0 : Sk := [(3,.v)]
noncomputable def o1 := ob Try.f38 [.r,.r,.r,.l]
def B1 (P : PT) (x3 : Value) (H : AHeap) : Prop :=
  P x3 H
theorem q1 (P : PT) : QB Try.prog T0 23 o1 (ret P) k0 (B1 P) := fun _ _ _  => by kernel_rfl
abbrev k1 : Sk := [(0,.v),(3,.v),(4,.i .i64)]
noncomputable def o3 := ob Try.f38 [.r,.r,.l,.r,.l,.l,.r,.r]
def B3 (P : PT) (N2 : NTy k1 Pr) (x0 x3 : Value) (x4 : Int) (H : AHeap) : Prop :=
  N2 x0 x3 (IntKind.i64.wrap (x4 + 1)) H
theorem q3 (P : PT) (N2 : NTy k1 Pr) : QB Try.prog T0 23 o3 (En 23 k1 N2) k1 (B3 P N2) := fun _ _ _ _ _  => by kernel_rfl
noncomputable def o4 := ob Try.f38 [.r,.r,.l,.r,.l,.l,.r,.l,.l]
def B4 (P : PT) (N2 : NTy k1 Pr) (x0 x3 : Value) (x4 : Int) (H : AHeap) : Prop :=
  idxK x0 x4 2 (fun b1 o2 => ldI .i64 H b1 o2 (fun v3 => ldI .i64 H b1 (o2 + 1) (fun v4 => AC Try.prog T0 69 [(Value.agg ⟨[(Value.int .i64 v3), (Value.int .i64 v4)]⟩)] H (fun v5 H6 => agg2 v5 (fun v7 v8 => asI .i64 v7 (fun v9 => asI .i64 v8 (fun v10 => idxK x3 x4 2 (fun b11 o12 => stK H6 b11 o12 [(Value.int .i64 v9), (Value.int .i64 v10)] (fun H13 => B3 P N2 x0 x3 x4 H13)))))))))
theorem q4 (P : PT) (N2 : NTy k1 Pr) : QB Try.prog T0 23 o4 (En 23 k1 (B3 P N2)) k1 (B4 P N2) := fun _ _ _ _ _  => by kernel_rfl
noncomputable def o5 := ob Try.f38 [.r,.r,.l,.r,.l,.l,.l,.l]
def B5 (P : PT) (N2 : NTy k1 Pr) (x0 x3 : Value) (x4 : Int) (H : AHeap) : Prop :=
  lenK x0 (fun n1 => pif (decide ((x4 : Int) < (n1 : Int))) (B4 P N2 x0 x3 x4 H) (B1 P x3 H))
theorem q5 (P : PT) (N2 : NTy k1 Pr) : QB Try.prog T0 23 o5 (cnd 11 (En 23 k1 (B4 P N2)) (En 23 k0 (B1 P))) k1 (B5 P N2) := fun _ _ _ _ _  => by kernel_rfl
def L2 (P : PT) (x0 x3 : Value) (x4 : Int) (H : AHeap) : Prop :=
  ∃ (I : NTy k1 Pr) (μ : NTy k1 (AHeap → Nat)), I x0 x3 x4 H ∧ ∀ y0 y3 y4 G, I y0 y3 y4 G → B5 P (fun z0 z3 z4 G' => I z0 z3 z4 G' ∧ μ z0 z3 z4 G' < μ y0 y3 y4 G) y0 y3 y4 G
theorem l2 (P : PT) : LQ k1 (L2 P) (B5 P) := fun ⟨_,_,_,_⟩ _ ⟨I, μ, h0, hI⟩ => ⟨apT _ I, apT _ μ, h0, fun ⟨_,_,_,_⟩ _ h => hI _ _ _ _  h⟩
abbrev k2 : Sk := [(0,.v),(3,.v)]
noncomputable def o6 := ob Try.f38 [.r,.r,.l,.l]
def B6 (P : PT) (x0 x3 : Value) (H : AHeap) : Prop :=
  L2 P x0 x3 0 H
theorem q6 (P : PT) : QB Try.prog T0 23 o6 (En 23 k1 (L2 P)) k2 (B6 P) := fun _ _ _ _  => by kernel_rfl
abbrev k3 : Sk := [(0,.v)]
noncomputable def o7 := ob Try.f38 [.r,.l]
def B7 (P : PT) (x0 : Value) (H : AHeap) : Prop :=
  lenK x0 (fun n1 => mkR H 16 62 [(Value.int .i64 0), (Value.int .i64 0)] (n1 : Int) (n1 : Int) (fun v3 H2 => B6 P x0 v3 H2))
theorem q7 (P : PT) : QB Try.prog T0 23 o7 (En 23 k2 (B6 P)) k3 (B7 P) := fun _ _ _  => by kernel_rfl
noncomputable def o8 := ob Try.f38 [.l]
def B8 (P : PT) (x0 : Value) (H : AHeap) : Prop :=
  B7 P x0 H
theorem q8 (P : PT) : QB Try.prog T0 23 o8 (En 23 k3 (B7 P)) k3 (B8 P) := fun _ _ _  => by kernel_rfl
noncomputable def code : Code := (.seq (.region 0 ⟨o8⟩ false) (.seq (.region 1 ⟨o7⟩ false) (.seq (.seq (.region 2 ⟨o6⟩ false) (.block 0 (.loop (.seq (.seq (.region 3 ⟨o5⟩ false) (.cond (.tmp 11) .skip (.exit 0))) (.seq (.block 1 (.region 5 ⟨o4⟩ false)) (.region 4 ⟨o3⟩ false)))))) (.seq (.region 6 ⟨o1⟩ false) .ret))))
theorem body : Try.f38.body = some code := by kernel_rfl
theorem main (P : PT) : ∀ env H, (En 23 k3 (B8 P)) env H → AW Try.prog T0 code env H (mkQ (ret P) (fun _ _ _ => False) (ret P)) :=
  (r_seq (rB T0_ok (q8 P)) (r_seq (rB T0_ok (q7 P)) (r_seq (r_seq (rB T0_ok (q6 P)) (r_block (rL (l2 P) (fun N2 => (r_seq (r_seq (rB T0_ok (q5 P N2)) (r_cond rfl r_skip (r_exit (fun _ _ h => h)))) (r_seq (r_block (rB T0_ok (q4 P N2))) (rB T0_ok (q3 P N2)))))))) (r_seq (rB T0_ok (q1 P)) r_ret))))
theorem ac (P : PT) (x0 : Value) (H : AHeap) (h : B8 P x0 H) : AC Try.prog T0 38 [x0] H P :=
  r_fn T0_ok (c := code) (n := 23) Try.func38 body (by kernel_rfl) (main P) (En_mk (x0, ()) (by kernel_rfl) ⟨by kernel_rfl, trivial⟩ h)

end F38
-- loop.example/g01329/impl.graphCode
namespace F39
noncomputable def ret (P : PT) : EP := retE T0 12 Try.f39 P
abbrev k0 : Sk := []
noncomputable def o1 := ob Try.f39 [.r,.r,.l]
def B1 (P : PT) (H : AHeap) : Prop :=
  P (Value.int .i64 0) H
theorem q1 (P : PT) : QB Try.prog T0 12 o1 (ret P) k0 (B1 P) := fun _ _  => by kernel_rfl
noncomputable def o2 := ob Try.f39 [.r,.l,.l,.r,.l,.l]
def B2 (P : PT) (H : AHeap) : Prop :=
  P (Value.int .i64 1) H
theorem q2 (P : PT) : QB Try.prog T0 12 o2 (ret P) k0 (B2 P) := fun _ _  => by kernel_rfl
noncomputable def o3 := ob Try.f39 [.r,.l,.l,.r,.r,.r,.l,.l]
def B3 (P : PT) (H : AHeap) : Prop :=
  P (Value.int .i64 2) H
theorem q3 (P : PT) : QB Try.prog T0 12 o3 (ret P) k0 (B3 P) := fun _ _  => by kernel_rfl
abbrev k1 : Sk := [(1,.b)]
noncomputable def o4 := ob Try.f39 [.r,.l,.l,.r,.r,.l]
def B4 (P : PT) (x1 : Bool) (H : AHeap) : Prop :=
  pif (!x1) (B3 P H) (B1 P H)
theorem q4 (P : PT) : QB Try.prog T0 12 o4 (cnd 9 (En 12 k0 (B3 P)) (En 12 k0 (B1 P))) k1 (B4 P) := fun _ _ _  => by kernel_rfl
abbrev k2 : Sk := [(1,.b),(2,.x)]
noncomputable def o5 := ob Try.f39 [.r,.l,.l,.l]
def B5 (P : PT) (x1 : Bool) (x2 : Nat) (H : AHeap) : Prop :=
  ldI .i64 H x2 0 (fun v1 => ld1 H x2 1 (fun v2 => AC Try.prog T0 50 [(Value.agg ⟨[(Value.int .i64 v1), v2]⟩)] H (fun v3 H4 => asB v3 (fun v5 => pif (!v5) (B2 P H4) (B4 P x1 H4)))))
theorem q5 (P : PT) : QB Try.prog T0 12 o5 (cnd 5 (En 12 k0 (B2 P)) (En 12 k1 (B4 P))) k2 (B5 P) := fun _ _ _ _  => by kernel_rfl
abbrev k3 : Sk := [(0,.g [.i,.v]),(1,.b)]
noncomputable def o6 := ob Try.f39 [.l]
def B6 (P : PT) (x0a : Int) (x0b : Value) (x1 : Bool) (H : AHeap) : Prop :=
  newK H [(Value.int .i64 x0a), x0b] 31 (fun b1 H2 => B5 P x1 b1 H2)
theorem q6 (P : PT) : QB Try.prog T0 12 o6 (En 12 k2 (B5 P)) k3 (B6 P) := fun _ _ _ _ _  => by kernel_rfl
noncomputable def code : Code := (.seq (.region 0 ⟨o6⟩ false) (.seq (.block 0 (.seq (.region 1 ⟨o5⟩ false) (.cond (.tmp 5) (.seq (.region 2 ⟨o2⟩ false) .ret) (.seq (.region 3 ⟨o4⟩ false) (.cond (.tmp 9) (.seq (.region 4 ⟨o3⟩ false) .ret) .skip))))) (.seq (.region 5 ⟨o1⟩ false) .ret)))
theorem body : Try.f39.body = some code := by kernel_rfl
theorem main (P : PT) : ∀ env H, (En 12 k3 (B6 P)) env H → AW Try.prog T0 code env H (mkQ (ret P) (fun _ _ _ => False) (ret P)) :=
  (r_seq (rB T0_ok (q6 P)) (r_seq (r_block (r_seq (rB T0_ok (q5 P)) (r_cond rfl (r_seq (rB T0_ok (q2 P)) r_ret) (r_seq (rB T0_ok (q4 P)) (r_cond rfl (r_seq (rB T0_ok (q3 P)) r_ret) r_skip))))) (r_seq (rB T0_ok (q1 P)) r_ret)))
theorem ac (P : PT) (x0a : Int) (x0b : Value) (x1 : Bool) (H : AHeap) (h : B6 P x0a x0b x1 H) : AC Try.prog T0 39 [(Value.agg ⟨[(Value.int .i64 x0a), x0b]⟩), (Value.bool x1)] H P :=
  r_fn T0_ok (c := code) (n := 12) Try.func39 body (by kernel_rfl) (main P) (En_mk (x0a, x0b, x1, ()) (by kernel_rfl) ⟨by kernel_rfl, by kernel_rfl, trivial⟩ h)

end F39
-- loop.example/g01329/impl.isSet
namespace F40
noncomputable def ret (P : PT) : EP := retE T0 33 Try.f40 P
abbrev k0 : Sk := []
noncomputable def o1 := ob Try.f40 [.r,.r,.l]
def B1 (P : PT) (H : AHeap) : Prop :=
  P (Value.bool true) H
theorem q1 (P : PT) : QB Try.prog T0 33 o1 (ret P) k0 (B1 P) := fun _ _  => by kernel_rfl
abbrev k1 : Sk := [(0,.v),(1,.i .i64),(7,.v),(8,.i .i64),(9,.i .i64)]
noncomputable def o3 := ob Try.f40 [.r,.l,.r,.l,.l,.r,.r,.r]
def B3 (P : PT) (N2 : NTy k1 Pr) (x0 : Value) (x1 : Int) (x7 : Value) (x8 x9 : Int) (H : AHeap) : Prop :=
  N2 x0 x1 x7 x8 (IntKind.i64.wrap (x9 + 1)) H
theorem q3 (P : PT) (N2 : NTy k1 Pr) : QB Try.prog T0 33 o3 (En 33 k1 N2) k1 (B3 P N2) := fun _ _ _ _ _ _ _  => by kernel_rfl
noncomputable def o4 := ob Try.f40 [.r,.l,.r,.l,.l,.r,.r,.l,.l,.r,.r,.l,.l]
def B4 (P : PT) (N2 : NTy k1 Pr) (H : AHeap) : Prop :=
  P (Value.bool false) H
theorem q4 (P : PT) (N2 : NTy k1 Pr) : QB Try.prog T0 33 o4 (ret P) k0 (B4 P N2) := fun _ _  => by kernel_rfl
abbrev k2 : Sk := [(0,.v),(1,.i .i64),(5,.i .i64),(6,.i .i64),(7,.v),(8,.i .i64),(9,.i .i64)]
noncomputable def o5 := ob Try.f40 [.r,.l,.r,.l,.l,.r,.r,.l,.l,.r,.l]
def B5 (P : PT) (N2 : NTy k1 Pr) (x0 : Value) (x1 x5 x6 : Int) (x7 : Value) (x8 x9 : Int) (H : AHeap) : Prop :=
  AC Try.prog T0 70 [(Value.int .i64 x6), (Value.int .i64 0), (Value.int .i64 (IntKind.i64.wrap (x1 - 1)))] H (fun v1 H2 => asB v1 (fun v3 => pif (!v3) (B4 P N2 H2) (pif (decide ((x5 : Int) > 0)) (idxK x0 (IntKind.i64.wrap (x5 - 1)) 1 (fun b4 o5 => ldI .i64 H2 b4 o5 (fun v6 => pif (decide ((x6 : Int) ≤ v6)) (B4 P N2 H2) (B3 P N2 x0 x1 x7 x8 x9 H2)))) (B3 P N2 x0 x1 x7 x8 x9 H2))))
theorem q5 (P : PT) (N2 : NTy k1 Pr) : QB Try.prog T0 33 o5 (cnd 31 (En 33 k0 (B4 P N2)) (En 33 k1 (B3 P N2))) k2 (B5 P N2) := fun _ _ _ _ _ _ _ _ _  => by kernel_rfl
noncomputable def o6 := ob Try.f40 [.r,.l,.r,.l,.l,.r,.r,.l,.l,.l]
def B6 (P : PT) (N2 : NTy k1 Pr) (x0 : Value) (x1 : Int) (x7 : Value) (x8 x9 : Int) (H : AHeap) : Prop :=
  idxK x7 x9 1 (fun b1 o2 => ldI .i64 H b1 o2 (fun v3 => B5 P N2 x0 x1 x9 v3 x7 x8 x9 H))
theorem q6 (P : PT) (N2 : NTy k1 Pr) : QB Try.prog T0 33 o6 (En 33 k2 (B5 P N2)) k1 (B6 P N2) := fun _ _ _ _ _ _ _  => by kernel_rfl
noncomputable def o7 := ob Try.f40 [.r,.l,.r,.l,.l,.l]
def B7 (P : PT) (N2 : NTy k1 Pr) (x0 : Value) (x1 : Int) (x7 : Value) (x8 x9 : Int) (H : AHeap) : Prop :=
  pif (decide ((x9 : Int) < x8)) (B6 P N2 x0 x1 x7 x8 x9 H) (B1 P H)
theorem q7 (P : PT) (N2 : NTy k1 Pr) : QB Try.prog T0 33 o7 (cnd 10 (En 33 k1 (B6 P N2)) (En 33 k0 (B1 P))) k1 (B7 P N2) := fun _ _ _ _ _ _ _  => by kernel_rfl
def L2 (P : PT) (x0 : Value) (x1 : Int) (x7 : Value) (x8 x9 : Int) (H : AHeap) : Prop :=
  ∃ (I : NTy k1 Pr) (μ : NTy k1 (AHeap → Nat)), I x0 x1 x7 x8 x9 H ∧ ∀ y0 y1 y7 y8 y9 G, I y0 y1 y7 y8 y9 G → B7 P (fun z0 z1 z7 z8 z9 G' => I z0 z1 z7 z8 z9 G' ∧ μ z0 z1 z7 z8 z9 G' < μ y0 y1 y7 y8 y9 G) y0 y1 y7 y8 y9 G
theorem l2 (P : PT) : LQ k1 (L2 P) (B7 P) := fun ⟨_,_,_,_,_,_⟩ _ ⟨I, μ, h0, hI⟩ => ⟨apT _ I, apT _ μ, h0, fun ⟨_,_,_,_,_,_⟩ _ h => hI _ _ _ _ _ _  h⟩
abbrev k3 : Sk := [(0,.v),(1,.i .i64)]
noncomputable def o8 := ob Try.f40 [.r,.l,.l]
def B8 (P : PT) (x0 : Value) (x1 : Int) (H : AHeap) : Prop :=
  lenK x0 (fun n1 => L2 P x0 x1 x0 (n1 : Int) 0 H)
theorem q8 (P : PT) : QB Try.prog T0 33 o8 (En 33 k1 (L2 P)) k3 (B8 P) := fun _ _ _ _  => by kernel_rfl
noncomputable def o9 := ob Try.f40 [.l]
def B9 (P : PT) (x0 : Value) (x1 : Int) (H : AHeap) : Prop :=
  B8 P x0 x1 H
theorem q9 (P : PT) : QB Try.prog T0 33 o9 (En 33 k3 (B8 P)) k3 (B9 P) := fun _ _ _ _  => by kernel_rfl
noncomputable def code : Code := (.seq (.region 0 ⟨o9⟩ false) (.seq (.seq (.region 1 ⟨o8⟩ false) (.block 0 (.loop (.seq (.region 2 ⟨o7⟩ false) (.seq (.cond (.tmp 10) .skip (.exit 0)) (.seq (.block 1 (.seq (.region 3 ⟨o6⟩ false) (.seq (.region 4 ⟨o5⟩ false) (.cond (.tmp 31) (.seq (.region 5 ⟨o4⟩ false) .ret) .skip)))) (.region 6 ⟨o3⟩ false))))))) (.seq (.region 7 ⟨o1⟩ false) .ret)))
theorem body : Try.f40.body = some code := by kernel_rfl
theorem main (P : PT) : ∀ env H, (En 33 k3 (B9 P)) env H → AW Try.prog T0 code env H (mkQ (ret P) (fun _ _ _ => False) (ret P)) :=
  (r_seq (rB T0_ok (q9 P)) (r_seq (r_seq (rB T0_ok (q8 P)) (r_block (rL (l2 P) (fun N2 => (r_seq (rB T0_ok (q7 P N2)) (r_seq (r_cond rfl r_skip (r_exit (fun _ _ h => h))) (r_seq (r_block (r_seq (rB T0_ok (q6 P N2)) (r_seq (rB T0_ok (q5 P N2)) (r_cond rfl (r_seq (rB T0_ok (q4 P N2)) r_ret) r_skip)))) (rB T0_ok (q3 P N2))))))))) (r_seq (rB T0_ok (q1 P)) r_ret)))
theorem ac (P : PT) (x0 : Value) (x1 : Int) (H : AHeap) (h : B9 P x0 x1 H) : AC Try.prog T0 40 [x0, (Value.int .i64 x1)] H P :=
  r_fn T0_ok (c := code) (n := 33) Try.func40 body (by kernel_rfl) (main P) (En_mk (x0, x1, ()) (by kernel_rfl) ⟨by kernel_rfl, by kernel_rfl, trivial⟩ h)

end F40
-- loop.example/g01329/impl.length[loop.example/g01329/impl.Edge]
namespace F41
noncomputable def ret (P : PT) : EP := retE T0 5 Try.f41 P
abbrev k0 : Sk := [(0,.v)]
noncomputable def o1 := ob Try.f41 [.r,.l]
def B1 (P : PT) (x0 : Value) (H : AHeap) : Prop :=
  lenK x0 (fun n1 => P (Value.int .i64 (n1 : Int)) H)
theorem q1 (P : PT) : QB Try.prog T0 5 o1 (ret P) k0 (B1 P) := fun _ _ _  => by kernel_rfl
noncomputable def o2 := ob Try.f41 [.l]
def B2 (P : PT) (x0 : Value) (H : AHeap) : Prop :=
  B1 P x0 H
theorem q2 (P : PT) : QB Try.prog T0 5 o2 (En 5 k0 (B1 P)) k0 (B2 P) := fun _ _ _  => by kernel_rfl
noncomputable def code : Code := (.seq (.region 0 ⟨o2⟩ false) (.seq (.region 1 ⟨o1⟩ false) .ret))
theorem body : Try.f41.body = some code := by kernel_rfl
theorem main (P : PT) : ∀ env H, (En 5 k0 (B2 P)) env H → AW Try.prog T0 code env H (mkQ (ret P) (fun _ _ _ => False) (ret P)) :=
  (r_seq (rB T0_ok (q2 P)) (r_seq (rB T0_ok (q1 P)) r_ret))
theorem ac (P : PT) (x0 : Value) (H : AHeap) (h : B2 P x0 H) : AC Try.prog T0 41 [x0] H P :=
  r_fn T0_ok (c := code) (n := 5) Try.func41 body (by kernel_rfl) (main P) (En_mk (x0, ()) (by kernel_rfl) ⟨by kernel_rfl, trivial⟩ h)

end F41
-- loop.example/g01329/impl.setOf
namespace F42
noncomputable def ret (P : PT) : EP := retE T0 18 Try.f42 P
abbrev k0 : Sk := [(3,.i .u64)]
noncomputable def o1 := ob Try.f42 [.r,.r,.r,.l]
def B1 (P : PT) (x3 : Int) (H : AHeap) : Prop :=
  P (Value.int .u64 x3) H
theorem q1 (P : PT) : QB Try.prog T0 18 o1 (ret P) k0 (B1 P) := fun _ _ _  => by kernel_rfl
abbrev k1 : Sk := [(3,.i .u64),(6,.v),(7,.i .i64),(8,.i .i64)]
noncomputable def o3 := ob Try.f42 [.r,.r,.l,.r,.l,.l,.r,.r,.r]
def B3 (P : PT) (N2 : NTy k1 Pr) (x3 : Int) (x6 : Value) (x7 x8 : Int) (H : AHeap) : Prop :=
  N2 x3 x6 x7 (IntKind.i64.wrap (x8 + 1)) H
theorem q3 (P : PT) (N2 : NTy k1 Pr) : QB Try.prog T0 18 o3 (En 18 k1 N2) k1 (B3 P N2) := fun _ _ _ _ _ _  => by kernel_rfl
abbrev k2 : Sk := [(3,.i .u64),(5,.i .i64),(6,.v),(7,.i .i64),(8,.i .i64)]
noncomputable def o4 := ob Try.f42 [.r,.r,.l,.r,.l,.l,.r,.r,.l,.l,.r]
def B4 (P : PT) (N2 : NTy k1 Pr) (x3 x5 : Int) (x6 : Value) (x7 x8 : Int) (H : AHeap) : Prop :=
  ((0 : Int) ≤ x5) ∧ (B3 P N2 (IntKind.u64.wrap (BitVec.ofInt 64 x3 ||| BitVec.ofInt 64 (IntKind.u64.wrap (1 * 2 ^ (min (Int.toNat x5) 64)))).toNat) x6 x7 x8 H)
theorem q4 (P : PT) (N2 : NTy k1 Pr) : QB Try.prog T0 18 o4 (En 18 k1 (B3 P N2)) k2 (B4 P N2) := fun _ _ _ _ _ _ _  => by kernel_rfl
noncomputable def o5 := ob Try.f42 [.r,.r,.l,.r,.l,.l,.r,.r,.l,.l,.l]
def B5 (P : PT) (N2 : NTy k1 Pr) (x3 : Int) (x6 : Value) (x7 x8 : Int) (H : AHeap) : Prop :=
  idxK x6 x8 1 (fun b1 o2 => ldI .i64 H b1 o2 (fun v3 => B4 P N2 x3 v3 x6 x7 x8 H))
theorem q5 (P : PT) (N2 : NTy k1 Pr) : QB Try.prog T0 18 o5 (En 18 k2 (B4 P N2)) k1 (B5 P N2) := fun _ _ _ _ _ _  => by kernel_rfl
noncomputable def o6 := ob Try.f42 [.r,.r,.l,.r,.l,.l,.l]
def B6 (P : PT) (N2 : NTy k1 Pr) (x3 : Int) (x6 : Value) (x7 x8 : Int) (H : AHeap) : Prop :=
  pif (decide ((x8 : Int) < x7)) (B5 P N2 x3 x6 x7 x8 H) (B1 P x3 H)
theorem q6 (P : PT) (N2 : NTy k1 Pr) : QB Try.prog T0 18 o6 (cnd 9 (En 18 k1 (B5 P N2)) (En 18 k0 (B1 P))) k1 (B6 P N2) := fun _ _ _ _ _ _  => by kernel_rfl
def L2 (P : PT) (x3 : Int) (x6 : Value) (x7 x8 : Int) (H : AHeap) : Prop :=
  ∃ (I : NTy k1 Pr) (μ : NTy k1 (AHeap → Nat)), I x3 x6 x7 x8 H ∧ ∀ y3 y6 y7 y8 G, I y3 y6 y7 y8 G → B6 P (fun z3 z6 z7 z8 G' => I z3 z6 z7 z8 G' ∧ μ z3 z6 z7 z8 G' < μ y3 y6 y7 y8 G) y3 y6 y7 y8 G
theorem l2 (P : PT) : LQ k1 (L2 P) (B6 P) := fun ⟨_,_,_,_,_⟩ _ ⟨I, μ, h0, hI⟩ => ⟨apT _ I, apT _ μ, h0, fun ⟨_,_,_,_,_⟩ _ h => hI _ _ _ _ _  h⟩
abbrev k3 : Sk := [(0,.v),(3,.i .u64)]
noncomputable def o7 := ob Try.f42 [.r,.r,.l,.l]
def B7 (P : PT) (x0 : Value) (x3 : Int) (H : AHeap) : Prop :=
  lenK x0 (fun n1 => L2 P x3 x0 (n1 : Int) 0 H)
theorem q7 (P : PT) : QB Try.prog T0 18 o7 (En 18 k1 (L2 P)) k3 (B7 P) := fun _ _ _ _  => by kernel_rfl
abbrev k4 : Sk := [(0,.v)]
noncomputable def o8 := ob Try.f42 [.r,.l]
def B8 (P : PT) (x0 : Value) (H : AHeap) : Prop :=
  B7 P x0 0 H
theorem q8 (P : PT) : QB Try.prog T0 18 o8 (En 18 k3 (B7 P)) k4 (B8 P) := fun _ _ _  => by kernel_rfl
noncomputable def o9 := ob Try.f42 [.l]
def B9 (P : PT) (x0 : Value) (H : AHeap) : Prop :=
  B8 P x0 H
theorem q9 (P : PT) : QB Try.prog T0 18 o9 (En 18 k4 (B8 P)) k4 (B9 P) := fun _ _ _  => by kernel_rfl
noncomputable def code : Code := (.seq (.region 0 ⟨o9⟩ false) (.seq (.region 1 ⟨o8⟩ false) (.seq (.seq (.region 2 ⟨o7⟩ false) (.block 0 (.loop (.seq (.region 3 ⟨o6⟩ false) (.seq (.cond (.tmp 9) .skip (.exit 0)) (.seq (.block 1 (.seq (.region 4 ⟨o5⟩ false) (.region 5 ⟨o4⟩ false))) (.region 6 ⟨o3⟩ false))))))) (.seq (.region 7 ⟨o1⟩ false) .ret))))
theorem body : Try.f42.body = some code := by kernel_rfl
theorem main (P : PT) : ∀ env H, (En 18 k4 (B9 P)) env H → AW Try.prog T0 code env H (mkQ (ret P) (fun _ _ _ => False) (ret P)) :=
  (r_seq (rB T0_ok (q9 P)) (r_seq (rB T0_ok (q8 P)) (r_seq (r_seq (rB T0_ok (q7 P)) (r_block (rL (l2 P) (fun N2 => (r_seq (rB T0_ok (q6 P N2)) (r_seq (r_cond rfl r_skip (r_exit (fun _ _ h => h))) (r_seq (r_block (r_seq (rB T0_ok (q5 P N2)) (rB T0_ok (q4 P N2)))) (rB T0_ok (q3 P N2))))))))) (r_seq (rB T0_ok (q1 P)) r_ret))))
theorem ac (P : PT) (x0 : Value) (H : AHeap) (h : B9 P x0 H) : AC Try.prog T0 42 [x0] H P :=
  r_fn T0_ok (c := code) (n := 18) Try.func42 body (by kernel_rfl) (main P) (En_mk (x0, ()) (by kernel_rfl) ⟨by kernel_rfl, trivial⟩ h)

end F42
-- (loop.example/g01329/impl.set).list
namespace F43
noncomputable def ret (P : PT) : EP := retE T0 19 Try.f43 P
abbrev k0 : Sk := [(3,.v)]
noncomputable def o1 := ob Try.f43 [.r,.r,.r,.l]
def B1 (P : PT) (x3 : Value) (H : AHeap) : Prop :=
  P x3 H
theorem q1 (P : PT) : QB Try.prog T0 19 o1 (ret P) k0 (B1 P) := fun _ _ _  => by kernel_rfl
abbrev k1 : Sk := [(0,.i .u64),(3,.v),(4,.i .i64)]
noncomputable def o3 := ob Try.f43 [.r,.r,.l,.r,.l,.l,.r,.r]
def B3 (P : PT) (N2 : NTy k1 Pr) (x0 : Int) (x3 : Value) (x4 : Int) (H : AHeap) : Prop :=
  N2 x0 x3 (IntKind.i64.wrap (x4 + 1)) H
theorem q3 (P : PT) (N2 : NTy k1 Pr) : QB Try.prog T0 19 o3 (En 19 k1 N2) k1 (B3 P N2) := fun _ _ _ _ _  => by kernel_rfl
noncomputable def o4 := ob Try.f43 [.r,.r,.l,.r,.l,.l,.r,.l,.l,.r,.l]
def B4 (P : PT) (N2 : NTy k1 Pr) (x0 : Int) (x3 : Value) (x4 : Int) (H : AHeap) : Prop :=
  newK H [(Value.int .i64 x4)] 2 (fun b1 H2 => apK T0 2 H2 x3 (Value.slice (some ⟨b1, 0, none⟩) 1 (1 + 1)) (fun v3 H4 => B3 P N2 x0 v3 x4 H4))
theorem q4 (P : PT) (N2 : NTy k1 Pr) : QB Try.prog T0 19 o4 (En 19 k1 (B3 P N2)) k1 (B4 P N2) := fun _ _ _ _ _  => by kernel_rfl
noncomputable def o5 := ob Try.f43 [.r,.r,.l,.r,.l,.l,.r,.l,.l,.l]
def B5 (P : PT) (N2 : NTy k1 Pr) (x0 : Int) (x3 : Value) (x4 : Int) (H : AHeap) : Prop :=
  AC Try.prog T0 71 [(Value.int .u64 x0), (Value.int .i64 x4)] H (fun v1 H2 => asB v1 (fun v3 => pif v3 (B4 P N2 x0 x3 x4 H2) (B3 P N2 x0 x3 x4 H2)))
theorem q5 (P : PT) (N2 : NTy k1 Pr) : QB Try.prog T0 19 o5 (cnd 13 (En 19 k1 (B4 P N2)) (En 19 k1 (B3 P N2))) k1 (B5 P N2) := fun _ _ _ _ _  => by kernel_rfl
noncomputable def o6 := ob Try.f43 [.r,.r,.l,.r,.l,.l,.l,.l]
def B6 (P : PT) (N2 : NTy k1 Pr) (x0 : Int) (x3 : Value) (x4 : Int) (H : AHeap) : Prop :=
  ((0 : Int) ≤ x4) ∧ (pif ((Int.fdiv x0 (2 ^ (min (Int.toNat x4) 64)) : Int) != 0) (B5 P N2 x0 x3 x4 H) (B1 P x3 H))
theorem q6 (P : PT) (N2 : NTy k1 Pr) : QB Try.prog T0 19 o6 (cnd 8 (En 19 k1 (B5 P N2)) (En 19 k0 (B1 P))) k1 (B6 P N2) := fun _ _ _ _ _  => by kernel_rfl
def L2 (P : PT) (x0 : Int) (x3 : Value) (x4 : Int) (H : AHeap) : Prop :=
  ∃ (I : NTy k1 Pr) (μ : NTy k1 (AHeap → Nat)), I x0 x3 x4 H ∧ ∀ y0 y3 y4 G, I y0 y3 y4 G → B6 P (fun z0 z3 z4 G' => I z0 z3 z4 G' ∧ μ z0 z3 z4 G' < μ y0 y3 y4 G) y0 y3 y4 G
theorem l2 (P : PT) : LQ k1 (L2 P) (B6 P) := fun ⟨_,_,_,_⟩ _ ⟨I, μ, h0, hI⟩ => ⟨apT _ I, apT _ μ, h0, fun ⟨_,_,_,_⟩ _ h => hI _ _ _ _  h⟩
abbrev k2 : Sk := [(0,.i .u64),(3,.v)]
noncomputable def o7 := ob Try.f43 [.r,.r,.l,.l]
def B7 (P : PT) (x0 : Int) (x3 : Value) (H : AHeap) : Prop :=
  L2 P x0 x3 0 H
theorem q7 (P : PT) : QB Try.prog T0 19 o7 (En 19 k1 (L2 P)) k2 (B7 P) := fun _ _ _ _  => by kernel_rfl
abbrev k3 : Sk := [(0,.i .u64)]
noncomputable def o8 := ob Try.f43 [.r,.l]
def B8 (P : PT) (x0 : Int) (H : AHeap) : Prop :=
  B7 P x0 (Value.slice none 0 0) H
theorem q8 (P : PT) : QB Try.prog T0 19 o8 (En 19 k2 (B7 P)) k3 (B8 P) := fun _ _ _  => by kernel_rfl
noncomputable def o9 := ob Try.f43 [.l]
def B9 (P : PT) (x0 : Int) (H : AHeap) : Prop :=
  B8 P x0 H
theorem q9 (P : PT) : QB Try.prog T0 19 o9 (En 19 k3 (B8 P)) k3 (B9 P) := fun _ _ _  => by kernel_rfl
noncomputable def code : Code := (.seq (.region 0 ⟨o9⟩ false) (.seq (.region 1 ⟨o8⟩ false) (.seq (.seq (.region 2 ⟨o7⟩ false) (.block 0 (.loop (.seq (.seq (.region 3 ⟨o6⟩ false) (.cond (.tmp 8) .skip (.exit 0))) (.seq (.block 1 (.seq (.region 5 ⟨o5⟩ false) (.cond (.tmp 13) (.region 6 ⟨o4⟩ false) .skip))) (.region 4 ⟨o3⟩ false)))))) (.seq (.region 7 ⟨o1⟩ false) .ret))))
theorem body : Try.f43.body = some code := by kernel_rfl
theorem main (P : PT) : ∀ env H, (En 19 k3 (B9 P)) env H → AW Try.prog T0 code env H (mkQ (ret P) (fun _ _ _ => False) (ret P)) :=
  (r_seq (rB T0_ok (q9 P)) (r_seq (rB T0_ok (q8 P)) (r_seq (r_seq (rB T0_ok (q7 P)) (r_block (rL (l2 P) (fun N2 => (r_seq (r_seq (rB T0_ok (q6 P N2)) (r_cond rfl r_skip (r_exit (fun _ _ h => h)))) (r_seq (r_block (r_seq (rB T0_ok (q5 P N2)) (r_cond rfl (rB T0_ok (q4 P N2)) r_skip))) (rB T0_ok (q3 P N2)))))))) (r_seq (rB T0_ok (q1 P)) r_ret))))
theorem ac (P : PT) (x0 : Int) (H : AHeap) (h : B9 P x0 H) : AC Try.prog T0 43 [(Value.int .u64 x0)] H P :=
  r_fn T0_ok (c := code) (n := 19) Try.func43 body (by kernel_rfl) (main P) (En_mk (x0, ()) (by kernel_rfl) ⟨by kernel_rfl, trivial⟩ h)

end F43
-- loop.example/g01329/laws.eqEdgeS
namespace F44
noncomputable def ret (P : PT) : EP := retE T0 27 Try.f44 P
abbrev k0 : Sk := []
noncomputable def o1 := ob Try.f44 [.r,.r,.r,.l]
def B1 (P : PT) (H : AHeap) : Prop :=
  P (Value.bool true) H
theorem q1 (P : PT) : QB Try.prog T0 27 o1 (ret P) k0 (B1 P) := fun _ _  => by kernel_rfl
abbrev k1 : Sk := [(0,.v),(1,.v),(5,.i .i64)]
noncomputable def o3 := ob Try.f44 [.r,.r,.l,.r,.l,.l,.r,.r]
def B3 (P : PT) (N2 : NTy k1 Pr) (x0 x1 : Value) (x5 : Int) (H : AHeap) : Prop :=
  N2 x0 x1 (IntKind.i64.wrap (x5 + 1)) H
theorem q3 (P : PT) (N2 : NTy k1 Pr) : QB Try.prog T0 27 o3 (En 27 k1 N2) k1 (B3 P N2) := fun _ _ _ _ _  => by kernel_rfl
noncomputable def o4 := ob Try.f44 [.r,.r,.l,.r,.l,.l,.r,.l,.l,.r,.l,.l]
def B4 (P : PT) (N2 : NTy k1 Pr) (H : AHeap) : Prop :=
  P (Value.bool false) H
theorem q4 (P : PT) (N2 : NTy k1 Pr) : QB Try.prog T0 27 o4 (ret P) k0 (B4 P N2) := fun _ _  => by kernel_rfl
noncomputable def o5 := ob Try.f44 [.r,.r,.l,.r,.l,.l,.r,.l,.l,.l]
def B5 (P : PT) (N2 : NTy k1 Pr) (x0 x1 : Value) (x5 : Int) (H : AHeap) : Prop :=
  idxK x0 x5 2 (fun b1 o2 => ldI .i64 H b1 o2 (fun v3 => ldI .i64 H b1 (o2 + 1) (fun v4 => idxK x1 x5 2 (fun b5 o6 => ldI .i64 H b5 o6 (fun v7 => ldI .i64 H b5 (o6 + 1) (fun v8 => AC Try.prog T0 72 [(Value.agg ⟨[(Value.int .i64 v3), (Value.int .i64 v4)]⟩), (Value.agg ⟨[(Value.int .i64 v7), (Value.int .i64 v8)]⟩)] H (fun v9 H10 => asB v9 (fun v11 => pif (!v11) (B4 P N2 H10) (B3 P N2 x0 x1 x5 H10)))))))))
theorem q5 (P : PT) (N2 : NTy k1 Pr) : QD Try.prog T0 27 o5 [(0, false), (1, false), (2, false), (3, false), (4, false), (5, false), (6, false), (7, false), (8, false), (9, false)] (cnd 26 (En 27 k0 (B4 P N2)) (En 27 k1 (B3 P N2))) k1 (B5 P N2) := fun _ _ _ _ _  => by kernel_rfl
noncomputable def o6 := ob Try.f44 [.r,.r,.l,.r,.l,.l,.l,.l]
def B6 (P : PT) (N2 : NTy k1 Pr) (x0 x1 : Value) (x5 : Int) (H : AHeap) : Prop :=
  lenK x0 (fun n1 => pif (decide ((x5 : Int) < (n1 : Int))) (B5 P N2 x0 x1 x5 H) (B1 P H))
theorem q6 (P : PT) (N2 : NTy k1 Pr) : QB Try.prog T0 27 o6 (cnd 14 (En 27 k1 (B5 P N2)) (En 27 k0 (B1 P))) k1 (B6 P N2) := fun _ _ _ _ _  => by kernel_rfl
def L2 (P : PT) (x0 x1 : Value) (x5 : Int) (H : AHeap) : Prop :=
  ∃ (I : NTy k1 Pr) (μ : NTy k1 (AHeap → Nat)), I x0 x1 x5 H ∧ ∀ y0 y1 y5 G, I y0 y1 y5 G → B6 P (fun z0 z1 z5 G' => I z0 z1 z5 G' ∧ μ z0 z1 z5 G' < μ y0 y1 y5 G) y0 y1 y5 G
theorem l2 (P : PT) : LQ k1 (L2 P) (B6 P) := fun ⟨_,_,_,_⟩ _ ⟨I, μ, h0, hI⟩ => ⟨apT _ I, apT _ μ, h0, fun ⟨_,_,_,_⟩ _ h => hI _ _ _ _  h⟩
abbrev k2 : Sk := [(0,.v),(1,.v)]
noncomputable def o7 := ob Try.f44 [.r,.r,.l,.l]
def B7 (P : PT) (x0 x1 : Value) (H : AHeap) : Prop :=
  L2 P x0 x1 0 H
theorem q7 (P : PT) : QB Try.prog T0 27 o7 (En 27 k1 (L2 P)) k2 (B7 P) := fun _ _ _ _  => by kernel_rfl
noncomputable def o8 := ob Try.f44 [.r,.l,.r,.l,.l]
def B8 (P : PT) (H : AHeap) : Prop :=
  P (Value.bool false) H
theorem q8 (P : PT) : QB Try.prog T0 27 o8 (ret P) k0 (B8 P) := fun _ _  => by kernel_rfl
noncomputable def o9 := ob Try.f44 [.r,.l,.l]
def B9 (P : PT) (x0 x1 : Value) (H : AHeap) : Prop :=
  lenK x0 (fun n1 => lenK x1 (fun n2 => pif (((n1 : Int) : Int) != (n2 : Int)) (B8 P H) (B7 P x0 x1 H)))
theorem q9 (P : PT) : QB Try.prog T0 27 o9 (cnd 10 (En 27 k0 (B8 P)) (En 27 k2 (B7 P))) k2 (B9 P) := fun _ _ _ _  => by kernel_rfl
noncomputable def o10 := ob Try.f44 [.l]
def B10 (P : PT) (x0 x1 : Value) (H : AHeap) : Prop :=
  B9 P x0 x1 H
theorem q10 (P : PT) : QB Try.prog T0 27 o10 (En 27 k2 (B9 P)) k2 (B10 P) := fun _ _ _ _  => by kernel_rfl
noncomputable def code : Code := (.seq (.region 0 ⟨o10⟩ false) (.seq (.seq (.region 1 ⟨o9⟩ false) (.cond (.tmp 10) (.seq (.region 2 ⟨o8⟩ false) .ret) .skip)) (.seq (.seq (.region 3 ⟨o7⟩ false) (.block 0 (.loop (.seq (.seq (.region 4 ⟨o6⟩ false) (.cond (.tmp 14) .skip (.exit 0))) (.seq (.block 1 (.seq (.region 6 ⟨o5⟩ true) (.cond (.tmp 26) (.seq (.region 7 ⟨o4⟩ false) .ret) .skip))) (.region 5 ⟨o3⟩ false)))))) (.seq (.region 8 ⟨o1⟩ false) .ret))))
theorem body : Try.f44.body = some code := by kernel_rfl
theorem main (P : PT) : ∀ env H, (En 27 k2 (B10 P)) env H → AW Try.prog T0 code env H (mkQ (ret P) (fun _ _ _ => False) (ret P)) :=
  (r_seq (rB T0_ok (q10 P)) (r_seq (r_seq (rB T0_ok (q9 P)) (r_cond rfl (r_seq (rB T0_ok (q8 P)) r_ret) r_skip)) (r_seq (r_seq (rB T0_ok (q7 P)) (r_block (rL (l2 P) (fun N2 => (r_seq (r_seq (rB T0_ok (q6 P N2)) (r_cond rfl r_skip (r_exit (fun _ _ h => h)))) (r_seq (r_block (r_seq (rD T0_ok mixed [(0, false), (1, false), (2, false), (3, false), (4, false), (5, false), (6, false), (7, false), (8, false), (9, false)] (by kernel_rfl) (q5 P N2)) (r_cond rfl (r_seq (rB T0_ok (q4 P N2)) r_ret) r_skip))) (rB T0_ok (q3 P N2)))))))) (r_seq (rB T0_ok (q1 P)) r_ret))))
theorem ac (P : PT) (x0 x1 : Value) (H : AHeap) (h : B10 P x0 x1 H) : AC Try.prog T0 44 [x0, x1] H P :=
  r_fn T0_ok (c := code) (n := 27) Try.func44 body (by kernel_rfl) (main P) (En_mk (x0, x1, ()) (by kernel_rfl) ⟨by kernel_rfl, by kernel_rfl, trivial⟩ h)

end F44
-- loop.example/g01329/laws.markEdgeS
namespace F45
noncomputable def ret (P : PT) : EP := retE T0 26 Try.f45 P
abbrev k0 : Sk := [(1,.i .i64)]
noncomputable def o1 := ob Try.f45 [.r,.r,.l]
def B1 (P : PT) (x1 : Int) (H : AHeap) : Prop :=
  P (Value.int .i64 x1) H
theorem q1 (P : PT) : QB Try.prog T0 26 o1 (ret P) k0 (B1 P) := fun _ _ _  => by kernel_rfl
abbrev k1 : Sk := [(0,.v),(1,.i .i64),(5,.i .i64)]
noncomputable def o3 := ob Try.f45 [.r,.l,.r,.l,.l,.r,.r]
def B3 (P : PT) (N2 : NTy k1 Pr) (x0 : Value) (x1 x5 : Int) (H : AHeap) : Prop :=
  N2 x0 x1 (IntKind.i64.wrap (x5 + 1)) H
theorem q3 (P : PT) (N2 : NTy k1 Pr) : QB Try.prog T0 26 o3 (En 26 k1 N2) k1 (B3 P N2) := fun _ _ _ _ _  => by kernel_rfl
abbrev k2 : Sk := [(0,.v),(1,.i .i64),(5,.i .i64),(6,.i .i64)]
noncomputable def o5 := ob Try.f45 [.r,.l,.r,.l,.l,.r,.l,.l,.r,.l,.l,.r,.r]
def B5 (P : PT) (N2 : NTy k1 Pr) (N4 : NTy k2 Pr) (x0 : Value) (x1 x5 x6 : Int) (H : AHeap) : Prop :=
  N4 x0 x1 x5 (IntKind.i64.wrap (x6 + 1)) H
theorem q5 (P : PT) (N2 : NTy k1 Pr) (N4 : NTy k2 Pr) : QB Try.prog T0 26 o5 (En 26 k2 N4) k2 (B5 P N2 N4) := fun _ _ _ _ _ _  => by kernel_rfl
noncomputable def o6 := ob Try.f45 [.r,.l,.r,.l,.l,.r,.l,.l,.r,.l,.l,.r,.l,.l,.r]
def B6 (P : PT) (N2 : NTy k1 Pr) (N4 : NTy k2 Pr) (x0 : Value) (x1 x5 x6 : Int) (H : AHeap) : Prop :=
  B5 P N2 N4 x0 (IntKind.i64.wrap (x1 + 1)) x5 x6 H
theorem q6 (P : PT) (N2 : NTy k1 Pr) (N4 : NTy k2 Pr) : QB Try.prog T0 26 o6 (En 26 k2 (B5 P N2 N4)) k2 (B6 P N2 N4) := fun _ _ _ _ _ _  => by kernel_rfl
noncomputable def o7 := ob Try.f45 [.r,.l,.r,.l,.l,.r,.l,.l,.r,.l,.l,.r,.l,.l,.l]
def B7 (P : PT) (N2 : NTy k1 Pr) (N4 : NTy k2 Pr) (x0 : Value) (x1 x5 x6 : Int) (H : AHeap) : Prop :=
  idxK x0 x5 2 (fun b1 o2 => bndK x6 2 (stK H b1 (o2 + Int.toNat x6 * 1) [(Value.int .i64 x1)] (fun H3 => B6 P N2 N4 x0 x1 x5 x6 H3)))
theorem q7 (P : PT) (N2 : NTy k1 Pr) (N4 : NTy k2 Pr) : QB Try.prog T0 26 o7 (En 26 k2 (B6 P N2 N4)) k2 (B7 P N2 N4) := fun _ _ _ _ _ _  => by kernel_rfl
noncomputable def o8 := ob Try.f45 [.r,.l,.r,.l,.l,.r,.l,.l,.r,.l,.l,.l,.l]
def B8 (P : PT) (N2 : NTy k1 Pr) (N4 : NTy k2 Pr) (x0 : Value) (x1 x5 x6 : Int) (H : AHeap) : Prop :=
  pif (decide ((x6 : Int) < 2)) (B7 P N2 N4 x0 x1 x5 x6 H) (B3 P N2 x0 x1 x5 H)
theorem q8 (P : PT) (N2 : NTy k1 Pr) (N4 : NTy k2 Pr) : QB Try.prog T0 26 o8 (cnd 14 (En 26 k2 (B7 P N2 N4)) (En 26 k1 (B3 P N2))) k2 (B8 P N2 N4) := fun _ _ _ _ _ _  => by kernel_rfl
def L4 (P : PT) (N2 : NTy k1 Pr) (x0 : Value) (x1 x5 x6 : Int) (H : AHeap) : Prop :=
  ∃ (I : NTy k2 Pr) (μ : NTy k2 (AHeap → Nat)), I x0 x1 x5 x6 H ∧ ∀ y0 y1 y5 y6 G, I y0 y1 y5 y6 G → B8 P N2 (fun z0 z1 z5 z6 G' => I z0 z1 z5 z6 G' ∧ μ z0 z1 z5 z6 G' < μ y0 y1 y5 y6 G) y0 y1 y5 y6 G
theorem l4 (P : PT) (N2 : NTy k1 Pr) : LQ k2 (L4 P N2) (B8 P N2) := fun ⟨_,_,_,_,_⟩ _ ⟨I, μ, h0, hI⟩ => ⟨apT _ I, apT _ μ, h0, fun ⟨_,_,_,_,_⟩ _ h => hI _ _ _ _ _  h⟩
noncomputable def o9 := ob Try.f45 [.r,.l,.r,.l,.l,.r,.l,.l,.l]
def B9 (P : PT) (N2 : NTy k1 Pr) (x0 : Value) (x1 x5 : Int) (H : AHeap) : Prop :=
  L4 P N2 x0 x1 x5 0 H
theorem q9 (P : PT) (N2 : NTy k1 Pr) : QB Try.prog T0 26 o9 (En 26 k2 (L4 P N2)) k1 (B9 P N2) := fun _ _ _ _ _  => by kernel_rfl
noncomputable def o10 := ob Try.f45 [.r,.l,.r,.l,.l,.l,.l]
def B10 (P : PT) (N2 : NTy k1 Pr) (x0 : Value) (x1 x5 : Int) (H : AHeap) : Prop :=
  lenK x0 (fun n1 => pif (decide ((x5 : Int) < (n1 : Int))) (B9 P N2 x0 x1 x5 H) (B1 P x1 H))
theorem q10 (P : PT) (N2 : NTy k1 Pr) : QB Try.prog T0 26 o10 (cnd 10 (En 26 k1 (B9 P N2)) (En 26 k0 (B1 P))) k1 (B10 P N2) := fun _ _ _ _ _  => by kernel_rfl
def L2 (P : PT) (x0 : Value) (x1 x5 : Int) (H : AHeap) : Prop :=
  ∃ (I : NTy k1 Pr) (μ : NTy k1 (AHeap → Nat)), I x0 x1 x5 H ∧ ∀ y0 y1 y5 G, I y0 y1 y5 G → B10 P (fun z0 z1 z5 G' => I z0 z1 z5 G' ∧ μ z0 z1 z5 G' < μ y0 y1 y5 G) y0 y1 y5 G
theorem l2 (P : PT) : LQ k1 (L2 P) (B10 P) := fun ⟨_,_,_,_⟩ _ ⟨I, μ, h0, hI⟩ => ⟨apT _ I, apT _ μ, h0, fun ⟨_,_,_,_⟩ _ h => hI _ _ _ _  h⟩
abbrev k3 : Sk := [(0,.v),(1,.i .i64)]
noncomputable def o11 := ob Try.f45 [.r,.l,.l]
def B11 (P : PT) (x0 : Value) (x1 : Int) (H : AHeap) : Prop :=
  L2 P x0 x1 0 H
theorem q11 (P : PT) : QB Try.prog T0 26 o11 (En 26 k1 (L2 P)) k3 (B11 P) := fun _ _ _ _  => by kernel_rfl
noncomputable def o12 := ob Try.f45 [.l]
def B12 (P : PT) (x0 : Value) (x1 : Int) (H : AHeap) : Prop :=
  B11 P x0 x1 H
theorem q12 (P : PT) : QB Try.prog T0 26 o12 (En 26 k3 (B11 P)) k3 (B12 P) := fun _ _ _ _  => by kernel_rfl
noncomputable def code : Code := (.seq (.region 0 ⟨o12⟩ false) (.seq (.seq (.region 1 ⟨o11⟩ false) (.block 0 (.loop (.seq (.seq (.region 2 ⟨o10⟩ false) (.cond (.tmp 10) .skip (.exit 0))) (.seq (.block 1 (.seq (.region 4 ⟨o9⟩ false) (.block 2 (.loop (.seq (.seq (.region 5 ⟨o8⟩ false) (.cond (.tmp 14) .skip (.exit 2))) (.seq (.block 3 (.seq (.region 7 ⟨o7⟩ false) (.region 8 ⟨o6⟩ false))) (.region 6 ⟨o5⟩ false))))))) (.region 3 ⟨o3⟩ false)))))) (.seq (.region 9 ⟨o1⟩ false) .ret)))
theorem body : Try.f45.body = some code := by kernel_rfl
theorem main (P : PT) : ∀ env H, (En 26 k3 (B12 P)) env H → AW Try.prog T0 code env H (mkQ (ret P) (fun _ _ _ => False) (ret P)) :=
  (r_seq (rB T0_ok (q12 P)) (r_seq (r_seq (rB T0_ok (q11 P)) (r_block (rL (l2 P) (fun N2 => (r_seq (r_seq (rB T0_ok (q10 P N2)) (r_cond rfl r_skip (r_exit (fun _ _ h => h)))) (r_seq (r_block (r_seq (rB T0_ok (q9 P N2)) (r_block (rL (l4 P N2) (fun N4 => (r_seq (r_seq (rB T0_ok (q8 P N2 N4)) (r_cond rfl r_skip (r_exit (fun _ _ h => h)))) (r_seq (r_block (r_seq (rB T0_ok (q7 P N2 N4)) (rB T0_ok (q6 P N2 N4)))) (rB T0_ok (q5 P N2 N4))))))))) (rB T0_ok (q3 P N2)))))))) (r_seq (rB T0_ok (q1 P)) r_ret)))
theorem ac (P : PT) (x0 : Value) (x1 : Int) (H : AHeap) (h : B12 P x0 x1 H) : AC Try.prog T0 45 [x0, (Value.int .i64 x1)] H P :=
  r_fn T0_ok (c := code) (n := 26) Try.func45 body (by kernel_rfl) (main P) (En_mk (x0, x1, ()) (by kernel_rfl) ⟨by kernel_rfl, by kernel_rfl, trivial⟩ h)

end F45
-- loop.example/g01329/laws.szInt64S
namespace F46
noncomputable def ret (P : PT) : EP := retE T0 12 Try.f46 P
abbrev k0 : Sk := [(1,.i .i64)]
noncomputable def o1 := ob Try.f46 [.r,.r,.r,.l]
def B1 (P : PT) (x1 : Int) (H : AHeap) : Prop :=
  P (Value.int .i64 x1) H
theorem q1 (P : PT) : QB Try.prog T0 12 o1 (ret P) k0 (B1 P) := fun _ _ _  => by kernel_rfl
abbrev k1 : Sk := []
noncomputable def o2 := ob Try.f46 [.r,.r,.l,.r,.l,.l]
def B2 (P : PT) (H : AHeap) : Prop :=
  P (Value.int .i64 (-1)) H
theorem q2 (P : PT) : QB Try.prog T0 12 o2 (ret P) k1 (B2 P) := fun _ _  => by kernel_rfl
noncomputable def o3 := ob Try.f46 [.r,.r,.l,.l]
def B3 (P : PT) (x1 : Int) (H : AHeap) : Prop :=
  pif (decide ((x1 : Int) < 0)) (B2 P H) (B1 P x1 H)
theorem q3 (P : PT) : QB Try.prog T0 12 o3 (cnd 10 (En 12 k1 (B2 P)) (En 12 k0 (B1 P))) k0 (B3 P) := fun _ _ _  => by kernel_rfl
abbrev k2 : Sk := [(0,.v),(1,.i .i64)]
noncomputable def o4 := ob Try.f46 [.r,.l]
def B4 (P : PT) (x0 : Value) (x1 : Int) (H : AHeap) : Prop :=
  lenK x0 (fun n1 => B3 P (IntKind.i64.wrap (x1 - (n1 : Int))) H)
theorem q4 (P : PT) : QB Try.prog T0 12 o4 (En 12 k0 (B3 P)) k2 (B4 P) := fun _ _ _ _  => by kernel_rfl
noncomputable def o5 := ob Try.f46 [.l]
def B5 (P : PT) (x0 : Value) (x1 : Int) (H : AHeap) : Prop :=
  B4 P x0 x1 H
theorem q5 (P : PT) : QB Try.prog T0 12 o5 (En 12 k2 (B4 P)) k2 (B5 P) := fun _ _ _ _  => by kernel_rfl
noncomputable def code : Code := (.seq (.region 0 ⟨o5⟩ false) (.seq (.region 1 ⟨o4⟩ false) (.seq (.seq (.region 2 ⟨o3⟩ false) (.cond (.tmp 10) (.seq (.region 3 ⟨o2⟩ false) .ret) .skip)) (.seq (.region 4 ⟨o1⟩ false) .ret))))
theorem body : Try.f46.body = some code := by kernel_rfl
theorem main (P : PT) : ∀ env H, (En 12 k2 (B5 P)) env H → AW Try.prog T0 code env H (mkQ (ret P) (fun _ _ _ => False) (ret P)) :=
  (r_seq (rB T0_ok (q5 P)) (r_seq (rB T0_ok (q4 P)) (r_seq (r_seq (rB T0_ok (q3 P)) (r_cond rfl (r_seq (rB T0_ok (q2 P)) r_ret) r_skip)) (r_seq (rB T0_ok (q1 P)) r_ret))))
theorem ac (P : PT) (x0 : Value) (x1 : Int) (H : AHeap) (h : B5 P x0 x1 H) : AC Try.prog T0 46 [x0, (Value.int .i64 x1)] H P :=
  r_fn T0_ok (c := code) (n := 12) Try.func46 body (by kernel_rfl) (main P) (En_mk (x0, x1, ()) (by kernel_rfl) ⟨by kernel_rfl, by kernel_rfl, trivial⟩ h)

end F46
-- loop.example/g01329/spec.l01Is
namespace F47
noncomputable def ret (P : PT) : EP := retE T0 56 Try.f47 P
abbrev k0 : Sk := []
noncomputable def o1 := ob Try.f47 [.r,.r,.r,.l]
def B1 (P : PT) (H : AHeap) : Prop :=
  P (Value.bool true) H
theorem q1 (P : PT) : QB Try.prog T0 56 o1 (ret P) k0 (B1 P) := fun _ _  => by kernel_rfl
abbrev k1 : Sk := [(1,.x),(3,.i .i64)]
noncomputable def o3 := ob Try.f47 [.r,.r,.l,.r,.l,.l,.r,.r]
def B3 (P : PT) (N2 : NTy k1 Pr) (x1 : Nat) (x3 : Int) (H : AHeap) : Prop :=
  N2 x1 (IntKind.i64.wrap (x3 + 1)) H
theorem q3 (P : PT) (N2 : NTy k1 Pr) : QB Try.prog T0 56 o3 (En 56 k1 N2) k1 (B3 P N2) := fun _ _ _ _  => by kernel_rfl
noncomputable def o4 := ob Try.f47 [.r,.r,.l,.r,.l,.l,.r,.l,.l,.r,.l,.l]
def B4 (P : PT) (N2 : NTy k1 Pr) (H : AHeap) : Prop :=
  P (Value.bool false) H
theorem q4 (P : PT) (N2 : NTy k1 Pr) : QB Try.prog T0 56 o4 (ret P) k0 (B4 P N2) := fun _ _  => by kernel_rfl
noncomputable def o5 := ob Try.f47 [.r,.r,.l,.r,.l,.l,.r,.l,.l,.l]
def B5 (P : PT) (N2 : NTy k1 Pr) (x1 : Nat) (x3 : Int) (H : AHeap) : Prop :=
  ld1 H x1 1 (fun v1 => idxK v1 x3 2 (fun b2 o3 => ldI .i64 H b2 o3 (fun v4 => ld1 H x1 1 (fun v5 => idxK v5 x3 2 (fun b6 o7 => ldI .i64 H b6 (o7 + 1) (fun v8 => pif (decide ((v4 : Int) > v8)) (B4 P N2 H) (pif (decide ((x3 : Int) > 0)) (ld1 H x1 1 (fun v9 => idxK v9 x3 2 (fun b10 o11 => ldI .i64 H b10 o11 (fun v12 => ldI .i64 H b10 (o11 + 1) (fun v13 => ld1 H x1 1 (fun v14 => idxK v14 (IntKind.i64.wrap (x3 - 1)) 2 (fun b15 o16 => ldI .i64 H b15 o16 (fun v17 => ldI .i64 H b15 (o16 + 1) (fun v18 => AC Try.prog T0 75 [(Value.agg ⟨[(Value.int .i64 v12), (Value.int .i64 v13)]⟩), (Value.agg ⟨[(Value.int .i64 v17), (Value.int .i64 v18)]⟩)] H (fun v19 H20 => asB v19 (fun v21 => pif v21 (B4 P N2 H20) (B3 P N2 x1 x3 H20)))))))))))) (B3 P N2 x1 x3 H))))))))
theorem q5 (P : PT) (N2 : NTy k1 Pr) : QD Try.prog T0 56 o5 [(0, false), (1, false), (2, false), (3, false), (4, false), (5, false), (6, false), (7, false), (8, false), (9, false), (10, false), (11, false), (12, false), (13, false), (14, false), (15, false), (16, false), (17, false), (18, false), (19, false), (20, false), (21, false), (22, false), (23, false), (24, false), (25, false), (26, false), (27, false), (28, false), (29, false), (30, false)] (cnd 55 (En 56 k0 (B4 P N2)) (En 56 k1 (B3 P N2))) k1 (B5 P N2) := fun _ _ _ _  => by kernel_rfl
noncomputable def o6 := ob Try.f47 [.r,.r,.l,.r,.l,.l,.l,.l]
def B6 (P : PT) (N2 : NTy k1 Pr) (x1 : Nat) (x3 : Int) (H : AHeap) : Prop :=
  ld1 H x1 1 (fun v1 => lenK v1 (fun n2 => pif (decide ((x3 : Int) < (n2 : Int))) (B5 P N2 x1 x3 H) (B1 P H)))
theorem q6 (P : PT) (N2 : NTy k1 Pr) : QB Try.prog T0 56 o6 (cnd 22 (En 56 k1 (B5 P N2)) (En 56 k0 (B1 P))) k1 (B6 P N2) := fun _ _ _ _  => by kernel_rfl
def L2 (P : PT) (x1 : Nat) (x3 : Int) (H : AHeap) : Prop :=
  ∃ (I : NTy k1 Pr) (μ : NTy k1 (AHeap → Nat)), I x1 x3 H ∧ ∀ y1 y3 G, I y1 y3 G → B6 P (fun z1 z3 G' => I z1 z3 G' ∧ μ z1 z3 G' < μ y1 y3 G) y1 y3 G
theorem l2 (P : PT) : LQ k1 (L2 P) (B6 P) := fun ⟨_,_,_⟩ _ ⟨I, μ, h0, hI⟩ => ⟨apT _ I, apT _ μ, h0, fun ⟨_,_,_⟩ _ h => hI _ _ _  h⟩
abbrev k2 : Sk := [(1,.x)]
noncomputable def o7 := ob Try.f47 [.r,.r,.l,.l]
def B7 (P : PT) (x1 : Nat) (H : AHeap) : Prop :=
  L2 P x1 0 H
theorem q7 (P : PT) : QB Try.prog T0 56 o7 (En 56 k1 (L2 P)) k2 (B7 P) := fun _ _ _  => by kernel_rfl
noncomputable def o8 := ob Try.f47 [.r,.l,.r,.l,.l]
def B8 (P : PT) (H : AHeap) : Prop :=
  P (Value.bool false) H
theorem q8 (P : PT) : QB Try.prog T0 56 o8 (ret P) k0 (B8 P) := fun _ _  => by kernel_rfl
noncomputable def o9 := ob Try.f47 [.r,.l,.l]
def B9 (P : PT) (x1 : Nat) (H : AHeap) : Prop :=
  ldI .i64 H x1 0 (fun v1 => ld1 H x1 1 (fun v2 => AC Try.prog T0 73 [(Value.int .i64 v1), v2] H (fun v3 H4 => asI .i64 v3 (fun v5 => pif ((v5 : Int) != 0) (B8 P H4) (ldI .i64 H4 x1 0 (fun v6 => ld1 H4 x1 1 (fun v7 => AC Try.prog T0 74 [(Value.int .i64 v6), v7] H4 (fun v8 H9 => asB v8 (fun v10 => pif (!v10) (B8 P H9) (B7 P x1 H9))))))))))
theorem q9 (P : PT) : QB Try.prog T0 56 o9 (cnd 17 (En 56 k0 (B8 P)) (En 56 k2 (B7 P))) k2 (B9 P) := fun _ _ _  => by kernel_rfl
abbrev k3 : Sk := [(0,.g [.i,.v])]
noncomputable def o10 := ob Try.f47 [.l]
def B10 (P : PT) (x0a : Int) (x0b : Value) (H : AHeap) : Prop :=
  newK H [(Value.int .i64 x0a), x0b] 31 (fun b1 H2 => B9 P b1 H2)
theorem q10 (P : PT) : QB Try.prog T0 56 o10 (En 56 k2 (B9 P)) k3 (B10 P) := fun _ _ _ _  => by kernel_rfl
noncomputable def code : Code := (.seq (.region 0 ⟨o10⟩ false) (.seq (.seq (.region 1 ⟨o9⟩ false) (.cond (.tmp 17) (.seq (.region 2 ⟨o8⟩ false) .ret) .skip)) (.seq (.seq (.region 3 ⟨o7⟩ false) (.block 0 (.loop (.seq (.seq (.region 4 ⟨o6⟩ false) (.cond (.tmp 22) .skip (.exit 0))) (.seq (.block 1 (.seq (.region 6 ⟨o5⟩ true) (.cond (.tmp 55) (.seq (.region 7 ⟨o4⟩ false) .ret) .skip))) (.region 5 ⟨o3⟩ false)))))) (.seq (.region 8 ⟨o1⟩ false) .ret))))
theorem body : Try.f47.body = some code := by kernel_rfl
theorem main (P : PT) : ∀ env H, (En 56 k3 (B10 P)) env H → AW Try.prog T0 code env H (mkQ (ret P) (fun _ _ _ => False) (ret P)) :=
  (r_seq (rB T0_ok (q10 P)) (r_seq (r_seq (rB T0_ok (q9 P)) (r_cond rfl (r_seq (rB T0_ok (q8 P)) r_ret) r_skip)) (r_seq (r_seq (rB T0_ok (q7 P)) (r_block (rL (l2 P) (fun N2 => (r_seq (r_seq (rB T0_ok (q6 P N2)) (r_cond rfl r_skip (r_exit (fun _ _ h => h)))) (r_seq (r_block (r_seq (rD T0_ok mixed [(0, false), (1, false), (2, false), (3, false), (4, false), (5, false), (6, false), (7, false), (8, false), (9, false), (10, false), (11, false), (12, false), (13, false), (14, false), (15, false), (16, false), (17, false), (18, false), (19, false), (20, false), (21, false), (22, false), (23, false), (24, false), (25, false), (26, false), (27, false), (28, false), (29, false), (30, false)] (by kernel_rfl) (q5 P N2)) (r_cond rfl (r_seq (rB T0_ok (q4 P N2)) r_ret) r_skip))) (rB T0_ok (q3 P N2)))))))) (r_seq (rB T0_ok (q1 P)) r_ret))))
theorem ac (P : PT) (x0a : Int) (x0b : Value) (H : AHeap) (h : B10 P x0a x0b H) : AC Try.prog T0 47 [(Value.agg ⟨[(Value.int .i64 x0a), x0b]⟩)] H P :=
  r_fn T0_ok (c := code) (n := 56) Try.func47 body (by kernel_rfl) (main P) (En_mk (x0a, x0b, ()) (by kernel_rfl) ⟨by kernel_rfl, trivial⟩ h)

end F47
-- loop.example/g01329/spec.l02Is
namespace F48
noncomputable def ret (P : PT) : EP := retE T0 35 Try.f48 P
abbrev k0 : Sk := []
noncomputable def o1 := ob Try.f48 [.r,.r,.r,.l]
def B1 (P : PT) (H : AHeap) : Prop :=
  P (Value.bool true) H
theorem q1 (P : PT) : QB Try.prog T0 35 o1 (ret P) k0 (B1 P) := fun _ _  => by kernel_rfl
abbrev k1 : Sk := [(1,.v),(2,.x),(5,.i .i64)]
noncomputable def o3 := ob Try.f48 [.r,.r,.l,.r,.l,.l,.r,.r]
def B3 (P : PT) (N2 : NTy k1 Pr) (x1 : Value) (x2 : Nat) (x5 : Int) (H : AHeap) : Prop :=
  N2 x1 x2 (IntKind.i64.wrap (x5 + 1)) H
theorem q3 (P : PT) (N2 : NTy k1 Pr) : QB Try.prog T0 35 o3 (En 35 k1 N2) k1 (B3 P N2) := fun _ _ _ _ _  => by kernel_rfl
noncomputable def o4 := ob Try.f48 [.r,.r,.l,.r,.l,.l,.r,.l,.l,.r,.l,.l]
def B4 (P : PT) (N2 : NTy k1 Pr) (H : AHeap) : Prop :=
  P (Value.bool false) H
theorem q4 (P : PT) (N2 : NTy k1 Pr) : QB Try.prog T0 35 o4 (ret P) k0 (B4 P N2) := fun _ _  => by kernel_rfl
noncomputable def o5 := ob Try.f48 [.r,.r,.l,.r,.l,.l,.r,.l,.l,.l]
def B5 (P : PT) (N2 : NTy k1 Pr) (x1 : Value) (x2 : Nat) (x5 : Int) (H : AHeap) : Prop :=
  idxK x1 x5 1 (fun b1 o2 => ldI .i64 H b1 o2 (fun v3 => AC Try.prog T0 76 [(Value.int .i64 v3), (Value.int .i64 0), (Value.int .i64 2)] H (fun v4 H5 => asB v4 (fun v6 => pif (!v6) (B4 P N2 H5) (ldI .i64 H5 x2 0 (fun v7 => ld1 H5 x2 1 (fun v8 => idxK x1 x5 1 (fun b9 o10 => ldI .i64 H5 b9 o10 (fun v11 => AC Try.prog T0 77 [(Value.agg ⟨[(Value.int .i64 v7), v8]⟩), x1, (Value.int .i64 x5), (Value.int .i64 v11)] H5 (fun v12 H13 => asB v12 (fun v14 => pif (!v14) (B4 P N2 H13) (B3 P N2 x1 x2 x5 H13))))))))))))
theorem q5 (P : PT) (N2 : NTy k1 Pr) : QD Try.prog T0 35 o5 [(0, false), (1, false), (2, false), (3, false), (4, false), (5, false), (6, false), (7, false), (8, false), (9, false), (10, false), (11, false), (12, false), (13, false), (14, false), (15, false), (16, false)] (cnd 34 (En 35 k0 (B4 P N2)) (En 35 k1 (B3 P N2))) k1 (B5 P N2) := fun _ _ _ _ _  => by kernel_rfl
noncomputable def o6 := ob Try.f48 [.r,.r,.l,.r,.l,.l,.l,.l]
def B6 (P : PT) (N2 : NTy k1 Pr) (x1 : Value) (x2 : Nat) (x5 : Int) (H : AHeap) : Prop :=
  lenK x1 (fun n1 => pif (decide ((x5 : Int) < (n1 : Int))) (B5 P N2 x1 x2 x5 H) (B1 P H))
theorem q6 (P : PT) (N2 : NTy k1 Pr) : QB Try.prog T0 35 o6 (cnd 15 (En 35 k1 (B5 P N2)) (En 35 k0 (B1 P))) k1 (B6 P N2) := fun _ _ _ _ _  => by kernel_rfl
def L2 (P : PT) (x1 : Value) (x2 : Nat) (x5 : Int) (H : AHeap) : Prop :=
  ∃ (I : NTy k1 Pr) (μ : NTy k1 (AHeap → Nat)), I x1 x2 x5 H ∧ ∀ y1 y2 y5 G, I y1 y2 y5 G → B6 P (fun z1 z2 z5 G' => I z1 z2 z5 G' ∧ μ z1 z2 z5 G' < μ y1 y2 y5 G) y1 y2 y5 G
theorem l2 (P : PT) : LQ k1 (L2 P) (B6 P) := fun ⟨_,_,_,_⟩ _ ⟨I, μ, h0, hI⟩ => ⟨apT _ I, apT _ μ, h0, fun ⟨_,_,_,_⟩ _ h => hI _ _ _ _  h⟩
abbrev k2 : Sk := [(1,.v),(2,.x)]
noncomputable def o7 := ob Try.f48 [.r,.r,.l,.l]
def B7 (P : PT) (x1 : Value) (x2 : Nat) (H : AHeap) : Prop :=
  L2 P x1 x2 0 H
theorem q7 (P : PT) : QB Try.prog T0 35 o7 (En 35 k1 (L2 P)) k2 (B7 P) := fun _ _ _ _  => by kernel_rfl
noncomputable def o8 := ob Try.f48 [.r,.l,.r,.l,.l]
def B8 (P : PT) (H : AHeap) : Prop :=
  P (Value.bool false) H
theorem q8 (P : PT) : QB Try.prog T0 35 o8 (ret P) k0 (B8 P) := fun _ _  => by kernel_rfl
noncomputable def o9 := ob Try.f48 [.r,.l,.l]
def B9 (P : PT) (x1 : Value) (x2 : Nat) (H : AHeap) : Prop :=
  lenK x1 (fun n1 => ld1 H x2 1 (fun v2 => lenK v2 (fun n3 => pif (((n1 : Int) : Int) != (n3 : Int)) (B8 P H) (B7 P x1 x2 H))))
theorem q9 (P : PT) : QB Try.prog T0 35 o9 (cnd 11 (En 35 k0 (B8 P)) (En 35 k2 (B7 P))) k2 (B9 P) := fun _ _ _ _  => by kernel_rfl
abbrev k3 : Sk := [(0,.g [.i,.v]),(1,.v)]
noncomputable def o10 := ob Try.f48 [.l]
def B10 (P : PT) (x0a : Int) (x0b x1 : Value) (H : AHeap) : Prop :=
  newK H [(Value.int .i64 x0a), x0b] 31 (fun b1 H2 => B9 P x1 b1 H2)
theorem q10 (P : PT) : QB Try.prog T0 35 o10 (En 35 k2 (B9 P)) k3 (B10 P) := fun _ _ _ _ _  => by kernel_rfl
noncomputable def code : Code := (.seq (.region 0 ⟨o10⟩ false) (.seq (.seq (.region 1 ⟨o9⟩ false) (.cond (.tmp 11) (.seq (.region 2 ⟨o8⟩ false) .ret) .skip)) (.seq (.seq (.region 3 ⟨o7⟩ false) (.block 0 (.loop (.seq (.seq (.region 4 ⟨o6⟩ false) (.cond (.tmp 15) .skip (.exit 0))) (.seq (.block 1 (.seq (.region 6 ⟨o5⟩ true) (.cond (.tmp 34) (.seq (.region 7 ⟨o4⟩ false) .ret) .skip))) (.region 5 ⟨o3⟩ false)))))) (.seq (.region 8 ⟨o1⟩ false) .ret))))
theorem body : Try.f48.body = some code := by kernel_rfl
theorem main (P : PT) : ∀ env H, (En 35 k3 (B10 P)) env H → AW Try.prog T0 code env H (mkQ (ret P) (fun _ _ _ => False) (ret P)) :=
  (r_seq (rB T0_ok (q10 P)) (r_seq (r_seq (rB T0_ok (q9 P)) (r_cond rfl (r_seq (rB T0_ok (q8 P)) r_ret) r_skip)) (r_seq (r_seq (rB T0_ok (q7 P)) (r_block (rL (l2 P) (fun N2 => (r_seq (r_seq (rB T0_ok (q6 P N2)) (r_cond rfl r_skip (r_exit (fun _ _ h => h)))) (r_seq (r_block (r_seq (rD T0_ok mixed [(0, false), (1, false), (2, false), (3, false), (4, false), (5, false), (6, false), (7, false), (8, false), (9, false), (10, false), (11, false), (12, false), (13, false), (14, false), (15, false), (16, false)] (by kernel_rfl) (q5 P N2)) (r_cond rfl (r_seq (rB T0_ok (q4 P N2)) r_ret) r_skip))) (rB T0_ok (q3 P N2)))))))) (r_seq (rB T0_ok (q1 P)) r_ret))))
theorem ac (P : PT) (x0a : Int) (x0b x1 : Value) (H : AHeap) (h : B10 P x0a x0b x1 H) : AC Try.prog T0 48 [(Value.agg ⟨[(Value.int .i64 x0a), x0b]⟩), x1] H P :=
  r_fn T0_ok (c := code) (n := 35) Try.func48 body (by kernel_rfl) (main P) (En_mk (x0a, x0b, x1, ()) (by kernel_rfl) ⟨by kernel_rfl, by kernel_rfl, trivial⟩ h)

end F48
-- loop.example/g01329/impl.IsGraph
namespace F50
noncomputable def ret (P : PT) : EP := retE T0 25 Try.f50 P
abbrev k0 : Sk := [(1,.x)]
noncomputable def o1 := ob Try.f50 [.r,.l]
def B1 (P : PT) (x1 : Nat) (H : AHeap) : Prop :=
  ldI .i64 H x1 0 (fun v1 => ld1 H x1 1 (fun v2 => AC Try.prog T0 78 [(Value.int .i64 v1), v2] H (fun v3 H4 => asB v3 (fun v5 => pif v5 (ld1 H4 x1 1 (fun v6 => AC Try.prog T0 79 [v6, (Value.func (.func 80) ⟨[]⟩ ⟨[]⟩)] H4 (fun v7 H8 => asB v7 (fun v9 => pif v9 (ld1 H8 x1 1 (fun v10 => AC Try.prog T0 81 [v10, (Value.func (.func 82) ⟨[]⟩ ⟨[]⟩)] H8 (fun v11 H12 => asB v11 (fun v13 => pif v13 (ldI .i64 H12 x1 0 (fun v14 => ld1 H12 x1 1 (fun v15 => AC Try.prog T0 83 [(Value.int .i64 v14), v15] H12 (fun v16 H17 => asB v16 (fun v18 => P (Value.bool v18) H17))))) (P (Value.bool false) H12))))) (P (Value.bool false) H8))))) (P (Value.bool false) H4)))))
theorem q1 (P : PT) : QB Try.prog T0 25 o1 (ret P) k0 (B1 P) := fun _ _ _  => by kernel_rfl
abbrev k1 : Sk := [(0,.g [.i,.v])]
noncomputable def o2 := ob Try.f50 [.l]
def B2 (P : PT) (x0a : Int) (x0b : Value) (H : AHeap) : Prop :=
  newK H [(Value.int .i64 x0a), x0b] 31 (fun b1 H2 => B1 P b1 H2)
theorem q2 (P : PT) : QB Try.prog T0 25 o2 (En 25 k0 (B1 P)) k1 (B2 P) := fun _ _ _ _  => by kernel_rfl
noncomputable def code : Code := (.seq (.region 0 ⟨o2⟩ false) (.seq (.region 1 ⟨o1⟩ false) .ret))
theorem body : Try.f50.body = some code := by kernel_rfl
theorem main (P : PT) : ∀ env H, (En 25 k1 (B2 P)) env H → AW Try.prog T0 code env H (mkQ (ret P) (fun _ _ _ => False) (ret P)) :=
  (r_seq (rB T0_ok (q2 P)) (r_seq (rB T0_ok (q1 P)) r_ret))
theorem ac (P : PT) (x0a : Int) (x0b : Value) (H : AHeap) (h : B2 P x0a x0b H) : AC Try.prog T0 50 [(Value.agg ⟨[(Value.int .i64 x0a), x0b]⟩)] H P :=
  r_fn T0_ok (c := code) (n := 25) Try.func50 body (by kernel_rfl) (main P) (En_mk (x0a, x0b, ()) (by kernel_rfl) ⟨by kernel_rfl, trivial⟩ h)

end F50
-- (loop.example/g01329/impl.Graph).isColouring
namespace F51
noncomputable def ret (P : PT) : EP := retE T0 63 Try.f51 P
abbrev k0 : Sk := []
noncomputable def o1 := ob Try.f51 [.r,.r,.r,.r,.l]
def B1 (P : PT) (H : AHeap) : Prop :=
  P (Value.bool true) H
theorem q1 (P : PT) : QB Try.prog T0 63 o1 (ret P) k0 (B1 P) := fun _ _  => by kernel_rfl
abbrev k1 : Sk := [(1,.v),(5,.v),(30,.v),(31,.i .i64),(32,.i .i64)]
noncomputable def o3 := ob Try.f51 [.r,.r,.r,.l,.r,.l,.l,.r,.r,.r]
def B3 (P : PT) (N2 : NTy k1 Pr) (x1 x5 x30 : Value) (x31 x32 : Int) (H : AHeap) : Prop :=
  N2 x1 x5 x30 x31 (IntKind.i64.wrap (x32 + 1)) H
theorem q3 (P : PT) (N2 : NTy k1 Pr) : QB Try.prog T0 63 o3 (En 63 k1 N2) k1 (B3 P N2) := fun _ _ _ _ _ _ _  => by kernel_rfl
abbrev k2 : Sk := [(1,.v),(5,.v),(6,.i .i64),(30,.v),(31,.i .i64),(32,.i .i64),(37,.g [.i,.i]),(38,.i .i64)]
noncomputable def o5 := ob Try.f51 [.r,.r,.r,.l,.r,.l,.l,.r,.r,.l,.l,.r,.r,.l,.l,.r,.r,.r]
def B5 (P : PT) (N2 : NTy k1 Pr) (N4 : NTy k2 Pr) (x1 x5 : Value) (x6 : Int) (x30 : Value) (x31 x32 x37a x37b x38 : Int) (H : AHeap) : Prop :=
  N4 x1 x5 x6 x30 x31 x32 x37a x37b (IntKind.i64.wrap (x38 + 1)) H
theorem q5 (P : PT) (N2 : NTy k1 Pr) (N4 : NTy k2 Pr) : QB Try.prog T0 63 o5 (En 63 k2 N4) k2 (B5 P N2 N4) := fun _ _ _ _ _ _ _ _ _ _ _  => by kernel_rfl
abbrev k3 : Sk := [(1,.v),(5,.v),(6,.i .i64),(9,.i .i64),(30,.v),(31,.i .i64),(32,.i .i64),(37,.g [.i,.i]),(38,.i .i64)]
noncomputable def o6 := ob Try.f51 [.r,.r,.r,.l,.r,.l,.l,.r,.r,.l,.l,.r,.r,.l,.l,.r,.r,.l,.l,.r,.r]
def B6 (P : PT) (N2 : NTy k1 Pr) (N4 : NTy k2 Pr) (x1 x5 : Value) (x6 x9 : Int) (x30 : Value) (x31 x32 x37a x37b x38 : Int) (H : AHeap) : Prop :=
  idxK x5 x9 1 (fun b1 o2 => ldI .u64 H b1 o2 (fun v3 => idxK x1 x6 1 (fun b4 o5 => ldI .i64 H b4 o5 (fun v6 => ((0 : Int) ≤ v6) ∧ (idxK x5 x9 1 (fun b7 o8 => stK H b7 o8 [(Value.int .u64 (IntKind.u64.wrap (BitVec.ofInt 64 v3 ||| BitVec.ofInt 64 (IntKind.u64.wrap (1 * 2 ^ (min (Int.toNat v6) 64)))).toNat))] (fun H9 => B5 P N2 N4 x1 x5 x6 x30 x31 x32 x37a x37b x38 H9)))))))
theorem q6 (P : PT) (N2 : NTy k1 Pr) (N4 : NTy k2 Pr) : QD Try.prog T0 63 o6 [(0, false), (1, false), (2, false), (3, false), (4, false), (5, false), (6, false), (7, false), (8, false), (9, false), (10, false), (11, false)] (En 63 k2 (B5 P N2 N4)) k3 (B6 P N2 N4) := fun _ _ _ _ _ _ _ _ _ _ _ _  => by kernel_rfl
noncomputable def o7 := ob Try.f51 [.r,.r,.r,.l,.r,.l,.l,.r,.r,.l,.l,.r,.r,.l,.l,.r,.r,.l,.l,.r,.l,.r,.l,.l]
def B7 (P : PT) (N2 : NTy k1 Pr) (N4 : NTy k2 Pr) (H : AHeap) : Prop :=
  P (Value.bool false) H
theorem q7 (P : PT) (N2 : NTy k1 Pr) (N4 : NTy k2 Pr) : QB Try.prog T0 63 o7 (ret P) k0 (B7 P N2 N4) := fun _ _  => by kernel_rfl
noncomputable def o8 := ob Try.f51 [.r,.r,.r,.l,.r,.l,.l,.r,.r,.l,.l,.r,.r,.l,.l,.r,.r,.l,.l,.r,.l,.l]
def B8 (P : PT) (N2 : NTy k1 Pr) (N4 : NTy k2 Pr) (x1 x5 : Value) (x6 x9 : Int) (x30 : Value) (x31 x32 x37a x37b x38 : Int) (H : AHeap) : Prop :=
  idxK x5 x9 1 (fun b1 o2 => ldI .u64 H b1 o2 (fun v3 => idxK x1 x6 1 (fun b4 o5 => ldI .i64 H b4 o5 (fun v6 => AC Try.prog T0 71 [(Value.int .u64 v3), (Value.int .i64 v6)] H (fun v7 H8 => asB v7 (fun v9 => pif v9 (B7 P N2 N4 H8) (B6 P N2 N4 x1 x5 x6 x9 x30 x31 x32 x37a x37b x38 H8)))))))
theorem q8 (P : PT) (N2 : NTy k1 Pr) (N4 : NTy k2 Pr) : QD Try.prog T0 63 o8 [(0, false), (1, false), (2, false), (3, false), (4, false), (5, false), (6, false), (7, false), (8, false)] (cnd 49 (En 63 k0 (B7 P N2 N4)) (En 63 k3 (B6 P N2 N4))) k3 (B8 P N2 N4) := fun _ _ _ _ _ _ _ _ _ _ _ _  => by kernel_rfl
noncomputable def o9 := ob Try.f51 [.r,.r,.r,.l,.r,.l,.l,.r,.r,.l,.l,.r,.r,.l,.l,.r,.r,.l,.l,.l]
def B9 (P : PT) (N2 : NTy k1 Pr) (N4 : NTy k2 Pr) (x1 x5 : Value) (x6 : Int) (x30 : Value) (x31 x32 x37a x37b x38 : Int) (H : AHeap) : Prop :=
  bndK x38 2 (atK [(Value.int .i64 x37a), (Value.int .i64 x37b)] (Int.toNat x38 * 1) (fun v1 => asI .i64 v1 (fun v2 => B8 P N2 N4 x1 x5 x6 v2 x30 x31 x32 x37a x37b x38 H)))
theorem q9 (P : PT) (N2 : NTy k1 Pr) (N4 : NTy k2 Pr) : QB Try.prog T0 63 o9 (En 63 k3 (B8 P N2 N4)) k2 (B9 P N2 N4) := fun _ _ _ _ _ _ _ _ _ _ _  => by kernel_rfl
noncomputable def o10 := ob Try.f51 [.r,.r,.r,.l,.r,.l,.l,.r,.r,.l,.l,.r,.r,.l,.l,.l]
def B10 (P : PT) (N2 : NTy k1 Pr) (N4 : NTy k2 Pr) (x1 x5 : Value) (x6 : Int) (x30 : Value) (x31 x32 x37a x37b x38 : Int) (H : AHeap) : Prop :=
  pif (decide ((x38 : Int) < 2)) (B9 P N2 N4 x1 x5 x6 x30 x31 x32 x37a x37b x38 H) (B3 P N2 x1 x5 x30 x31 x32 H)
theorem q10 (P : PT) (N2 : NTy k1 Pr) (N4 : NTy k2 Pr) : QB Try.prog T0 63 o10 (cnd 39 (En 63 k2 (B9 P N2 N4)) (En 63 k1 (B3 P N2))) k2 (B10 P N2 N4) := fun _ _ _ _ _ _ _ _ _ _ _  => by kernel_rfl
def L4 (P : PT) (N2 : NTy k1 Pr) (x1 x5 : Value) (x6 : Int) (x30 : Value) (x31 x32 x37a x37b x38 : Int) (H : AHeap) : Prop :=
  ∃ (I : NTy k2 Pr) (μ : NTy k2 (AHeap → Nat)), I x1 x5 x6 x30 x31 x32 x37a x37b x38 H ∧ ∀ y1 y5 y6 y30 y31 y32 y37a y37b y38 G, I y1 y5 y6 y30 y31 y32 y37a y37b y38 G → B10 P N2 (fun z1 z5 z6 z30 z31 z32 z37a z37b z38 G' => I z1 z5 z6 z30 z31 z32 z37a z37b z38 G' ∧ μ z1 z5 z6 z30 z31 z32 z37a z37b z38 G' < μ y1 y5 y6 y30 y31 y32 y37a y37b y38 G) y1 y5 y6 y30 y31 y32 y37a y37b y38 G
theorem l4 (P : PT) (N2 : NTy k1 Pr) : LQ k2 (L4 P N2) (B10 P N2) := fun ⟨_,_,_,_,_,_,_,_,_,_⟩ _ ⟨I, μ, h0, hI⟩ => ⟨apT _ I, apT _ μ, h0, fun ⟨_,_,_,_,_,_,_,_,_,_⟩ _ h => hI _ _ _ _ _ _ _ _ _ _  h⟩
abbrev k4 : Sk := [(1,.v),(5,.v),(6,.i .i64),(7,.x),(30,.v),(31,.i .i64),(32,.i .i64)]
noncomputable def o11 := ob Try.f51 [.r,.r,.r,.l,.r,.l,.l,.r,.r,.l,.l,.r,.l]
def B11 (P : PT) (N2 : NTy k1 Pr) (x1 x5 : Value) (x6 : Int) (x7 : Nat) (x30 : Value) (x31 x32 : Int) (H : AHeap) : Prop :=
  ldI .i64 H x7 0 (fun v1 => ldI .i64 H x7 1 (fun v2 => L4 P N2 x1 x5 x6 x30 x31 x32 v1 v2 0 H))
theorem q11 (P : PT) (N2 : NTy k1 Pr) : QB Try.prog T0 63 o11 (En 63 k2 (L4 P N2)) k4 (B11 P N2) := fun _ _ _ _ _ _ _ _ _  => by kernel_rfl
noncomputable def o12 := ob Try.f51 [.r,.r,.r,.l,.r,.l,.l,.r,.r,.l,.l,.l]
def B12 (P : PT) (N2 : NTy k1 Pr) (x1 x5 x30 : Value) (x31 x32 : Int) (H : AHeap) : Prop :=
  idxK x30 x32 2 (fun b1 o2 => ldI .i64 H b1 o2 (fun v3 => ldI .i64 H b1 (o2 + 1) (fun v4 => newK H [(Value.int .i64 0), (Value.int .i64 0)] 62 (fun b5 H6 => stK H6 b5 0 [(Value.int .i64 v3), (Value.int .i64 v4)] (fun H7 => B11 P N2 x1 x5 x32 b5 x30 x31 x32 H7)))))
theorem q12 (P : PT) (N2 : NTy k1 Pr) : QB Try.prog T0 63 o12 (En 63 k4 (B11 P N2)) k1 (B12 P N2) := fun _ _ _ _ _ _ _  => by kernel_rfl
noncomputable def o13 := ob Try.f51 [.r,.r,.r,.l,.r,.l,.l,.l]
def B13 (P : PT) (N2 : NTy k1 Pr) (x1 x5 x30 : Value) (x31 x32 : Int) (H : AHeap) : Prop :=
  pif (decide ((x32 : Int) < x31)) (B12 P N2 x1 x5 x30 x31 x32 H) (B1 P H)
theorem q13 (P : PT) (N2 : NTy k1 Pr) : QB Try.prog T0 63 o13 (cnd 33 (En 63 k1 (B12 P N2)) (En 63 k0 (B1 P))) k1 (B13 P N2) := fun _ _ _ _ _ _ _  => by kernel_rfl
def L2 (P : PT) (x1 x5 x30 : Value) (x31 x32 : Int) (H : AHeap) : Prop :=
  ∃ (I : NTy k1 Pr) (μ : NTy k1 (AHeap → Nat)), I x1 x5 x30 x31 x32 H ∧ ∀ y1 y5 y30 y31 y32 G, I y1 y5 y30 y31 y32 G → B13 P (fun z1 z5 z30 z31 z32 G' => I z1 z5 z30 z31 z32 G' ∧ μ z1 z5 z30 z31 z32 G' < μ y1 y5 y30 y31 y32 G) y1 y5 y30 y31 y32 G
theorem l2 (P : PT) : LQ k1 (L2 P) (B13 P) := fun ⟨_,_,_,_,_,_⟩ _ ⟨I, μ, h0, hI⟩ => ⟨apT _ I, apT _ μ, h0, fun ⟨_,_,_,_,_,_⟩ _ h => hI _ _ _ _ _ _  h⟩
abbrev k5 : Sk := [(1,.v),(2,.x),(5,.v)]
noncomputable def o14 := ob Try.f51 [.r,.r,.r,.l,.l]
def B14 (P : PT) (x1 : Value) (x2 : Nat) (x5 : Value) (H : AHeap) : Prop :=
  ld1 H x2 1 (fun v1 => lenK v1 (fun n2 => L2 P x1 x5 v1 (n2 : Int) 0 H))
theorem q14 (P : PT) : QB Try.prog T0 63 o14 (En 63 k1 (L2 P)) k5 (B14 P) := fun _ _ _ _ _  => by kernel_rfl
abbrev k6 : Sk := [(1,.v),(2,.x)]
noncomputable def o15 := ob Try.f51 [.r,.r,.l]
def B15 (P : PT) (x1 : Value) (x2 : Nat) (H : AHeap) : Prop :=
  ldI .i64 H x2 0 (fun v1 => mkR H 8 64 [(Value.int .u64 0)] v1 v1 (fun v3 H2 => B14 P x1 x2 v3 H2))
theorem q15 (P : PT) : QB Try.prog T0 63 o15 (En 63 k5 (B14 P)) k6 (B15 P) := fun _ _ _ _  => by kernel_rfl
noncomputable def o16 := ob Try.f51 [.r,.l,.r,.l,.l]
def B16 (P : PT) (H : AHeap) : Prop :=
  P (Value.bool false) H
theorem q16 (P : PT) : QB Try.prog T0 63 o16 (ret P) k0 (B16 P) := fun _ _  => by kernel_rfl
noncomputable def o17 := ob Try.f51 [.r,.l,.l]
def B17 (P : PT) (x1 : Value) (x2 : Nat) (H : AHeap) : Prop :=
  ldI .i64 H x2 0 (fun v1 => ld1 H x2 1 (fun v2 => AC Try.prog T0 50 [(Value.agg ⟨[(Value.int .i64 v1), v2]⟩)] H (fun v3 H4 => asB v3 (fun v5 => pif (!v5) (B16 P H4) (lenK x1 (fun n6 => ld1 H4 x2 1 (fun v7 => lenK v7 (fun n8 => pif (((n6 : Int) : Int) != (n8 : Int)) (B16 P H4) (AC Try.prog T0 84 [x1, (Value.func (.func 85) ⟨[]⟩ ⟨[]⟩)] H4 (fun v9 H10 => asB v9 (fun v11 => pif (!v11) (B16 P H10) (B15 P x1 x2 H10))))))))))))
theorem q17 (P : PT) : QB Try.prog T0 63 o17 (cnd 25 (En 63 k0 (B16 P)) (En 63 k6 (B15 P))) k6 (B17 P) := fun _ _ _ _  => by kernel_rfl
abbrev k7 : Sk := [(0,.g [.i,.v]),(1,.v)]
noncomputable def o18 := ob Try.f51 [.l]
def B18 (P : PT) (x0a : Int) (x0b x1 : Value) (H : AHeap) : Prop :=
  newK H [(Value.int .i64 x0a), x0b] 31 (fun b1 H2 => B17 P x1 b1 H2)
theorem q18 (P : PT) : QB Try.prog T0 63 o18 (En 63 k6 (B17 P)) k7 (B18 P) := fun _ _ _ _ _  => by kernel_rfl
noncomputable def code : Code := (.seq (.region 0 ⟨o18⟩ false) (.seq (.seq (.region 1 ⟨o17⟩ false) (.cond (.tmp 25) (.seq (.region 2 ⟨o16⟩ false) .ret) .skip)) (.seq (.region 3 ⟨o15⟩ false) (.seq (.seq (.region 4 ⟨o14⟩ false) (.block 0 (.loop (.seq (.region 5 ⟨o13⟩ false) (.seq (.cond (.tmp 33) .skip (.exit 0)) (.seq (.block 1 (.seq (.region 6 ⟨o12⟩ false) (.seq (.region 7 ⟨o11⟩ false) (.block 2 (.loop (.seq (.region 8 ⟨o10⟩ false) (.seq (.cond (.tmp 39) .skip (.exit 2)) (.seq (.block 3 (.seq (.region 9 ⟨o9⟩ false) (.seq (.seq (.region 10 ⟨o8⟩ true) (.cond (.tmp 49) (.seq (.region 11 ⟨o7⟩ false) .ret) .skip)) (.region 12 ⟨o6⟩ true)))) (.region 13 ⟨o5⟩ false))))))))) (.region 14 ⟨o3⟩ false))))))) (.seq (.region 15 ⟨o1⟩ false) .ret)))))
theorem body : Try.f51.body = some code := by kernel_rfl
theorem main (P : PT) : ∀ env H, (En 63 k7 (B18 P)) env H → AW Try.prog T0 code env H (mkQ (ret P) (fun _ _ _ => False) (ret P)) :=
  (r_seq (rB T0_ok (q18 P)) (r_seq (r_seq (rB T0_ok (q17 P)) (r_cond rfl (r_seq (rB T0_ok (q16 P)) r_ret) r_skip)) (r_seq (rB T0_ok (q15 P)) (r_seq (r_seq (rB T0_ok (q14 P)) (r_block (rL (l2 P) (fun N2 => (r_seq (rB T0_ok (q13 P N2)) (r_seq (r_cond rfl r_skip (r_exit (fun _ _ h => h))) (r_seq (r_block (r_seq (rB T0_ok (q12 P N2)) (r_seq (rB T0_ok (q11 P N2)) (r_block (rL (l4 P N2) (fun N4 => (r_seq (rB T0_ok (q10 P N2 N4)) (r_seq (r_cond rfl r_skip (r_exit (fun _ _ h => h))) (r_seq (r_block (r_seq (rB T0_ok (q9 P N2 N4)) (r_seq (r_seq (rD T0_ok mixed [(0, false), (1, false), (2, false), (3, false), (4, false), (5, false), (6, false), (7, false), (8, false)] (by kernel_rfl) (q8 P N2 N4)) (r_cond rfl (r_seq (rB T0_ok (q7 P N2 N4)) r_ret) r_skip)) (rD T0_ok mixed [(0, false), (1, false), (2, false), (3, false), (4, false), (5, false), (6, false), (7, false), (8, false), (9, false), (10, false), (11, false)] (by kernel_rfl) (q6 P N2 N4))))) (rB T0_ok (q5 P N2 N4))))))))))) (rB T0_ok (q3 P N2))))))))) (r_seq (rB T0_ok (q1 P)) r_ret)))))
theorem ac (P : PT) (x0a : Int) (x0b x1 : Value) (H : AHeap) (h : B18 P x0a x0b x1 H) : AC Try.prog T0 51 [(Value.agg ⟨[(Value.int .i64 x0a), x0b]⟩), x1] H P :=
  r_fn T0_ok (c := code) (n := 63) Try.func51 body (by kernel_rfl) (main P) (En_mk (x0a, x0b, x1, ()) (by kernel_rfl) ⟨by kernel_rfl, by kernel_rfl, trivial⟩ h)

end F51
-- loop.example/g01329/spec.l02Given
namespace F53
noncomputable def ret (P : PT) : EP := retE T0 36 Try.f53 P
abbrev k0 : Sk := []
noncomputable def o1 := ob Try.f53 [.r,.r,.r,.l]
def B1 (P : PT) (H : AHeap) : Prop :=
  P (Value.int .i64 0) H
theorem q1 (P : PT) : QB Try.prog T0 36 o1 (ret P) k0 (B1 P) := fun _ _  => by kernel_rfl
noncomputable def o2 := ob Try.f53 [.r,.r,.l,.r,.l,.l]
def B2 (P : PT) (H : AHeap) : Prop :=
  P (Value.int .i64 2) H
theorem q2 (P : PT) : QB Try.prog T0 36 o2 (ret P) k0 (B2 P) := fun _ _  => by kernel_rfl
abbrev k1 : Sk := [(1,.v),(2,.i .i64),(3,.i .i64)]
noncomputable def o3 := ob Try.f53 [.r,.r,.l,.l]
def B3 (P : PT) (x1 : Value) (x2 x3 : Int) (H : AHeap) : Prop :=
  lenK x1 (fun n1 => AC Try.prog T0 76 [(Value.int .i64 x2), (Value.int .i64 0), (Value.int .i64 (IntKind.i64.wrap ((n1 : Int) - 1)))] H (fun v2 H3 => asB v2 (fun v4 => pif (!v4) (B2 P H3) (AC Try.prog T0 76 [(Value.int .i64 x3), (Value.int .i64 0), (Value.int .i64 2)] H3 (fun v5 H6 => asB v5 (fun v7 => pif (!v7) (B2 P H6) (idxK x1 x2 1 (fun b8 o9 => ldI .i64 H6 b8 o9 (fun v10 => pif ((v10 : Int) == x3) (B2 P H6) (B1 P H6))))))))))
theorem q3 (P : PT) : QB Try.prog T0 36 o3 (cnd 35 (En 36 k0 (B2 P)) (En 36 k0 (B1 P))) k1 (B3 P) := fun _ _ _ _ _  => by kernel_rfl
abbrev k2 : Sk := [(9,.i .i64)]
noncomputable def o4 := ob Try.f53 [.r,.l,.r,.r,.l,.l]
def B4 (P : PT) (x9 : Int) (H : AHeap) : Prop :=
  P (Value.int .i64 x9) H
theorem q4 (P : PT) : QB Try.prog T0 36 o4 (ret P) k2 (B4 P) := fun _ _ _  => by kernel_rfl
abbrev k3 : Sk := [(1,.v),(2,.i .i64),(3,.i .i64),(9,.i .i64)]
noncomputable def o5 := ob Try.f53 [.r,.l,.r,.l]
def B5 (P : PT) (x1 : Value) (x2 x3 x9 : Int) (H : AHeap) : Prop :=
  pif ((x9 : Int) != 0) (B4 P x9 H) (B3 P x1 x2 x3 H)
theorem q5 (P : PT) : QB Try.prog T0 36 o5 (cnd 15 (En 36 k2 (B4 P)) (En 36 k1 (B3 P))) k3 (B5 P) := fun _ _ _ _ _ _  => by kernel_rfl
abbrev k4 : Sk := [(1,.v),(2,.i .i64),(3,.i .i64),(4,.x)]
noncomputable def o6 := ob Try.f53 [.r,.l,.l]
def B6 (P : PT) (x1 : Value) (x2 x3 : Int) (x4 : Nat) (H : AHeap) : Prop :=
  ldI .i64 H x4 0 (fun v1 => ld1 H x4 1 (fun v2 => pif (Value.oneCell' x1) (newK H [x1] 25 (fun b3 H4 => AC Try.prog T0 62 [(Value.agg ⟨[(Value.int .i64 v1), v2]⟩), (Value.slice (some ⟨b3, 0, none⟩) 1 (1 + 1))] H4 (fun v5 H6 => asI .i64 v5 (fun v7 => B5 P x1 x2 x3 v7 H6)))) False))
theorem q6 (P : PT) : QB Try.prog T0 36 o6 (En 36 k3 (B5 P)) k4 (B6 P) := fun _ _ _ _ _ _  => by kernel_rfl
abbrev k5 : Sk := [(0,.g [.i,.v]),(1,.v),(2,.i .i64),(3,.i .i64)]
noncomputable def o7 := ob Try.f53 [.l]
def B7 (P : PT) (x0a : Int) (x0b x1 : Value) (x2 x3 : Int) (H : AHeap) : Prop :=
  newK H [(Value.int .i64 x0a), x0b] 31 (fun b1 H2 => B6 P x1 x2 x3 b1 H2)
theorem q7 (P : PT) : QB Try.prog T0 36 o7 (En 36 k4 (B6 P)) k5 (B7 P) := fun _ _ _ _ _ _ _  => by kernel_rfl
noncomputable def code : Code := (.seq (.region 0 ⟨o7⟩ false) (.seq (.seq (.region 1 ⟨o6⟩ false) (.seq (.region 2 ⟨o5⟩ false) (.cond (.tmp 15) (.seq (.region 3 ⟨o4⟩ false) .ret) .skip))) (.seq (.seq (.region 4 ⟨o3⟩ false) (.cond (.tmp 35) (.seq (.region 5 ⟨o2⟩ false) .ret) .skip)) (.seq (.region 6 ⟨o1⟩ false) .ret))))
theorem body : Try.f53.body = some code := by kernel_rfl
theorem main (P : PT) : ∀ env H, (En 36 k5 (B7 P)) env H → AW Try.prog T0 code env H (mkQ (ret P) (fun _ _ _ => False) (ret P)) :=
  (r_seq (rB T0_ok (q7 P)) (r_seq (r_seq (rB T0_ok (q6 P)) (r_seq (rB T0_ok (q5 P)) (r_cond rfl (r_seq (rB T0_ok (q4 P)) r_ret) r_skip))) (r_seq (r_seq (rB T0_ok (q3 P)) (r_cond rfl (r_seq (rB T0_ok (q2 P)) r_ret) r_skip)) (r_seq (rB T0_ok (q1 P)) r_ret))))
theorem ac (P : PT) (x0a : Int) (x0b x1 : Value) (x2 x3 : Int) (H : AHeap) (h : B7 P x0a x0b x1 x2 x3 H) : AC Try.prog T0 53 [(Value.agg ⟨[(Value.int .i64 x0a), x0b]⟩), x1, (Value.int .i64 x2), (Value.int .i64 x3)] H P :=
  r_fn T0_ok (c := code) (n := 36) Try.func53 body (by kernel_rfl) (main P) (En_mk (x0a, x0b, x1, x2, x3, ()) (by kernel_rfl) ⟨by kernel_rfl, by kernel_rfl, by kernel_rfl, by kernel_rfl, trivial⟩ h)

end F53
-- loop.example/g01329/spec.l02Chain
namespace F54
noncomputable def ret (P : PT) : EP := retE T0 86 Try.f54 P
abbrev k0 : Sk := [(9,.v)]
noncomputable def o1 := ob Try.f54 [.r,.r,.r,.r,.l]
def B1 (P : PT) (x9 : Value) (H : AHeap) : Prop :=
  P x9 H
theorem q1 (P : PT) : QB Try.prog T0 86 o1 (ret P) k0 (B1 P) := fun _ _ _  => by kernel_rfl
abbrev k1 : Sk := [(1,.v),(2,.i .i64),(3,.i .i64),(4,.x),(9,.v),(10,.v),(11,.i .i64)]
noncomputable def o3 := ob Try.f54 [.r,.r,.r,.l,.r,.l,.l,.r,.r]
def B3 (P : PT) (N2 : NTy k1 Pr) (x1 : Value) (x2 x3 : Int) (x4 : Nat) (x9 x10 : Value) (x11 : Int) (H : AHeap) : Prop :=
  N2 x1 x2 x3 x4 x9 x10 (IntKind.i64.wrap (x11 + 1)) H
theorem q3 (P : PT) (N2 : NTy k1 Pr) : QB Try.prog T0 86 o3 (En 86 k1 N2) k1 (B3 P N2) := fun _ _ _ _ _ _ _ _ _  => by kernel_rfl
abbrev k2 : Sk := [(1,.v),(2,.i .i64),(3,.i .i64),(4,.x),(9,.v),(10,.v),(11,.i .i64),(12,.i .i64)]
noncomputable def o5 := ob Try.f54 [.r,.r,.r,.l,.r,.l,.l,.r,.l,.l,.r,.l,.l,.r,.r]
def B5 (P : PT) (N2 : NTy k1 Pr) (N4 : NTy k2 Pr) (x1 : Value) (x2 x3 : Int) (x4 : Nat) (x9 x10 : Value) (x11 x12 : Int) (H : AHeap) : Prop :=
  N4 x1 x2 x3 x4 x9 x10 x11 (IntKind.i64.wrap (x12 + 1)) H
theorem q5 (P : PT) (N2 : NTy k1 Pr) (N4 : NTy k2 Pr) : QB Try.prog T0 86 o5 (En 86 k2 N4) k2 (B5 P N2 N4) := fun _ _ _ _ _ _ _ _ _ _  => by kernel_rfl
abbrev k3 : Sk := [(1,.v),(2,.i .i64),(3,.i .i64),(4,.x),(9,.v),(10,.v),(11,.i .i64),(12,.i .i64),(13,.v),(14,.i .i64)]
noncomputable def o7 := ob Try.f54 [.r,.r,.r,.l,.r,.l,.l,.r,.l,.l,.r,.l,.l,.r,.l,.l,.r,.r,.l,.l,.r,.r]
def B7 (P : PT) (N2 : NTy k1 Pr) (N4 : NTy k2 Pr) (N6 : NTy k3 Pr) (x1 : Value) (x2 x3 : Int) (x4 : Nat) (x9 x10 : Value) (x11 x12 : Int) (x13 : Value) (x14 : Int) (H : AHeap) : Prop :=
  N6 x1 x2 x3 x4 x9 x10 x11 x12 x13 (IntKind.i64.wrap (x14 + 1)) H
theorem q7 (P : PT) (N2 : NTy k1 Pr) (N4 : NTy k2 Pr) (N6 : NTy k3 Pr) : QB Try.prog T0 86 o7 (En 86 k3 N6) k3 (B7 P N2 N4 N6) := fun _ _ _ _ _ _ _ _ _ _ _ _  => by kernel_rfl
abbrev k4 : Sk := [(1,.v),(2,.i .i64),(3,.i .i64),(4,.x),(9,.v),(10,.v),(11,.i .i64),(12,.i .i64),(13,.v),(14,.i .i64),(15,.i .i64)]
noncomputable def o8 := ob Try.f54 [.r,.r,.r,.l,.r,.l,.l,.r,.l,.l,.r,.l,.l,.r,.l,.l,.r,.r,.l,.l,.r,.l,.l,.r,.r,.l,.r]
def B8 (P : PT) (N2 : NTy k1 Pr) (N4 : NTy k2 Pr) (N6 : NTy k3 Pr) (x1 : Value) (x2 x3 : Int) (x4 : Nat) (x9 x10 : Value) (x11 x12 : Int) (x13 : Value) (x14 x15 : Int) (H : AHeap) : Prop :=
  newK H [(Value.int .i64 x15)] 2 (fun b1 H2 => apK T0 2 H2 x10 (Value.slice (some ⟨b1, 0, none⟩) 1 (1 + 1)) (fun v3 H4 => B7 P N2 N4 N6 x1 x2 x3 x4 x9 v3 x11 x12 x13 x14 H4))
theorem q8 (P : PT) (N2 : NTy k1 Pr) (N4 : NTy k2 Pr) (N6 : NTy k3 Pr) : QB Try.prog T0 86 o8 (En 86 k3 (B7 P N2 N4 N6)) k4 (B8 P N2 N4 N6) := fun _ _ _ _ _ _ _ _ _ _ _ _ _  => by kernel_rfl
noncomputable def o9 := ob Try.f54 [.r,.r,.r,.l,.r,.l,.l,.r,.l,.l,.r,.l,.l,.r,.l,.l,.r,.r,.l,.l,.r,.l,.l,.r,.r,.l,.l]
def B9 (P : PT) (N2 : NTy k1 Pr) (N4 : NTy k2 Pr) (N6 : NTy k3 Pr) (x1 : Value) (x2 x3 : Int) (x4 : Nat) (x9 x10 : Value) (x11 x12 : Int) (x13 : Value) (x14 x15 : Int) (H : AHeap) : Prop :=
  idxK x9 x15 1 (fun b1 o2 => stK H b1 o2 [(Value.bool true)] (fun H3 => B8 P N2 N4 N6 x1 x2 x3 x4 x9 x10 x11 x12 x13 x14 x15 H3))
theorem q9 (P : PT) (N2 : NTy k1 Pr) (N4 : NTy k2 Pr) (N6 : NTy k3 Pr) : QB Try.prog T0 86 o9 (En 86 k4 (B8 P N2 N4 N6)) k4 (B9 P N2 N4 N6) := fun _ _ _ _ _ _ _ _ _ _ _ _ _  => by kernel_rfl
noncomputable def o10 := ob Try.f54 [.r,.r,.r,.l,.r,.l,.l,.r,.l,.l,.r,.l,.l,.r,.l,.l,.r,.r,.l,.l,.r,.l,.l,.r,.l]
def B10 (P : PT) (N2 : NTy k1 Pr) (N4 : NTy k2 Pr) (N6 : NTy k3 Pr) (x1 : Value) (x2 x3 : Int) (x4 : Nat) (x9 x10 : Value) (x11 x12 : Int) (x13 : Value) (x14 x15 : Int) (H : AHeap) : Prop :=
  idxK x9 x15 1 (fun b1 o2 => ld1 H b1 o2 (fun v4 => asB v4 (fun v3 => pif (!v3) (idxK x1 x15 1 (fun b5 o6 => ldI .i64 H b5 o6 (fun v7 => idxK x1 x2 1 (fun b8 o9 => ldI .i64 H b8 o9 (fun v10 => pif ((v7 : Int) == v10) (B9 P N2 N4 N6 x1 x2 x3 x4 x9 x10 x11 x12 x13 x14 x15 H) (idxK x1 x15 1 (fun b11 o12 => ldI .i64 H b11 o12 (fun v13 => pif ((v13 : Int) == x3) (B9 P N2 N4 N6 x1 x2 x3 x4 x9 x10 x11 x12 x13 x14 x15 H) (B7 P N2 N4 N6 x1 x2 x3 x4 x9 x10 x11 x12 x13 x14 H))))))))) (B7 P N2 N4 N6 x1 x2 x3 x4 x9 x10 x11 x12 x13 x14 H))))
theorem q10 (P : PT) (N2 : NTy k1 Pr) (N4 : NTy k2 Pr) (N6 : NTy k3 Pr) : QD Try.prog T0 86 o10 [(0, false), (1, false), (2, false), (3, false), (4, false), (5, false), (6, false), (7, false), (8, false), (9, false), (10, false), (11, false), (12, false), (13, false), (14, false), (15, false), (16, false), (17, false), (18, false), (19, false), (20, false), (21, false), (22, false), (23, false)] (cnd 77 (En 86 k4 (B9 P N2 N4 N6)) (En 86 k3 (B7 P N2 N4 N6))) k4 (B10 P N2 N4 N6) := fun _ _ _ _ _ _ _ _ _ _ _ _ _  => by kernel_rfl
noncomputable def o11 := ob Try.f54 [.r,.r,.r,.l,.r,.l,.l,.r,.l,.l,.r,.l,.l,.r,.l,.l,.r,.r,.l,.l,.r,.l,.l,.l]
def B11 (P : PT) (N2 : NTy k1 Pr) (N4 : NTy k2 Pr) (N6 : NTy k3 Pr) (x1 : Value) (x2 x3 : Int) (x4 : Nat) (x9 x10 : Value) (x11 x12 : Int) (x13 : Value) (x14 : Int) (H : AHeap) : Prop :=
  idxK x13 x14 1 (fun b1 o2 => ldI .i64 H b1 o2 (fun v3 => B10 P N2 N4 N6 x1 x2 x3 x4 x9 x10 x11 x12 x13 x14 v3 H))
theorem q11 (P : PT) (N2 : NTy k1 Pr) (N4 : NTy k2 Pr) (N6 : NTy k3 Pr) : QB Try.prog T0 86 o11 (En 86 k4 (B10 P N2 N4 N6)) k3 (B11 P N2 N4 N6) := fun _ _ _ _ _ _ _ _ _ _ _ _  => by kernel_rfl
noncomputable def o12 := ob Try.f54 [.r,.r,.r,.l,.r,.l,.l,.r,.l,.l,.r,.l,.l,.r,.l,.l,.r,.r,.l,.l,.l,.l]
def B12 (P : PT) (N2 : NTy k1 Pr) (N4 : NTy k2 Pr) (N6 : NTy k3 Pr) (x1 : Value) (x2 x3 : Int) (x4 : Nat) (x9 x10 : Value) (x11 x12 : Int) (x13 : Value) (x14 : Int) (H : AHeap) : Prop :=
  pif (decide ((x14 : Int) < 3)) (B11 P N2 N4 N6 x1 x2 x3 x4 x9 x10 x11 x12 x13 x14 H) (B5 P N2 N4 x1 x2 x3 x4 x9 x10 x11 x12 H)
theorem q12 (P : PT) (N2 : NTy k1 Pr) (N4 : NTy k2 Pr) (N6 : NTy k3 Pr) : QB Try.prog T0 86 o12 (cnd 47 (En 86 k3 (B11 P N2 N4 N6)) (En 86 k2 (B5 P N2 N4))) k3 (B12 P N2 N4 N6) := fun _ _ _ _ _ _ _ _ _ _ _ _  => by kernel_rfl
def L6 (P : PT) (N2 : NTy k1 Pr) (N4 : NTy k2 Pr) (x1 : Value) (x2 x3 : Int) (x4 : Nat) (x9 x10 : Value) (x11 x12 : Int) (x13 : Value) (x14 : Int) (H : AHeap) : Prop :=
  ∃ (I : NTy k3 Pr) (μ : NTy k3 (AHeap → Nat)), I x1 x2 x3 x4 x9 x10 x11 x12 x13 x14 H ∧ ∀ y1 y2 y3 y4 y9 y10 y11 y12 y13 y14 G, I y1 y2 y3 y4 y9 y10 y11 y12 y13 y14 G → B12 P N2 N4 (fun z1 z2 z3 z4 z9 z10 z11 z12 z13 z14 G' => I z1 z2 z3 z4 z9 z10 z11 z12 z13 z14 G' ∧ μ z1 z2 z3 z4 z9 z10 z11 z12 z13 z14 G' < μ y1 y2 y3 y4 y9 y10 y11 y12 y13 y14 G) y1 y2 y3 y4 y9 y10 y11 y12 y13 y14 G
theorem l6 (P : PT) (N2 : NTy k1 Pr) (N4 : NTy k2 Pr) : LQ k3 (L6 P N2 N4) (B12 P N2 N4) := fun ⟨_,_,_,_,_,_,_,_,_,_,_⟩ _ ⟨I, μ, h0, hI⟩ => ⟨apT _ I, apT _ μ, h0, fun ⟨_,_,_,_,_,_,_,_,_,_,_⟩ _ h => hI _ _ _ _ _ _ _ _ _ _ _  h⟩
abbrev k5 : Sk := [(1,.v),(2,.i .i64),(3,.i .i64),(4,.x),(9,.v),(10,.v),(11,.i .i64),(12,.i .i64),(13,.v)]
noncomputable def o13 := ob Try.f54 [.r,.r,.r,.l,.r,.l,.l,.r,.l,.l,.r,.l,.l,.r,.l,.l,.r,.l]
def B13 (P : PT) (N2 : NTy k1 Pr) (N4 : NTy k2 Pr) (x1 : Value) (x2 x3 : Int) (x4 : Nat) (x9 x10 : Value) (x11 x12 : Int) (x13 : Value) (H : AHeap) : Prop :=
  L6 P N2 N4 x1 x2 x3 x4 x9 x10 x11 x12 x13 0 H
theorem q13 (P : PT) (N2 : NTy k1 Pr) (N4 : NTy k2 Pr) : QB Try.prog T0 86 o13 (En 86 k3 (L6 P N2 N4)) k5 (B13 P N2 N4) := fun _ _ _ _ _ _ _ _ _ _ _  => by kernel_rfl
noncomputable def o14 := ob Try.f54 [.r,.r,.r,.l,.r,.l,.l,.r,.l,.l,.r,.l,.l,.r,.l,.l,.l]
def B14 (P : PT) (N2 : NTy k1 Pr) (N4 : NTy k2 Pr) (x1 : Value) (x2 x3 : Int) (x4 : Nat) (x9 x10 : Value) (x11 x12 : Int) (H : AHeap) : Prop :=
  ldI .i64 H x4 0 (fun v1 => ld1 H x4 1 (fun v2 => ld1 H x4 1 (fun v3 => idxK x10 x11 1 (fun b4 o5 => ldI .i64 H b4 o5 (fun v6 => idxK v3 v6 2 (fun b7 o8 => bndK x12 2 (ldI .i64 H b7 (o8 + Int.toNat x12 * 1) (fun v9 => AC Try.prog T0 87 [(Value.agg ⟨[(Value.int .i64 v1), v2]⟩), (Value.int .i64 v9)] H (fun v10 H11 => B13 P N2 N4 x1 x2 x3 x4 x9 x10 x11 x12 v10 H11)))))))))
theorem q14 (P : PT) (N2 : NTy k1 Pr) (N4 : NTy k2 Pr) : QD Try.prog T0 86 o14 [(0, false), (1, false), (2, false), (3, false), (4, false), (5, false), (6, false), (7, false), (8, false), (9, false), (10, false), (11, false), (12, false)] (En 86 k5 (B13 P N2 N4)) k2 (B14 P N2 N4) := fun _ _ _ _ _ _ _ _ _ _  => by kernel_rfl
noncomputable def o15 := ob Try.f54 [.r,.r,.r,.l,.r,.l,.l,.r,.l,.l,.r,.l,.l,.l,.l]
def B15 (P : PT) (N2 : NTy k1 Pr) (N4 : NTy k2 Pr) (x1 : Value) (x2 x3 : Int) (x4 : Nat) (x9 x10 : Value) (x11 x12 : Int) (H : AHeap) : Prop :=
  pif (decide ((x12 : Int) < 2)) (B14 P N2 N4 x1 x2 x3 x4 x9 x10 x11 x12 H) (B3 P N2 x1 x2 x3 x4 x9 x10 x11 H)
theorem q15 (P : PT) (N2 : NTy k1 Pr) (N4 : NTy k2 Pr) : QB Try.prog T0 86 o15 (cnd 31 (En 86 k2 (B14 P N2 N4)) (En 86 k1 (B3 P N2))) k2 (B15 P N2 N4) := fun _ _ _ _ _ _ _ _ _ _  => by kernel_rfl
def L4 (P : PT) (N2 : NTy k1 Pr) (x1 : Value) (x2 x3 : Int) (x4 : Nat) (x9 x10 : Value) (x11 x12 : Int) (H : AHeap) : Prop :=
  ∃ (I : NTy k2 Pr) (μ : NTy k2 (AHeap → Nat)), I x1 x2 x3 x4 x9 x10 x11 x12 H ∧ ∀ y1 y2 y3 y4 y9 y10 y11 y12 G, I y1 y2 y3 y4 y9 y10 y11 y12 G → B15 P N2 (fun z1 z2 z3 z4 z9 z10 z11 z12 G' => I z1 z2 z3 z4 z9 z10 z11 z12 G' ∧ μ z1 z2 z3 z4 z9 z10 z11 z12 G' < μ y1 y2 y3 y4 y9 y10 y11 y12 G) y1 y2 y3 y4 y9 y10 y11 y12 G
theorem l4 (P : PT) (N2 : NTy k1 Pr) : LQ k2 (L4 P N2) (B15 P N2) := fun ⟨_,_,_,_,_,_,_,_,_⟩ _ ⟨I, μ, h0, hI⟩ => ⟨apT _ I, apT _ μ, h0, fun ⟨_,_,_,_,_,_,_,_,_⟩ _ h => hI _ _ _ _ _ _ _ _ _  h⟩
noncomputable def o16 := ob Try.f54 [.r,.r,.r,.l,.r,.l,.l,.r,.l,.l,.l]
def B16 (P : PT) (N2 : NTy k1 Pr) (x1 : Value) (x2 x3 : Int) (x4 : Nat) (x9 x10 : Value) (x11 : Int) (H : AHeap) : Prop :=
  L4 P N2 x1 x2 x3 x4 x9 x10 x11 0 H
theorem q16 (P : PT) (N2 : NTy k1 Pr) : QB Try.prog T0 86 o16 (En 86 k2 (L4 P N2)) k1 (B16 P N2) := fun _ _ _ _ _ _ _ _ _  => by kernel_rfl
noncomputable def o17 := ob Try.f54 [.r,.r,.r,.l,.r,.l,.l,.l,.l]
def B17 (P : PT) (N2 : NTy k1 Pr) (x1 : Value) (x2 x3 : Int) (x4 : Nat) (x9 x10 : Value) (x11 : Int) (H : AHeap) : Prop :=
  lenK x10 (fun n1 => pif (decide ((x11 : Int) < (n1 : Int))) (B16 P N2 x1 x2 x3 x4 x9 x10 x11 H) (B1 P x9 H))
theorem q17 (P : PT) (N2 : NTy k1 Pr) : QB Try.prog T0 86 o17 (cnd 27 (En 86 k1 (B16 P N2)) (En 86 k0 (B1 P))) k1 (B17 P N2) := fun _ _ _ _ _ _ _ _ _  => by kernel_rfl
def L2 (P : PT) (x1 : Value) (x2 x3 : Int) (x4 : Nat) (x9 x10 : Value) (x11 : Int) (H : AHeap) : Prop :=
  ∃ (I : NTy k1 Pr) (μ : NTy k1 (AHeap → Nat)), I x1 x2 x3 x4 x9 x10 x11 H ∧ ∀ y1 y2 y3 y4 y9 y10 y11 G, I y1 y2 y3 y4 y9 y10 y11 G → B17 P (fun z1 z2 z3 z4 z9 z10 z11 G' => I z1 z2 z3 z4 z9 z10 z11 G' ∧ μ z1 z2 z3 z4 z9 z10 z11 G' < μ y1 y2 y3 y4 y9 y10 y11 G) y1 y2 y3 y4 y9 y10 y11 G
theorem l2 (P : PT) : LQ k1 (L2 P) (B17 P) := fun ⟨_,_,_,_,_,_,_,_⟩ _ ⟨I, μ, h0, hI⟩ => ⟨apT _ I, apT _ μ, h0, fun ⟨_,_,_,_,_,_,_,_⟩ _ h => hI _ _ _ _ _ _ _ _  h⟩
abbrev k6 : Sk := [(1,.v),(2,.i .i64),(3,.i .i64),(4,.x),(9,.v),(10,.v)]
noncomputable def o18 := ob Try.f54 [.r,.r,.r,.l,.l]
def B18 (P : PT) (x1 : Value) (x2 x3 : Int) (x4 : Nat) (x9 x10 : Value) (H : AHeap) : Prop :=
  L2 P x1 x2 x3 x4 x9 x10 0 H
theorem q18 (P : PT) : QB Try.prog T0 86 o18 (En 86 k1 (L2 P)) k6 (B18 P) := fun _ _ _ _ _ _ _ _  => by kernel_rfl
noncomputable def o19 := ob Try.f54 [.r,.r,.l]
def B19 (P : PT) (x1 : Value) (x2 x3 : Int) (x4 : Nat) (x9 x10 : Value) (H : AHeap) : Prop :=
  idxK x9 x2 1 (fun b1 o2 => stK H b1 o2 [(Value.bool true)] (fun H3 => B18 P x1 x2 x3 x4 x9 x10 H3))
theorem q19 (P : PT) : QB Try.prog T0 86 o19 (En 86 k6 (B18 P)) k6 (B19 P) := fun _ _ _ _ _ _ _ _  => by kernel_rfl
abbrev k7 : Sk := [(1,.v),(2,.i .i64),(3,.i .i64),(4,.x)]
noncomputable def o20 := ob Try.f54 [.r,.l]
def B20 (P : PT) (x1 : Value) (x2 x3 : Int) (x4 : Nat) (H : AHeap) : Prop :=
  lenK x1 (fun n1 => mkR H 1 4 [(Value.bool false)] (n1 : Int) (n1 : Int) (fun v3 H2 => newK H2 [(Value.int .i64 x2)] 2 (fun b4 H5 => B19 P x1 x2 x3 x4 v3 (Value.slice (some ⟨b4, 0, none⟩) 1 (1 + 1)) H5)))
theorem q20 (P : PT) : QB Try.prog T0 86 o20 (En 86 k6 (B19 P)) k7 (B20 P) := fun _ _ _ _ _ _  => by kernel_rfl
abbrev k8 : Sk := [(0,.g [.i,.v]),(1,.v),(2,.i .i64),(3,.i .i64)]
noncomputable def o21 := ob Try.f54 [.l]
def B21 (P : PT) (x0a : Int) (x0b x1 : Value) (x2 x3 : Int) (H : AHeap) : Prop :=
  newK H [(Value.int .i64 x0a), x0b] 31 (fun b1 H2 => B20 P x1 x2 x3 b1 H2)
theorem q21 (P : PT) : QB Try.prog T0 86 o21 (En 86 k7 (B20 P)) k8 (B21 P) := fun _ _ _ _ _ _ _  => by kernel_rfl
noncomputable def code : Code := (.seq (.region 0 ⟨o21⟩ false) (.seq (.region 1 ⟨o20⟩ false) (.seq (.region 2 ⟨o19⟩ false) (.seq (.seq (.region 3 ⟨o18⟩ false) (.block 0 (.loop (.seq (.seq (.region 4 ⟨o17⟩ false) (.cond (.tmp 27) .skip (.exit 0))) (.seq (.block 1 (.seq (.region 6 ⟨o16⟩ false) (.block 2 (.loop (.seq (.seq (.region 7 ⟨o15⟩ false) (.cond (.tmp 31) .skip (.exit 2))) (.seq (.block 3 (.seq (.region 9 ⟨o14⟩ true) (.seq (.region 10 ⟨o13⟩ false) (.block 4 (.loop (.seq (.seq (.region 11 ⟨o12⟩ false) (.cond (.tmp 47) .skip (.exit 4))) (.seq (.block 5 (.seq (.region 13 ⟨o11⟩ false) (.seq (.region 14 ⟨o10⟩ true) (.cond (.tmp 77) (.seq (.region 15 ⟨o9⟩ false) (.region 16 ⟨o8⟩ false)) .skip)))) (.region 12 ⟨o7⟩ false)))))))) (.region 8 ⟨o5⟩ false))))))) (.region 5 ⟨o3⟩ false)))))) (.seq (.region 17 ⟨o1⟩ false) .ret)))))
theorem body : Try.f54.body = some code := by kernel_rfl
theorem main (P : PT) : ∀ env H, (En 86 k8 (B21 P)) env H → AW Try.prog T0 code env H (mkQ (ret P) (fun _ _ _ => False) (ret P)) :=
  (r_seq (rB T0_ok (q21 P)) (r_seq (rB T0_ok (q20 P)) (r_seq (rB T0_ok (q19 P)) (r_seq (r_seq (rB T0_ok (q18 P)) (r_block (rL (l2 P) (fun N2 => (r_seq (r_seq (rB T0_ok (q17 P N2)) (r_cond rfl r_skip (r_exit (fun _ _ h => h)))) (r_seq (r_block (r_seq (rB T0_ok (q16 P N2)) (r_block (rL (l4 P N2) (fun N4 => (r_seq (r_seq (rB T0_ok (q15 P N2 N4)) (r_cond rfl r_skip (r_exit (fun _ _ h => h)))) (r_seq (r_block (r_seq (rD T0_ok mixed [(0, false), (1, false), (2, false), (3, false), (4, false), (5, false), (6, false), (7, false), (8, false), (9, false), (10, false), (11, false), (12, false)] (by kernel_rfl) (q14 P N2 N4)) (r_seq (rB T0_ok (q13 P N2 N4)) (r_block (rL (l6 P N2 N4) (fun N6 => (r_seq (r_seq (rB T0_ok (q12 P N2 N4 N6)) (r_cond rfl r_skip (r_exit (fun _ _ h => h)))) (r_seq (r_block (r_seq (rB T0_ok (q11 P N2 N4 N6)) (r_seq (rD T0_ok mixed [(0, false), (1, false), (2, false), (3, false), (4, false), (5, false), (6, false), (7, false), (8, false), (9, false), (10, false), (11, false), (12, false), (13, false), (14, false), (15, false), (16, false), (17, false), (18, false), (19, false), (20, false), (21, false), (22, false), (23, false)] (by kernel_rfl) (q10 P N2 N4 N6)) (r_cond rfl (r_seq (rB T0_ok (q9 P N2 N4 N6)) (rB T0_ok (q8 P N2 N4 N6))) r_skip)))) (rB T0_ok (q7 P N2 N4 N6)))))))))) (rB T0_ok (q5 P N2 N4))))))))) (rB T0_ok (q3 P N2)))))))) (r_seq (rB T0_ok (q1 P)) r_ret)))))
theorem ac (P : PT) (x0a : Int) (x0b x1 : Value) (x2 x3 : Int) (H : AHeap) (h : B21 P x0a x0b x1 x2 x3 H) : AC Try.prog T0 54 [(Value.agg ⟨[(Value.int .i64 x0a), x0b]⟩), x1, (Value.int .i64 x2), (Value.int .i64 x3)] H P :=
  r_fn T0_ok (c := code) (n := 86) Try.func54 body (by kernel_rfl) (main P) (En_mk (x0a, x0b, x1, x2, x3, ()) (by kernel_rfl) ⟨by kernel_rfl, by kernel_rfl, by kernel_rfl, by kernel_rfl, trivial⟩ h)

end F54
-- loop.example/g01329/impl.chainCode
namespace F55
noncomputable def ret (P : PT) : EP := retE T0 31 Try.f55 P
abbrev k0 : Sk := [(1,.v),(2,.i .i64),(3,.i .i64),(4,.x)]
noncomputable def o1 := ob Try.f55 [.r,.l]
def B1 (P : PT) (x1 : Value) (x2 x3 : Int) (x4 : Nat) (H : AHeap) : Prop :=
  ldI .i64 H x4 0 (fun v1 => ld1 H x4 1 (fun v2 => ldI .i64 H x4 0 (fun v3 => ld1 H x4 1 (fun v4 => AC Try.prog T0 51 [(Value.agg ⟨[(Value.int .i64 v3), v4]⟩), x1] H (fun v5 H6 => asB v5 (fun v7 => (AHeap.le H H6) ∧ (pif v7 (ldI .i64 H6 x4 0 (fun v8 => ld1 H6 x4 1 (fun v9 => AC Try.prog T0 88 [(Value.agg ⟨[(Value.int .i64 v8), v9]⟩), (Value.int .i64 x2)] H6 (fun v10 H11 => asB v10 (fun v12 => (AHeap.le H6 H11) ∧ (pif v12 (AC Try.prog T0 85 [(Value.int .i64 x3)] H11 (fun v13 H14 => asB v13 (fun v15 => (AHeap.le H11 H14) ∧ (pif v15 (idxK x1 x2 1 (fun b16 o17 => ldI .i64 H14 b16 o17 (fun v18 => AC Try.prog T0 39 [(Value.agg ⟨[(Value.int .i64 v1), v2]⟩), (Value.bool ((v18 : Int) != x3))] H14 (fun v19 H20 => asI .i64 v19 (fun v21 => P (Value.int .i64 v21) H20))))) (AC Try.prog T0 39 [(Value.agg ⟨[(Value.int .i64 v1), v2]⟩), (Value.bool false)] H14 (fun v22 H23 => asI .i64 v22 (fun v24 => P (Value.int .i64 v24) H23))))))) (AC Try.prog T0 39 [(Value.agg ⟨[(Value.int .i64 v1), v2]⟩), (Value.bool false)] H11 (fun v25 H26 => asI .i64 v25 (fun v27 => P (Value.int .i64 v27) H26))))))))) (AC Try.prog T0 39 [(Value.agg ⟨[(Value.int .i64 v1), v2]⟩), (Value.bool false)] H6 (fun v28 H29 => asI .i64 v28 (fun v30 => P (Value.int .i64 v30) H29))))))))))
theorem q1 (P : PT) : QD Try.prog T0 31 o1 [(0, false), (1, false), (2, false), (3, true), (4, false), (5, false), (6, false), (7, true), (8, false), (9, false), (10, false), (11, true), (12, false), (13, false), (14, false), (15, false), (16, false), (17, false), (18, false), (19, false), (20, false), (21, false), (22, false)] (ret P) k0 (B1 P) := fun _ _ _ _ _ _  => by kernel_rfl
abbrev k1 : Sk := [(0,.g [.i,.v]),(1,.v),(2,.i .i64),(3,.i .i64)]
noncomputable def o2 := ob Try.f55 [.l]
def B2 (P : PT) (x0a : Int) (x0b x1 : Value) (x2 x3 : Int) (H : AHeap) : Prop :=
  newK H [(Value.int .i64 x0a), x0b] 31 (fun b1 H2 => B1 P x1 x2 x3 b1 H2)
theorem q2 (P : PT) : QB Try.prog T0 31 o2 (En 31 k0 (B1 P)) k1 (B2 P) := fun _ _ _ _ _ _ _  => by kernel_rfl
noncomputable def code : Code := (.seq (.region 0 ⟨o2⟩ false) (.seq (.region 1 ⟨o1⟩ true) .ret))
theorem body : Try.f55.body = some code := by kernel_rfl
theorem main (P : PT) : ∀ env H, (En 31 k1 (B2 P)) env H → AW Try.prog T0 code env H (mkQ (ret P) (fun _ _ _ => False) (ret P)) :=
  (r_seq (rB T0_ok (q2 P)) (r_seq (rD T0_ok mixed [(0, false), (1, false), (2, false), (3, true), (4, false), (5, false), (6, false), (7, true), (8, false), (9, false), (10, false), (11, true), (12, false), (13, false), (14, false), (15, false), (16, false), (17, false), (18, false), (19, false), (20, false), (21, false), (22, false)] (by kernel_rfl) (q1 P)) r_ret))
theorem ac (P : PT) (x0a : Int) (x0b x1 : Value) (x2 x3 : Int) (H : AHeap) (h : B2 P x0a x0b x1 x2 x3 H) : AC Try.prog T0 55 [(Value.agg ⟨[(Value.int .i64 x0a), x0b]⟩), x1, (Value.int .i64 x2), (Value.int .i64 x3)] H P :=
  r_fn T0_ok (c := code) (n := 31) Try.func55 body (by kernel_rfl) (main P) (En_mk (x0a, x0b, x1, x2, x3, ()) (by kernel_rfl) ⟨by kernel_rfl, by kernel_rfl, by kernel_rfl, by kernel_rfl, trivial⟩ h)

end F55
-- (loop.example/g01329/impl.Graph).chain
namespace F56
noncomputable def ret (P : PT) : EP := retE T0 76 Try.f56 P
abbrev k0 : Sk := [(9,.i .u64)]
noncomputable def o1 := ob Try.f56 [.r,.r,.r,.l]
def B1 (P : PT) (x9 : Int) (H : AHeap) : Prop :=
  P (Value.int .u64 x9) H
theorem q1 (P : PT) : QB Try.prog T0 76 o1 (ret P) k0 (B1 P) := fun _ _ _  => by kernel_rfl
abbrev k1 : Sk := [(1,.v),(2,.i .i64),(3,.i .i64),(4,.x),(9,.i .u64),(10,.v)]
noncomputable def o3 := ob Try.f56 [.r,.r,.l,.r,.l,.l,.r,.r]
def B3 (P : PT) (N2 : NTy k1 Pr) (x1 : Value) (x2 x3 : Int) (x4 : Nat) (x9 : Int) (x10 : Value) (H : AHeap) : Prop :=
  sliceK H 2 x10 (some (Value.int .i64 1)) none 1 (fun v1 => N2 x1 x2 x3 x4 x9 v1 H)
theorem q3 (P : PT) (N2 : NTy k1 Pr) : QB Try.prog T0 76 o3 (En 76 k1 N2) k1 (B3 P N2) := fun _ _ _ _ _ _ _ _  => by kernel_rfl
abbrev k2 : Sk := [(1,.v),(2,.i .i64),(3,.i .i64),(4,.x),(9,.i .u64),(10,.v),(30,.g [.i,.i]),(31,.i .i64)]
noncomputable def o5 := ob Try.f56 [.r,.r,.l,.r,.l,.l,.r,.l,.l,.r,.l,.l,.r,.r,.r]
def B5 (P : PT) (N2 : NTy k1 Pr) (N4 : NTy k2 Pr) (x1 : Value) (x2 x3 : Int) (x4 : Nat) (x9 : Int) (x10 : Value) (x30a x30b x31 : Int) (H : AHeap) : Prop :=
  N4 x1 x2 x3 x4 x9 x10 x30a x30b (IntKind.i64.wrap (x31 + 1)) H
theorem q5 (P : PT) (N2 : NTy k1 Pr) (N4 : NTy k2 Pr) : QB Try.prog T0 76 o5 (En 76 k2 N4) k2 (B5 P N2 N4) := fun _ _ _ _ _ _ _ _ _ _ _  => by kernel_rfl
abbrev k3 : Sk := [(1,.v),(2,.i .i64),(3,.i .i64),(4,.x),(9,.i .u64),(10,.v),(30,.g [.i,.i]),(31,.i .i64),(36,.v),(37,.i .i64),(38,.i .i64)]
noncomputable def o7 := ob Try.f56 [.r,.r,.l,.r,.l,.l,.r,.l,.l,.r,.l,.l,.r,.r,.l,.l,.r,.r,.l,.l,.r,.r,.r]
def B7 (P : PT) (N2 : NTy k1 Pr) (N4 : NTy k2 Pr) (N6 : NTy k3 Pr) (x1 : Value) (x2 x3 : Int) (x4 : Nat) (x9 : Int) (x10 : Value) (x30a x30b x31 : Int) (x36 : Value) (x37 x38 : Int) (H : AHeap) : Prop :=
  N6 x1 x2 x3 x4 x9 x10 x30a x30b x31 x36 x37 (IntKind.i64.wrap (x38 + 1)) H
theorem q7 (P : PT) (N2 : NTy k1 Pr) (N4 : NTy k2 Pr) (N6 : NTy k3 Pr) : QB Try.prog T0 76 o7 (En 76 k3 N6) k3 (B7 P N2 N4 N6) := fun _ _ _ _ _ _ _ _ _ _ _ _ _ _  => by kernel_rfl
abbrev k4 : Sk := [(1,.v),(2,.i .i64),(3,.i .i64),(4,.x),(9,.i .u64),(10,.v),(14,.i .i64),(30,.g [.i,.i]),(31,.i .i64),(36,.v),(37,.i .i64),(38,.i .i64)]
noncomputable def o8 := ob Try.f56 [.r,.r,.l,.r,.l,.l,.r,.l,.l,.r,.l,.l,.r,.r,.l,.l,.r,.r,.l,.l,.r,.r,.l,.l,.r,.r,.l,.r]
def B8 (P : PT) (N2 : NTy k1 Pr) (N4 : NTy k2 Pr) (N6 : NTy k3 Pr) (x1 : Value) (x2 x3 : Int) (x4 : Nat) (x9 : Int) (x10 : Value) (x14 x30a x30b x31 : Int) (x36 : Value) (x37 x38 : Int) (H : AHeap) : Prop :=
  newK H [(Value.int .i64 x14)] 2 (fun b1 H2 => apK T0 2 H2 x10 (Value.slice (some ⟨b1, 0, none⟩) 1 (1 + 1)) (fun v3 H4 => B7 P N2 N4 N6 x1 x2 x3 x4 x9 v3 x30a x30b x31 x36 x37 x38 H4))
theorem q8 (P : PT) (N2 : NTy k1 Pr) (N4 : NTy k2 Pr) (N6 : NTy k3 Pr) : QB Try.prog T0 76 o8 (En 76 k3 (B7 P N2 N4 N6)) k4 (B8 P N2 N4 N6) := fun _ _ _ _ _ _ _ _ _ _ _ _ _ _ _  => by kernel_rfl
noncomputable def o9 := ob Try.f56 [.r,.r,.l,.r,.l,.l,.r,.l,.l,.r,.l,.l,.r,.r,.l,.l,.r,.r,.l,.l,.r,.r,.l,.l,.r,.r,.l,.l]
def B9 (P : PT) (N2 : NTy k1 Pr) (N4 : NTy k2 Pr) (N6 : NTy k3 Pr) (x1 : Value) (x2 x3 : Int) (x4 : Nat) (x9 : Int) (x10 : Value) (x14 x30a x30b x31 : Int) (x36 : Value) (x37 x38 : Int) (H : AHeap) : Prop :=
  ((0 : Int) ≤ x14) ∧ (B8 P N2 N4 N6 x1 x2 x3 x4 (IntKind.u64.wrap (BitVec.ofInt 64 x9 ||| BitVec.ofInt 64 (IntKind.u64.wrap (1 * 2 ^ (min (Int.toNat x14) 64)))).toNat) x10 x14 x30a x30b x31 x36 x37 x38 H)
theorem q9 (P : PT) (N2 : NTy k1 Pr) (N4 : NTy k2 Pr) (N6 : NTy k3 Pr) : QB Try.prog T0 76 o9 (En 76 k4 (B8 P N2 N4 N6)) k4 (B9 P N2 N4 N6) := fun _ _ _ _ _ _ _ _ _ _ _ _ _ _ _  => by kernel_rfl
noncomputable def o10 := ob Try.f56 [.r,.r,.l,.r,.l,.l,.r,.l,.l,.r,.l,.l,.r,.r,.l,.l,.r,.r,.l,.l,.r,.r,.l,.l,.r,.l]
def B10 (P : PT) (N2 : NTy k1 Pr) (N4 : NTy k2 Pr) (N6 : NTy k3 Pr) (x1 : Value) (x2 x3 : Int) (x4 : Nat) (x9 : Int) (x10 : Value) (x14 x30a x30b x31 : Int) (x36 : Value) (x37 x38 : Int) (H : AHeap) : Prop :=
  AC Try.prog T0 71 [(Value.int .u64 x9), (Value.int .i64 x14)] H (fun v1 H2 => asB v1 (fun v3 => pif (!v3) (idxK x1 x14 1 (fun b4 o5 => ldI .i64 H2 b4 o5 (fun v6 => idxK x1 x2 1 (fun b7 o8 => ldI .i64 H2 b7 o8 (fun v9 => pif ((v6 : Int) == v9) (B9 P N2 N4 N6 x1 x2 x3 x4 x9 x10 x14 x30a x30b x31 x36 x37 x38 H2) (idxK x1 x14 1 (fun b10 o11 => ldI .i64 H2 b10 o11 (fun v12 => pif ((v12 : Int) == x3) (B9 P N2 N4 N6 x1 x2 x3 x4 x9 x10 x14 x30a x30b x31 x36 x37 x38 H2) (B7 P N2 N4 N6 x1 x2 x3 x4 x9 x10 x30a x30b x31 x36 x37 x38 H2))))))))) (B7 P N2 N4 N6 x1 x2 x3 x4 x9 x10 x30a x30b x31 x36 x37 x38 H2)))
theorem q10 (P : PT) (N2 : NTy k1 Pr) (N4 : NTy k2 Pr) (N6 : NTy k3 Pr) : QD Try.prog T0 76 o10 [(0, false), (1, false), (2, false), (3, false), (4, false), (5, false), (6, false), (7, false), (8, false), (9, false), (10, false), (11, false), (12, false), (13, false), (14, false), (15, false), (16, false), (17, false), (18, false), (19, false), (20, false), (21, false), (22, false)] (cnd 64 (En 76 k4 (B9 P N2 N4 N6)) (En 76 k3 (B7 P N2 N4 N6))) k4 (B10 P N2 N4 N6) := fun _ _ _ _ _ _ _ _ _ _ _ _ _ _ _  => by kernel_rfl
noncomputable def o11 := ob Try.f56 [.r,.r,.l,.r,.l,.l,.r,.l,.l,.r,.l,.l,.r,.r,.l,.l,.r,.r,.l,.l,.r,.r,.l,.l,.l]
def B11 (P : PT) (N2 : NTy k1 Pr) (N4 : NTy k2 Pr) (N6 : NTy k3 Pr) (x1 : Value) (x2 x3 : Int) (x4 : Nat) (x9 : Int) (x10 : Value) (x30a x30b x31 : Int) (x36 : Value) (x37 x38 : Int) (H : AHeap) : Prop :=
  idxK x36 x38 1 (fun b1 o2 => ldI .i64 H b1 o2 (fun v3 => B10 P N2 N4 N6 x1 x2 x3 x4 x9 x10 v3 x30a x30b x31 x36 x37 x38 H))
theorem q11 (P : PT) (N2 : NTy k1 Pr) (N4 : NTy k2 Pr) (N6 : NTy k3 Pr) : QB Try.prog T0 76 o11 (En 76 k4 (B10 P N2 N4 N6)) k3 (B11 P N2 N4 N6) := fun _ _ _ _ _ _ _ _ _ _ _ _ _ _  => by kernel_rfl
noncomputable def o12 := ob Try.f56 [.r,.r,.l,.r,.l,.l,.r,.l,.l,.r,.l,.l,.r,.r,.l,.l,.r,.r,.l,.l,.l]
def B12 (P : PT) (N2 : NTy k1 Pr) (N4 : NTy k2 Pr) (N6 : NTy k3 Pr) (x1 : Value) (x2 x3 : Int) (x4 : Nat) (x9 : Int) (x10 : Value) (x30a x30b x31 : Int) (x36 : Value) (x37 x38 : Int) (H : AHeap) : Prop :=
  pif (decide ((x38 : Int) < x37)) (B11 P N2 N4 N6 x1 x2 x3 x4 x9 x10 x30a x30b x31 x36 x37 x38 H) (B5 P N2 N4 x1 x2 x3 x4 x9 x10 x30a x30b x31 H)
theorem q12 (P : PT) (N2 : NTy k1 Pr) (N4 : NTy k2 Pr) (N6 : NTy k3 Pr) : QB Try.prog T0 76 o12 (cnd 39 (En 76 k3 (B11 P N2 N4 N6)) (En 76 k2 (B5 P N2 N4))) k3 (B12 P N2 N4 N6) := fun _ _ _ _ _ _ _ _ _ _ _ _ _ _  => by kernel_rfl
def L6 (P : PT) (N2 : NTy k1 Pr) (N4 : NTy k2 Pr) (x1 : Value) (x2 x3 : Int) (x4 : Nat) (x9 : Int) (x10 : Value) (x30a x30b x31 : Int) (x36 : Value) (x37 x38 : Int) (H : AHeap) : Prop :=
  ∃ (I : NTy k3 Pr) (μ : NTy k3 (AHeap → Nat)), I x1 x2 x3 x4 x9 x10 x30a x30b x31 x36 x37 x38 H ∧ ∀ y1 y2 y3 y4 y9 y10 y30a y30b y31 y36 y37 y38 G, I y1 y2 y3 y4 y9 y10 y30a y30b y31 y36 y37 y38 G → B12 P N2 N4 (fun z1 z2 z3 z4 z9 z10 z30a z30b z31 z36 z37 z38 G' => I z1 z2 z3 z4 z9 z10 z30a z30b z31 z36 z37 z38 G' ∧ μ z1 z2 z3 z4 z9 z10 z30a z30b z31 z36 z37 z38 G' < μ y1 y2 y3 y4 y9 y10 y30a y30b y31 y36 y37 y38 G) y1 y2 y3 y4 y9 y10 y30a y30b y31 y36 y37 y38 G
theorem l6 (P : PT) (N2 : NTy k1 Pr) (N4 : NTy k2 Pr) : LQ k3 (L6 P N2 N4) (B12 P N2 N4) := fun ⟨_,_,_,_,_,_,_,_,_,_,_,_,_⟩ _ ⟨I, μ, h0, hI⟩ => ⟨apT _ I, apT _ μ, h0, fun ⟨_,_,_,_,_,_,_,_,_,_,_,_,_⟩ _ h => hI _ _ _ _ _ _ _ _ _ _ _ _ _  h⟩
abbrev k5 : Sk := [(1,.v),(2,.i .i64),(3,.i .i64),(4,.x),(9,.i .u64),(10,.v),(12,.i .i64),(30,.g [.i,.i]),(31,.i .i64)]
noncomputable def o13 := ob Try.f56 [.r,.r,.l,.r,.l,.l,.r,.l,.l,.r,.l,.l,.r,.r,.l,.l,.r,.l]
def B13 (P : PT) (N2 : NTy k1 Pr) (N4 : NTy k2 Pr) (x1 : Value) (x2 x3 : Int) (x4 : Nat) (x9 : Int) (x10 : Value) (x12 x30a x30b x31 : Int) (H : AHeap) : Prop :=
  ldI .i64 H x4 0 (fun v1 => ld1 H x4 1 (fun v2 => AC Try.prog T0 89 [(Value.agg ⟨[(Value.int .i64 v1), v2]⟩), (Value.int .i64 x12)] H (fun v3 H4 => lenK v3 (fun n6 => L6 P N2 N4 x1 x2 x3 x4 x9 x10 x30a x30b x31 v3 (n6 : Int) 0 H4))))
theorem q13 (P : PT) (N2 : NTy k1 Pr) (N4 : NTy k2 Pr) : QB Try.prog T0 76 o13 (En 76 k3 (L6 P N2 N4)) k5 (B13 P N2 N4) := fun _ _ _ _ _ _ _ _ _ _ _ _  => by kernel_rfl
noncomputable def o14 := ob Try.f56 [.r,.r,.l,.r,.l,.l,.r,.l,.l,.r,.l,.l,.r,.r,.l,.l,.l]
def B14 (P : PT) (N2 : NTy k1 Pr) (N4 : NTy k2 Pr) (x1 : Value) (x2 x3 : Int) (x4 : Nat) (x9 : Int) (x10 : Value) (x30a x30b x31 : Int) (H : AHeap) : Prop :=
  bndK x31 2 (atK [(Value.int .i64 x30a), (Value.int .i64 x30b)] (Int.toNat x31 * 1) (fun v1 => asI .i64 v1 (fun v2 => B13 P N2 N4 x1 x2 x3 x4 x9 x10 v2 x30a x30b x31 H)))
theorem q14 (P : PT) (N2 : NTy k1 Pr) (N4 : NTy k2 Pr) : QB Try.prog T0 76 o14 (En 76 k5 (B13 P N2 N4)) k2 (B14 P N2 N4) := fun _ _ _ _ _ _ _ _ _ _ _  => by kernel_rfl
noncomputable def o15 := ob Try.f56 [.r,.r,.l,.r,.l,.l,.r,.l,.l,.r,.l,.l,.l]
def B15 (P : PT) (N2 : NTy k1 Pr) (N4 : NTy k2 Pr) (x1 : Value) (x2 x3 : Int) (x4 : Nat) (x9 : Int) (x10 : Value) (x30a x30b x31 : Int) (H : AHeap) : Prop :=
  pif (decide ((x31 : Int) < 2)) (B14 P N2 N4 x1 x2 x3 x4 x9 x10 x30a x30b x31 H) (B3 P N2 x1 x2 x3 x4 x9 x10 H)
theorem q15 (P : PT) (N2 : NTy k1 Pr) (N4 : NTy k2 Pr) : QB Try.prog T0 76 o15 (cnd 32 (En 76 k2 (B14 P N2 N4)) (En 76 k1 (B3 P N2))) k2 (B15 P N2 N4) := fun _ _ _ _ _ _ _ _ _ _ _  => by kernel_rfl
def L4 (P : PT) (N2 : NTy k1 Pr) (x1 : Value) (x2 x3 : Int) (x4 : Nat) (x9 : Int) (x10 : Value) (x30a x30b x31 : Int) (H : AHeap) : Prop :=
  ∃ (I : NTy k2 Pr) (μ : NTy k2 (AHeap → Nat)), I x1 x2 x3 x4 x9 x10 x30a x30b x31 H ∧ ∀ y1 y2 y3 y4 y9 y10 y30a y30b y31 G, I y1 y2 y3 y4 y9 y10 y30a y30b y31 G → B15 P N2 (fun z1 z2 z3 z4 z9 z10 z30a z30b z31 G' => I z1 z2 z3 z4 z9 z10 z30a z30b z31 G' ∧ μ z1 z2 z3 z4 z9 z10 z30a z30b z31 G' < μ y1 y2 y3 y4 y9 y10 y30a y30b y31 G) y1 y2 y3 y4 y9 y10 y30a y30b y31 G
theorem l4 (P : PT) (N2 : NTy k1 Pr) : LQ k2 (L4 P N2) (B15 P N2) := fun ⟨_,_,_,_,_,_,_,_,_,_⟩ _ ⟨I, μ, h0, hI⟩ => ⟨apT _ I, apT _ μ, h0, fun ⟨_,_,_,_,_,_,_,_,_,_⟩ _ h => hI _ _ _ _ _ _ _ _ _ _  h⟩
noncomputable def o16 := ob Try.f56 [.r,.r,.l,.r,.l,.l,.r,.l,.l,.l]
def B16 (P : PT) (N2 : NTy k1 Pr) (x1 : Value) (x2 x3 : Int) (x4 : Nat) (x9 : Int) (x10 : Value) (H : AHeap) : Prop :=
  ld1 H x4 1 (fun v1 => idxK x10 0 1 (fun b2 o3 => ldI .i64 H b2 o3 (fun v4 => idxK v1 v4 2 (fun b5 o6 => ldI .i64 H b5 o6 (fun v7 => ldI .i64 H b5 (o6 + 1) (fun v8 => L4 P N2 x1 x2 x3 x4 x9 x10 v7 v8 0 H))))))
theorem q16 (P : PT) (N2 : NTy k1 Pr) : QD Try.prog T0 76 o16 [(0, false), (1, false), (2, false), (3, false), (4, false), (5, false), (6, false), (7, false)] (En 76 k2 (L4 P N2)) k1 (B16 P N2) := fun _ _ _ _ _ _ _ _  => by kernel_rfl
noncomputable def o17 := ob Try.f56 [.r,.r,.l,.r,.l,.l,.l,.l]
def B17 (P : PT) (N2 : NTy k1 Pr) (x1 : Value) (x2 x3 : Int) (x4 : Nat) (x9 : Int) (x10 : Value) (H : AHeap) : Prop :=
  lenK x10 (fun n1 => pif (decide (((n1 : Int) : Int) > 0)) (B16 P N2 x1 x2 x3 x4 x9 x10 H) (B1 P x9 H))
theorem q17 (P : PT) (N2 : NTy k1 Pr) : QB Try.prog T0 76 o17 (cnd 21 (En 76 k1 (B16 P N2)) (En 76 k0 (B1 P))) k1 (B17 P N2) := fun _ _ _ _ _ _ _ _  => by kernel_rfl
def L2 (P : PT) (x1 : Value) (x2 x3 : Int) (x4 : Nat) (x9 : Int) (x10 : Value) (H : AHeap) : Prop :=
  ∃ (I : NTy k1 Pr) (μ : NTy k1 (AHeap → Nat)), I x1 x2 x3 x4 x9 x10 H ∧ ∀ y1 y2 y3 y4 y9 y10 G, I y1 y2 y3 y4 y9 y10 G → B17 P (fun z1 z2 z3 z4 z9 z10 G' => I z1 z2 z3 z4 z9 z10 G' ∧ μ z1 z2 z3 z4 z9 z10 G' < μ y1 y2 y3 y4 y9 y10 G) y1 y2 y3 y4 y9 y10 G
theorem l2 (P : PT) : LQ k1 (L2 P) (B17 P) := fun ⟨_,_,_,_,_,_,_⟩ _ ⟨I, μ, h0, hI⟩ => ⟨apT _ I, apT _ μ, h0, fun ⟨_,_,_,_,_,_,_⟩ _ h => hI _ _ _ _ _ _ _  h⟩
abbrev k6 : Sk := [(1,.v),(2,.i .i64),(3,.i .i64),(4,.x),(9,.i .u64)]
noncomputable def o18 := ob Try.f56 [.r,.r,.l,.l]
def B18 (P : PT) (x1 : Value) (x2 x3 : Int) (x4 : Nat) (x9 : Int) (H : AHeap) : Prop :=
  newK H [(Value.int .i64 x2)] 2 (fun b1 H2 => L2 P x1 x2 x3 x4 x9 (Value.slice (some ⟨b1, 0, none⟩) 1 (1 + 1)) H2)
theorem q18 (P : PT) : QB Try.prog T0 76 o18 (En 76 k1 (L2 P)) k6 (B18 P) := fun _ _ _ _ _ _ _  => by kernel_rfl
abbrev k7 : Sk := [(1,.v),(2,.i .i64),(3,.i .i64),(4,.x)]
noncomputable def o19 := ob Try.f56 [.r,.l]
def B19 (P : PT) (x1 : Value) (x2 x3 : Int) (x4 : Nat) (H : AHeap) : Prop :=
  ((0 : Int) ≤ x2) ∧ (B18 P x1 x2 x3 x4 (IntKind.u64.wrap (1 * 2 ^ (min (Int.toNat x2) 64))) H)
theorem q19 (P : PT) : QB Try.prog T0 76 o19 (En 76 k6 (B18 P)) k7 (B19 P) := fun _ _ _ _ _ _  => by kernel_rfl
abbrev k8 : Sk := [(0,.g [.i,.v]),(1,.v),(2,.i .i64),(3,.i .i64)]
noncomputable def o20 := ob Try.f56 [.l]
def B20 (P : PT) (x0a : Int) (x0b x1 : Value) (x2 x3 : Int) (H : AHeap) : Prop :=
  newK H [(Value.int .i64 x0a), x0b] 31 (fun b1 H2 => B19 P x1 x2 x3 b1 H2)
theorem q20 (P : PT) : QB Try.prog T0 76 o20 (En 76 k7 (B19 P)) k8 (B20 P) := fun _ _ _ _ _ _ _  => by kernel_rfl
noncomputable def code : Code := (.seq (.region 0 ⟨o20⟩ false) (.seq (.region 1 ⟨o19⟩ false) (.seq (.seq (.region 2 ⟨o18⟩ false) (.block 0 (.loop (.seq (.seq (.region 3 ⟨o17⟩ false) (.cond (.tmp 21) .skip (.exit 0))) (.seq (.block 1 (.seq (.region 5 ⟨o16⟩ true) (.block 2 (.loop (.seq (.region 6 ⟨o15⟩ false) (.seq (.cond (.tmp 32) .skip (.exit 2)) (.seq (.block 3 (.seq (.region 7 ⟨o14⟩ false) (.seq (.region 8 ⟨o13⟩ false) (.block 4 (.loop (.seq (.region 9 ⟨o12⟩ false) (.seq (.cond (.tmp 39) .skip (.exit 4)) (.seq (.block 5 (.seq (.region 10 ⟨o11⟩ false) (.seq (.region 11 ⟨o10⟩ true) (.cond (.tmp 64) (.seq (.region 12 ⟨o9⟩ false) (.region 13 ⟨o8⟩ false)) .skip)))) (.region 14 ⟨o7⟩ false))))))))) (.region 15 ⟨o5⟩ false)))))))) (.region 4 ⟨o3⟩ false)))))) (.seq (.region 16 ⟨o1⟩ false) .ret))))
theorem body : Try.f56.body = some code := by kernel_rfl
theorem main (P : PT) : ∀ env H, (En 76 k8 (B20 P)) env H → AW Try.prog T0 code env H (mkQ (ret P) (fun _ _ _ => False) (ret P)) :=
  (r_seq (rB T0_ok (q20 P)) (r_seq (rB T0_ok (q19 P)) (r_seq (r_seq (rB T0_ok (q18 P)) (r_block (rL (l2 P) (fun N2 => (r_seq (r_seq (rB T0_ok (q17 P N2)) (r_cond rfl r_skip (r_exit (fun _ _ h => h)))) (r_seq (r_block (r_seq (rD T0_ok mixed [(0, false), (1, false), (2, false), (3, false), (4, false), (5, false), (6, false), (7, false)] (by kernel_rfl) (q16 P N2)) (r_block (rL (l4 P N2) (fun N4 => (r_seq (rB T0_ok (q15 P N2 N4)) (r_seq (r_cond rfl r_skip (r_exit (fun _ _ h => h))) (r_seq (r_block (r_seq (rB T0_ok (q14 P N2 N4)) (r_seq (rB T0_ok (q13 P N2 N4)) (r_block (rL (l6 P N2 N4) (fun N6 => (r_seq (rB T0_ok (q12 P N2 N4 N6)) (r_seq (r_cond rfl r_skip (r_exit (fun _ _ h => h))) (r_seq (r_block (r_seq (rB T0_ok (q11 P N2 N4 N6)) (r_seq (rD T0_ok mixed [(0, false), (1, false), (2, false), (3, false), (4, false), (5, false), (6, false), (7, false), (8, false), (9, false), (10, false), (11, false), (12, false), (13, false), (14, false), (15, false), (16, false), (17, false), (18, false), (19, false), (20, false), (21, false), (22, false)] (by kernel_rfl) (q10 P N2 N4 N6)) (r_cond rfl (r_seq (rB T0_ok (q9 P N2 N4 N6)) (rB T0_ok (q8 P N2 N4 N6))) r_skip)))) (rB T0_ok (q7 P N2 N4 N6))))))))))) (rB T0_ok (q5 P N2 N4)))))))))) (rB T0_ok (q3 P N2)))))))) (r_seq (rB T0_ok (q1 P)) r_ret))))
theorem ac (P : PT) (x0a : Int) (x0b x1 : Value) (x2 x3 : Int) (H : AHeap) (h : B20 P x0a x0b x1 x2 x3 H) : AC Try.prog T0 56 [(Value.agg ⟨[(Value.int .i64 x0a), x0b]⟩), x1, (Value.int .i64 x2), (Value.int .i64 x3)] H P :=
  r_fn T0_ok (c := code) (n := 76) Try.func56 body (by kernel_rfl) (main P) (En_mk (x0a, x0b, x1, x2, x3, ()) (by kernel_rfl) ⟨by kernel_rfl, by kernel_rfl, by kernel_rfl, by kernel_rfl, trivial⟩ h)

end F56
-- loop.example/g01329/spec.l02Exchange
namespace F60
noncomputable def ret (P : PT) : EP := retE T0 50 Try.f60 P
abbrev k0 : Sk := [(10,.v)]
noncomputable def o1 := ob Try.f60 [.r,.r,.r,.l]
def B1 (P : PT) (x10 : Value) (H : AHeap) : Prop :=
  P x10 H
theorem q1 (P : PT) : QB Try.prog T0 50 o1 (ret P) k0 (B1 P) := fun _ _ _  => by kernel_rfl
abbrev k1 : Sk := [(1,.v),(2,.i .i64),(3,.i .i64),(9,.v),(10,.v),(11,.i .i64)]
noncomputable def o3 := ob Try.f60 [.r,.r,.l,.r,.l,.l,.r,.r]
def B3 (P : PT) (N2 : NTy k1 Pr) (x1 : Value) (x2 x3 : Int) (x9 x10 : Value) (x11 : Int) (H : AHeap) : Prop :=
  N2 x1 x2 x3 x9 x10 (IntKind.i64.wrap (x11 + 1)) H
theorem q3 (P : PT) (N2 : NTy k1 Pr) : QB Try.prog T0 50 o3 (En 50 k1 N2) k1 (B3 P N2) := fun _ _ _ _ _ _ _ _  => by kernel_rfl
noncomputable def o4 := ob Try.f60 [.r,.r,.l,.r,.l,.l,.r,.l,.l,.r,.l]
def B4 (P : PT) (N2 : NTy k1 Pr) (x1 : Value) (x2 x3 : Int) (x9 x10 : Value) (x11 : Int) (H : AHeap) : Prop :=
  idxK x1 x2 1 (fun b1 o2 => ldI .i64 H b1 o2 (fun v3 => idxK x1 x11 1 (fun b4 o5 => ldI .i64 H b4 o5 (fun v6 => newK H [(Value.int .i64 (IntKind.i64.wrap ((IntKind.i64.wrap (v3 + x3)) - v6)))] 2 (fun b7 H8 => apK T0 2 H8 x10 (Value.slice (some ⟨b7, 0, none⟩) 1 (1 + 1)) (fun v9 H10 => B3 P N2 x1 x2 x3 x9 v9 x11 H10))))))
theorem q4 (P : PT) (N2 : NTy k1 Pr) : QD Try.prog T0 50 o4 [(0, false), (1, false), (2, false), (3, false), (4, false), (5, false), (6, false), (7, false), (8, false), (9, false), (10, false), (11, false), (12, false), (13, false), (14, false)] (En 50 k1 (B3 P N2)) k1 (B4 P N2) := fun _ _ _ _ _ _ _ _  => by kernel_rfl
noncomputable def o5 := ob Try.f60 [.r,.r,.l,.r,.l,.l,.r,.l,.l,.r,.r]
def B5 (P : PT) (N2 : NTy k1 Pr) (x1 : Value) (x2 x3 : Int) (x9 x10 : Value) (x11 : Int) (H : AHeap) : Prop :=
  idxK x1 x11 1 (fun b1 o2 => ldI .i64 H b1 o2 (fun v3 => newK H [(Value.int .i64 v3)] 2 (fun b4 H5 => apK T0 2 H5 x10 (Value.slice (some ⟨b4, 0, none⟩) 1 (1 + 1)) (fun v6 H7 => B3 P N2 x1 x2 x3 x9 v6 x11 H7))))
theorem q5 (P : PT) (N2 : NTy k1 Pr) : QB Try.prog T0 50 o5 (En 50 k1 (B3 P N2)) k1 (B5 P N2) := fun _ _ _ _ _ _ _ _  => by kernel_rfl
noncomputable def o6 := ob Try.f60 [.r,.r,.l,.r,.l,.l,.r,.l,.l,.l]
def B6 (P : PT) (N2 : NTy k1 Pr) (x1 : Value) (x2 x3 : Int) (x9 x10 : Value) (x11 : Int) (H : AHeap) : Prop :=
  idxK x9 x11 1 (fun b1 o2 => ld1 H b1 o2 (fun v4 => asB v4 (fun v3 => pif v3 (B4 P N2 x1 x2 x3 x9 x10 x11 H) (B5 P N2 x1 x2 x3 x9 x10 x11 H))))
theorem q6 (P : PT) (N2 : NTy k1 Pr) : QB Try.prog T0 50 o6 (cnd 27 (En 50 k1 (B4 P N2)) (En 50 k1 (B5 P N2))) k1 (B6 P N2) := fun _ _ _ _ _ _ _ _  => by kernel_rfl
noncomputable def o7 := ob Try.f60 [.r,.r,.l,.r,.l,.l,.l,.l]
def B7 (P : PT) (N2 : NTy k1 Pr) (x1 : Value) (x2 x3 : Int) (x9 x10 : Value) (x11 : Int) (H : AHeap) : Prop :=
  lenK x1 (fun n1 => pif (decide ((x11 : Int) < (n1 : Int))) (B6 P N2 x1 x2 x3 x9 x10 x11 H) (B1 P x10 H))
theorem q7 (P : PT) (N2 : NTy k1 Pr) : QB Try.prog T0 50 o7 (cnd 21 (En 50 k1 (B6 P N2)) (En 50 k0 (B1 P))) k1 (B7 P N2) := fun _ _ _ _ _ _ _ _  => by kernel_rfl
def L2 (P : PT) (x1 : Value) (x2 x3 : Int) (x9 x10 : Value) (x11 : Int) (H : AHeap) : Prop :=
  ∃ (I : NTy k1 Pr) (μ : NTy k1 (AHeap → Nat)), I x1 x2 x3 x9 x10 x11 H ∧ ∀ y1 y2 y3 y9 y10 y11 G, I y1 y2 y3 y9 y10 y11 G → B7 P (fun z1 z2 z3 z9 z10 z11 G' => I z1 z2 z3 z9 z10 z11 G' ∧ μ z1 z2 z3 z9 z10 z11 G' < μ y1 y2 y3 y9 y10 y11 G) y1 y2 y3 y9 y10 y11 G
theorem l2 (P : PT) : LQ k1 (L2 P) (B7 P) := fun ⟨_,_,_,_,_,_,_⟩ _ ⟨I, μ, h0, hI⟩ => ⟨apT _ I, apT _ μ, h0, fun ⟨_,_,_,_,_,_,_⟩ _ h => hI _ _ _ _ _ _ _  h⟩
abbrev k2 : Sk := [(1,.v),(2,.i .i64),(3,.i .i64),(9,.v),(10,.v)]
noncomputable def o8 := ob Try.f60 [.r,.r,.l,.l]
def B8 (P : PT) (x1 : Value) (x2 x3 : Int) (x9 x10 : Value) (H : AHeap) : Prop :=
  L2 P x1 x2 x3 x9 x10 0 H
theorem q8 (P : PT) : QB Try.prog T0 50 o8 (En 50 k1 (L2 P)) k2 (B8 P) := fun _ _ _ _ _ _ _  => by kernel_rfl
abbrev k3 : Sk := [(1,.v),(2,.i .i64),(3,.i .i64),(4,.x)]
noncomputable def o9 := ob Try.f60 [.r,.l]
def B9 (P : PT) (x1 : Value) (x2 x3 : Int) (x4 : Nat) (H : AHeap) : Prop :=
  ldI .i64 H x4 0 (fun v1 => ld1 H x4 1 (fun v2 => AC Try.prog T0 54 [(Value.agg ⟨[(Value.int .i64 v1), v2]⟩), x1, (Value.int .i64 x2), (Value.int .i64 x3)] H (fun v3 H4 => newK H4 [] 2 (fun b6 H7 => B8 P x1 x2 x3 v3 (Value.slice (some ⟨b6, 0, none⟩) 0 (0 + 1)) H7))))
theorem q9 (P : PT) : QB Try.prog T0 50 o9 (En 50 k2 (B8 P)) k3 (B9 P) := fun _ _ _ _ _ _  => by kernel_rfl
abbrev k4 : Sk := [(0,.g [.i,.v]),(1,.v),(2,.i .i64),(3,.i .i64)]
noncomputable def o10 := ob Try.f60 [.l]
def B10 (P : PT) (x0a : Int) (x0b x1 : Value) (x2 x3 : Int) (H : AHeap) : Prop :=
  newK H [(Value.int .i64 x0a), x0b] 31 (fun b1 H2 => B9 P x1 x2 x3 b1 H2)
theorem q10 (P : PT) : QB Try.prog T0 50 o10 (En 50 k3 (B9 P)) k4 (B10 P) := fun _ _ _ _ _ _ _  => by kernel_rfl
noncomputable def code : Code := (.seq (.region 0 ⟨o10⟩ false) (.seq (.region 1 ⟨o9⟩ false) (.seq (.seq (.region 2 ⟨o8⟩ false) (.block 0 (.loop (.seq (.seq (.region 3 ⟨o7⟩ false) (.cond (.tmp 21) .skip (.exit 0))) (.seq (.block 1 (.seq (.region 5 ⟨o6⟩ false) (.cond (.tmp 27) (.region 6 ⟨o4⟩ true) (.region 7 ⟨o5⟩ false)))) (.region 4 ⟨o3⟩ false)))))) (.seq (.region 8 ⟨o1⟩ false) .ret))))
theorem body : Try.f60.body = some code := by kernel_rfl
theorem main (P : PT) : ∀ env H, (En 50 k4 (B10 P)) env H → AW Try.prog T0 code env H (mkQ (ret P) (fun _ _ _ => False) (ret P)) :=
  (r_seq (rB T0_ok (q10 P)) (r_seq (rB T0_ok (q9 P)) (r_seq (r_seq (rB T0_ok (q8 P)) (r_block (rL (l2 P) (fun N2 => (r_seq (r_seq (rB T0_ok (q7 P N2)) (r_cond rfl r_skip (r_exit (fun _ _ h => h)))) (r_seq (r_block (r_seq (rB T0_ok (q6 P N2)) (r_cond rfl (rD T0_ok mixed [(0, false), (1, false), (2, false), (3, false), (4, false), (5, false), (6, false), (7, false), (8, false), (9, false), (10, false), (11, false), (12, false), (13, false), (14, false)] (by kernel_rfl) (q4 P N2)) (rB T0_ok (q5 P N2))))) (rB T0_ok (q3 P N2)))))))) (r_seq (rB T0_ok (q1 P)) r_ret))))
theorem ac (P : PT) (x0a : Int) (x0b x1 : Value) (x2 x3 : Int) (H : AHeap) (h : B10 P x0a x0b x1 x2 x3 H) : AC Try.prog T0 60 [(Value.agg ⟨[(Value.int .i64 x0a), x0b]⟩), x1, (Value.int .i64 x2), (Value.int .i64 x3)] H P :=
  r_fn T0_ok (c := code) (n := 50) Try.func60 body (by kernel_rfl) (main P) (En_mk (x0a, x0b, x1, x2, x3, ()) (by kernel_rfl) ⟨by kernel_rfl, by kernel_rfl, by kernel_rfl, by kernel_rfl, trivial⟩ h)

end F60
-- (loop.example/g01329/impl.Graph).exchanged
namespace F61
noncomputable def ret (P : PT) : EP := retE T0 41 Try.f61 P
abbrev k0 : Sk := [(9,.v)]
noncomputable def o1 := ob Try.f61 [.r,.r,.r,.l]
def B1 (P : PT) (x9 : Value) (H : AHeap) : Prop :=
  P x9 H
theorem q1 (P : PT) : QB Try.prog T0 41 o1 (ret P) k0 (B1 P) := fun _ _ _  => by kernel_rfl
abbrev k1 : Sk := [(1,.v),(2,.i .i64),(3,.i .i64),(9,.v),(19,.v),(20,.i .i64),(21,.i .i64)]
noncomputable def o3 := ob Try.f61 [.r,.r,.l,.r,.l,.l,.r,.r,.r]
def B3 (P : PT) (N2 : NTy k1 Pr) (x1 : Value) (x2 x3 : Int) (x9 x19 : Value) (x20 x21 : Int) (H : AHeap) : Prop :=
  N2 x1 x2 x3 x9 x19 x20 (IntKind.i64.wrap (x21 + 1)) H
theorem q3 (P : PT) (N2 : NTy k1 Pr) : QB Try.prog T0 41 o3 (En 41 k1 N2) k1 (B3 P N2) := fun _ _ _ _ _ _ _ _ _  => by kernel_rfl
abbrev k2 : Sk := [(1,.v),(2,.i .i64),(3,.i .i64),(9,.v),(11,.i .i64),(19,.v),(20,.i .i64),(21,.i .i64)]
noncomputable def o4 := ob Try.f61 [.r,.r,.l,.r,.l,.l,.r,.r,.l,.l,.r]
def B4 (P : PT) (N2 : NTy k1 Pr) (x1 : Value) (x2 x3 : Int) (x9 : Value) (x11 : Int) (x19 : Value) (x20 x21 : Int) (H : AHeap) : Prop :=
  idxK x1 x2 1 (fun b1 o2 => ldI .i64 H b1 o2 (fun v3 => idxK x1 x11 1 (fun b4 o5 => ldI .i64 H b4 o5 (fun v6 => idxK x9 x11 1 (fun b7 o8 => stK H b7 o8 [(Value.int .i64 (IntKind.i64.wrap ((IntKind.i64.wrap (v3 + x3)) - v6)))] (fun H9 => B3 P N2 x1 x2 x3 x9 x19 x20 x21 H9))))))
theorem q4 (P : PT) (N2 : NTy k1 Pr) : QD Try.prog T0 41 o4 [(0, false), (1, false), (2, false), (3, false), (4, false), (5, false), (6, false), (7, false), (8, false), (9, false), (10, false), (11, false), (12, false), (13, false), (14, false)] (En 41 k1 (B3 P N2)) k2 (B4 P N2) := fun _ _ _ _ _ _ _ _ _ _  => by kernel_rfl
noncomputable def o5 := ob Try.f61 [.r,.r,.l,.r,.l,.l,.r,.r,.l,.l,.l]
def B5 (P : PT) (N2 : NTy k1 Pr) (x1 : Value) (x2 x3 : Int) (x9 x19 : Value) (x20 x21 : Int) (H : AHeap) : Prop :=
  idxK x19 x21 1 (fun b1 o2 => ldI .i64 H b1 o2 (fun v3 => B4 P N2 x1 x2 x3 x9 v3 x19 x20 x21 H))
theorem q5 (P : PT) (N2 : NTy k1 Pr) : QB Try.prog T0 41 o5 (En 41 k2 (B4 P N2)) k1 (B5 P N2) := fun _ _ _ _ _ _ _ _ _  => by kernel_rfl
noncomputable def o6 := ob Try.f61 [.r,.r,.l,.r,.l,.l,.l]
def B6 (P : PT) (N2 : NTy k1 Pr) (x1 : Value) (x2 x3 : Int) (x9 x19 : Value) (x20 x21 : Int) (H : AHeap) : Prop :=
  pif (decide ((x21 : Int) < x20)) (B5 P N2 x1 x2 x3 x9 x19 x20 x21 H) (B1 P x9 H)
theorem q6 (P : PT) (N2 : NTy k1 Pr) : QB Try.prog T0 41 o6 (cnd 22 (En 41 k1 (B5 P N2)) (En 41 k0 (B1 P))) k1 (B6 P N2) := fun _ _ _ _ _ _ _ _ _  => by kernel_rfl
def L2 (P : PT) (x1 : Value) (x2 x3 : Int) (x9 x19 : Value) (x20 x21 : Int) (H : AHeap) : Prop :=
  ∃ (I : NTy k1 Pr) (μ : NTy k1 (AHeap → Nat)), I x1 x2 x3 x9 x19 x20 x21 H ∧ ∀ y1 y2 y3 y9 y19 y20 y21 G, I y1 y2 y3 y9 y19 y20 y21 G → B6 P (fun z1 z2 z3 z9 z19 z20 z21 G' => I z1 z2 z3 z9 z19 z20 z21 G' ∧ μ z1 z2 z3 z9 z19 z20 z21 G' < μ y1 y2 y3 y9 y19 y20 y21 G) y1 y2 y3 y9 y19 y20 y21 G
theorem l2 (P : PT) : LQ k1 (L2 P) (B6 P) := fun ⟨_,_,_,_,_,_,_,_⟩ _ ⟨I, μ, h0, hI⟩ => ⟨apT _ I, apT _ μ, h0, fun ⟨_,_,_,_,_,_,_,_⟩ _ h => hI _ _ _ _ _ _ _ _  h⟩
abbrev k3 : Sk := [(1,.v),(2,.i .i64),(3,.i .i64),(4,.x),(9,.v)]
noncomputable def o7 := ob Try.f61 [.r,.r,.l,.l]
def B7 (P : PT) (x1 : Value) (x2 x3 : Int) (x4 : Nat) (x9 : Value) (H : AHeap) : Prop :=
  ldI .i64 H x4 0 (fun v1 => ld1 H x4 1 (fun v2 => AC Try.prog T0 56 [(Value.agg ⟨[(Value.int .i64 v1), v2]⟩), x1, (Value.int .i64 x2), (Value.int .i64 x3)] H (fun v3 H4 => asI .u64 v3 (fun v5 => AC Try.prog T0 43 [(Value.int .u64 v5)] H4 (fun v6 H7 => lenK v6 (fun n9 => L2 P x1 x2 x3 x9 v6 (n9 : Int) 0 H7))))))
theorem q7 (P : PT) : QB Try.prog T0 41 o7 (En 41 k1 (L2 P)) k3 (B7 P) := fun _ _ _ _ _ _ _  => by kernel_rfl
abbrev k4 : Sk := [(1,.v),(2,.i .i64),(3,.i .i64),(4,.x)]
noncomputable def o8 := ob Try.f61 [.r,.l]
def B8 (P : PT) (x1 : Value) (x2 x3 : Int) (x4 : Nat) (H : AHeap) : Prop :=
  AC Try.prog T0 94 [x1] H (fun v1 H2 => B7 P x1 x2 x3 x4 v1 H2)
theorem q8 (P : PT) : QB Try.prog T0 41 o8 (En 41 k3 (B7 P)) k4 (B8 P) := fun _ _ _ _ _ _  => by kernel_rfl
abbrev k5 : Sk := [(0,.g [.i,.v]),(1,.v),(2,.i .i64),(3,.i .i64)]
noncomputable def o9 := ob Try.f61 [.l]
def B9 (P : PT) (x0a : Int) (x0b x1 : Value) (x2 x3 : Int) (H : AHeap) : Prop :=
  newK H [(Value.int .i64 x0a), x0b] 31 (fun b1 H2 => B8 P x1 x2 x3 b1 H2)
theorem q9 (P : PT) : QB Try.prog T0 41 o9 (En 41 k4 (B8 P)) k5 (B9 P) := fun _ _ _ _ _ _ _  => by kernel_rfl
noncomputable def code : Code := (.seq (.region 0 ⟨o9⟩ false) (.seq (.region 1 ⟨o8⟩ false) (.seq (.seq (.region 2 ⟨o7⟩ false) (.block 0 (.loop (.seq (.region 3 ⟨o6⟩ false) (.seq (.cond (.tmp 22) .skip (.exit 0)) (.seq (.block 1 (.seq (.region 4 ⟨o5⟩ false) (.region 5 ⟨o4⟩ true))) (.region 6 ⟨o3⟩ false))))))) (.seq (.region 7 ⟨o1⟩ false) .ret))))
theorem body : Try.f61.body = some code := by kernel_rfl
theorem main (P : PT) : ∀ env H, (En 41 k5 (B9 P)) env H → AW Try.prog T0 code env H (mkQ (ret P) (fun _ _ _ => False) (ret P)) :=
  (r_seq (rB T0_ok (q9 P)) (r_seq (rB T0_ok (q8 P)) (r_seq (r_seq (rB T0_ok (q7 P)) (r_block (rL (l2 P) (fun N2 => (r_seq (rB T0_ok (q6 P N2)) (r_seq (r_cond rfl r_skip (r_exit (fun _ _ h => h))) (r_seq (r_block (r_seq (rB T0_ok (q5 P N2)) (rD T0_ok mixed [(0, false), (1, false), (2, false), (3, false), (4, false), (5, false), (6, false), (7, false), (8, false), (9, false), (10, false), (11, false), (12, false), (13, false), (14, false)] (by kernel_rfl) (q4 P N2)))) (rB T0_ok (q3 P N2))))))))) (r_seq (rB T0_ok (q1 P)) r_ret))))
theorem ac (P : PT) (x0a : Int) (x0b x1 : Value) (x2 x3 : Int) (H : AHeap) (h : B9 P x0a x0b x1 x2 x3 H) : AC Try.prog T0 61 [(Value.agg ⟨[(Value.int .i64 x0a), x0b]⟩), x1, (Value.int .i64 x2), (Value.int .i64 x3)] H P :=
  r_fn T0_ok (c := code) (n := 41) Try.func61 body (by kernel_rfl) (main P) (En_mk (x0a, x0b, x1, x2, x3, ()) (by kernel_rfl) ⟨by kernel_rfl, by kernel_rfl, by kernel_rfl, by kernel_rfl, trivial⟩ h)

end F61
-- loop.example/g01329/spec.l02Code
namespace F62
noncomputable def ret (P : PT) : EP := retE T0 22 Try.f62 P
abbrev k0 : Sk := []
noncomputable def o1 := ob Try.f62 [.r,.r,.r,.l]
def B1 (P : PT) (H : AHeap) : Prop :=
  P (Value.int .i64 0) H
theorem q1 (P : PT) : QB Try.prog T0 22 o1 (ret P) k0 (B1 P) := fun _ _  => by kernel_rfl
abbrev k1 : Sk := [(1,.v),(2,.x),(5,.i .i64)]
noncomputable def o3 := ob Try.f62 [.r,.r,.l,.r,.l,.l,.r,.r]
def B3 (P : PT) (N2 : NTy k1 Pr) (x1 : Value) (x2 : Nat) (x5 : Int) (H : AHeap) : Prop :=
  N2 x1 x2 (IntKind.i64.wrap (x5 + 1)) H
theorem q3 (P : PT) (N2 : NTy k1 Pr) : QB Try.prog T0 22 o3 (En 22 k1 N2) k1 (B3 P N2) := fun _ _ _ _ _  => by kernel_rfl
noncomputable def o4 := ob Try.f62 [.r,.r,.l,.r,.l,.l,.r,.l,.l,.r,.l,.l]
def B4 (P : PT) (N2 : NTy k1 Pr) (H : AHeap) : Prop :=
  P (Value.int .i64 2) H
theorem q4 (P : PT) (N2 : NTy k1 Pr) : QB Try.prog T0 22 o4 (ret P) k0 (B4 P N2) := fun _ _  => by kernel_rfl
noncomputable def o5 := ob Try.f62 [.r,.r,.l,.r,.l,.l,.r,.l,.l,.l]
def B5 (P : PT) (N2 : NTy k1 Pr) (x1 : Value) (x2 : Nat) (x5 : Int) (H : AHeap) : Prop :=
  ldI .i64 H x2 0 (fun v1 => ld1 H x2 1 (fun v2 => idxK x1 x5 1 (fun b3 o4 => ld1 H b3 o4 (fun v5 => AC Try.prog T0 48 [(Value.agg ⟨[(Value.int .i64 v1), v2]⟩), v5] H (fun v6 H7 => asB v6 (fun v8 => pif (!v8) (B4 P N2 H7) (B3 P N2 x1 x2 x5 H7)))))))
theorem q5 (P : PT) (N2 : NTy k1 Pr) : QD Try.prog T0 22 o5 [(0, false), (1, false), (2, false), (3, false), (4, false), (5, false), (6, false)] (cnd 21 (En 22 k0 (B4 P N2)) (En 22 k1 (B3 P N2))) k1 (B5 P N2) := fun _ _ _ _ _  => by kernel_rfl
noncomputable def o6 := ob Try.f62 [.r,.r,.l,.r,.l,.l,.l,.l]
def B6 (P : PT) (N2 : NTy k1 Pr) (x1 : Value) (x2 : Nat) (x5 : Int) (H : AHeap) : Prop :=
  lenK x1 (fun n1 => pif (decide ((x5 : Int) < (n1 : Int))) (B5 P N2 x1 x2 x5 H) (B1 P H))
theorem q6 (P : PT) (N2 : NTy k1 Pr) : QB Try.prog T0 22 o6 (cnd 12 (En 22 k1 (B5 P N2)) (En 22 k0 (B1 P))) k1 (B6 P N2) := fun _ _ _ _ _  => by kernel_rfl
def L2 (P : PT) (x1 : Value) (x2 : Nat) (x5 : Int) (H : AHeap) : Prop :=
  ∃ (I : NTy k1 Pr) (μ : NTy k1 (AHeap → Nat)), I x1 x2 x5 H ∧ ∀ y1 y2 y5 G, I y1 y2 y5 G → B6 P (fun z1 z2 z5 G' => I z1 z2 z5 G' ∧ μ z1 z2 z5 G' < μ y1 y2 y5 G) y1 y2 y5 G
theorem l2 (P : PT) : LQ k1 (L2 P) (B6 P) := fun ⟨_,_,_,_⟩ _ ⟨I, μ, h0, hI⟩ => ⟨apT _ I, apT _ μ, h0, fun ⟨_,_,_,_⟩ _ h => hI _ _ _ _  h⟩
abbrev k2 : Sk := [(1,.v),(2,.x)]
noncomputable def o7 := ob Try.f62 [.r,.r,.l,.l]
def B7 (P : PT) (x1 : Value) (x2 : Nat) (H : AHeap) : Prop :=
  L2 P x1 x2 0 H
theorem q7 (P : PT) : QB Try.prog T0 22 o7 (En 22 k1 (L2 P)) k2 (B7 P) := fun _ _ _ _  => by kernel_rfl
noncomputable def o8 := ob Try.f62 [.r,.l,.r,.l,.l]
def B8 (P : PT) (H : AHeap) : Prop :=
  P (Value.int .i64 1) H
theorem q8 (P : PT) : QB Try.prog T0 22 o8 (ret P) k0 (B8 P) := fun _ _  => by kernel_rfl
noncomputable def o9 := ob Try.f62 [.r,.l,.l]
def B9 (P : PT) (x1 : Value) (x2 : Nat) (H : AHeap) : Prop :=
  ldI .i64 H x2 0 (fun v1 => ld1 H x2 1 (fun v2 => AC Try.prog T0 47 [(Value.agg ⟨[(Value.int .i64 v1), v2]⟩)] H (fun v3 H4 => asB v3 (fun v5 => pif (!v5) (B8 P H4) (B7 P x1 x2 H4)))))
theorem q9 (P : PT) : QB Try.prog T0 22 o9 (cnd 8 (En 22 k0 (B8 P)) (En 22 k2 (B7 P))) k2 (B9 P) := fun _ _ _ _  => by kernel_rfl
abbrev k3 : Sk := [(0,.g [.i,.v]),(1,.v)]
noncomputable def o10 := ob Try.f62 [.l]
def B10 (P : PT) (x0a : Int) (x0b x1 : Value) (H : AHeap) : Prop :=
  newK H [(Value.int .i64 x0a), x0b] 31 (fun b1 H2 => B9 P x1 b1 H2)
theorem q10 (P : PT) : QB Try.prog T0 22 o10 (En 22 k2 (B9 P)) k3 (B10 P) := fun _ _ _ _ _  => by kernel_rfl
noncomputable def code : Code := (.seq (.region 0 ⟨o10⟩ false) (.seq (.seq (.region 1 ⟨o9⟩ false) (.cond (.tmp 8) (.seq (.region 2 ⟨o8⟩ false) .ret) .skip)) (.seq (.seq (.region 3 ⟨o7⟩ false) (.block 0 (.loop (.seq (.seq (.region 4 ⟨o6⟩ false) (.cond (.tmp 12) .skip (.exit 0))) (.seq (.block 1 (.seq (.region 6 ⟨o5⟩ true) (.cond (.tmp 21) (.seq (.region 7 ⟨o4⟩ false) .ret) .skip))) (.region 5 ⟨o3⟩ false)))))) (.seq (.region 8 ⟨o1⟩ false) .ret))))
theorem body : Try.f62.body = some code := by kernel_rfl
theorem main (P : PT) : ∀ env H, (En 22 k3 (B10 P)) env H → AW Try.prog T0 code env H (mkQ (ret P) (fun _ _ _ => False) (ret P)) :=
  (r_seq (rB T0_ok (q10 P)) (r_seq (r_seq (rB T0_ok (q9 P)) (r_cond rfl (r_seq (rB T0_ok (q8 P)) r_ret) r_skip)) (r_seq (r_seq (rB T0_ok (q7 P)) (r_block (rL (l2 P) (fun N2 => (r_seq (r_seq (rB T0_ok (q6 P N2)) (r_cond rfl r_skip (r_exit (fun _ _ h => h)))) (r_seq (r_block (r_seq (rD T0_ok mixed [(0, false), (1, false), (2, false), (3, false), (4, false), (5, false), (6, false)] (by kernel_rfl) (q5 P N2)) (r_cond rfl (r_seq (rB T0_ok (q4 P N2)) r_ret) r_skip))) (rB T0_ok (q3 P N2)))))))) (r_seq (rB T0_ok (q1 P)) r_ret))))
theorem ac (P : PT) (x0a : Int) (x0b x1 : Value) (H : AHeap) (h : B10 P x0a x0b x1 H) : AC Try.prog T0 62 [(Value.agg ⟨[(Value.int .i64 x0a), x0b]⟩), x1] H P :=
  r_fn T0_ok (c := code) (n := 22) Try.func62 body (by kernel_rfl) (main P) (En_mk (x0a, x0b, x1, ()) (by kernel_rfl) ⟨by kernel_rfl, by kernel_rfl, trivial⟩ h)

end F62
-- loop.example/g01329/spec.l01Own
namespace F63
noncomputable def ret (P : PT) : EP := retE T0 6 Try.f63 P
abbrev k0 : Sk := [(0,.v)]
noncomputable def o1 := ob Try.f63 [.r,.l]
def B1 (P : PT) (x0 : Value) (H : AHeap) : Prop :=
  newK H [] 2 (fun b1 H2 => apK T0 2 H2 (Value.slice (some ⟨b1, 0, none⟩) 0 (0 + 1)) x0 (fun v3 H4 => P v3 H4))
theorem q1 (P : PT) : QB Try.prog T0 6 o1 (ret P) k0 (B1 P) := fun _ _ _  => by kernel_rfl
noncomputable def o2 := ob Try.f63 [.l]
def B2 (P : PT) (x0 : Value) (H : AHeap) : Prop :=
  B1 P x0 H
theorem q2 (P : PT) : QB Try.prog T0 6 o2 (En 6 k0 (B1 P)) k0 (B2 P) := fun _ _ _  => by kernel_rfl
noncomputable def code : Code := (.seq (.region 0 ⟨o2⟩ false) (.seq (.region 1 ⟨o1⟩ false) .ret))
theorem body : Try.f63.body = some code := by kernel_rfl
theorem main (P : PT) : ∀ env H, (En 6 k0 (B2 P)) env H → AW Try.prog T0 code env H (mkQ (ret P) (fun _ _ _ => False) (ret P)) :=
  (r_seq (rB T0_ok (q2 P)) (r_seq (rB T0_ok (q1 P)) r_ret))
theorem ac (P : PT) (x0 : Value) (H : AHeap) (h : B2 P x0 H) : AC Try.prog T0 63 [x0] H P :=
  r_fn T0_ok (c := code) (n := 6) Try.func63 body (by kernel_rfl) (main P) (En_mk (x0, ()) (by kernel_rfl) ⟨by kernel_rfl, trivial⟩ h)

end F63
-- loop.example/g01329/spec.l03Set
namespace F68
noncomputable def ret (P : PT) : EP := retE T0 36 Try.f68 P
abbrev k0 : Sk := []
noncomputable def o1 := ob Try.f68 [.r,.r,.l]
def B1 (P : PT) (H : AHeap) : Prop :=
  P (Value.int .i64 0) H
theorem q1 (P : PT) : QB Try.prog T0 36 o1 (ret P) k0 (B1 P) := fun _ _  => by kernel_rfl
abbrev k1 : Sk := [(0,.v),(1,.i .i64),(5,.i .i64)]
noncomputable def o3 := ob Try.f68 [.r,.l,.r,.l,.l,.r,.r]
def B3 (P : PT) (N2 : NTy k1 Pr) (x0 : Value) (x1 x5 : Int) (H : AHeap) : Prop :=
  N2 x0 x1 (IntKind.i64.wrap (x5 + 1)) H
theorem q3 (P : PT) (N2 : NTy k1 Pr) : QB Try.prog T0 36 o3 (En 36 k1 N2) k1 (B3 P N2) := fun _ _ _ _ _  => by kernel_rfl
noncomputable def o4 := ob Try.f68 [.r,.l,.r,.l,.l,.r,.l,.l,.r,.l,.l]
def B4 (P : PT) (N2 : NTy k1 Pr) (H : AHeap) : Prop :=
  P (Value.int .i64 2) H
theorem q4 (P : PT) (N2 : NTy k1 Pr) : QB Try.prog T0 36 o4 (ret P) k0 (B4 P N2) := fun _ _  => by kernel_rfl
noncomputable def o5 := ob Try.f68 [.r,.l,.r,.l,.l,.r,.l,.l,.l]
def B5 (P : PT) (N2 : NTy k1 Pr) (x0 : Value) (x1 x5 : Int) (H : AHeap) : Prop :=
  idxK x0 x5 1 (fun b1 o2 => ldI .i64 H b1 o2 (fun v3 => AC Try.prog T0 76 [(Value.int .i64 v3), (Value.int .i64 0), (Value.int .i64 (IntKind.i64.wrap (x1 - 1)))] H (fun v4 H5 => asB v4 (fun v6 => pif (!v6) (B4 P N2 H5) (pif (decide ((x5 : Int) > 0)) (idxK x0 x5 1 (fun b7 o8 => ldI .i64 H5 b7 o8 (fun v9 => idxK x0 (IntKind.i64.wrap (x5 - 1)) 1 (fun b10 o11 => ldI .i64 H5 b10 o11 (fun v12 => pif (decide ((v9 : Int) ≤ v12)) (B4 P N2 H5) (B3 P N2 x0 x1 x5 H5)))))) (B3 P N2 x0 x1 x5 H5))))))
theorem q5 (P : PT) (N2 : NTy k1 Pr) : QD Try.prog T0 36 o5 [(0, false), (1, false), (2, false), (3, false), (4, false), (5, false), (6, false), (7, false), (8, false), (9, false), (10, false), (11, false), (12, false), (13, false), (14, false), (15, false), (16, false), (17, false), (18, false), (19, false), (20, false), (21, false), (22, false), (23, false)] (cnd 35 (En 36 k0 (B4 P N2)) (En 36 k1 (B3 P N2))) k1 (B5 P N2) := fun _ _ _ _ _  => by kernel_rfl
noncomputable def o6 := ob Try.f68 [.r,.l,.r,.l,.l,.l,.l]
def B6 (P : PT) (N2 : NTy k1 Pr) (x0 : Value) (x1 x5 : Int) (H : AHeap) : Prop :=
  lenK x0 (fun n1 => pif (decide ((x5 : Int) < (n1 : Int))) (B5 P N2 x0 x1 x5 H) (B1 P H))
theorem q6 (P : PT) (N2 : NTy k1 Pr) : QB Try.prog T0 36 o6 (cnd 9 (En 36 k1 (B5 P N2)) (En 36 k0 (B1 P))) k1 (B6 P N2) := fun _ _ _ _ _  => by kernel_rfl
def L2 (P : PT) (x0 : Value) (x1 x5 : Int) (H : AHeap) : Prop :=
  ∃ (I : NTy k1 Pr) (μ : NTy k1 (AHeap → Nat)), I x0 x1 x5 H ∧ ∀ y0 y1 y5 G, I y0 y1 y5 G → B6 P (fun z0 z1 z5 G' => I z0 z1 z5 G' ∧ μ z0 z1 z5 G' < μ y0 y1 y5 G) y0 y1 y5 G
theorem l2 (P : PT) : LQ k1 (L2 P) (B6 P) := fun ⟨_,_,_,_⟩ _ ⟨I, μ, h0, hI⟩ => ⟨apT _ I, apT _ μ, h0, fun ⟨_,_,_,_⟩ _ h => hI _ _ _ _  h⟩
abbrev k2 : Sk := [(0,.v),(1,.i .i64)]
noncomputable def o7 := ob Try.f68 [.r,.l,.l]
def B7 (P : PT) (x0 : Value) (x1 : Int) (H : AHeap) : Prop :=
  L2 P x0 x1 0 H
theorem q7 (P : PT) : QB Try.prog T0 36 o7 (En 36 k1 (L2 P)) k2 (B7 P) := fun _ _ _ _  => by kernel_rfl
noncomputable def o8 := ob Try.f68 [.l]
def B8 (P : PT) (x0 : Value) (x1 : Int) (H : AHeap) : Prop :=
  B7 P x0 x1 H
theorem q8 (P : PT) : QB Try.prog T0 36 o8 (En 36 k2 (B7 P)) k2 (B8 P) := fun _ _ _ _  => by kernel_rfl
noncomputable def code : Code := (.seq (.region 0 ⟨o8⟩ false) (.seq (.seq (.region 1 ⟨o7⟩ false) (.block 0 (.loop (.seq (.seq (.region 2 ⟨o6⟩ false) (.cond (.tmp 9) .skip (.exit 0))) (.seq (.block 1 (.seq (.region 4 ⟨o5⟩ true) (.cond (.tmp 35) (.seq (.region 5 ⟨o4⟩ false) .ret) .skip))) (.region 3 ⟨o3⟩ false)))))) (.seq (.region 6 ⟨o1⟩ false) .ret)))
theorem body : Try.f68.body = some code := by kernel_rfl
theorem main (P : PT) : ∀ env H, (En 36 k2 (B8 P)) env H → AW Try.prog T0 code env H (mkQ (ret P) (fun _ _ _ => False) (ret P)) :=
  (r_seq (rB T0_ok (q8 P)) (r_seq (r_seq (rB T0_ok (q7 P)) (r_block (rL (l2 P) (fun N2 => (r_seq (r_seq (rB T0_ok (q6 P N2)) (r_cond rfl r_skip (r_exit (fun _ _ h => h)))) (r_seq (r_block (r_seq (rD T0_ok mixed [(0, false), (1, false), (2, false), (3, false), (4, false), (5, false), (6, false), (7, false), (8, false), (9, false), (10, false), (11, false), (12, false), (13, false), (14, false), (15, false), (16, false), (17, false), (18, false), (19, false), (20, false), (21, false), (22, false), (23, false)] (by kernel_rfl) (q5 P N2)) (r_cond rfl (r_seq (rB T0_ok (q4 P N2)) r_ret) r_skip))) (rB T0_ok (q3 P N2)))))))) (r_seq (rB T0_ok (q1 P)) r_ret)))
theorem ac (P : PT) (x0 : Value) (x1 : Int) (H : AHeap) (h : B8 P x0 x1 H) : AC Try.prog T0 68 [x0, (Value.int .i64 x1)] H P :=
  r_fn T0_ok (c := code) (n := 36) Try.func68 body (by kernel_rfl) (main P) (En_mk (x0, x1, ()) (by kernel_rfl) ⟨by kernel_rfl, by kernel_rfl, trivial⟩ h)

end F68
-- loop.example/g01329/laws.toEdge
namespace F69
noncomputable def ret (P : PT) : EP := retE T0 15 Try.f69 P
abbrev k0 : Sk := [(2,.x),(3,.x)]
noncomputable def o1 := ob Try.f69 [.r,.r,.r,.l]
def B1 (P : PT) (x2 x3 : Nat) (H : AHeap) : Prop :=
  ldI .i64 H x3 0 (fun v1 => ldI .i64 H x3 1 (fun v2 => stK H x2 0 [(Value.int .i64 v1), (Value.int .i64 v2)] (fun H3 => ldI .i64 H3 x2 0 (fun v4 => ldI .i64 H3 x2 1 (fun v5 => P (Value.agg ⟨[(Value.int .i64 v4), (Value.int .i64 v5)]⟩) H3)))))
theorem q1 (P : PT) : QB Try.prog T0 15 o1 (ret P) k0 (B1 P) := fun _ _ _ _  => by kernel_rfl
abbrev k1 : Sk := [(1,.x),(2,.x),(3,.x),(4,.i .i64)]
noncomputable def o3 := ob Try.f69 [.r,.r,.l,.r,.l,.l,.r,.r]
def B3 (P : PT) (N2 : NTy k1 Pr) (x1 x2 x3 : Nat) (x4 : Int) (H : AHeap) : Prop :=
  N2 x1 x2 x3 (IntKind.i64.wrap (x4 + 1)) H
theorem q3 (P : PT) (N2 : NTy k1 Pr) : QB Try.prog T0 15 o3 (En 15 k1 N2) k1 (B3 P N2) := fun _ _ _ _ _ _  => by kernel_rfl
noncomputable def o4 := ob Try.f69 [.r,.r,.l,.r,.l,.l,.r,.l,.l]
def B4 (P : PT) (N2 : NTy k1 Pr) (x1 x2 x3 : Nat) (x4 : Int) (H : AHeap) : Prop :=
  bndK x4 2 (ldI .i64 H x1 (0 + Int.toNat x4 * 1) (fun v1 => bndK x4 2 (stK H x3 (0 + Int.toNat x4 * 1) [(Value.int .i64 v1)] (fun H2 => B3 P N2 x1 x2 x3 x4 H2))))
theorem q4 (P : PT) (N2 : NTy k1 Pr) : QB Try.prog T0 15 o4 (En 15 k1 (B3 P N2)) k1 (B4 P N2) := fun _ _ _ _ _ _  => by kernel_rfl
noncomputable def o5 := ob Try.f69 [.r,.r,.l,.r,.l,.l,.l,.l]
def B5 (P : PT) (N2 : NTy k1 Pr) (x1 x2 x3 : Nat) (x4 : Int) (H : AHeap) : Prop :=
  pif (decide ((x4 : Int) < 2)) (B4 P N2 x1 x2 x3 x4 H) (B1 P x2 x3 H)
theorem q5 (P : PT) (N2 : NTy k1 Pr) : QB Try.prog T0 15 o5 (cnd 6 (En 15 k1 (B4 P N2)) (En 15 k0 (B1 P))) k1 (B5 P N2) := fun _ _ _ _ _ _  => by kernel_rfl
def L2 (P : PT) (x1 x2 x3 : Nat) (x4 : Int) (H : AHeap) : Prop :=
  ∃ (I : NTy k1 Pr) (μ : NTy k1 (AHeap → Nat)), I x1 x2 x3 x4 H ∧ ∀ y1 y2 y3 y4 G, I y1 y2 y3 y4 G → B5 P (fun z1 z2 z3 z4 G' => I z1 z2 z3 z4 G' ∧ μ z1 z2 z3 z4 G' < μ y1 y2 y3 y4 G) y1 y2 y3 y4 G
theorem l2 (P : PT) : LQ k1 (L2 P) (B5 P) := fun ⟨_,_,_,_,_⟩ _ ⟨I, μ, h0, hI⟩ => ⟨apT _ I, apT _ μ, h0, fun ⟨_,_,_,_,_⟩ _ h => hI _ _ _ _ _  h⟩
abbrev k2 : Sk := [(1,.x),(2,.x),(3,.x)]
noncomputable def o6 := ob Try.f69 [.r,.r,.l,.l]
def B6 (P : PT) (x1 x2 x3 : Nat) (H : AHeap) : Prop :=
  L2 P x1 x2 x3 0 H
theorem q6 (P : PT) : QB Try.prog T0 15 o6 (En 15 k1 (L2 P)) k2 (B6 P) := fun _ _ _ _ _  => by kernel_rfl
abbrev k3 : Sk := [(1,.x),(2,.x)]
noncomputable def o7 := ob Try.f69 [.r,.l]
def B7 (P : PT) (x1 x2 : Nat) (H : AHeap) : Prop :=
  newK H [(Value.int .i64 0), (Value.int .i64 0)] 62 (fun b1 H2 => B6 P x1 x2 b1 H2)
theorem q7 (P : PT) : QB Try.prog T0 15 o7 (En 15 k2 (B6 P)) k3 (B7 P) := fun _ _ _ _  => by kernel_rfl
abbrev k4 : Sk := [(0,.g [.i,.i])]
noncomputable def o8 := ob Try.f69 [.l]
def B8 (P : PT) (x0a x0b : Int) (H : AHeap) : Prop :=
  newK H [(Value.int .i64 x0a), (Value.int .i64 x0b)] 61 (fun b1 H2 => newK H2 [(Value.int .i64 0), (Value.int .i64 0)] 62 (fun b3 H4 => B7 P b1 b3 H4))
theorem q8 (P : PT) : QB Try.prog T0 15 o8 (En 15 k3 (B7 P)) k4 (B8 P) := fun _ _ _ _  => by kernel_rfl
noncomputable def code : Code := (.seq (.region 0 ⟨o8⟩ false) (.seq (.region 1 ⟨o7⟩ false) (.seq (.seq (.region 2 ⟨o6⟩ false) (.block 0 (.loop (.seq (.seq (.region 3 ⟨o5⟩ false) (.cond (.tmp 6) .skip (.exit 0))) (.seq (.block 1 (.region 5 ⟨o4⟩ false)) (.region 4 ⟨o3⟩ false)))))) (.seq (.region 6 ⟨o1⟩ false) .ret))))
theorem body : Try.f69.body = some code := by kernel_rfl
theorem main (P : PT) : ∀ env H, (En 15 k4 (B8 P)) env H → AW Try.prog T0 code env H (mkQ (ret P) (fun _ _ _ => False) (ret P)) :=
  (r_seq (rB T0_ok (q8 P)) (r_seq (rB T0_ok (q7 P)) (r_seq (r_seq (rB T0_ok (q6 P)) (r_block (rL (l2 P) (fun N2 => (r_seq (r_seq (rB T0_ok (q5 P N2)) (r_cond rfl r_skip (r_exit (fun _ _ h => h)))) (r_seq (r_block (rB T0_ok (q4 P N2))) (rB T0_ok (q3 P N2)))))))) (r_seq (rB T0_ok (q1 P)) r_ret))))
theorem ac (P : PT) (x0a x0b : Int) (H : AHeap) (h : B8 P x0a x0b H) : AC Try.prog T0 69 [(Value.agg ⟨[(Value.int .i64 x0a), (Value.int .i64 x0b)]⟩)] H P :=
  r_fn T0_ok (c := code) (n := 15) Try.func69 body (by kernel_rfl) (main P) (En_mk (x0a, x0b, ()) (by kernel_rfl) ⟨by kernel_rfl, trivial⟩ h)

end F69
-- loop.example/g01329/impl.within
namespace F70
noncomputable def ret (P : PT) : EP := retE T0 15 Try.f70 P
abbrev k0 : Sk := [(0,.i .i64),(1,.i .i64),(2,.i .i64)]
noncomputable def o1 := ob Try.f70 [.r,.l]
def B1 (P : PT) (x0 x1 x2 : Int) (H : AHeap) : Prop :=
  pif (decide ((x1 : Int) ≤ x0)) (P (Value.bool (decide ((x0 : Int) ≤ x2))) H) (P (Value.bool false) H)
theorem q1 (P : PT) : QB Try.prog T0 15 o1 (ret P) k0 (B1 P) := fun _ _ _ _ _  => by kernel_rfl
noncomputable def o2 := ob Try.f70 [.l]
def B2 (P : PT) (x0 x1 x2 : Int) (H : AHeap) : Prop :=
  B1 P x0 x1 x2 H
theorem q2 (P : PT) : QB Try.prog T0 15 o2 (En 15 k0 (B1 P)) k0 (B2 P) := fun _ _ _ _ _  => by kernel_rfl
noncomputable def code : Code := (.seq (.region 0 ⟨o2⟩ false) (.seq (.region 1 ⟨o1⟩ false) .ret))
theorem body : Try.f70.body = some code := by kernel_rfl
theorem main (P : PT) : ∀ env H, (En 15 k0 (B2 P)) env H → AW Try.prog T0 code env H (mkQ (ret P) (fun _ _ _ => False) (ret P)) :=
  (r_seq (rB T0_ok (q2 P)) (r_seq (rB T0_ok (q1 P)) r_ret))
theorem ac (P : PT) (x0 x1 x2 : Int) (H : AHeap) (h : B2 P x0 x1 x2 H) : AC Try.prog T0 70 [(Value.int .i64 x0), (Value.int .i64 x1), (Value.int .i64 x2)] H P :=
  r_fn T0_ok (c := code) (n := 15) Try.func70 body (by kernel_rfl) (main P) (En_mk (x0, x1, x2, ()) (by kernel_rfl) ⟨by kernel_rfl, by kernel_rfl, by kernel_rfl, trivial⟩ h)

end F70
-- (loop.example/g01329/impl.set).has
namespace F71
noncomputable def ret (P : PT) : EP := retE T0 10 Try.f71 P
abbrev k0 : Sk := [(0,.i .u64),(1,.i .i64)]
noncomputable def o1 := ob Try.f71 [.r,.l]
def B1 (P : PT) (x0 x1 : Int) (H : AHeap) : Prop :=
  ((0 : Int) ≤ x1) ∧ (P (Value.bool ((IntKind.u64.wrap (BitVec.ofInt 64 (Int.fdiv x0 (2 ^ (min (Int.toNat x1) 64))) &&& BitVec.ofInt 64 1).toNat : Int) == 1)) H)
theorem q1 (P : PT) : QB Try.prog T0 10 o1 (ret P) k0 (B1 P) := fun _ _ _ _  => by kernel_rfl
noncomputable def o2 := ob Try.f71 [.l]
def B2 (P : PT) (x0 x1 : Int) (H : AHeap) : Prop :=
  B1 P x0 x1 H
theorem q2 (P : PT) : QB Try.prog T0 10 o2 (En 10 k0 (B1 P)) k0 (B2 P) := fun _ _ _ _  => by kernel_rfl
noncomputable def code : Code := (.seq (.region 0 ⟨o2⟩ false) (.seq (.region 1 ⟨o1⟩ false) .ret))
theorem body : Try.f71.body = some code := by kernel_rfl
theorem main (P : PT) : ∀ env H, (En 10 k0 (B2 P)) env H → AW Try.prog T0 code env H (mkQ (ret P) (fun _ _ _ => False) (ret P)) :=
  (r_seq (rB T0_ok (q2 P)) (r_seq (rB T0_ok (q1 P)) r_ret))
theorem ac (P : PT) (x0 x1 : Int) (H : AHeap) (h : B2 P x0 x1 H) : AC Try.prog T0 71 [(Value.int .u64 x0), (Value.int .i64 x1)] H P :=
  r_fn T0_ok (c := code) (n := 10) Try.func71 body (by kernel_rfl) (main P) (En_mk (x0, x1, ()) (by kernel_rfl) ⟨by kernel_rfl, by kernel_rfl, trivial⟩ h)

end F71
-- loop.example/g01329/laws.eqEdge
namespace F72
noncomputable def ret (P : PT) : EP := retE T0 17 Try.f72 P
abbrev k0 : Sk := []
noncomputable def o1 := ob Try.f72 [.r,.r,.l]
def B1 (P : PT) (H : AHeap) : Prop :=
  P (Value.bool true) H
theorem q1 (P : PT) : QB Try.prog T0 17 o1 (ret P) k0 (B1 P) := fun _ _  => by kernel_rfl
abbrev k1 : Sk := [(2,.x),(3,.x),(5,.i .i64)]
noncomputable def o3 := ob Try.f72 [.r,.l,.r,.l,.l,.r,.r]
def B3 (P : PT) (N2 : NTy k1 Pr) (x2 x3 : Nat) (x5 : Int) (H : AHeap) : Prop :=
  N2 x2 x3 (IntKind.i64.wrap (x5 + 1)) H
theorem q3 (P : PT) (N2 : NTy k1 Pr) : QB Try.prog T0 17 o3 (En 17 k1 N2) k1 (B3 P N2) := fun _ _ _ _ _  => by kernel_rfl
noncomputable def o4 := ob Try.f72 [.r,.l,.r,.l,.l,.r,.l,.l,.r,.l,.l]
def B4 (P : PT) (N2 : NTy k1 Pr) (H : AHeap) : Prop :=
  P (Value.bool false) H
theorem q4 (P : PT) (N2 : NTy k1 Pr) : QB Try.prog T0 17 o4 (ret P) k0 (B4 P N2) := fun _ _  => by kernel_rfl
noncomputable def o5 := ob Try.f72 [.r,.l,.r,.l,.l,.r,.l,.l,.l]
def B5 (P : PT) (N2 : NTy k1 Pr) (x2 x3 : Nat) (x5 : Int) (H : AHeap) : Prop :=
  bndK x5 2 (ldI .i64 H x2 (0 + Int.toNat x5 * 1) (fun v1 => bndK x5 2 (ldI .i64 H x3 (0 + Int.toNat x5 * 1) (fun v2 => pif ((v1 : Int) != v2) (B4 P N2 H) (B3 P N2 x2 x3 x5 H)))))
theorem q5 (P : PT) (N2 : NTy k1 Pr) : QD Try.prog T0 17 o5 [(0, false), (1, false), (2, false), (3, false), (4, false), (5, false), (6, false)] (cnd 16 (En 17 k0 (B4 P N2)) (En 17 k1 (B3 P N2))) k1 (B5 P N2) := fun _ _ _ _ _  => by kernel_rfl
noncomputable def o6 := ob Try.f72 [.r,.l,.r,.l,.l,.l,.l]
def B6 (P : PT) (N2 : NTy k1 Pr) (x2 x3 : Nat) (x5 : Int) (H : AHeap) : Prop :=
  pif (decide ((x5 : Int) < 2)) (B5 P N2 x2 x3 x5 H) (B1 P H)
theorem q6 (P : PT) (N2 : NTy k1 Pr) : QB Try.prog T0 17 o6 (cnd 7 (En 17 k1 (B5 P N2)) (En 17 k0 (B1 P))) k1 (B6 P N2) := fun _ _ _ _ _  => by kernel_rfl
def L2 (P : PT) (x2 x3 : Nat) (x5 : Int) (H : AHeap) : Prop :=
  ∃ (I : NTy k1 Pr) (μ : NTy k1 (AHeap → Nat)), I x2 x3 x5 H ∧ ∀ y2 y3 y5 G, I y2 y3 y5 G → B6 P (fun z2 z3 z5 G' => I z2 z3 z5 G' ∧ μ z2 z3 z5 G' < μ y2 y3 y5 G) y2 y3 y5 G
theorem l2 (P : PT) : LQ k1 (L2 P) (B6 P) := fun ⟨_,_,_,_⟩ _ ⟨I, μ, h0, hI⟩ => ⟨apT _ I, apT _ μ, h0, fun ⟨_,_,_,_⟩ _ h => hI _ _ _ _  h⟩
abbrev k2 : Sk := [(2,.x),(3,.x)]
noncomputable def o7 := ob Try.f72 [.r,.l,.l]
def B7 (P : PT) (x2 x3 : Nat) (H : AHeap) : Prop :=
  L2 P x2 x3 0 H
theorem q7 (P : PT) : QB Try.prog T0 17 o7 (En 17 k1 (L2 P)) k2 (B7 P) := fun _ _ _ _  => by kernel_rfl
abbrev k3 : Sk := [(0,.g [.i,.i]),(1,.g [.i,.i])]
noncomputable def o8 := ob Try.f72 [.l]
def B8 (P : PT) (x0a x0b x1a x1b : Int) (H : AHeap) : Prop :=
  newK H [(Value.int .i64 x0a), (Value.int .i64 x0b)] 62 (fun b1 H2 => newK H2 [(Value.int .i64 x1a), (Value.int .i64 x1b)] 62 (fun b3 H4 => B7 P b1 b3 H4))
theorem q8 (P : PT) : QB Try.prog T0 17 o8 (En 17 k2 (B7 P)) k3 (B8 P) := fun _ _ _ _ _ _  => by kernel_rfl
noncomputable def code : Code := (.seq (.region 0 ⟨o8⟩ false) (.seq (.seq (.region 1 ⟨o7⟩ false) (.block 0 (.loop (.seq (.seq (.region 2 ⟨o6⟩ false) (.cond (.tmp 7) .skip (.exit 0))) (.seq (.block 1 (.seq (.region 4 ⟨o5⟩ true) (.cond (.tmp 16) (.seq (.region 5 ⟨o4⟩ false) .ret) .skip))) (.region 3 ⟨o3⟩ false)))))) (.seq (.region 6 ⟨o1⟩ false) .ret)))
theorem body : Try.f72.body = some code := by kernel_rfl
theorem main (P : PT) : ∀ env H, (En 17 k3 (B8 P)) env H → AW Try.prog T0 code env H (mkQ (ret P) (fun _ _ _ => False) (ret P)) :=
  (r_seq (rB T0_ok (q8 P)) (r_seq (r_seq (rB T0_ok (q7 P)) (r_block (rL (l2 P) (fun N2 => (r_seq (r_seq (rB T0_ok (q6 P N2)) (r_cond rfl r_skip (r_exit (fun _ _ h => h)))) (r_seq (r_block (r_seq (rD T0_ok mixed [(0, false), (1, false), (2, false), (3, false), (4, false), (5, false), (6, false)] (by kernel_rfl) (q5 P N2)) (r_cond rfl (r_seq (rB T0_ok (q4 P N2)) r_ret) r_skip))) (rB T0_ok (q3 P N2)))))))) (r_seq (rB T0_ok (q1 P)) r_ret)))
theorem ac (P : PT) (x0a x0b x1a x1b : Int) (H : AHeap) (h : B8 P x0a x0b x1a x1b H) : AC Try.prog T0 72 [(Value.agg ⟨[(Value.int .i64 x0a), (Value.int .i64 x0b)]⟩), (Value.agg ⟨[(Value.int .i64 x1a), (Value.int .i64 x1b)]⟩)] H P :=
  r_fn T0_ok (c := code) (n := 17) Try.func72 body (by kernel_rfl) (main P) (En_mk (x0a, x0b, x1a, x1b, ()) (by kernel_rfl) ⟨by kernel_rfl, by kernel_rfl, trivial⟩ h)

end F72
-- loop.example/g01329/spec.l01Ends
namespace F73
noncomputable def ret (P : PT) : EP := retE T0 61 Try.f73 P
abbrev k0 : Sk := []
noncomputable def o1 := ob Try.f73 [.r,.r,.r,.l]
def B1 (P : PT) (H : AHeap) : Prop :=
  P (Value.int .i64 0) H
theorem q1 (P : PT) : QB Try.prog T0 61 o1 (ret P) k0 (B1 P) := fun _ _  => by kernel_rfl
abbrev k1 : Sk := [(0,.i .i64),(1,.v),(5,.i .i64)]
noncomputable def o3 := ob Try.f73 [.r,.r,.l,.r,.l,.l,.r,.r]
def B3 (P : PT) (N2 : NTy k1 Pr) (x0 : Int) (x1 : Value) (x5 : Int) (H : AHeap) : Prop :=
  N2 x0 x1 (IntKind.i64.wrap (x5 + 1)) H
theorem q3 (P : PT) (N2 : NTy k1 Pr) : QB Try.prog T0 61 o3 (En 61 k1 N2) k1 (B3 P N2) := fun _ _ _ _ _  => by kernel_rfl
noncomputable def o4 := ob Try.f73 [.r,.r,.l,.r,.l,.l,.r,.l,.l,.r,.l,.l]
def B4 (P : PT) (N2 : NTy k1 Pr) (H : AHeap) : Prop :=
  P (Value.int .i64 2) H
theorem q4 (P : PT) (N2 : NTy k1 Pr) : QB Try.prog T0 61 o4 (ret P) k0 (B4 P N2) := fun _ _  => by kernel_rfl
noncomputable def o5 := ob Try.f73 [.r,.r,.l,.r,.l,.l,.r,.l,.l,.l]
def B5 (P : PT) (N2 : NTy k1 Pr) (x0 : Int) (x1 : Value) (x5 : Int) (H : AHeap) : Prop :=
  idxK x1 x5 2 (fun b1 o2 => ldI .i64 H b1 o2 (fun v3 => AC Try.prog T0 76 [(Value.int .i64 v3), (Value.int .i64 0), (Value.int .i64 (IntKind.i64.wrap (x0 - 1)))] H (fun v4 H5 => asB v4 (fun v6 => pif (!v6) (B4 P N2 H5) (idxK x1 x5 2 (fun b7 o8 => ldI .i64 H5 b7 (o8 + 1) (fun v9 => AC Try.prog T0 76 [(Value.int .i64 v9), (Value.int .i64 0), (Value.int .i64 (IntKind.i64.wrap (x0 - 1)))] H5 (fun v10 H11 => asB v10 (fun v12 => pif (!v12) (B4 P N2 H11) (idxK x1 x5 2 (fun b13 o14 => ldI .i64 H11 b13 o14 (fun v15 => idxK x1 x5 2 (fun b16 o17 => ldI .i64 H11 b16 (o17 + 1) (fun v18 => pif ((v15 : Int) == v18) (B4 P N2 H11) (B3 P N2 x0 x1 x5 H11)))))))))))))))
theorem q5 (P : PT) (N2 : NTy k1 Pr) : QD Try.prog T0 61 o5 [(0, false), (1, false), (2, false), (3, false), (4, false), (5, false), (6, false), (7, false), (8, false), (9, false), (10, false), (11, false), (12, false), (13, false), (14, false), (15, false), (16, false), (17, false), (18, false), (19, false), (20, false), (21, false), (22, false), (23, false), (24, false), (25, false), (26, false), (27, false), (28, false), (29, false), (30, false), (31, false), (32, false)] (cnd 60 (En 61 k0 (B4 P N2)) (En 61 k1 (B3 P N2))) k1 (B5 P N2) := fun _ _ _ _ _  => by kernel_rfl
noncomputable def o6 := ob Try.f73 [.r,.r,.l,.r,.l,.l,.l,.l]
def B6 (P : PT) (N2 : NTy k1 Pr) (x0 : Int) (x1 : Value) (x5 : Int) (H : AHeap) : Prop :=
  lenK x1 (fun n1 => pif (decide ((x5 : Int) < (n1 : Int))) (B5 P N2 x0 x1 x5 H) (B1 P H))
theorem q6 (P : PT) (N2 : NTy k1 Pr) : QB Try.prog T0 61 o6 (cnd 25 (En 61 k1 (B5 P N2)) (En 61 k0 (B1 P))) k1 (B6 P N2) := fun _ _ _ _ _  => by kernel_rfl
def L2 (P : PT) (x0 : Int) (x1 : Value) (x5 : Int) (H : AHeap) : Prop :=
  ∃ (I : NTy k1 Pr) (μ : NTy k1 (AHeap → Nat)), I x0 x1 x5 H ∧ ∀ y0 y1 y5 G, I y0 y1 y5 G → B6 P (fun z0 z1 z5 G' => I z0 z1 z5 G' ∧ μ z0 z1 z5 G' < μ y0 y1 y5 G) y0 y1 y5 G
theorem l2 (P : PT) : LQ k1 (L2 P) (B6 P) := fun ⟨_,_,_,_⟩ _ ⟨I, μ, h0, hI⟩ => ⟨apT _ I, apT _ μ, h0, fun ⟨_,_,_,_⟩ _ h => hI _ _ _ _  h⟩
abbrev k2 : Sk := [(0,.i .i64),(1,.v)]
noncomputable def o7 := ob Try.f73 [.r,.r,.l,.l]
def B7 (P : PT) (x0 : Int) (x1 : Value) (H : AHeap) : Prop :=
  L2 P x0 x1 0 H
theorem q7 (P : PT) : QB Try.prog T0 61 o7 (En 61 k1 (L2 P)) k2 (B7 P) := fun _ _ _ _  => by kernel_rfl
noncomputable def o8 := ob Try.f73 [.r,.l,.r,.l,.l]
def B8 (P : PT) (H : AHeap) : Prop :=
  P (Value.int .i64 2) H
theorem q8 (P : PT) : QB Try.prog T0 61 o8 (ret P) k0 (B8 P) := fun _ _  => by kernel_rfl
noncomputable def o9 := ob Try.f73 [.r,.l,.l]
def B9 (P : PT) (x0 : Int) (x1 : Value) (H : AHeap) : Prop :=
  AC Try.prog T0 76 [(Value.int .i64 x0), (Value.int .i64 2), (Value.int .i64 20)] H (fun v1 H2 => asB v1 (fun v3 => pif (!v3) (B8 P H2) (pif ((Int.tmod x0 2 : Int) != 0) (B8 P H2) (lenK x1 (fun n4 => pif (((n4 : Int) : Int) != (IntKind.i64.wrap (Int.tdiv (IntKind.i64.wrap (3 * x0)) 2))) (B8 P H2) (B7 P x0 x1 H2))))))
theorem q9 (P : PT) : QB Try.prog T0 61 o9 (cnd 21 (En 61 k0 (B8 P)) (En 61 k2 (B7 P))) k2 (B9 P) := fun _ _ _ _  => by kernel_rfl
noncomputable def o10 := ob Try.f73 [.l]
def B10 (P : PT) (x0 : Int) (x1 : Value) (H : AHeap) : Prop :=
  B9 P x0 x1 H
theorem q10 (P : PT) : QB Try.prog T0 61 o10 (En 61 k2 (B9 P)) k2 (B10 P) := fun _ _ _ _  => by kernel_rfl
noncomputable def code : Code := (.seq (.region 0 ⟨o10⟩ false) (.seq (.seq (.region 1 ⟨o9⟩ false) (.cond (.tmp 21) (.seq (.region 2 ⟨o8⟩ false) .ret) .skip)) (.seq (.seq (.region 3 ⟨o7⟩ false) (.block 0 (.loop (.seq (.seq (.region 4 ⟨o6⟩ false) (.cond (.tmp 25) .skip (.exit 0))) (.seq (.block 1 (.seq (.region 6 ⟨o5⟩ true) (.cond (.tmp 60) (.seq (.region 7 ⟨o4⟩ false) .ret) .skip))) (.region 5 ⟨o3⟩ false)))))) (.seq (.region 8 ⟨o1⟩ false) .ret))))
theorem body : Try.f73.body = some code := by kernel_rfl
theorem main (P : PT) : ∀ env H, (En 61 k2 (B10 P)) env H → AW Try.prog T0 code env H (mkQ (ret P) (fun _ _ _ => False) (ret P)) :=
  (r_seq (rB T0_ok (q10 P)) (r_seq (r_seq (rB T0_ok (q9 P)) (r_cond rfl (r_seq (rB T0_ok (q8 P)) r_ret) r_skip)) (r_seq (r_seq (rB T0_ok (q7 P)) (r_block (rL (l2 P) (fun N2 => (r_seq (r_seq (rB T0_ok (q6 P N2)) (r_cond rfl r_skip (r_exit (fun _ _ h => h)))) (r_seq (r_block (r_seq (rD T0_ok mixed [(0, false), (1, false), (2, false), (3, false), (4, false), (5, false), (6, false), (7, false), (8, false), (9, false), (10, false), (11, false), (12, false), (13, false), (14, false), (15, false), (16, false), (17, false), (18, false), (19, false), (20, false), (21, false), (22, false), (23, false), (24, false), (25, false), (26, false), (27, false), (28, false), (29, false), (30, false), (31, false), (32, false)] (by kernel_rfl) (q5 P N2)) (r_cond rfl (r_seq (rB T0_ok (q4 P N2)) r_ret) r_skip))) (rB T0_ok (q3 P N2)))))))) (r_seq (rB T0_ok (q1 P)) r_ret))))
theorem ac (P : PT) (x0 : Int) (x1 : Value) (H : AHeap) (h : B10 P x0 x1 H) : AC Try.prog T0 73 [(Value.int .i64 x0), x1] H P :=
  r_fn T0_ok (c := code) (n := 61) Try.func73 body (by kernel_rfl) (main P) (En_mk (x0, x1, ()) (by kernel_rfl) ⟨by kernel_rfl, by kernel_rfl, trivial⟩ h)

end F73
-- loop.example/g01329/spec.l01Cubic
namespace F74
noncomputable def ret (P : PT) : EP := retE T0 46 Try.f74 P
abbrev k0 : Sk := []
noncomputable def o1 := ob Try.f74 [.r,.r,.r,.r,.l]
def B1 (P : PT) (H : AHeap) : Prop :=
  P (Value.bool true) H
theorem q1 (P : PT) : QB Try.prog T0 46 o1 (ret P) k0 (B1 P) := fun _ _  => by kernel_rfl
abbrev k1 : Sk := [(0,.i .i64),(5,.v),(7,.i .i64)]
noncomputable def o3 := ob Try.f74 [.r,.r,.r,.l,.r,.l,.l,.r,.r]
def B3 (P : PT) (N2 : NTy k1 Pr) (x0 : Int) (x5 : Value) (x7 : Int) (H : AHeap) : Prop :=
  N2 x0 x5 (IntKind.i64.wrap (x7 + 1)) H
theorem q3 (P : PT) (N2 : NTy k1 Pr) : QB Try.prog T0 46 o3 (En 46 k1 N2) k1 (B3 P N2) := fun _ _ _ _ _  => by kernel_rfl
noncomputable def o4 := ob Try.f74 [.r,.r,.r,.l,.r,.l,.l,.r,.l,.l,.r,.l,.l]
def B4 (P : PT) (N2 : NTy k1 Pr) (H : AHeap) : Prop :=
  P (Value.bool false) H
theorem q4 (P : PT) (N2 : NTy k1 Pr) : QB Try.prog T0 46 o4 (ret P) k0 (B4 P N2) := fun _ _  => by kernel_rfl
noncomputable def o5 := ob Try.f74 [.r,.r,.r,.l,.r,.l,.l,.r,.l,.l,.l]
def B5 (P : PT) (N2 : NTy k1 Pr) (x0 : Int) (x5 : Value) (x7 : Int) (H : AHeap) : Prop :=
  idxK x5 x7 1 (fun b1 o2 => ldI .i64 H b1 o2 (fun v3 => pif ((v3 : Int) != 3) (B4 P N2 H) (B3 P N2 x0 x5 x7 H)))
theorem q5 (P : PT) (N2 : NTy k1 Pr) : QB Try.prog T0 46 o5 (cnd 45 (En 46 k0 (B4 P N2)) (En 46 k1 (B3 P N2))) k1 (B5 P N2) := fun _ _ _ _ _  => by kernel_rfl
noncomputable def o6 := ob Try.f74 [.r,.r,.r,.l,.r,.l,.l,.l,.l]
def B6 (P : PT) (N2 : NTy k1 Pr) (x0 : Int) (x5 : Value) (x7 : Int) (H : AHeap) : Prop :=
  pif (decide ((x7 : Int) < x0)) (B5 P N2 x0 x5 x7 H) (B1 P H)
theorem q6 (P : PT) (N2 : NTy k1 Pr) : QB Try.prog T0 46 o6 (cnd 38 (En 46 k1 (B5 P N2)) (En 46 k0 (B1 P))) k1 (B6 P N2) := fun _ _ _ _ _  => by kernel_rfl
def L2 (P : PT) (x0 : Int) (x5 : Value) (x7 : Int) (H : AHeap) : Prop :=
  ∃ (I : NTy k1 Pr) (μ : NTy k1 (AHeap → Nat)), I x0 x5 x7 H ∧ ∀ y0 y5 y7 G, I y0 y5 y7 G → B6 P (fun z0 z5 z7 G' => I z0 z5 z7 G' ∧ μ z0 z5 z7 G' < μ y0 y5 y7 G) y0 y5 y7 G
theorem l2 (P : PT) : LQ k1 (L2 P) (B6 P) := fun ⟨_,_,_,_⟩ _ ⟨I, μ, h0, hI⟩ => ⟨apT _ I, apT _ μ, h0, fun ⟨_,_,_,_⟩ _ h => hI _ _ _ _  h⟩
abbrev k2 : Sk := [(0,.i .i64),(5,.v)]
noncomputable def o7 := ob Try.f74 [.r,.r,.r,.l,.l]
def B7 (P : PT) (x0 : Int) (x5 : Value) (H : AHeap) : Prop :=
  L2 P x0 x5 0 H
theorem q7 (P : PT) : QB Try.prog T0 46 o7 (En 46 k1 (L2 P)) k2 (B7 P) := fun _ _ _ _  => by kernel_rfl
abbrev k3 : Sk := [(0,.i .i64),(1,.v),(5,.v),(6,.i .i64)]
noncomputable def o9 := ob Try.f74 [.r,.r,.l,.r,.l,.l,.r,.r]
def B9 (P : PT) (N8 : NTy k3 Pr) (x0 : Int) (x1 x5 : Value) (x6 : Int) (H : AHeap) : Prop :=
  N8 x0 x1 x5 (IntKind.i64.wrap (x6 + 1)) H
theorem q9 (P : PT) (N8 : NTy k3 Pr) : QB Try.prog T0 46 o9 (En 46 k3 N8) k3 (B9 P N8) := fun _ _ _ _ _ _  => by kernel_rfl
noncomputable def o10 := ob Try.f74 [.r,.r,.l,.r,.l,.l,.r,.l,.l,.r]
def B10 (P : PT) (N8 : NTy k3 Pr) (x0 : Int) (x1 x5 : Value) (x6 : Int) (H : AHeap) : Prop :=
  idxK x1 x6 2 (fun b1 o2 => ldI .i64 H b1 (o2 + 1) (fun v3 => idxK x5 v3 1 (fun b4 o5 => ldI .i64 H b4 o5 (fun v6 => idxK x5 v3 1 (fun b7 o8 => stK H b7 o8 [(Value.int .i64 (IntKind.i64.wrap (v6 + 1)))] (fun H9 => B9 P N8 x0 x1 x5 x6 H9))))))
theorem q10 (P : PT) (N8 : NTy k3 Pr) : QB Try.prog T0 46 o10 (En 46 k3 (B9 P N8)) k3 (B10 P N8) := fun _ _ _ _ _ _  => by kernel_rfl
noncomputable def o11 := ob Try.f74 [.r,.r,.l,.r,.l,.l,.r,.l,.l,.l]
def B11 (P : PT) (N8 : NTy k3 Pr) (x0 : Int) (x1 x5 : Value) (x6 : Int) (H : AHeap) : Prop :=
  idxK x1 x6 2 (fun b1 o2 => ldI .i64 H b1 o2 (fun v3 => idxK x5 v3 1 (fun b4 o5 => ldI .i64 H b4 o5 (fun v6 => idxK x5 v3 1 (fun b7 o8 => stK H b7 o8 [(Value.int .i64 (IntKind.i64.wrap (v6 + 1)))] (fun H9 => B10 P N8 x0 x1 x5 x6 H9))))))
theorem q11 (P : PT) (N8 : NTy k3 Pr) : QB Try.prog T0 46 o11 (En 46 k3 (B10 P N8)) k3 (B11 P N8) := fun _ _ _ _ _ _  => by kernel_rfl
noncomputable def o12 := ob Try.f74 [.r,.r,.l,.r,.l,.l,.l,.l]
def B12 (P : PT) (N8 : NTy k3 Pr) (x0 : Int) (x1 x5 : Value) (x6 : Int) (H : AHeap) : Prop :=
  lenK x1 (fun n1 => pif (decide ((x6 : Int) < (n1 : Int))) (B11 P N8 x0 x1 x5 x6 H) (B7 P x0 x5 H))
theorem q12 (P : PT) (N8 : NTy k3 Pr) : QB Try.prog T0 46 o12 (cnd 13 (En 46 k3 (B11 P N8)) (En 46 k2 (B7 P))) k3 (B12 P N8) := fun _ _ _ _ _ _  => by kernel_rfl
def L8 (P : PT) (x0 : Int) (x1 x5 : Value) (x6 : Int) (H : AHeap) : Prop :=
  ∃ (I : NTy k3 Pr) (μ : NTy k3 (AHeap → Nat)), I x0 x1 x5 x6 H ∧ ∀ y0 y1 y5 y6 G, I y0 y1 y5 y6 G → B12 P (fun z0 z1 z5 z6 G' => I z0 z1 z5 z6 G' ∧ μ z0 z1 z5 z6 G' < μ y0 y1 y5 y6 G) y0 y1 y5 y6 G
theorem l8 (P : PT) : LQ k3 (L8 P) (B12 P) := fun ⟨_,_,_,_,_⟩ _ ⟨I, μ, h0, hI⟩ => ⟨apT _ I, apT _ μ, h0, fun ⟨_,_,_,_,_⟩ _ h => hI _ _ _ _ _  h⟩
abbrev k4 : Sk := [(0,.i .i64),(1,.v),(5,.v)]
noncomputable def o13 := ob Try.f74 [.r,.r,.l,.l]
def B13 (P : PT) (x0 : Int) (x1 x5 : Value) (H : AHeap) : Prop :=
  L8 P x0 x1 x5 0 H
theorem q13 (P : PT) : QB Try.prog T0 46 o13 (En 46 k3 (L8 P)) k4 (B13 P) := fun _ _ _ _ _  => by kernel_rfl
abbrev k5 : Sk := [(0,.i .i64),(1,.v)]
noncomputable def o14 := ob Try.f74 [.r,.l]
def B14 (P : PT) (x0 : Int) (x1 : Value) (H : AHeap) : Prop :=
  mkR H 8 2 [(Value.int .i64 0)] x0 x0 (fun v2 H1 => B13 P x0 x1 v2 H1)
theorem q14 (P : PT) : QB Try.prog T0 46 o14 (En 46 k4 (B13 P)) k5 (B14 P) := fun _ _ _ _  => by kernel_rfl
noncomputable def o15 := ob Try.f74 [.l]
def B15 (P : PT) (x0 : Int) (x1 : Value) (H : AHeap) : Prop :=
  B14 P x0 x1 H
theorem q15 (P : PT) : QB Try.prog T0 46 o15 (En 46 k5 (B14 P)) k5 (B15 P) := fun _ _ _ _  => by kernel_rfl
noncomputable def code : Code := (.seq (.region 0 ⟨o15⟩ false) (.seq (.region 1 ⟨o14⟩ false) (.seq (.seq (.region 2 ⟨o13⟩ false) (.block 0 (.loop (.seq (.seq (.region 3 ⟨o12⟩ false) (.cond (.tmp 13) .skip (.exit 0))) (.seq (.block 1 (.seq (.region 5 ⟨o11⟩ false) (.region 6 ⟨o10⟩ false))) (.region 4 ⟨o9⟩ false)))))) (.seq (.seq (.region 7 ⟨o7⟩ false) (.block 2 (.loop (.seq (.seq (.region 8 ⟨o6⟩ false) (.cond (.tmp 38) .skip (.exit 2))) (.seq (.block 3 (.seq (.region 10 ⟨o5⟩ false) (.cond (.tmp 45) (.seq (.region 11 ⟨o4⟩ false) .ret) .skip))) (.region 9 ⟨o3⟩ false)))))) (.seq (.region 12 ⟨o1⟩ false) .ret)))))
theorem body : Try.f74.body = some code := by kernel_rfl
theorem main (P : PT) : ∀ env H, (En 46 k5 (B15 P)) env H → AW Try.prog T0 code env H (mkQ (ret P) (fun _ _ _ => False) (ret P)) :=
  (r_seq (rB T0_ok (q15 P)) (r_seq (rB T0_ok (q14 P)) (r_seq (r_seq (rB T0_ok (q13 P)) (r_block (rL (l8 P) (fun N8 => (r_seq (r_seq (rB T0_ok (q12 P N8)) (r_cond rfl r_skip (r_exit (fun _ _ h => h)))) (r_seq (r_block (r_seq (rB T0_ok (q11 P N8)) (rB T0_ok (q10 P N8)))) (rB T0_ok (q9 P N8)))))))) (r_seq (r_seq (rB T0_ok (q7 P)) (r_block (rL (l2 P) (fun N2 => (r_seq (r_seq (rB T0_ok (q6 P N2)) (r_cond rfl r_skip (r_exit (fun _ _ h => h)))) (r_seq (r_block (r_seq (rB T0_ok (q5 P N2)) (r_cond rfl (r_seq (rB T0_ok (q4 P N2)) r_ret) r_skip))) (rB T0_ok (q3 P N2)))))))) (r_seq (rB T0_ok (q1 P)) r_ret)))))
theorem ac (P : PT) (x0 : Int) (x1 : Value) (H : AHeap) (h : B15 P x0 x1 H) : AC Try.prog T0 74 [(Value.int .i64 x0), x1] H P :=
  r_fn T0_ok (c := code) (n := 46) Try.func74 body (by kernel_rfl) (main P) (En_mk (x0, x1, ()) (by kernel_rfl) ⟨by kernel_rfl, by kernel_rfl, trivial⟩ h)

end F74
-- loop.example/g01329/spec.l01Before
namespace F75
noncomputable def ret (P : PT) : EP := retE T0 24 Try.f75 P
abbrev k0 : Sk := [(2,.x),(3,.x)]
noncomputable def o1 := ob Try.f75 [.r,.l]
def B1 (P : PT) (x2 x3 : Nat) (H : AHeap) : Prop :=
  ldI .i64 H x2 0 (fun v1 => ldI .i64 H x3 0 (fun v2 => pif (decide ((v1 : Int) < v2)) (P (Value.bool true) H) (ldI .i64 H x2 0 (fun v3 => ldI .i64 H x3 0 (fun v4 => pif ((v3 : Int) == v4) (ldI .i64 H x2 1 (fun v5 => ldI .i64 H x3 1 (fun v6 => P (Value.bool (decide ((v5 : Int) < v6))) H))) (P (Value.bool false) H))))))
theorem q1 (P : PT) : QB Try.prog T0 24 o1 (ret P) k0 (B1 P) := fun _ _ _ _  => by kernel_rfl
abbrev k1 : Sk := [(0,.g [.i,.i]),(1,.g [.i,.i])]
noncomputable def o2 := ob Try.f75 [.l]
def B2 (P : PT) (x0a x0b x1a x1b : Int) (H : AHeap) : Prop :=
  newK H [(Value.int .i64 x0a), (Value.int .i64 x0b)] 62 (fun b1 H2 => newK H2 [(Value.int .i64 x1a), (Value.int .i64 x1b)] 62 (fun b3 H4 => B1 P b1 b3 H4))
theorem q2 (P : PT) : QB Try.prog T0 24 o2 (En 24 k0 (B1 P)) k1 (B2 P) := fun _ _ _ _ _ _  => by kernel_rfl
noncomputable def code : Code := (.seq (.region 0 ⟨o2⟩ false) (.seq (.region 1 ⟨o1⟩ false) .ret))
theorem body : Try.f75.body = some code := by kernel_rfl
theorem main (P : PT) : ∀ env H, (En 24 k1 (B2 P)) env H → AW Try.prog T0 code env H (mkQ (ret P) (fun _ _ _ => False) (ret P)) :=
  (r_seq (rB T0_ok (q2 P)) (r_seq (rB T0_ok (q1 P)) r_ret))
theorem ac (P : PT) (x0a x0b x1a x1b : Int) (H : AHeap) (h : B2 P x0a x0b x1a x1b H) : AC Try.prog T0 75 [(Value.agg ⟨[(Value.int .i64 x0a), (Value.int .i64 x0b)]⟩), (Value.agg ⟨[(Value.int .i64 x1a), (Value.int .i64 x1b)]⟩)] H P :=
  r_fn T0_ok (c := code) (n := 24) Try.func75 body (by kernel_rfl) (main P) (En_mk (x0a, x0b, x1a, x1b, ()) (by kernel_rfl) ⟨by kernel_rfl, by kernel_rfl, trivial⟩ h)

end F75
-- loop.example/g01329/spec.l01In
namespace F76
noncomputable def ret (P : PT) : EP := retE T0 15 Try.f76 P
abbrev k0 : Sk := [(0,.i .i64),(1,.i .i64),(2,.i .i64)]
noncomputable def o1 := ob Try.f76 [.r,.l]
def B1 (P : PT) (x0 x1 x2 : Int) (H : AHeap) : Prop :=
  pif (decide ((x0 : Int) ≥ x1)) (P (Value.bool (decide ((x0 : Int) ≤ x2))) H) (P (Value.bool false) H)
theorem q1 (P : PT) : QB Try.prog T0 15 o1 (ret P) k0 (B1 P) := fun _ _ _ _ _  => by kernel_rfl
noncomputable def o2 := ob Try.f76 [.l]
def B2 (P : PT) (x0 x1 x2 : Int) (H : AHeap) : Prop :=
  B1 P x0 x1 x2 H
theorem q2 (P : PT) : QB Try.prog T0 15 o2 (En 15 k0 (B1 P)) k0 (B2 P) := fun _ _ _ _ _  => by kernel_rfl
noncomputable def code : Code := (.seq (.region 0 ⟨o2⟩ false) (.seq (.region 1 ⟨o1⟩ false) .ret))
theorem body : Try.f76.body = some code := by kernel_rfl
theorem main (P : PT) : ∀ env H, (En 15 k0 (B2 P)) env H → AW Try.prog T0 code env H (mkQ (ret P) (fun _ _ _ => False) (ret P)) :=
  (r_seq (rB T0_ok (q2 P)) (r_seq (rB T0_ok (q1 P)) r_ret))
theorem ac (P : PT) (x0 x1 x2 : Int) (H : AHeap) (h : B2 P x0 x1 x2 H) : AC Try.prog T0 76 [(Value.int .i64 x0), (Value.int .i64 x1), (Value.int .i64 x2)] H P :=
  r_fn T0_ok (c := code) (n := 15) Try.func76 body (by kernel_rfl) (main P) (En_mk (x0, x1, x2, ()) (by kernel_rfl) ⟨by kernel_rfl, by kernel_rfl, by kernel_rfl, trivial⟩ h)

end F76
end Go.Proofs
