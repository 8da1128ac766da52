import Derived.Test.YtkmjiikgkhhciaaGreatT
set_option linter.unusedVariables false
set_option maxRecDepth 100000
namespace Go.Proofs
open Go.Abs
-- loop.example/g01329/laws.FnExactAllCycles
namespace F5
noncomputable def ret (P : PT) : EP := retE T0 96 Tryz.f5 P
abbrev k0 : Sk := []
noncomputable def o1 := ob Tryz.f5 [.r,.r,.r,.r,.r,.r,.r,.r,.r,.r,.r,.r,.r,.r,.r,.r,.r,.r,.r,.r,.r,.r,.r,.r,.l]
def B1 (P : PT) (H : AHeap) : Prop :=
  P (Value.bool true) H
theorem q1 (P : PT) : QB Tryz.prog T0 96 o1 (ret P) k0 (B1 P) := fun _ _  => by kernel_rfl
noncomputable def o2 := ob Tryz.f5 [.r,.r,.r,.r,.r,.r,.r,.r,.r,.r,.r,.r,.r,.r,.r,.r,.r,.r,.r,.r,.r,.r,.r,.l,.r,.l,.l]
def B2 (P : PT) (H : AHeap) : Prop :=
  P (Value.bool false) H
theorem q2 (P : PT) : QB Tryz.prog T0 96 o2 (ret P) k0 (B2 P) := fun _ _  => by kernel_rfl
abbrev k1 : Sk := [(10,.i .i64),(11,.i .i64)]
noncomputable def o3 := ob Tryz.f5 [.r,.r,.r,.r,.r,.r,.r,.r,.r,.r,.r,.r,.r,.r,.r,.r,.r,.r,.r,.r,.r,.r,.r,.l,.l]
def B3 (P : PT) (x10 x11 : Int) (H : AHeap) : Prop :=
  pif ((x11 : Int) != x10) (B2 P H) (B1 P H)
theorem q3 (P : PT) : QB Tryz.prog T0 96 o3 (cnd 95 (En 96 k0 (B2 P)) (En 96 k0 (B1 P))) k1 (B3 P) := fun _ _ _ _  => by kernel_rfl
noncomputable def o4 := ob Tryz.f5 [.r,.r,.r,.r,.r,.r,.r,.r,.r,.r,.r,.r,.r,.r,.r,.r,.r,.r,.r,.r,.r,.r,.l,.r,.l,.l]
def B4 (P : PT) (H : AHeap) : Prop :=
  P (Value.bool false) H
theorem q4 (P : PT) : QB Tryz.prog T0 96 o4 (ret P) k0 (B4 P) := fun _ _  => by kernel_rfl
noncomputable def o5 := ob Tryz.f5 [.r,.r,.r,.r,.r,.r,.r,.r,.r,.r,.r,.r,.r,.r,.r,.r,.r,.r,.r,.r,.r,.r,.l,.l]
def B5 (P : PT) (x10 x11 : Int) (H : AHeap) : Prop :=
  pif (decide ((x11 : Int) < 0)) (B4 P H) (B3 P x10 x11 H)
theorem q5 (P : PT) : QB Tryz.prog T0 96 o5 (cnd 92 (En 96 k0 (B4 P)) (En 96 k1 (B3 P))) k1 (B5 P) := fun _ _ _ _  => by kernel_rfl
abbrev k2 : Sk := [(7,.v),(10,.i .i64),(11,.i .i64)]
noncomputable def o6 := ob Tryz.f5 [.r,.r,.r,.r,.r,.r,.r,.r,.r,.r,.r,.r,.r,.r,.r,.r,.r,.r,.r,.r,.r,.l]
def B6 (P : PT) (x7 : Value) (x10 x11 : Int) (H : AHeap) : Prop :=
  AC Tryz.prog T0 47 [x7, (Value.int .i64 x11)] H (fun v1 H2 => asI .i64 v1 (fun v3 => B5 P x10 v3 H2))
theorem q6 (P : PT) : QB Tryz.prog T0 96 o6 (En 96 k1 (B5 P)) k2 (B6 P) := fun _ _ _ _ _  => by kernel_rfl
abbrev k3 : Sk := [(7,.v),(10,.i .i64)]
noncomputable def o7 := ob Tryz.f5 [.r,.r,.r,.r,.r,.r,.r,.r,.r,.r,.r,.r,.r,.r,.r,.r,.r,.r,.r,.r,.l]
def B7 (P : PT) (x7 : Value) (x10 : Int) (H : AHeap) : Prop :=
  B6 P x7 x10 1 H
theorem q7 (P : PT) : QB Tryz.prog T0 96 o7 (En 96 k2 (B6 P)) k3 (B7 P) := fun _ _ _ _  => by kernel_rfl
noncomputable def o8 := ob Tryz.f5 [.r,.r,.r,.r,.r,.r,.r,.r,.r,.r,.r,.r,.r,.r,.r,.r,.r,.r,.r,.l,.r,.l,.l]
def B8 (P : PT) (H : AHeap) : Prop :=
  P (Value.bool false) H
theorem q8 (P : PT) : QB Tryz.prog T0 96 o8 (ret P) k0 (B8 P) := fun _ _  => by kernel_rfl
abbrev k4 : Sk := [(4,.v),(5,.i .i64),(7,.v),(10,.i .i64),(12,.v),(13,.i .i64)]
noncomputable def o9 := ob Tryz.f5 [.r,.r,.r,.r,.r,.r,.r,.r,.r,.r,.r,.r,.r,.r,.r,.r,.r,.r,.r,.l,.l]
def B9 (P : PT) (x4 : Value) (x5 : Int) (x7 : Value) (x10 : Int) (x12 : Value) (x13 : Int) (H : AHeap) : Prop :=
  AC Tryz.prog T0 43 [x12, x4] H (fun v1 H2 => asB v1 (fun v3 => pif (!v3) (B8 P H2) (pif ((x13 : Int) != x5) (B8 P H2) (B7 P x7 x10 H2))))
theorem q9 (P : PT) : QB Tryz.prog T0 96 o9 (cnd 87 (En 96 k0 (B8 P)) (En 96 k3 (B7 P))) k4 (B9 P) := fun _ _ _ _ _ _ _ _  => by kernel_rfl
abbrev k5 : Sk := [(1,.x),(4,.v),(5,.i .i64),(7,.v),(10,.i .i64)]
noncomputable def o10 := ob Tryz.f5 [.r,.r,.r,.r,.r,.r,.r,.r,.r,.r,.r,.r,.r,.r,.r,.r,.r,.r,.l]
def B10 (P : PT) (x1 : Nat) (x4 : Value) (x5 : Int) (x7 : Value) (x10 : Int) (H : AHeap) : Prop :=
  ldI .i64 H x1 0 (fun v1 => ld1 H x1 1 (fun v2 => AC Tryz.prog T0 41 [(Value.agg ⟨[(Value.int .i64 v1), v2]⟩)] H (fun v3 H4 => agg2 v3 (fun v5 v6 => asI .i64 v5 (fun v7 => AC Tryz.prog T0 42 [(Value.agg ⟨[(Value.int .i64 v7), v6]⟩)] H4 (fun v9 H10 => tup2 v9 (fun v11 v12 => asI .i64 v12 (fun v14 => B9 P x4 x5 x7 x10 v11 v14 H10))))))))
theorem q10 (P : PT) : QB Tryz.prog T0 96 o10 (En 96 k4 (B9 P)) k5 (B10 P) := fun _ _ _ _ _ _ _  => by kernel_rfl
noncomputable def o11 := ob Tryz.f5 [.r,.r,.r,.r,.r,.r,.r,.r,.r,.r,.r,.r,.r,.r,.r,.r,.r,.l,.r,.l,.l]
def B11 (P : PT) (H : AHeap) : Prop :=
  P (Value.bool false) H
theorem q11 (P : PT) : QB Tryz.prog T0 96 o11 (ret P) k0 (B11 P) := fun _ _  => by kernel_rfl
abbrev k6 : Sk := [(1,.x),(4,.v),(5,.i .i64),(7,.v),(10,.i .i64),(11,.i .i64)]
noncomputable def o12 := ob Tryz.f5 [.r,.r,.r,.r,.r,.r,.r,.r,.r,.r,.r,.r,.r,.r,.r,.r,.r,.l,.l]
def B12 (P : PT) (x1 : Nat) (x4 : Value) (x5 : Int) (x7 : Value) (x10 x11 : Int) (H : AHeap) : Prop :=
  pif ((x11 : Int) != x10) (B11 P H) (B10 P x1 x4 x5 x7 x10 H)
theorem q12 (P : PT) : QB Tryz.prog T0 96 o12 (cnd 72 (En 96 k0 (B11 P)) (En 96 k5 (B10 P))) k6 (B12 P) := fun _ _ _ _ _ _ _ _  => by kernel_rfl
noncomputable def o13 := ob Tryz.f5 [.r,.r,.r,.r,.r,.r,.r,.r,.r,.r,.r,.r,.r,.r,.r,.r,.l,.r,.l,.l]
def B13 (P : PT) (H : AHeap) : Prop :=
  P (Value.bool false) H
theorem q13 (P : PT) : QB Tryz.prog T0 96 o13 (ret P) k0 (B13 P) := fun _ _  => by kernel_rfl
noncomputable def o14 := ob Tryz.f5 [.r,.r,.r,.r,.r,.r,.r,.r,.r,.r,.r,.r,.r,.r,.r,.r,.l,.l]
def B14 (P : PT) (x1 : Nat) (x4 : Value) (x5 : Int) (x7 : Value) (x10 x11 : Int) (H : AHeap) : Prop :=
  pif (decide ((x11 : Int) < 0)) (B13 P H) (B12 P x1 x4 x5 x7 x10 x11 H)
theorem q14 (P : PT) : QB Tryz.prog T0 96 o14 (cnd 69 (En 96 k0 (B13 P)) (En 96 k6 (B12 P))) k6 (B14 P) := fun _ _ _ _ _ _ _ _  => by kernel_rfl
noncomputable def o15 := ob Tryz.f5 [.r,.r,.r,.r,.r,.r,.r,.r,.r,.r,.r,.r,.r,.r,.r,.l]
def B15 (P : PT) (x1 : Nat) (x4 : Value) (x5 : Int) (x7 : Value) (x10 x11 : Int) (H : AHeap) : Prop :=
  AC Tryz.prog T0 47 [x7, (Value.int .i64 x11)] H (fun v1 H2 => asI .i64 v1 (fun v3 => B14 P x1 x4 x5 x7 x10 v3 H2))
theorem q15 (P : PT) : QB Tryz.prog T0 96 o15 (En 96 k6 (B14 P)) k6 (B15 P) := fun _ _ _ _ _ _ _ _  => by kernel_rfl
noncomputable def o16 := ob Tryz.f5 [.r,.r,.r,.r,.r,.r,.r,.r,.r,.r,.r,.r,.r,.r,.l]
def B16 (P : PT) (x1 : Nat) (x4 : Value) (x5 : Int) (x7 : Value) (x10 : Int) (H : AHeap) : Prop :=
  B15 P x1 x4 x5 x7 x10 1 H
theorem q16 (P : PT) : QB Tryz.prog T0 96 o16 (En 96 k6 (B15 P)) k5 (B16 P) := fun _ _ _ _ _ _ _  => by kernel_rfl
noncomputable def o17 := ob Tryz.f5 [.r,.r,.r,.r,.r,.r,.r,.r,.r,.r,.r,.r,.r,.l]
def B17 (P : PT) (x1 : Nat) (x4 : Value) (x5 : Int) (x7 : Value) (x10 : Int) (H : AHeap) : Prop :=
  AC Tryz.prog T0 46 [x7, (Value.int .i64 x10)] H (fun v1 H2 => asI .i64 v1 (fun v3 => B16 P x1 x4 x5 x7 v3 H2))
theorem q17 (P : PT) : QB Tryz.prog T0 96 o17 (En 96 k5 (B16 P)) k5 (B17 P) := fun _ _ _ _ _ _ _  => by kernel_rfl
abbrev k7 : Sk := [(1,.x),(4,.v),(5,.i .i64),(7,.v)]
noncomputable def o18 := ob Tryz.f5 [.r,.r,.r,.r,.r,.r,.r,.r,.r,.r,.r,.r,.l]
def B18 (P : PT) (x1 : Nat) (x4 : Value) (x5 : Int) (x7 : Value) (H : AHeap) : Prop :=
  B17 P x1 x4 x5 x7 1 H
theorem q18 (P : PT) : QB Tryz.prog T0 96 o18 (En 96 k5 (B17 P)) k7 (B18 P) := fun _ _ _ _ _ _  => by kernel_rfl
noncomputable def o19 := ob Tryz.f5 [.r,.r,.r,.r,.r,.r,.r,.r,.r,.r,.r,.l,.r,.l,.l]
def B19 (P : PT) (H : AHeap) : Prop :=
  P (Value.bool false) H
theorem q19 (P : PT) : QB Tryz.prog T0 96 o19 (ret P) k0 (B19 P) := fun _ _  => by kernel_rfl
abbrev k8 : Sk := [(1,.x),(4,.v),(5,.i .i64),(7,.v),(8,.i .i64),(9,.i .i64)]
noncomputable def o20 := ob Tryz.f5 [.r,.r,.r,.r,.r,.r,.r,.r,.r,.r,.r,.l,.l]
def B20 (P : PT) (x1 : Nat) (x4 : Value) (x5 : Int) (x7 : Value) (x8 x9 : Int) (H : AHeap) : Prop :=
  pif (decide ((x9 : Int) < 0)) (B19 P H) (AC Tryz.prog T0 43 [x7, x4] H (fun v1 H2 => asB v1 (fun v3 => pif (!v3) (B19 P H2) (pif ((x8 : Int) != x5) (B19 P H2) (B18 P x1 x4 x5 x7 H2)))))
theorem q20 (P : PT) : QB Tryz.prog T0 96 o20 (cnd 61 (En 96 k0 (B19 P)) (En 96 k7 (B18 P))) k8 (B20 P) := fun _ _ _ _ _ _ _ _  => by kernel_rfl
abbrev k9 : Sk := [(1,.x),(4,.v),(5,.i .i64),(6,.x),(7,.v),(8,.i .i64),(9,.i .i64)]
noncomputable def o21 := ob Tryz.f5 [.r,.r,.r,.r,.r,.r,.r,.r,.r,.r,.l]
def B21 (P : PT) (x1 : Nat) (x4 : Value) (x5 : Int) (x6 : Nat) (x7 : Value) (x8 x9 : Int) (H : AHeap) : Prop :=
  ldI .i64 H x6 0 (fun v1 => ld1 H x6 1 (fun v2 => AC Tryz.prog T0 45 [(Value.agg ⟨[(Value.int .i64 v1), v2]⟩), (Value.int .i64 x9)] H (fun v3 H4 => asI .i64 v3 (fun v5 => B20 P x1 x4 x5 x7 x8 v5 H4))))
theorem q21 (P : PT) : QB Tryz.prog T0 96 o21 (En 96 k8 (B20 P)) k9 (B21 P) := fun _ _ _ _ _ _ _ _ _  => by kernel_rfl
abbrev k10 : Sk := [(1,.x),(4,.v),(5,.i .i64),(6,.x),(7,.v),(8,.i .i64)]
noncomputable def o22 := ob Tryz.f5 [.r,.r,.r,.r,.r,.r,.r,.r,.r,.l]
def B22 (P : PT) (x1 : Nat) (x4 : Value) (x5 : Int) (x6 : Nat) (x7 : Value) (x8 : Int) (H : AHeap) : Prop :=
  B21 P x1 x4 x5 x6 x7 x8 1 H
theorem q22 (P : PT) : QB Tryz.prog T0 96 o22 (En 96 k9 (B21 P)) k10 (B22 P) := fun _ _ _ _ _ _ _ _  => by kernel_rfl
noncomputable def o23 := ob Tryz.f5 [.r,.r,.r,.r,.r,.r,.r,.r,.l,.r,.l,.l]
def B23 (P : PT) (H : AHeap) : Prop :=
  P (Value.bool false) H
theorem q23 (P : PT) : QB Tryz.prog T0 96 o23 (ret P) k0 (B23 P) := fun _ _  => by kernel_rfl
noncomputable def o24 := ob Tryz.f5 [.r,.r,.r,.r,.r,.r,.r,.r,.l,.l]
def B24 (P : PT) (x1 : Nat) (x4 : Value) (x5 : Int) (x6 : Nat) (x7 : Value) (x8 : Int) (H : AHeap) : Prop :=
  ldI .i64 H x6 0 (fun v1 => ld1 H x6 1 (fun v2 => ldI .i64 H x1 0 (fun v3 => ld1 H x1 1 (fun v4 => AC Tryz.prog T0 41 [(Value.agg ⟨[(Value.int .i64 v3), v4]⟩)] H (fun v5 H6 => agg2 v5 (fun v7 v8 => asI .i64 v7 (fun v9 => (AHeap.le H H6) ∧ (AC Tryz.prog T0 44 [(Value.agg ⟨[(Value.int .i64 v1), v2]⟩), (Value.agg ⟨[(Value.int .i64 v9), v8]⟩)] H6 (fun v11 H12 => asB v11 (fun v13 => pif (!v13) (B23 P H12) (B22 P x1 x4 x5 x6 x7 x8 H12)))))))))))
theorem q24 (P : PT) : QD Tryz.prog T0 96 o24 [(0, false), (1, false), (2, true), (3, false), (4, false)] (cnd 45 (En 96 k0 (B23 P)) (En 96 k10 (B22 P))) k10 (B24 P) := fun _ _ _ _ _ _ _ _  => by kernel_rfl
noncomputable def o25 := ob Tryz.f5 [.r,.r,.r,.r,.r,.r,.r,.l,.r,.l,.l]
def B25 (P : PT) (H : AHeap) : Prop :=
  P (Value.bool false) H
theorem q25 (P : PT) : QB Tryz.prog T0 96 o25 (ret P) k0 (B25 P) := fun _ _  => by kernel_rfl
noncomputable def o26 := ob Tryz.f5 [.r,.r,.r,.r,.r,.r,.r,.l,.l]
def B26 (P : PT) (x1 : Nat) (x4 : Value) (x5 : Int) (x6 : Nat) (x7 : Value) (x8 : Int) (H : AHeap) : Prop :=
  AC Tryz.prog T0 43 [x7, x4] H (fun v1 H2 => asB v1 (fun v3 => pif (!v3) (B25 P H2) (pif ((x8 : Int) != x5) (B25 P H2) (B24 P x1 x4 x5 x6 x7 x8 H2))))
theorem q26 (P : PT) : QB Tryz.prog T0 96 o26 (cnd 40 (En 96 k0 (B25 P)) (En 96 k10 (B24 P))) k10 (B26 P) := fun _ _ _ _ _ _ _ _  => by kernel_rfl
abbrev k11 : Sk := [(1,.x),(4,.v),(5,.i .i64),(6,.x)]
noncomputable def o27 := ob Tryz.f5 [.r,.r,.r,.r,.r,.r,.l]
def B27 (P : PT) (x1 : Nat) (x4 : Value) (x5 : Int) (x6 : Nat) (H : AHeap) : Prop :=
  ldI .i64 H x6 0 (fun v1 => ld1 H x6 1 (fun v2 => AC Tryz.prog T0 42 [(Value.agg ⟨[(Value.int .i64 v1), v2]⟩)] H (fun v3 H4 => tup2 v3 (fun v5 v6 => asI .i64 v6 (fun v8 => B26 P x1 x4 x5 x6 v5 v8 H4)))))
theorem q27 (P : PT) : QB Tryz.prog T0 96 o27 (En 96 k10 (B26 P)) k11 (B27 P) := fun _ _ _ _ _ _  => by kernel_rfl
abbrev k12 : Sk := [(1,.x),(4,.v),(5,.i .i64)]
noncomputable def o28 := ob Tryz.f5 [.r,.r,.r,.r,.r,.l]
def B28 (P : PT) (x1 : Nat) (x4 : Value) (x5 : Int) (H : AHeap) : Prop :=
  ldI .i64 H x1 0 (fun v1 => ld1 H x1 1 (fun v2 => AC Tryz.prog T0 41 [(Value.agg ⟨[(Value.int .i64 v1), v2]⟩)] H (fun v3 H4 => agg2 v3 (fun v5 v6 => asI .i64 v5 (fun v7 => newK H4 [(Value.int .i64 0), (Value.slice none 0 0)] 26 (fun b9 H10 => stK H10 b9 0 [(Value.int .i64 v7), v6] (fun H11 => B27 P x1 x4 x5 b9 H11)))))))
theorem q28 (P : PT) : QB Tryz.prog T0 96 o28 (En 96 k11 (B27 P)) k12 (B28 P) := fun _ _ _ _ _  => by kernel_rfl
abbrev k13 : Sk := [(1,.x)]
noncomputable def o29 := ob Tryz.f5 [.r,.r,.r,.r,.l]
def B29 (P : PT) (x1 : Nat) (H : AHeap) : Prop :=
  ldI .i64 H x1 0 (fun v1 => ld1 H x1 1 (fun v2 => AC Tryz.prog T0 41 [(Value.agg ⟨[(Value.int .i64 v1), v2]⟩)] H (fun v3 H4 => agg2 v3 (fun v5 v6 => asI .i64 v5 (fun v7 => AC Tryz.prog T0 40 [(Value.agg ⟨[(Value.int .i64 v7), v6]⟩)] H4 (fun v9 H10 => tup2 v9 (fun v11 v12 => asI .i64 v12 (fun v14 => B28 P x1 v11 v14 H10))))))))
theorem q29 (P : PT) : QB Tryz.prog T0 96 o29 (En 96 k12 (B28 P)) k13 (B29 P) := fun _ _ _  => by kernel_rfl
noncomputable def o30 := ob Tryz.f5 [.r,.r,.r,.l,.r,.l,.l]
def B30 (P : PT) (H : AHeap) : Prop :=
  P (Value.bool true) H
theorem q30 (P : PT) : QB Tryz.prog T0 96 o30 (ret P) k0 (B30 P) := fun _ _  => by kernel_rfl
abbrev k14 : Sk := [(1,.x),(3,.i .i64)]
noncomputable def o31 := ob Tryz.f5 [.r,.r,.r,.l,.l]
def B31 (P : PT) (x1 : Nat) (x3 : Int) (H : AHeap) : Prop :=
  pif (decide ((x3 : Int) < 0)) (B30 P H) (B29 P x1 H)
theorem q31 (P : PT) : QB Tryz.prog T0 96 o31 (cnd 18 (En 96 k0 (B30 P)) (En 96 k13 (B29 P))) k14 (B31 P) := fun _ _ _ _  => by kernel_rfl
noncomputable def o32 := ob Tryz.f5 [.r,.r,.l]
def B32 (P : PT) (x1 : Nat) (x3 : Int) (H : AHeap) : Prop :=
  ldI .i64 H x1 0 (fun v1 => ld1 H x1 1 (fun v2 => AC Tryz.prog T0 39 [(Value.agg ⟨[(Value.int .i64 v1), v2]⟩), (Value.int .i64 x3)] H (fun v3 H4 => asI .i64 v3 (fun v5 => B31 P x1 v5 H4))))
theorem q32 (P : PT) : QB Tryz.prog T0 96 o32 (En 96 k14 (B31 P)) k14 (B32 P) := fun _ _ _ _  => by kernel_rfl
noncomputable def o33 := ob Tryz.f5 [.r,.l]
def B33 (P : PT) (x1 : Nat) (H : AHeap) : Prop :=
  B32 P x1 1048576 H
theorem q33 (P : PT) : QB Tryz.prog T0 96 o33 (En 96 k14 (B32 P)) k13 (B33 P) := fun _ _ _  => by kernel_rfl
abbrev k15 : Sk := [(0,.g [.i,.v])]
noncomputable def o34 := ob Tryz.f5 [.l]
def B34 (P : PT) (x0a : Int) (x0b : Value) (H : AHeap) : Prop :=
  newK H [(Value.int .i64 x0a), x0b] 51 (fun b1 H2 => B33 P b1 H2)
theorem q34 (P : PT) : QB Tryz.prog T0 96 o34 (En 96 k13 (B33 P)) k15 (B34 P) := fun _ _ _ _  => by kernel_rfl
noncomputable def code : Code := (.seq (.region 0 ⟨o34⟩ false) (.seq (.region 1 ⟨o33⟩ false) (.seq (.region 2 ⟨o32⟩ false) (.seq (.seq (.region 3 ⟨o31⟩ false) (.cond (.tmp 18) (.seq (.region 4 ⟨o30⟩ false) .ret) .skip)) (.seq (.region 5 ⟨o29⟩ false) (.seq (.region 6 ⟨o28⟩ false) (.seq (.region 7 ⟨o27⟩ false) (.seq (.seq (.region 8 ⟨o26⟩ false) (.cond (.tmp 40) (.seq (.region 9 ⟨o25⟩ false) .ret) .skip)) (.seq (.seq (.region 10 ⟨o24⟩ true) (.cond (.tmp 45) (.seq (.region 11 ⟨o23⟩ false) .ret) .skip)) (.seq (.region 12 ⟨o22⟩ false) (.seq (.region 13 ⟨o21⟩ false) (.seq (.seq (.region 14 ⟨o20⟩ false) (.cond (.tmp 61) (.seq (.region 15 ⟨o19⟩ false) .ret) .skip)) (.seq (.region 16 ⟨o18⟩ false) (.seq (.region 17 ⟨o17⟩ false) (.seq (.region 18 ⟨o16⟩ false) (.seq (.region 19 ⟨o15⟩ false) (.seq (.seq (.region 20 ⟨o14⟩ false) (.cond (.tmp 69) (.seq (.region 21 ⟨o13⟩ false) .ret) .skip)) (.seq (.seq (.region 22 ⟨o12⟩ false) (.cond (.tmp 72) (.seq (.region 23 ⟨o11⟩ false) .ret) .skip)) (.seq (.region 24 ⟨o10⟩ false) (.seq (.seq (.region 25 ⟨o9⟩ false) (.cond (.tmp 87) (.seq (.region 26 ⟨o8⟩ false) .ret) .skip)) (.seq (.region 27 ⟨o7⟩ false) (.seq (.region 28 ⟨o6⟩ false) (.seq (.seq (.region 29 ⟨o5⟩ false) (.cond (.tmp 92) (.seq (.region 30 ⟨o4⟩ false) .ret) .skip)) (.seq (.seq (.region 31 ⟨o3⟩ false) (.cond (.tmp 95) (.seq (.region 32 ⟨o2⟩ false) .ret) .skip)) (.seq (.region 33 ⟨o1⟩ false) .ret)))))))))))))))))))))))))
theorem body : Tryz.f5.body = some code := by kernel_rfl
theorem main (P : PT) : ∀ env H, (En 96 k15 (B34 P)) env H → AW Tryz.prog T0 code env H (mkQ (ret P) (fun _ _ _ => False) (ret P)) :=
  (r_seq (rB T0_ok (q34 P)) (r_seq (rB T0_ok (q33 P)) (r_seq (rB T0_ok (q32 P)) (r_seq (r_seq (rB T0_ok (q31 P)) (r_cond rfl (r_seq (rB T0_ok (q30 P)) r_ret) r_skip)) (r_seq (rB T0_ok (q29 P)) (r_seq (rB T0_ok (q28 P)) (r_seq (rB T0_ok (q27 P)) (r_seq (r_seq (rB T0_ok (q26 P)) (r_cond rfl (r_seq (rB T0_ok (q25 P)) r_ret) r_skip)) (r_seq (r_seq (rD T0_ok mixed [(0, false), (1, false), (2, true), (3, false), (4, false)] (by kernel_rfl) (q24 P)) (r_cond rfl (r_seq (rB T0_ok (q23 P)) r_ret) r_skip)) (r_seq (rB T0_ok (q22 P)) (r_seq (rB T0_ok (q21 P)) (r_seq (r_seq (rB T0_ok (q20 P)) (r_cond rfl (r_seq (rB T0_ok (q19 P)) r_ret) r_skip)) (r_seq (rB T0_ok (q18 P)) (r_seq (rB T0_ok (q17 P)) (r_seq (rB T0_ok (q16 P)) (r_seq (rB T0_ok (q15 P)) (r_seq (r_seq (rB T0_ok (q14 P)) (r_cond rfl (r_seq (rB T0_ok (q13 P)) r_ret) r_skip)) (r_seq (r_seq (rB T0_ok (q12 P)) (r_cond rfl (r_seq (rB T0_ok (q11 P)) r_ret) r_skip)) (r_seq (rB T0_ok (q10 P)) (r_seq (r_seq (rB T0_ok (q9 P)) (r_cond rfl (r_seq (rB T0_ok (q8 P)) r_ret) r_skip)) (r_seq (rB T0_ok (q7 P)) (r_seq (rB T0_ok (q6 P)) (r_seq (r_seq (rB T0_ok (q5 P)) (r_cond rfl (r_seq (rB T0_ok (q4 P)) r_ret) r_skip)) (r_seq (r_seq (rB T0_ok (q3 P)) (r_cond rfl (r_seq (rB T0_ok (q2 P)) r_ret) r_skip)) (r_seq (rB T0_ok (q1 P)) r_ret)))))))))))))))))))))))))
theorem ac (P : PT) (x0a : Int) (x0b : Value) (H : AHeap) (h : B34 P x0a x0b H) : AC Tryz.prog T0 5 [(Value.agg ⟨[(Value.int .i64 x0a), x0b]⟩)] H P :=
  r_fn T0_ok (c := code) (n := 96) Tryz.func5 body (by kernel_rfl) (main P) (En_mk (x0a, x0b, ()) (by kernel_rfl) ⟨by kernel_rfl, trivial⟩ h)

end F5
-- loop.example/g01329/laws.szGraph
namespace F39
noncomputable def ret (P : PT) : EP := retE T0 12 Tryz.f39 P
abbrev k0 : Sk := [(1,.i .i64)]
noncomputable def o1 := ob Tryz.f39 [.r,.r,.r,.l]
def B1 (P : PT) (x1 : Int) (H : AHeap) : Prop :=
  P (Value.int .i64 x1) H
theorem q1 (P : PT) : QB Tryz.prog T0 12 o1 (ret P) k0 (B1 P) := fun _ _ _  => by kernel_rfl
abbrev k1 : Sk := []
noncomputable def o2 := ob Tryz.f39 [.r,.r,.l,.r,.l,.l]
def B2 (P : PT) (H : AHeap) : Prop :=
  P (Value.int .i64 (-1)) H
theorem q2 (P : PT) : QB Tryz.prog T0 12 o2 (ret P) k1 (B2 P) := fun _ _  => by kernel_rfl
noncomputable def o3 := ob Tryz.f39 [.r,.r,.l,.l]
def B3 (P : PT) (x1 : Int) (H : AHeap) : Prop :=
  pif (decide ((x1 : Int) < 0)) (B2 P H) (B1 P x1 H)
theorem q3 (P : PT) : QB Tryz.prog T0 12 o3 (cnd 10 (En 12 k1 (B2 P)) (En 12 k0 (B1 P))) k0 (B3 P) := fun _ _ _  => by kernel_rfl
abbrev k2 : Sk := [(1,.i .i64),(2,.x)]
noncomputable def o4 := ob Tryz.f39 [.r,.l]
def B4 (P : PT) (x1 : Int) (x2 : Nat) (H : AHeap) : Prop :=
  ld1 H x2 1 (fun v1 => AC Tryz.prog T0 108 [v1, (Value.int .i64 x1)] H (fun v2 H3 => asI .i64 v2 (fun v4 => B3 P v4 H3)))
theorem q4 (P : PT) : QB Tryz.prog T0 12 o4 (En 12 k0 (B3 P)) k2 (B4 P) := fun _ _ _ _  => by kernel_rfl
abbrev k3 : Sk := [(0,.g [.i,.v]),(1,.i .i64)]
noncomputable def o5 := ob Tryz.f39 [.l]
def B5 (P : PT) (x0a : Int) (x0b : Value) (x1 : Int) (H : AHeap) : Prop :=
  newK H [(Value.int .i64 x0a), x0b] 51 (fun b1 H2 => B4 P x1 b1 H2)
theorem q5 (P : PT) : QB Tryz.prog T0 12 o5 (En 12 k2 (B4 P)) k3 (B5 P) := fun _ _ _ _ _  => by kernel_rfl
noncomputable def code : Code := (.seq (.region 0 ⟨o5⟩ false) (.seq (.region 1 ⟨o4⟩ false) (.seq (.seq (.region 2 ⟨o3⟩ false) (.cond (.tmp 10) (.seq (.region 3 ⟨o2⟩ false) .ret) .skip)) (.seq (.region 4 ⟨o1⟩ false) .ret))))
theorem body : Tryz.f39.body = some code := by kernel_rfl
theorem main (P : PT) : ∀ env H, (En 12 k3 (B5 P)) env H → AW Tryz.prog T0 code env H (mkQ (ret P) (fun _ _ _ => False) (ret P)) :=
  (r_seq (rB T0_ok (q5 P)) (r_seq (rB T0_ok (q4 P)) (r_seq (r_seq (rB T0_ok (q3 P)) (r_cond rfl (r_seq (rB T0_ok (q2 P)) r_ret) r_skip)) (r_seq (rB T0_ok (q1 P)) r_ret))))
theorem ac (P : PT) (x0a : Int) (x0b : Value) (x1 : Int) (H : AHeap) (h : B5 P x0a x0b x1 H) : AC Tryz.prog T0 39 [(Value.agg ⟨[(Value.int .i64 x0a), x0b]⟩), (Value.int .i64 x1)] H P :=
  r_fn T0_ok (c := code) (n := 12) Tryz.func39 body (by kernel_rfl) (main P) (En_mk (x0a, x0b, x1, ()) (by kernel_rfl) ⟨by kernel_rfl, by kernel_rfl, trivial⟩ h)

end F39
-- loop.example/g01329/spec.AllCycles
namespace F40
noncomputable def ret (P : PT) : EP := retE T0 15 Tryz.f40 P
abbrev k0 : Sk := [(1,.x)]
noncomputable def o1 := ob Tryz.f40 [.r,.r,.l]
def B1 (P : PT) (x1 : Nat) (H : AHeap) : Prop :=
  ldI .i64 H x1 0 (fun v1 => ld1 H x1 1 (fun v2 => AC Tryz.prog T0 110 [(Value.agg ⟨[(Value.int .i64 v1), v2]⟩)] H (fun v3 H4 => AC Tryz.prog T0 109 [v3] H4 (fun v6 H7 => P (Value.tuple ⟨[v6, (Value.int .i64 0)]⟩) H7))))
theorem q1 (P : PT) : QB Tryz.prog T0 15 o1 (ret P) k0 (B1 P) := fun _ _ _  => by kernel_rfl
abbrev k1 : Sk := []
noncomputable def o2 := ob Tryz.f40 [.r,.l,.l,.r,.l,.l]
def B2 (P : PT) (H : AHeap) : Prop :=
  P (Value.tuple ⟨[(Value.slice none 0 0), (Value.int .i64 1)]⟩) H
theorem q2 (P : PT) : QB Tryz.prog T0 15 o2 (ret P) k1 (B2 P) := fun _ _  => by kernel_rfl
noncomputable def o3 := ob Tryz.f40 [.r,.l,.l,.r,.r,.r,.l,.l]
def B3 (P : PT) (H : AHeap) : Prop :=
  P (Value.tuple ⟨[(Value.slice none 0 0), (Value.int .i64 3)]⟩) H
theorem q3 (P : PT) : QB Tryz.prog T0 15 o3 (ret P) k1 (B3 P) := fun _ _  => by kernel_rfl
noncomputable def o4 := ob Tryz.f40 [.r,.l,.l,.r,.r,.l]
def B4 (P : PT) (x1 : Nat) (H : AHeap) : Prop :=
  ldI .i64 H x1 0 (fun v1 => pif (decide ((v1 : Int) > 12)) (B3 P H) (B1 P x1 H))
theorem q4 (P : PT) : QB Tryz.prog T0 15 o4 (cnd 8 (En 15 k1 (B3 P)) (En 15 k0 (B1 P))) k0 (B4 P) := fun _ _ _  => by kernel_rfl
noncomputable def o5 := ob Tryz.f40 [.r,.l,.l,.l]
def B5 (P : PT) (x1 : Nat) (H : AHeap) : Prop :=
  ldI .i64 H x1 0 (fun v1 => ld1 H x1 1 (fun v2 => AC Tryz.prog T0 75 [(Value.agg ⟨[(Value.int .i64 v1), v2]⟩)] H (fun v3 H4 => asB v3 (fun v5 => pif (!v5) (B2 P H4) (B4 P x1 H4)))))
theorem q5 (P : PT) : QB Tryz.prog T0 15 o5 (cnd 4 (En 15 k1 (B2 P)) (En 15 k0 (B4 P))) k0 (B5 P) := fun _ _ _  => by kernel_rfl
abbrev k2 : Sk := [(0,.g [.i,.v])]
noncomputable def o6 := ob Tryz.f40 [.l]
def B6 (P : PT) (x0a : Int) (x0b : Value) (H : AHeap) : Prop :=
  newK H [(Value.int .i64 x0a), x0b] 26 (fun b1 H2 => B5 P b1 H2)
theorem q6 (P : PT) : QB Tryz.prog T0 15 o6 (En 15 k0 (B5 P)) k2 (B6 P) := fun _ _ _ _  => by kernel_rfl
noncomputable def code : Code := (.seq (.region 0 ⟨o6⟩ false) (.seq (.block 0 (.seq (.region 1 ⟨o5⟩ false) (.cond (.tmp 4) (.seq (.region 2 ⟨o2⟩ false) .ret) (.seq (.region 3 ⟨o4⟩ false) (.cond (.tmp 8) (.seq (.region 4 ⟨o3⟩ false) .ret) .skip))))) (.seq (.region 5 ⟨o1⟩ false) .ret)))
theorem body : Tryz.f40.body = some code := by kernel_rfl
theorem main (P : PT) : ∀ env H, (En 15 k2 (B6 P)) env H → AW Tryz.prog T0 code env H (mkQ (ret P) (fun _ _ _ => False) (ret P)) :=
  (r_seq (rB T0_ok (q6 P)) (r_seq (r_block (r_seq (rB T0_ok (q5 P)) (r_cond rfl (r_seq (rB T0_ok (q2 P)) r_ret) (r_seq (rB T0_ok (q4 P)) (r_cond rfl (r_seq (rB T0_ok (q3 P)) r_ret) r_skip))))) (r_seq (rB T0_ok (q1 P)) r_ret)))
theorem ac (P : PT) (x0a : Int) (x0b : Value) (H : AHeap) (h : B6 P x0a x0b H) : AC Tryz.prog T0 40 [(Value.agg ⟨[(Value.int .i64 x0a), x0b]⟩)] H P :=
  r_fn T0_ok (c := code) (n := 15) Tryz.func40 body (by kernel_rfl) (main P) (En_mk (x0a, x0b, ()) (by kernel_rfl) ⟨by kernel_rfl, trivial⟩ h)

end F40
-- loop.example/g01329/laws.toGraph
namespace F41
noncomputable def ret (P : PT) : EP := retE T0 12 Tryz.f41 P
abbrev k0 : Sk := [(2,.x),(3,.x)]
noncomputable def o1 := ob Tryz.f41 [.r,.r,.r,.r,.l]
def B1 (P : PT) (x2 x3 : Nat) (H : AHeap) : Prop :=
  ldI .i64 H x3 0 (fun v1 => ld1 H x3 1 (fun v2 => stK H x2 0 [(Value.int .i64 v1), v2] (fun H3 => ldI .i64 H3 x2 0 (fun v4 => ld1 H3 x2 1 (fun v5 => P (Value.agg ⟨[(Value.int .i64 v4), v5]⟩) H3)))))
theorem q1 (P : PT) : QB Tryz.prog T0 12 o1 (ret P) k0 (B1 P) := fun _ _ _ _  => by kernel_rfl
abbrev k1 : Sk := [(1,.x),(2,.x),(3,.x)]
noncomputable def o2 := ob Tryz.f41 [.r,.r,.r,.l]
def B2 (P : PT) (x1 x2 x3 : Nat) (H : AHeap) : Prop :=
  ld1 H x1 1 (fun v1 => AC Tryz.prog T0 111 [v1] H (fun v2 H3 => pif (Value.oneCell' v2) (stK H3 x3 1 [v2] (fun H5 => B1 P x2 x3 H5)) False))
theorem q2 (P : PT) : QB Tryz.prog T0 12 o2 (En 12 k0 (B1 P)) k1 (B2 P) := fun _ _ _ _ _  => by kernel_rfl
noncomputable def o3 := ob Tryz.f41 [.r,.r,.l]
def B3 (P : PT) (x1 x2 x3 : Nat) (H : AHeap) : Prop :=
  ldI .i64 H x1 0 (fun v1 => stK H x3 0 [(Value.int .i64 v1)] (fun H2 => B2 P x1 x2 x3 H2))
theorem q3 (P : PT) : QB Tryz.prog T0 12 o3 (En 12 k1 (B2 P)) k1 (B3 P) := fun _ _ _ _ _  => by kernel_rfl
abbrev k2 : Sk := [(1,.x),(2,.x)]
noncomputable def o4 := ob Tryz.f41 [.r,.l]
def B4 (P : PT) (x1 x2 : Nat) (H : AHeap) : Prop :=
  newK H [(Value.int .i64 0), (Value.slice none 0 0)] 26 (fun b1 H2 => B3 P x1 x2 b1 H2)
theorem q4 (P : PT) : QB Tryz.prog T0 12 o4 (En 12 k1 (B3 P)) k2 (B4 P) := fun _ _ _ _  => by kernel_rfl
abbrev k3 : Sk := [(0,.g [.i,.v])]
noncomputable def o5 := ob Tryz.f41 [.l]
def B5 (P : PT) (x0a : Int) (x0b : Value) (H : AHeap) : Prop :=
  newK H [(Value.int .i64 x0a), x0b] 51 (fun b1 H2 => newK H2 [(Value.int .i64 0), (Value.slice none 0 0)] 26 (fun b3 H4 => B4 P b1 b3 H4))
theorem q5 (P : PT) : QB Tryz.prog T0 12 o5 (En 12 k2 (B4 P)) k3 (B5 P) := fun _ _ _ _  => by kernel_rfl
noncomputable def code : Code := (.seq (.region 0 ⟨o5⟩ false) (.seq (.region 1 ⟨o4⟩ false) (.seq (.region 2 ⟨o3⟩ false) (.seq (.region 3 ⟨o2⟩ false) (.seq (.region 4 ⟨o1⟩ false) .ret)))))
theorem body : Tryz.f41.body = some code := by kernel_rfl
theorem main (P : PT) : ∀ env H, (En 12 k3 (B5 P)) env H → AW Tryz.prog T0 code env H (mkQ (ret P) (fun _ _ _ => False) (ret P)) :=
  (r_seq (rB T0_ok (q5 P)) (r_seq (rB T0_ok (q4 P)) (r_seq (rB T0_ok (q3 P)) (r_seq (rB T0_ok (q2 P)) (r_seq (rB T0_ok (q1 P)) r_ret)))))
theorem ac (P : PT) (x0a : Int) (x0b : Value) (H : AHeap) (h : B5 P x0a x0b H) : AC Tryz.prog T0 41 [(Value.agg ⟨[(Value.int .i64 x0a), x0b]⟩)] H P :=
  r_fn T0_ok (c := code) (n := 12) Tryz.func41 body (by kernel_rfl) (main P) (En_mk (x0a, x0b, ()) (by kernel_rfl) ⟨by kernel_rfl, trivial⟩ h)

end F41
-- loop.example/g01329/impl.AllCycles
namespace F42
noncomputable def ret (P : PT) : EP := retE T0 48 Tryz.f42 P
abbrev k0 : Sk := [(5,.v)]
noncomputable def o1 := ob Tryz.f42 [.r,.r,.r,.r,.r,.r,.r,.l]
def B1 (P : PT) (x5 : Value) (H : AHeap) : Prop :=
  AC Tryz.prog T0 119 [x5] H (fun v1 H2 => P (Value.tuple ⟨[v1, (Value.int .i64 0)]⟩) H2)
theorem q1 (P : PT) : QB Tryz.prog T0 48 o1 (ret P) k0 (B1 P) := fun _ _ _  => by kernel_rfl
noncomputable def o2 := ob Tryz.f42 [.r,.r,.r,.r,.r,.r,.l]
def B2 (P : PT) (x5 : Value) (H : AHeap) : Prop :=
  AC Tryz.prog T0 117 [x5, (Value.func (.func 118) ⟨[]⟩ ⟨[]⟩)] H (fun v1 H2 => asTup v1 (fun l3 => B1 P x5 H2))
theorem q2 (P : PT) : QB Tryz.prog T0 48 o2 (En 48 k0 (B1 P)) k0 (B2 P) := fun _ _ _  => by kernel_rfl
abbrev k1 : Sk := [(1,.x),(5,.v)]
noncomputable def o3 := ob Tryz.f42 [.r,.r,.r,.r,.r,.l]
def B3 (P : PT) (x1 : Nat) (x5 : Value) (H : AHeap) : Prop :=
  AC Tryz.prog T0 114 [x5, (Value.func (.func 115) ⟨[]⟩ ⟨[(Value.pointer (some ⟨x1, 0, none⟩))]⟩)] H (fun v1 H2 => B2 P v1 H2)
theorem q3 (P : PT) : QB Tryz.prog T0 48 o3 (En 48 k0 (B2 P)) k1 (B3 P) := fun _ _ _ _  => by kernel_rfl
abbrev k2 : Sk := [(1,.x),(5,.v),(20,.v),(21,.i .i64),(22,.i .i64)]
noncomputable def o5 := ob Tryz.f42 [.r,.r,.r,.r,.l,.r,.l,.l,.r,.r,.r]
def B5 (P : PT) (N4 : NTy k2 Pr) (x1 : Nat) (x5 x20 : Value) (x21 x22 : Int) (H : AHeap) : Prop :=
  N4 x1 x5 x20 x21 (IntKind.i64.wrap (x22 + 1)) H
theorem q5 (P : PT) (N4 : NTy k2 Pr) : QB Tryz.prog T0 48 o5 (En 48 k2 N4) k2 (B5 P N4) := fun _ _ _ _ _ _ _  => by kernel_rfl
abbrev k3 : Sk := [(1,.x),(5,.v),(7,.i .u64),(20,.v),(21,.i .i64),(22,.i .i64),(27,.v),(28,.i .i64),(29,.i .i64)]
noncomputable def o7 := ob Tryz.f42 [.r,.r,.r,.r,.l,.r,.l,.l,.r,.r,.l,.l,.r,.r,.l,.l,.r,.r,.r]
def B7 (P : PT) (N4 : NTy k2 Pr) (N6 : NTy k3 Pr) (x1 : Nat) (x5 : Value) (x7 : Int) (x20 : Value) (x21 x22 : Int) (x27 : Value) (x28 x29 : Int) (H : AHeap) : Prop :=
  N6 x1 x5 x7 x20 x21 x22 x27 x28 (IntKind.i64.wrap (x29 + 1)) H
theorem q7 (P : PT) (N4 : NTy k2 Pr) (N6 : NTy k3 Pr) : QB Tryz.prog T0 48 o7 (En 48 k3 N6) k3 (B7 P N4 N6) := fun _ _ _ _ _ _ _ _ _ _ _  => by kernel_rfl
abbrev k4 : Sk := [(1,.x),(5,.v),(7,.i .u64),(9,.i .u64),(20,.v),(21,.i .i64),(22,.i .i64),(27,.v),(28,.i .i64),(29,.i .i64)]
noncomputable def o8 := ob Tryz.f42 [.r,.r,.r,.r,.l,.r,.l,.l,.r,.r,.l,.l,.r,.r,.l,.l,.r,.r,.l,.l,.r]
def B8 (P : PT) (N4 : NTy k2 Pr) (N6 : NTy k3 Pr) (x1 : Nat) (x5 : Value) (x7 x9 : Int) (x20 : Value) (x21 x22 : Int) (x27 : Value) (x28 x29 : Int) (H : AHeap) : Prop :=
  newK H [(Value.int .u64 (IntKind.u64.wrap (BitVec.ofInt 64 x9 ^^^ BitVec.ofInt 64 x7).toNat))] 81 (fun b1 H2 => apK T0 81 H2 x5 (Value.slice (some ⟨b1, 0, none⟩) 1 (1 + 1)) (fun v3 H4 => B7 P N4 N6 x1 v3 x7 x20 x21 x22 x27 x28 x29 H4))
theorem q8 (P : PT) (N4 : NTy k2 Pr) (N6 : NTy k3 Pr) : QB Tryz.prog T0 48 o8 (En 48 k3 (B7 P N4 N6)) k4 (B8 P N4 N6) := fun _ _ _ _ _ _ _ _ _ _ _ _  => by kernel_rfl
noncomputable def o9 := ob Tryz.f42 [.r,.r,.r,.r,.l,.r,.l,.l,.r,.r,.l,.l,.r,.r,.l,.l,.r,.r,.l,.l,.l]
def B9 (P : PT) (N4 : NTy k2 Pr) (N6 : NTy k3 Pr) (x1 : Nat) (x5 : Value) (x7 : Int) (x20 : Value) (x21 x22 : Int) (x27 : Value) (x28 x29 : Int) (H : AHeap) : Prop :=
  idxK x27 x29 1 (fun b1 o2 => ldI .u64 H b1 o2 (fun v3 => B8 P N4 N6 x1 x5 x7 v3 x20 x21 x22 x27 x28 x29 H))
theorem q9 (P : PT) (N4 : NTy k2 Pr) (N6 : NTy k3 Pr) : QB Tryz.prog T0 48 o9 (En 48 k4 (B8 P N4 N6)) k3 (B9 P N4 N6) := fun _ _ _ _ _ _ _ _ _ _ _  => by kernel_rfl
noncomputable def o10 := ob Tryz.f42 [.r,.r,.r,.r,.l,.r,.l,.l,.r,.r,.l,.l,.r,.r,.l,.l,.l]
def B10 (P : PT) (N4 : NTy k2 Pr) (N6 : NTy k3 Pr) (x1 : Nat) (x5 : Value) (x7 : Int) (x20 : Value) (x21 x22 : Int) (x27 : Value) (x28 x29 : Int) (H : AHeap) : Prop :=
  pif (decide ((x29 : Int) < x28)) (B9 P N4 N6 x1 x5 x7 x20 x21 x22 x27 x28 x29 H) (B5 P N4 x1 x5 x20 x21 x22 H)
theorem q10 (P : PT) (N4 : NTy k2 Pr) (N6 : NTy k3 Pr) : QB Tryz.prog T0 48 o10 (cnd 30 (En 48 k3 (B9 P N4 N6)) (En 48 k2 (B5 P N4))) k3 (B10 P N4 N6) := fun _ _ _ _ _ _ _ _ _ _ _  => by kernel_rfl
def L6 (P : PT) (N4 : NTy k2 Pr) (x1 : Nat) (x5 : Value) (x7 : Int) (x20 : Value) (x21 x22 : Int) (x27 : Value) (x28 x29 : Int) (H : AHeap) : Prop :=
  ∃ (I : NTy k3 Pr) (μ : NTy k3 (AHeap → Nat)), I x1 x5 x7 x20 x21 x22 x27 x28 x29 H ∧ ∀ y1 y5 y7 y20 y21 y22 y27 y28 y29 G, I y1 y5 y7 y20 y21 y22 y27 y28 y29 G → B10 P N4 (fun z1 z5 z7 z20 z21 z22 z27 z28 z29 G' => I z1 z5 z7 z20 z21 z22 z27 z28 z29 G' ∧ μ z1 z5 z7 z20 z21 z22 z27 z28 z29 G' < μ y1 y5 y7 y20 y21 y22 y27 y28 y29 G) y1 y5 y7 y20 y21 y22 y27 y28 y29 G
theorem l6 (P : PT) (N4 : NTy k2 Pr) : LQ k3 (L6 P N4) (B10 P N4) := fun ⟨_,_,_,_,_,_,_,_,_,_⟩ _ ⟨I, μ, h0, hI⟩ => ⟨apT _ I, apT _ μ, h0, fun ⟨_,_,_,_,_,_,_,_,_,_⟩ _ h => hI _ _ _ _ _ _ _ _ _ _  h⟩
abbrev k5 : Sk := [(1,.x),(5,.v),(7,.i .u64),(20,.v),(21,.i .i64),(22,.i .i64)]
noncomputable def o11 := ob Tryz.f42 [.r,.r,.r,.r,.l,.r,.l,.l,.r,.r,.l,.l,.r,.l]
def B11 (P : PT) (N4 : NTy k2 Pr) (x1 : Nat) (x5 : Value) (x7 : Int) (x20 : Value) (x21 x22 : Int) (H : AHeap) : Prop :=
  AC Tryz.prog T0 113 [x5] H (fun v1 H2 => lenK v1 (fun n4 => L6 P N4 x1 x5 x7 x20 x21 x22 v1 (n4 : Int) 0 H2))
theorem q11 (P : PT) (N4 : NTy k2 Pr) : QB Tryz.prog T0 48 o11 (En 48 k3 (L6 P N4)) k5 (B11 P N4) := fun _ _ _ _ _ _ _ _  => by kernel_rfl
noncomputable def o12 := ob Tryz.f42 [.r,.r,.r,.r,.l,.r,.l,.l,.r,.r,.l,.l,.l]
def B12 (P : PT) (N4 : NTy k2 Pr) (x1 : Nat) (x5 x20 : Value) (x21 x22 : Int) (H : AHeap) : Prop :=
  idxK x20 x22 1 (fun b1 o2 => ldI .u64 H b1 o2 (fun v3 => B11 P N4 x1 x5 v3 x20 x21 x22 H))
theorem q12 (P : PT) (N4 : NTy k2 Pr) : QB Tryz.prog T0 48 o12 (En 48 k5 (B11 P N4)) k2 (B12 P N4) := fun _ _ _ _ _ _ _  => by kernel_rfl
noncomputable def o13 := ob Tryz.f42 [.r,.r,.r,.r,.l,.r,.l,.l,.l]
def B13 (P : PT) (N4 : NTy k2 Pr) (x1 : Nat) (x5 x20 : Value) (x21 x22 : Int) (H : AHeap) : Prop :=
  pif (decide ((x22 : Int) < x21)) (B12 P N4 x1 x5 x20 x21 x22 H) (B3 P x1 x5 H)
theorem q13 (P : PT) (N4 : NTy k2 Pr) : QB Tryz.prog T0 48 o13 (cnd 23 (En 48 k2 (B12 P N4)) (En 48 k1 (B3 P))) k2 (B13 P N4) := fun _ _ _ _ _ _ _  => by kernel_rfl
def L4 (P : PT) (x1 : Nat) (x5 x20 : Value) (x21 x22 : Int) (H : AHeap) : Prop :=
  ∃ (I : NTy k2 Pr) (μ : NTy k2 (AHeap → Nat)), I x1 x5 x20 x21 x22 H ∧ ∀ y1 y5 y20 y21 y22 G, I y1 y5 y20 y21 y22 G → B13 P (fun z1 z5 z20 z21 z22 G' => I z1 z5 z20 z21 z22 G' ∧ μ z1 z5 z20 z21 z22 G' < μ y1 y5 y20 y21 y22 G) y1 y5 y20 y21 y22 G
theorem l4 (P : PT) : LQ k2 (L4 P) (B13 P) := fun ⟨_,_,_,_,_,_⟩ _ ⟨I, μ, h0, hI⟩ => ⟨apT _ I, apT _ μ, h0, fun ⟨_,_,_,_,_,_⟩ _ h => hI _ _ _ _ _ _  h⟩
noncomputable def o14 := ob Tryz.f42 [.r,.r,.r,.r,.l,.l]
def B14 (P : PT) (x1 : Nat) (x5 : Value) (H : AHeap) : Prop :=
  ldI .i64 H x1 0 (fun v1 => ld1 H x1 1 (fun v2 => AC Tryz.prog T0 112 [(Value.agg ⟨[(Value.int .i64 v1), v2]⟩)] H (fun v3 H4 => lenK v3 (fun n6 => L4 P x1 x5 v3 (n6 : Int) 0 H4))))
theorem q14 (P : PT) : QB Tryz.prog T0 48 o14 (En 48 k2 (L4 P)) k1 (B14 P) := fun _ _ _ _  => by kernel_rfl
abbrev k6 : Sk := [(1,.x)]
noncomputable def o15 := ob Tryz.f42 [.r,.r,.r,.l]
def B15 (P : PT) (x1 : Nat) (H : AHeap) : Prop :=
  newK H [(Value.int .u64 0)] 81 (fun b1 H2 => B14 P x1 (Value.slice (some ⟨b1, 0, none⟩) 1 (1 + 1)) H2)
theorem q15 (P : PT) : QB Tryz.prog T0 48 o15 (En 48 k1 (B14 P)) k6 (B15 P) := fun _ _ _  => by kernel_rfl
abbrev k7 : Sk := []
noncomputable def o16 := ob Tryz.f42 [.r,.r,.l,.r,.l,.l]
def B16 (P : PT) (H : AHeap) : Prop :=
  P (Value.tuple ⟨[(Value.slice none 0 0), (Value.int .i64 3)]⟩) H
theorem q16 (P : PT) : QB Tryz.prog T0 48 o16 (ret P) k7 (B16 P) := fun _ _  => by kernel_rfl
noncomputable def o17 := ob Tryz.f42 [.r,.r,.l,.l]
def B17 (P : PT) (x1 : Nat) (H : AHeap) : Prop :=
  ldI .i64 H x1 0 (fun v1 => pif (decide ((v1 : Int) > 12)) (B16 P H) (B15 P x1 H))
theorem q17 (P : PT) : QB Tryz.prog T0 48 o17 (cnd 17 (En 48 k7 (B16 P)) (En 48 k6 (B15 P))) k6 (B17 P) := fun _ _ _  => by kernel_rfl
abbrev k8 : Sk := [(4,.i .i64)]
noncomputable def o18 := ob Tryz.f42 [.r,.l,.r,.r,.l,.l]
def B18 (P : PT) (x4 : Int) (H : AHeap) : Prop :=
  P (Value.tuple ⟨[(Value.slice none 0 0), (Value.int .i64 x4)]⟩) H
theorem q18 (P : PT) : QB Tryz.prog T0 48 o18 (ret P) k8 (B18 P) := fun _ _ _  => by kernel_rfl
abbrev k9 : Sk := [(1,.x),(4,.i .i64)]
noncomputable def o19 := ob Tryz.f42 [.r,.l,.r,.l]
def B19 (P : PT) (x1 : Nat) (x4 : Int) (H : AHeap) : Prop :=
  pif ((x4 : Int) != 0) (B18 P x4 H) (B17 P x1 H)
theorem q19 (P : PT) : QB Tryz.prog T0 48 o19 (cnd 13 (En 48 k8 (B18 P)) (En 48 k6 (B17 P))) k9 (B19 P) := fun _ _ _ _  => by kernel_rfl
noncomputable def o20 := ob Tryz.f42 [.r,.l,.l]
def B20 (P : PT) (x1 : Nat) (H : AHeap) : Prop :=
  ldI .i64 H x1 0 (fun v1 => ld1 H x1 1 (fun v2 => AC Tryz.prog T0 72 [(Value.agg ⟨[(Value.int .i64 v1), v2]⟩), (Value.bool true)] H (fun v3 H4 => asI .i64 v3 (fun v5 => B19 P x1 v5 H4))))
theorem q20 (P : PT) : QB Tryz.prog T0 48 o20 (En 48 k9 (B19 P)) k6 (B20 P) := fun _ _ _  => by kernel_rfl
abbrev k10 : Sk := [(0,.g [.i,.v])]
noncomputable def o21 := ob Tryz.f42 [.l]
def B21 (P : PT) (x0a : Int) (x0b : Value) (H : AHeap) : Prop :=
  newK H [(Value.int .i64 x0a), x0b] 26 (fun b1 H2 => B20 P b1 H2)
theorem q21 (P : PT) : QB Tryz.prog T0 48 o21 (En 48 k6 (B20 P)) k10 (B21 P) := fun _ _ _ _  => by kernel_rfl
noncomputable def code : Code := (.seq (.region 0 ⟨o21⟩ false) (.seq (.seq (.region 1 ⟨o20⟩ false) (.seq (.region 2 ⟨o19⟩ false) (.cond (.tmp 13) (.seq (.region 3 ⟨o18⟩ false) .ret) .skip))) (.seq (.seq (.region 4 ⟨o17⟩ false) (.cond (.tmp 17) (.seq (.region 5 ⟨o16⟩ false) .ret) .skip)) (.seq (.region 6 ⟨o15⟩ false) (.seq (.seq (.region 7 ⟨o14⟩ false) (.block 0 (.loop (.seq (.region 8 ⟨o13⟩ false) (.seq (.cond (.tmp 23) .skip (.exit 0)) (.seq (.block 1 (.seq (.region 9 ⟨o12⟩ false) (.seq (.region 10 ⟨o11⟩ false) (.block 2 (.loop (.seq (.region 11 ⟨o10⟩ false) (.seq (.cond (.tmp 30) .skip (.exit 2)) (.seq (.block 3 (.seq (.region 12 ⟨o9⟩ false) (.region 13 ⟨o8⟩ false))) (.region 14 ⟨o7⟩ false))))))))) (.region 15 ⟨o5⟩ false))))))) (.seq (.region 16 ⟨o3⟩ false) (.seq (.region 17 ⟨o2⟩ false) (.seq (.region 18 ⟨o1⟩ false) .ret))))))))
theorem body : Tryz.f42.body = some code := by kernel_rfl
theorem main (P : PT) : ∀ env H, (En 48 k10 (B21 P)) env H → AW Tryz.prog T0 code env H (mkQ (ret P) (fun _ _ _ => False) (ret P)) :=
  (r_seq (rB T0_ok (q21 P)) (r_seq (r_seq (rB T0_ok (q20 P)) (r_seq (rB T0_ok (q19 P)) (r_cond rfl (r_seq (rB T0_ok (q18 P)) r_ret) r_skip))) (r_seq (r_seq (rB T0_ok (q17 P)) (r_cond rfl (r_seq (rB T0_ok (q16 P)) r_ret) r_skip)) (r_seq (rB T0_ok (q15 P)) (r_seq (r_seq (rB T0_ok (q14 P)) (r_block (rL (l4 P) (fun N4 => (r_seq (rB T0_ok (q13 P N4)) (r_seq (r_cond rfl r_skip (r_exit (fun _ _ h => h))) (r_seq (r_block (r_seq (rB T0_ok (q12 P N4)) (r_seq (rB T0_ok (q11 P N4)) (r_block (rL (l6 P N4) (fun N6 => (r_seq (rB T0_ok (q10 P N4 N6)) (r_seq (r_cond rfl r_skip (r_exit (fun _ _ h => h))) (r_seq (r_block (r_seq (rB T0_ok (q9 P N4 N6)) (rB T0_ok (q8 P N4 N6)))) (rB T0_ok (q7 P N4 N6))))))))))) (rB T0_ok (q5 P N4))))))))) (r_seq (rB T0_ok (q3 P)) (r_seq (rB T0_ok (q2 P)) (r_seq (rB T0_ok (q1 P)) r_ret))))))))
theorem ac (P : PT) (x0a : Int) (x0b : Value) (H : AHeap) (h : B21 P x0a x0b H) : AC Tryz.prog T0 42 [(Value.agg ⟨[(Value.int .i64 x0a), x0b]⟩)] H P :=
  r_fn T0_ok (c := code) (n := 48) Tryz.func42 body (by kernel_rfl) (main P) (En_mk (x0a, x0b, ()) (by kernel_rfl) ⟨by kernel_rfl, trivial⟩ h)

end F42
-- loop.example/g01329/laws.eqInt64SS
namespace F43
noncomputable def ret (P : PT) : EP := retE T0 27 Tryz.f43 P
abbrev k0 : Sk := []
noncomputable def o1 := ob Tryz.f43 [.r,.r,.r,.l]
def B1 (P : PT) (H : AHeap) : Prop :=
  P (Value.bool true) H
theorem q1 (P : PT) : QB Tryz.prog T0 27 o1 (ret P) k0 (B1 P) := fun _ _  => by kernel_rfl
abbrev k1 : Sk := [(0,.v),(1,.v),(5,.i .i64)]
noncomputable def o3 := ob Tryz.f43 [.r,.r,.l,.r,.l,.l,.r,.r]
def B3 (P : PT) (N2 : NTy k1 Pr) (x0 x1 : Value) (x5 : Int) (H : AHeap) : Prop :=
  N2 x0 x1 (IntKind.i64.wrap (x5 + 1)) H
theorem q3 (P : PT) (N2 : NTy k1 Pr) : QB Tryz.prog T0 27 o3 (En 27 k1 N2) k1 (B3 P N2) := fun _ _ _ _ _  => by kernel_rfl
noncomputable def o4 := ob Tryz.f43 [.r,.r,.l,.r,.l,.l,.r,.l,.l,.r,.l,.l]
def B4 (P : PT) (N2 : NTy k1 Pr) (H : AHeap) : Prop :=
  P (Value.bool false) H
theorem q4 (P : PT) (N2 : NTy k1 Pr) : QB Tryz.prog T0 27 o4 (ret P) k0 (B4 P N2) := fun _ _  => by kernel_rfl
noncomputable def o5 := ob Tryz.f43 [.r,.r,.l,.r,.l,.l,.r,.l,.l,.l]
def B5 (P : PT) (N2 : NTy k1 Pr) (x0 x1 : Value) (x5 : Int) (H : AHeap) : Prop :=
  idxK x0 x5 1 (fun b1 o2 => ld1 H b1 o2 (fun v3 => idxK x1 x5 1 (fun b4 o5 => ld1 H b4 o5 (fun v6 => AC Tryz.prog T0 120 [v3, v6] H (fun v7 H8 => asB v7 (fun v9 => pif (!v9) (B4 P N2 H8) (B3 P N2 x0 x1 x5 H8)))))))
theorem q5 (P : PT) (N2 : NTy k1 Pr) : QD Tryz.prog T0 27 o5 [(0, false), (1, false), (2, false), (3, false), (4, false), (5, false), (6, false), (7, false), (8, false), (9, false)] (cnd 26 (En 27 k0 (B4 P N2)) (En 27 k1 (B3 P N2))) k1 (B5 P N2) := fun _ _ _ _ _  => by kernel_rfl
noncomputable def o6 := ob Tryz.f43 [.r,.r,.l,.r,.l,.l,.l,.l]
def B6 (P : PT) (N2 : NTy k1 Pr) (x0 x1 : Value) (x5 : Int) (H : AHeap) : Prop :=
  lenK x0 (fun n1 => pif (decide ((x5 : Int) < (n1 : Int))) (B5 P N2 x0 x1 x5 H) (B1 P H))
theorem q6 (P : PT) (N2 : NTy k1 Pr) : QB Tryz.prog T0 27 o6 (cnd 14 (En 27 k1 (B5 P N2)) (En 27 k0 (B1 P))) k1 (B6 P N2) := fun _ _ _ _ _  => by kernel_rfl
def L2 (P : PT) (x0 x1 : Value) (x5 : Int) (H : AHeap) : Prop :=
  ∃ (I : NTy k1 Pr) (μ : NTy k1 (AHeap → Nat)), I x0 x1 x5 H ∧ ∀ y0 y1 y5 G, I y0 y1 y5 G → B6 P (fun z0 z1 z5 G' => I z0 z1 z5 G' ∧ μ z0 z1 z5 G' < μ y0 y1 y5 G) y0 y1 y5 G
theorem l2 (P : PT) : LQ k1 (L2 P) (B6 P) := fun ⟨_,_,_,_⟩ _ ⟨I, μ, h0, hI⟩ => ⟨apT _ I, apT _ μ, h0, fun ⟨_,_,_,_⟩ _ h => hI _ _ _ _  h⟩
abbrev k2 : Sk := [(0,.v),(1,.v)]
noncomputable def o7 := ob Tryz.f43 [.r,.r,.l,.l]
def B7 (P : PT) (x0 x1 : Value) (H : AHeap) : Prop :=
  L2 P x0 x1 0 H
theorem q7 (P : PT) : QB Tryz.prog T0 27 o7 (En 27 k1 (L2 P)) k2 (B7 P) := fun _ _ _ _  => by kernel_rfl
noncomputable def o8 := ob Tryz.f43 [.r,.l,.r,.l,.l]
def B8 (P : PT) (H : AHeap) : Prop :=
  P (Value.bool false) H
theorem q8 (P : PT) : QB Tryz.prog T0 27 o8 (ret P) k0 (B8 P) := fun _ _  => by kernel_rfl
noncomputable def o9 := ob Tryz.f43 [.r,.l,.l]
def B9 (P : PT) (x0 x1 : Value) (H : AHeap) : Prop :=
  lenK x0 (fun n1 => lenK x1 (fun n2 => pif (((n1 : Int) : Int) != (n2 : Int)) (B8 P H) (B7 P x0 x1 H)))
theorem q9 (P : PT) : QB Tryz.prog T0 27 o9 (cnd 10 (En 27 k0 (B8 P)) (En 27 k2 (B7 P))) k2 (B9 P) := fun _ _ _ _  => by kernel_rfl
noncomputable def o10 := ob Tryz.f43 [.l]
def B10 (P : PT) (x0 x1 : Value) (H : AHeap) : Prop :=
  B9 P x0 x1 H
theorem q10 (P : PT) : QB Tryz.prog T0 27 o10 (En 27 k2 (B9 P)) k2 (B10 P) := fun _ _ _ _  => by kernel_rfl
noncomputable def code : Code := (.seq (.region 0 ⟨o10⟩ false) (.seq (.seq (.region 1 ⟨o9⟩ false) (.cond (.tmp 10) (.seq (.region 2 ⟨o8⟩ false) .ret) .skip)) (.seq (.seq (.region 3 ⟨o7⟩ false) (.block 0 (.loop (.seq (.seq (.region 4 ⟨o6⟩ false) (.cond (.tmp 14) .skip (.exit 0))) (.seq (.block 1 (.seq (.region 6 ⟨o5⟩ true) (.cond (.tmp 26) (.seq (.region 7 ⟨o4⟩ false) .ret) .skip))) (.region 5 ⟨o3⟩ false)))))) (.seq (.region 8 ⟨o1⟩ false) .ret))))
theorem body : Tryz.f43.body = some code := by kernel_rfl
theorem main (P : PT) : ∀ env H, (En 27 k2 (B10 P)) env H → AW Tryz.prog T0 code env H (mkQ (ret P) (fun _ _ _ => False) (ret P)) :=
  (r_seq (rB T0_ok (q10 P)) (r_seq (r_seq (rB T0_ok (q9 P)) (r_cond rfl (r_seq (rB T0_ok (q8 P)) r_ret) r_skip)) (r_seq (r_seq (rB T0_ok (q7 P)) (r_block (rL (l2 P) (fun N2 => (r_seq (r_seq (rB T0_ok (q6 P N2)) (r_cond rfl r_skip (r_exit (fun _ _ h => h)))) (r_seq (r_block (r_seq (rD T0_ok mixed [(0, false), (1, false), (2, false), (3, false), (4, false), (5, false), (6, false), (7, false), (8, false), (9, false)] (by kernel_rfl) (q5 P N2)) (r_cond rfl (r_seq (rB T0_ok (q4 P N2)) r_ret) r_skip))) (rB T0_ok (q3 P N2)))))))) (r_seq (rB T0_ok (q1 P)) r_ret))))
theorem ac (P : PT) (x0 x1 : Value) (H : AHeap) (h : B10 P x0 x1 H) : AC Tryz.prog T0 43 [x0, x1] H P :=
  r_fn T0_ok (c := code) (n := 27) Tryz.func43 body (by kernel_rfl) (main P) (En_mk (x0, x1, ()) (by kernel_rfl) ⟨by kernel_rfl, by kernel_rfl, trivial⟩ h)

end F43
-- loop.example/g01329/laws.eqGraph
namespace F44
noncomputable def ret (P : PT) : EP := retE T0 16 Tryz.f44 P
abbrev k0 : Sk := []
noncomputable def o1 := ob Tryz.f44 [.r,.r,.r,.l]
def B1 (P : PT) (H : AHeap) : Prop :=
  P (Value.bool true) H
theorem q1 (P : PT) : QB Tryz.prog T0 16 o1 (ret P) k0 (B1 P) := fun _ _  => by kernel_rfl
noncomputable def o2 := ob Tryz.f44 [.r,.r,.l,.r,.l,.l]
def B2 (P : PT) (H : AHeap) : Prop :=
  P (Value.bool false) H
theorem q2 (P : PT) : QB Tryz.prog T0 16 o2 (ret P) k0 (B2 P) := fun _ _  => by kernel_rfl
abbrev k1 : Sk := [(2,.x),(3,.x)]
noncomputable def o3 := ob Tryz.f44 [.r,.r,.l,.l]
def B3 (P : PT) (x2 x3 : Nat) (H : AHeap) : Prop :=
  ld1 H x2 1 (fun v1 => ld1 H x3 1 (fun v2 => AC Tryz.prog T0 121 [v1, v2] H (fun v3 H4 => asB v3 (fun v5 => pif (!v5) (B2 P H4) (B1 P H4)))))
theorem q3 (P : PT) : QB Tryz.prog T0 16 o3 (cnd 15 (En 16 k0 (B2 P)) (En 16 k0 (B1 P))) k1 (B3 P) := fun _ _ _ _  => by kernel_rfl
noncomputable def o4 := ob Tryz.f44 [.r,.l,.r,.l,.l]
def B4 (P : PT) (H : AHeap) : Prop :=
  P (Value.bool false) H
theorem q4 (P : PT) : QB Tryz.prog T0 16 o4 (ret P) k0 (B4 P) := fun _ _  => by kernel_rfl
noncomputable def o5 := ob Tryz.f44 [.r,.l,.l]
def B5 (P : PT) (x2 x3 : Nat) (H : AHeap) : Prop :=
  ldI .i64 H x2 0 (fun v1 => ldI .i64 H x3 0 (fun v2 => pif ((v1 : Int) != v2) (B4 P H) (B3 P x2 x3 H)))
theorem q5 (P : PT) : QB Tryz.prog T0 16 o5 (cnd 9 (En 16 k0 (B4 P)) (En 16 k1 (B3 P))) k1 (B5 P) := fun _ _ _ _  => by kernel_rfl
abbrev k2 : Sk := [(0,.g [.i,.v]),(1,.g [.i,.v])]
noncomputable def o6 := ob Tryz.f44 [.l]
def B6 (P : PT) (x0a : Int) (x0b : Value) (x1a : Int) (x1b : Value) (H : AHeap) : Prop :=
  newK H [(Value.int .i64 x0a), x0b] 26 (fun b1 H2 => newK H2 [(Value.int .i64 x1a), x1b] 26 (fun b3 H4 => B5 P b1 b3 H4))
theorem q6 (P : PT) : QB Tryz.prog T0 16 o6 (En 16 k1 (B5 P)) k2 (B6 P) := fun _ _ _ _ _ _  => by kernel_rfl
noncomputable def code : Code := (.seq (.region 0 ⟨o6⟩ false) (.seq (.seq (.region 1 ⟨o5⟩ false) (.cond (.tmp 9) (.seq (.region 2 ⟨o4⟩ false) .ret) .skip)) (.seq (.seq (.region 3 ⟨o3⟩ false) (.cond (.tmp 15) (.seq (.region 4 ⟨o2⟩ false) .ret) .skip)) (.seq (.region 5 ⟨o1⟩ false) .ret))))
theorem body : Tryz.f44.body = some code := by kernel_rfl
theorem main (P : PT) : ∀ env H, (En 16 k2 (B6 P)) env H → AW Tryz.prog T0 code env H (mkQ (ret P) (fun _ _ _ => False) (ret P)) :=
  (r_seq (rB T0_ok (q6 P)) (r_seq (r_seq (rB T0_ok (q5 P)) (r_cond rfl (r_seq (rB T0_ok (q4 P)) r_ret) r_skip)) (r_seq (r_seq (rB T0_ok (q3 P)) (r_cond rfl (r_seq (rB T0_ok (q2 P)) r_ret) r_skip)) (r_seq (rB T0_ok (q1 P)) r_ret))))
theorem ac (P : PT) (x0a : Int) (x0b : Value) (x1a : Int) (x1b : Value) (H : AHeap) (h : B6 P x0a x0b x1a x1b H) : AC Tryz.prog T0 44 [(Value.agg ⟨[(Value.int .i64 x0a), x0b]⟩), (Value.agg ⟨[(Value.int .i64 x1a), x1b]⟩)] H P :=
  r_fn T0_ok (c := code) (n := 16) Tryz.func44 body (by kernel_rfl) (main P) (En_mk (x0a, x0b, x1a, x1b, ()) (by kernel_rfl) ⟨by kernel_rfl, by kernel_rfl, trivial⟩ h)

end F44
-- loop.example/g01329/laws.markGraph
namespace F45
noncomputable def ret (P : PT) : EP := retE T0 10 Tryz.f45 P
abbrev k0 : Sk := [(1,.i .i64)]
noncomputable def o1 := ob Tryz.f45 [.r,.r,.l]
def B1 (P : PT) (x1 : Int) (H : AHeap) : Prop :=
  P (Value.int .i64 x1) H
theorem q1 (P : PT) : QB Tryz.prog T0 10 o1 (ret P) k0 (B1 P) := fun _ _ _  => by kernel_rfl
abbrev k1 : Sk := [(1,.i .i64),(2,.x)]
noncomputable def o2 := ob Tryz.f45 [.r,.l]
def B2 (P : PT) (x1 : Int) (x2 : Nat) (H : AHeap) : Prop :=
  ld1 H x2 1 (fun v1 => AC Tryz.prog T0 122 [v1, (Value.int .i64 x1)] H (fun v2 H3 => asI .i64 v2 (fun v4 => B1 P v4 H3)))
theorem q2 (P : PT) : QB Tryz.prog T0 10 o2 (En 10 k0 (B1 P)) k1 (B2 P) := fun _ _ _ _  => by kernel_rfl
abbrev k2 : Sk := [(0,.g [.i,.v]),(1,.i .i64)]
noncomputable def o3 := ob Tryz.f45 [.l]
def B3 (P : PT) (x0a : Int) (x0b : Value) (x1 : Int) (H : AHeap) : Prop :=
  newK H [(Value.int .i64 x0a), x0b] 26 (fun b1 H2 => B2 P x1 b1 H2)
theorem q3 (P : PT) : QB Tryz.prog T0 10 o3 (En 10 k1 (B2 P)) k2 (B3 P) := fun _ _ _ _ _  => by kernel_rfl
noncomputable def code : Code := (.seq (.region 0 ⟨o3⟩ false) (.seq (.region 1 ⟨o2⟩ false) (.seq (.region 2 ⟨o1⟩ false) .ret)))
theorem body : Tryz.f45.body = some code := by kernel_rfl
theorem main (P : PT) : ∀ env H, (En 10 k2 (B3 P)) env H → AW Tryz.prog T0 code env H (mkQ (ret P) (fun _ _ _ => False) (ret P)) :=
  (r_seq (rB T0_ok (q3 P)) (r_seq (rB T0_ok (q2 P)) (r_seq (rB T0_ok (q1 P)) r_ret)))
theorem ac (P : PT) (x0a : Int) (x0b : Value) (x1 : Int) (H : AHeap) (h : B3 P x0a x0b x1 H) : AC Tryz.prog T0 45 [(Value.agg ⟨[(Value.int .i64 x0a), x0b]⟩), (Value.int .i64 x1)] H P :=
  r_fn T0_ok (c := code) (n := 10) Tryz.func45 body (by kernel_rfl) (main P) (En_mk (x0a, x0b, x1, ()) (by kernel_rfl) ⟨by kernel_rfl, by kernel_rfl, trivial⟩ h)

end F45
-- loop.example/g01329/laws.markInt64SS
namespace F46
noncomputable def ret (P : PT) : EP := retE T0 19 Tryz.f46 P
abbrev k0 : Sk := [(1,.i .i64)]
noncomputable def o1 := ob Tryz.f46 [.r,.r,.l]
def B1 (P : PT) (x1 : Int) (H : AHeap) : Prop :=
  P (Value.int .i64 x1) H
theorem q1 (P : PT) : QB Tryz.prog T0 19 o1 (ret P) k0 (B1 P) := fun _ _ _  => by kernel_rfl
abbrev k1 : Sk := [(0,.v),(1,.i .i64),(5,.i .i64)]
noncomputable def o3 := ob Tryz.f46 [.r,.l,.r,.l,.l,.r,.r]
def B3 (P : PT) (N2 : NTy k1 Pr) (x0 : Value) (x1 x5 : Int) (H : AHeap) : Prop :=
  N2 x0 x1 (IntKind.i64.wrap (x5 + 1)) H
theorem q3 (P : PT) (N2 : NTy k1 Pr) : QB Tryz.prog T0 19 o3 (En 19 k1 N2) k1 (B3 P N2) := fun _ _ _ _ _  => by kernel_rfl
noncomputable def o4 := ob Tryz.f46 [.r,.l,.r,.l,.l,.r,.l,.l]
def B4 (P : PT) (N2 : NTy k1 Pr) (x0 : Value) (x1 x5 : Int) (H : AHeap) : Prop :=
  idxK x0 x5 1 (fun b1 o2 => ld1 H b1 o2 (fun v3 => AC Tryz.prog T0 123 [v3, (Value.int .i64 x1)] H (fun v4 H5 => asI .i64 v4 (fun v6 => B3 P N2 x0 v6 x5 H5))))
theorem q4 (P : PT) (N2 : NTy k1 Pr) : QB Tryz.prog T0 19 o4 (En 19 k1 (B3 P N2)) k1 (B4 P N2) := fun _ _ _ _ _  => by kernel_rfl
noncomputable def o5 := ob Tryz.f46 [.r,.l,.r,.l,.l,.l,.l]
def B5 (P : PT) (N2 : NTy k1 Pr) (x0 : Value) (x1 x5 : Int) (H : AHeap) : Prop :=
  lenK x0 (fun n1 => pif (decide ((x5 : Int) < (n1 : Int))) (B4 P N2 x0 x1 x5 H) (B1 P x1 H))
theorem q5 (P : PT) (N2 : NTy k1 Pr) : QB Tryz.prog T0 19 o5 (cnd 9 (En 19 k1 (B4 P N2)) (En 19 k0 (B1 P))) k1 (B5 P N2) := fun _ _ _ _ _  => by kernel_rfl
def L2 (P : PT) (x0 : Value) (x1 x5 : Int) (H : AHeap) : Prop :=
  ∃ (I : NTy k1 Pr) (μ : NTy k1 (AHeap → Nat)), I x0 x1 x5 H ∧ ∀ y0 y1 y5 G, I y0 y1 y5 G → B5 P (fun z0 z1 z5 G' => I z0 z1 z5 G' ∧ μ z0 z1 z5 G' < μ y0 y1 y5 G) y0 y1 y5 G
theorem l2 (P : PT) : LQ k1 (L2 P) (B5 P) := fun ⟨_,_,_,_⟩ _ ⟨I, μ, h0, hI⟩ => ⟨apT _ I, apT _ μ, h0, fun ⟨_,_,_,_⟩ _ h => hI _ _ _ _  h⟩
abbrev k2 : Sk := [(0,.v),(1,.i .i64)]
noncomputable def o6 := ob Tryz.f46 [.r,.l,.l]
def B6 (P : PT) (x0 : Value) (x1 : Int) (H : AHeap) : Prop :=
  L2 P x0 x1 0 H
theorem q6 (P : PT) : QB Tryz.prog T0 19 o6 (En 19 k1 (L2 P)) k2 (B6 P) := fun _ _ _ _  => by kernel_rfl
noncomputable def o7 := ob Tryz.f46 [.l]
def B7 (P : PT) (x0 : Value) (x1 : Int) (H : AHeap) : Prop :=
  B6 P x0 x1 H
theorem q7 (P : PT) : QB Tryz.prog T0 19 o7 (En 19 k2 (B6 P)) k2 (B7 P) := fun _ _ _ _  => by kernel_rfl
noncomputable def code : Code := (.seq (.region 0 ⟨o7⟩ false) (.seq (.seq (.region 1 ⟨o6⟩ false) (.block 0 (.loop (.seq (.seq (.region 2 ⟨o5⟩ false) (.cond (.tmp 9) .skip (.exit 0))) (.seq (.block 1 (.region 4 ⟨o4⟩ false)) (.region 3 ⟨o3⟩ false)))))) (.seq (.region 5 ⟨o1⟩ false) .ret)))
theorem body : Tryz.f46.body = some code := by kernel_rfl
theorem main (P : PT) : ∀ env H, (En 19 k2 (B7 P)) env H → AW Tryz.prog T0 code env H (mkQ (ret P) (fun _ _ _ => False) (ret P)) :=
  (r_seq (rB T0_ok (q7 P)) (r_seq (r_seq (rB T0_ok (q6 P)) (r_block (rL (l2 P) (fun N2 => (r_seq (r_seq (rB T0_ok (q5 P N2)) (r_cond rfl r_skip (r_exit (fun _ _ h => h)))) (r_seq (r_block (rB T0_ok (q4 P N2))) (rB T0_ok (q3 P N2)))))))) (r_seq (rB T0_ok (q1 P)) r_ret)))
theorem ac (P : PT) (x0 : Value) (x1 : Int) (H : AHeap) (h : B7 P x0 x1 H) : AC Tryz.prog T0 46 [x0, (Value.int .i64 x1)] H P :=
  r_fn T0_ok (c := code) (n := 19) Tryz.func46 body (by kernel_rfl) (main P) (En_mk (x0, x1, ()) (by kernel_rfl) ⟨by kernel_rfl, by kernel_rfl, trivial⟩ h)

end F46
-- loop.example/g01329/laws.heldInt64SS
namespace F47
noncomputable def ret (P : PT) : EP := retE T0 21 Tryz.f47 P
abbrev k0 : Sk := [(1,.i .i64)]
noncomputable def o1 := ob Tryz.f47 [.r,.r,.l]
def B1 (P : PT) (x1 : Int) (H : AHeap) : Prop :=
  P (Value.int .i64 x1) H
theorem q1 (P : PT) : QB Tryz.prog T0 21 o1 (ret P) k0 (B1 P) := fun _ _ _  => by kernel_rfl
abbrev k1 : Sk := [(0,.v),(1,.i .i64),(5,.i .i64)]
noncomputable def o3 := ob Tryz.f47 [.r,.l,.r,.l,.l,.r,.r]
def B3 (P : PT) (N2 : NTy k1 Pr) (x0 : Value) (x1 x5 : Int) (H : AHeap) : Prop :=
  N2 x0 x1 (IntKind.i64.wrap (x5 + 1)) H
theorem q3 (P : PT) (N2 : NTy k1 Pr) : QB Tryz.prog T0 21 o3 (En 21 k1 N2) k1 (B3 P N2) := fun _ _ _ _ _  => by kernel_rfl
abbrev k2 : Sk := []
noncomputable def o4 := ob Tryz.f47 [.r,.l,.r,.l,.l,.r,.l,.l,.r,.r,.l,.l]
def B4 (P : PT) (N2 : NTy k1 Pr) (H : AHeap) : Prop :=
  P (Value.int .i64 (-1)) H
theorem q4 (P : PT) (N2 : NTy k1 Pr) : QB Tryz.prog T0 21 o4 (ret P) k2 (B4 P N2) := fun _ _  => by kernel_rfl
noncomputable def o5 := ob Tryz.f47 [.r,.l,.r,.l,.l,.r,.l,.l,.r,.l]
def B5 (P : PT) (N2 : NTy k1 Pr) (x0 : Value) (x1 x5 : Int) (H : AHeap) : Prop :=
  pif (decide ((x1 : Int) < 0)) (B4 P N2 H) (B3 P N2 x0 x1 x5 H)
theorem q5 (P : PT) (N2 : NTy k1 Pr) : QB Tryz.prog T0 21 o5 (cnd 19 (En 21 k2 (B4 P N2)) (En 21 k1 (B3 P N2))) k1 (B5 P N2) := fun _ _ _ _ _  => by kernel_rfl
noncomputable def o6 := ob Tryz.f47 [.r,.l,.r,.l,.l,.r,.l,.l,.l]
def B6 (P : PT) (N2 : NTy k1 Pr) (x0 : Value) (x1 x5 : Int) (H : AHeap) : Prop :=
  idxK x0 x5 1 (fun b1 o2 => ld1 H b1 o2 (fun v3 => AC Tryz.prog T0 124 [v3, (Value.int .i64 x1)] H (fun v4 H5 => asI .i64 v4 (fun v6 => B5 P N2 x0 v6 x5 H5))))
theorem q6 (P : PT) (N2 : NTy k1 Pr) : QB Tryz.prog T0 21 o6 (En 21 k1 (B5 P N2)) k1 (B6 P N2) := fun _ _ _ _ _  => by kernel_rfl
noncomputable def o7 := ob Tryz.f47 [.r,.l,.r,.l,.l,.l,.l]
def B7 (P : PT) (N2 : NTy k1 Pr) (x0 : Value) (x1 x5 : Int) (H : AHeap) : Prop :=
  lenK x0 (fun n1 => pif (decide ((x5 : Int) < (n1 : Int))) (B6 P N2 x0 x1 x5 H) (B1 P x1 H))
theorem q7 (P : PT) (N2 : NTy k1 Pr) : QB Tryz.prog T0 21 o7 (cnd 9 (En 21 k1 (B6 P N2)) (En 21 k0 (B1 P))) k1 (B7 P N2) := fun _ _ _ _ _  => by kernel_rfl
def L2 (P : PT) (x0 : Value) (x1 x5 : Int) (H : AHeap) : Prop :=
  ∃ (I : NTy k1 Pr) (μ : NTy k1 (AHeap → Nat)), I x0 x1 x5 H ∧ ∀ y0 y1 y5 G, I y0 y1 y5 G → B7 P (fun z0 z1 z5 G' => I z0 z1 z5 G' ∧ μ z0 z1 z5 G' < μ y0 y1 y5 G) y0 y1 y5 G
theorem l2 (P : PT) : LQ k1 (L2 P) (B7 P) := fun ⟨_,_,_,_⟩ _ ⟨I, μ, h0, hI⟩ => ⟨apT _ I, apT _ μ, h0, fun ⟨_,_,_,_⟩ _ h => hI _ _ _ _  h⟩
abbrev k3 : Sk := [(0,.v),(1,.i .i64)]
noncomputable def o8 := ob Tryz.f47 [.r,.l,.l]
def B8 (P : PT) (x0 : Value) (x1 : Int) (H : AHeap) : Prop :=
  L2 P x0 x1 0 H
theorem q8 (P : PT) : QB Tryz.prog T0 21 o8 (En 21 k1 (L2 P)) k3 (B8 P) := fun _ _ _ _  => by kernel_rfl
noncomputable def o9 := ob Tryz.f47 [.l]
def B9 (P : PT) (x0 : Value) (x1 : Int) (H : AHeap) : Prop :=
  B8 P x0 x1 H
theorem q9 (P : PT) : QB Tryz.prog T0 21 o9 (En 21 k3 (B8 P)) k3 (B9 P) := fun _ _ _ _  => by kernel_rfl
noncomputable def code : Code := (.seq (.region 0 ⟨o9⟩ false) (.seq (.seq (.region 1 ⟨o8⟩ false) (.block 0 (.loop (.seq (.seq (.region 2 ⟨o7⟩ false) (.cond (.tmp 9) .skip (.exit 0))) (.seq (.block 1 (.seq (.region 4 ⟨o6⟩ false) (.seq (.region 5 ⟨o5⟩ false) (.cond (.tmp 19) (.seq (.region 6 ⟨o4⟩ false) .ret) .skip)))) (.region 3 ⟨o3⟩ false)))))) (.seq (.region 7 ⟨o1⟩ false) .ret)))
theorem body : Tryz.f47.body = some code := by kernel_rfl
theorem main (P : PT) : ∀ env H, (En 21 k3 (B9 P)) env H → AW Tryz.prog T0 code env H (mkQ (ret P) (fun _ _ _ => False) (ret P)) :=
  (r_seq (rB T0_ok (q9 P)) (r_seq (r_seq (rB T0_ok (q8 P)) (r_block (rL (l2 P) (fun N2 => (r_seq (r_seq (rB T0_ok (q7 P N2)) (r_cond rfl r_skip (r_exit (fun _ _ h => h)))) (r_seq (r_block (r_seq (rB T0_ok (q6 P N2)) (r_seq (rB T0_ok (q5 P N2)) (r_cond rfl (r_seq (rB T0_ok (q4 P N2)) r_ret) r_skip)))) (rB T0_ok (q3 P N2)))))))) (r_seq (rB T0_ok (q1 P)) r_ret)))
theorem ac (P : PT) (x0 : Value) (x1 : Int) (H : AHeap) (h : B9 P x0 x1 H) : AC Tryz.prog T0 47 [x0, (Value.int .i64 x1)] H P :=
  r_fn T0_ok (c := code) (n := 21) Tryz.func47 body (by kernel_rfl) (main P) (En_mk (x0, x1, ()) (by kernel_rfl) ⟨by kernel_rfl, by kernel_rfl, trivial⟩ h)

end F47
-- loop.example/g01329/impl.graphCode
namespace F72
noncomputable def ret (P : PT) : EP := retE T0 12 Tryz.f72 P
abbrev k0 : Sk := []
noncomputable def o1 := ob Tryz.f72 [.r,.r,.l]
def B1 (P : PT) (H : AHeap) : Prop :=
  P (Value.int .i64 0) H
theorem q1 (P : PT) : QB Tryz.prog T0 12 o1 (ret P) k0 (B1 P) := fun _ _  => by kernel_rfl
noncomputable def o2 := ob Tryz.f72 [.r,.l,.l,.r,.l,.l]
def B2 (P : PT) (H : AHeap) : Prop :=
  P (Value.int .i64 1) H
theorem q2 (P : PT) : QB Tryz.prog T0 12 o2 (ret P) k0 (B2 P) := fun _ _  => by kernel_rfl
noncomputable def o3 := ob Tryz.f72 [.r,.l,.l,.r,.r,.r,.l,.l]
def B3 (P : PT) (H : AHeap) : Prop :=
  P (Value.int .i64 2) H
theorem q3 (P : PT) : QB Tryz.prog T0 12 o3 (ret P) k0 (B3 P) := fun _ _  => by kernel_rfl
abbrev k1 : Sk := [(1,.b)]
noncomputable def o4 := ob Tryz.f72 [.r,.l,.l,.r,.r,.l]
def B4 (P : PT) (x1 : Bool) (H : AHeap) : Prop :=
  pif (!x1) (B3 P H) (B1 P H)
theorem q4 (P : PT) : QB Tryz.prog T0 12 o4 (cnd 9 (En 12 k0 (B3 P)) (En 12 k0 (B1 P))) k1 (B4 P) := fun _ _ _  => by kernel_rfl
abbrev k2 : Sk := [(1,.b),(2,.x)]
noncomputable def o5 := ob Tryz.f72 [.r,.l,.l,.l]
def B5 (P : PT) (x1 : Bool) (x2 : Nat) (H : AHeap) : Prop :=
  ldI .i64 H x2 0 (fun v1 => ld1 H x2 1 (fun v2 => AC Tryz.prog T0 143 [(Value.agg ⟨[(Value.int .i64 v1), v2]⟩)] H (fun v3 H4 => asB v3 (fun v5 => pif (!v5) (B2 P H4) (B4 P x1 H4)))))
theorem q5 (P : PT) : QB Tryz.prog T0 12 o5 (cnd 5 (En 12 k0 (B2 P)) (En 12 k1 (B4 P))) k2 (B5 P) := fun _ _ _ _  => by kernel_rfl
abbrev k3 : Sk := [(0,.g [.i,.v]),(1,.b)]
noncomputable def o6 := ob Tryz.f72 [.l]
def B6 (P : PT) (x0a : Int) (x0b : Value) (x1 : Bool) (H : AHeap) : Prop :=
  newK H [(Value.int .i64 x0a), x0b] 26 (fun b1 H2 => B5 P x1 b1 H2)
theorem q6 (P : PT) : QB Tryz.prog T0 12 o6 (En 12 k2 (B5 P)) k3 (B6 P) := fun _ _ _ _ _  => by kernel_rfl
noncomputable def code : Code := (.seq (.region 0 ⟨o6⟩ false) (.seq (.block 0 (.seq (.region 1 ⟨o5⟩ false) (.cond (.tmp 5) (.seq (.region 2 ⟨o2⟩ false) .ret) (.seq (.region 3 ⟨o4⟩ false) (.cond (.tmp 9) (.seq (.region 4 ⟨o3⟩ false) .ret) .skip))))) (.seq (.region 5 ⟨o1⟩ false) .ret)))
theorem body : Tryz.f72.body = some code := by kernel_rfl
theorem main (P : PT) : ∀ env H, (En 12 k3 (B6 P)) env H → AW Tryz.prog T0 code env H (mkQ (ret P) (fun _ _ _ => False) (ret P)) :=
  (r_seq (rB T0_ok (q6 P)) (r_seq (r_block (r_seq (rB T0_ok (q5 P)) (r_cond rfl (r_seq (rB T0_ok (q2 P)) r_ret) (r_seq (rB T0_ok (q4 P)) (r_cond rfl (r_seq (rB T0_ok (q3 P)) r_ret) r_skip))))) (r_seq (rB T0_ok (q1 P)) r_ret)))
theorem ac (P : PT) (x0a : Int) (x0b : Value) (x1 : Bool) (H : AHeap) (h : B6 P x0a x0b x1 H) : AC Tryz.prog T0 72 [(Value.agg ⟨[(Value.int .i64 x0a), x0b]⟩), (Value.bool x1)] H P :=
  r_fn T0_ok (c := code) (n := 12) Tryz.func72 body (by kernel_rfl) (main P) (En_mk (x0a, x0b, x1, ()) (by kernel_rfl) ⟨by kernel_rfl, by kernel_rfl, trivial⟩ h)

end F72
-- loop.example/g01329/impl.length[loop.example/g01329/impl.Edge]
namespace F73
noncomputable def ret (P : PT) : EP := retE T0 5 Tryz.f73 P
abbrev k0 : Sk := [(0,.v)]
noncomputable def o1 := ob Tryz.f73 [.r,.l]
def B1 (P : PT) (x0 : Value) (H : AHeap) : Prop :=
  lenK x0 (fun n1 => P (Value.int .i64 (n1 : Int)) H)
theorem q1 (P : PT) : QB Tryz.prog T0 5 o1 (ret P) k0 (B1 P) := fun _ _ _  => by kernel_rfl
noncomputable def o2 := ob Tryz.f73 [.l]
def B2 (P : PT) (x0 : Value) (H : AHeap) : Prop :=
  B1 P x0 H
theorem q2 (P : PT) : QB Tryz.prog T0 5 o2 (En 5 k0 (B1 P)) k0 (B2 P) := fun _ _ _  => by kernel_rfl
noncomputable def code : Code := (.seq (.region 0 ⟨o2⟩ false) (.seq (.region 1 ⟨o1⟩ false) .ret))
theorem body : Tryz.f73.body = some code := by kernel_rfl
theorem main (P : PT) : ∀ env H, (En 5 k0 (B2 P)) env H → AW Tryz.prog T0 code env H (mkQ (ret P) (fun _ _ _ => False) (ret P)) :=
  (r_seq (rB T0_ok (q2 P)) (r_seq (rB T0_ok (q1 P)) r_ret))
theorem ac (P : PT) (x0 : Value) (H : AHeap) (h : B2 P x0 H) : AC Tryz.prog T0 73 [x0] H P :=
  r_fn T0_ok (c := code) (n := 5) Tryz.func73 body (by kernel_rfl) (main P) (En_mk (x0, ()) (by kernel_rfl) ⟨by kernel_rfl, trivial⟩ h)

end F73
-- loop.example/g01329/spec.l01Is
namespace F75
noncomputable def ret (P : PT) : EP := retE T0 56 Tryz.f75 P
abbrev k0 : Sk := []
noncomputable def o1 := ob Tryz.f75 [.r,.r,.r,.l]
def B1 (P : PT) (H : AHeap) : Prop :=
  P (Value.bool true) H
theorem q1 (P : PT) : QB Tryz.prog T0 56 o1 (ret P) k0 (B1 P) := fun _ _  => by kernel_rfl
abbrev k1 : Sk := [(1,.x),(3,.i .i64)]
noncomputable def o3 := ob Tryz.f75 [.r,.r,.l,.r,.l,.l,.r,.r]
def B3 (P : PT) (N2 : NTy k1 Pr) (x1 : Nat) (x3 : Int) (H : AHeap) : Prop :=
  N2 x1 (IntKind.i64.wrap (x3 + 1)) H
theorem q3 (P : PT) (N2 : NTy k1 Pr) : QB Tryz.prog T0 56 o3 (En 56 k1 N2) k1 (B3 P N2) := fun _ _ _ _  => by kernel_rfl
noncomputable def o4 := ob Tryz.f75 [.r,.r,.l,.r,.l,.l,.r,.l,.l,.r,.l,.l]
def B4 (P : PT) (N2 : NTy k1 Pr) (H : AHeap) : Prop :=
  P (Value.bool false) H
theorem q4 (P : PT) (N2 : NTy k1 Pr) : QB Tryz.prog T0 56 o4 (ret P) k0 (B4 P N2) := fun _ _  => by kernel_rfl
noncomputable def o5 := ob Tryz.f75 [.r,.r,.l,.r,.l,.l,.r,.l,.l,.l]
def B5 (P : PT) (N2 : NTy k1 Pr) (x1 : Nat) (x3 : Int) (H : AHeap) : Prop :=
  ld1 H x1 1 (fun v1 => idxK v1 x3 2 (fun b2 o3 => ldI .i64 H b2 o3 (fun v4 => ld1 H x1 1 (fun v5 => idxK v5 x3 2 (fun b6 o7 => ldI .i64 H b6 (o7 + 1) (fun v8 => pif (decide ((v4 : Int) > v8)) (B4 P N2 H) (pif (decide ((x3 : Int) > 0)) (ld1 H x1 1 (fun v9 => idxK v9 x3 2 (fun b10 o11 => ldI .i64 H b10 o11 (fun v12 => ldI .i64 H b10 (o11 + 1) (fun v13 => ld1 H x1 1 (fun v14 => idxK v14 (IntKind.i64.wrap (x3 - 1)) 2 (fun b15 o16 => ldI .i64 H b15 o16 (fun v17 => ldI .i64 H b15 (o16 + 1) (fun v18 => AC Tryz.prog T0 146 [(Value.agg ⟨[(Value.int .i64 v12), (Value.int .i64 v13)]⟩), (Value.agg ⟨[(Value.int .i64 v17), (Value.int .i64 v18)]⟩)] H (fun v19 H20 => asB v19 (fun v21 => pif v21 (B4 P N2 H20) (B3 P N2 x1 x3 H20)))))))))))) (B3 P N2 x1 x3 H))))))))
theorem q5 (P : PT) (N2 : NTy k1 Pr) : QD Tryz.prog T0 56 o5 [(0, false), (1, false), (2, false), (3, false), (4, false), (5, false), (6, false), (7, false), (8, false), (9, false), (10, false), (11, false), (12, false), (13, false), (14, false), (15, false), (16, false), (17, false), (18, false), (19, false), (20, false), (21, false), (22, false), (23, false), (24, false), (25, false), (26, false), (27, false), (28, false), (29, false), (30, false)] (cnd 55 (En 56 k0 (B4 P N2)) (En 56 k1 (B3 P N2))) k1 (B5 P N2) := fun _ _ _ _  => by kernel_rfl
noncomputable def o6 := ob Tryz.f75 [.r,.r,.l,.r,.l,.l,.l,.l]
def B6 (P : PT) (N2 : NTy k1 Pr) (x1 : Nat) (x3 : Int) (H : AHeap) : Prop :=
  ld1 H x1 1 (fun v1 => lenK v1 (fun n2 => pif (decide ((x3 : Int) < (n2 : Int))) (B5 P N2 x1 x3 H) (B1 P H)))
theorem q6 (P : PT) (N2 : NTy k1 Pr) : QB Tryz.prog T0 56 o6 (cnd 22 (En 56 k1 (B5 P N2)) (En 56 k0 (B1 P))) k1 (B6 P N2) := fun _ _ _ _  => by kernel_rfl
def L2 (P : PT) (x1 : Nat) (x3 : Int) (H : AHeap) : Prop :=
  ∃ (I : NTy k1 Pr) (μ : NTy k1 (AHeap → Nat)), I x1 x3 H ∧ ∀ y1 y3 G, I y1 y3 G → B6 P (fun z1 z3 G' => I z1 z3 G' ∧ μ z1 z3 G' < μ y1 y3 G) y1 y3 G
theorem l2 (P : PT) : LQ k1 (L2 P) (B6 P) := fun ⟨_,_,_⟩ _ ⟨I, μ, h0, hI⟩ => ⟨apT _ I, apT _ μ, h0, fun ⟨_,_,_⟩ _ h => hI _ _ _  h⟩
abbrev k2 : Sk := [(1,.x)]
noncomputable def o7 := ob Tryz.f75 [.r,.r,.l,.l]
def B7 (P : PT) (x1 : Nat) (H : AHeap) : Prop :=
  L2 P x1 0 H
theorem q7 (P : PT) : QB Tryz.prog T0 56 o7 (En 56 k1 (L2 P)) k2 (B7 P) := fun _ _ _  => by kernel_rfl
noncomputable def o8 := ob Tryz.f75 [.r,.l,.r,.l,.l]
def B8 (P : PT) (H : AHeap) : Prop :=
  P (Value.bool false) H
theorem q8 (P : PT) : QB Tryz.prog T0 56 o8 (ret P) k0 (B8 P) := fun _ _  => by kernel_rfl
noncomputable def o9 := ob Tryz.f75 [.r,.l,.l]
def B9 (P : PT) (x1 : Nat) (H : AHeap) : Prop :=
  ldI .i64 H x1 0 (fun v1 => ld1 H x1 1 (fun v2 => AC Tryz.prog T0 144 [(Value.int .i64 v1), v2] H (fun v3 H4 => asI .i64 v3 (fun v5 => pif ((v5 : Int) != 0) (B8 P H4) (ldI .i64 H4 x1 0 (fun v6 => ld1 H4 x1 1 (fun v7 => AC Tryz.prog T0 145 [(Value.int .i64 v6), v7] H4 (fun v8 H9 => asB v8 (fun v10 => pif (!v10) (B8 P H9) (B7 P x1 H9))))))))))
theorem q9 (P : PT) : QB Tryz.prog T0 56 o9 (cnd 17 (En 56 k0 (B8 P)) (En 56 k2 (B7 P))) k2 (B9 P) := fun _ _ _  => by kernel_rfl
abbrev k3 : Sk := [(0,.g [.i,.v])]
noncomputable def o10 := ob Tryz.f75 [.l]
def B10 (P : PT) (x0a : Int) (x0b : Value) (H : AHeap) : Prop :=
  newK H [(Value.int .i64 x0a), x0b] 26 (fun b1 H2 => B9 P b1 H2)
theorem q10 (P : PT) : QB Tryz.prog T0 56 o10 (En 56 k2 (B9 P)) k3 (B10 P) := fun _ _ _ _  => by kernel_rfl
noncomputable def code : Code := (.seq (.region 0 ⟨o10⟩ false) (.seq (.seq (.region 1 ⟨o9⟩ false) (.cond (.tmp 17) (.seq (.region 2 ⟨o8⟩ false) .ret) .skip)) (.seq (.seq (.region 3 ⟨o7⟩ false) (.block 0 (.loop (.seq (.seq (.region 4 ⟨o6⟩ false) (.cond (.tmp 22) .skip (.exit 0))) (.seq (.block 1 (.seq (.region 6 ⟨o5⟩ true) (.cond (.tmp 55) (.seq (.region 7 ⟨o4⟩ false) .ret) .skip))) (.region 5 ⟨o3⟩ false)))))) (.seq (.region 8 ⟨o1⟩ false) .ret))))
theorem body : Tryz.f75.body = some code := by kernel_rfl
theorem main (P : PT) : ∀ env H, (En 56 k3 (B10 P)) env H → AW Tryz.prog T0 code env H (mkQ (ret P) (fun _ _ _ => False) (ret P)) :=
  (r_seq (rB T0_ok (q10 P)) (r_seq (r_seq (rB T0_ok (q9 P)) (r_cond rfl (r_seq (rB T0_ok (q8 P)) r_ret) r_skip)) (r_seq (r_seq (rB T0_ok (q7 P)) (r_block (rL (l2 P) (fun N2 => (r_seq (r_seq (rB T0_ok (q6 P N2)) (r_cond rfl r_skip (r_exit (fun _ _ h => h)))) (r_seq (r_block (r_seq (rD T0_ok mixed [(0, false), (1, false), (2, false), (3, false), (4, false), (5, false), (6, false), (7, false), (8, false), (9, false), (10, false), (11, false), (12, false), (13, false), (14, false), (15, false), (16, false), (17, false), (18, false), (19, false), (20, false), (21, false), (22, false), (23, false), (24, false), (25, false), (26, false), (27, false), (28, false), (29, false), (30, false)] (by kernel_rfl) (q5 P N2)) (r_cond rfl (r_seq (rB T0_ok (q4 P N2)) r_ret) r_skip))) (rB T0_ok (q3 P N2)))))))) (r_seq (rB T0_ok (q1 P)) r_ret))))
theorem ac (P : PT) (x0a : Int) (x0b : Value) (H : AHeap) (h : B10 P x0a x0b H) : AC Tryz.prog T0 75 [(Value.agg ⟨[(Value.int .i64 x0a), x0b]⟩)] H P :=
  r_fn T0_ok (c := code) (n := 56) Tryz.func75 body (by kernel_rfl) (main P) (En_mk (x0a, x0b, ()) (by kernel_rfl) ⟨by kernel_rfl, trivial⟩ h)

end F75
-- loop.example/g01329/impl.within
namespace F77
noncomputable def ret (P : PT) : EP := retE T0 15 Tryz.f77 P
abbrev k0 : Sk := [(0,.i .i64),(1,.i .i64),(2,.i .i64)]
noncomputable def o1 := ob Tryz.f77 [.r,.l]
def B1 (P : PT) (x0 x1 x2 : Int) (H : AHeap) : Prop :=
  pif (decide ((x1 : Int) ≤ x0)) (P (Value.bool (decide ((x0 : Int) ≤ x2))) H) (P (Value.bool false) H)
theorem q1 (P : PT) : QB Tryz.prog T0 15 o1 (ret P) k0 (B1 P) := fun _ _ _ _ _  => by kernel_rfl
noncomputable def o2 := ob Tryz.f77 [.l]
def B2 (P : PT) (x0 x1 x2 : Int) (H : AHeap) : Prop :=
  B1 P x0 x1 x2 H
theorem q2 (P : PT) : QB Tryz.prog T0 15 o2 (En 15 k0 (B1 P)) k0 (B2 P) := fun _ _ _ _ _  => by kernel_rfl
noncomputable def code : Code := (.seq (.region 0 ⟨o2⟩ false) (.seq (.region 1 ⟨o1⟩ false) .ret))
theorem body : Tryz.f77.body = some code := by kernel_rfl
theorem main (P : PT) : ∀ env H, (En 15 k0 (B2 P)) env H → AW Tryz.prog T0 code env H (mkQ (ret P) (fun _ _ _ => False) (ret P)) :=
  (r_seq (rB T0_ok (q2 P)) (r_seq (rB T0_ok (q1 P)) r_ret))
theorem ac (P : PT) (x0 x1 x2 : Int) (H : AHeap) (h : B2 P x0 x1 x2 H) : AC Tryz.prog T0 77 [(Value.int .i64 x0), (Value.int .i64 x1), (Value.int .i64 x2)] H P :=
  r_fn T0_ok (c := code) (n := 15) Tryz.func77 body (by kernel_rfl) (main P) (En_mk (x0, x1, x2, ()) (by kernel_rfl) ⟨by kernel_rfl, by kernel_rfl, by kernel_rfl, trivial⟩ h)

end F77
-- (loop.example/g01329/impl.set).list
namespace F81
noncomputable def ret (P : PT) : EP := retE T0 19 Tryz.f81 P
abbrev k0 : Sk := [(3,.v)]
noncomputable def o1 := ob Tryz.f81 [.r,.r,.r,.l]
def B1 (P : PT) (x3 : Value) (H : AHeap) : Prop :=
  P x3 H
theorem q1 (P : PT) : QB Tryz.prog T0 19 o1 (ret P) k0 (B1 P) := fun _ _ _  => by kernel_rfl
abbrev k1 : Sk := [(0,.i .u64),(3,.v),(4,.i .i64)]
noncomputable def o3 := ob Tryz.f81 [.r,.r,.l,.r,.l,.l,.r,.r]
def B3 (P : PT) (N2 : NTy k1 Pr) (x0 : Int) (x3 : Value) (x4 : Int) (H : AHeap) : Prop :=
  N2 x0 x3 (IntKind.i64.wrap (x4 + 1)) H
theorem q3 (P : PT) (N2 : NTy k1 Pr) : QB Tryz.prog T0 19 o3 (En 19 k1 N2) k1 (B3 P N2) := fun _ _ _ _ _  => by kernel_rfl
noncomputable def o4 := ob Tryz.f81 [.r,.r,.l,.r,.l,.l,.r,.l,.l,.r,.l]
def B4 (P : PT) (N2 : NTy k1 Pr) (x0 : Int) (x3 : Value) (x4 : Int) (H : AHeap) : Prop :=
  newK H [(Value.int .i64 x4)] 2 (fun b1 H2 => apK T0 2 H2 x3 (Value.slice (some ⟨b1, 0, none⟩) 1 (1 + 1)) (fun v3 H4 => B3 P N2 x0 v3 x4 H4))
theorem q4 (P : PT) (N2 : NTy k1 Pr) : QB Tryz.prog T0 19 o4 (En 19 k1 (B3 P N2)) k1 (B4 P N2) := fun _ _ _ _ _  => by kernel_rfl
noncomputable def o5 := ob Tryz.f81 [.r,.r,.l,.r,.l,.l,.r,.l,.l,.l]
def B5 (P : PT) (N2 : NTy k1 Pr) (x0 : Int) (x3 : Value) (x4 : Int) (H : AHeap) : Prop :=
  AC Tryz.prog T0 134 [(Value.int .u64 x0), (Value.int .i64 x4)] H (fun v1 H2 => asB v1 (fun v3 => pif v3 (B4 P N2 x0 x3 x4 H2) (B3 P N2 x0 x3 x4 H2)))
theorem q5 (P : PT) (N2 : NTy k1 Pr) : QB Tryz.prog T0 19 o5 (cnd 13 (En 19 k1 (B4 P N2)) (En 19 k1 (B3 P N2))) k1 (B5 P N2) := fun _ _ _ _ _  => by kernel_rfl
noncomputable def o6 := ob Tryz.f81 [.r,.r,.l,.r,.l,.l,.l,.l]
def B6 (P : PT) (N2 : NTy k1 Pr) (x0 : Int) (x3 : Value) (x4 : Int) (H : AHeap) : Prop :=
  ((0 : Int) ≤ x4) ∧ (pif ((Int.fdiv x0 (2 ^ (min (Int.toNat x4) 64)) : Int) != 0) (B5 P N2 x0 x3 x4 H) (B1 P x3 H))
theorem q6 (P : PT) (N2 : NTy k1 Pr) : QB Tryz.prog T0 19 o6 (cnd 8 (En 19 k1 (B5 P N2)) (En 19 k0 (B1 P))) k1 (B6 P N2) := fun _ _ _ _ _  => by kernel_rfl
def L2 (P : PT) (x0 : Int) (x3 : Value) (x4 : Int) (H : AHeap) : Prop :=
  ∃ (I : NTy k1 Pr) (μ : NTy k1 (AHeap → Nat)), I x0 x3 x4 H ∧ ∀ y0 y3 y4 G, I y0 y3 y4 G → B6 P (fun z0 z3 z4 G' => I z0 z3 z4 G' ∧ μ z0 z3 z4 G' < μ y0 y3 y4 G) y0 y3 y4 G
theorem l2 (P : PT) : LQ k1 (L2 P) (B6 P) := fun ⟨_,_,_,_⟩ _ ⟨I, μ, h0, hI⟩ => ⟨apT _ I, apT _ μ, h0, fun ⟨_,_,_,_⟩ _ h => hI _ _ _ _  h⟩
abbrev k2 : Sk := [(0,.i .u64),(3,.v)]
noncomputable def o7 := ob Tryz.f81 [.r,.r,.l,.l]
def B7 (P : PT) (x0 : Int) (x3 : Value) (H : AHeap) : Prop :=
  L2 P x0 x3 0 H
theorem q7 (P : PT) : QB Tryz.prog T0 19 o7 (En 19 k1 (L2 P)) k2 (B7 P) := fun _ _ _ _  => by kernel_rfl
abbrev k3 : Sk := [(0,.i .u64)]
noncomputable def o8 := ob Tryz.f81 [.r,.l]
def B8 (P : PT) (x0 : Int) (H : AHeap) : Prop :=
  B7 P x0 (Value.slice none 0 0) H
theorem q8 (P : PT) : QB Tryz.prog T0 19 o8 (En 19 k2 (B7 P)) k3 (B8 P) := fun _ _ _  => by kernel_rfl
noncomputable def o9 := ob Tryz.f81 [.l]
def B9 (P : PT) (x0 : Int) (H : AHeap) : Prop :=
  B8 P x0 H
theorem q9 (P : PT) : QB Tryz.prog T0 19 o9 (En 19 k3 (B8 P)) k3 (B9 P) := fun _ _ _  => by kernel_rfl
noncomputable def code : Code := (.seq (.region 0 ⟨o9⟩ false) (.seq (.region 1 ⟨o8⟩ false) (.seq (.seq (.region 2 ⟨o7⟩ false) (.block 0 (.loop (.seq (.seq (.region 3 ⟨o6⟩ false) (.cond (.tmp 8) .skip (.exit 0))) (.seq (.block 1 (.seq (.region 5 ⟨o5⟩ false) (.cond (.tmp 13) (.region 6 ⟨o4⟩ false) .skip))) (.region 4 ⟨o3⟩ false)))))) (.seq (.region 7 ⟨o1⟩ false) .ret))))
theorem body : Tryz.f81.body = some code := by kernel_rfl
theorem main (P : PT) : ∀ env H, (En 19 k3 (B9 P)) env H → AW Tryz.prog T0 code env H (mkQ (ret P) (fun _ _ _ => False) (ret P)) :=
  (r_seq (rB T0_ok (q9 P)) (r_seq (rB T0_ok (q8 P)) (r_seq (r_seq (rB T0_ok (q7 P)) (r_block (rL (l2 P) (fun N2 => (r_seq (r_seq (rB T0_ok (q6 P N2)) (r_cond rfl r_skip (r_exit (fun _ _ h => h)))) (r_seq (r_block (r_seq (rB T0_ok (q5 P N2)) (r_cond rfl (rB T0_ok (q4 P N2)) r_skip))) (rB T0_ok (q3 P N2)))))))) (r_seq (rB T0_ok (q1 P)) r_ret))))
theorem ac (P : PT) (x0 : Int) (H : AHeap) (h : B9 P x0 H) : AC Tryz.prog T0 81 [(Value.int .u64 x0)] H P :=
  r_fn T0_ok (c := code) (n := 19) Tryz.func81 body (by kernel_rfl) (main P) (En_mk (x0, ()) (by kernel_rfl) ⟨by kernel_rfl, trivial⟩ h)

end F81
-- loop.example/g01329/spec.l01In
namespace F85
noncomputable def ret (P : PT) : EP := retE T0 15 Tryz.f85 P
abbrev k0 : Sk := [(0,.i .i64),(1,.i .i64),(2,.i .i64)]
noncomputable def o1 := ob Tryz.f85 [.r,.l]
def B1 (P : PT) (x0 x1 x2 : Int) (H : AHeap) : Prop :=
  pif (decide ((x0 : Int) ≥ x1)) (P (Value.bool (decide ((x0 : Int) ≤ x2))) H) (P (Value.bool false) H)
theorem q1 (P : PT) : QB Tryz.prog T0 15 o1 (ret P) k0 (B1 P) := fun _ _ _ _ _  => by kernel_rfl
noncomputable def o2 := ob Tryz.f85 [.l]
def B2 (P : PT) (x0 x1 x2 : Int) (H : AHeap) : Prop :=
  B1 P x0 x1 x2 H
theorem q2 (P : PT) : QB Tryz.prog T0 15 o2 (En 15 k0 (B1 P)) k0 (B2 P) := fun _ _ _ _ _  => by kernel_rfl
noncomputable def code : Code := (.seq (.region 0 ⟨o2⟩ false) (.seq (.region 1 ⟨o1⟩ false) .ret))
theorem body : Tryz.f85.body = some code := by kernel_rfl
theorem main (P : PT) : ∀ env H, (En 15 k0 (B2 P)) env H → AW Tryz.prog T0 code env H (mkQ (ret P) (fun _ _ _ => False) (ret P)) :=
  (r_seq (rB T0_ok (q2 P)) (r_seq (rB T0_ok (q1 P)) r_ret))
theorem ac (P : PT) (x0 x1 x2 : Int) (H : AHeap) (h : B2 P x0 x1 x2 H) : AC Tryz.prog T0 85 [(Value.int .i64 x0), (Value.int .i64 x1), (Value.int .i64 x2)] H P :=
  r_fn T0_ok (c := code) (n := 15) Tryz.func85 body (by kernel_rfl) (main P) (En_mk (x0, x1, x2, ()) (by kernel_rfl) ⟨by kernel_rfl, by kernel_rfl, by kernel_rfl, trivial⟩ h)

end F85
-- loop.example/g01329/impl.setOf
namespace F89
noncomputable def ret (P : PT) : EP := retE T0 18 Tryz.f89 P
abbrev k0 : Sk := [(3,.i .u64)]
noncomputable def o1 := ob Tryz.f89 [.r,.r,.r,.l]
def B1 (P : PT) (x3 : Int) (H : AHeap) : Prop :=
  P (Value.int .u64 x3) H
theorem q1 (P : PT) : QB Tryz.prog T0 18 o1 (ret P) k0 (B1 P) := fun _ _ _  => by kernel_rfl
abbrev k1 : Sk := [(3,.i .u64),(6,.v),(7,.i .i64),(8,.i .i64)]
noncomputable def o3 := ob Tryz.f89 [.r,.r,.l,.r,.l,.l,.r,.r,.r]
def B3 (P : PT) (N2 : NTy k1 Pr) (x3 : Int) (x6 : Value) (x7 x8 : Int) (H : AHeap) : Prop :=
  N2 x3 x6 x7 (IntKind.i64.wrap (x8 + 1)) H
theorem q3 (P : PT) (N2 : NTy k1 Pr) : QB Tryz.prog T0 18 o3 (En 18 k1 N2) k1 (B3 P N2) := fun _ _ _ _ _ _  => by kernel_rfl
abbrev k2 : Sk := [(3,.i .u64),(5,.i .i64),(6,.v),(7,.i .i64),(8,.i .i64)]
noncomputable def o4 := ob Tryz.f89 [.r,.r,.l,.r,.l,.l,.r,.r,.l,.l,.r]
def B4 (P : PT) (N2 : NTy k1 Pr) (x3 x5 : Int) (x6 : Value) (x7 x8 : Int) (H : AHeap) : Prop :=
  ((0 : Int) ≤ x5) ∧ (B3 P N2 (IntKind.u64.wrap (BitVec.ofInt 64 x3 ||| BitVec.ofInt 64 (IntKind.u64.wrap (1 * 2 ^ (min (Int.toNat x5) 64)))).toNat) x6 x7 x8 H)
theorem q4 (P : PT) (N2 : NTy k1 Pr) : QB Tryz.prog T0 18 o4 (En 18 k1 (B3 P N2)) k2 (B4 P N2) := fun _ _ _ _ _ _ _  => by kernel_rfl
noncomputable def o5 := ob Tryz.f89 [.r,.r,.l,.r,.l,.l,.r,.r,.l,.l,.l]
def B5 (P : PT) (N2 : NTy k1 Pr) (x3 : Int) (x6 : Value) (x7 x8 : Int) (H : AHeap) : Prop :=
  idxK x6 x8 1 (fun b1 o2 => ldI .i64 H b1 o2 (fun v3 => B4 P N2 x3 v3 x6 x7 x8 H))
theorem q5 (P : PT) (N2 : NTy k1 Pr) : QB Tryz.prog T0 18 o5 (En 18 k2 (B4 P N2)) k1 (B5 P N2) := fun _ _ _ _ _ _  => by kernel_rfl
noncomputable def o6 := ob Tryz.f89 [.r,.r,.l,.r,.l,.l,.l]
def B6 (P : PT) (N2 : NTy k1 Pr) (x3 : Int) (x6 : Value) (x7 x8 : Int) (H : AHeap) : Prop :=
  pif (decide ((x8 : Int) < x7)) (B5 P N2 x3 x6 x7 x8 H) (B1 P x3 H)
theorem q6 (P : PT) (N2 : NTy k1 Pr) : QB Tryz.prog T0 18 o6 (cnd 9 (En 18 k1 (B5 P N2)) (En 18 k0 (B1 P))) k1 (B6 P N2) := fun _ _ _ _ _ _  => by kernel_rfl
def L2 (P : PT) (x3 : Int) (x6 : Value) (x7 x8 : Int) (H : AHeap) : Prop :=
  ∃ (I : NTy k1 Pr) (μ : NTy k1 (AHeap → Nat)), I x3 x6 x7 x8 H ∧ ∀ y3 y6 y7 y8 G, I y3 y6 y7 y8 G → B6 P (fun z3 z6 z7 z8 G' => I z3 z6 z7 z8 G' ∧ μ z3 z6 z7 z8 G' < μ y3 y6 y7 y8 G) y3 y6 y7 y8 G
theorem l2 (P : PT) : LQ k1 (L2 P) (B6 P) := fun ⟨_,_,_,_,_⟩ _ ⟨I, μ, h0, hI⟩ => ⟨apT _ I, apT _ μ, h0, fun ⟨_,_,_,_,_⟩ _ h => hI _ _ _ _ _  h⟩
abbrev k3 : Sk := [(0,.v),(3,.i .u64)]
noncomputable def o7 := ob Tryz.f89 [.r,.r,.l,.l]
def B7 (P : PT) (x0 : Value) (x3 : Int) (H : AHeap) : Prop :=
  lenK x0 (fun n1 => L2 P x3 x0 (n1 : Int) 0 H)
theorem q7 (P : PT) : QB Tryz.prog T0 18 o7 (En 18 k1 (L2 P)) k3 (B7 P) := fun _ _ _ _  => by kernel_rfl
abbrev k4 : Sk := [(0,.v)]
noncomputable def o8 := ob Tryz.f89 [.r,.l]
def B8 (P : PT) (x0 : Value) (H : AHeap) : Prop :=
  B7 P x0 0 H
theorem q8 (P : PT) : QB Tryz.prog T0 18 o8 (En 18 k3 (B7 P)) k4 (B8 P) := fun _ _ _  => by kernel_rfl
noncomputable def o9 := ob Tryz.f89 [.l]
def B9 (P : PT) (x0 : Value) (H : AHeap) : Prop :=
  B8 P x0 H
theorem q9 (P : PT) : QB Tryz.prog T0 18 o9 (En 18 k4 (B8 P)) k4 (B9 P) := fun _ _ _  => by kernel_rfl
noncomputable def code : Code := (.seq (.region 0 ⟨o9⟩ false) (.seq (.region 1 ⟨o8⟩ false) (.seq (.seq (.region 2 ⟨o7⟩ false) (.block 0 (.loop (.seq (.region 3 ⟨o6⟩ false) (.seq (.cond (.tmp 9) .skip (.exit 0)) (.seq (.block 1 (.seq (.region 4 ⟨o5⟩ false) (.region 5 ⟨o4⟩ false))) (.region 6 ⟨o3⟩ false))))))) (.seq (.region 7 ⟨o1⟩ false) .ret))))
theorem body : Tryz.f89.body = some code := by kernel_rfl
theorem main (P : PT) : ∀ env H, (En 18 k4 (B9 P)) env H → AW Tryz.prog T0 code env H (mkQ (ret P) (fun _ _ _ => False) (ret P)) :=
  (r_seq (rB T0_ok (q9 P)) (r_seq (rB T0_ok (q8 P)) (r_seq (r_seq (rB T0_ok (q7 P)) (r_block (rL (l2 P) (fun N2 => (r_seq (rB T0_ok (q6 P N2)) (r_seq (r_cond rfl r_skip (r_exit (fun _ _ h => h))) (r_seq (r_block (r_seq (rB T0_ok (q5 P N2)) (rB T0_ok (q4 P N2)))) (rB T0_ok (q3 P N2))))))))) (r_seq (rB T0_ok (q1 P)) r_ret))))
theorem ac (P : PT) (x0 : Value) (H : AHeap) (h : B9 P x0 H) : AC Tryz.prog T0 89 [x0] H P :=
  r_fn T0_ok (c := code) (n := 18) Tryz.func89 body (by kernel_rfl) (main P) (En_mk (x0, ()) (by kernel_rfl) ⟨by kernel_rfl, trivial⟩ h)

end F89
-- loop.example/g01329/laws.szEdgeS
namespace F108
noncomputable def ret (P : PT) : EP := retE T0 12 Tryz.f108 P
abbrev k0 : Sk := [(1,.i .i64)]
noncomputable def o1 := ob Tryz.f108 [.r,.r,.r,.l]
def B1 (P : PT) (x1 : Int) (H : AHeap) : Prop :=
  P (Value.int .i64 x1) H
theorem q1 (P : PT) : QB Tryz.prog T0 12 o1 (ret P) k0 (B1 P) := fun _ _ _  => by kernel_rfl
abbrev k1 : Sk := []
noncomputable def o2 := ob Tryz.f108 [.r,.r,.l,.r,.l,.l]
def B2 (P : PT) (H : AHeap) : Prop :=
  P (Value.int .i64 (-1)) H
theorem q2 (P : PT) : QB Tryz.prog T0 12 o2 (ret P) k1 (B2 P) := fun _ _  => by kernel_rfl
noncomputable def o3 := ob Tryz.f108 [.r,.r,.l,.l]
def B3 (P : PT) (x1 : Int) (H : AHeap) : Prop :=
  pif (decide ((x1 : Int) < 0)) (B2 P H) (B1 P x1 H)
theorem q3 (P : PT) : QB Tryz.prog T0 12 o3 (cnd 10 (En 12 k1 (B2 P)) (En 12 k0 (B1 P))) k0 (B3 P) := fun _ _ _  => by kernel_rfl
abbrev k2 : Sk := [(0,.v),(1,.i .i64)]
noncomputable def o4 := ob Tryz.f108 [.r,.l]
def B4 (P : PT) (x0 : Value) (x1 : Int) (H : AHeap) : Prop :=
  lenK x0 (fun n1 => B3 P (IntKind.i64.wrap (x1 - (n1 : Int))) H)
theorem q4 (P : PT) : QB Tryz.prog T0 12 o4 (En 12 k0 (B3 P)) k2 (B4 P) := fun _ _ _ _  => by kernel_rfl
noncomputable def o5 := ob Tryz.f108 [.l]
def B5 (P : PT) (x0 : Value) (x1 : Int) (H : AHeap) : Prop :=
  B4 P x0 x1 H
theorem q5 (P : PT) : QB Tryz.prog T0 12 o5 (En 12 k2 (B4 P)) k2 (B5 P) := fun _ _ _ _  => by kernel_rfl
noncomputable def code : Code := (.seq (.region 0 ⟨o5⟩ false) (.seq (.region 1 ⟨o4⟩ false) (.seq (.seq (.region 2 ⟨o3⟩ false) (.cond (.tmp 10) (.seq (.region 3 ⟨o2⟩ false) .ret) .skip)) (.seq (.region 4 ⟨o1⟩ false) .ret))))
theorem body : Tryz.f108.body = some code := by kernel_rfl
theorem main (P : PT) : ∀ env H, (En 12 k2 (B5 P)) env H → AW Tryz.prog T0 code env H (mkQ (ret P) (fun _ _ _ => False) (ret P)) :=
  (r_seq (rB T0_ok (q5 P)) (r_seq (rB T0_ok (q4 P)) (r_seq (r_seq (rB T0_ok (q3 P)) (r_cond rfl (r_seq (rB T0_ok (q2 P)) r_ret) r_skip)) (r_seq (rB T0_ok (q1 P)) r_ret))))
theorem ac (P : PT) (x0 : Value) (x1 : Int) (H : AHeap) (h : B5 P x0 x1 H) : AC Tryz.prog T0 108 [x0, (Value.int .i64 x1)] H P :=
  r_fn T0_ok (c := code) (n := 12) Tryz.func108 body (by kernel_rfl) (main P) (En_mk (x0, x1, ()) (by kernel_rfl) ⟨by kernel_rfl, by kernel_rfl, trivial⟩ h)

end F108
-- loop.example/g01329/spec.l07Merge
namespace F109
noncomputable def ret (P : PT) : EP := retE T0 76 Tryz.f109 P
abbrev k0 : Sk := [(5,.v)]
noncomputable def o1 := ob Tryz.f109 [.r,.r,.r,.r,.r,.l]
def B1 (P : PT) (x5 : Value) (H : AHeap) : Prop :=
  P x5 H
theorem q1 (P : PT) : QB Tryz.prog T0 76 o1 (ret P) k0 (B1 P) := fun _ _ _  => by kernel_rfl
abbrev k1 : Sk := [(3,.v),(4,.v),(5,.v),(6,.i .i64),(7,.i .i64)]
noncomputable def o3 := ob Tryz.f109 [.r,.r,.r,.r,.l,.r,.l,.l,.r,.l,.r,.l,.r]
def B3 (P : PT) (N2 : NTy k1 Pr) (x3 x4 x5 : Value) (x6 x7 : Int) (H : AHeap) : Prop :=
  N2 x3 x4 x5 (IntKind.i64.wrap (x6 + 1)) x7 H
theorem q3 (P : PT) (N2 : NTy k1 Pr) : QB Tryz.prog T0 76 o3 (En 76 k1 N2) k1 (B3 P N2) := fun _ _ _ _ _ _ _  => by kernel_rfl
noncomputable def o4 := ob Tryz.f109 [.r,.r,.r,.r,.l,.r,.l,.l,.r,.l,.r,.l,.l]
def B4 (P : PT) (N2 : NTy k1 Pr) (x3 x4 x5 : Value) (x6 x7 : Int) (H : AHeap) : Prop :=
  idxK x3 x6 1 (fun b1 o2 => ld1 H b1 o2 (fun v3 => pif (Value.oneCell' v3) (newK H [v3] 28 (fun b4 H5 => apK T0 28 H5 x5 (Value.slice (some ⟨b4, 0, none⟩) 1 (1 + 1)) (fun v6 H7 => B3 P N2 x3 x4 v6 x6 x7 H7))) False))
theorem q4 (P : PT) (N2 : NTy k1 Pr) : QB Tryz.prog T0 76 o4 (En 76 k1 (B3 P N2)) k1 (B4 P N2) := fun _ _ _ _ _ _ _  => by kernel_rfl
noncomputable def o5 := ob Tryz.f109 [.r,.r,.r,.r,.l,.r,.l,.l,.r,.l,.r,.r,.r]
def B5 (P : PT) (N2 : NTy k1 Pr) (x3 x4 x5 : Value) (x6 x7 : Int) (H : AHeap) : Prop :=
  N2 x3 x4 x5 x6 (IntKind.i64.wrap (x7 + 1)) H
theorem q5 (P : PT) (N2 : NTy k1 Pr) : QB Tryz.prog T0 76 o5 (En 76 k1 N2) k1 (B5 P N2) := fun _ _ _ _ _ _ _  => by kernel_rfl
noncomputable def o6 := ob Tryz.f109 [.r,.r,.r,.r,.l,.r,.l,.l,.r,.l,.r,.r,.l]
def B6 (P : PT) (N2 : NTy k1 Pr) (x3 x4 x5 : Value) (x6 x7 : Int) (H : AHeap) : Prop :=
  idxK x4 x7 1 (fun b1 o2 => ld1 H b1 o2 (fun v3 => pif (Value.oneCell' v3) (newK H [v3] 28 (fun b4 H5 => apK T0 28 H5 x5 (Value.slice (some ⟨b4, 0, none⟩) 1 (1 + 1)) (fun v6 H7 => B5 P N2 x3 x4 v6 x6 x7 H7))) False))
theorem q6 (P : PT) (N2 : NTy k1 Pr) : QB Tryz.prog T0 76 o6 (En 76 k1 (B5 P N2)) k1 (B6 P N2) := fun _ _ _ _ _ _ _  => by kernel_rfl
noncomputable def o7 := ob Tryz.f109 [.r,.r,.r,.r,.l,.r,.l,.l,.r,.l,.l]
def B7 (P : PT) (N2 : NTy k1 Pr) (x3 x4 x5 : Value) (x6 x7 : Int) (H : AHeap) : Prop :=
  lenK x4 (fun n1 => pif ((x7 : Int) == (n1 : Int)) (B4 P N2 x3 x4 x5 x6 x7 H) (lenK x3 (fun n2 => pif (decide ((x6 : Int) < (n2 : Int))) (idxK x4 x7 1 (fun b3 o4 => ld1 H b3 o4 (fun v5 => idxK x3 x6 1 (fun b6 o7 => ld1 H b6 o7 (fun v8 => AC Tryz.prog T0 157 [v5, v8] H (fun v9 H10 => asB v9 (fun v11 => pif (!v11) (B4 P N2 x3 x4 x5 x6 x7 H10) (B6 P N2 x3 x4 x5 x6 x7 H10)))))))) (B6 P N2 x3 x4 x5 x6 x7 H))))
theorem q7 (P : PT) (N2 : NTy k1 Pr) : QD Tryz.prog T0 76 o7 [(0, false), (1, false), (2, false), (3, false), (4, false), (5, false), (6, false), (7, false), (8, false), (9, false), (10, false), (11, false), (12, false), (13, false), (14, false), (15, false), (16, false), (17, false), (18, false), (19, false), (20, false), (21, false)] (cnd 56 (En 76 k1 (B4 P N2)) (En 76 k1 (B6 P N2))) k1 (B7 P N2) := fun _ _ _ _ _ _ _  => by kernel_rfl
noncomputable def o8 := ob Tryz.f109 [.r,.r,.r,.r,.l,.r,.l,.l,.l,.l]
def B8 (P : PT) (N2 : NTy k1 Pr) (x3 x4 x5 : Value) (x6 x7 : Int) (H : AHeap) : Prop :=
  lenK x3 (fun n1 => pif (decide ((x6 : Int) < (n1 : Int))) (B7 P N2 x3 x4 x5 x6 x7 H) (lenK x4 (fun n2 => pif (decide ((x7 : Int) < (n2 : Int))) (B7 P N2 x3 x4 x5 x6 x7 H) (B1 P x5 H))))
theorem q8 (P : PT) (N2 : NTy k1 Pr) : QB Tryz.prog T0 76 o8 (cnd 34 (En 76 k1 (B7 P N2)) (En 76 k0 (B1 P))) k1 (B8 P N2) := fun _ _ _ _ _ _ _  => by kernel_rfl
def L2 (P : PT) (x3 x4 x5 : Value) (x6 x7 : Int) (H : AHeap) : Prop :=
  ∃ (I : NTy k1 Pr) (μ : NTy k1 (AHeap → Nat)), I x3 x4 x5 x6 x7 H ∧ ∀ y3 y4 y5 y6 y7 G, I y3 y4 y5 y6 y7 G → B8 P (fun z3 z4 z5 z6 z7 G' => I z3 z4 z5 z6 z7 G' ∧ μ z3 z4 z5 z6 z7 G' < μ y3 y4 y5 y6 y7 G) y3 y4 y5 y6 y7 G
theorem l2 (P : PT) : LQ k1 (L2 P) (B8 P) := fun ⟨_,_,_,_,_,_⟩ _ ⟨I, μ, h0, hI⟩ => ⟨apT _ I, apT _ μ, h0, fun ⟨_,_,_,_,_,_⟩ _ h => hI _ _ _ _ _ _  h⟩
abbrev k2 : Sk := [(3,.v),(4,.v),(5,.v)]
noncomputable def o9 := ob Tryz.f109 [.r,.r,.r,.r,.l,.l]
def B9 (P : PT) (x3 x4 x5 : Value) (H : AHeap) : Prop :=
  L2 P x3 x4 x5 0 0 H
theorem q9 (P : PT) : QB Tryz.prog T0 76 o9 (En 76 k1 (L2 P)) k2 (B9 P) := fun _ _ _ _ _  => by kernel_rfl
abbrev k3 : Sk := [(3,.v),(4,.v)]
noncomputable def o10 := ob Tryz.f109 [.r,.r,.r,.l]
def B10 (P : PT) (x3 x4 : Value) (H : AHeap) : Prop :=
  newK H [] 28 (fun b1 H2 => B9 P x3 x4 (Value.slice (some ⟨b1, 0, none⟩) 0 (0 + 1)) H2)
theorem q10 (P : PT) : QB Tryz.prog T0 76 o10 (En 76 k2 (B9 P)) k3 (B10 P) := fun _ _ _ _  => by kernel_rfl
abbrev k4 : Sk := [(0,.v)]
noncomputable def o11 := ob Tryz.f109 [.r,.r,.l]
def B11 (P : PT) (x0 : Value) (H : AHeap) : Prop :=
  lenK x0 (fun n1 => sliceK H 28 x0 none (some (Value.int .i64 (IntKind.i64.wrap (Int.tdiv (n1 : Int) 2)))) 1 (fun v2 => lenK x0 (fun n3 => sliceK H 28 x0 (some (Value.int .i64 (IntKind.i64.wrap (Int.tdiv (n3 : Int) 2)))) none 1 (fun v4 => AC Tryz.prog T0 109 [v2] H (fun v5 H6 => (AHeap.le H H6) ∧ (AC Tryz.prog T0 109 [v4] H6 (fun v8 H9 => B10 P v5 v8 H9)))))))
theorem q11 (P : PT) : QD Tryz.prog T0 76 o11 [(0, false), (1, false), (2, false), (3, false), (4, false), (6, false), (7, false), (8, false), (9, false), (10, false), (5, true), (11, false), (12, false), (13, false)] (En 76 k3 (B10 P)) k4 (B11 P) := fun _ _ _  => by kernel_rfl
noncomputable def o12 := ob Tryz.f109 [.r,.l,.r,.l,.l]
def B12 (P : PT) (x0 : Value) (H : AHeap) : Prop :=
  P x0 H
theorem q12 (P : PT) : QB Tryz.prog T0 76 o12 (ret P) k4 (B12 P) := fun _ _ _  => by kernel_rfl
noncomputable def o13 := ob Tryz.f109 [.r,.l,.l]
def B13 (P : PT) (x0 : Value) (H : AHeap) : Prop :=
  lenK x0 (fun n1 => pif (decide (((n1 : Int) : Int) < 2)) (B12 P x0 H) (B11 P x0 H))
theorem q13 (P : PT) : QB Tryz.prog T0 76 o13 (cnd 10 (En 76 k4 (B12 P)) (En 76 k4 (B11 P))) k4 (B13 P) := fun _ _ _  => by kernel_rfl
noncomputable def o14 := ob Tryz.f109 [.l]
def B14 (P : PT) (x0 : Value) (H : AHeap) : Prop :=
  B13 P x0 H
theorem q14 (P : PT) : QB Tryz.prog T0 76 o14 (En 76 k4 (B13 P)) k4 (B14 P) := fun _ _ _  => by kernel_rfl
noncomputable def code : Code := (.seq (.region 0 ⟨o14⟩ false) (.seq (.seq (.region 1 ⟨o13⟩ false) (.cond (.tmp 10) (.seq (.region 2 ⟨o12⟩ false) .ret) .skip)) (.seq (.region 3 ⟨o11⟩ true) (.seq (.region 4 ⟨o10⟩ false) (.seq (.seq (.region 5 ⟨o9⟩ false) (.block 0 (.loop (.seq (.seq (.region 6 ⟨o8⟩ false) (.cond (.tmp 34) .skip (.exit 0))) (.block 1 (.seq (.region 7 ⟨o7⟩ true) (.cond (.tmp 56) (.seq (.region 8 ⟨o4⟩ false) (.region 9 ⟨o3⟩ false)) (.seq (.region 10 ⟨o6⟩ false) (.region 11 ⟨o5⟩ false))))))))) (.seq (.region 12 ⟨o1⟩ false) .ret))))))
theorem body : Tryz.f109.body = some code := by kernel_rfl
theorem main (P : PT) : ∀ env H, (En 76 k4 (B14 P)) env H → AW Tryz.prog T0 code env H (mkQ (ret P) (fun _ _ _ => False) (ret P)) :=
  (r_seq (rB T0_ok (q14 P)) (r_seq (r_seq (rB T0_ok (q13 P)) (r_cond rfl (r_seq (rB T0_ok (q12 P)) r_ret) r_skip)) (r_seq (rD T0_ok mixed [(0, false), (1, false), (2, false), (3, false), (4, false), (6, false), (7, false), (8, false), (9, false), (10, false), (5, true), (11, false), (12, false), (13, false)] (by kernel_rfl) (q11 P)) (r_seq (rB T0_ok (q10 P)) (r_seq (r_seq (rB T0_ok (q9 P)) (r_block (rL (l2 P) (fun N2 => (r_seq (r_seq (rB T0_ok (q8 P N2)) (r_cond rfl r_skip (r_exit (fun _ _ h => h)))) (r_block (r_seq (rD T0_ok mixed [(0, false), (1, false), (2, false), (3, false), (4, false), (5, false), (6, false), (7, false), (8, false), (9, false), (10, false), (11, false), (12, false), (13, false), (14, false), (15, false), (16, false), (17, false), (18, false), (19, false), (20, false), (21, false)] (by kernel_rfl) (q7 P N2)) (r_cond rfl (r_seq (rB T0_ok (q4 P N2)) (rB T0_ok (q3 P N2))) (r_seq (rB T0_ok (q6 P N2)) (rB T0_ok (q5 P N2))))))))))) (r_seq (rB T0_ok (q1 P)) r_ret))))))
theorem ac (P : PT) (x0 : Value) (H : AHeap) (h : B14 P x0 H) : AC Tryz.prog T0 109 [x0] H P :=
  r_fn T0_ok (c := code) (n := 76) Tryz.func109 body (by kernel_rfl) (main P) (En_mk (x0, ()) (by kernel_rfl) ⟨by kernel_rfl, trivial⟩ h)

end F109
-- loop.example/g01329/spec.l07All
namespace F110
noncomputable def ret (P : PT) : EP := retE T0 45 Tryz.f110 P
abbrev k0 : Sk := [(3,.v)]
noncomputable def o1 := ob Tryz.f110 [.r,.r,.r,.l]
def B1 (P : PT) (x3 : Value) (H : AHeap) : Prop :=
  P x3 H
theorem q1 (P : PT) : QB Tryz.prog T0 45 o1 (ret P) k0 (B1 P) := fun _ _ _  => by kernel_rfl
abbrev k1 : Sk := [(1,.x),(3,.v),(4,.i .i64)]
noncomputable def o3 := ob Tryz.f110 [.r,.r,.l,.r,.l,.l,.r,.r]
def B3 (P : PT) (N2 : NTy k1 Pr) (x1 : Nat) (x3 : Value) (x4 : Int) (H : AHeap) : Prop :=
  N2 x1 x3 (IntKind.i64.wrap (x4 + 1)) H
theorem q3 (P : PT) (N2 : NTy k1 Pr) : QB Tryz.prog T0 45 o3 (En 45 k1 N2) k1 (B3 P N2) := fun _ _ _ _ _  => by kernel_rfl
abbrev k2 : Sk := [(1,.x),(3,.v),(4,.i .i64),(5,.v)]
noncomputable def o4 := ob Tryz.f110 [.r,.r,.l,.r,.l,.l,.r,.l,.l,.r,.r]
def B4 (P : PT) (N2 : NTy k1 Pr) (x1 : Nat) (x3 : Value) (x4 : Int) (x5 : Value) (H : AHeap) : Prop :=
  ldI .i64 H x1 0 (fun v1 => ld1 H x1 1 (fun v2 => ld1 H x1 1 (fun v3 => idxK v3 x4 2 (fun b4 o5 => ldI .i64 H b4 (o5 + 1) (fun v6 => ld1 H x1 1 (fun v7 => idxK v7 x4 2 (fun b8 o9 => ldI .i64 H b8 o9 (fun v10 => newK H [(Value.int .i64 x4)] 2 (fun b11 H12 => AC Tryz.prog T0 158 [(Value.agg ⟨[(Value.int .i64 v1), v2]⟩), (Value.slice (some ⟨b11, 0, none⟩) 1 (1 + 1)), (Value.int .i64 v6), (Value.int .i64 v10), x5] H12 (fun v13 H14 => apK T0 28 H14 x3 v13 (fun v16 H17 => B3 P N2 x1 v16 x4 H17)))))))))))
theorem q4 (P : PT) (N2 : NTy k1 Pr) : QD Tryz.prog T0 45 o4 [(0, false), (1, false), (2, false), (4, false), (5, false), (6, false), (7, false), (8, false), (9, false), (10, false), (11, false), (12, false), (13, false), (14, false), (15, false), (16, false), (3, false), (17, false), (18, false), (19, false)] (En 45 k1 (B3 P N2)) k2 (B4 P N2) := fun _ _ _ _ _ _  => by kernel_rfl
noncomputable def o5 := ob Tryz.f110 [.r,.r,.l,.r,.l,.l,.r,.l,.l,.r,.l]
def B5 (P : PT) (N2 : NTy k1 Pr) (x1 : Nat) (x3 : Value) (x4 : Int) (x5 : Value) (H : AHeap) : Prop :=
  ld1 H x1 1 (fun v1 => idxK v1 x4 2 (fun b2 o3 => ldI .i64 H b2 (o3 + 1) (fun v4 => idxK x5 v4 1 (fun b5 o6 => stK H b5 o6 [(Value.bool true)] (fun H7 => B4 P N2 x1 x3 x4 x5 H7)))))
theorem q5 (P : PT) (N2 : NTy k1 Pr) : QB Tryz.prog T0 45 o5 (En 45 k2 (B4 P N2)) k2 (B5 P N2) := fun _ _ _ _ _ _  => by kernel_rfl
noncomputable def o6 := ob Tryz.f110 [.r,.r,.l,.r,.l,.l,.r,.l,.l,.l]
def B6 (P : PT) (N2 : NTy k1 Pr) (x1 : Nat) (x3 : Value) (x4 : Int) (H : AHeap) : Prop :=
  ldI .i64 H x1 0 (fun v1 => mkR H 1 4 [(Value.bool false)] v1 v1 (fun v3 H2 => B5 P N2 x1 x3 x4 v3 H2))
theorem q6 (P : PT) (N2 : NTy k1 Pr) : QB Tryz.prog T0 45 o6 (En 45 k2 (B5 P N2)) k1 (B6 P N2) := fun _ _ _ _ _  => by kernel_rfl
noncomputable def o7 := ob Tryz.f110 [.r,.r,.l,.r,.l,.l,.l,.l]
def B7 (P : PT) (N2 : NTy k1 Pr) (x1 : Nat) (x3 : Value) (x4 : Int) (H : AHeap) : Prop :=
  ld1 H x1 1 (fun v1 => lenK v1 (fun n2 => pif (decide ((x4 : Int) < (n2 : Int))) (B6 P N2 x1 x3 x4 H) (B1 P x3 H)))
theorem q7 (P : PT) (N2 : NTy k1 Pr) : QB Tryz.prog T0 45 o7 (cnd 11 (En 45 k1 (B6 P N2)) (En 45 k0 (B1 P))) k1 (B7 P N2) := fun _ _ _ _ _  => by kernel_rfl
def L2 (P : PT) (x1 : Nat) (x3 : Value) (x4 : Int) (H : AHeap) : Prop :=
  ∃ (I : NTy k1 Pr) (μ : NTy k1 (AHeap → Nat)), I x1 x3 x4 H ∧ ∀ y1 y3 y4 G, I y1 y3 y4 G → B7 P (fun z1 z3 z4 G' => I z1 z3 z4 G' ∧ μ z1 z3 z4 G' < μ y1 y3 y4 G) y1 y3 y4 G
theorem l2 (P : PT) : LQ k1 (L2 P) (B7 P) := fun ⟨_,_,_,_⟩ _ ⟨I, μ, h0, hI⟩ => ⟨apT _ I, apT _ μ, h0, fun ⟨_,_,_,_⟩ _ h => hI _ _ _ _  h⟩
abbrev k3 : Sk := [(1,.x),(3,.v)]
noncomputable def o8 := ob Tryz.f110 [.r,.r,.l,.l]
def B8 (P : PT) (x1 : Nat) (x3 : Value) (H : AHeap) : Prop :=
  L2 P x1 x3 0 H
theorem q8 (P : PT) : QB Tryz.prog T0 45 o8 (En 45 k1 (L2 P)) k3 (B8 P) := fun _ _ _ _  => by kernel_rfl
abbrev k4 : Sk := [(1,.x)]
noncomputable def o9 := ob Tryz.f110 [.r,.l]
def B9 (P : PT) (x1 : Nat) (H : AHeap) : Prop :=
  newK H [] 28 (fun b1 H2 => B8 P x1 (Value.slice (some ⟨b1, 0, none⟩) 0 (0 + 1)) H2)
theorem q9 (P : PT) : QB Tryz.prog T0 45 o9 (En 45 k3 (B8 P)) k4 (B9 P) := fun _ _ _  => by kernel_rfl
abbrev k5 : Sk := [(0,.g [.i,.v])]
noncomputable def o10 := ob Tryz.f110 [.l]
def B10 (P : PT) (x0a : Int) (x0b : Value) (H : AHeap) : Prop :=
  newK H [(Value.int .i64 x0a), x0b] 26 (fun b1 H2 => B9 P b1 H2)
theorem q10 (P : PT) : QB Tryz.prog T0 45 o10 (En 45 k4 (B9 P)) k5 (B10 P) := fun _ _ _ _  => by kernel_rfl
noncomputable def code : Code := (.seq (.region 0 ⟨o10⟩ false) (.seq (.region 1 ⟨o9⟩ false) (.seq (.seq (.region 2 ⟨o8⟩ false) (.block 0 (.loop (.seq (.seq (.region 3 ⟨o7⟩ false) (.cond (.tmp 11) .skip (.exit 0))) (.seq (.block 1 (.seq (.region 5 ⟨o6⟩ false) (.seq (.region 6 ⟨o5⟩ false) (.region 7 ⟨o4⟩ true)))) (.region 4 ⟨o3⟩ false)))))) (.seq (.region 8 ⟨o1⟩ false) .ret))))
theorem body : Tryz.f110.body = some code := by kernel_rfl
theorem main (P : PT) : ∀ env H, (En 45 k5 (B10 P)) env H → AW Tryz.prog T0 code env H (mkQ (ret P) (fun _ _ _ => False) (ret P)) :=
  (r_seq (rB T0_ok (q10 P)) (r_seq (rB T0_ok (q9 P)) (r_seq (r_seq (rB T0_ok (q8 P)) (r_block (rL (l2 P) (fun N2 => (r_seq (r_seq (rB T0_ok (q7 P N2)) (r_cond rfl r_skip (r_exit (fun _ _ h => h)))) (r_seq (r_block (r_seq (rB T0_ok (q6 P N2)) (r_seq (rB T0_ok (q5 P N2)) (rD T0_ok mixed [(0, false), (1, false), (2, false), (4, false), (5, false), (6, false), (7, false), (8, false), (9, false), (10, false), (11, false), (12, false), (13, false), (14, false), (15, false), (16, false), (3, false), (17, false), (18, false), (19, false)] (by kernel_rfl) (q4 P N2))))) (rB T0_ok (q3 P N2)))))))) (r_seq (rB T0_ok (q1 P)) r_ret))))
theorem ac (P : PT) (x0a : Int) (x0b : Value) (H : AHeap) (h : B10 P x0a x0b H) : AC Tryz.prog T0 110 [(Value.agg ⟨[(Value.int .i64 x0a), x0b]⟩)] H P :=
  r_fn T0_ok (c := code) (n := 45) Tryz.func110 body (by kernel_rfl) (main P) (En_mk (x0a, x0b, ()) (by kernel_rfl) ⟨by kernel_rfl, trivial⟩ h)

end F110
-- loop.example/g01329/laws.toEdgeS
namespace F111
noncomputable def ret (P : PT) : EP := retE T0 23 Tryz.f111 P
abbrev k0 : Sk := [(3,.v)]
noncomputable def o1 := ob Tryz.f111 [.r,.r,.r,.l]
def B1 (P : PT) (x3 : Value) (H : AHeap) : Prop :=
  P x3 H
theorem q1 (P : PT) : QB Tryz.prog T0 23 o1 (ret P) k0 (B1 P) := fun _ _ _  => by kernel_rfl
abbrev k1 : Sk := [(0,.v),(3,.v),(4,.i .i64)]
noncomputable def o3 := ob Tryz.f111 [.r,.r,.l,.r,.l,.l,.r,.r]
def B3 (P : PT) (N2 : NTy k1 Pr) (x0 x3 : Value) (x4 : Int) (H : AHeap) : Prop :=
  N2 x0 x3 (IntKind.i64.wrap (x4 + 1)) H
theorem q3 (P : PT) (N2 : NTy k1 Pr) : QB Tryz.prog T0 23 o3 (En 23 k1 N2) k1 (B3 P N2) := fun _ _ _ _ _  => by kernel_rfl
noncomputable def o4 := ob Tryz.f111 [.r,.r,.l,.r,.l,.l,.r,.l,.l]
def B4 (P : PT) (N2 : NTy k1 Pr) (x0 x3 : Value) (x4 : Int) (H : AHeap) : Prop :=
  idxK x0 x4 2 (fun b1 o2 => ldI .i64 H b1 o2 (fun v3 => ldI .i64 H b1 (o2 + 1) (fun v4 => AC Tryz.prog T0 159 [(Value.agg ⟨[(Value.int .i64 v3), (Value.int .i64 v4)]⟩)] H (fun v5 H6 => agg2 v5 (fun v7 v8 => asI .i64 v7 (fun v9 => asI .i64 v8 (fun v10 => idxK x3 x4 2 (fun b11 o12 => stK H6 b11 o12 [(Value.int .i64 v9), (Value.int .i64 v10)] (fun H13 => B3 P N2 x0 x3 x4 H13)))))))))
theorem q4 (P : PT) (N2 : NTy k1 Pr) : QB Tryz.prog T0 23 o4 (En 23 k1 (B3 P N2)) k1 (B4 P N2) := fun _ _ _ _ _  => by kernel_rfl
noncomputable def o5 := ob Tryz.f111 [.r,.r,.l,.r,.l,.l,.l,.l]
def B5 (P : PT) (N2 : NTy k1 Pr) (x0 x3 : Value) (x4 : Int) (H : AHeap) : Prop :=
  lenK x0 (fun n1 => pif (decide ((x4 : Int) < (n1 : Int))) (B4 P N2 x0 x3 x4 H) (B1 P x3 H))
theorem q5 (P : PT) (N2 : NTy k1 Pr) : QB Tryz.prog T0 23 o5 (cnd 11 (En 23 k1 (B4 P N2)) (En 23 k0 (B1 P))) k1 (B5 P N2) := fun _ _ _ _ _  => by kernel_rfl
def L2 (P : PT) (x0 x3 : Value) (x4 : Int) (H : AHeap) : Prop :=
  ∃ (I : NTy k1 Pr) (μ : NTy k1 (AHeap → Nat)), I x0 x3 x4 H ∧ ∀ y0 y3 y4 G, I y0 y3 y4 G → B5 P (fun z0 z3 z4 G' => I z0 z3 z4 G' ∧ μ z0 z3 z4 G' < μ y0 y3 y4 G) y0 y3 y4 G
theorem l2 (P : PT) : LQ k1 (L2 P) (B5 P) := fun ⟨_,_,_,_⟩ _ ⟨I, μ, h0, hI⟩ => ⟨apT _ I, apT _ μ, h0, fun ⟨_,_,_,_⟩ _ h => hI _ _ _ _  h⟩
abbrev k2 : Sk := [(0,.v),(3,.v)]
noncomputable def o6 := ob Tryz.f111 [.r,.r,.l,.l]
def B6 (P : PT) (x0 x3 : Value) (H : AHeap) : Prop :=
  L2 P x0 x3 0 H
theorem q6 (P : PT) : QB Tryz.prog T0 23 o6 (En 23 k1 (L2 P)) k2 (B6 P) := fun _ _ _ _  => by kernel_rfl
abbrev k3 : Sk := [(0,.v)]
noncomputable def o7 := ob Tryz.f111 [.r,.l]
def B7 (P : PT) (x0 : Value) (H : AHeap) : Prop :=
  lenK x0 (fun n1 => mkR H 16 78 [(Value.int .i64 0), (Value.int .i64 0)] (n1 : Int) (n1 : Int) (fun v3 H2 => B6 P x0 v3 H2))
theorem q7 (P : PT) : QB Tryz.prog T0 23 o7 (En 23 k2 (B6 P)) k3 (B7 P) := fun _ _ _  => by kernel_rfl
noncomputable def o8 := ob Tryz.f111 [.l]
def B8 (P : PT) (x0 : Value) (H : AHeap) : Prop :=
  B7 P x0 H
theorem q8 (P : PT) : QB Tryz.prog T0 23 o8 (En 23 k3 (B7 P)) k3 (B8 P) := fun _ _ _  => by kernel_rfl
noncomputable def code : Code := (.seq (.region 0 ⟨o8⟩ false) (.seq (.region 1 ⟨o7⟩ false) (.seq (.seq (.region 2 ⟨o6⟩ false) (.block 0 (.loop (.seq (.seq (.region 3 ⟨o5⟩ false) (.cond (.tmp 11) .skip (.exit 0))) (.seq (.block 1 (.region 5 ⟨o4⟩ false)) (.region 4 ⟨o3⟩ false)))))) (.seq (.region 6 ⟨o1⟩ false) .ret))))
theorem body : Tryz.f111.body = some code := by kernel_rfl
theorem main (P : PT) : ∀ env H, (En 23 k3 (B8 P)) env H → AW Tryz.prog T0 code env H (mkQ (ret P) (fun _ _ _ => False) (ret P)) :=
  (r_seq (rB T0_ok (q8 P)) (r_seq (rB T0_ok (q7 P)) (r_seq (r_seq (rB T0_ok (q6 P)) (r_block (rL (l2 P) (fun N2 => (r_seq (r_seq (rB T0_ok (q5 P N2)) (r_cond rfl r_skip (r_exit (fun _ _ h => h)))) (r_seq (r_block (rB T0_ok (q4 P N2))) (rB T0_ok (q3 P N2)))))))) (r_seq (rB T0_ok (q1 P)) r_ret))))
theorem ac (P : PT) (x0 : Value) (H : AHeap) (h : B8 P x0 H) : AC Tryz.prog T0 111 [x0] H P :=
  r_fn T0_ok (c := code) (n := 23) Tryz.func111 body (by kernel_rfl) (main P) (En_mk (x0, ()) (by kernel_rfl) ⟨by kernel_rfl, trivial⟩ h)

end F111
-- (loop.example/g01329/impl.Graph).basis
namespace F112
noncomputable def ret (P : PT) : EP := retE T0 76 Tryz.f112 P
abbrev k0 : Sk := [(4,.v)]
noncomputable def o1 := ob Tryz.f112 [.r,.r,.r,.r,.r,.l]
def B1 (P : PT) (x4 : Value) (H : AHeap) : Prop :=
  P x4 H
theorem q1 (P : PT) : QB Tryz.prog T0 76 o1 (ret P) k0 (B1 P) := fun _ _ _  => by kernel_rfl
abbrev k1 : Sk := [(1,.x),(3,.i .u64),(4,.v),(40,.i .i64),(41,.i .i64)]
noncomputable def o3 := ob Tryz.f112 [.r,.r,.r,.r,.l,.r,.l,.l,.r,.r,.r]
def B3 (P : PT) (N2 : NTy k1 Pr) (x1 : Nat) (x3 : Int) (x4 : Value) (x40 x41 : Int) (H : AHeap) : Prop :=
  N2 x1 x3 x4 x40 (IntKind.i64.wrap (x41 + 1)) H
theorem q3 (P : PT) (N2 : NTy k1 Pr) : QB Tryz.prog T0 76 o3 (En 76 k1 N2) k1 (B3 P N2) := fun _ _ _ _ _ _ _  => by kernel_rfl
abbrev k2 : Sk := [(1,.x),(3,.i .u64),(4,.v),(8,.i .u64),(40,.i .i64),(41,.i .i64)]
noncomputable def o4 := ob Tryz.f112 [.r,.r,.r,.r,.l,.r,.l,.l,.r,.r,.l,.l,.r,.r,.r,.r]
def B4 (P : PT) (N2 : NTy k1 Pr) (x1 : Nat) (x3 : Int) (x4 : Value) (x8 x40 x41 : Int) (H : AHeap) : Prop :=
  newK H [(Value.int .u64 x8)] 81 (fun b1 H2 => apK T0 81 H2 x4 (Value.slice (some ⟨b1, 0, none⟩) 1 (1 + 1)) (fun v3 H4 => B3 P N2 x1 x3 v3 x40 x41 H4))
theorem q4 (P : PT) (N2 : NTy k1 Pr) : QB Tryz.prog T0 76 o4 (En 76 k1 (B3 P N2)) k2 (B4 P N2) := fun _ _ _ _ _ _ _ _  => by kernel_rfl
abbrev k3 : Sk := [(1,.x),(3,.i .u64),(4,.v),(8,.i .u64),(9,.b),(40,.i .i64),(41,.i .i64)]
abbrev k4 : Sk := [(1,.x),(3,.i .u64),(4,.v),(8,.i .u64),(9,.b),(40,.i .i64),(41,.i .i64),(53,.i .i64),(54,.i .i64)]
noncomputable def o7 := ob Tryz.f112 [.r,.r,.r,.r,.l,.r,.l,.l,.r,.r,.l,.l,.r,.r,.r,.l,.r,.l,.l,.r,.l,.r,.r,.l,.l,.r,.r,.r]
def B7 (P : PT) (N2 : NTy k1 Pr) (N5 : NTy k3 Pr) (N6 : NTy k4 Pr) (x1 : Nat) (x3 : Int) (x4 : Value) (x8 : Int) (x9 : Bool) (x40 x41 x53 x54 : Int) (H : AHeap) : Prop :=
  N6 x1 x3 x4 x8 x9 x40 x41 x53 (IntKind.i64.wrap (x54 + 1)) H
theorem q7 (P : PT) (N2 : NTy k1 Pr) (N5 : NTy k3 Pr) (N6 : NTy k4 Pr) : QB Tryz.prog T0 76 o7 (En 76 k4 N6) k4 (B7 P N2 N5 N6) := fun _ _ _ _ _ _ _ _ _ _ _  => by kernel_rfl
abbrev k5 : Sk := [(1,.x),(3,.i .u64),(4,.v),(8,.i .u64),(40,.i .i64),(41,.i .i64),(53,.i .i64),(54,.i .i64)]
noncomputable def o8 := ob Tryz.f112 [.r,.r,.r,.r,.l,.r,.l,.l,.r,.r,.l,.l,.r,.r,.r,.l,.r,.l,.l,.r,.l,.r,.r,.l,.l,.r,.r,.l,.l,.r,.r,.r,.l,.r]
def B8 (P : PT) (N2 : NTy k1 Pr) (N5 : NTy k3 Pr) (N6 : NTy k4 Pr) (x1 : Nat) (x3 : Int) (x4 : Value) (x8 x40 x41 x53 x54 : Int) (H : AHeap) : Prop :=
  B7 P N2 N5 N6 x1 x3 x4 x8 true x40 x41 x53 x54 H
theorem q8 (P : PT) (N2 : NTy k1 Pr) (N5 : NTy k3 Pr) (N6 : NTy k4 Pr) : QB Tryz.prog T0 76 o8 (En 76 k4 (B7 P N2 N5 N6)) k5 (B8 P N2 N5 N6) := fun _ _ _ _ _ _ _ _ _ _  => by kernel_rfl
abbrev k6 : Sk := [(1,.x),(3,.i .u64),(4,.v),(8,.i .u64),(11,.i .u64),(40,.i .i64),(41,.i .i64),(53,.i .i64),(54,.i .i64)]
noncomputable def o9 := ob Tryz.f112 [.r,.r,.r,.r,.l,.r,.l,.l,.r,.r,.l,.l,.r,.r,.r,.l,.r,.l,.l,.r,.l,.r,.r,.l,.l,.r,.r,.l,.l,.r,.r,.r,.l,.l]
def B9 (P : PT) (N2 : NTy k1 Pr) (N5 : NTy k3 Pr) (N6 : NTy k4 Pr) (x1 : Nat) (x3 : Int) (x4 : Value) (x8 x11 x40 x41 x53 x54 : Int) (H : AHeap) : Prop :=
  B8 P N2 N5 N6 x1 x3 x4 (IntKind.u64.wrap (BitVec.ofInt 64 x8 &&& ~~~(BitVec.ofInt 64 x11)).toNat) x40 x41 x53 x54 H
theorem q9 (P : PT) (N2 : NTy k1 Pr) (N5 : NTy k3 Pr) (N6 : NTy k4 Pr) : QB Tryz.prog T0 76 o9 (En 76 k5 (B8 P N2 N5 N6)) k6 (B9 P N2 N5 N6) := fun _ _ _ _ _ _ _ _ _ _ _  => by kernel_rfl
abbrev k7 : Sk := [(1,.x),(3,.i .u64),(4,.v),(8,.i .u64),(9,.b),(11,.i .u64),(40,.i .i64),(41,.i .i64),(53,.i .i64),(54,.i .i64)]
noncomputable def o10 := ob Tryz.f112 [.r,.r,.r,.r,.l,.r,.l,.l,.r,.r,.l,.l,.r,.r,.r,.l,.r,.l,.l,.r,.l,.r,.r,.l,.l,.r,.r,.l,.l,.r,.r,.l]
def B10 (P : PT) (N2 : NTy k1 Pr) (N5 : NTy k3 Pr) (N6 : NTy k4 Pr) (x1 : Nat) (x3 : Int) (x4 : Value) (x8 : Int) (x9 : Bool) (x11 x40 x41 x53 x54 : Int) (H : AHeap) : Prop :=
  AC Tryz.prog T0 162 [(Value.int .u64 x11)] H (fun v1 H2 => asI .i64 v1 (fun v3 => pif ((v3 : Int) == 1) (B9 P N2 N5 N6 x1 x3 x4 x8 x11 x40 x41 x53 x54 H2) (B7 P N2 N5 N6 x1 x3 x4 x8 x9 x40 x41 x53 x54 H2)))
theorem q10 (P : PT) (N2 : NTy k1 Pr) (N5 : NTy k3 Pr) (N6 : NTy k4 Pr) : QB Tryz.prog T0 76 o10 (cnd 65 (En 76 k6 (B9 P N2 N5 N6)) (En 76 k4 (B7 P N2 N5 N6))) k7 (B10 P N2 N5 N6) := fun _ _ _ _ _ _ _ _ _ _ _ _  => by kernel_rfl
abbrev k8 : Sk := [(1,.x),(3,.i .u64),(4,.v),(8,.i .u64),(9,.b),(10,.i .i64),(40,.i .i64),(41,.i .i64),(53,.i .i64),(54,.i .i64)]
noncomputable def o11 := ob Tryz.f112 [.r,.r,.r,.r,.l,.r,.l,.l,.r,.r,.l,.l,.r,.r,.r,.l,.r,.l,.l,.r,.l,.r,.r,.l,.l,.r,.r,.l,.l,.r,.l]
def B11 (P : PT) (N2 : NTy k1 Pr) (N5 : NTy k3 Pr) (N6 : NTy k4 Pr) (x1 : Nat) (x3 : Int) (x4 : Value) (x8 : Int) (x9 : Bool) (x10 x40 x41 x53 x54 : Int) (H : AHeap) : Prop :=
  ldI .i64 H x1 0 (fun v1 => ld1 H x1 1 (fun v2 => AC Tryz.prog T0 161 [(Value.agg ⟨[(Value.int .i64 v1), v2]⟩), (Value.int .i64 x10)] H (fun v3 H4 => AC Tryz.prog T0 89 [v3] H4 (fun v6 H7 => asI .u64 v6 (fun v8 => B10 P N2 N5 N6 x1 x3 x4 x8 x9 (IntKind.u64.wrap (BitVec.ofInt 64 v8 &&& BitVec.ofInt 64 x8).toNat) x40 x41 x53 x54 H7)))))
theorem q11 (P : PT) (N2 : NTy k1 Pr) (N5 : NTy k3 Pr) (N6 : NTy k4 Pr) : QB Tryz.prog T0 76 o11 (En 76 k7 (B10 P N2 N5 N6)) k8 (B11 P N2 N5 N6) := fun _ _ _ _ _ _ _ _ _ _ _ _  => by kernel_rfl
noncomputable def o12 := ob Tryz.f112 [.r,.r,.r,.r,.l,.r,.l,.l,.r,.r,.l,.l,.r,.r,.r,.l,.r,.l,.l,.r,.l,.r,.r,.l,.l,.r,.r,.l,.l,.l]
def B12 (P : PT) (N2 : NTy k1 Pr) (N5 : NTy k3 Pr) (N6 : NTy k4 Pr) (x1 : Nat) (x3 : Int) (x4 : Value) (x8 : Int) (x9 : Bool) (x40 x41 x53 x54 : Int) (H : AHeap) : Prop :=
  B11 P N2 N5 N6 x1 x3 x4 x8 x9 x54 x40 x41 x53 x54 H
theorem q12 (P : PT) (N2 : NTy k1 Pr) (N5 : NTy k3 Pr) (N6 : NTy k4 Pr) : QB Tryz.prog T0 76 o12 (En 76 k8 (B11 P N2 N5 N6)) k4 (B12 P N2 N5 N6) := fun _ _ _ _ _ _ _ _ _ _ _  => by kernel_rfl
noncomputable def o13 := ob Tryz.f112 [.r,.r,.r,.r,.l,.r,.l,.l,.r,.r,.l,.l,.r,.r,.r,.l,.r,.l,.l,.r,.l,.r,.r,.l,.l,.l]
def B13 (P : PT) (N2 : NTy k1 Pr) (N5 : NTy k3 Pr) (N6 : NTy k4 Pr) (x1 : Nat) (x3 : Int) (x4 : Value) (x8 : Int) (x9 : Bool) (x40 x41 x53 x54 : Int) (H : AHeap) : Prop :=
  pif (decide ((x54 : Int) < x53)) (B12 P N2 N5 N6 x1 x3 x4 x8 x9 x40 x41 x53 x54 H) (N5 x1 x3 x4 x8 x9 x40 x41 H)
theorem q13 (P : PT) (N2 : NTy k1 Pr) (N5 : NTy k3 Pr) (N6 : NTy k4 Pr) : QB Tryz.prog T0 76 o13 (cnd 55 (En 76 k4 (B12 P N2 N5 N6)) (En 76 k3 N5)) k4 (B13 P N2 N5 N6) := fun _ _ _ _ _ _ _ _ _ _ _  => by kernel_rfl
def L6 (P : PT) (N2 : NTy k1 Pr) (N5 : NTy k3 Pr) (x1 : Nat) (x3 : Int) (x4 : Value) (x8 : Int) (x9 : Bool) (x40 x41 x53 x54 : Int) (H : AHeap) : Prop :=
  ∃ (I : NTy k4 Pr) (μ : NTy k4 (AHeap → Nat)), I x1 x3 x4 x8 x9 x40 x41 x53 x54 H ∧ ∀ y1 y3 y4 y8 y9 y40 y41 y53 y54 G, I y1 y3 y4 y8 y9 y40 y41 y53 y54 G → B13 P N2 N5 (fun z1 z3 z4 z8 z9 z40 z41 z53 z54 G' => I z1 z3 z4 z8 z9 z40 z41 z53 z54 G' ∧ μ z1 z3 z4 z8 z9 z40 z41 z53 z54 G' < μ y1 y3 y4 y8 y9 y40 y41 y53 y54 G) y1 y3 y4 y8 y9 y40 y41 y53 y54 G
theorem l6 (P : PT) (N2 : NTy k1 Pr) (N5 : NTy k3 Pr) : LQ k4 (L6 P N2 N5) (B13 P N2 N5) := fun ⟨_,_,_,_,_,_,_,_,_,_⟩ _ ⟨I, μ, h0, hI⟩ => ⟨apT _ I, apT _ μ, h0, fun ⟨_,_,_,_,_,_,_,_,_,_⟩ _ h => hI _ _ _ _ _ _ _ _ _ _  h⟩
noncomputable def o14 := ob Tryz.f112 [.r,.r,.r,.r,.l,.r,.l,.l,.r,.r,.l,.l,.r,.r,.r,.l,.r,.l,.l,.r,.l,.r,.l]
def B14 (P : PT) (N2 : NTy k1 Pr) (N5 : NTy k3 Pr) (x1 : Nat) (x3 : Int) (x4 : Value) (x8 : Int) (x9 : Bool) (x40 x41 : Int) (H : AHeap) : Prop :=
  ldI .i64 H x1 0 (fun v1 => L6 P N2 N5 x1 x3 x4 x8 x9 x40 x41 v1 0 H)
theorem q14 (P : PT) (N2 : NTy k1 Pr) (N5 : NTy k3 Pr) : QB Tryz.prog T0 76 o14 (En 76 k4 (L6 P N2 N5)) k3 (B14 P N2 N5) := fun _ _ _ _ _ _ _ _ _  => by kernel_rfl
noncomputable def o15 := ob Tryz.f112 [.r,.r,.r,.r,.l,.r,.l,.l,.r,.r,.l,.l,.r,.r,.r,.l,.r,.l,.l,.r,.l,.l]
def B15 (P : PT) (N2 : NTy k1 Pr) (N5 : NTy k3 Pr) (x1 : Nat) (x3 : Int) (x4 : Value) (x8 x40 x41 : Int) (H : AHeap) : Prop :=
  B14 P N2 N5 x1 x3 x4 x8 false x40 x41 H
theorem q15 (P : PT) (N2 : NTy k1 Pr) (N5 : NTy k3 Pr) : QB Tryz.prog T0 76 o15 (En 76 k3 (B14 P N2 N5)) k2 (B15 P N2 N5) := fun _ _ _ _ _ _ _ _  => by kernel_rfl
noncomputable def o16 := ob Tryz.f112 [.r,.r,.r,.r,.l,.r,.l,.l,.r,.r,.l,.l,.r,.r,.r,.l,.r,.l,.l,.l,.l]
def B16 (P : PT) (N2 : NTy k1 Pr) (N5 : NTy k3 Pr) (x1 : Nat) (x3 : Int) (x4 : Value) (x8 : Int) (x9 : Bool) (x40 x41 : Int) (H : AHeap) : Prop :=
  pif x9 (B15 P N2 N5 x1 x3 x4 x8 x40 x41 H) (B4 P N2 x1 x3 x4 x8 x40 x41 H)
theorem q16 (P : PT) (N2 : NTy k1 Pr) (N5 : NTy k3 Pr) : QB Tryz.prog T0 76 o16 (cnd 51 (En 76 k2 (B15 P N2 N5)) (En 76 k2 (B4 P N2))) k3 (B16 P N2 N5) := fun _ _ _ _ _ _ _ _ _  => by kernel_rfl
def L5 (P : PT) (N2 : NTy k1 Pr) (x1 : Nat) (x3 : Int) (x4 : Value) (x8 : Int) (x9 : Bool) (x40 x41 : Int) (H : AHeap) : Prop :=
  ∃ (I : NTy k3 Pr) (μ : NTy k3 (AHeap → Nat)), I x1 x3 x4 x8 x9 x40 x41 H ∧ ∀ y1 y3 y4 y8 y9 y40 y41 G, I y1 y3 y4 y8 y9 y40 y41 G → B16 P N2 (fun z1 z3 z4 z8 z9 z40 z41 G' => I z1 z3 z4 z8 z9 z40 z41 G' ∧ μ z1 z3 z4 z8 z9 z40 z41 G' < μ y1 y3 y4 y8 y9 y40 y41 G) y1 y3 y4 y8 y9 y40 y41 G
theorem l5 (P : PT) (N2 : NTy k1 Pr) : LQ k3 (L5 P N2) (B16 P N2) := fun ⟨_,_,_,_,_,_,_,_⟩ _ ⟨I, μ, h0, hI⟩ => ⟨apT _ I, apT _ μ, h0, fun ⟨_,_,_,_,_,_,_,_⟩ _ h => hI _ _ _ _ _ _ _ _  h⟩
noncomputable def o17 := ob Tryz.f112 [.r,.r,.r,.r,.l,.r,.l,.l,.r,.r,.l,.l,.r,.r,.r,.l,.l]
def B17 (P : PT) (N2 : NTy k1 Pr) (x1 : Nat) (x3 : Int) (x4 : Value) (x8 x40 x41 : Int) (H : AHeap) : Prop :=
  L5 P N2 x1 x3 x4 x8 true x40 x41 H
theorem q17 (P : PT) (N2 : NTy k1 Pr) : QB Tryz.prog T0 76 o17 (En 76 k3 (L5 P N2)) k2 (B17 P N2) := fun _ _ _ _ _ _ _ _  => by kernel_rfl
abbrev k9 : Sk := [(1,.x),(3,.i .u64),(4,.v),(7,.i .i64),(40,.i .i64),(41,.i .i64)]
noncomputable def o18 := ob Tryz.f112 [.r,.r,.r,.r,.l,.r,.l,.l,.r,.r,.l,.l,.r,.r,.l]
def B18 (P : PT) (N2 : NTy k1 Pr) (x1 : Nat) (x3 : Int) (x4 : Value) (x7 x40 x41 : Int) (H : AHeap) : Prop :=
  ((0 : Int) ≤ x7) ∧ (B17 P N2 x1 x3 x4 (IntKind.u64.wrap (BitVec.ofInt 64 x3 ||| BitVec.ofInt 64 (IntKind.u64.wrap (1 * 2 ^ (min (Int.toNat x7) 64)))).toNat) x40 x41 H)
theorem q18 (P : PT) (N2 : NTy k1 Pr) : QB Tryz.prog T0 76 o18 (En 76 k2 (B17 P N2)) k9 (B18 P N2) := fun _ _ _ _ _ _ _ _  => by kernel_rfl
noncomputable def o19 := ob Tryz.f112 [.r,.r,.r,.r,.l,.r,.l,.l,.r,.r,.l,.l,.r,.l,.l]
def B19 (P : PT) (N2 : NTy k1 Pr) (x1 : Nat) (x3 : Int) (x4 : Value) (x7 x40 x41 : Int) (H : AHeap) : Prop :=
  AC Tryz.prog T0 134 [(Value.int .u64 x3), (Value.int .i64 x7)] H (fun v1 H2 => asB v1 (fun v3 => pif v3 (B3 P N2 x1 x3 x4 x40 x41 H2) (B18 P N2 x1 x3 x4 x7 x40 x41 H2)))
theorem q19 (P : PT) (N2 : NTy k1 Pr) : QB Tryz.prog T0 76 o19 (cnd 46 (En 76 k1 (B3 P N2)) (En 76 k9 (B18 P N2))) k9 (B19 P N2) := fun _ _ _ _ _ _ _ _  => by kernel_rfl
noncomputable def o20 := ob Tryz.f112 [.r,.r,.r,.r,.l,.r,.l,.l,.r,.r,.l,.l,.l]
def B20 (P : PT) (N2 : NTy k1 Pr) (x1 : Nat) (x3 : Int) (x4 : Value) (x40 x41 : Int) (H : AHeap) : Prop :=
  B19 P N2 x1 x3 x4 x41 x40 x41 H
theorem q20 (P : PT) (N2 : NTy k1 Pr) : QB Tryz.prog T0 76 o20 (En 76 k9 (B19 P N2)) k1 (B20 P N2) := fun _ _ _ _ _ _ _  => by kernel_rfl
noncomputable def o21 := ob Tryz.f112 [.r,.r,.r,.r,.l,.r,.l,.l,.l]
def B21 (P : PT) (N2 : NTy k1 Pr) (x1 : Nat) (x3 : Int) (x4 : Value) (x40 x41 : Int) (H : AHeap) : Prop :=
  pif (decide ((x41 : Int) < x40)) (B20 P N2 x1 x3 x4 x40 x41 H) (B1 P x4 H)
theorem q21 (P : PT) (N2 : NTy k1 Pr) : QB Tryz.prog T0 76 o21 (cnd 42 (En 76 k1 (B20 P N2)) (En 76 k0 (B1 P))) k1 (B21 P N2) := fun _ _ _ _ _ _ _  => by kernel_rfl
def L2 (P : PT) (x1 : Nat) (x3 : Int) (x4 : Value) (x40 x41 : Int) (H : AHeap) : Prop :=
  ∃ (I : NTy k1 Pr) (μ : NTy k1 (AHeap → Nat)), I x1 x3 x4 x40 x41 H ∧ ∀ y1 y3 y4 y40 y41 G, I y1 y3 y4 y40 y41 G → B21 P (fun z1 z3 z4 z40 z41 G' => I z1 z3 z4 z40 z41 G' ∧ μ z1 z3 z4 z40 z41 G' < μ y1 y3 y4 y40 y41 G) y1 y3 y4 y40 y41 G
theorem l2 (P : PT) : LQ k1 (L2 P) (B21 P) := fun ⟨_,_,_,_,_,_⟩ _ ⟨I, μ, h0, hI⟩ => ⟨apT _ I, apT _ μ, h0, fun ⟨_,_,_,_,_,_⟩ _ h => hI _ _ _ _ _ _  h⟩
abbrev k10 : Sk := [(1,.x),(3,.i .u64),(4,.v)]
noncomputable def o22 := ob Tryz.f112 [.r,.r,.r,.r,.l,.l]
def B22 (P : PT) (x1 : Nat) (x3 : Int) (x4 : Value) (H : AHeap) : Prop :=
  ld1 H x1 1 (fun v1 => lenK v1 (fun n2 => L2 P x1 x3 x4 (n2 : Int) 0 H))
theorem q22 (P : PT) : QB Tryz.prog T0 76 o22 (En 76 k1 (L2 P)) k10 (B22 P) := fun _ _ _ _ _  => by kernel_rfl
abbrev k11 : Sk := [(1,.x),(3,.i .u64),(4,.v),(13,.v),(14,.i .i64),(15,.i .i64)]
noncomputable def o24 := ob Tryz.f112 [.r,.r,.r,.l,.r,.l,.l,.r,.r,.r]
def B24 (P : PT) (N23 : NTy k11 Pr) (x1 : Nat) (x3 : Int) (x4 x13 : Value) (x14 x15 : Int) (H : AHeap) : Prop :=
  N23 x1 x3 x4 x13 x14 (IntKind.i64.wrap (x15 + 1)) H
theorem q24 (P : PT) (N23 : NTy k11 Pr) : QB Tryz.prog T0 76 o24 (En 76 k11 N23) k11 (B24 P N23) := fun _ _ _ _ _ _ _ _  => by kernel_rfl
abbrev k12 : Sk := [(1,.x),(3,.i .u64),(4,.v),(5,.i .i64),(13,.v),(14,.i .i64),(15,.i .i64)]
noncomputable def o25 := ob Tryz.f112 [.r,.r,.r,.l,.r,.l,.l,.r,.r,.l,.l,.r,.r,.l]
def B25 (P : PT) (N23 : NTy k11 Pr) (x1 : Nat) (x3 : Int) (x4 : Value) (x5 : Int) (x13 : Value) (x14 x15 : Int) (H : AHeap) : Prop :=
  ((0 : Int) ≤ x5) ∧ (B24 P N23 x1 (IntKind.u64.wrap (BitVec.ofInt 64 x3 ||| BitVec.ofInt 64 (IntKind.u64.wrap (1 * 2 ^ (min (Int.toNat x5) 64)))).toNat) x4 x13 x14 x15 H)
theorem q25 (P : PT) (N23 : NTy k11 Pr) : QB Tryz.prog T0 76 o25 (En 76 k11 (B24 P N23)) k12 (B25 P N23) := fun _ _ _ _ _ _ _ _ _  => by kernel_rfl
abbrev k13 : Sk := [(1,.x),(3,.i .u64),(4,.v),(5,.i .i64),(6,.x),(13,.v),(14,.i .i64),(15,.i .i64)]
noncomputable def o26 := ob Tryz.f112 [.r,.r,.r,.l,.r,.l,.l,.r,.r,.l,.l,.r,.l]
def B26 (P : PT) (N23 : NTy k11 Pr) (x1 : Nat) (x3 : Int) (x4 : Value) (x5 : Int) (x6 : Nat) (x13 : Value) (x14 x15 : Int) (H : AHeap) : Prop :=
  ldI .i64 H x1 0 (fun v1 => ld1 H x1 1 (fun v2 => ldI .i64 H x6 0 (fun v3 => ldI .i64 H x1 0 (fun v4 => ld1 H x1 1 (fun v5 => ldI .i64 H x6 1 (fun v6 => AC Tryz.prog T0 160 [(Value.agg ⟨[(Value.int .i64 v4), v5]⟩)] H (fun v7 H8 => asI .u64 v7 (fun v9 => (AHeap.le H H8) ∧ (AC Tryz.prog T0 155 [(Value.agg ⟨[(Value.int .i64 v1), v2]⟩), (Value.int .i64 v3), (Value.int .u64 (IntKind.u64.wrap (BitVec.ofInt 64 v9 &&& ~~~(BitVec.ofInt 64 x3)).toNat))] H8 (fun v10 H11 => (AHeap.le H8 H11) ∧ (idxK v10 v6 1 (fun b13 o14 => ldI .i64 H11 b13 o14 (fun v15 => pif (decide ((v15 : Int) < 0)) (B25 P N23 x1 x3 x4 x5 x13 x14 x15 H11) (B24 P N23 x1 x3 x4 x13 x14 x15 H11))))))))))))))
theorem q26 (P : PT) (N23 : NTy k11 Pr) : QD Tryz.prog T0 76 o26 [(0, false), (1, false), (2, false), (3, false), (5, false), (8, false), (9, false), (4, true), (6, false), (7, true), (10, false), (11, false), (12, false)] (cnd 32 (En 76 k12 (B25 P N23)) (En 76 k11 (B24 P N23))) k13 (B26 P N23) := fun _ _ _ _ _ _ _ _ _ _  => by kernel_rfl
noncomputable def o27 := ob Tryz.f112 [.r,.r,.r,.l,.r,.l,.l,.r,.r,.l,.l,.l]
def B27 (P : PT) (N23 : NTy k11 Pr) (x1 : Nat) (x3 : Int) (x4 x13 : Value) (x14 x15 : Int) (H : AHeap) : Prop :=
  idxK x13 x15 2 (fun b1 o2 => ldI .i64 H b1 o2 (fun v3 => ldI .i64 H b1 (o2 + 1) (fun v4 => newK H [(Value.int .i64 0), (Value.int .i64 0)] 78 (fun b5 H6 => stK H6 b5 0 [(Value.int .i64 v3), (Value.int .i64 v4)] (fun H7 => B26 P N23 x1 x3 x4 x15 b5 x13 x14 x15 H7)))))
theorem q27 (P : PT) (N23 : NTy k11 Pr) : QB Tryz.prog T0 76 o27 (En 76 k13 (B26 P N23)) k11 (B27 P N23) := fun _ _ _ _ _ _ _ _  => by kernel_rfl
noncomputable def o28 := ob Tryz.f112 [.r,.r,.r,.l,.r,.l,.l,.l]
def B28 (P : PT) (N23 : NTy k11 Pr) (x1 : Nat) (x3 : Int) (x4 x13 : Value) (x14 x15 : Int) (H : AHeap) : Prop :=
  pif (decide ((x15 : Int) < x14)) (B27 P N23 x1 x3 x4 x13 x14 x15 H) (B22 P x1 x3 x4 H)
theorem q28 (P : PT) (N23 : NTy k11 Pr) : QB Tryz.prog T0 76 o28 (cnd 16 (En 76 k11 (B27 P N23)) (En 76 k10 (B22 P))) k11 (B28 P N23) := fun _ _ _ _ _ _ _ _  => by kernel_rfl
def L23 (P : PT) (x1 : Nat) (x3 : Int) (x4 x13 : Value) (x14 x15 : Int) (H : AHeap) : Prop :=
  ∃ (I : NTy k11 Pr) (μ : NTy k11 (AHeap → Nat)), I x1 x3 x4 x13 x14 x15 H ∧ ∀ y1 y3 y4 y13 y14 y15 G, I y1 y3 y4 y13 y14 y15 G → B28 P (fun z1 z3 z4 z13 z14 z15 G' => I z1 z3 z4 z13 z14 z15 G' ∧ μ z1 z3 z4 z13 z14 z15 G' < μ y1 y3 y4 y13 y14 y15 G) y1 y3 y4 y13 y14 y15 G
theorem l23 (P : PT) : LQ k11 (L23 P) (B28 P) := fun ⟨_,_,_,_,_,_,_⟩ _ ⟨I, μ, h0, hI⟩ => ⟨apT _ I, apT _ μ, h0, fun ⟨_,_,_,_,_,_,_⟩ _ h => hI _ _ _ _ _ _ _  h⟩
noncomputable def o29 := ob Tryz.f112 [.r,.r,.r,.l,.l]
def B29 (P : PT) (x1 : Nat) (x3 : Int) (x4 : Value) (H : AHeap) : Prop :=
  ld1 H x1 1 (fun v1 => lenK v1 (fun n2 => L23 P x1 x3 x4 v1 (n2 : Int) 0 H))
theorem q29 (P : PT) : QB Tryz.prog T0 76 o29 (En 76 k11 (L23 P)) k10 (B29 P) := fun _ _ _ _ _  => by kernel_rfl
abbrev k14 : Sk := [(1,.x),(3,.i .u64)]
noncomputable def o30 := ob Tryz.f112 [.r,.r,.l]
def B30 (P : PT) (x1 : Nat) (x3 : Int) (H : AHeap) : Prop :=
  B29 P x1 x3 (Value.slice none 0 0) H
theorem q30 (P : PT) : QB Tryz.prog T0 76 o30 (En 76 k10 (B29 P)) k14 (B30 P) := fun _ _ _ _  => by kernel_rfl
abbrev k15 : Sk := [(1,.x)]
noncomputable def o31 := ob Tryz.f112 [.r,.l]
def B31 (P : PT) (x1 : Nat) (H : AHeap) : Prop :=
  B30 P x1 0 H
theorem q31 (P : PT) : QB Tryz.prog T0 76 o31 (En 76 k14 (B30 P)) k15 (B31 P) := fun _ _ _  => by kernel_rfl
abbrev k16 : Sk := [(0,.g [.i,.v])]
noncomputable def o32 := ob Tryz.f112 [.l]
def B32 (P : PT) (x0a : Int) (x0b : Value) (H : AHeap) : Prop :=
  newK H [(Value.int .i64 x0a), x0b] 26 (fun b1 H2 => B31 P b1 H2)
theorem q32 (P : PT) : QB Tryz.prog T0 76 o32 (En 76 k15 (B31 P)) k16 (B32 P) := fun _ _ _ _  => by kernel_rfl
noncomputable def code : Code := (.seq (.region 0 ⟨o32⟩ false) (.seq (.region 1 ⟨o31⟩ false) (.seq (.region 2 ⟨o30⟩ false) (.seq (.seq (.region 3 ⟨o29⟩ false) (.block 0 (.loop (.seq (.region 4 ⟨o28⟩ false) (.seq (.cond (.tmp 16) .skip (.exit 0)) (.seq (.block 1 (.seq (.region 5 ⟨o27⟩ false) (.seq (.region 6 ⟨o26⟩ true) (.cond (.tmp 32) (.region 7 ⟨o25⟩ false) .skip)))) (.region 8 ⟨o24⟩ false))))))) (.seq (.seq (.region 9 ⟨o22⟩ false) (.block 2 (.loop (.seq (.region 10 ⟨o21⟩ false) (.seq (.cond (.tmp 42) .skip (.exit 2)) (.seq (.block 3 (.seq (.region 11 ⟨o20⟩ false) (.seq (.seq (.region 12 ⟨o19⟩ false) (.cond (.tmp 46) (.exit 3) .skip)) (.seq (.region 13 ⟨o18⟩ false) (.seq (.seq (.region 14 ⟨o17⟩ false) (.block 4 (.loop (.seq (.seq (.region 15 ⟨o16⟩ false) (.cond (.tmp 51) .skip (.exit 4))) (.block 5 (.seq (.region 16 ⟨o15⟩ false) (.seq (.region 17 ⟨o14⟩ false) (.block 6 (.loop (.seq (.region 18 ⟨o13⟩ false) (.seq (.cond (.tmp 55) .skip (.exit 6)) (.seq (.block 7 (.seq (.region 19 ⟨o12⟩ false) (.seq (.region 20 ⟨o11⟩ false) (.seq (.region 21 ⟨o10⟩ false) (.cond (.tmp 65) (.seq (.region 22 ⟨o9⟩ false) (.region 23 ⟨o8⟩ false)) .skip))))) (.region 24 ⟨o7⟩ false))))))))))))) (.region 25 ⟨o4⟩ false)))))) (.region 26 ⟨o3⟩ false))))))) (.seq (.region 27 ⟨o1⟩ false) .ret))))))
theorem body : Tryz.f112.body = some code := by kernel_rfl
theorem main (P : PT) : ∀ env H, (En 76 k16 (B32 P)) env H → AW Tryz.prog T0 code env H (mkQ (ret P) (fun _ _ _ => False) (ret P)) :=
  (r_seq (rB T0_ok (q32 P)) (r_seq (rB T0_ok (q31 P)) (r_seq (rB T0_ok (q30 P)) (r_seq (r_seq (rB T0_ok (q29 P)) (r_block (rL (l23 P) (fun N23 => (r_seq (rB T0_ok (q28 P N23)) (r_seq (r_cond rfl r_skip (r_exit (fun _ _ h => h))) (r_seq (r_block (r_seq (rB T0_ok (q27 P N23)) (r_seq (rD T0_ok mixed [(0, false), (1, false), (2, false), (3, false), (5, false), (8, false), (9, false), (4, true), (6, false), (7, true), (10, false), (11, false), (12, false)] (by kernel_rfl) (q26 P N23)) (r_cond rfl (rB T0_ok (q25 P N23)) r_skip)))) (rB T0_ok (q24 P N23))))))))) (r_seq (r_seq (rB T0_ok (q22 P)) (r_block (rL (l2 P) (fun N2 => (r_seq (rB T0_ok (q21 P N2)) (r_seq (r_cond rfl r_skip (r_exit (fun _ _ h => h))) (r_seq (r_block (r_seq (rB T0_ok (q20 P N2)) (r_seq (r_seq (rB T0_ok (q19 P N2)) (r_cond rfl (r_exit (fun _ _ h => h)) r_skip)) (r_seq (rB T0_ok (q18 P N2)) (r_seq (r_seq (rB T0_ok (q17 P N2)) (r_block (rL (l5 P N2) (fun N5 => (r_seq (r_seq (rB T0_ok (q16 P N2 N5)) (r_cond rfl r_skip (r_exit (fun _ _ h => h)))) (r_block (r_seq (rB T0_ok (q15 P N2 N5)) (r_seq (rB T0_ok (q14 P N2 N5)) (r_block (rL (l6 P N2 N5) (fun N6 => (r_seq (rB T0_ok (q13 P N2 N5 N6)) (r_seq (r_cond rfl r_skip (r_exit (fun _ _ h => h))) (r_seq (r_block (r_seq (rB T0_ok (q12 P N2 N5 N6)) (r_seq (rB T0_ok (q11 P N2 N5 N6)) (r_seq (rB T0_ok (q10 P N2 N5 N6)) (r_cond rfl (r_seq (rB T0_ok (q9 P N2 N5 N6)) (rB T0_ok (q8 P N2 N5 N6))) r_skip))))) (rB T0_ok (q7 P N2 N5 N6)))))))))))))))) (rB T0_ok (q4 P N2))))))) (rB T0_ok (q3 P N2))))))))) (r_seq (rB T0_ok (q1 P)) r_ret))))))
theorem ac (P : PT) (x0a : Int) (x0b : Value) (H : AHeap) (h : B32 P x0a x0b H) : AC Tryz.prog T0 112 [(Value.agg ⟨[(Value.int .i64 x0a), x0b]⟩)] H P :=
  r_fn T0_ok (c := code) (n := 76) Tryz.func112 body (by kernel_rfl) (main P) (En_mk (x0a, x0b, ()) (by kernel_rfl) ⟨by kernel_rfl, trivial⟩ h)

end F112
-- slices.Clone[[]loop.example/g01329/impl.set,loop.example/g01329/impl.set]
namespace F113
noncomputable def ret (P : PT) : EP := retE T0 8 Tryz.f113 P
abbrev k0 : Sk := [(0,.v)]
noncomputable def o1 := ob Tryz.f113 [.r,.r,.l]
def B1 (P : PT) (x0 : Value) (H : AHeap) : Prop :=
  newK H [] 81 (fun b1 H2 => apK T0 81 H2 (Value.slice (some ⟨b1, 0, none⟩) 0 (0 + 1)) x0 (fun v3 H4 => P v3 H4))
theorem q1 (P : PT) : QB Tryz.prog T0 8 o1 (ret P) k0 (B1 P) := fun _ _ _  => by kernel_rfl
abbrev k1 : Sk := []
noncomputable def o2 := ob Tryz.f113 [.r,.l,.r,.l,.l]
def B2 (P : PT) (H : AHeap) : Prop :=
  P (Value.slice none 0 0) H
theorem q2 (P : PT) : QB Tryz.prog T0 8 o2 (ret P) k1 (B2 P) := fun _ _  => by kernel_rfl
noncomputable def o3 := ob Tryz.f113 [.r,.l,.l]
def B3 (P : PT) (x0 : Value) (H : AHeap) : Prop :=
  isNilK x0 (fun v1 => pif v1 (B2 P H) (B1 P x0 H))
theorem q3 (P : PT) : QB Tryz.prog T0 8 o3 (cnd 4 (En 8 k1 (B2 P)) (En 8 k0 (B1 P))) k0 (B3 P) := fun _ _ _  => by kernel_rfl
noncomputable def o4 := ob Tryz.f113 [.l]
def B4 (P : PT) (x0 : Value) (H : AHeap) : Prop :=
  B3 P x0 H
theorem q4 (P : PT) : QB Tryz.prog T0 8 o4 (En 8 k0 (B3 P)) k0 (B4 P) := fun _ _ _  => by kernel_rfl
noncomputable def code : Code := (.seq (.region 0 ⟨o4⟩ false) (.seq (.seq (.region 1 ⟨o3⟩ false) (.cond (.tmp 4) (.seq (.region 2 ⟨o2⟩ false) .ret) .skip)) (.seq (.region 3 ⟨o1⟩ false) .ret)))
theorem body : Tryz.f113.body = some code := by kernel_rfl
theorem main (P : PT) : ∀ env H, (En 8 k0 (B4 P)) env H → AW Tryz.prog T0 code env H (mkQ (ret P) (fun _ _ _ => False) (ret P)) :=
  (r_seq (rB T0_ok (q4 P)) (r_seq (r_seq (rB T0_ok (q3 P)) (r_cond rfl (r_seq (rB T0_ok (q2 P)) r_ret) r_skip)) (r_seq (rB T0_ok (q1 P)) r_ret)))
theorem ac (P : PT) (x0 : Value) (H : AHeap) (h : B4 P x0 H) : AC Tryz.prog T0 113 [x0] H P :=
  r_fn T0_ok (c := code) (n := 8) Tryz.func113 body (by kernel_rfl) (main P) (En_mk (x0, ()) (by kernel_rfl) ⟨by kernel_rfl, trivial⟩ h)

end F113
-- slices.DeleteFunc[[]loop.example/g01329/impl.set,loop.example/g01329/impl.set]
namespace F114
noncomputable def ret (P : PT) : EP := retE T0 42 Tryz.f114 P
abbrev k0 : Sk := [(0,.v),(5,.i .i64)]
noncomputable def o1 := ob Tryz.f114 [.r,.r,.r,.r,.r,.l]
def B1 (P : PT) (x0 : Value) (x5 : Int) (H : AHeap) : Prop :=
  sliceK H 81 x0 none (some (Value.int .i64 x5)) 1 (fun v1 => P v1 H)
theorem q1 (P : PT) : QB Tryz.prog T0 42 o1 (ret P) k0 (B1 P) := fun _ _ _ _  => by kernel_rfl
noncomputable def o2 := ob Tryz.f114 [.r,.r,.r,.r,.l]
def B2 (P : PT) (x0 : Value) (x5 : Int) (H : AHeap) : Prop :=
  sliceK H 81 x0 (some (Value.int .i64 x5)) none 1 (fun v1 => clrK T0 81 H v1 (fun H2 => B1 P x0 x5 H2))
theorem q2 (P : PT) : QB Tryz.prog T0 42 o2 (En 42 k0 (B1 P)) k0 (B2 P) := fun _ _ _ _  => by kernel_rfl
abbrev k1 : Sk := [(0,.v),(1,.v),(5,.i .i64),(6,.i .i64)]
noncomputable def o4 := ob Tryz.f114 [.r,.r,.r,.l,.r,.l,.l,.r,.r]
def B4 (P : PT) (N3 : NTy k1 Pr) (x0 x1 : Value) (x5 x6 : Int) (H : AHeap) : Prop :=
  N3 x0 x1 x5 (IntKind.i64.wrap (x6 + 1)) H
theorem q4 (P : PT) (N3 : NTy k1 Pr) : QB Tryz.prog T0 42 o4 (En 42 k1 N3) k1 (B4 P N3) := fun _ _ _ _ _ _  => by kernel_rfl
noncomputable def o5 := ob Tryz.f114 [.r,.r,.r,.l,.r,.l,.l,.r,.l,.l,.r,.r,.l,.r]
def B5 (P : PT) (N3 : NTy k1 Pr) (x0 x1 : Value) (x5 x6 : Int) (H : AHeap) : Prop :=
  B4 P N3 x0 x1 (IntKind.i64.wrap (x5 + 1)) x6 H
theorem q5 (P : PT) (N3 : NTy k1 Pr) : QB Tryz.prog T0 42 o5 (En 42 k1 (B4 P N3)) k1 (B5 P N3) := fun _ _ _ _ _ _  => by kernel_rfl
abbrev k2 : Sk := [(0,.v),(1,.v),(5,.i .i64),(6,.i .i64),(7,.i .u64)]
noncomputable def o6 := ob Tryz.f114 [.r,.r,.r,.l,.r,.l,.l,.r,.l,.l,.r,.r,.l,.l]
def B6 (P : PT) (N3 : NTy k1 Pr) (x0 x1 : Value) (x5 x6 x7 : Int) (H : AHeap) : Prop :=
  idxK x0 x5 1 (fun b1 o2 => stK H b1 o2 [(Value.int .u64 x7)] (fun H3 => B5 P N3 x0 x1 x5 x6 H3))
theorem q6 (P : PT) (N3 : NTy k1 Pr) : QB Tryz.prog T0 42 o6 (En 42 k1 (B5 P N3)) k2 (B6 P N3) := fun _ _ _ _ _ _ _  => by kernel_rfl
noncomputable def o7 := ob Tryz.f114 [.r,.r,.r,.l,.r,.l,.l,.r,.l,.l,.r,.l]
def B7 (P : PT) (N3 : NTy k1 Pr) (x0 x1 : Value) (x5 x6 x7 : Int) (H : AHeap) : Prop :=
  callV Tryz.prog T0 x1 [(Value.int .u64 x7)] H (fun v1 H2 => asB v1 (fun v3 => pif (!v3) (B6 P N3 x0 x1 x5 x6 x7 H2) (B4 P N3 x0 x1 x5 x6 H2)))
theorem q7 (P : PT) (N3 : NTy k1 Pr) : QB Tryz.prog T0 42 o7 (cnd 29 (En 42 k2 (B6 P N3)) (En 42 k1 (B4 P N3))) k2 (B7 P N3) := fun _ _ _ _ _ _ _  => by kernel_rfl
noncomputable def o8 := ob Tryz.f114 [.r,.r,.r,.l,.r,.l,.l,.r,.l,.l,.l]
def B8 (P : PT) (N3 : NTy k1 Pr) (x0 x1 : Value) (x5 x6 : Int) (H : AHeap) : Prop :=
  idxK x0 x6 1 (fun b1 o2 => ldI .u64 H b1 o2 (fun v3 => B7 P N3 x0 x1 x5 x6 v3 H))
theorem q8 (P : PT) (N3 : NTy k1 Pr) : QB Tryz.prog T0 42 o8 (En 42 k2 (B7 P N3)) k1 (B8 P N3) := fun _ _ _ _ _ _  => by kernel_rfl
noncomputable def o9 := ob Tryz.f114 [.r,.r,.r,.l,.r,.l,.l,.l,.l]
def B9 (P : PT) (N3 : NTy k1 Pr) (x0 x1 : Value) (x5 x6 : Int) (H : AHeap) : Prop :=
  lenK x0 (fun n1 => pif (decide ((x6 : Int) < (n1 : Int))) (B8 P N3 x0 x1 x5 x6 H) (B2 P x0 x5 H))
theorem q9 (P : PT) (N3 : NTy k1 Pr) : QB Tryz.prog T0 42 o9 (cnd 19 (En 42 k1 (B8 P N3)) (En 42 k0 (B2 P))) k1 (B9 P N3) := fun _ _ _ _ _ _  => by kernel_rfl
def L3 (P : PT) (x0 x1 : Value) (x5 x6 : Int) (H : AHeap) : Prop :=
  ∃ (I : NTy k1 Pr) (μ : NTy k1 (AHeap → Nat)), I x0 x1 x5 x6 H ∧ ∀ y0 y1 y5 y6 G, I y0 y1 y5 y6 G → B9 P (fun z0 z1 z5 z6 G' => I z0 z1 z5 z6 G' ∧ μ z0 z1 z5 z6 G' < μ y0 y1 y5 y6 G) y0 y1 y5 y6 G
theorem l3 (P : PT) : LQ k1 (L3 P) (B9 P) := fun ⟨_,_,_,_,_⟩ _ ⟨I, μ, h0, hI⟩ => ⟨apT _ I, apT _ μ, h0, fun ⟨_,_,_,_,_⟩ _ h => hI _ _ _ _ _  h⟩
abbrev k3 : Sk := [(0,.v),(1,.v),(5,.i .i64)]
noncomputable def o10 := ob Tryz.f114 [.r,.r,.r,.l,.l]
def B10 (P : PT) (x0 x1 : Value) (x5 : Int) (H : AHeap) : Prop :=
  L3 P x0 x1 x5 (IntKind.i64.wrap (x5 + 1)) H
theorem q10 (P : PT) : QB Tryz.prog T0 42 o10 (En 42 k1 (L3 P)) k3 (B10 P) := fun _ _ _ _ _  => by kernel_rfl
abbrev k4 : Sk := [(0,.v)]
noncomputable def o11 := ob Tryz.f114 [.r,.r,.l,.r,.l,.l]
def B11 (P : PT) (x0 : Value) (H : AHeap) : Prop :=
  P x0 H
theorem q11 (P : PT) : QB Tryz.prog T0 42 o11 (ret P) k4 (B11 P) := fun _ _ _  => by kernel_rfl
noncomputable def o12 := ob Tryz.f114 [.r,.r,.l,.l]
def B12 (P : PT) (x0 x1 : Value) (x5 : Int) (H : AHeap) : Prop :=
  pif ((x5 : Int) == (-1)) (B11 P x0 H) (B10 P x0 x1 x5 H)
theorem q12 (P : PT) : QB Tryz.prog T0 42 o12 (cnd 12 (En 42 k4 (B11 P)) (En 42 k3 (B10 P))) k3 (B12 P) := fun _ _ _ _ _  => by kernel_rfl
abbrev k5 : Sk := [(0,.v),(1,.v)]
noncomputable def o13 := ob Tryz.f114 [.r,.l]
def B13 (P : PT) (x0 x1 : Value) (H : AHeap) : Prop :=
  AC Tryz.prog T0 163 [x0, x1] H (fun v1 H2 => asI .i64 v1 (fun v3 => B12 P x0 x1 v3 H2))
theorem q13 (P : PT) : QB Tryz.prog T0 42 o13 (En 42 k3 (B12 P)) k5 (B13 P) := fun _ _ _ _  => by kernel_rfl
noncomputable def o14 := ob Tryz.f114 [.l]
def B14 (P : PT) (x0 x1 : Value) (H : AHeap) : Prop :=
  B13 P x0 x1 H
theorem q14 (P : PT) : QB Tryz.prog T0 42 o14 (En 42 k5 (B13 P)) k5 (B14 P) := fun _ _ _ _  => by kernel_rfl
noncomputable def code : Code := (.seq (.region 0 ⟨o14⟩ false) (.seq (.region 1 ⟨o13⟩ false) (.seq (.seq (.region 2 ⟨o12⟩ false) (.cond (.tmp 12) (.seq (.region 3 ⟨o11⟩ false) .ret) .skip)) (.seq (.seq (.region 4 ⟨o10⟩ false) (.block 0 (.loop (.seq (.seq (.region 5 ⟨o9⟩ false) (.cond (.tmp 19) .skip (.exit 0))) (.seq (.block 1 (.seq (.region 7 ⟨o8⟩ false) (.seq (.region 8 ⟨o7⟩ false) (.cond (.tmp 29) (.seq (.region 9 ⟨o6⟩ false) (.region 10 ⟨o5⟩ false)) .skip)))) (.region 6 ⟨o4⟩ false)))))) (.seq (.region 11 ⟨o2⟩ false) (.seq (.region 12 ⟨o1⟩ false) .ret))))))
theorem body : Tryz.f114.body = some code := by kernel_rfl
theorem main (P : PT) : ∀ env H, (En 42 k5 (B14 P)) env H → AW Tryz.prog T0 code env H (mkQ (ret P) (fun _ _ _ => False) (ret P)) :=
  (r_seq (rB T0_ok (q14 P)) (r_seq (rB T0_ok (q13 P)) (r_seq (r_seq (rB T0_ok (q12 P)) (r_cond rfl (r_seq (rB T0_ok (q11 P)) r_ret) r_skip)) (r_seq (r_seq (rB T0_ok (q10 P)) (r_block (rL (l3 P) (fun N3 => (r_seq (r_seq (rB T0_ok (q9 P N3)) (r_cond rfl r_skip (r_exit (fun _ _ h => h)))) (r_seq (r_block (r_seq (rB T0_ok (q8 P N3)) (r_seq (rB T0_ok (q7 P N3)) (r_cond rfl (r_seq (rB T0_ok (q6 P N3)) (rB T0_ok (q5 P N3))) r_skip)))) (rB T0_ok (q4 P N3)))))))) (r_seq (rB T0_ok (q2 P)) (r_seq (rB T0_ok (q1 P)) r_ret))))))
theorem ac (P : PT) (x0 x1 : Value) (H : AHeap) (h : B14 P x0 x1 H) : AC Tryz.prog T0 114 [x0, x1] H P :=
  r_fn T0_ok (c := code) (n := 42) Tryz.func114 body (by kernel_rfl) (main P) (En_mk (x0, x1, ()) (by kernel_rfl) ⟨by kernel_rfl, by kernel_rfl, trivial⟩ h)

end F114
-- loop.example/g01329/impl.AllCycles$1
namespace F115
noncomputable def ret (P : PT) : EP := retE T0 8 Tryz.f115 P
abbrev k0 : Sk := [(0,.i .u64),(1,.v)]
noncomputable def o1 := ob Tryz.f115 [.r,.l]
def B1 (P : PT) (x0 : Int) (x1 : Value) (H : AHeap) : Prop :=
  asP x1 (fun b1 o2 => ldI .i64 H b1 o2 (fun v3 => ld1 H b1 (o2 + 1) (fun v4 => AC Tryz.prog T0 116 [(Value.agg ⟨[(Value.int .i64 v3), v4]⟩), (Value.int .u64 x0)] H (fun v5 H6 => asB v5 (fun v7 => P (Value.bool (!v7)) H6)))))
theorem q1 (P : PT) : QB Tryz.prog T0 8 o1 (ret P) k0 (B1 P) := fun _ _ _ _  => by kernel_rfl
noncomputable def o2 := ob Tryz.f115 [.l]
def B2 (P : PT) (x0 : Int) (x1 : Value) (H : AHeap) : Prop :=
  B1 P x0 x1 H
theorem q2 (P : PT) : QB Tryz.prog T0 8 o2 (En 8 k0 (B1 P)) k0 (B2 P) := fun _ _ _ _  => by kernel_rfl
noncomputable def code : Code := (.seq (.region 0 ⟨o2⟩ false) (.seq (.region 1 ⟨o1⟩ false) .ret))
theorem body : Tryz.f115.body = some code := by kernel_rfl
theorem main (P : PT) : ∀ env H, (En 8 k0 (B2 P)) env H → AW Tryz.prog T0 code env H (mkQ (ret P) (fun _ _ _ => False) (ret P)) :=
  (r_seq (rB T0_ok (q2 P)) (r_seq (rB T0_ok (q1 P)) r_ret))
theorem ac (P : PT) (x0 : Int) (x1 : Value) (H : AHeap) (h : B2 P x0 x1 H) : AC Tryz.prog T0 115 [(Value.int .u64 x0), x1] H P :=
  r_fn T0_ok (c := code) (n := 8) Tryz.func115 body (by kernel_rfl) (main P) (En_mk (x0, x1, ()) (by kernel_rfl) ⟨by kernel_rfl, by kernel_rfl, trivial⟩ h)

end F115
-- (loop.example/g01329/impl.Graph).isCycle
namespace F116
noncomputable def ret (P : PT) : EP := retE T0 15 Tryz.f116 P
abbrev k0 : Sk := [(1,.i .u64),(2,.x)]
noncomputable def o1 := ob Tryz.f116 [.r,.l]
def B1 (P : PT) (x1 : Int) (x2 : Nat) (H : AHeap) : Prop :=
  ldI .i64 H x2 0 (fun v1 => ld1 H x2 1 (fun v2 => AC Tryz.prog T0 164 [(Value.agg ⟨[(Value.int .i64 v1), v2]⟩), (Value.int .u64 x1)] H (fun v3 H4 => asB v3 (fun v5 => pif v5 (ldI .i64 H4 x2 0 (fun v6 => ld1 H4 x2 1 (fun v7 => AC Tryz.prog T0 165 [(Value.agg ⟨[(Value.int .i64 v6), v7]⟩), (Value.int .u64 x1)] H4 (fun v8 H9 => lenK v8 (fun n11 => P (Value.bool (((n11 : Int) : Int) == 1)) H9))))) (P (Value.bool false) H4)))))
theorem q1 (P : PT) : QB Tryz.prog T0 15 o1 (ret P) k0 (B1 P) := fun _ _ _ _  => by kernel_rfl
abbrev k1 : Sk := [(0,.g [.i,.v]),(1,.i .u64)]
noncomputable def o2 := ob Tryz.f116 [.l]
def B2 (P : PT) (x0a : Int) (x0b : Value) (x1 : Int) (H : AHeap) : Prop :=
  newK H [(Value.int .i64 x0a), x0b] 26 (fun b1 H2 => B1 P x1 b1 H2)
theorem q2 (P : PT) : QB Tryz.prog T0 15 o2 (En 15 k0 (B1 P)) k1 (B2 P) := fun _ _ _ _ _  => by kernel_rfl
noncomputable def code : Code := (.seq (.region 0 ⟨o2⟩ false) (.seq (.region 1 ⟨o1⟩ false) .ret))
theorem body : Tryz.f116.body = some code := by kernel_rfl
theorem main (P : PT) : ∀ env H, (En 15 k1 (B2 P)) env H → AW Tryz.prog T0 code env H (mkQ (ret P) (fun _ _ _ => False) (ret P)) :=
  (r_seq (rB T0_ok (q2 P)) (r_seq (rB T0_ok (q1 P)) r_ret))
theorem ac (P : PT) (x0a : Int) (x0b : Value) (x1 : Int) (H : AHeap) (h : B2 P x0a x0b x1 H) : AC Tryz.prog T0 116 [(Value.agg ⟨[(Value.int .i64 x0a), x0b]⟩), (Value.int .u64 x1)] H P :=
  r_fn T0_ok (c := code) (n := 15) Tryz.func116 body (by kernel_rfl) (main P) (En_mk (x0a, x0b, x1, ()) (by kernel_rfl) ⟨by kernel_rfl, by kernel_rfl, trivial⟩ h)

end F116
-- slices.SortFunc[[]loop.example/g01329/impl.set,loop.example/g01329/impl.set]
namespace F117
noncomputable def ret (P : PT) : EP := retE T0 14 Tryz.f117 P
abbrev k0 : Sk := [(0,.v),(1,.v),(4,.i .i64)]
noncomputable def o1 := ob Tryz.f117 [.r]
def B1 (P : PT) (x0 x1 : Value) (x4 : Int) (H : AHeap) : Prop :=
  AC Tryz.prog T0 167 [(Value.int .u64 (IntKind.u64.wrap x4))] H (fun v1 H2 => asI .i64 v1 (fun v3 => AC Tryz.prog T0 166 [x0, (Value.int .i64 0), (Value.int .i64 x4), (Value.int .i64 v3), x1] H2 (fun v4 H5 => asTup v4 (fun l6 => P (Value.tuple ⟨[]⟩) H5))))
theorem q1 (P : PT) : QB Tryz.prog T0 14 o1 (ret P) k0 (B1 P) := fun _ _ _ _ _  => by kernel_rfl
abbrev k1 : Sk := [(0,.v),(1,.v)]
noncomputable def o2 := ob Tryz.f117 [.l]
def B2 (P : PT) (x0 x1 : Value) (H : AHeap) : Prop :=
  lenK x0 (fun n1 => B1 P x0 x1 (n1 : Int) H)
theorem q2 (P : PT) : QB Tryz.prog T0 14 o2 (En 14 k0 (B1 P)) k1 (B2 P) := fun _ _ _ _  => by kernel_rfl
noncomputable def code : Code := (.seq (.region 0 ⟨o2⟩ false) (.region 1 ⟨o1⟩ false))
theorem body : Tryz.f117.body = some code := by kernel_rfl
theorem main (P : PT) : ∀ env H, (En 14 k1 (B2 P)) env H → AW Tryz.prog T0 code env H (mkQ (ret P) (fun _ _ _ => False) (ret P)) :=
  (r_seq (rB T0_ok (q2 P)) (rB T0_ok (q1 P)))
theorem ac (P : PT) (x0 x1 : Value) (H : AHeap) (h : B2 P x0 x1 H) : AC Tryz.prog T0 117 [x0, x1] H P :=
  r_fn T0_ok (c := code) (n := 14) Tryz.func117 body (by kernel_rfl) (main P) (En_mk (x0, x1, ()) (by kernel_rfl) ⟨by kernel_rfl, by kernel_rfl, trivial⟩ h)

end F117
-- loop.example/g01329/impl.compareSets
namespace F118
noncomputable def ret (P : PT) : EP := retE T0 17 Tryz.f118 P
abbrev k0 : Sk := [(0,.i .u64),(1,.i .u64)]
noncomputable def o1 := ob Tryz.f118 [.r,.l]
def B1 (P : PT) (x0 x1 : Int) (H : AHeap) : Prop :=
  AC Tryz.prog T0 162 [(Value.int .u64 x0)] H (fun v1 H2 => asI .i64 v1 (fun v3 => AC Tryz.prog T0 162 [(Value.int .u64 x1)] H2 (fun v4 H5 => asI .i64 v4 (fun v6 => AC Tryz.prog T0 169 [(Value.int .i64 v3), (Value.int .i64 v6)] H5 (fun v7 H8 => asI .i64 v7 (fun v9 => AC Tryz.prog T0 81 [(Value.int .u64 x0)] H8 (fun v10 H11 => AC Tryz.prog T0 81 [(Value.int .u64 x1)] H11 (fun v13 H14 => AC Tryz.prog T0 170 [v10, v13] H14 (fun v16 H17 => asI .i64 v16 (fun v18 => newK H17 [(Value.int .i64 v9), (Value.int .i64 v18)] 3 (fun b19 H20 => AC Tryz.prog T0 168 [(Value.slice (some ⟨b19, 0, none⟩) 2 (2 + 1))] H20 (fun v21 H22 => asI .i64 v21 (fun v23 => P (Value.int .i64 v23) H22)))))))))))))
theorem q1 (P : PT) : QB Tryz.prog T0 17 o1 (ret P) k0 (B1 P) := fun _ _ _ _  => by kernel_rfl
noncomputable def o2 := ob Tryz.f118 [.l]
def B2 (P : PT) (x0 x1 : Int) (H : AHeap) : Prop :=
  B1 P x0 x1 H
theorem q2 (P : PT) : QB Tryz.prog T0 17 o2 (En 17 k0 (B1 P)) k0 (B2 P) := fun _ _ _ _  => by kernel_rfl
noncomputable def code : Code := (.seq (.region 0 ⟨o2⟩ false) (.seq (.region 1 ⟨o1⟩ false) .ret))
theorem body : Tryz.f118.body = some code := by kernel_rfl
theorem main (P : PT) : ∀ env H, (En 17 k0 (B2 P)) env H → AW Tryz.prog T0 code env H (mkQ (ret P) (fun _ _ _ => False) (ret P)) :=
  (r_seq (rB T0_ok (q2 P)) (r_seq (rB T0_ok (q1 P)) r_ret))
theorem ac (P : PT) (x0 x1 : Int) (H : AHeap) (h : B2 P x0 x1 H) : AC Tryz.prog T0 118 [(Value.int .u64 x0), (Value.int .u64 x1)] H P :=
  r_fn T0_ok (c := code) (n := 17) Tryz.func118 body (by kernel_rfl) (main P) (En_mk (x0, x1, ()) (by kernel_rfl) ⟨by kernel_rfl, by kernel_rfl, trivial⟩ h)

end F118
-- loop.example/g01329/impl.lists
namespace F119
noncomputable def ret (P : PT) : EP := retE T0 19 Tryz.f119 P
abbrev k0 : Sk := [(3,.v)]
noncomputable def o1 := ob Tryz.f119 [.r,.r,.r,.l]
def B1 (P : PT) (x3 : Value) (H : AHeap) : Prop :=
  P x3 H
theorem q1 (P : PT) : QB Tryz.prog T0 19 o1 (ret P) k0 (B1 P) := fun _ _ _  => by kernel_rfl
abbrev k1 : Sk := [(3,.v),(6,.v),(7,.i .i64),(8,.i .i64)]
noncomputable def o3 := ob Tryz.f119 [.r,.r,.l,.r,.l,.l,.r,.r,.r]
def B3 (P : PT) (N2 : NTy k1 Pr) (x3 x6 : Value) (x7 x8 : Int) (H : AHeap) : Prop :=
  N2 x3 x6 x7 (IntKind.i64.wrap (x8 + 1)) H
theorem q3 (P : PT) (N2 : NTy k1 Pr) : QB Tryz.prog T0 19 o3 (En 19 k1 N2) k1 (B3 P N2) := fun _ _ _ _ _ _  => by kernel_rfl
abbrev k2 : Sk := [(3,.v),(5,.i .u64),(6,.v),(7,.i .i64),(8,.i .i64)]
noncomputable def o4 := ob Tryz.f119 [.r,.r,.l,.r,.l,.l,.r,.r,.l,.l,.r]
def B4 (P : PT) (N2 : NTy k1 Pr) (x3 : Value) (x5 : Int) (x6 : Value) (x7 x8 : Int) (H : AHeap) : Prop :=
  AC Tryz.prog T0 81 [(Value.int .u64 x5)] H (fun v1 H2 => pif (Value.oneCell' v1) (newK H2 [v1] 28 (fun b4 H5 => apK T0 28 H5 x3 (Value.slice (some ⟨b4, 0, none⟩) 1 (1 + 1)) (fun v6 H7 => B3 P N2 v6 x6 x7 x8 H7))) False)
theorem q4 (P : PT) (N2 : NTy k1 Pr) : QB Tryz.prog T0 19 o4 (En 19 k1 (B3 P N2)) k2 (B4 P N2) := fun _ _ _ _ _ _ _  => by kernel_rfl
noncomputable def o5 := ob Tryz.f119 [.r,.r,.l,.r,.l,.l,.r,.r,.l,.l,.l]
def B5 (P : PT) (N2 : NTy k1 Pr) (x3 x6 : Value) (x7 x8 : Int) (H : AHeap) : Prop :=
  idxK x6 x8 1 (fun b1 o2 => ldI .u64 H b1 o2 (fun v3 => B4 P N2 x3 v3 x6 x7 x8 H))
theorem q5 (P : PT) (N2 : NTy k1 Pr) : QB Tryz.prog T0 19 o5 (En 19 k2 (B4 P N2)) k1 (B5 P N2) := fun _ _ _ _ _ _  => by kernel_rfl
noncomputable def o6 := ob Tryz.f119 [.r,.r,.l,.r,.l,.l,.l]
def B6 (P : PT) (N2 : NTy k1 Pr) (x3 x6 : Value) (x7 x8 : Int) (H : AHeap) : Prop :=
  pif (decide ((x8 : Int) < x7)) (B5 P N2 x3 x6 x7 x8 H) (B1 P x3 H)
theorem q6 (P : PT) (N2 : NTy k1 Pr) : QB Tryz.prog T0 19 o6 (cnd 9 (En 19 k1 (B5 P N2)) (En 19 k0 (B1 P))) k1 (B6 P N2) := fun _ _ _ _ _ _  => by kernel_rfl
def L2 (P : PT) (x3 x6 : Value) (x7 x8 : Int) (H : AHeap) : Prop :=
  ∃ (I : NTy k1 Pr) (μ : NTy k1 (AHeap → Nat)), I x3 x6 x7 x8 H ∧ ∀ y3 y6 y7 y8 G, I y3 y6 y7 y8 G → B6 P (fun z3 z6 z7 z8 G' => I z3 z6 z7 z8 G' ∧ μ z3 z6 z7 z8 G' < μ y3 y6 y7 y8 G) y3 y6 y7 y8 G
theorem l2 (P : PT) : LQ k1 (L2 P) (B6 P) := fun ⟨_,_,_,_,_⟩ _ ⟨I, μ, h0, hI⟩ => ⟨apT _ I, apT _ μ, h0, fun ⟨_,_,_,_,_⟩ _ h => hI _ _ _ _ _  h⟩
abbrev k3 : Sk := [(0,.v),(3,.v)]
noncomputable def o7 := ob Tryz.f119 [.r,.r,.l,.l]
def B7 (P : PT) (x0 x3 : Value) (H : AHeap) : Prop :=
  lenK x0 (fun n1 => L2 P x3 x0 (n1 : Int) 0 H)
theorem q7 (P : PT) : QB Tryz.prog T0 19 o7 (En 19 k1 (L2 P)) k3 (B7 P) := fun _ _ _ _  => by kernel_rfl
abbrev k4 : Sk := [(0,.v)]
noncomputable def o8 := ob Tryz.f119 [.r,.l]
def B8 (P : PT) (x0 : Value) (H : AHeap) : Prop :=
  B7 P x0 (Value.slice none 0 0) H
theorem q8 (P : PT) : QB Tryz.prog T0 19 o8 (En 19 k3 (B7 P)) k4 (B8 P) := fun _ _ _  => by kernel_rfl
noncomputable def o9 := ob Tryz.f119 [.l]
def B9 (P : PT) (x0 : Value) (H : AHeap) : Prop :=
  B8 P x0 H
theorem q9 (P : PT) : QB Tryz.prog T0 19 o9 (En 19 k4 (B8 P)) k4 (B9 P) := fun _ _ _  => by kernel_rfl
noncomputable def code : Code := (.seq (.region 0 ⟨o9⟩ false) (.seq (.region 1 ⟨o8⟩ false) (.seq (.seq (.region 2 ⟨o7⟩ false) (.block 0 (.loop (.seq (.region 3 ⟨o6⟩ false) (.seq (.cond (.tmp 9) .skip (.exit 0)) (.seq (.block 1 (.seq (.region 4 ⟨o5⟩ false) (.region 5 ⟨o4⟩ false))) (.region 6 ⟨o3⟩ false))))))) (.seq (.region 7 ⟨o1⟩ false) .ret))))
theorem body : Tryz.f119.body = some code := by kernel_rfl
theorem main (P : PT) : ∀ env H, (En 19 k4 (B9 P)) env H → AW Tryz.prog T0 code env H (mkQ (ret P) (fun _ _ _ => False) (ret P)) :=
  (r_seq (rB T0_ok (q9 P)) (r_seq (rB T0_ok (q8 P)) (r_seq (r_seq (rB T0_ok (q7 P)) (r_block (rL (l2 P) (fun N2 => (r_seq (rB T0_ok (q6 P N2)) (r_seq (r_cond rfl r_skip (r_exit (fun _ _ h => h))) (r_seq (r_block (r_seq (rB T0_ok (q5 P N2)) (rB T0_ok (q4 P N2)))) (rB T0_ok (q3 P N2))))))))) (r_seq (rB T0_ok (q1 P)) r_ret))))
theorem ac (P : PT) (x0 : Value) (H : AHeap) (h : B9 P x0 H) : AC Tryz.prog T0 119 [x0] H P :=
  r_fn T0_ok (c := code) (n := 19) Tryz.func119 body (by kernel_rfl) (main P) (En_mk (x0, ()) (by kernel_rfl) ⟨by kernel_rfl, trivial⟩ h)

end F119
-- loop.example/g01329/laws.eqInt64S
namespace F120
noncomputable def ret (P : PT) : EP := retE T0 26 Tryz.f120 P
abbrev k0 : Sk := []
noncomputable def o1 := ob Tryz.f120 [.r,.r,.r,.l]
def B1 (P : PT) (H : AHeap) : Prop :=
  P (Value.bool true) H
theorem q1 (P : PT) : QB Tryz.prog T0 26 o1 (ret P) k0 (B1 P) := fun _ _  => by kernel_rfl
abbrev k1 : Sk := [(0,.v),(1,.v),(5,.i .i64)]
noncomputable def o3 := ob Tryz.f120 [.r,.r,.l,.r,.l,.l,.r,.r]
def B3 (P : PT) (N2 : NTy k1 Pr) (x0 x1 : Value) (x5 : Int) (H : AHeap) : Prop :=
  N2 x0 x1 (IntKind.i64.wrap (x5 + 1)) H
theorem q3 (P : PT) (N2 : NTy k1 Pr) : QB Tryz.prog T0 26 o3 (En 26 k1 N2) k1 (B3 P N2) := fun _ _ _ _ _  => by kernel_rfl
noncomputable def o4 := ob Tryz.f120 [.r,.r,.l,.r,.l,.l,.r,.l,.l,.r,.l,.l]
def B4 (P : PT) (N2 : NTy k1 Pr) (H : AHeap) : Prop :=
  P (Value.bool false) H
theorem q4 (P : PT) (N2 : NTy k1 Pr) : QB Tryz.prog T0 26 o4 (ret P) k0 (B4 P N2) := fun _ _  => by kernel_rfl
noncomputable def o5 := ob Tryz.f120 [.r,.r,.l,.r,.l,.l,.r,.l,.l,.l]
def B5 (P : PT) (N2 : NTy k1 Pr) (x0 x1 : Value) (x5 : Int) (H : AHeap) : Prop :=
  idxK x0 x5 1 (fun b1 o2 => ldI .i64 H b1 o2 (fun v3 => idxK x1 x5 1 (fun b4 o5 => ldI .i64 H b4 o5 (fun v6 => pif ((v3 : Int) != v6) (B4 P N2 H) (B3 P N2 x0 x1 x5 H)))))
theorem q5 (P : PT) (N2 : NTy k1 Pr) : QD Tryz.prog T0 26 o5 [(0, false), (1, false), (2, false), (3, false), (4, false), (5, false), (6, false), (7, false), (8, false)] (cnd 25 (En 26 k0 (B4 P N2)) (En 26 k1 (B3 P N2))) k1 (B5 P N2) := fun _ _ _ _ _  => by kernel_rfl
noncomputable def o6 := ob Tryz.f120 [.r,.r,.l,.r,.l,.l,.l,.l]
def B6 (P : PT) (N2 : NTy k1 Pr) (x0 x1 : Value) (x5 : Int) (H : AHeap) : Prop :=
  lenK x0 (fun n1 => pif (decide ((x5 : Int) < (n1 : Int))) (B5 P N2 x0 x1 x5 H) (B1 P H))
theorem q6 (P : PT) (N2 : NTy k1 Pr) : QB Tryz.prog T0 26 o6 (cnd 14 (En 26 k1 (B5 P N2)) (En 26 k0 (B1 P))) k1 (B6 P N2) := fun _ _ _ _ _  => by kernel_rfl
def L2 (P : PT) (x0 x1 : Value) (x5 : Int) (H : AHeap) : Prop :=
  ∃ (I : NTy k1 Pr) (μ : NTy k1 (AHeap → Nat)), I x0 x1 x5 H ∧ ∀ y0 y1 y5 G, I y0 y1 y5 G → B6 P (fun z0 z1 z5 G' => I z0 z1 z5 G' ∧ μ z0 z1 z5 G' < μ y0 y1 y5 G) y0 y1 y5 G
theorem l2 (P : PT) : LQ k1 (L2 P) (B6 P) := fun ⟨_,_,_,_⟩ _ ⟨I, μ, h0, hI⟩ => ⟨apT _ I, apT _ μ, h0, fun ⟨_,_,_,_⟩ _ h => hI _ _ _ _  h⟩
abbrev k2 : Sk := [(0,.v),(1,.v)]
noncomputable def o7 := ob Tryz.f120 [.r,.r,.l,.l]
def B7 (P : PT) (x0 x1 : Value) (H : AHeap) : Prop :=
  L2 P x0 x1 0 H
theorem q7 (P : PT) : QB Tryz.prog T0 26 o7 (En 26 k1 (L2 P)) k2 (B7 P) := fun _ _ _ _  => by kernel_rfl
noncomputable def o8 := ob Tryz.f120 [.r,.l,.r,.l,.l]
def B8 (P : PT) (H : AHeap) : Prop :=
  P (Value.bool false) H
theorem q8 (P : PT) : QB Tryz.prog T0 26 o8 (ret P) k0 (B8 P) := fun _ _  => by kernel_rfl
noncomputable def o9 := ob Tryz.f120 [.r,.l,.l]
def B9 (P : PT) (x0 x1 : Value) (H : AHeap) : Prop :=
  lenK x0 (fun n1 => lenK x1 (fun n2 => pif (((n1 : Int) : Int) != (n2 : Int)) (B8 P H) (B7 P x0 x1 H)))
theorem q9 (P : PT) : QB Tryz.prog T0 26 o9 (cnd 10 (En 26 k0 (B8 P)) (En 26 k2 (B7 P))) k2 (B9 P) := fun _ _ _ _  => by kernel_rfl
noncomputable def o10 := ob Tryz.f120 [.l]
def B10 (P : PT) (x0 x1 : Value) (H : AHeap) : Prop :=
  B9 P x0 x1 H
theorem q10 (P : PT) : QB Tryz.prog T0 26 o10 (En 26 k2 (B9 P)) k2 (B10 P) := fun _ _ _ _  => by kernel_rfl
noncomputable def code : Code := (.seq (.region 0 ⟨o10⟩ false) (.seq (.seq (.region 1 ⟨o9⟩ false) (.cond (.tmp 10) (.seq (.region 2 ⟨o8⟩ false) .ret) .skip)) (.seq (.seq (.region 3 ⟨o7⟩ false) (.block 0 (.loop (.seq (.seq (.region 4 ⟨o6⟩ false) (.cond (.tmp 14) .skip (.exit 0))) (.seq (.block 1 (.seq (.region 6 ⟨o5⟩ true) (.cond (.tmp 25) (.seq (.region 7 ⟨o4⟩ false) .ret) .skip))) (.region 5 ⟨o3⟩ false)))))) (.seq (.region 8 ⟨o1⟩ false) .ret))))
theorem body : Tryz.f120.body = some code := by kernel_rfl
theorem main (P : PT) : ∀ env H, (En 26 k2 (B10 P)) env H → AW Tryz.prog T0 code env H (mkQ (ret P) (fun _ _ _ => False) (ret P)) :=
  (r_seq (rB T0_ok (q10 P)) (r_seq (r_seq (rB T0_ok (q9 P)) (r_cond rfl (r_seq (rB T0_ok (q8 P)) r_ret) r_skip)) (r_seq (r_seq (rB T0_ok (q7 P)) (r_block (rL (l2 P) (fun N2 => (r_seq (r_seq (rB T0_ok (q6 P N2)) (r_cond rfl r_skip (r_exit (fun _ _ h => h)))) (r_seq (r_block (r_seq (rD T0_ok mixed [(0, false), (1, false), (2, false), (3, false), (4, false), (5, false), (6, false), (7, false), (8, false)] (by kernel_rfl) (q5 P N2)) (r_cond rfl (r_seq (rB T0_ok (q4 P N2)) r_ret) r_skip))) (rB T0_ok (q3 P N2)))))))) (r_seq (rB T0_ok (q1 P)) r_ret))))
theorem ac (P : PT) (x0 x1 : Value) (H : AHeap) (h : B10 P x0 x1 H) : AC Tryz.prog T0 120 [x0, x1] H P :=
  r_fn T0_ok (c := code) (n := 26) Tryz.func120 body (by kernel_rfl) (main P) (En_mk (x0, x1, ()) (by kernel_rfl) ⟨by kernel_rfl, by kernel_rfl, trivial⟩ h)

end F120
-- loop.example/g01329/laws.eqEdgeS
namespace F121
noncomputable def ret (P : PT) : EP := retE T0 27 Tryz.f121 P
abbrev k0 : Sk := []
noncomputable def o1 := ob Tryz.f121 [.r,.r,.r,.l]
def B1 (P : PT) (H : AHeap) : Prop :=
  P (Value.bool true) H
theorem q1 (P : PT) : QB Tryz.prog T0 27 o1 (ret P) k0 (B1 P) := fun _ _  => by kernel_rfl
abbrev k1 : Sk := [(0,.v),(1,.v),(5,.i .i64)]
noncomputable def o3 := ob Tryz.f121 [.r,.r,.l,.r,.l,.l,.r,.r]
def B3 (P : PT) (N2 : NTy k1 Pr) (x0 x1 : Value) (x5 : Int) (H : AHeap) : Prop :=
  N2 x0 x1 (IntKind.i64.wrap (x5 + 1)) H
theorem q3 (P : PT) (N2 : NTy k1 Pr) : QB Tryz.prog T0 27 o3 (En 27 k1 N2) k1 (B3 P N2) := fun _ _ _ _ _  => by kernel_rfl
noncomputable def o4 := ob Tryz.f121 [.r,.r,.l,.r,.l,.l,.r,.l,.l,.r,.l,.l]
def B4 (P : PT) (N2 : NTy k1 Pr) (H : AHeap) : Prop :=
  P (Value.bool false) H
theorem q4 (P : PT) (N2 : NTy k1 Pr) : QB Tryz.prog T0 27 o4 (ret P) k0 (B4 P N2) := fun _ _  => by kernel_rfl
noncomputable def o5 := ob Tryz.f121 [.r,.r,.l,.r,.l,.l,.r,.l,.l,.l]
def B5 (P : PT) (N2 : NTy k1 Pr) (x0 x1 : Value) (x5 : Int) (H : AHeap) : Prop :=
  idxK x0 x5 2 (fun b1 o2 => ldI .i64 H b1 o2 (fun v3 => ldI .i64 H b1 (o2 + 1) (fun v4 => idxK x1 x5 2 (fun b5 o6 => ldI .i64 H b5 o6 (fun v7 => ldI .i64 H b5 (o6 + 1) (fun v8 => AC Tryz.prog T0 171 [(Value.agg ⟨[(Value.int .i64 v3), (Value.int .i64 v4)]⟩), (Value.agg ⟨[(Value.int .i64 v7), (Value.int .i64 v8)]⟩)] H (fun v9 H10 => asB v9 (fun v11 => pif (!v11) (B4 P N2 H10) (B3 P N2 x0 x1 x5 H10)))))))))
theorem q5 (P : PT) (N2 : NTy k1 Pr) : QD Tryz.prog T0 27 o5 [(0, false), (1, false), (2, false), (3, false), (4, false), (5, false), (6, false), (7, false), (8, false), (9, false)] (cnd 26 (En 27 k0 (B4 P N2)) (En 27 k1 (B3 P N2))) k1 (B5 P N2) := fun _ _ _ _ _  => by kernel_rfl
noncomputable def o6 := ob Tryz.f121 [.r,.r,.l,.r,.l,.l,.l,.l]
def B6 (P : PT) (N2 : NTy k1 Pr) (x0 x1 : Value) (x5 : Int) (H : AHeap) : Prop :=
  lenK x0 (fun n1 => pif (decide ((x5 : Int) < (n1 : Int))) (B5 P N2 x0 x1 x5 H) (B1 P H))
theorem q6 (P : PT) (N2 : NTy k1 Pr) : QB Tryz.prog T0 27 o6 (cnd 14 (En 27 k1 (B5 P N2)) (En 27 k0 (B1 P))) k1 (B6 P N2) := fun _ _ _ _ _  => by kernel_rfl
def L2 (P : PT) (x0 x1 : Value) (x5 : Int) (H : AHeap) : Prop :=
  ∃ (I : NTy k1 Pr) (μ : NTy k1 (AHeap → Nat)), I x0 x1 x5 H ∧ ∀ y0 y1 y5 G, I y0 y1 y5 G → B6 P (fun z0 z1 z5 G' => I z0 z1 z5 G' ∧ μ z0 z1 z5 G' < μ y0 y1 y5 G) y0 y1 y5 G
theorem l2 (P : PT) : LQ k1 (L2 P) (B6 P) := fun ⟨_,_,_,_⟩ _ ⟨I, μ, h0, hI⟩ => ⟨apT _ I, apT _ μ, h0, fun ⟨_,_,_,_⟩ _ h => hI _ _ _ _  h⟩
abbrev k2 : Sk := [(0,.v),(1,.v)]
noncomputable def o7 := ob Tryz.f121 [.r,.r,.l,.l]
def B7 (P : PT) (x0 x1 : Value) (H : AHeap) : Prop :=
  L2 P x0 x1 0 H
theorem q7 (P : PT) : QB Tryz.prog T0 27 o7 (En 27 k1 (L2 P)) k2 (B7 P) := fun _ _ _ _  => by kernel_rfl
noncomputable def o8 := ob Tryz.f121 [.r,.l,.r,.l,.l]
def B8 (P : PT) (H : AHeap) : Prop :=
  P (Value.bool false) H
theorem q8 (P : PT) : QB Tryz.prog T0 27 o8 (ret P) k0 (B8 P) := fun _ _  => by kernel_rfl
noncomputable def o9 := ob Tryz.f121 [.r,.l,.l]
def B9 (P : PT) (x0 x1 : Value) (H : AHeap) : Prop :=
  lenK x0 (fun n1 => lenK x1 (fun n2 => pif (((n1 : Int) : Int) != (n2 : Int)) (B8 P H) (B7 P x0 x1 H)))
theorem q9 (P : PT) : QB Tryz.prog T0 27 o9 (cnd 10 (En 27 k0 (B8 P)) (En 27 k2 (B7 P))) k2 (B9 P) := fun _ _ _ _  => by kernel_rfl
noncomputable def o10 := ob Tryz.f121 [.l]
def B10 (P : PT) (x0 x1 : Value) (H : AHeap) : Prop :=
  B9 P x0 x1 H
theorem q10 (P : PT) : QB Tryz.prog T0 27 o10 (En 27 k2 (B9 P)) k2 (B10 P) := fun _ _ _ _  => by kernel_rfl
noncomputable def code : Code := (.seq (.region 0 ⟨o10⟩ false) (.seq (.seq (.region 1 ⟨o9⟩ false) (.cond (.tmp 10) (.seq (.region 2 ⟨o8⟩ false) .ret) .skip)) (.seq (.seq (.region 3 ⟨o7⟩ false) (.block 0 (.loop (.seq (.seq (.region 4 ⟨o6⟩ false) (.cond (.tmp 14) .skip (.exit 0))) (.seq (.block 1 (.seq (.region 6 ⟨o5⟩ true) (.cond (.tmp 26) (.seq (.region 7 ⟨o4⟩ false) .ret) .skip))) (.region 5 ⟨o3⟩ false)))))) (.seq (.region 8 ⟨o1⟩ false) .ret))))
theorem body : Tryz.f121.body = some code := by kernel_rfl
theorem main (P : PT) : ∀ env H, (En 27 k2 (B10 P)) env H → AW Tryz.prog T0 code env H (mkQ (ret P) (fun _ _ _ => False) (ret P)) :=
  (r_seq (rB T0_ok (q10 P)) (r_seq (r_seq (rB T0_ok (q9 P)) (r_cond rfl (r_seq (rB T0_ok (q8 P)) r_ret) r_skip)) (r_seq (r_seq (rB T0_ok (q7 P)) (r_block (rL (l2 P) (fun N2 => (r_seq (r_seq (rB T0_ok (q6 P N2)) (r_cond rfl r_skip (r_exit (fun _ _ h => h)))) (r_seq (r_block (r_seq (rD T0_ok mixed [(0, false), (1, false), (2, false), (3, false), (4, false), (5, false), (6, false), (7, false), (8, false), (9, false)] (by kernel_rfl) (q5 P N2)) (r_cond rfl (r_seq (rB T0_ok (q4 P N2)) r_ret) r_skip))) (rB T0_ok (q3 P N2)))))))) (r_seq (rB T0_ok (q1 P)) r_ret))))
theorem ac (P : PT) (x0 x1 : Value) (H : AHeap) (h : B10 P x0 x1 H) : AC Tryz.prog T0 121 [x0, x1] H P :=
  r_fn T0_ok (c := code) (n := 27) Tryz.func121 body (by kernel_rfl) (main P) (En_mk (x0, x1, ()) (by kernel_rfl) ⟨by kernel_rfl, by kernel_rfl, trivial⟩ h)

end F121
-- loop.example/g01329/laws.markEdgeS
namespace F122
noncomputable def ret (P : PT) : EP := retE T0 26 Tryz.f122 P
abbrev k0 : Sk := [(1,.i .i64)]
noncomputable def o1 := ob Tryz.f122 [.r,.r,.l]
def B1 (P : PT) (x1 : Int) (H : AHeap) : Prop :=
  P (Value.int .i64 x1) H
theorem q1 (P : PT) : QB Tryz.prog T0 26 o1 (ret P) k0 (B1 P) := fun _ _ _  => by kernel_rfl
abbrev k1 : Sk := [(0,.v),(1,.i .i64),(5,.i .i64)]
noncomputable def o3 := ob Tryz.f122 [.r,.l,.r,.l,.l,.r,.r]
def B3 (P : PT) (N2 : NTy k1 Pr) (x0 : Value) (x1 x5 : Int) (H : AHeap) : Prop :=
  N2 x0 x1 (IntKind.i64.wrap (x5 + 1)) H
theorem q3 (P : PT) (N2 : NTy k1 Pr) : QB Tryz.prog T0 26 o3 (En 26 k1 N2) k1 (B3 P N2) := fun _ _ _ _ _  => by kernel_rfl
abbrev k2 : Sk := [(0,.v),(1,.i .i64),(5,.i .i64),(6,.i .i64)]
noncomputable def o5 := ob Tryz.f122 [.r,.l,.r,.l,.l,.r,.l,.l,.r,.l,.l,.r,.r]
def B5 (P : PT) (N2 : NTy k1 Pr) (N4 : NTy k2 Pr) (x0 : Value) (x1 x5 x6 : Int) (H : AHeap) : Prop :=
  N4 x0 x1 x5 (IntKind.i64.wrap (x6 + 1)) H
theorem q5 (P : PT) (N2 : NTy k1 Pr) (N4 : NTy k2 Pr) : QB Tryz.prog T0 26 o5 (En 26 k2 N4) k2 (B5 P N2 N4) := fun _ _ _ _ _ _  => by kernel_rfl
noncomputable def o6 := ob Tryz.f122 [.r,.l,.r,.l,.l,.r,.l,.l,.r,.l,.l,.r,.l,.l,.r]
def B6 (P : PT) (N2 : NTy k1 Pr) (N4 : NTy k2 Pr) (x0 : Value) (x1 x5 x6 : Int) (H : AHeap) : Prop :=
  B5 P N2 N4 x0 (IntKind.i64.wrap (x1 + 1)) x5 x6 H
theorem q6 (P : PT) (N2 : NTy k1 Pr) (N4 : NTy k2 Pr) : QB Tryz.prog T0 26 o6 (En 26 k2 (B5 P N2 N4)) k2 (B6 P N2 N4) := fun _ _ _ _ _ _  => by kernel_rfl
noncomputable def o7 := ob Tryz.f122 [.r,.l,.r,.l,.l,.r,.l,.l,.r,.l,.l,.r,.l,.l,.l]
def B7 (P : PT) (N2 : NTy k1 Pr) (N4 : NTy k2 Pr) (x0 : Value) (x1 x5 x6 : Int) (H : AHeap) : Prop :=
  idxK x0 x5 2 (fun b1 o2 => bndK x6 2 (stK H b1 (o2 + Int.toNat x6 * 1) [(Value.int .i64 x1)] (fun H3 => B6 P N2 N4 x0 x1 x5 x6 H3)))
theorem q7 (P : PT) (N2 : NTy k1 Pr) (N4 : NTy k2 Pr) : QB Tryz.prog T0 26 o7 (En 26 k2 (B6 P N2 N4)) k2 (B7 P N2 N4) := fun _ _ _ _ _ _  => by kernel_rfl
noncomputable def o8 := ob Tryz.f122 [.r,.l,.r,.l,.l,.r,.l,.l,.r,.l,.l,.l,.l]
def B8 (P : PT) (N2 : NTy k1 Pr) (N4 : NTy k2 Pr) (x0 : Value) (x1 x5 x6 : Int) (H : AHeap) : Prop :=
  pif (decide ((x6 : Int) < 2)) (B7 P N2 N4 x0 x1 x5 x6 H) (B3 P N2 x0 x1 x5 H)
theorem q8 (P : PT) (N2 : NTy k1 Pr) (N4 : NTy k2 Pr) : QB Tryz.prog T0 26 o8 (cnd 14 (En 26 k2 (B7 P N2 N4)) (En 26 k1 (B3 P N2))) k2 (B8 P N2 N4) := fun _ _ _ _ _ _  => by kernel_rfl
def L4 (P : PT) (N2 : NTy k1 Pr) (x0 : Value) (x1 x5 x6 : Int) (H : AHeap) : Prop :=
  ∃ (I : NTy k2 Pr) (μ : NTy k2 (AHeap → Nat)), I x0 x1 x5 x6 H ∧ ∀ y0 y1 y5 y6 G, I y0 y1 y5 y6 G → B8 P N2 (fun z0 z1 z5 z6 G' => I z0 z1 z5 z6 G' ∧ μ z0 z1 z5 z6 G' < μ y0 y1 y5 y6 G) y0 y1 y5 y6 G
theorem l4 (P : PT) (N2 : NTy k1 Pr) : LQ k2 (L4 P N2) (B8 P N2) := fun ⟨_,_,_,_,_⟩ _ ⟨I, μ, h0, hI⟩ => ⟨apT _ I, apT _ μ, h0, fun ⟨_,_,_,_,_⟩ _ h => hI _ _ _ _ _  h⟩
noncomputable def o9 := ob Tryz.f122 [.r,.l,.r,.l,.l,.r,.l,.l,.l]
def B9 (P : PT) (N2 : NTy k1 Pr) (x0 : Value) (x1 x5 : Int) (H : AHeap) : Prop :=
  L4 P N2 x0 x1 x5 0 H
theorem q9 (P : PT) (N2 : NTy k1 Pr) : QB Tryz.prog T0 26 o9 (En 26 k2 (L4 P N2)) k1 (B9 P N2) := fun _ _ _ _ _  => by kernel_rfl
noncomputable def o10 := ob Tryz.f122 [.r,.l,.r,.l,.l,.l,.l]
def B10 (P : PT) (N2 : NTy k1 Pr) (x0 : Value) (x1 x5 : Int) (H : AHeap) : Prop :=
  lenK x0 (fun n1 => pif (decide ((x5 : Int) < (n1 : Int))) (B9 P N2 x0 x1 x5 H) (B1 P x1 H))
theorem q10 (P : PT) (N2 : NTy k1 Pr) : QB Tryz.prog T0 26 o10 (cnd 10 (En 26 k1 (B9 P N2)) (En 26 k0 (B1 P))) k1 (B10 P N2) := fun _ _ _ _ _  => by kernel_rfl
def L2 (P : PT) (x0 : Value) (x1 x5 : Int) (H : AHeap) : Prop :=
  ∃ (I : NTy k1 Pr) (μ : NTy k1 (AHeap → Nat)), I x0 x1 x5 H ∧ ∀ y0 y1 y5 G, I y0 y1 y5 G → B10 P (fun z0 z1 z5 G' => I z0 z1 z5 G' ∧ μ z0 z1 z5 G' < μ y0 y1 y5 G) y0 y1 y5 G
theorem l2 (P : PT) : LQ k1 (L2 P) (B10 P) := fun ⟨_,_,_,_⟩ _ ⟨I, μ, h0, hI⟩ => ⟨apT _ I, apT _ μ, h0, fun ⟨_,_,_,_⟩ _ h => hI _ _ _ _  h⟩
abbrev k3 : Sk := [(0,.v),(1,.i .i64)]
noncomputable def o11 := ob Tryz.f122 [.r,.l,.l]
def B11 (P : PT) (x0 : Value) (x1 : Int) (H : AHeap) : Prop :=
  L2 P x0 x1 0 H
theorem q11 (P : PT) : QB Tryz.prog T0 26 o11 (En 26 k1 (L2 P)) k3 (B11 P) := fun _ _ _ _  => by kernel_rfl
noncomputable def o12 := ob Tryz.f122 [.l]
def B12 (P : PT) (x0 : Value) (x1 : Int) (H : AHeap) : Prop :=
  B11 P x0 x1 H
theorem q12 (P : PT) : QB Tryz.prog T0 26 o12 (En 26 k3 (B11 P)) k3 (B12 P) := fun _ _ _ _  => by kernel_rfl
noncomputable def code : Code := (.seq (.region 0 ⟨o12⟩ false) (.seq (.seq (.region 1 ⟨o11⟩ false) (.block 0 (.loop (.seq (.seq (.region 2 ⟨o10⟩ false) (.cond (.tmp 10) .skip (.exit 0))) (.seq (.block 1 (.seq (.region 4 ⟨o9⟩ false) (.block 2 (.loop (.seq (.seq (.region 5 ⟨o8⟩ false) (.cond (.tmp 14) .skip (.exit 2))) (.seq (.block 3 (.seq (.region 7 ⟨o7⟩ false) (.region 8 ⟨o6⟩ false))) (.region 6 ⟨o5⟩ false))))))) (.region 3 ⟨o3⟩ false)))))) (.seq (.region 9 ⟨o1⟩ false) .ret)))
theorem body : Tryz.f122.body = some code := by kernel_rfl
theorem main (P : PT) : ∀ env H, (En 26 k3 (B12 P)) env H → AW Tryz.prog T0 code env H (mkQ (ret P) (fun _ _ _ => False) (ret P)) :=
  (r_seq (rB T0_ok (q12 P)) (r_seq (r_seq (rB T0_ok (q11 P)) (r_block (rL (l2 P) (fun N2 => (r_seq (r_seq (rB T0_ok (q10 P N2)) (r_cond rfl r_skip (r_exit (fun _ _ h => h)))) (r_seq (r_block (r_seq (rB T0_ok (q9 P N2)) (r_block (rL (l4 P N2) (fun N4 => (r_seq (r_seq (rB T0_ok (q8 P N2 N4)) (r_cond rfl r_skip (r_exit (fun _ _ h => h)))) (r_seq (r_block (r_seq (rB T0_ok (q7 P N2 N4)) (rB T0_ok (q6 P N2 N4)))) (rB T0_ok (q5 P N2 N4))))))))) (rB T0_ok (q3 P N2)))))))) (r_seq (rB T0_ok (q1 P)) r_ret)))
theorem ac (P : PT) (x0 : Value) (x1 : Int) (H : AHeap) (h : B12 P x0 x1 H) : AC Tryz.prog T0 122 [x0, (Value.int .i64 x1)] H P :=
  r_fn T0_ok (c := code) (n := 26) Tryz.func122 body (by kernel_rfl) (main P) (En_mk (x0, x1, ()) (by kernel_rfl) ⟨by kernel_rfl, by kernel_rfl, trivial⟩ h)

end F122
-- loop.example/g01329/laws.markInt64S
namespace F123
noncomputable def ret (P : PT) : EP := retE T0 19 Tryz.f123 P
abbrev k0 : Sk := [(1,.i .i64)]
noncomputable def o1 := ob Tryz.f123 [.r,.r,.l]
def B1 (P : PT) (x1 : Int) (H : AHeap) : Prop :=
  P (Value.int .i64 x1) H
theorem q1 (P : PT) : QB Tryz.prog T0 19 o1 (ret P) k0 (B1 P) := fun _ _ _  => by kernel_rfl
abbrev k1 : Sk := [(0,.v),(1,.i .i64),(5,.i .i64)]
noncomputable def o3 := ob Tryz.f123 [.r,.l,.r,.l,.l,.r,.r]
def B3 (P : PT) (N2 : NTy k1 Pr) (x0 : Value) (x1 x5 : Int) (H : AHeap) : Prop :=
  N2 x0 x1 (IntKind.i64.wrap (x5 + 1)) H
theorem q3 (P : PT) (N2 : NTy k1 Pr) : QB Tryz.prog T0 19 o3 (En 19 k1 N2) k1 (B3 P N2) := fun _ _ _ _ _  => by kernel_rfl
noncomputable def o4 := ob Tryz.f123 [.r,.l,.r,.l,.l,.r,.l,.l,.r]
def B4 (P : PT) (N2 : NTy k1 Pr) (x0 : Value) (x1 x5 : Int) (H : AHeap) : Prop :=
  B3 P N2 x0 (IntKind.i64.wrap (x1 + 1)) x5 H
theorem q4 (P : PT) (N2 : NTy k1 Pr) : QB Tryz.prog T0 19 o4 (En 19 k1 (B3 P N2)) k1 (B4 P N2) := fun _ _ _ _ _  => by kernel_rfl
noncomputable def o5 := ob Tryz.f123 [.r,.l,.r,.l,.l,.r,.l,.l,.l]
def B5 (P : PT) (N2 : NTy k1 Pr) (x0 : Value) (x1 x5 : Int) (H : AHeap) : Prop :=
  idxK x0 x5 1 (fun b1 o2 => stK H b1 o2 [(Value.int .i64 x1)] (fun H3 => B4 P N2 x0 x1 x5 H3))
theorem q5 (P : PT) (N2 : NTy k1 Pr) : QB Tryz.prog T0 19 o5 (En 19 k1 (B4 P N2)) k1 (B5 P N2) := fun _ _ _ _ _  => by kernel_rfl
noncomputable def o6 := ob Tryz.f123 [.r,.l,.r,.l,.l,.l,.l]
def B6 (P : PT) (N2 : NTy k1 Pr) (x0 : Value) (x1 x5 : Int) (H : AHeap) : Prop :=
  lenK x0 (fun n1 => pif (decide ((x5 : Int) < (n1 : Int))) (B5 P N2 x0 x1 x5 H) (B1 P x1 H))
theorem q6 (P : PT) (N2 : NTy k1 Pr) : QB Tryz.prog T0 19 o6 (cnd 9 (En 19 k1 (B5 P N2)) (En 19 k0 (B1 P))) k1 (B6 P N2) := fun _ _ _ _ _  => by kernel_rfl
def L2 (P : PT) (x0 : Value) (x1 x5 : Int) (H : AHeap) : Prop :=
  ∃ (I : NTy k1 Pr) (μ : NTy k1 (AHeap → Nat)), I x0 x1 x5 H ∧ ∀ y0 y1 y5 G, I y0 y1 y5 G → B6 P (fun z0 z1 z5 G' => I z0 z1 z5 G' ∧ μ z0 z1 z5 G' < μ y0 y1 y5 G) y0 y1 y5 G
theorem l2 (P : PT) : LQ k1 (L2 P) (B6 P) := fun ⟨_,_,_,_⟩ _ ⟨I, μ, h0, hI⟩ => ⟨apT _ I, apT _ μ, h0, fun ⟨_,_,_,_⟩ _ h => hI _ _ _ _  h⟩
abbrev k2 : Sk := [(0,.v),(1,.i .i64)]
noncomputable def o7 := ob Tryz.f123 [.r,.l,.l]
def B7 (P : PT) (x0 : Value) (x1 : Int) (H : AHeap) : Prop :=
  L2 P x0 x1 0 H
theorem q7 (P : PT) : QB Tryz.prog T0 19 o7 (En 19 k1 (L2 P)) k2 (B7 P) := fun _ _ _ _  => by kernel_rfl
noncomputable def o8 := ob Tryz.f123 [.l]
def B8 (P : PT) (x0 : Value) (x1 : Int) (H : AHeap) : Prop :=
  B7 P x0 x1 H
theorem q8 (P : PT) : QB Tryz.prog T0 19 o8 (En 19 k2 (B7 P)) k2 (B8 P) := fun _ _ _ _  => by kernel_rfl
noncomputable def code : Code := (.seq (.region 0 ⟨o8⟩ false) (.seq (.seq (.region 1 ⟨o7⟩ false) (.block 0 (.loop (.seq (.seq (.region 2 ⟨o6⟩ false) (.cond (.tmp 9) .skip (.exit 0))) (.seq (.block 1 (.seq (.region 4 ⟨o5⟩ false) (.region 5 ⟨o4⟩ false))) (.region 3 ⟨o3⟩ false)))))) (.seq (.region 6 ⟨o1⟩ false) .ret)))
theorem body : Tryz.f123.body = some code := by kernel_rfl
theorem main (P : PT) : ∀ env H, (En 19 k2 (B8 P)) env H → AW Tryz.prog T0 code env H (mkQ (ret P) (fun _ _ _ => False) (ret P)) :=
  (r_seq (rB T0_ok (q8 P)) (r_seq (r_seq (rB T0_ok (q7 P)) (r_block (rL (l2 P) (fun N2 => (r_seq (r_seq (rB T0_ok (q6 P N2)) (r_cond rfl r_skip (r_exit (fun _ _ h => h)))) (r_seq (r_block (r_seq (rB T0_ok (q5 P N2)) (rB T0_ok (q4 P N2)))) (rB T0_ok (q3 P N2)))))))) (r_seq (rB T0_ok (q1 P)) r_ret)))
theorem ac (P : PT) (x0 : Value) (x1 : Int) (H : AHeap) (h : B8 P x0 x1 H) : AC Tryz.prog T0 123 [x0, (Value.int .i64 x1)] H P :=
  r_fn T0_ok (c := code) (n := 19) Tryz.func123 body (by kernel_rfl) (main P) (En_mk (x0, x1, ()) (by kernel_rfl) ⟨by kernel_rfl, by kernel_rfl, trivial⟩ h)

end F123
-- loop.example/g01329/laws.heldInt64S
namespace F124
noncomputable def ret (P : PT) : EP := retE T0 21 Tryz.f124 P
abbrev k0 : Sk := [(1,.i .i64)]
noncomputable def o1 := ob Tryz.f124 [.r,.r,.l]
def B1 (P : PT) (x1 : Int) (H : AHeap) : Prop :=
  P (Value.int .i64 x1) H
theorem q1 (P : PT) : QB Tryz.prog T0 21 o1 (ret P) k0 (B1 P) := fun _ _ _  => by kernel_rfl
abbrev k1 : Sk := [(0,.v),(1,.i .i64),(5,.i .i64)]
noncomputable def o3 := ob Tryz.f124 [.r,.l,.r,.l,.l,.r,.r]
def B3 (P : PT) (N2 : NTy k1 Pr) (x0 : Value) (x1 x5 : Int) (H : AHeap) : Prop :=
  N2 x0 x1 (IntKind.i64.wrap (x5 + 1)) H
theorem q3 (P : PT) (N2 : NTy k1 Pr) : QB Tryz.prog T0 21 o3 (En 21 k1 N2) k1 (B3 P N2) := fun _ _ _ _ _  => by kernel_rfl
noncomputable def o4 := ob Tryz.f124 [.r,.l,.r,.l,.l,.r,.l,.l,.r]
def B4 (P : PT) (N2 : NTy k1 Pr) (x0 : Value) (x1 x5 : Int) (H : AHeap) : Prop :=
  B3 P N2 x0 (IntKind.i64.wrap (x1 + 1)) x5 H
theorem q4 (P : PT) (N2 : NTy k1 Pr) : QB Tryz.prog T0 21 o4 (En 21 k1 (B3 P N2)) k1 (B4 P N2) := fun _ _ _ _ _  => by kernel_rfl
abbrev k2 : Sk := []
noncomputable def o5 := ob Tryz.f124 [.r,.l,.r,.l,.l,.r,.l,.l,.l,.r,.l,.l]
def B5 (P : PT) (N2 : NTy k1 Pr) (H : AHeap) : Prop :=
  P (Value.int .i64 (-1)) H
theorem q5 (P : PT) (N2 : NTy k1 Pr) : QB Tryz.prog T0 21 o5 (ret P) k2 (B5 P N2) := fun _ _  => by kernel_rfl
noncomputable def o6 := ob Tryz.f124 [.r,.l,.r,.l,.l,.r,.l,.l,.l,.l]
def B6 (P : PT) (N2 : NTy k1 Pr) (x0 : Value) (x1 x5 : Int) (H : AHeap) : Prop :=
  idxK x0 x5 1 (fun b1 o2 => ldI .i64 H b1 o2 (fun v3 => pif ((v3 : Int) != x1) (B5 P N2 H) (B4 P N2 x0 x1 x5 H)))
theorem q6 (P : PT) (N2 : NTy k1 Pr) : QB Tryz.prog T0 21 o6 (cnd 17 (En 21 k2 (B5 P N2)) (En 21 k1 (B4 P N2))) k1 (B6 P N2) := fun _ _ _ _ _  => by kernel_rfl
noncomputable def o7 := ob Tryz.f124 [.r,.l,.r,.l,.l,.l,.l]
def B7 (P : PT) (N2 : NTy k1 Pr) (x0 : Value) (x1 x5 : Int) (H : AHeap) : Prop :=
  lenK x0 (fun n1 => pif (decide ((x5 : Int) < (n1 : Int))) (B6 P N2 x0 x1 x5 H) (B1 P x1 H))
theorem q7 (P : PT) (N2 : NTy k1 Pr) : QB Tryz.prog T0 21 o7 (cnd 9 (En 21 k1 (B6 P N2)) (En 21 k0 (B1 P))) k1 (B7 P N2) := fun _ _ _ _ _  => by kernel_rfl
def L2 (P : PT) (x0 : Value) (x1 x5 : Int) (H : AHeap) : Prop :=
  ∃ (I : NTy k1 Pr) (μ : NTy k1 (AHeap → Nat)), I x0 x1 x5 H ∧ ∀ y0 y1 y5 G, I y0 y1 y5 G → B7 P (fun z0 z1 z5 G' => I z0 z1 z5 G' ∧ μ z0 z1 z5 G' < μ y0 y1 y5 G) y0 y1 y5 G
theorem l2 (P : PT) : LQ k1 (L2 P) (B7 P) := fun ⟨_,_,_,_⟩ _ ⟨I, μ, h0, hI⟩ => ⟨apT _ I, apT _ μ, h0, fun ⟨_,_,_,_⟩ _ h => hI _ _ _ _  h⟩
abbrev k3 : Sk := [(0,.v),(1,.i .i64)]
noncomputable def o8 := ob Tryz.f124 [.r,.l,.l]
def B8 (P : PT) (x0 : Value) (x1 : Int) (H : AHeap) : Prop :=
  L2 P x0 x1 0 H
theorem q8 (P : PT) : QB Tryz.prog T0 21 o8 (En 21 k1 (L2 P)) k3 (B8 P) := fun _ _ _ _  => by kernel_rfl
noncomputable def o9 := ob Tryz.f124 [.l]
def B9 (P : PT) (x0 : Value) (x1 : Int) (H : AHeap) : Prop :=
  B8 P x0 x1 H
theorem q9 (P : PT) : QB Tryz.prog T0 21 o9 (En 21 k3 (B8 P)) k3 (B9 P) := fun _ _ _ _  => by kernel_rfl
noncomputable def code : Code := (.seq (.region 0 ⟨o9⟩ false) (.seq (.seq (.region 1 ⟨o8⟩ false) (.block 0 (.loop (.seq (.seq (.region 2 ⟨o7⟩ false) (.cond (.tmp 9) .skip (.exit 0))) (.seq (.block 1 (.seq (.seq (.region 4 ⟨o6⟩ false) (.cond (.tmp 17) (.seq (.region 5 ⟨o5⟩ false) .ret) .skip)) (.region 6 ⟨o4⟩ false))) (.region 3 ⟨o3⟩ false)))))) (.seq (.region 7 ⟨o1⟩ false) .ret)))
theorem body : Tryz.f124.body = some code := by kernel_rfl
theorem main (P : PT) : ∀ env H, (En 21 k3 (B9 P)) env H → AW Tryz.prog T0 code env H (mkQ (ret P) (fun _ _ _ => False) (ret P)) :=
  (r_seq (rB T0_ok (q9 P)) (r_seq (r_seq (rB T0_ok (q8 P)) (r_block (rL (l2 P) (fun N2 => (r_seq (r_seq (rB T0_ok (q7 P N2)) (r_cond rfl r_skip (r_exit (fun _ _ h => h)))) (r_seq (r_block (r_seq (r_seq (rB T0_ok (q6 P N2)) (r_cond rfl (r_seq (rB T0_ok (q5 P N2)) r_ret) r_skip)) (rB T0_ok (q4 P N2)))) (rB T0_ok (q3 P N2)))))))) (r_seq (rB T0_ok (q1 P)) r_ret)))
theorem ac (P : PT) (x0 : Value) (x1 : Int) (H : AHeap) (h : B9 P x0 x1 H) : AC Tryz.prog T0 124 [x0, (Value.int .i64 x1)] H P :=
  r_fn T0_ok (c := code) (n := 21) Tryz.func124 body (by kernel_rfl) (main P) (En_mk (x0, x1, ()) (by kernel_rfl) ⟨by kernel_rfl, by kernel_rfl, trivial⟩ h)

end F124
-- (loop.example/g01329/impl.set).has
namespace F134
noncomputable def ret (P : PT) : EP := retE T0 10 Tryz.f134 P
abbrev k0 : Sk := [(0,.i .u64),(1,.i .i64)]
noncomputable def o1 := ob Tryz.f134 [.r,.l]
def B1 (P : PT) (x0 x1 : Int) (H : AHeap) : Prop :=
  ((0 : Int) ≤ x1) ∧ (P (Value.bool ((IntKind.u64.wrap (BitVec.ofInt 64 (Int.fdiv x0 (2 ^ (min (Int.toNat x1) 64))) &&& BitVec.ofInt 64 1).toNat : Int) == 1)) H)
theorem q1 (P : PT) : QB Tryz.prog T0 10 o1 (ret P) k0 (B1 P) := fun _ _ _ _  => by kernel_rfl
noncomputable def o2 := ob Tryz.f134 [.l]
def B2 (P : PT) (x0 x1 : Int) (H : AHeap) : Prop :=
  B1 P x0 x1 H
theorem q2 (P : PT) : QB Tryz.prog T0 10 o2 (En 10 k0 (B1 P)) k0 (B2 P) := fun _ _ _ _  => by kernel_rfl
noncomputable def code : Code := (.seq (.region 0 ⟨o2⟩ false) (.seq (.region 1 ⟨o1⟩ false) .ret))
theorem body : Tryz.f134.body = some code := by kernel_rfl
theorem main (P : PT) : ∀ env H, (En 10 k0 (B2 P)) env H → AW Tryz.prog T0 code env H (mkQ (ret P) (fun _ _ _ => False) (ret P)) :=
  (r_seq (rB T0_ok (q2 P)) (r_seq (rB T0_ok (q1 P)) r_ret))
theorem ac (P : PT) (x0 x1 : Int) (H : AHeap) (h : B2 P x0 x1 H) : AC Tryz.prog T0 134 [(Value.int .u64 x0), (Value.int .i64 x1)] H P :=
  r_fn T0_ok (c := code) (n := 10) Tryz.func134 body (by kernel_rfl) (main P) (En_mk (x0, x1, ()) (by kernel_rfl) ⟨by kernel_rfl, by kernel_rfl, trivial⟩ h)

end F134
-- loop.example/g01329/spec.l01Own
namespace F138
noncomputable def ret (P : PT) : EP := retE T0 6 Tryz.f138 P
abbrev k0 : Sk := [(0,.v)]
noncomputable def o1 := ob Tryz.f138 [.r,.l]
def B1 (P : PT) (x0 : Value) (H : AHeap) : Prop :=
  newK H [] 2 (fun b1 H2 => apK T0 2 H2 (Value.slice (some ⟨b1, 0, none⟩) 0 (0 + 1)) x0 (fun v3 H4 => P v3 H4))
theorem q1 (P : PT) : QB Tryz.prog T0 6 o1 (ret P) k0 (B1 P) := fun _ _ _  => by kernel_rfl
noncomputable def o2 := ob Tryz.f138 [.l]
def B2 (P : PT) (x0 : Value) (H : AHeap) : Prop :=
  B1 P x0 H
theorem q2 (P : PT) : QB Tryz.prog T0 6 o2 (En 6 k0 (B1 P)) k0 (B2 P) := fun _ _ _  => by kernel_rfl
noncomputable def code : Code := (.seq (.region 0 ⟨o2⟩ false) (.seq (.region 1 ⟨o1⟩ false) .ret))
theorem body : Tryz.f138.body = some code := by kernel_rfl
theorem main (P : PT) : ∀ env H, (En 6 k0 (B2 P)) env H → AW Tryz.prog T0 code env H (mkQ (ret P) (fun _ _ _ => False) (ret P)) :=
  (r_seq (rB T0_ok (q2 P)) (r_seq (rB T0_ok (q1 P)) r_ret))
theorem ac (P : PT) (x0 : Value) (H : AHeap) (h : B2 P x0 H) : AC Tryz.prog T0 138 [x0] H P :=
  r_fn T0_ok (c := code) (n := 6) Tryz.func138 body (by kernel_rfl) (main P) (En_mk (x0, ()) (by kernel_rfl) ⟨by kernel_rfl, trivial⟩ h)

end F138
-- loop.example/g01329/impl.IsGraph
namespace F143
noncomputable def ret (P : PT) : EP := retE T0 25 Tryz.f143 P
abbrev k0 : Sk := [(1,.x)]
noncomputable def o1 := ob Tryz.f143 [.r,.l]
def B1 (P : PT) (x1 : Nat) (H : AHeap) : Prop :=
  ldI .i64 H x1 0 (fun v1 => ld1 H x1 1 (fun v2 => AC Tryz.prog T0 183 [(Value.int .i64 v1), v2] H (fun v3 H4 => asB v3 (fun v5 => pif v5 (ld1 H4 x1 1 (fun v6 => AC Tryz.prog T0 184 [v6, (Value.func (.func 185) ⟨[]⟩ ⟨[]⟩)] H4 (fun v7 H8 => asB v7 (fun v9 => pif v9 (ld1 H8 x1 1 (fun v10 => AC Tryz.prog T0 186 [v10, (Value.func (.func 187) ⟨[]⟩ ⟨[]⟩)] H8 (fun v11 H12 => asB v11 (fun v13 => pif v13 (ldI .i64 H12 x1 0 (fun v14 => ld1 H12 x1 1 (fun v15 => AC Tryz.prog T0 188 [(Value.int .i64 v14), v15] H12 (fun v16 H17 => asB v16 (fun v18 => P (Value.bool v18) H17))))) (P (Value.bool false) H12))))) (P (Value.bool false) H8))))) (P (Value.bool false) H4)))))
theorem q1 (P : PT) : QB Tryz.prog T0 25 o1 (ret P) k0 (B1 P) := fun _ _ _  => by kernel_rfl
abbrev k1 : Sk := [(0,.g [.i,.v])]
noncomputable def o2 := ob Tryz.f143 [.l]
def B2 (P : PT) (x0a : Int) (x0b : Value) (H : AHeap) : Prop :=
  newK H [(Value.int .i64 x0a), x0b] 26 (fun b1 H2 => B1 P b1 H2)
theorem q2 (P : PT) : QB Tryz.prog T0 25 o2 (En 25 k0 (B1 P)) k1 (B2 P) := fun _ _ _ _  => by kernel_rfl
noncomputable def code : Code := (.seq (.region 0 ⟨o2⟩ false) (.seq (.region 1 ⟨o1⟩ false) .ret))
theorem body : Tryz.f143.body = some code := by kernel_rfl
theorem main (P : PT) : ∀ env H, (En 25 k1 (B2 P)) env H → AW Tryz.prog T0 code env H (mkQ (ret P) (fun _ _ _ => False) (ret P)) :=
  (r_seq (rB T0_ok (q2 P)) (r_seq (rB T0_ok (q1 P)) r_ret))
theorem ac (P : PT) (x0a : Int) (x0b : Value) (H : AHeap) (h : B2 P x0a x0b H) : AC Tryz.prog T0 143 [(Value.agg ⟨[(Value.int .i64 x0a), x0b]⟩)] H P :=
  r_fn T0_ok (c := code) (n := 25) Tryz.func143 body (by kernel_rfl) (main P) (En_mk (x0a, x0b, ()) (by kernel_rfl) ⟨by kernel_rfl, trivial⟩ h)

end F143
-- loop.example/g01329/spec.l01Ends
namespace F144
noncomputable def ret (P : PT) : EP := retE T0 61 Tryz.f144 P
abbrev k0 : Sk := []
noncomputable def o1 := ob Tryz.f144 [.r,.r,.r,.l]
def B1 (P : PT) (H : AHeap) : Prop :=
  P (Value.int .i64 0) H
theorem q1 (P : PT) : QB Tryz.prog T0 61 o1 (ret P) k0 (B1 P) := fun _ _  => by kernel_rfl
abbrev k1 : Sk := [(0,.i .i64),(1,.v),(5,.i .i64)]
noncomputable def o3 := ob Tryz.f144 [.r,.r,.l,.r,.l,.l,.r,.r]
def B3 (P : PT) (N2 : NTy k1 Pr) (x0 : Int) (x1 : Value) (x5 : Int) (H : AHeap) : Prop :=
  N2 x0 x1 (IntKind.i64.wrap (x5 + 1)) H
theorem q3 (P : PT) (N2 : NTy k1 Pr) : QB Tryz.prog T0 61 o3 (En 61 k1 N2) k1 (B3 P N2) := fun _ _ _ _ _  => by kernel_rfl
noncomputable def o4 := ob Tryz.f144 [.r,.r,.l,.r,.l,.l,.r,.l,.l,.r,.l,.l]
def B4 (P : PT) (N2 : NTy k1 Pr) (H : AHeap) : Prop :=
  P (Value.int .i64 2) H
theorem q4 (P : PT) (N2 : NTy k1 Pr) : QB Tryz.prog T0 61 o4 (ret P) k0 (B4 P N2) := fun _ _  => by kernel_rfl
noncomputable def o5 := ob Tryz.f144 [.r,.r,.l,.r,.l,.l,.r,.l,.l,.l]
def B5 (P : PT) (N2 : NTy k1 Pr) (x0 : Int) (x1 : Value) (x5 : Int) (H : AHeap) : Prop :=
  idxK x1 x5 2 (fun b1 o2 => ldI .i64 H b1 o2 (fun v3 => AC Tryz.prog T0 85 [(Value.int .i64 v3), (Value.int .i64 0), (Value.int .i64 (IntKind.i64.wrap (x0 - 1)))] H (fun v4 H5 => asB v4 (fun v6 => pif (!v6) (B4 P N2 H5) (idxK x1 x5 2 (fun b7 o8 => ldI .i64 H5 b7 (o8 + 1) (fun v9 => AC Tryz.prog T0 85 [(Value.int .i64 v9), (Value.int .i64 0), (Value.int .i64 (IntKind.i64.wrap (x0 - 1)))] H5 (fun v10 H11 => asB v10 (fun v12 => pif (!v12) (B4 P N2 H11) (idxK x1 x5 2 (fun b13 o14 => ldI .i64 H11 b13 o14 (fun v15 => idxK x1 x5 2 (fun b16 o17 => ldI .i64 H11 b16 (o17 + 1) (fun v18 => pif ((v15 : Int) == v18) (B4 P N2 H11) (B3 P N2 x0 x1 x5 H11)))))))))))))))
theorem q5 (P : PT) (N2 : NTy k1 Pr) : QD Tryz.prog T0 61 o5 [(0, false), (1, false), (2, false), (3, false), (4, false), (5, false), (6, false), (7, false), (8, false), (9, false), (10, false), (11, false), (12, false), (13, false), (14, false), (15, false), (16, false), (17, false), (18, false), (19, false), (20, false), (21, false), (22, false), (23, false), (24, false), (25, false), (26, false), (27, false), (28, false), (29, false), (30, false), (31, false), (32, false)] (cnd 60 (En 61 k0 (B4 P N2)) (En 61 k1 (B3 P N2))) k1 (B5 P N2) := fun _ _ _ _ _  => by kernel_rfl
noncomputable def o6 := ob Tryz.f144 [.r,.r,.l,.r,.l,.l,.l,.l]
def B6 (P : PT) (N2 : NTy k1 Pr) (x0 : Int) (x1 : Value) (x5 : Int) (H : AHeap) : Prop :=
  lenK x1 (fun n1 => pif (decide ((x5 : Int) < (n1 : Int))) (B5 P N2 x0 x1 x5 H) (B1 P H))
theorem q6 (P : PT) (N2 : NTy k1 Pr) : QB Tryz.prog T0 61 o6 (cnd 25 (En 61 k1 (B5 P N2)) (En 61 k0 (B1 P))) k1 (B6 P N2) := fun _ _ _ _ _  => by kernel_rfl
def L2 (P : PT) (x0 : Int) (x1 : Value) (x5 : Int) (H : AHeap) : Prop :=
  ∃ (I : NTy k1 Pr) (μ : NTy k1 (AHeap → Nat)), I x0 x1 x5 H ∧ ∀ y0 y1 y5 G, I y0 y1 y5 G → B6 P (fun z0 z1 z5 G' => I z0 z1 z5 G' ∧ μ z0 z1 z5 G' < μ y0 y1 y5 G) y0 y1 y5 G
theorem l2 (P : PT) : LQ k1 (L2 P) (B6 P) := fun ⟨_,_,_,_⟩ _ ⟨I, μ, h0, hI⟩ => ⟨apT _ I, apT _ μ, h0, fun ⟨_,_,_,_⟩ _ h => hI _ _ _ _  h⟩
abbrev k2 : Sk := [(0,.i .i64),(1,.v)]
noncomputable def o7 := ob Tryz.f144 [.r,.r,.l,.l]
def B7 (P : PT) (x0 : Int) (x1 : Value) (H : AHeap) : Prop :=
  L2 P x0 x1 0 H
theorem q7 (P : PT) : QB Tryz.prog T0 61 o7 (En 61 k1 (L2 P)) k2 (B7 P) := fun _ _ _ _  => by kernel_rfl
noncomputable def o8 := ob Tryz.f144 [.r,.l,.r,.l,.l]
def B8 (P : PT) (H : AHeap) : Prop :=
  P (Value.int .i64 2) H
theorem q8 (P : PT) : QB Tryz.prog T0 61 o8 (ret P) k0 (B8 P) := fun _ _  => by kernel_rfl
noncomputable def o9 := ob Tryz.f144 [.r,.l,.l]
def B9 (P : PT) (x0 : Int) (x1 : Value) (H : AHeap) : Prop :=
  AC Tryz.prog T0 85 [(Value.int .i64 x0), (Value.int .i64 2), (Value.int .i64 20)] H (fun v1 H2 => asB v1 (fun v3 => pif (!v3) (B8 P H2) (pif ((Int.tmod x0 2 : Int) != 0) (B8 P H2) (lenK x1 (fun n4 => pif (((n4 : Int) : Int) != (IntKind.i64.wrap (Int.tdiv (IntKind.i64.wrap (3 * x0)) 2))) (B8 P H2) (B7 P x0 x1 H2))))))
theorem q9 (P : PT) : QB Tryz.prog T0 61 o9 (cnd 21 (En 61 k0 (B8 P)) (En 61 k2 (B7 P))) k2 (B9 P) := fun _ _ _ _  => by kernel_rfl
noncomputable def o10 := ob Tryz.f144 [.l]
def B10 (P : PT) (x0 : Int) (x1 : Value) (H : AHeap) : Prop :=
  B9 P x0 x1 H
theorem q10 (P : PT) : QB Tryz.prog T0 61 o10 (En 61 k2 (B9 P)) k2 (B10 P) := fun _ _ _ _  => by kernel_rfl
noncomputable def code : Code := (.seq (.region 0 ⟨o10⟩ false) (.seq (.seq (.region 1 ⟨o9⟩ false) (.cond (.tmp 21) (.seq (.region 2 ⟨o8⟩ false) .ret) .skip)) (.seq (.seq (.region 3 ⟨o7⟩ false) (.block 0 (.loop (.seq (.seq (.region 4 ⟨o6⟩ false) (.cond (.tmp 25) .skip (.exit 0))) (.seq (.block 1 (.seq (.region 6 ⟨o5⟩ true) (.cond (.tmp 60) (.seq (.region 7 ⟨o4⟩ false) .ret) .skip))) (.region 5 ⟨o3⟩ false)))))) (.seq (.region 8 ⟨o1⟩ false) .ret))))
theorem body : Tryz.f144.body = some code := by kernel_rfl
theorem main (P : PT) : ∀ env H, (En 61 k2 (B10 P)) env H → AW Tryz.prog T0 code env H (mkQ (ret P) (fun _ _ _ => False) (ret P)) :=
  (r_seq (rB T0_ok (q10 P)) (r_seq (r_seq (rB T0_ok (q9 P)) (r_cond rfl (r_seq (rB T0_ok (q8 P)) r_ret) r_skip)) (r_seq (r_seq (rB T0_ok (q7 P)) (r_block (rL (l2 P) (fun N2 => (r_seq (r_seq (rB T0_ok (q6 P N2)) (r_cond rfl r_skip (r_exit (fun _ _ h => h)))) (r_seq (r_block (r_seq (rD T0_ok mixed [(0, false), (1, false), (2, false), (3, false), (4, false), (5, false), (6, false), (7, false), (8, false), (9, false), (10, false), (11, false), (12, false), (13, false), (14, false), (15, false), (16, false), (17, false), (18, false), (19, false), (20, false), (21, false), (22, false), (23, false), (24, false), (25, false), (26, false), (27, false), (28, false), (29, false), (30, false), (31, false), (32, false)] (by kernel_rfl) (q5 P N2)) (r_cond rfl (r_seq (rB T0_ok (q4 P N2)) r_ret) r_skip))) (rB T0_ok (q3 P N2)))))))) (r_seq (rB T0_ok (q1 P)) r_ret))))
theorem ac (P : PT) (x0 : Int) (x1 : Value) (H : AHeap) (h : B10 P x0 x1 H) : AC Tryz.prog T0 144 [(Value.int .i64 x0), x1] H P :=
  r_fn T0_ok (c := code) (n := 61) Tryz.func144 body (by kernel_rfl) (main P) (En_mk (x0, x1, ()) (by kernel_rfl) ⟨by kernel_rfl, by kernel_rfl, trivial⟩ h)

end F144
-- loop.example/g01329/spec.l01Cubic
namespace F145
noncomputable def ret (P : PT) : EP := retE T0 46 Tryz.f145 P
abbrev k0 : Sk := []
noncomputable def o1 := ob Tryz.f145 [.r,.r,.r,.r,.l]
def B1 (P : PT) (H : AHeap) : Prop :=
  P (Value.bool true) H
theorem q1 (P : PT) : QB Tryz.prog T0 46 o1 (ret P) k0 (B1 P) := fun _ _  => by kernel_rfl
abbrev k1 : Sk := [(0,.i .i64),(5,.v),(7,.i .i64)]
noncomputable def o3 := ob Tryz.f145 [.r,.r,.r,.l,.r,.l,.l,.r,.r]
def B3 (P : PT) (N2 : NTy k1 Pr) (x0 : Int) (x5 : Value) (x7 : Int) (H : AHeap) : Prop :=
  N2 x0 x5 (IntKind.i64.wrap (x7 + 1)) H
theorem q3 (P : PT) (N2 : NTy k1 Pr) : QB Tryz.prog T0 46 o3 (En 46 k1 N2) k1 (B3 P N2) := fun _ _ _ _ _  => by kernel_rfl
noncomputable def o4 := ob Tryz.f145 [.r,.r,.r,.l,.r,.l,.l,.r,.l,.l,.r,.l,.l]
def B4 (P : PT) (N2 : NTy k1 Pr) (H : AHeap) : Prop :=
  P (Value.bool false) H
theorem q4 (P : PT) (N2 : NTy k1 Pr) : QB Tryz.prog T0 46 o4 (ret P) k0 (B4 P N2) := fun _ _  => by kernel_rfl
noncomputable def o5 := ob Tryz.f145 [.r,.r,.r,.l,.r,.l,.l,.r,.l,.l,.l]
def B5 (P : PT) (N2 : NTy k1 Pr) (x0 : Int) (x5 : Value) (x7 : Int) (H : AHeap) : Prop :=
  idxK x5 x7 1 (fun b1 o2 => ldI .i64 H b1 o2 (fun v3 => pif ((v3 : Int) != 3) (B4 P N2 H) (B3 P N2 x0 x5 x7 H)))
theorem q5 (P : PT) (N2 : NTy k1 Pr) : QB Tryz.prog T0 46 o5 (cnd 45 (En 46 k0 (B4 P N2)) (En 46 k1 (B3 P N2))) k1 (B5 P N2) := fun _ _ _ _ _  => by kernel_rfl
noncomputable def o6 := ob Tryz.f145 [.r,.r,.r,.l,.r,.l,.l,.l,.l]
def B6 (P : PT) (N2 : NTy k1 Pr) (x0 : Int) (x5 : Value) (x7 : Int) (H : AHeap) : Prop :=
  pif (decide ((x7 : Int) < x0)) (B5 P N2 x0 x5 x7 H) (B1 P H)
theorem q6 (P : PT) (N2 : NTy k1 Pr) : QB Tryz.prog T0 46 o6 (cnd 38 (En 46 k1 (B5 P N2)) (En 46 k0 (B1 P))) k1 (B6 P N2) := fun _ _ _ _ _  => by kernel_rfl
def L2 (P : PT) (x0 : Int) (x5 : Value) (x7 : Int) (H : AHeap) : Prop :=
  ∃ (I : NTy k1 Pr) (μ : NTy k1 (AHeap → Nat)), I x0 x5 x7 H ∧ ∀ y0 y5 y7 G, I y0 y5 y7 G → B6 P (fun z0 z5 z7 G' => I z0 z5 z7 G' ∧ μ z0 z5 z7 G' < μ y0 y5 y7 G) y0 y5 y7 G
theorem l2 (P : PT) : LQ k1 (L2 P) (B6 P) := fun ⟨_,_,_,_⟩ _ ⟨I, μ, h0, hI⟩ => ⟨apT _ I, apT _ μ, h0, fun ⟨_,_,_,_⟩ _ h => hI _ _ _ _  h⟩
abbrev k2 : Sk := [(0,.i .i64),(5,.v)]
noncomputable def o7 := ob Tryz.f145 [.r,.r,.r,.l,.l]
def B7 (P : PT) (x0 : Int) (x5 : Value) (H : AHeap) : Prop :=
  L2 P x0 x5 0 H
theorem q7 (P : PT) : QB Tryz.prog T0 46 o7 (En 46 k1 (L2 P)) k2 (B7 P) := fun _ _ _ _  => by kernel_rfl
abbrev k3 : Sk := [(0,.i .i64),(1,.v),(5,.v),(6,.i .i64)]
noncomputable def o9 := ob Tryz.f145 [.r,.r,.l,.r,.l,.l,.r,.r]
def B9 (P : PT) (N8 : NTy k3 Pr) (x0 : Int) (x1 x5 : Value) (x6 : Int) (H : AHeap) : Prop :=
  N8 x0 x1 x5 (IntKind.i64.wrap (x6 + 1)) H
theorem q9 (P : PT) (N8 : NTy k3 Pr) : QB Tryz.prog T0 46 o9 (En 46 k3 N8) k3 (B9 P N8) := fun _ _ _ _ _ _  => by kernel_rfl
noncomputable def o10 := ob Tryz.f145 [.r,.r,.l,.r,.l,.l,.r,.l,.l,.r]
def B10 (P : PT) (N8 : NTy k3 Pr) (x0 : Int) (x1 x5 : Value) (x6 : Int) (H : AHeap) : Prop :=
  idxK x1 x6 2 (fun b1 o2 => ldI .i64 H b1 (o2 + 1) (fun v3 => idxK x5 v3 1 (fun b4 o5 => ldI .i64 H b4 o5 (fun v6 => idxK x5 v3 1 (fun b7 o8 => stK H b7 o8 [(Value.int .i64 (IntKind.i64.wrap (v6 + 1)))] (fun H9 => B9 P N8 x0 x1 x5 x6 H9))))))
theorem q10 (P : PT) (N8 : NTy k3 Pr) : QB Tryz.prog T0 46 o10 (En 46 k3 (B9 P N8)) k3 (B10 P N8) := fun _ _ _ _ _ _  => by kernel_rfl
noncomputable def o11 := ob Tryz.f145 [.r,.r,.l,.r,.l,.l,.r,.l,.l,.l]
def B11 (P : PT) (N8 : NTy k3 Pr) (x0 : Int) (x1 x5 : Value) (x6 : Int) (H : AHeap) : Prop :=
  idxK x1 x6 2 (fun b1 o2 => ldI .i64 H b1 o2 (fun v3 => idxK x5 v3 1 (fun b4 o5 => ldI .i64 H b4 o5 (fun v6 => idxK x5 v3 1 (fun b7 o8 => stK H b7 o8 [(Value.int .i64 (IntKind.i64.wrap (v6 + 1)))] (fun H9 => B10 P N8 x0 x1 x5 x6 H9))))))
theorem q11 (P : PT) (N8 : NTy k3 Pr) : QB Tryz.prog T0 46 o11 (En 46 k3 (B10 P N8)) k3 (B11 P N8) := fun _ _ _ _ _ _  => by kernel_rfl
noncomputable def o12 := ob Tryz.f145 [.r,.r,.l,.r,.l,.l,.l,.l]
def B12 (P : PT) (N8 : NTy k3 Pr) (x0 : Int) (x1 x5 : Value) (x6 : Int) (H : AHeap) : Prop :=
  lenK x1 (fun n1 => pif (decide ((x6 : Int) < (n1 : Int))) (B11 P N8 x0 x1 x5 x6 H) (B7 P x0 x5 H))
theorem q12 (P : PT) (N8 : NTy k3 Pr) : QB Tryz.prog T0 46 o12 (cnd 13 (En 46 k3 (B11 P N8)) (En 46 k2 (B7 P))) k3 (B12 P N8) := fun _ _ _ _ _ _  => by kernel_rfl
def L8 (P : PT) (x0 : Int) (x1 x5 : Value) (x6 : Int) (H : AHeap) : Prop :=
  ∃ (I : NTy k3 Pr) (μ : NTy k3 (AHeap → Nat)), I x0 x1 x5 x6 H ∧ ∀ y0 y1 y5 y6 G, I y0 y1 y5 y6 G → B12 P (fun z0 z1 z5 z6 G' => I z0 z1 z5 z6 G' ∧ μ z0 z1 z5 z6 G' < μ y0 y1 y5 y6 G) y0 y1 y5 y6 G
theorem l8 (P : PT) : LQ k3 (L8 P) (B12 P) := fun ⟨_,_,_,_,_⟩ _ ⟨I, μ, h0, hI⟩ => ⟨apT _ I, apT _ μ, h0, fun ⟨_,_,_,_,_⟩ _ h => hI _ _ _ _ _  h⟩
abbrev k4 : Sk := [(0,.i .i64),(1,.v),(5,.v)]
noncomputable def o13 := ob Tryz.f145 [.r,.r,.l,.l]
def B13 (P : PT) (x0 : Int) (x1 x5 : Value) (H : AHeap) : Prop :=
  L8 P x0 x1 x5 0 H
theorem q13 (P : PT) : QB Tryz.prog T0 46 o13 (En 46 k3 (L8 P)) k4 (B13 P) := fun _ _ _ _ _  => by kernel_rfl
abbrev k5 : Sk := [(0,.i .i64),(1,.v)]
noncomputable def o14 := ob Tryz.f145 [.r,.l]
def B14 (P : PT) (x0 : Int) (x1 : Value) (H : AHeap) : Prop :=
  mkR H 8 2 [(Value.int .i64 0)] x0 x0 (fun v2 H1 => B13 P x0 x1 v2 H1)
theorem q14 (P : PT) : QB Tryz.prog T0 46 o14 (En 46 k4 (B13 P)) k5 (B14 P) := fun _ _ _ _  => by kernel_rfl
noncomputable def o15 := ob Tryz.f145 [.l]
def B15 (P : PT) (x0 : Int) (x1 : Value) (H : AHeap) : Prop :=
  B14 P x0 x1 H
theorem q15 (P : PT) : QB Tryz.prog T0 46 o15 (En 46 k5 (B14 P)) k5 (B15 P) := fun _ _ _ _  => by kernel_rfl
noncomputable def code : Code := (.seq (.region 0 ⟨o15⟩ false) (.seq (.region 1 ⟨o14⟩ false) (.seq (.seq (.region 2 ⟨o13⟩ false) (.block 0 (.loop (.seq (.seq (.region 3 ⟨o12⟩ false) (.cond (.tmp 13) .skip (.exit 0))) (.seq (.block 1 (.seq (.region 5 ⟨o11⟩ false) (.region 6 ⟨o10⟩ false))) (.region 4 ⟨o9⟩ false)))))) (.seq (.seq (.region 7 ⟨o7⟩ false) (.block 2 (.loop (.seq (.seq (.region 8 ⟨o6⟩ false) (.cond (.tmp 38) .skip (.exit 2))) (.seq (.block 3 (.seq (.region 10 ⟨o5⟩ false) (.cond (.tmp 45) (.seq (.region 11 ⟨o4⟩ false) .ret) .skip))) (.region 9 ⟨o3⟩ false)))))) (.seq (.region 12 ⟨o1⟩ false) .ret)))))
theorem body : Tryz.f145.body = some code := by kernel_rfl
theorem main (P : PT) : ∀ env H, (En 46 k5 (B15 P)) env H → AW Tryz.prog T0 code env H (mkQ (ret P) (fun _ _ _ => False) (ret P)) :=
  (r_seq (rB T0_ok (q15 P)) (r_seq (rB T0_ok (q14 P)) (r_seq (r_seq (rB T0_ok (q13 P)) (r_block (rL (l8 P) (fun N8 => (r_seq (r_seq (rB T0_ok (q12 P N8)) (r_cond rfl r_skip (r_exit (fun _ _ h => h)))) (r_seq (r_block (r_seq (rB T0_ok (q11 P N8)) (rB T0_ok (q10 P N8)))) (rB T0_ok (q9 P N8)))))))) (r_seq (r_seq (rB T0_ok (q7 P)) (r_block (rL (l2 P) (fun N2 => (r_seq (r_seq (rB T0_ok (q6 P N2)) (r_cond rfl r_skip (r_exit (fun _ _ h => h)))) (r_seq (r_block (r_seq (rB T0_ok (q5 P N2)) (r_cond rfl (r_seq (rB T0_ok (q4 P N2)) r_ret) r_skip))) (rB T0_ok (q3 P N2)))))))) (r_seq (rB T0_ok (q1 P)) r_ret)))))
theorem ac (P : PT) (x0 : Int) (x1 : Value) (H : AHeap) (h : B15 P x0 x1 H) : AC Tryz.prog T0 145 [(Value.int .i64 x0), x1] H P :=
  r_fn T0_ok (c := code) (n := 46) Tryz.func145 body (by kernel_rfl) (main P) (En_mk (x0, x1, ()) (by kernel_rfl) ⟨by kernel_rfl, by kernel_rfl, trivial⟩ h)

end F145
-- loop.example/g01329/spec.l01Before
namespace F146
noncomputable def ret (P : PT) : EP := retE T0 24 Tryz.f146 P
abbrev k0 : Sk := [(2,.x),(3,.x)]
noncomputable def o1 := ob Tryz.f146 [.r,.l]
def B1 (P : PT) (x2 x3 : Nat) (H : AHeap) : Prop :=
  ldI .i64 H x2 0 (fun v1 => ldI .i64 H x3 0 (fun v2 => pif (decide ((v1 : Int) < v2)) (P (Value.bool true) H) (ldI .i64 H x2 0 (fun v3 => ldI .i64 H x3 0 (fun v4 => pif ((v3 : Int) == v4) (ldI .i64 H x2 1 (fun v5 => ldI .i64 H x3 1 (fun v6 => P (Value.bool (decide ((v5 : Int) < v6))) H))) (P (Value.bool false) H))))))
theorem q1 (P : PT) : QB Tryz.prog T0 24 o1 (ret P) k0 (B1 P) := fun _ _ _ _  => by kernel_rfl
abbrev k1 : Sk := [(0,.g [.i,.i]),(1,.g [.i,.i])]
noncomputable def o2 := ob Tryz.f146 [.l]
def B2 (P : PT) (x0a x0b x1a x1b : Int) (H : AHeap) : Prop :=
  newK H [(Value.int .i64 x0a), (Value.int .i64 x0b)] 78 (fun b1 H2 => newK H2 [(Value.int .i64 x1a), (Value.int .i64 x1b)] 78 (fun b3 H4 => B1 P b1 b3 H4))
theorem q2 (P : PT) : QB Tryz.prog T0 24 o2 (En 24 k0 (B1 P)) k1 (B2 P) := fun _ _ _ _ _ _  => by kernel_rfl
noncomputable def code : Code := (.seq (.region 0 ⟨o2⟩ false) (.seq (.region 1 ⟨o1⟩ false) .ret))
theorem body : Tryz.f146.body = some code := by kernel_rfl
theorem main (P : PT) : ∀ env H, (En 24 k1 (B2 P)) env H → AW Tryz.prog T0 code env H (mkQ (ret P) (fun _ _ _ => False) (ret P)) :=
  (r_seq (rB T0_ok (q2 P)) (r_seq (rB T0_ok (q1 P)) r_ret))
theorem ac (P : PT) (x0a x0b x1a x1b : Int) (H : AHeap) (h : B2 P x0a x0b x1a x1b H) : AC Tryz.prog T0 146 [(Value.agg ⟨[(Value.int .i64 x0a), (Value.int .i64 x0b)]⟩), (Value.agg ⟨[(Value.int .i64 x1a), (Value.int .i64 x1b)]⟩)] H P :=
  r_fn T0_ok (c := code) (n := 24) Tryz.func146 body (by kernel_rfl) (main P) (En_mk (x0a, x0b, x1a, x1b, ()) (by kernel_rfl) ⟨by kernel_rfl, by kernel_rfl, trivial⟩ h)

end F146
-- (loop.example/g01329/impl.Graph).distances
namespace F155
noncomputable def ret (P : PT) : EP := retE T0 72 Tryz.f155 P
abbrev k0 : Sk := [(7,.v)]
noncomputable def o1 := ob Tryz.f155 [.r,.r,.r,.r,.l]
def B1 (P : PT) (x7 : Value) (H : AHeap) : Prop :=
  P x7 H
theorem q1 (P : PT) : QB Tryz.prog T0 72 o1 (ret P) k0 (B1 P) := fun _ _ _  => by kernel_rfl
abbrev k1 : Sk := [(2,.i .u64),(3,.x),(7,.v),(8,.v)]
noncomputable def o3 := ob Tryz.f155 [.r,.r,.r,.l,.r,.l,.l,.r,.r]
def B3 (P : PT) (N2 : NTy k1 Pr) (x2 : Int) (x3 : Nat) (x7 x8 : Value) (H : AHeap) : Prop :=
  sliceK H 2 x8 (some (Value.int .i64 1)) none 1 (fun v1 => N2 x2 x3 x7 v1 H)
theorem q3 (P : PT) (N2 : NTy k1 Pr) : QB Tryz.prog T0 72 o3 (En 72 k1 N2) k1 (B3 P N2) := fun _ _ _ _ _ _  => by kernel_rfl
abbrev k2 : Sk := [(2,.i .u64),(3,.x),(7,.v),(8,.v),(30,.v),(31,.i .i64),(32,.i .i64)]
noncomputable def o5 := ob Tryz.f155 [.r,.r,.r,.l,.r,.l,.l,.r,.l,.l,.r,.l,.l,.r,.r,.r]
def B5 (P : PT) (N2 : NTy k1 Pr) (N4 : NTy k2 Pr) (x2 : Int) (x3 : Nat) (x7 x8 x30 : Value) (x31 x32 : Int) (H : AHeap) : Prop :=
  N4 x2 x3 x7 x8 x30 x31 (IntKind.i64.wrap (x32 + 1)) H
theorem q5 (P : PT) (N2 : NTy k1 Pr) (N4 : NTy k2 Pr) : QB Tryz.prog T0 72 o5 (En 72 k2 N4) k2 (B5 P N2 N4) := fun _ _ _ _ _ _ _ _ _  => by kernel_rfl
abbrev k3 : Sk := [(2,.i .u64),(3,.x),(7,.v),(8,.v),(11,.i .i64),(30,.v),(31,.i .i64),(32,.i .i64)]
noncomputable def o6 := ob Tryz.f155 [.r,.r,.r,.l,.r,.l,.l,.r,.l,.l,.r,.l,.l,.r,.r,.l,.l,.r,.r,.r,.l,.r]
def B6 (P : PT) (N2 : NTy k1 Pr) (N4 : NTy k2 Pr) (x2 : Int) (x3 : Nat) (x7 x8 : Value) (x11 : Int) (x30 : Value) (x31 x32 : Int) (H : AHeap) : Prop :=
  newK H [(Value.int .i64 x11)] 2 (fun b1 H2 => apK T0 2 H2 x8 (Value.slice (some ⟨b1, 0, none⟩) 1 (1 + 1)) (fun v3 H4 => B5 P N2 N4 x2 x3 x7 v3 x30 x31 x32 H4))
theorem q6 (P : PT) (N2 : NTy k1 Pr) (N4 : NTy k2 Pr) : QB Tryz.prog T0 72 o6 (En 72 k2 (B5 P N2 N4)) k3 (B6 P N2 N4) := fun _ _ _ _ _ _ _ _ _ _  => by kernel_rfl
noncomputable def o7 := ob Tryz.f155 [.r,.r,.r,.l,.r,.l,.l,.r,.l,.l,.r,.l,.l,.r,.r,.l,.l,.r,.r,.r,.l,.l]
def B7 (P : PT) (N2 : NTy k1 Pr) (N4 : NTy k2 Pr) (x2 : Int) (x3 : Nat) (x7 x8 : Value) (x11 : Int) (x30 : Value) (x31 x32 : Int) (H : AHeap) : Prop :=
  idxK x8 0 1 (fun b1 o2 => ldI .i64 H b1 o2 (fun v3 => idxK x7 v3 1 (fun b4 o5 => ldI .i64 H b4 o5 (fun v6 => idxK x7 x11 1 (fun b7 o8 => stK H b7 o8 [(Value.int .i64 (IntKind.i64.wrap (v6 + 1)))] (fun H9 => B6 P N2 N4 x2 x3 x7 x8 x11 x30 x31 x32 H9))))))
theorem q7 (P : PT) (N2 : NTy k1 Pr) (N4 : NTy k2 Pr) : QB Tryz.prog T0 72 o7 (En 72 k3 (B6 P N2 N4)) k3 (B7 P N2 N4) := fun _ _ _ _ _ _ _ _ _ _  => by kernel_rfl
abbrev k4 : Sk := [(2,.i .u64),(3,.x),(7,.v),(8,.v),(10,.i .i64),(11,.i .i64),(30,.v),(31,.i .i64),(32,.i .i64)]
noncomputable def o8 := ob Tryz.f155 [.r,.r,.r,.l,.r,.l,.l,.r,.l,.l,.r,.l,.l,.r,.r,.l,.l,.r,.r,.l]
def B8 (P : PT) (N2 : NTy k1 Pr) (N4 : NTy k2 Pr) (x2 : Int) (x3 : Nat) (x7 x8 : Value) (x10 x11 : Int) (x30 : Value) (x31 x32 : Int) (H : AHeap) : Prop :=
  idxK x7 x11 1 (fun b1 o2 => ldI .i64 H b1 o2 (fun v3 => pif (decide ((v3 : Int) < 0)) (AC Tryz.prog T0 134 [(Value.int .u64 x2), (Value.int .i64 x10)] H (fun v4 H5 => asB v4 (fun v6 => pif (!v6) (B7 P N2 N4 x2 x3 x7 x8 x11 x30 x31 x32 H5) (B5 P N2 N4 x2 x3 x7 x8 x30 x31 x32 H5)))) (B5 P N2 N4 x2 x3 x7 x8 x30 x31 x32 H)))
theorem q8 (P : PT) (N2 : NTy k1 Pr) (N4 : NTy k2 Pr) : QB Tryz.prog T0 72 o8 (cnd 55 (En 72 k3 (B7 P N2 N4)) (En 72 k2 (B5 P N2 N4))) k4 (B8 P N2 N4) := fun _ _ _ _ _ _ _ _ _ _ _  => by kernel_rfl
abbrev k5 : Sk := [(2,.i .u64),(3,.x),(7,.v),(8,.v),(10,.i .i64),(30,.v),(31,.i .i64),(32,.i .i64)]
noncomputable def o9 := ob Tryz.f155 [.r,.r,.r,.l,.r,.l,.l,.r,.l,.l,.r,.l,.l,.r,.r,.l,.l,.r,.l]
def B9 (P : PT) (N2 : NTy k1 Pr) (N4 : NTy k2 Pr) (x2 : Int) (x3 : Nat) (x7 x8 : Value) (x10 : Int) (x30 : Value) (x31 x32 : Int) (H : AHeap) : Prop :=
  ld1 H x3 1 (fun v1 => idxK v1 x10 2 (fun b2 o3 => ldI .i64 H b2 o3 (fun v4 => ldI .i64 H b2 (o3 + 1) (fun v5 => idxK x8 0 1 (fun b6 o7 => ldI .i64 H b6 o7 (fun v8 => AC Tryz.prog T0 193 [(Value.agg ⟨[(Value.int .i64 v4), (Value.int .i64 v5)]⟩), (Value.int .i64 v8)] H (fun v9 H10 => asI .i64 v9 (fun v11 => B8 P N2 N4 x2 x3 x7 x8 x10 v11 x30 x31 x32 H10))))))))
theorem q9 (P : PT) (N2 : NTy k1 Pr) (N4 : NTy k2 Pr) : QD Tryz.prog T0 72 o9 [(0, false), (1, false), (2, false), (3, false), (4, false), (5, false), (6, false), (7, false), (8, false), (9, false)] (En 72 k4 (B8 P N2 N4)) k5 (B9 P N2 N4) := fun _ _ _ _ _ _ _ _ _ _  => by kernel_rfl
noncomputable def o10 := ob Tryz.f155 [.r,.r,.r,.l,.r,.l,.l,.r,.l,.l,.r,.l,.l,.r,.r,.l,.l,.l]
def B10 (P : PT) (N2 : NTy k1 Pr) (N4 : NTy k2 Pr) (x2 : Int) (x3 : Nat) (x7 x8 x30 : Value) (x31 x32 : Int) (H : AHeap) : Prop :=
  idxK x30 x32 1 (fun b1 o2 => ldI .i64 H b1 o2 (fun v3 => B9 P N2 N4 x2 x3 x7 x8 v3 x30 x31 x32 H))
theorem q10 (P : PT) (N2 : NTy k1 Pr) (N4 : NTy k2 Pr) : QB Tryz.prog T0 72 o10 (En 72 k5 (B9 P N2 N4)) k2 (B10 P N2 N4) := fun _ _ _ _ _ _ _ _ _  => by kernel_rfl
noncomputable def o11 := ob Tryz.f155 [.r,.r,.r,.l,.r,.l,.l,.r,.l,.l,.r,.l,.l,.l]
def B11 (P : PT) (N2 : NTy k1 Pr) (N4 : NTy k2 Pr) (x2 : Int) (x3 : Nat) (x7 x8 x30 : Value) (x31 x32 : Int) (H : AHeap) : Prop :=
  pif (decide ((x32 : Int) < x31)) (B10 P N2 N4 x2 x3 x7 x8 x30 x31 x32 H) (B3 P N2 x2 x3 x7 x8 H)
theorem q11 (P : PT) (N2 : NTy k1 Pr) (N4 : NTy k2 Pr) : QB Tryz.prog T0 72 o11 (cnd 33 (En 72 k2 (B10 P N2 N4)) (En 72 k1 (B3 P N2))) k2 (B11 P N2 N4) := fun _ _ _ _ _ _ _ _ _  => by kernel_rfl
def L4 (P : PT) (N2 : NTy k1 Pr) (x2 : Int) (x3 : Nat) (x7 x8 x30 : Value) (x31 x32 : Int) (H : AHeap) : Prop :=
  ∃ (I : NTy k2 Pr) (μ : NTy k2 (AHeap → Nat)), I x2 x3 x7 x8 x30 x31 x32 H ∧ ∀ y2 y3 y7 y8 y30 y31 y32 G, I y2 y3 y7 y8 y30 y31 y32 G → B11 P N2 (fun z2 z3 z7 z8 z30 z31 z32 G' => I z2 z3 z7 z8 z30 z31 z32 G' ∧ μ z2 z3 z7 z8 z30 z31 z32 G' < μ y2 y3 y7 y8 y30 y31 y32 G) y2 y3 y7 y8 y30 y31 y32 G
theorem l4 (P : PT) (N2 : NTy k1 Pr) : LQ k2 (L4 P N2) (B11 P N2) := fun ⟨_,_,_,_,_,_,_,_⟩ _ ⟨I, μ, h0, hI⟩ => ⟨apT _ I, apT _ μ, h0, fun ⟨_,_,_,_,_,_,_,_⟩ _ h => hI _ _ _ _ _ _ _ _  h⟩
noncomputable def o12 := ob Tryz.f155 [.r,.r,.r,.l,.r,.l,.l,.r,.l,.l,.l]
def B12 (P : PT) (N2 : NTy k1 Pr) (x2 : Int) (x3 : Nat) (x7 x8 : Value) (H : AHeap) : Prop :=
  ldI .i64 H x3 0 (fun v1 => ld1 H x3 1 (fun v2 => idxK x8 0 1 (fun b3 o4 => ldI .i64 H b3 o4 (fun v5 => AC Tryz.prog T0 161 [(Value.agg ⟨[(Value.int .i64 v1), v2]⟩), (Value.int .i64 v5)] H (fun v6 H7 => lenK v6 (fun n9 => L4 P N2 x2 x3 x7 x8 v6 (n9 : Int) 0 H7))))))
theorem q12 (P : PT) (N2 : NTy k1 Pr) : QD Tryz.prog T0 72 o12 [(0, false), (1, false), (2, false), (3, false), (6, false), (4, false), (5, false)] (En 72 k2 (L4 P N2)) k1 (B12 P N2) := fun _ _ _ _ _ _  => by kernel_rfl
noncomputable def o13 := ob Tryz.f155 [.r,.r,.r,.l,.r,.l,.l,.l,.l]
def B13 (P : PT) (N2 : NTy k1 Pr) (x2 : Int) (x3 : Nat) (x7 x8 : Value) (H : AHeap) : Prop :=
  lenK x8 (fun n1 => pif (decide (((n1 : Int) : Int) > 0)) (B12 P N2 x2 x3 x7 x8 H) (B1 P x7 H))
theorem q13 (P : PT) (N2 : NTy k1 Pr) : QB Tryz.prog T0 72 o13 (cnd 23 (En 72 k1 (B12 P N2)) (En 72 k0 (B1 P))) k1 (B13 P N2) := fun _ _ _ _ _ _  => by kernel_rfl
def L2 (P : PT) (x2 : Int) (x3 : Nat) (x7 x8 : Value) (H : AHeap) : Prop :=
  ∃ (I : NTy k1 Pr) (μ : NTy k1 (AHeap → Nat)), I x2 x3 x7 x8 H ∧ ∀ y2 y3 y7 y8 G, I y2 y3 y7 y8 G → B13 P (fun z2 z3 z7 z8 G' => I z2 z3 z7 z8 G' ∧ μ z2 z3 z7 z8 G' < μ y2 y3 y7 y8 G) y2 y3 y7 y8 G
theorem l2 (P : PT) : LQ k1 (L2 P) (B13 P) := fun ⟨_,_,_,_,_⟩ _ ⟨I, μ, h0, hI⟩ => ⟨apT _ I, apT _ μ, h0, fun ⟨_,_,_,_,_⟩ _ h => hI _ _ _ _ _  h⟩
abbrev k6 : Sk := [(1,.i .i64),(2,.i .u64),(3,.x),(7,.v)]
noncomputable def o14 := ob Tryz.f155 [.r,.r,.r,.l,.l]
def B14 (P : PT) (x1 x2 : Int) (x3 : Nat) (x7 : Value) (H : AHeap) : Prop :=
  newK H [(Value.int .i64 x1)] 2 (fun b1 H2 => L2 P x2 x3 x7 (Value.slice (some ⟨b1, 0, none⟩) 1 (1 + 1)) H2)
theorem q14 (P : PT) : QB Tryz.prog T0 72 o14 (En 72 k1 (L2 P)) k6 (B14 P) := fun _ _ _ _ _ _  => by kernel_rfl
noncomputable def o15 := ob Tryz.f155 [.r,.r,.l]
def B15 (P : PT) (x1 x2 : Int) (x3 : Nat) (x7 : Value) (H : AHeap) : Prop :=
  idxK x7 x1 1 (fun b1 o2 => stK H b1 o2 [(Value.int .i64 0)] (fun H3 => B14 P x1 x2 x3 x7 H3))
theorem q15 (P : PT) : QB Tryz.prog T0 72 o15 (En 72 k6 (B14 P)) k6 (B15 P) := fun _ _ _ _ _ _  => by kernel_rfl
abbrev k7 : Sk := [(1,.i .i64),(2,.i .u64),(3,.x)]
noncomputable def o16 := ob Tryz.f155 [.r,.l]
def B16 (P : PT) (x1 x2 : Int) (x3 : Nat) (H : AHeap) : Prop :=
  newK H [(Value.int .i64 (-1))] 2 (fun b1 H2 => ldI .i64 H2 x3 0 (fun v3 => AC Tryz.prog T0 192 [(Value.slice (some ⟨b1, 0, none⟩) 1 (1 + 1)), (Value.int .i64 v3)] H2 (fun v4 H5 => B15 P x1 x2 x3 v4 H5)))
theorem q16 (P : PT) : QB Tryz.prog T0 72 o16 (En 72 k6 (B15 P)) k7 (B16 P) := fun _ _ _ _ _  => by kernel_rfl
abbrev k8 : Sk := [(0,.g [.i,.v]),(1,.i .i64),(2,.i .u64)]
noncomputable def o17 := ob Tryz.f155 [.l]
def B17 (P : PT) (x0a : Int) (x0b : Value) (x1 x2 : Int) (H : AHeap) : Prop :=
  newK H [(Value.int .i64 x0a), x0b] 26 (fun b1 H2 => B16 P x1 x2 b1 H2)
theorem q17 (P : PT) : QB Tryz.prog T0 72 o17 (En 72 k7 (B16 P)) k8 (B17 P) := fun _ _ _ _ _ _  => by kernel_rfl
noncomputable def code : Code := (.seq (.region 0 ⟨o17⟩ false) (.seq (.region 1 ⟨o16⟩ false) (.seq (.region 2 ⟨o15⟩ false) (.seq (.seq (.region 3 ⟨o14⟩ false) (.block 0 (.loop (.seq (.seq (.region 4 ⟨o13⟩ false) (.cond (.tmp 23) .skip (.exit 0))) (.seq (.block 1 (.seq (.region 6 ⟨o12⟩ true) (.block 2 (.loop (.seq (.region 7 ⟨o11⟩ false) (.seq (.cond (.tmp 33) .skip (.exit 2)) (.seq (.block 3 (.seq (.region 8 ⟨o10⟩ false) (.seq (.region 9 ⟨o9⟩ true) (.seq (.region 10 ⟨o8⟩ false) (.cond (.tmp 55) (.seq (.region 11 ⟨o7⟩ false) (.region 12 ⟨o6⟩ false)) .skip))))) (.region 13 ⟨o5⟩ false)))))))) (.region 5 ⟨o3⟩ false)))))) (.seq (.region 14 ⟨o1⟩ false) .ret)))))
theorem body : Tryz.f155.body = some code := by kernel_rfl
theorem main (P : PT) : ∀ env H, (En 72 k8 (B17 P)) env H → AW Tryz.prog T0 code env H (mkQ (ret P) (fun _ _ _ => False) (ret P)) :=
  (r_seq (rB T0_ok (q17 P)) (r_seq (rB T0_ok (q16 P)) (r_seq (rB T0_ok (q15 P)) (r_seq (r_seq (rB T0_ok (q14 P)) (r_block (rL (l2 P) (fun N2 => (r_seq (r_seq (rB T0_ok (q13 P N2)) (r_cond rfl r_skip (r_exit (fun _ _ h => h)))) (r_seq (r_block (r_seq (rD T0_ok mixed [(0, false), (1, false), (2, false), (3, false), (6, false), (4, false), (5, false)] (by kernel_rfl) (q12 P N2)) (r_block (rL (l4 P N2) (fun N4 => (r_seq (rB T0_ok (q11 P N2 N4)) (r_seq (r_cond rfl r_skip (r_exit (fun _ _ h => h))) (r_seq (r_block (r_seq (rB T0_ok (q10 P N2 N4)) (r_seq (rD T0_ok mixed [(0, false), (1, false), (2, false), (3, false), (4, false), (5, false), (6, false), (7, false), (8, false), (9, false)] (by kernel_rfl) (q9 P N2 N4)) (r_seq (rB T0_ok (q8 P N2 N4)) (r_cond rfl (r_seq (rB T0_ok (q7 P N2 N4)) (rB T0_ok (q6 P N2 N4))) r_skip))))) (rB T0_ok (q5 P N2 N4)))))))))) (rB T0_ok (q3 P N2)))))))) (r_seq (rB T0_ok (q1 P)) r_ret)))))
theorem ac (P : PT) (x0a : Int) (x0b : Value) (x1 x2 : Int) (H : AHeap) (h : B17 P x0a x0b x1 x2 H) : AC Tryz.prog T0 155 [(Value.agg ⟨[(Value.int .i64 x0a), x0b]⟩), (Value.int .i64 x1), (Value.int .u64 x2)] H P :=
  r_fn T0_ok (c := code) (n := 72) Tryz.func155 body (by kernel_rfl) (main P) (En_mk (x0a, x0b, x1, x2, ()) (by kernel_rfl) ⟨by kernel_rfl, by kernel_rfl, by kernel_rfl, trivial⟩ h)

end F155
-- loop.example/g01329/spec.l07Before
namespace F157
noncomputable def ret (P : PT) : EP := retE T0 40 Tryz.f157 P
abbrev k0 : Sk := []
noncomputable def o1 := ob Tryz.f157 [.r,.r,.r,.l]
def B1 (P : PT) (H : AHeap) : Prop :=
  P (Value.bool false) H
theorem q1 (P : PT) : QB Tryz.prog T0 40 o1 (ret P) k0 (B1 P) := fun _ _  => by kernel_rfl
abbrev k1 : Sk := [(0,.v),(1,.v),(5,.i .i64)]
noncomputable def o3 := ob Tryz.f157 [.r,.r,.l,.r,.l,.l,.r,.r]
def B3 (P : PT) (N2 : NTy k1 Pr) (x0 x1 : Value) (x5 : Int) (H : AHeap) : Prop :=
  N2 x0 x1 (IntKind.i64.wrap (x5 + 1)) H
theorem q3 (P : PT) (N2 : NTy k1 Pr) : QB Tryz.prog T0 40 o3 (En 40 k1 N2) k1 (B3 P N2) := fun _ _ _ _ _  => by kernel_rfl
noncomputable def o4 := ob Tryz.f157 [.r,.r,.l,.r,.l,.l,.r,.l,.l,.r,.l,.l]
def B4 (P : PT) (N2 : NTy k1 Pr) (x0 x1 : Value) (x5 : Int) (H : AHeap) : Prop :=
  idxK x0 x5 1 (fun b1 o2 => ldI .i64 H b1 o2 (fun v3 => idxK x1 x5 1 (fun b4 o5 => ldI .i64 H b4 o5 (fun v6 => P (Value.bool (decide ((v3 : Int) < v6))) H))))
theorem q4 (P : PT) (N2 : NTy k1 Pr) : QD Tryz.prog T0 40 o4 [(0, false), (1, false), (2, false), (3, false), (4, false), (5, false), (6, false), (7, false), (8, false), (9, false)] (ret P) k1 (B4 P N2) := fun _ _ _ _ _  => by kernel_rfl
noncomputable def o5 := ob Tryz.f157 [.r,.r,.l,.r,.l,.l,.r,.l,.l,.l]
def B5 (P : PT) (N2 : NTy k1 Pr) (x0 x1 : Value) (x5 : Int) (H : AHeap) : Prop :=
  idxK x0 x5 1 (fun b1 o2 => ldI .i64 H b1 o2 (fun v3 => idxK x1 x5 1 (fun b4 o5 => ldI .i64 H b4 o5 (fun v6 => pif ((v3 : Int) != v6) (B4 P N2 x0 x1 x5 H) (B3 P N2 x0 x1 x5 H)))))
theorem q5 (P : PT) (N2 : NTy k1 Pr) : QD Tryz.prog T0 40 o5 [(0, false), (1, false), (2, false), (3, false), (4, false), (5, false), (6, false), (7, false), (8, false)] (cnd 30 (En 40 k1 (B4 P N2)) (En 40 k1 (B3 P N2))) k1 (B5 P N2) := fun _ _ _ _ _  => by kernel_rfl
noncomputable def o6 := ob Tryz.f157 [.r,.r,.l,.r,.l,.l,.l,.l]
def B6 (P : PT) (N2 : NTy k1 Pr) (x0 x1 : Value) (x5 : Int) (H : AHeap) : Prop :=
  lenK x0 (fun n1 => pif (decide ((x5 : Int) < (n1 : Int))) (B5 P N2 x0 x1 x5 H) (B1 P H))
theorem q6 (P : PT) (N2 : NTy k1 Pr) : QB Tryz.prog T0 40 o6 (cnd 19 (En 40 k1 (B5 P N2)) (En 40 k0 (B1 P))) k1 (B6 P N2) := fun _ _ _ _ _  => by kernel_rfl
def L2 (P : PT) (x0 x1 : Value) (x5 : Int) (H : AHeap) : Prop :=
  ∃ (I : NTy k1 Pr) (μ : NTy k1 (AHeap → Nat)), I x0 x1 x5 H ∧ ∀ y0 y1 y5 G, I y0 y1 y5 G → B6 P (fun z0 z1 z5 G' => I z0 z1 z5 G' ∧ μ z0 z1 z5 G' < μ y0 y1 y5 G) y0 y1 y5 G
theorem l2 (P : PT) : LQ k1 (L2 P) (B6 P) := fun ⟨_,_,_,_⟩ _ ⟨I, μ, h0, hI⟩ => ⟨apT _ I, apT _ μ, h0, fun ⟨_,_,_,_⟩ _ h => hI _ _ _ _  h⟩
abbrev k2 : Sk := [(0,.v),(1,.v)]
noncomputable def o7 := ob Tryz.f157 [.r,.r,.l,.l]
def B7 (P : PT) (x0 x1 : Value) (H : AHeap) : Prop :=
  L2 P x0 x1 0 H
theorem q7 (P : PT) : QB Tryz.prog T0 40 o7 (En 40 k1 (L2 P)) k2 (B7 P) := fun _ _ _ _  => by kernel_rfl
noncomputable def o8 := ob Tryz.f157 [.r,.l,.r,.l,.l]
def B8 (P : PT) (x0 x1 : Value) (H : AHeap) : Prop :=
  lenK x0 (fun n1 => lenK x1 (fun n2 => P (Value.bool (decide (((n1 : Int) : Int) < (n2 : Int)))) H))
theorem q8 (P : PT) : QB Tryz.prog T0 40 o8 (ret P) k2 (B8 P) := fun _ _ _ _  => by kernel_rfl
noncomputable def o9 := ob Tryz.f157 [.r,.l,.l]
def B9 (P : PT) (x0 x1 : Value) (H : AHeap) : Prop :=
  lenK x0 (fun n1 => lenK x1 (fun n2 => pif (((n1 : Int) : Int) != (n2 : Int)) (B8 P x0 x1 H) (B7 P x0 x1 H)))
theorem q9 (P : PT) : QB Tryz.prog T0 40 o9 (cnd 10 (En 40 k2 (B8 P)) (En 40 k2 (B7 P))) k2 (B9 P) := fun _ _ _ _  => by kernel_rfl
noncomputable def o10 := ob Tryz.f157 [.l]
def B10 (P : PT) (x0 x1 : Value) (H : AHeap) : Prop :=
  B9 P x0 x1 H
theorem q10 (P : PT) : QB Tryz.prog T0 40 o10 (En 40 k2 (B9 P)) k2 (B10 P) := fun _ _ _ _  => by kernel_rfl
noncomputable def code : Code := (.seq (.region 0 ⟨o10⟩ false) (.seq (.seq (.region 1 ⟨o9⟩ false) (.cond (.tmp 10) (.seq (.region 2 ⟨o8⟩ false) .ret) .skip)) (.seq (.seq (.region 3 ⟨o7⟩ false) (.block 0 (.loop (.seq (.seq (.region 4 ⟨o6⟩ false) (.cond (.tmp 19) .skip (.exit 0))) (.seq (.block 1 (.seq (.region 6 ⟨o5⟩ true) (.cond (.tmp 30) (.seq (.region 7 ⟨o4⟩ true) .ret) .skip))) (.region 5 ⟨o3⟩ false)))))) (.seq (.region 8 ⟨o1⟩ false) .ret))))
theorem body : Tryz.f157.body = some code := by kernel_rfl
theorem main (P : PT) : ∀ env H, (En 40 k2 (B10 P)) env H → AW Tryz.prog T0 code env H (mkQ (ret P) (fun _ _ _ => False) (ret P)) :=
  (r_seq (rB T0_ok (q10 P)) (r_seq (r_seq (rB T0_ok (q9 P)) (r_cond rfl (r_seq (rB T0_ok (q8 P)) r_ret) r_skip)) (r_seq (r_seq (rB T0_ok (q7 P)) (r_block (rL (l2 P) (fun N2 => (r_seq (r_seq (rB T0_ok (q6 P N2)) (r_cond rfl r_skip (r_exit (fun _ _ h => h)))) (r_seq (r_block (r_seq (rD T0_ok mixed [(0, false), (1, false), (2, false), (3, false), (4, false), (5, false), (6, false), (7, false), (8, false)] (by kernel_rfl) (q5 P N2)) (r_cond rfl (r_seq (rD T0_ok mixed [(0, false), (1, false), (2, false), (3, false), (4, false), (5, false), (6, false), (7, false), (8, false), (9, false)] (by kernel_rfl) (q4 P N2)) r_ret) r_skip))) (rB T0_ok (q3 P N2)))))))) (r_seq (rB T0_ok (q1 P)) r_ret))))
theorem ac (P : PT) (x0 x1 : Value) (H : AHeap) (h : B10 P x0 x1 H) : AC Tryz.prog T0 157 [x0, x1] H P :=
  r_fn T0_ok (c := code) (n := 40) Tryz.func157 body (by kernel_rfl) (main P) (En_mk (x0, x1, ()) (by kernel_rfl) ⟨by kernel_rfl, by kernel_rfl, trivial⟩ h)

end F157
-- loop.example/g01329/spec.l07Walk
namespace F158
noncomputable def ret (P : PT) : EP := retE T0 74 Tryz.f158 P
abbrev k0 : Sk := [(11,.v)]
noncomputable def o1 := ob Tryz.f158 [.r,.r,.r,.r,.l]
def B1 (P : PT) (x11 : Value) (H : AHeap) : Prop :=
  P x11 H
theorem q1 (P : PT) : QB Tryz.prog T0 74 o1 (ret P) k0 (B1 P) := fun _ _ _  => by kernel_rfl
abbrev k1 : Sk := [(1,.v),(2,.i .i64),(3,.i .i64),(4,.v),(5,.x),(11,.v),(12,.v),(13,.i .i64)]
noncomputable def o3 := ob Tryz.f158 [.r,.r,.r,.l,.r,.l,.l,.r,.r]
def B3 (P : PT) (N2 : NTy k1 Pr) (x1 : Value) (x2 x3 : Int) (x4 : Value) (x5 : Nat) (x11 x12 : Value) (x13 : Int) (H : AHeap) : Prop :=
  N2 x1 x2 x3 x4 x5 x11 x12 (IntKind.i64.wrap (x13 + 1)) H
theorem q3 (P : PT) (N2 : NTy k1 Pr) : QB Tryz.prog T0 74 o3 (En 74 k1 N2) k1 (B3 P N2) := fun _ _ _ _ _ _ _ _ _ _  => by kernel_rfl
abbrev k2 : Sk := [(1,.v),(2,.i .i64),(3,.i .i64),(4,.v),(5,.x),(11,.v),(12,.v),(13,.i .i64),(14,.i .i64)]
noncomputable def o4 := ob Tryz.f158 [.r,.r,.r,.l,.r,.l,.l,.r,.l,.l,.r,.r,.r,.r]
def B4 (P : PT) (N2 : NTy k1 Pr) (x1 : Value) (x2 x3 : Int) (x4 : Value) (x5 : Nat) (x11 x12 : Value) (x13 x14 : Int) (H : AHeap) : Prop :=
  idxK x4 x14 1 (fun b1 o2 => stK H b1 o2 [(Value.bool false)] (fun H3 => B3 P N2 x1 x2 x3 x4 x5 x11 x12 x13 H3))
theorem q4 (P : PT) (N2 : NTy k1 Pr) : QB Tryz.prog T0 74 o4 (En 74 k1 (B3 P N2)) k2 (B4 P N2) := fun _ _ _ _ _ _ _ _ _ _ _  => by kernel_rfl
noncomputable def o5 := ob Tryz.f158 [.r,.r,.r,.l,.r,.l,.l,.r,.l,.l,.r,.r,.r,.l]
def B5 (P : PT) (N2 : NTy k1 Pr) (x1 : Value) (x2 x3 : Int) (x4 : Value) (x5 : Nat) (x11 x12 : Value) (x13 x14 : Int) (H : AHeap) : Prop :=
  ldI .i64 H x5 0 (fun v1 => ld1 H x5 1 (fun v2 => idxK x12 x13 1 (fun b3 o4 => ldI .i64 H b3 o4 (fun v5 => (AC Tryz.prog T0 138 [x1] H (fun v6 H7 => (ldI .i64 H7 x5 0 (fun v9 => ld1 H7 x5 1 (fun v10 => ((Value.agg ⟨[(Value.int .i64 v9), v10]⟩) = (Value.agg ⟨[(Value.int .i64 v1), v2]⟩)) ∧ (H7 = H7)))) ∧ ((ldI .i64 H7 b3 o4 (fun v11 => ((Value.int .i64 v11) = (Value.int .i64 v5)) ∧ (H7 = H7))) ∧ (newK H7 [(Value.int .i64 v5)] 2 (fun b12 H13 => apK T0 2 H13 v6 (Value.slice (some ⟨b12, 0, none⟩) 1 (1 + 1)) (fun v14 H15 => (ldI .i64 H15 x5 0 (fun v16 => ld1 H15 x5 1 (fun v17 => ((Value.agg ⟨[(Value.int .i64 v16), v17]⟩) = (Value.agg ⟨[(Value.int .i64 v1), v2]⟩)) ∧ (H15 = H15)))) ∧ (AC Tryz.prog T0 158 [(Value.agg ⟨[(Value.int .i64 v1), v2]⟩), v14, (Value.int .i64 x14), (Value.int .i64 x3), x4] H15 (fun v18 H19 => apK T0 28 H19 x11 v18 (fun v21 H22 => B4 P N2 x1 x2 x3 x4 x5 v21 x12 x13 x14 H22))))))))) ∧ (newK H [(Value.int .i64 v5)] 2 (fun b23 H24 => AC Tryz.prog T0 138 [x1] H24 (fun v25 H26 => (ldI .i64 H26 x5 0 (fun v28 => ld1 H26 x5 1 (fun v29 => ((Value.agg ⟨[(Value.int .i64 v28), v29]⟩) = (Value.agg ⟨[(Value.int .i64 v1), v2]⟩)) ∧ (H26 = H26)))) ∧ ((ldI .i64 H26 b3 o4 (fun v30 => ((Value.int .i64 v30) = (Value.int .i64 v5)) ∧ (H26 = H26))) ∧ (apK T0 2 H26 v25 (Value.slice (some ⟨b23, 0, none⟩) 1 (1 + 1)) (fun v31 H32 => (ldI .i64 H32 x5 0 (fun v33 => ld1 H32 x5 1 (fun v34 => ((Value.agg ⟨[(Value.int .i64 v33), v34]⟩) = (Value.agg ⟨[(Value.int .i64 v1), v2]⟩)) ∧ (H32 = H32)))) ∧ (AC Tryz.prog T0 158 [(Value.agg ⟨[(Value.int .i64 v1), v2]⟩), v31, (Value.int .i64 x14), (Value.int .i64 x3), x4] H32 (fun v35 H36 => apK T0 28 H36 x11 v35 (fun v38 H39 => B4 P N2 x1 x2 x3 x4 x5 v38 x12 x13 x14 H39)))))))))))))
theorem q5 (P : PT) (N2 : NTy k1 Pr) : QT Tryz.prog T0 74 o5 (.op 0 [] (.op 1 [] (.op 2 [] (.op 4 [] (.op 5 [] (.op 6 [] (.op 7 [] (.op 10 [] (.op 11 [] (.op 12 [] (.alt (.op 3 [1, 7] (.op 8 [] (.op 9 [1] (.op 13 [] (.op 14 [] (.op 15 [] .done)))))) (.op 8 [] (.op 3 [1, 7] (.op 9 [1] (.op 13 [] (.op 14 [] (.op 15 [] .done))))))))))))))))) (En 74 k2 (B4 P N2)) k2 (B5 P N2) := fun _ _ _ _ _ _ _ _ _ _ _  => by kernel_rfl
noncomputable def o6 := ob Tryz.f158 [.r,.r,.r,.l,.r,.l,.l,.r,.l,.l,.r,.r,.l]
def B6 (P : PT) (N2 : NTy k1 Pr) (x1 : Value) (x2 x3 : Int) (x4 : Value) (x5 : Nat) (x11 x12 : Value) (x13 x14 : Int) (H : AHeap) : Prop :=
  idxK x4 x14 1 (fun b1 o2 => stK H b1 o2 [(Value.bool true)] (fun H3 => B5 P N2 x1 x2 x3 x4 x5 x11 x12 x13 x14 H3))
theorem q6 (P : PT) (N2 : NTy k1 Pr) : QB Tryz.prog T0 74 o6 (En 74 k2 (B5 P N2)) k2 (B6 P N2) := fun _ _ _ _ _ _ _ _ _ _ _  => by kernel_rfl
noncomputable def o7 := ob Tryz.f158 [.r,.r,.r,.l,.r,.l,.l,.r,.l,.l,.r,.l,.l]
def B7 (P : PT) (N2 : NTy k1 Pr) (x1 : Value) (x2 x3 : Int) (x4 : Value) (x5 : Nat) (x11 x12 : Value) (x13 x14 : Int) (H : AHeap) : Prop :=
  idxK x12 x13 1 (fun b1 o2 => ldI .i64 H b1 o2 (fun v3 => idxK x1 0 1 (fun b4 o5 => ldI .i64 H b4 o5 (fun v6 => pif (decide ((v3 : Int) ≤ v6)) (B3 P N2 x1 x2 x3 x4 x5 x11 x12 x13 H) (idxK x4 x14 1 (fun b7 o8 => ld1 H b7 o8 (fun v10 => asB v10 (fun v9 => pif v9 (B3 P N2 x1 x2 x3 x4 x5 x11 x12 x13 H) (B6 P N2 x1 x2 x3 x4 x5 x11 x12 x13 x14 H)))))))))
theorem q7 (P : PT) (N2 : NTy k1 Pr) : QD Tryz.prog T0 74 o7 [(0, false), (1, false), (2, false), (3, false), (4, false), (5, false), (6, false), (7, false), (8, false), (9, false), (10, false), (11, false), (12, false), (13, false)] (cnd 51 (En 74 k1 (B3 P N2)) (En 74 k2 (B6 P N2))) k2 (B7 P N2) := fun _ _ _ _ _ _ _ _ _ _ _  => by kernel_rfl
noncomputable def o8 := ob Tryz.f158 [.r,.r,.r,.l,.r,.l,.l,.r,.l,.l,.l]
def B8 (P : PT) (N2 : NTy k1 Pr) (x1 : Value) (x2 x3 : Int) (x4 : Value) (x5 : Nat) (x11 x12 : Value) (x13 : Int) (H : AHeap) : Prop :=
  ldI .i64 H x5 0 (fun v1 => ld1 H x5 1 (fun v2 => idxK x12 x13 1 (fun b3 o4 => ldI .i64 H b3 o4 (fun v5 => AC Tryz.prog T0 191 [(Value.agg ⟨[(Value.int .i64 v1), v2]⟩), (Value.int .i64 v5), (Value.int .i64 x2)] H (fun v6 H7 => asI .i64 v6 (fun v8 => B7 P N2 x1 x2 x3 x4 x5 x11 x12 x13 v8 H7))))))
theorem q8 (P : PT) (N2 : NTy k1 Pr) : QD Tryz.prog T0 74 o8 [(0, false), (1, false), (2, false), (3, false), (4, false), (5, false), (6, false), (7, false)] (En 74 k2 (B7 P N2)) k1 (B8 P N2) := fun _ _ _ _ _ _ _ _ _ _  => by kernel_rfl
noncomputable def o9 := ob Tryz.f158 [.r,.r,.r,.l,.r,.l,.l,.l,.l]
def B9 (P : PT) (N2 : NTy k1 Pr) (x1 : Value) (x2 x3 : Int) (x4 : Value) (x5 : Nat) (x11 x12 : Value) (x13 : Int) (H : AHeap) : Prop :=
  lenK x12 (fun n1 => pif (decide ((x13 : Int) < (n1 : Int))) (B8 P N2 x1 x2 x3 x4 x5 x11 x12 x13 H) (B1 P x11 H))
theorem q9 (P : PT) (N2 : NTy k1 Pr) : QB Tryz.prog T0 74 o9 (cnd 28 (En 74 k1 (B8 P N2)) (En 74 k0 (B1 P))) k1 (B9 P N2) := fun _ _ _ _ _ _ _ _ _ _  => by kernel_rfl
def L2 (P : PT) (x1 : Value) (x2 x3 : Int) (x4 : Value) (x5 : Nat) (x11 x12 : Value) (x13 : Int) (H : AHeap) : Prop :=
  ∃ (I : NTy k1 Pr) (μ : NTy k1 (AHeap → Nat)), I x1 x2 x3 x4 x5 x11 x12 x13 H ∧ ∀ y1 y2 y3 y4 y5 y11 y12 y13 G, I y1 y2 y3 y4 y5 y11 y12 y13 G → B9 P (fun z1 z2 z3 z4 z5 z11 z12 z13 G' => I z1 z2 z3 z4 z5 z11 z12 z13 G' ∧ μ z1 z2 z3 z4 z5 z11 z12 z13 G' < μ y1 y2 y3 y4 y5 y11 y12 y13 G) y1 y2 y3 y4 y5 y11 y12 y13 G
theorem l2 (P : PT) : LQ k1 (L2 P) (B9 P) := fun ⟨_,_,_,_,_,_,_,_,_⟩ _ ⟨I, μ, h0, hI⟩ => ⟨apT _ I, apT _ μ, h0, fun ⟨_,_,_,_,_,_,_,_,_⟩ _ h => hI _ _ _ _ _ _ _ _ _  h⟩
abbrev k3 : Sk := [(1,.v),(2,.i .i64),(3,.i .i64),(4,.v),(5,.x),(11,.v),(12,.v)]
noncomputable def o10 := ob Tryz.f158 [.r,.r,.r,.l,.l]
def B10 (P : PT) (x1 : Value) (x2 x3 : Int) (x4 : Value) (x5 : Nat) (x11 x12 : Value) (H : AHeap) : Prop :=
  L2 P x1 x2 x3 x4 x5 x11 x12 0 H
theorem q10 (P : PT) : QB Tryz.prog T0 74 o10 (En 74 k1 (L2 P)) k3 (B10 P) := fun _ _ _ _ _ _ _ _ _  => by kernel_rfl
abbrev k4 : Sk := [(1,.v),(2,.i .i64),(3,.i .i64),(4,.v),(5,.x)]
noncomputable def o11 := ob Tryz.f158 [.r,.r,.l]
def B11 (P : PT) (x1 : Value) (x2 x3 : Int) (x4 : Value) (x5 : Nat) (H : AHeap) : Prop :=
  newK H [] 28 (fun b1 H2 => ldI .i64 H2 x5 0 (fun v3 => ld1 H2 x5 1 (fun v4 => AC Tryz.prog T0 175 [(Value.agg ⟨[(Value.int .i64 v3), v4]⟩), (Value.int .i64 x2)] H2 (fun v5 H6 => B10 P x1 x2 x3 x4 x5 (Value.slice (some ⟨b1, 0, none⟩) 0 (0 + 1)) v5 H6))))
theorem q11 (P : PT) : QB Tryz.prog T0 74 o11 (En 74 k3 (B10 P)) k4 (B11 P) := fun _ _ _ _ _ _ _  => by kernel_rfl
abbrev k5 : Sk := [(1,.v)]
noncomputable def o12 := ob Tryz.f158 [.r,.l,.r,.l,.l]
def B12 (P : PT) (x1 : Value) (H : AHeap) : Prop :=
  AC Tryz.prog T0 194 [x1] H (fun v1 H2 => pif (Value.oneCell' v1) (newK H2 [v1] 28 (fun b4 H5 => P (Value.slice (some ⟨b4, 0, none⟩) 1 (1 + 1)) H5)) False)
theorem q12 (P : PT) : QB Tryz.prog T0 74 o12 (ret P) k5 (B12 P) := fun _ _ _  => by kernel_rfl
noncomputable def o13 := ob Tryz.f158 [.r,.l,.l]
def B13 (P : PT) (x1 : Value) (x2 x3 : Int) (x4 : Value) (x5 : Nat) (H : AHeap) : Prop :=
  pif ((x2 : Int) == x3) (B12 P x1 H) (B11 P x1 x2 x3 x4 x5 H)
theorem q13 (P : PT) : QB Tryz.prog T0 74 o13 (cnd 17 (En 74 k5 (B12 P)) (En 74 k4 (B11 P))) k4 (B13 P) := fun _ _ _ _ _ _ _  => by kernel_rfl
abbrev k6 : Sk := [(0,.g [.i,.v]),(1,.v),(2,.i .i64),(3,.i .i64),(4,.v)]
noncomputable def o14 := ob Tryz.f158 [.l]
def B14 (P : PT) (x0a : Int) (x0b x1 : Value) (x2 x3 : Int) (x4 : Value) (H : AHeap) : Prop :=
  newK H [(Value.int .i64 x0a), x0b] 26 (fun b1 H2 => B13 P x1 x2 x3 x4 b1 H2)
theorem q14 (P : PT) : QB Tryz.prog T0 74 o14 (En 74 k4 (B13 P)) k6 (B14 P) := fun _ _ _ _ _ _ _ _  => by kernel_rfl
noncomputable def code : Code := (.seq (.region 0 ⟨o14⟩ false) (.seq (.seq (.region 1 ⟨o13⟩ false) (.cond (.tmp 17) (.seq (.region 2 ⟨o12⟩ false) .ret) .skip)) (.seq (.region 3 ⟨o11⟩ false) (.seq (.seq (.region 4 ⟨o10⟩ false) (.block 0 (.loop (.seq (.seq (.region 5 ⟨o9⟩ false) (.cond (.tmp 28) .skip (.exit 0))) (.seq (.block 1 (.seq (.region 7 ⟨o8⟩ true) (.seq (.seq (.region 8 ⟨o7⟩ true) (.cond (.tmp 51) (.exit 1) .skip)) (.seq (.region 9 ⟨o6⟩ false) (.seq (.region 10 ⟨o5⟩ true) (.region 11 ⟨o4⟩ false)))))) (.region 6 ⟨o3⟩ false)))))) (.seq (.region 12 ⟨o1⟩ false) .ret)))))
theorem body : Tryz.f158.body = some code := by kernel_rfl
theorem main (P : PT) : ∀ env H, (En 74 k6 (B14 P)) env H → AW Tryz.prog T0 code env H (mkQ (ret P) (fun _ _ _ => False) (ret P)) :=
  (r_seq (rB T0_ok (q14 P)) (r_seq (r_seq (rB T0_ok (q13 P)) (r_cond rfl (r_seq (rB T0_ok (q12 P)) r_ret) r_skip)) (r_seq (rB T0_ok (q11 P)) (r_seq (r_seq (rB T0_ok (q10 P)) (r_block (rL (l2 P) (fun N2 => (r_seq (r_seq (rB T0_ok (q9 P N2)) (r_cond rfl r_skip (r_exit (fun _ _ h => h)))) (r_seq (r_block (r_seq (rD T0_ok mixed [(0, false), (1, false), (2, false), (3, false), (4, false), (5, false), (6, false), (7, false)] (by kernel_rfl) (q8 P N2)) (r_seq (r_seq (rD T0_ok mixed [(0, false), (1, false), (2, false), (3, false), (4, false), (5, false), (6, false), (7, false), (8, false), (9, false), (10, false), (11, false), (12, false), (13, false)] (by kernel_rfl) (q7 P N2)) (r_cond rfl (r_exit (fun _ _ h => h)) r_skip)) (r_seq (rB T0_ok (q6 P N2)) (r_seq (rT T0_ok mixed (.op 0 [] (.op 1 [] (.op 2 [] (.op 4 [] (.op 5 [] (.op 6 [] (.op 7 [] (.op 10 [] (.op 11 [] (.op 12 [] (.alt (.op 3 [1, 7] (.op 8 [] (.op 9 [1] (.op 13 [] (.op 14 [] (.op 15 [] .done)))))) (.op 8 [] (.op 3 [1, 7] (.op 9 [1] (.op 13 [] (.op 14 [] (.op 15 [] .done))))))))))))))))) (by kernel_rfl) (q5 P N2)) (rB T0_ok (q4 P N2))))))) (rB T0_ok (q3 P N2)))))))) (r_seq (rB T0_ok (q1 P)) r_ret)))))
theorem ac (P : PT) (x0a : Int) (x0b x1 : Value) (x2 x3 : Int) (x4 : Value) (H : AHeap) (h : B14 P x0a x0b x1 x2 x3 x4 H) : AC Tryz.prog T0 158 [(Value.agg ⟨[(Value.int .i64 x0a), x0b]⟩), x1, (Value.int .i64 x2), (Value.int .i64 x3), x4] H P :=
  r_fn T0_ok (c := code) (n := 74) Tryz.func158 body (by kernel_rfl) (main P) (En_mk (x0a, x0b, x1, x2, x3, x4, ()) (by kernel_rfl) ⟨by kernel_rfl, by kernel_rfl, by kernel_rfl, by kernel_rfl, by kernel_rfl, trivial⟩ h)

end F158
-- loop.example/g01329/laws.toEdge
namespace F159
noncomputable def ret (P : PT) : EP := retE T0 15 Tryz.f159 P
abbrev k0 : Sk := [(2,.x),(3,.x)]
noncomputable def o1 := ob Tryz.f159 [.r,.r,.r,.l]
def B1 (P : PT) (x2 x3 : Nat) (H : AHeap) : Prop :=
  ldI .i64 H x3 0 (fun v1 => ldI .i64 H x3 1 (fun v2 => stK H x2 0 [(Value.int .i64 v1), (Value.int .i64 v2)] (fun H3 => ldI .i64 H3 x2 0 (fun v4 => ldI .i64 H3 x2 1 (fun v5 => P (Value.agg ⟨[(Value.int .i64 v4), (Value.int .i64 v5)]⟩) H3)))))
theorem q1 (P : PT) : QB Tryz.prog T0 15 o1 (ret P) k0 (B1 P) := fun _ _ _ _  => by kernel_rfl
abbrev k1 : Sk := [(1,.x),(2,.x),(3,.x),(4,.i .i64)]
noncomputable def o3 := ob Tryz.f159 [.r,.r,.l,.r,.l,.l,.r,.r]
def B3 (P : PT) (N2 : NTy k1 Pr) (x1 x2 x3 : Nat) (x4 : Int) (H : AHeap) : Prop :=
  N2 x1 x2 x3 (IntKind.i64.wrap (x4 + 1)) H
theorem q3 (P : PT) (N2 : NTy k1 Pr) : QB Tryz.prog T0 15 o3 (En 15 k1 N2) k1 (B3 P N2) := fun _ _ _ _ _ _  => by kernel_rfl
noncomputable def o4 := ob Tryz.f159 [.r,.r,.l,.r,.l,.l,.r,.l,.l]
def B4 (P : PT) (N2 : NTy k1 Pr) (x1 x2 x3 : Nat) (x4 : Int) (H : AHeap) : Prop :=
  bndK x4 2 (ldI .i64 H x1 (0 + Int.toNat x4 * 1) (fun v1 => bndK x4 2 (stK H x3 (0 + Int.toNat x4 * 1) [(Value.int .i64 v1)] (fun H2 => B3 P N2 x1 x2 x3 x4 H2))))
theorem q4 (P : PT) (N2 : NTy k1 Pr) : QB Tryz.prog T0 15 o4 (En 15 k1 (B3 P N2)) k1 (B4 P N2) := fun _ _ _ _ _ _  => by kernel_rfl
noncomputable def o5 := ob Tryz.f159 [.r,.r,.l,.r,.l,.l,.l,.l]
def B5 (P : PT) (N2 : NTy k1 Pr) (x1 x2 x3 : Nat) (x4 : Int) (H : AHeap) : Prop :=
  pif (decide ((x4 : Int) < 2)) (B4 P N2 x1 x2 x3 x4 H) (B1 P x2 x3 H)
theorem q5 (P : PT) (N2 : NTy k1 Pr) : QB Tryz.prog T0 15 o5 (cnd 6 (En 15 k1 (B4 P N2)) (En 15 k0 (B1 P))) k1 (B5 P N2) := fun _ _ _ _ _ _  => by kernel_rfl
def L2 (P : PT) (x1 x2 x3 : Nat) (x4 : Int) (H : AHeap) : Prop :=
  ∃ (I : NTy k1 Pr) (μ : NTy k1 (AHeap → Nat)), I x1 x2 x3 x4 H ∧ ∀ y1 y2 y3 y4 G, I y1 y2 y3 y4 G → B5 P (fun z1 z2 z3 z4 G' => I z1 z2 z3 z4 G' ∧ μ z1 z2 z3 z4 G' < μ y1 y2 y3 y4 G) y1 y2 y3 y4 G
theorem l2 (P : PT) : LQ k1 (L2 P) (B5 P) := fun ⟨_,_,_,_,_⟩ _ ⟨I, μ, h0, hI⟩ => ⟨apT _ I, apT _ μ, h0, fun ⟨_,_,_,_,_⟩ _ h => hI _ _ _ _ _  h⟩
abbrev k2 : Sk := [(1,.x),(2,.x),(3,.x)]
noncomputable def o6 := ob Tryz.f159 [.r,.r,.l,.l]
def B6 (P : PT) (x1 x2 x3 : Nat) (H : AHeap) : Prop :=
  L2 P x1 x2 x3 0 H
theorem q6 (P : PT) : QB Tryz.prog T0 15 o6 (En 15 k1 (L2 P)) k2 (B6 P) := fun _ _ _ _ _  => by kernel_rfl
abbrev k3 : Sk := [(1,.x),(2,.x)]
noncomputable def o7 := ob Tryz.f159 [.r,.l]
def B7 (P : PT) (x1 x2 : Nat) (H : AHeap) : Prop :=
  newK H [(Value.int .i64 0), (Value.int .i64 0)] 78 (fun b1 H2 => B6 P x1 x2 b1 H2)
theorem q7 (P : PT) : QB Tryz.prog T0 15 o7 (En 15 k2 (B6 P)) k3 (B7 P) := fun _ _ _ _  => by kernel_rfl
abbrev k4 : Sk := [(0,.g [.i,.i])]
noncomputable def o8 := ob Tryz.f159 [.l]
def B8 (P : PT) (x0a x0b : Int) (H : AHeap) : Prop :=
  newK H [(Value.int .i64 x0a), (Value.int .i64 x0b)] 77 (fun b1 H2 => newK H2 [(Value.int .i64 0), (Value.int .i64 0)] 78 (fun b3 H4 => B7 P b1 b3 H4))
theorem q8 (P : PT) : QB Tryz.prog T0 15 o8 (En 15 k3 (B7 P)) k4 (B8 P) := fun _ _ _ _  => by kernel_rfl
noncomputable def code : Code := (.seq (.region 0 ⟨o8⟩ false) (.seq (.region 1 ⟨o7⟩ false) (.seq (.seq (.region 2 ⟨o6⟩ false) (.block 0 (.loop (.seq (.seq (.region 3 ⟨o5⟩ false) (.cond (.tmp 6) .skip (.exit 0))) (.seq (.block 1 (.region 5 ⟨o4⟩ false)) (.region 4 ⟨o3⟩ false)))))) (.seq (.region 6 ⟨o1⟩ false) .ret))))
theorem body : Tryz.f159.body = some code := by kernel_rfl
theorem main (P : PT) : ∀ env H, (En 15 k4 (B8 P)) env H → AW Tryz.prog T0 code env H (mkQ (ret P) (fun _ _ _ => False) (ret P)) :=
  (r_seq (rB T0_ok (q8 P)) (r_seq (rB T0_ok (q7 P)) (r_seq (r_seq (rB T0_ok (q6 P)) (r_block (rL (l2 P) (fun N2 => (r_seq (r_seq (rB T0_ok (q5 P N2)) (r_cond rfl r_skip (r_exit (fun _ _ h => h)))) (r_seq (r_block (rB T0_ok (q4 P N2))) (rB T0_ok (q3 P N2)))))))) (r_seq (rB T0_ok (q1 P)) r_ret))))
theorem ac (P : PT) (x0a x0b : Int) (H : AHeap) (h : B8 P x0a x0b H) : AC Tryz.prog T0 159 [(Value.agg ⟨[(Value.int .i64 x0a), (Value.int .i64 x0b)]⟩)] H P :=
  r_fn T0_ok (c := code) (n := 15) Tryz.func159 body (by kernel_rfl) (main P) (En_mk (x0a, x0b, ()) (by kernel_rfl) ⟨by kernel_rfl, trivial⟩ h)

end F159
-- (loop.example/g01329/impl.Graph).every
namespace F160
noncomputable def ret (P : PT) : EP := retE T0 8 Tryz.f160 P
abbrev k0 : Sk := [(1,.x)]
noncomputable def o1 := ob Tryz.f160 [.r,.l]
def B1 (P : PT) (x1 : Nat) (H : AHeap) : Prop :=
  ld1 H x1 1 (fun v1 => lenK v1 (fun n2 => ((0 : Int) ≤ (n2 : Int)) ∧ (P (Value.int .u64 (IntKind.u64.wrap ((IntKind.u64.wrap (1 * 2 ^ (min (Int.toNat (n2 : Int)) 64))) - 1))) H)))
theorem q1 (P : PT) : QB Tryz.prog T0 8 o1 (ret P) k0 (B1 P) := fun _ _ _  => by kernel_rfl
abbrev k1 : Sk := [(0,.g [.i,.v])]
noncomputable def o2 := ob Tryz.f160 [.l]
def B2 (P : PT) (x0a : Int) (x0b : Value) (H : AHeap) : Prop :=
  newK H [(Value.int .i64 x0a), x0b] 26 (fun b1 H2 => B1 P b1 H2)
theorem q2 (P : PT) : QB Tryz.prog T0 8 o2 (En 8 k0 (B1 P)) k1 (B2 P) := fun _ _ _ _  => by kernel_rfl
noncomputable def code : Code := (.seq (.region 0 ⟨o2⟩ false) (.seq (.region 1 ⟨o1⟩ false) .ret))
theorem body : Tryz.f160.body = some code := by kernel_rfl
theorem main (P : PT) : ∀ env H, (En 8 k1 (B2 P)) env H → AW Tryz.prog T0 code env H (mkQ (ret P) (fun _ _ _ => False) (ret P)) :=
  (r_seq (rB T0_ok (q2 P)) (r_seq (rB T0_ok (q1 P)) r_ret))
theorem ac (P : PT) (x0a : Int) (x0b : Value) (H : AHeap) (h : B2 P x0a x0b H) : AC Tryz.prog T0 160 [(Value.agg ⟨[(Value.int .i64 x0a), x0b]⟩)] H P :=
  r_fn T0_ok (c := code) (n := 8) Tryz.func160 body (by kernel_rfl) (main P) (En_mk (x0a, x0b, ()) (by kernel_rfl) ⟨by kernel_rfl, trivial⟩ h)

end F160
-- (loop.example/g01329/impl.Graph).at
namespace F161
noncomputable def ret (P : PT) : EP := retE T0 25 Tryz.f161 P
abbrev k0 : Sk := [(5,.v)]
noncomputable def o1 := ob Tryz.f161 [.r,.r,.r,.l]
def B1 (P : PT) (x5 : Value) (H : AHeap) : Prop :=
  P x5 H
theorem q1 (P : PT) : QB Tryz.prog T0 25 o1 (ret P) k0 (B1 P) := fun _ _ _  => by kernel_rfl
abbrev k1 : Sk := [(1,.i .i64),(5,.v),(9,.v),(10,.i .i64),(11,.i .i64)]
noncomputable def o3 := ob Tryz.f161 [.r,.r,.l,.r,.l,.l,.r,.r,.r]
def B3 (P : PT) (N2 : NTy k1 Pr) (x1 : Int) (x5 x9 : Value) (x10 x11 : Int) (H : AHeap) : Prop :=
  N2 x1 x5 x9 x10 (IntKind.i64.wrap (x11 + 1)) H
theorem q3 (P : PT) (N2 : NTy k1 Pr) : QB Tryz.prog T0 25 o3 (En 25 k1 N2) k1 (B3 P N2) := fun _ _ _ _ _ _ _  => by kernel_rfl
abbrev k2 : Sk := [(1,.i .i64),(5,.v),(6,.i .i64),(9,.v),(10,.i .i64),(11,.i .i64)]
noncomputable def o4 := ob Tryz.f161 [.r,.r,.l,.r,.l,.l,.r,.r,.l,.l,.r,.r,.l]
def B4 (P : PT) (N2 : NTy k1 Pr) (x1 : Int) (x5 : Value) (x6 : Int) (x9 : Value) (x10 x11 : Int) (H : AHeap) : Prop :=
  newK H [(Value.int .i64 x6)] 2 (fun b1 H2 => apK T0 2 H2 x5 (Value.slice (some ⟨b1, 0, none⟩) 1 (1 + 1)) (fun v3 H4 => B3 P N2 x1 v3 x9 x10 x11 H4))
theorem q4 (P : PT) (N2 : NTy k1 Pr) : QB Tryz.prog T0 25 o4 (En 25 k1 (B3 P N2)) k2 (B4 P N2) := fun _ _ _ _ _ _ _ _  => by kernel_rfl
abbrev k3 : Sk := [(1,.i .i64),(5,.v),(6,.i .i64),(7,.x),(9,.v),(10,.i .i64),(11,.i .i64)]
noncomputable def o5 := ob Tryz.f161 [.r,.r,.l,.r,.l,.l,.r,.r,.l,.l,.r,.l]
def B5 (P : PT) (N2 : NTy k1 Pr) (x1 : Int) (x5 : Value) (x6 : Int) (x7 : Nat) (x9 : Value) (x10 x11 : Int) (H : AHeap) : Prop :=
  ldI .i64 H x7 0 (fun v1 => ldI .i64 H x7 1 (fun v2 => AC Tryz.prog T0 195 [(Value.agg ⟨[(Value.int .i64 v1), (Value.int .i64 v2)]⟩), (Value.int .i64 x1)] H (fun v3 H4 => asB v3 (fun v5 => pif v5 (B4 P N2 x1 x5 x6 x9 x10 x11 H4) (B3 P N2 x1 x5 x9 x10 x11 H4)))))
theorem q5 (P : PT) (N2 : NTy k1 Pr) : QB Tryz.prog T0 25 o5 (cnd 18 (En 25 k2 (B4 P N2)) (En 25 k1 (B3 P N2))) k3 (B5 P N2) := fun _ _ _ _ _ _ _ _ _  => by kernel_rfl
noncomputable def o6 := ob Tryz.f161 [.r,.r,.l,.r,.l,.l,.r,.r,.l,.l,.l]
def B6 (P : PT) (N2 : NTy k1 Pr) (x1 : Int) (x5 x9 : Value) (x10 x11 : Int) (H : AHeap) : Prop :=
  idxK x9 x11 2 (fun b1 o2 => ldI .i64 H b1 o2 (fun v3 => ldI .i64 H b1 (o2 + 1) (fun v4 => newK H [(Value.int .i64 0), (Value.int .i64 0)] 78 (fun b5 H6 => stK H6 b5 0 [(Value.int .i64 v3), (Value.int .i64 v4)] (fun H7 => B5 P N2 x1 x5 x11 b5 x9 x10 x11 H7)))))
theorem q6 (P : PT) (N2 : NTy k1 Pr) : QB Tryz.prog T0 25 o6 (En 25 k3 (B5 P N2)) k1 (B6 P N2) := fun _ _ _ _ _ _ _  => by kernel_rfl
noncomputable def o7 := ob Tryz.f161 [.r,.r,.l,.r,.l,.l,.l]
def B7 (P : PT) (N2 : NTy k1 Pr) (x1 : Int) (x5 x9 : Value) (x10 x11 : Int) (H : AHeap) : Prop :=
  pif (decide ((x11 : Int) < x10)) (B6 P N2 x1 x5 x9 x10 x11 H) (B1 P x5 H)
theorem q7 (P : PT) (N2 : NTy k1 Pr) : QB Tryz.prog T0 25 o7 (cnd 12 (En 25 k1 (B6 P N2)) (En 25 k0 (B1 P))) k1 (B7 P N2) := fun _ _ _ _ _ _ _  => by kernel_rfl
def L2 (P : PT) (x1 : Int) (x5 x9 : Value) (x10 x11 : Int) (H : AHeap) : Prop :=
  ∃ (I : NTy k1 Pr) (μ : NTy k1 (AHeap → Nat)), I x1 x5 x9 x10 x11 H ∧ ∀ y1 y5 y9 y10 y11 G, I y1 y5 y9 y10 y11 G → B7 P (fun z1 z5 z9 z10 z11 G' => I z1 z5 z9 z10 z11 G' ∧ μ z1 z5 z9 z10 z11 G' < μ y1 y5 y9 y10 y11 G) y1 y5 y9 y10 y11 G
theorem l2 (P : PT) : LQ k1 (L2 P) (B7 P) := fun ⟨_,_,_,_,_,_⟩ _ ⟨I, μ, h0, hI⟩ => ⟨apT _ I, apT _ μ, h0, fun ⟨_,_,_,_,_,_⟩ _ h => hI _ _ _ _ _ _  h⟩
abbrev k4 : Sk := [(1,.i .i64),(2,.x),(5,.v)]
noncomputable def o8 := ob Tryz.f161 [.r,.r,.l,.l]
def B8 (P : PT) (x1 : Int) (x2 : Nat) (x5 : Value) (H : AHeap) : Prop :=
  ld1 H x2 1 (fun v1 => lenK v1 (fun n2 => L2 P x1 x5 v1 (n2 : Int) 0 H))
theorem q8 (P : PT) : QB Tryz.prog T0 25 o8 (En 25 k1 (L2 P)) k4 (B8 P) := fun _ _ _ _ _  => by kernel_rfl
abbrev k5 : Sk := [(1,.i .i64),(2,.x)]
noncomputable def o9 := ob Tryz.f161 [.r,.l]
def B9 (P : PT) (x1 : Int) (x2 : Nat) (H : AHeap) : Prop :=
  B8 P x1 x2 (Value.slice none 0 0) H
theorem q9 (P : PT) : QB Tryz.prog T0 25 o9 (En 25 k4 (B8 P)) k5 (B9 P) := fun _ _ _ _  => by kernel_rfl
abbrev k6 : Sk := [(0,.g [.i,.v]),(1,.i .i64)]
noncomputable def o10 := ob Tryz.f161 [.l]
def B10 (P : PT) (x0a : Int) (x0b : Value) (x1 : Int) (H : AHeap) : Prop :=
  newK H [(Value.int .i64 x0a), x0b] 26 (fun b1 H2 => B9 P x1 b1 H2)
theorem q10 (P : PT) : QB Tryz.prog T0 25 o10 (En 25 k5 (B9 P)) k6 (B10 P) := fun _ _ _ _ _  => by kernel_rfl
noncomputable def code : Code := (.seq (.region 0 ⟨o10⟩ false) (.seq (.region 1 ⟨o9⟩ false) (.seq (.seq (.region 2 ⟨o8⟩ false) (.block 0 (.loop (.seq (.region 3 ⟨o7⟩ false) (.seq (.cond (.tmp 12) .skip (.exit 0)) (.seq (.block 1 (.seq (.region 4 ⟨o6⟩ false) (.seq (.region 5 ⟨o5⟩ false) (.cond (.tmp 18) (.region 6 ⟨o4⟩ false) .skip)))) (.region 7 ⟨o3⟩ false))))))) (.seq (.region 8 ⟨o1⟩ false) .ret))))
theorem body : Tryz.f161.body = some code := by kernel_rfl
theorem main (P : PT) : ∀ env H, (En 25 k6 (B10 P)) env H → AW Tryz.prog T0 code env H (mkQ (ret P) (fun _ _ _ => False) (ret P)) :=
  (r_seq (rB T0_ok (q10 P)) (r_seq (rB T0_ok (q9 P)) (r_seq (r_seq (rB T0_ok (q8 P)) (r_block (rL (l2 P) (fun N2 => (r_seq (rB T0_ok (q7 P N2)) (r_seq (r_cond rfl r_skip (r_exit (fun _ _ h => h))) (r_seq (r_block (r_seq (rB T0_ok (q6 P N2)) (r_seq (rB T0_ok (q5 P N2)) (r_cond rfl (rB T0_ok (q4 P N2)) r_skip)))) (rB T0_ok (q3 P N2))))))))) (r_seq (rB T0_ok (q1 P)) r_ret))))
theorem ac (P : PT) (x0a : Int) (x0b : Value) (x1 : Int) (H : AHeap) (h : B10 P x0a x0b x1 H) : AC Tryz.prog T0 161 [(Value.agg ⟨[(Value.int .i64 x0a), x0b]⟩), (Value.int .i64 x1)] H P :=
  r_fn T0_ok (c := code) (n := 25) Tryz.func161 body (by kernel_rfl) (main P) (En_mk (x0a, x0b, x1, ()) (by kernel_rfl) ⟨by kernel_rfl, by kernel_rfl, trivial⟩ h)

end F161
-- (loop.example/g01329/impl.set).size
namespace F162
noncomputable def ret (P : PT) : EP := retE T0 5 Tryz.f162 P
abbrev k0 : Sk := [(0,.i .u64)]
noncomputable def o1 := ob Tryz.f162 [.r,.l]
def B1 (P : PT) (x0 : Int) (H : AHeap) : Prop :=
  AC Tryz.prog T0 196 [(Value.int .u64 x0)] H (fun v1 H2 => asI .i64 v1 (fun v3 => P (Value.int .i64 v3) H2))
theorem q1 (P : PT) : QB Tryz.prog T0 5 o1 (ret P) k0 (B1 P) := fun _ _ _  => by kernel_rfl
noncomputable def o2 := ob Tryz.f162 [.l]
def B2 (P : PT) (x0 : Int) (H : AHeap) : Prop :=
  B1 P x0 H
theorem q2 (P : PT) : QB Tryz.prog T0 5 o2 (En 5 k0 (B1 P)) k0 (B2 P) := fun _ _ _  => by kernel_rfl
noncomputable def code : Code := (.seq (.region 0 ⟨o2⟩ false) (.seq (.region 1 ⟨o1⟩ false) .ret))
theorem body : Tryz.f162.body = some code := by kernel_rfl
theorem main (P : PT) : ∀ env H, (En 5 k0 (B2 P)) env H → AW Tryz.prog T0 code env H (mkQ (ret P) (fun _ _ _ => False) (ret P)) :=
  (r_seq (rB T0_ok (q2 P)) (r_seq (rB T0_ok (q1 P)) r_ret))
theorem ac (P : PT) (x0 : Int) (H : AHeap) (h : B2 P x0 H) : AC Tryz.prog T0 162 [(Value.int .u64 x0)] H P :=
  r_fn T0_ok (c := code) (n := 5) Tryz.func162 body (by kernel_rfl) (main P) (En_mk (x0, ()) (by kernel_rfl) ⟨by kernel_rfl, trivial⟩ h)

end F162
-- slices.IndexFunc[[]loop.example/g01329/impl.set,loop.example/g01329/impl.set]
namespace F163
noncomputable def ret (P : PT) : EP := retE T0 19 Tryz.f163 P
abbrev k0 : Sk := []
noncomputable def o1 := ob Tryz.f163 [.r,.r,.l]
def B1 (P : PT) (H : AHeap) : Prop :=
  P (Value.int .i64 (-1)) H
theorem q1 (P : PT) : QB Tryz.prog T0 19 o1 (ret P) k0 (B1 P) := fun _ _  => by kernel_rfl
abbrev k1 : Sk := [(0,.v),(1,.v),(7,.i .i64),(8,.i .i64)]
noncomputable def o3 := ob Tryz.f163 [.r,.l,.r,.l,.l,.r,.r,.r]
def B3 (P : PT) (N2 : NTy k1 Pr) (x0 x1 : Value) (x7 x8 : Int) (H : AHeap) : Prop :=
  N2 x0 x1 x7 (IntKind.i64.wrap (x8 + 1)) H
theorem q3 (P : PT) (N2 : NTy k1 Pr) : QB Tryz.prog T0 19 o3 (En 19 k1 N2) k1 (B3 P N2) := fun _ _ _ _ _ _  => by kernel_rfl
abbrev k2 : Sk := [(5,.i .i64)]
noncomputable def o4 := ob Tryz.f163 [.r,.l,.r,.l,.l,.r,.r,.l,.l,.r,.r,.l,.l]
def B4 (P : PT) (N2 : NTy k1 Pr) (x5 : Int) (H : AHeap) : Prop :=
  P (Value.int .i64 x5) H
theorem q4 (P : PT) (N2 : NTy k1 Pr) : QB Tryz.prog T0 19 o4 (ret P) k2 (B4 P N2) := fun _ _ _  => by kernel_rfl
abbrev k3 : Sk := [(0,.v),(1,.v),(5,.i .i64),(7,.i .i64),(8,.i .i64)]
noncomputable def o5 := ob Tryz.f163 [.r,.l,.r,.l,.l,.r,.r,.l,.l,.r,.l]
def B5 (P : PT) (N2 : NTy k1 Pr) (x0 x1 : Value) (x5 x7 x8 : Int) (H : AHeap) : Prop :=
  idxK x0 x5 1 (fun b1 o2 => ldI .u64 H b1 o2 (fun v3 => callV Tryz.prog T0 x1 [(Value.int .u64 v3)] H (fun v4 H5 => asB v4 (fun v6 => pif v6 (B4 P N2 x5 H5) (B3 P N2 x0 x1 x7 x8 H5)))))
theorem q5 (P : PT) (N2 : NTy k1 Pr) : QB Tryz.prog T0 19 o5 (cnd 16 (En 19 k2 (B4 P N2)) (En 19 k1 (B3 P N2))) k3 (B5 P N2) := fun _ _ _ _ _ _ _  => by kernel_rfl
noncomputable def o6 := ob Tryz.f163 [.r,.l,.r,.l,.l,.r,.r,.l,.l,.l]
def B6 (P : PT) (N2 : NTy k1 Pr) (x0 x1 : Value) (x7 x8 : Int) (H : AHeap) : Prop :=
  B5 P N2 x0 x1 x8 x7 x8 H
theorem q6 (P : PT) (N2 : NTy k1 Pr) : QB Tryz.prog T0 19 o6 (En 19 k3 (B5 P N2)) k1 (B6 P N2) := fun _ _ _ _ _ _  => by kernel_rfl
noncomputable def o7 := ob Tryz.f163 [.r,.l,.r,.l,.l,.l]
def B7 (P : PT) (N2 : NTy k1 Pr) (x0 x1 : Value) (x7 x8 : Int) (H : AHeap) : Prop :=
  pif (decide ((x8 : Int) < x7)) (B6 P N2 x0 x1 x7 x8 H) (B1 P H)
theorem q7 (P : PT) (N2 : NTy k1 Pr) : QB Tryz.prog T0 19 o7 (cnd 9 (En 19 k1 (B6 P N2)) (En 19 k0 (B1 P))) k1 (B7 P N2) := fun _ _ _ _ _ _  => by kernel_rfl
def L2 (P : PT) (x0 x1 : Value) (x7 x8 : Int) (H : AHeap) : Prop :=
  ∃ (I : NTy k1 Pr) (μ : NTy k1 (AHeap → Nat)), I x0 x1 x7 x8 H ∧ ∀ y0 y1 y7 y8 G, I y0 y1 y7 y8 G → B7 P (fun z0 z1 z7 z8 G' => I z0 z1 z7 z8 G' ∧ μ z0 z1 z7 z8 G' < μ y0 y1 y7 y8 G) y0 y1 y7 y8 G
theorem l2 (P : PT) : LQ k1 (L2 P) (B7 P) := fun ⟨_,_,_,_,_⟩ _ ⟨I, μ, h0, hI⟩ => ⟨apT _ I, apT _ μ, h0, fun ⟨_,_,_,_,_⟩ _ h => hI _ _ _ _ _  h⟩
abbrev k4 : Sk := [(0,.v),(1,.v)]
noncomputable def o8 := ob Tryz.f163 [.r,.l,.l]
def B8 (P : PT) (x0 x1 : Value) (H : AHeap) : Prop :=
  lenK x0 (fun n1 => L2 P x0 x1 (n1 : Int) 0 H)
theorem q8 (P : PT) : QB Tryz.prog T0 19 o8 (En 19 k1 (L2 P)) k4 (B8 P) := fun _ _ _ _  => by kernel_rfl
noncomputable def o9 := ob Tryz.f163 [.l]
def B9 (P : PT) (x0 x1 : Value) (H : AHeap) : Prop :=
  B8 P x0 x1 H
theorem q9 (P : PT) : QB Tryz.prog T0 19 o9 (En 19 k4 (B8 P)) k4 (B9 P) := fun _ _ _ _  => by kernel_rfl
noncomputable def code : Code := (.seq (.region 0 ⟨o9⟩ false) (.seq (.seq (.region 1 ⟨o8⟩ false) (.block 0 (.loop (.seq (.region 2 ⟨o7⟩ false) (.seq (.cond (.tmp 9) .skip (.exit 0)) (.seq (.block 1 (.seq (.region 3 ⟨o6⟩ false) (.seq (.region 4 ⟨o5⟩ false) (.cond (.tmp 16) (.seq (.region 5 ⟨o4⟩ false) .ret) .skip)))) (.region 6 ⟨o3⟩ false))))))) (.seq (.region 7 ⟨o1⟩ false) .ret)))
theorem body : Tryz.f163.body = some code := by kernel_rfl
theorem main (P : PT) : ∀ env H, (En 19 k4 (B9 P)) env H → AW Tryz.prog T0 code env H (mkQ (ret P) (fun _ _ _ => False) (ret P)) :=
  (r_seq (rB T0_ok (q9 P)) (r_seq (r_seq (rB T0_ok (q8 P)) (r_block (rL (l2 P) (fun N2 => (r_seq (rB T0_ok (q7 P N2)) (r_seq (r_cond rfl r_skip (r_exit (fun _ _ h => h))) (r_seq (r_block (r_seq (rB T0_ok (q6 P N2)) (r_seq (rB T0_ok (q5 P N2)) (r_cond rfl (r_seq (rB T0_ok (q4 P N2)) r_ret) r_skip)))) (rB T0_ok (q3 P N2))))))))) (r_seq (rB T0_ok (q1 P)) r_ret)))
theorem ac (P : PT) (x0 x1 : Value) (H : AHeap) (h : B9 P x0 x1 H) : AC Tryz.prog T0 163 [x0, x1] H P :=
  r_fn T0_ok (c := code) (n := 19) Tryz.func163 body (by kernel_rfl) (main P) (En_mk (x0, x1, ()) (by kernel_rfl) ⟨by kernel_rfl, by kernel_rfl, trivial⟩ h)

end F163
-- (loop.example/g01329/impl.Graph).isEven
namespace F164
noncomputable def ret (P : PT) : EP := retE T0 21 Tryz.f164 P
abbrev k0 : Sk := []
noncomputable def o1 := ob Tryz.f164 [.r,.r,.l]
def B1 (P : PT) (H : AHeap) : Prop :=
  P (Value.bool true) H
theorem q1 (P : PT) : QB Tryz.prog T0 21 o1 (ret P) k0 (B1 P) := fun _ _  => by kernel_rfl
abbrev k1 : Sk := [(1,.i .u64),(2,.x),(7,.i .i64),(8,.i .i64)]
noncomputable def o3 := ob Tryz.f164 [.r,.l,.r,.l,.l,.r,.r,.r]
def B3 (P : PT) (N2 : NTy k1 Pr) (x1 : Int) (x2 : Nat) (x7 x8 : Int) (H : AHeap) : Prop :=
  N2 x1 x2 x7 (IntKind.i64.wrap (x8 + 1)) H
theorem q3 (P : PT) (N2 : NTy k1 Pr) : QB Tryz.prog T0 21 o3 (En 21 k1 N2) k1 (B3 P N2) := fun _ _ _ _ _ _  => by kernel_rfl
noncomputable def o4 := ob Tryz.f164 [.r,.l,.r,.l,.l,.r,.r,.l,.l,.r,.r,.l,.l]
def B4 (P : PT) (N2 : NTy k1 Pr) (H : AHeap) : Prop :=
  P (Value.bool false) H
theorem q4 (P : PT) (N2 : NTy k1 Pr) : QB Tryz.prog T0 21 o4 (ret P) k0 (B4 P N2) := fun _ _  => by kernel_rfl
abbrev k2 : Sk := [(1,.i .u64),(2,.x),(5,.i .i64),(7,.i .i64),(8,.i .i64)]
noncomputable def o5 := ob Tryz.f164 [.r,.l,.r,.l,.l,.r,.r,.l,.l,.r,.l]
def B5 (P : PT) (N2 : NTy k1 Pr) (x1 : Int) (x2 : Nat) (x5 x7 x8 : Int) (H : AHeap) : Prop :=
  ldI .i64 H x2 0 (fun v1 => ld1 H x2 1 (fun v2 => AC Tryz.prog T0 161 [(Value.agg ⟨[(Value.int .i64 v1), v2]⟩), (Value.int .i64 x5)] H (fun v3 H4 => AC Tryz.prog T0 89 [v3] H4 (fun v6 H7 => asI .u64 v6 (fun v8 => AC Tryz.prog T0 162 [(Value.int .u64 (IntKind.u64.wrap (BitVec.ofInt 64 v8 &&& BitVec.ofInt 64 x1).toNat))] H7 (fun v9 H10 => asI .i64 v9 (fun v11 => pif ((Int.tmod v11 2 : Int) != 0) (B4 P N2 H10) (B3 P N2 x1 x2 x7 x8 H10))))))))
theorem q5 (P : PT) (N2 : NTy k1 Pr) : QB Tryz.prog T0 21 o5 (cnd 19 (En 21 k0 (B4 P N2)) (En 21 k1 (B3 P N2))) k2 (B5 P N2) := fun _ _ _ _ _ _ _  => by kernel_rfl
noncomputable def o6 := ob Tryz.f164 [.r,.l,.r,.l,.l,.r,.r,.l,.l,.l]
def B6 (P : PT) (N2 : NTy k1 Pr) (x1 : Int) (x2 : Nat) (x7 x8 : Int) (H : AHeap) : Prop :=
  B5 P N2 x1 x2 x8 x7 x8 H
theorem q6 (P : PT) (N2 : NTy k1 Pr) : QB Tryz.prog T0 21 o6 (En 21 k2 (B5 P N2)) k1 (B6 P N2) := fun _ _ _ _ _ _  => by kernel_rfl
noncomputable def o7 := ob Tryz.f164 [.r,.l,.r,.l,.l,.l]
def B7 (P : PT) (N2 : NTy k1 Pr) (x1 : Int) (x2 : Nat) (x7 x8 : Int) (H : AHeap) : Prop :=
  pif (decide ((x8 : Int) < x7)) (B6 P N2 x1 x2 x7 x8 H) (B1 P H)
theorem q7 (P : PT) (N2 : NTy k1 Pr) : QB Tryz.prog T0 21 o7 (cnd 9 (En 21 k1 (B6 P N2)) (En 21 k0 (B1 P))) k1 (B7 P N2) := fun _ _ _ _ _ _  => by kernel_rfl
def L2 (P : PT) (x1 : Int) (x2 : Nat) (x7 x8 : Int) (H : AHeap) : Prop :=
  ∃ (I : NTy k1 Pr) (μ : NTy k1 (AHeap → Nat)), I x1 x2 x7 x8 H ∧ ∀ y1 y2 y7 y8 G, I y1 y2 y7 y8 G → B7 P (fun z1 z2 z7 z8 G' => I z1 z2 z7 z8 G' ∧ μ z1 z2 z7 z8 G' < μ y1 y2 y7 y8 G) y1 y2 y7 y8 G
theorem l2 (P : PT) : LQ k1 (L2 P) (B7 P) := fun ⟨_,_,_,_,_⟩ _ ⟨I, μ, h0, hI⟩ => ⟨apT _ I, apT _ μ, h0, fun ⟨_,_,_,_,_⟩ _ h => hI _ _ _ _ _  h⟩
abbrev k3 : Sk := [(1,.i .u64),(2,.x)]
noncomputable def o8 := ob Tryz.f164 [.r,.l,.l]
def B8 (P : PT) (x1 : Int) (x2 : Nat) (H : AHeap) : Prop :=
  ldI .i64 H x2 0 (fun v1 => L2 P x1 x2 v1 0 H)
theorem q8 (P : PT) : QB Tryz.prog T0 21 o8 (En 21 k1 (L2 P)) k3 (B8 P) := fun _ _ _ _  => by kernel_rfl
abbrev k4 : Sk := [(0,.g [.i,.v]),(1,.i .u64)]
noncomputable def o9 := ob Tryz.f164 [.l]
def B9 (P : PT) (x0a : Int) (x0b : Value) (x1 : Int) (H : AHeap) : Prop :=
  newK H [(Value.int .i64 x0a), x0b] 26 (fun b1 H2 => B8 P x1 b1 H2)
theorem q9 (P : PT) : QB Tryz.prog T0 21 o9 (En 21 k3 (B8 P)) k4 (B9 P) := fun _ _ _ _ _  => by kernel_rfl
noncomputable def code : Code := (.seq (.region 0 ⟨o9⟩ false) (.seq (.seq (.region 1 ⟨o8⟩ false) (.block 0 (.loop (.seq (.region 2 ⟨o7⟩ false) (.seq (.cond (.tmp 9) .skip (.exit 0)) (.seq (.block 1 (.seq (.region 3 ⟨o6⟩ false) (.seq (.region 4 ⟨o5⟩ false) (.cond (.tmp 19) (.seq (.region 5 ⟨o4⟩ false) .ret) .skip)))) (.region 6 ⟨o3⟩ false))))))) (.seq (.region 7 ⟨o1⟩ false) .ret)))
theorem body : Tryz.f164.body = some code := by kernel_rfl
theorem main (P : PT) : ∀ env H, (En 21 k4 (B9 P)) env H → AW Tryz.prog T0 code env H (mkQ (ret P) (fun _ _ _ => False) (ret P)) :=
  (r_seq (rB T0_ok (q9 P)) (r_seq (r_seq (rB T0_ok (q8 P)) (r_block (rL (l2 P) (fun N2 => (r_seq (rB T0_ok (q7 P N2)) (r_seq (r_cond rfl r_skip (r_exit (fun _ _ h => h))) (r_seq (r_block (r_seq (rB T0_ok (q6 P N2)) (r_seq (rB T0_ok (q5 P N2)) (r_cond rfl (r_seq (rB T0_ok (q4 P N2)) r_ret) r_skip)))) (rB T0_ok (q3 P N2))))))))) (r_seq (rB T0_ok (q1 P)) r_ret)))
theorem ac (P : PT) (x0a : Int) (x0b : Value) (x1 : Int) (H : AHeap) (h : B9 P x0a x0b x1 H) : AC Tryz.prog T0 164 [(Value.agg ⟨[(Value.int .i64 x0a), x0b]⟩), (Value.int .u64 x1)] H P :=
  r_fn T0_ok (c := code) (n := 21) Tryz.func164 body (by kernel_rfl) (main P) (En_mk (x0a, x0b, x1, ()) (by kernel_rfl) ⟨by kernel_rfl, by kernel_rfl, trivial⟩ h)

end F164
end Go.Proofs
