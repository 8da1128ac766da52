import Derived.Test.YtkmjiikgkhhciaaGreatT
set_option linter.unusedVariables false
set_option maxRecDepth 100000
namespace Go.Proofs
open Go.Abs
-- loop.example/g01329/laws.FnBonds
namespace F3
noncomputable def ret (P : PT) : EP := retE T0 237 Tryz.f3 P
abbrev k0 : Sk := []
noncomputable def o1 := ob Tryz.f3 [.r,.r,.r,.r,.r,.r,.r,.r,.r,.r,.r,.r,.r,.r,.r,.r,.r,.r,.r,.r,.r,.r,.l]
def B1 (P : PT) (H : AHeap) : Prop :=
  P (Value.bool true) H
theorem q1 (P : PT) : QB Tryz.prog T0 237 o1 (ret P) k0 (B1 P) := fun _ _  => by kernel_rfl
noncomputable def o2 := ob Tryz.f3 [.r,.r,.r,.r,.r,.r,.r,.r,.r,.r,.r,.r,.r,.r,.r,.r,.r,.r,.r,.r,.r,.l,.r,.l,.r,.r,.l,.l]
def B2 (P : PT) (H : AHeap) : Prop :=
  P (Value.bool false) H
theorem q2 (P : PT) : QB Tryz.prog T0 237 o2 (ret P) k0 (B2 P) := fun _ _  => by kernel_rfl
abbrev k1 : Sk := [(28,.i .i64),(32,.i .i64),(33,.i .i64)]
noncomputable def o3 := ob Tryz.f3 [.r,.r,.r,.r,.r,.r,.r,.r,.r,.r,.r,.r,.r,.r,.r,.r,.r,.r,.r,.r,.r,.l,.r,.l,.r,.l]
def B3 (P : PT) (x28 x32 x33 : Int) (H : AHeap) : Prop :=
  pif ((x33 : Int) != 0) (B2 P H) (pif (decide ((x32 : Int) > x28)) (B2 P H) (B1 P H))
theorem q3 (P : PT) : QB Tryz.prog T0 237 o3 (cnd 236 (En 237 k0 (B2 P)) (En 237 k0 (B1 P))) k1 (B3 P) := fun _ _ _ _ _  => by kernel_rfl
abbrev k2 : Sk := [(27,.x),(28,.i .i64)]
noncomputable def o4 := ob Tryz.f3 [.r,.r,.r,.r,.r,.r,.r,.r,.r,.r,.r,.r,.r,.r,.r,.r,.r,.r,.r,.r,.r,.l,.r,.l,.l]
def B4 (P : PT) (x27 : Nat) (x28 : Int) (H : AHeap) : Prop :=
  ldI .i64 H x27 0 (fun v1 => ld1 H x27 1 (fun v2 => AC Tryz.prog T0 18 [(Value.agg ⟨[(Value.int .i64 v1), v2]⟩)] H (fun v3 H4 => tup2 v3 (fun v5 v6 => asI .i64 v5 (fun v7 => asI .i64 v6 (fun v8 => B3 P x28 v7 v8 H4))))))
theorem q4 (P : PT) : QB Tryz.prog T0 237 o4 (En 237 k1 (B3 P)) k2 (B4 P) := fun _ _ _ _  => by kernel_rfl
abbrev k3 : Sk := [(27,.x),(28,.i .i64),(29,.i .i64)]
noncomputable def o5 := ob Tryz.f3 [.r,.r,.r,.r,.r,.r,.r,.r,.r,.r,.r,.r,.r,.r,.r,.r,.r,.r,.r,.r,.r,.l,.l]
def B5 (P : PT) (x27 : Nat) (x28 x29 : Int) (H : AHeap) : Prop :=
  pif ((x29 : Int) == 0) (B4 P x27 x28 H) (B1 P H)
theorem q5 (P : PT) : QB Tryz.prog T0 237 o5 (cnd 224 (En 237 k2 (B4 P)) (En 237 k0 (B1 P))) k3 (B5 P) := fun _ _ _ _ _  => by kernel_rfl
noncomputable def o6 := ob Tryz.f3 [.r,.r,.r,.r,.r,.r,.r,.r,.r,.r,.r,.r,.r,.r,.r,.r,.r,.r,.r,.r,.l,.r,.l,.l]
def B6 (P : PT) (H : AHeap) : Prop :=
  P (Value.bool false) H
theorem q6 (P : PT) : QB Tryz.prog T0 237 o6 (ret P) k0 (B6 P) := fun _ _  => by kernel_rfl
abbrev k4 : Sk := [(27,.x),(28,.i .i64),(29,.i .i64),(30,.i .i64),(31,.i .i64)]
noncomputable def o7 := ob Tryz.f3 [.r,.r,.r,.r,.r,.r,.r,.r,.r,.r,.r,.r,.r,.r,.r,.r,.r,.r,.r,.r,.l,.l]
def B7 (P : PT) (x27 : Nat) (x28 x29 x30 x31 : Int) (H : AHeap) : Prop :=
  pif ((x29 : Int) != x31) (B6 P H) (pif ((x28 : Int) != x30) (B6 P H) (B5 P x27 x28 x29 H))
theorem q7 (P : PT) : QB Tryz.prog T0 237 o7 (cnd 222 (En 237 k0 (B6 P)) (En 237 k3 (B5 P))) k4 (B7 P) := fun _ _ _ _ _ _ _  => by kernel_rfl
noncomputable def o8 := ob Tryz.f3 [.r,.r,.r,.r,.r,.r,.r,.r,.r,.r,.r,.r,.r,.r,.r,.r,.r,.r,.r,.l]
def B8 (P : PT) (x27 : Nat) (x28 x29 : Int) (H : AHeap) : Prop :=
  ldI .i64 H x27 0 (fun v1 => ld1 H x27 1 (fun v2 => AC Tryz.prog T0 22 [(Value.agg ⟨[(Value.int .i64 v1), v2]⟩)] H (fun v3 H4 => tup2 v3 (fun v5 v6 => asI .i64 v5 (fun v7 => asI .i64 v6 (fun v8 => B7 P x27 x28 x29 v7 v8 H4))))))
theorem q8 (P : PT) : QB Tryz.prog T0 237 o8 (En 237 k4 (B7 P)) k3 (B8 P) := fun _ _ _ _ _  => by kernel_rfl
abbrev k5 : Sk := [(27,.x)]
noncomputable def o9 := ob Tryz.f3 [.r,.r,.r,.r,.r,.r,.r,.r,.r,.r,.r,.r,.r,.r,.r,.r,.r,.r,.l]
def B9 (P : PT) (x27 : Nat) (H : AHeap) : Prop :=
  ldI .i64 H x27 0 (fun v1 => ld1 H x27 1 (fun v2 => AC Tryz.prog T0 21 [(Value.agg ⟨[(Value.int .i64 v1), v2]⟩)] H (fun v3 H4 => tup2 v3 (fun v5 v6 => asI .i64 v5 (fun v7 => asI .i64 v6 (fun v8 => B8 P x27 v7 v8 H4))))))
theorem q9 (P : PT) : QB Tryz.prog T0 237 o9 (En 237 k3 (B8 P)) k5 (B9 P) := fun _ _ _  => by kernel_rfl
abbrev k6 : Sk := [(0,.v)]
noncomputable def o10 := ob Tryz.f3 [.r,.r,.r,.r,.r,.r,.r,.r,.r,.r,.r,.r,.r,.r,.r,.r,.r,.l]
def B10 (P : PT) (x0 : Value) (H : AHeap) : Prop :=
  AC Tryz.prog T0 20 [x0] H (fun v1 H2 => agg2 v1 (fun v3 v4 => asI .i64 v3 (fun v5 => newK H2 [(Value.int .i64 0), (Value.slice none 0 0)] 26 (fun b7 H8 => stK H8 b7 0 [(Value.int .i64 v5), v4] (fun H9 => B9 P b7 H9)))))
theorem q10 (P : PT) : QB Tryz.prog T0 237 o10 (En 237 k5 (B9 P)) k6 (B10 P) := fun _ _ _  => by kernel_rfl
noncomputable def o11 := ob Tryz.f3 [.r,.r,.r,.r,.r,.r,.r,.r,.r,.r,.r,.r,.r,.r,.r,.r,.l,.r,.l,.r,.r,.l,.l]
def B11 (P : PT) (H : AHeap) : Prop :=
  P (Value.bool false) H
theorem q11 (P : PT) : QB Tryz.prog T0 237 o11 (ret P) k0 (B11 P) := fun _ _  => by kernel_rfl
abbrev k7 : Sk := [(0,.v),(21,.i .i64),(25,.v),(26,.i .i64)]
noncomputable def o12 := ob Tryz.f3 [.r,.r,.r,.r,.r,.r,.r,.r,.r,.r,.r,.r,.r,.r,.r,.r,.l,.r,.l,.r,.l]
def B12 (P : PT) (x0 : Value) (x21 : Int) (x25 : Value) (x26 : Int) (H : AHeap) : Prop :=
  pif ((x26 : Int) != 0) (B11 P H) (pif (decide ((x21 : Int) < 1)) (B11 P H) (pif (decide ((x21 : Int) > 3)) (B11 P H) (lenK x25 (fun n1 => pif (!(((x21 : Int) == 1) == (decide (((n1 : Int) : Int) > 0)))) (B11 P H) (B10 P x0 H)))))
theorem q12 (P : PT) : QB Tryz.prog T0 237 o12 (cnd 202 (En 237 k0 (B11 P)) (En 237 k6 (B10 P))) k7 (B12 P) := fun _ _ _ _ _ _  => by kernel_rfl
abbrev k8 : Sk := [(0,.v),(20,.x),(21,.i .i64)]
noncomputable def o13 := ob Tryz.f3 [.r,.r,.r,.r,.r,.r,.r,.r,.r,.r,.r,.r,.r,.r,.r,.r,.l,.r,.l,.l]
def B13 (P : PT) (x0 : Value) (x20 : Nat) (x21 : Int) (H : AHeap) : Prop :=
  ldI .i64 H x20 0 (fun v1 => ld1 H x20 1 (fun v2 => AC Tryz.prog T0 9 [(Value.agg ⟨[(Value.int .i64 v1), v2]⟩)] H (fun v3 H4 => tup2 v3 (fun v5 v6 => asI .i64 v6 (fun v8 => B12 P x0 x21 v5 v8 H4)))))
theorem q13 (P : PT) : QB Tryz.prog T0 237 o13 (En 237 k7 (B12 P)) k8 (B13 P) := fun _ _ _ _ _  => by kernel_rfl
abbrev k9 : Sk := [(0,.v),(20,.x),(21,.i .i64),(22,.i .i64)]
noncomputable def o14 := ob Tryz.f3 [.r,.r,.r,.r,.r,.r,.r,.r,.r,.r,.r,.r,.r,.r,.r,.r,.l,.l]
def B14 (P : PT) (x0 : Value) (x20 : Nat) (x21 x22 : Int) (H : AHeap) : Prop :=
  pif ((x22 : Int) == 0) (B13 P x0 x20 x21 H) (B10 P x0 H)
theorem q14 (P : PT) : QB Tryz.prog T0 237 o14 (cnd 179 (En 237 k8 (B13 P)) (En 237 k6 (B10 P))) k9 (B14 P) := fun _ _ _ _ _ _  => by kernel_rfl
noncomputable def o15 := ob Tryz.f3 [.r,.r,.r,.r,.r,.r,.r,.r,.r,.r,.r,.r,.r,.r,.r,.l,.r,.l,.l]
def B15 (P : PT) (H : AHeap) : Prop :=
  P (Value.bool false) H
theorem q15 (P : PT) : QB Tryz.prog T0 237 o15 (ret P) k0 (B15 P) := fun _ _  => by kernel_rfl
abbrev k10 : Sk := [(0,.v),(20,.x),(21,.i .i64),(22,.i .i64),(23,.i .i64),(24,.i .i64)]
noncomputable def o16 := ob Tryz.f3 [.r,.r,.r,.r,.r,.r,.r,.r,.r,.r,.r,.r,.r,.r,.r,.l,.l]
def B16 (P : PT) (x0 : Value) (x20 : Nat) (x21 x22 x23 x24 : Int) (H : AHeap) : Prop :=
  pif ((x22 : Int) != x24) (B15 P H) (pif ((x21 : Int) != x23) (B15 P H) (B14 P x0 x20 x21 x22 H))
theorem q16 (P : PT) : QB Tryz.prog T0 237 o16 (cnd 177 (En 237 k0 (B15 P)) (En 237 k9 (B14 P))) k10 (B16 P) := fun _ _ _ _ _ _ _ _  => by kernel_rfl
noncomputable def o17 := ob Tryz.f3 [.r,.r,.r,.r,.r,.r,.r,.r,.r,.r,.r,.r,.r,.r,.l]
def B17 (P : PT) (x0 : Value) (x20 : Nat) (x21 x22 : Int) (H : AHeap) : Prop :=
  ldI .i64 H x20 0 (fun v1 => ld1 H x20 1 (fun v2 => AC Tryz.prog T0 19 [(Value.agg ⟨[(Value.int .i64 v1), v2]⟩)] H (fun v3 H4 => tup2 v3 (fun v5 v6 => asI .i64 v5 (fun v7 => asI .i64 v6 (fun v8 => B16 P x0 x20 x21 x22 v7 v8 H4))))))
theorem q17 (P : PT) : QB Tryz.prog T0 237 o17 (En 237 k10 (B16 P)) k9 (B17 P) := fun _ _ _ _ _ _  => by kernel_rfl
abbrev k11 : Sk := [(0,.v),(20,.x)]
noncomputable def o18 := ob Tryz.f3 [.r,.r,.r,.r,.r,.r,.r,.r,.r,.r,.r,.r,.r,.l]
def B18 (P : PT) (x0 : Value) (x20 : Nat) (H : AHeap) : Prop :=
  ldI .i64 H x20 0 (fun v1 => ld1 H x20 1 (fun v2 => AC Tryz.prog T0 18 [(Value.agg ⟨[(Value.int .i64 v1), v2]⟩)] H (fun v3 H4 => tup2 v3 (fun v5 v6 => asI .i64 v5 (fun v7 => asI .i64 v6 (fun v8 => B17 P x0 x20 v7 v8 H4))))))
theorem q18 (P : PT) : QB Tryz.prog T0 237 o18 (En 237 k9 (B17 P)) k11 (B18 P) := fun _ _ _ _  => by kernel_rfl
noncomputable def o19 := ob Tryz.f3 [.r,.r,.r,.r,.r,.r,.r,.r,.r,.r,.r,.r,.l]
def B19 (P : PT) (x0 : Value) (H : AHeap) : Prop :=
  AC Tryz.prog T0 17 [x0] H (fun v1 H2 => agg2 v1 (fun v3 v4 => asI .i64 v3 (fun v5 => newK H2 [(Value.int .i64 0), (Value.slice none 0 0)] 26 (fun b7 H8 => stK H8 b7 0 [(Value.int .i64 v5), v4] (fun H9 => B18 P x0 b7 H9)))))
theorem q19 (P : PT) : QB Tryz.prog T0 237 o19 (En 237 k11 (B18 P)) k6 (B19 P) := fun _ _ _  => by kernel_rfl
abbrev k12 : Sk := [(0,.v),(11,.x),(12,.i .i64),(13,.v),(17,.i .i64)]
noncomputable def o21 := ob Tryz.f3 [.r,.r,.r,.r,.r,.r,.r,.r,.r,.r,.r,.l,.r,.l,.l,.r,.r]
def B21 (P : PT) (N20 : NTy k12 Pr) (x0 : Value) (x11 : Nat) (x12 : Int) (x13 : Value) (x17 : Int) (H : AHeap) : Prop :=
  N20 x0 x11 x12 x13 (IntKind.i64.wrap (x17 + 1)) H
theorem q21 (P : PT) (N20 : NTy k12 Pr) : QB Tryz.prog T0 237 o21 (En 237 k12 N20) k12 (B21 P N20) := fun _ _ _ _ _ _ _  => by kernel_rfl
noncomputable def o22 := ob Tryz.f3 [.r,.r,.r,.r,.r,.r,.r,.r,.r,.r,.r,.l,.r,.l,.l,.r,.l,.l,.r,.r,.l,.l]
def B22 (P : PT) (N20 : NTy k12 Pr) (H : AHeap) : Prop :=
  P (Value.bool false) H
theorem q22 (P : PT) (N20 : NTy k12 Pr) : QB Tryz.prog T0 237 o22 (ret P) k0 (B22 P N20) := fun _ _  => by kernel_rfl
abbrev k13 : Sk := [(0,.v),(11,.x),(12,.i .i64),(13,.v),(17,.i .i64),(18,.b),(19,.i .i64)]
noncomputable def o23 := ob Tryz.f3 [.r,.r,.r,.r,.r,.r,.r,.r,.r,.r,.r,.l,.r,.l,.l,.r,.l,.l,.r,.l]
def B23 (P : PT) (N20 : NTy k12 Pr) (x0 : Value) (x11 : Nat) (x12 : Int) (x13 : Value) (x17 : Int) (x18 : Bool) (x19 : Int) (H : AHeap) : Prop :=
  pif ((x19 : Int) != 0) (B22 P N20 H) (pif (!x18) (B22 P N20 H) (idxK x13 x17 1 (fun b1 o2 => ld1 H b1 o2 (fun v3 => lenK v3 (fun n4 => pif (((n4 : Int) : Int) != x12) (B22 P N20 H) (B21 P N20 x0 x11 x12 x13 x17 H))))))
theorem q23 (P : PT) (N20 : NTy k12 Pr) : QB Tryz.prog T0 237 o23 (cnd 157 (En 237 k0 (B22 P N20)) (En 237 k12 (B21 P N20))) k13 (B23 P N20) := fun _ _ _ _ _ _ _ _ _  => by kernel_rfl
noncomputable def o24 := ob Tryz.f3 [.r,.r,.r,.r,.r,.r,.r,.r,.r,.r,.r,.l,.r,.l,.l,.r,.l,.l,.l]
def B24 (P : PT) (N20 : NTy k12 Pr) (x0 : Value) (x11 : Nat) (x12 : Int) (x13 : Value) (x17 : Int) (H : AHeap) : Prop :=
  ldI .i64 H x11 0 (fun v1 => ld1 H x11 1 (fun v2 => idxK x13 x17 1 (fun b3 o4 => ld1 H b3 o4 (fun v5 => AC Tryz.prog T0 16 [(Value.agg ⟨[(Value.int .i64 v1), v2]⟩), v5] H (fun v6 H7 => tup2 v6 (fun v8 v9 => asB v8 (fun v10 => asI .i64 v9 (fun v11 => B23 P N20 x0 x11 x12 x13 x17 v10 v11 H7))))))))
theorem q24 (P : PT) (N20 : NTy k12 Pr) : QD Tryz.prog T0 237 o24 [(0, false), (1, false), (2, false), (3, false), (4, false), (5, false), (6, false), (7, false), (8, false), (9, false), (10, false)] (En 237 k13 (B23 P N20)) k12 (B24 P N20) := fun _ _ _ _ _ _ _  => by kernel_rfl
noncomputable def o25 := ob Tryz.f3 [.r,.r,.r,.r,.r,.r,.r,.r,.r,.r,.r,.l,.r,.l,.l,.l,.l]
def B25 (P : PT) (N20 : NTy k12 Pr) (x0 : Value) (x11 : Nat) (x12 : Int) (x13 : Value) (x17 : Int) (H : AHeap) : Prop :=
  lenK x13 (fun n1 => pif (decide ((x17 : Int) < (n1 : Int))) (pif (decide ((x17 : Int) < 20)) (B24 P N20 x0 x11 x12 x13 x17 H) (B19 P x0 H)) (B19 P x0 H))
theorem q25 (P : PT) (N20 : NTy k12 Pr) : QB Tryz.prog T0 237 o25 (cnd 131 (En 237 k12 (B24 P N20)) (En 237 k6 (B19 P))) k12 (B25 P N20) := fun _ _ _ _ _ _ _  => by kernel_rfl
def L20 (P : PT) (x0 : Value) (x11 : Nat) (x12 : Int) (x13 : Value) (x17 : Int) (H : AHeap) : Prop :=
  ∃ (I : NTy k12 Pr) (μ : NTy k12 (AHeap → Nat)), I x0 x11 x12 x13 x17 H ∧ ∀ y0 y11 y12 y13 y17 G, I y0 y11 y12 y13 y17 G → B25 P (fun z0 z11 z12 z13 z17 G' => I z0 z11 z12 z13 z17 G' ∧ μ z0 z11 z12 z13 z17 G' < μ y0 y11 y12 y13 y17 G) y0 y11 y12 y13 y17 G
theorem l20 (P : PT) : LQ k12 (L20 P) (B25 P) := fun ⟨_,_,_,_,_,_⟩ _ ⟨I, μ, h0, hI⟩ => ⟨apT _ I, apT _ μ, h0, fun ⟨_,_,_,_,_,_⟩ _ h => hI _ _ _ _ _ _  h⟩
abbrev k14 : Sk := [(0,.v),(11,.x),(12,.i .i64),(13,.v)]
noncomputable def o26 := ob Tryz.f3 [.r,.r,.r,.r,.r,.r,.r,.r,.r,.r,.r,.l,.l]
def B26 (P : PT) (x0 : Value) (x11 : Nat) (x12 : Int) (x13 : Value) (H : AHeap) : Prop :=
  L20 P x0 x11 x12 x13 0 H
theorem q26 (P : PT) : QB Tryz.prog T0 237 o26 (En 237 k12 (L20 P)) k14 (B26 P) := fun _ _ _ _ _ _  => by kernel_rfl
noncomputable def o27 := ob Tryz.f3 [.r,.r,.r,.r,.r,.r,.r,.r,.r,.r,.l,.r,.l,.l]
def B27 (P : PT) (H : AHeap) : Prop :=
  P (Value.bool false) H
theorem q27 (P : PT) : QB Tryz.prog T0 237 o27 (ret P) k0 (B27 P) := fun _ _  => by kernel_rfl
abbrev k15 : Sk := [(0,.v),(11,.x),(12,.i .i64),(13,.v),(14,.i .i64),(15,.v),(16,.i .i64)]
noncomputable def o28 := ob Tryz.f3 [.r,.r,.r,.r,.r,.r,.r,.r,.r,.r,.l,.l]
def B28 (P : PT) (x0 : Value) (x11 : Nat) (x12 : Int) (x13 : Value) (x14 : Int) (x15 : Value) (x16 : Int) (H : AHeap) : Prop :=
  pif ((x14 : Int) != x16) (B27 P H) (AC Tryz.prog T0 15 [x13, x15] H (fun v1 H2 => asB v1 (fun v3 => pif (!v3) (B27 P H2) (B26 P x0 x11 x12 x13 H2))))
theorem q28 (P : PT) : QB Tryz.prog T0 237 o28 (cnd 123 (En 237 k0 (B27 P)) (En 237 k14 (B26 P))) k15 (B28 P) := fun _ _ _ _ _ _ _ _ _  => by kernel_rfl
abbrev k16 : Sk := [(0,.v),(11,.x),(12,.i .i64),(13,.v),(14,.i .i64)]
noncomputable def o29 := ob Tryz.f3 [.r,.r,.r,.r,.r,.r,.r,.r,.r,.l]
def B29 (P : PT) (x0 : Value) (x11 : Nat) (x12 : Int) (x13 : Value) (x14 : Int) (H : AHeap) : Prop :=
  ldI .i64 H x11 0 (fun v1 => ld1 H x11 1 (fun v2 => AC Tryz.prog T0 14 [(Value.agg ⟨[(Value.int .i64 v1), v2]⟩), (Value.int .i64 x12)] H (fun v3 H4 => tup2 v3 (fun v5 v6 => asI .i64 v6 (fun v8 => B28 P x0 x11 x12 x13 x14 v5 v8 H4)))))
theorem q29 (P : PT) : QB Tryz.prog T0 237 o29 (En 237 k15 (B28 P)) k16 (B29 P) := fun _ _ _ _ _ _ _  => by kernel_rfl
abbrev k17 : Sk := [(0,.v),(11,.x),(12,.i .i64)]
noncomputable def o30 := ob Tryz.f3 [.r,.r,.r,.r,.r,.r,.r,.r,.l]
def B30 (P : PT) (x0 : Value) (x11 : Nat) (x12 : Int) (H : AHeap) : Prop :=
  ldI .i64 H x11 0 (fun v1 => ld1 H x11 1 (fun v2 => AC Tryz.prog T0 12 [(Value.agg ⟨[(Value.int .i64 v1), v2]⟩), (Value.int .i64 x12)] H (fun v3 H4 => tup2 v3 (fun v5 v6 => asI .i64 v6 (fun v8 => B29 P x0 x11 x12 v5 v8 H4)))))
theorem q30 (P : PT) : QB Tryz.prog T0 237 o30 (En 237 k16 (B29 P)) k17 (B30 P) := fun _ _ _ _ _  => by kernel_rfl
noncomputable def o31 := ob Tryz.f3 [.r,.r,.r,.r,.r,.r,.r,.l]
def B31 (P : PT) (x0 : Value) (H : AHeap) : Prop :=
  AC Tryz.prog T0 13 [x0] H (fun v1 H2 => tup2 v1 (fun v3 v4 => agg2 v3 (fun v5 v6 => asI .i64 v5 (fun v7 => asI .i64 v4 (fun v9 => newK H2 [(Value.int .i64 0), (Value.slice none 0 0)] 26 (fun b10 H11 => stK H11 b10 0 [(Value.int .i64 v7), v6] (fun H12 => B30 P x0 b10 v9 H12)))))))
theorem q31 (P : PT) : QB Tryz.prog T0 237 o31 (En 237 k17 (B30 P)) k6 (B31 P) := fun _ _ _  => by kernel_rfl
abbrev k18 : Sk := [(0,.v),(4,.v),(8,.v),(10,.i .i64)]
noncomputable def o33 := ob Tryz.f3 [.r,.r,.r,.r,.r,.r,.l,.r,.l,.r,.r,.r,.l,.l,.r,.r]
def B33 (P : PT) (N32 : NTy k18 Pr) (x0 x4 x8 : Value) (x10 : Int) (H : AHeap) : Prop :=
  N32 x0 x4 x8 (IntKind.i64.wrap (x10 + 1)) H
theorem q33 (P : PT) (N32 : NTy k18 Pr) : QB Tryz.prog T0 237 o33 (En 237 k18 N32) k18 (B33 P N32) := fun _ _ _ _ _ _  => by kernel_rfl
noncomputable def o34 := ob Tryz.f3 [.r,.r,.r,.r,.r,.r,.l,.r,.l,.r,.r,.r,.l,.l,.r,.l,.l,.r,.l,.l]
def B34 (P : PT) (N32 : NTy k18 Pr) (H : AHeap) : Prop :=
  P (Value.bool false) H
theorem q34 (P : PT) (N32 : NTy k18 Pr) : QB Tryz.prog T0 237 o34 (ret P) k0 (B34 P N32) := fun _ _  => by kernel_rfl
noncomputable def o35 := ob Tryz.f3 [.r,.r,.r,.r,.r,.r,.l,.r,.l,.r,.r,.r,.l,.l,.r,.l,.l,.l]
def B35 (P : PT) (N32 : NTy k18 Pr) (x0 x4 x8 : Value) (x10 : Int) (H : AHeap) : Prop :=
  idxK x8 x10 1 (fun b1 o2 => ld1 H b1 o2 (fun v3 => lenK v3 (fun n4 => pif (((n4 : Int) : Int) != 1) (B34 P N32 H) (idxK x8 x10 1 (fun b5 o6 => ld1 H b5 o6 (fun v7 => idxK v7 0 1 (fun b8 o9 => ldI .i64 H b8 o9 (fun v10 => idxK x4 x10 1 (fun b11 o12 => ldI .i64 H b11 o12 (fun v13 => pif ((v10 : Int) != v13) (B34 P N32 H) (B33 P N32 x0 x4 x8 x10 H)))))))))))
theorem q35 (P : PT) (N32 : NTy k18 Pr) : QD Tryz.prog T0 237 o35 [(0, false), (1, false), (2, false), (3, false), (4, false), (5, false), (6, false), (7, false), (8, false), (9, false), (10, false), (11, false), (12, false), (13, false), (14, false), (15, false), (16, false), (17, false), (18, false)] (cnd 97 (En 237 k0 (B34 P N32)) (En 237 k18 (B33 P N32))) k18 (B35 P N32) := fun _ _ _ _ _ _  => by kernel_rfl
noncomputable def o36 := ob Tryz.f3 [.r,.r,.r,.r,.r,.r,.l,.r,.l,.r,.r,.r,.l,.l,.l,.l]
def B36 (P : PT) (N32 : NTy k18 Pr) (x0 x4 x8 : Value) (x10 : Int) (H : AHeap) : Prop :=
  lenK x8 (fun n1 => pif (decide ((x10 : Int) < (n1 : Int))) (B35 P N32 x0 x4 x8 x10 H) (B31 P x0 H))
theorem q36 (P : PT) (N32 : NTy k18 Pr) : QB Tryz.prog T0 237 o36 (cnd 76 (En 237 k18 (B35 P N32)) (En 237 k6 (B31 P))) k18 (B36 P N32) := fun _ _ _ _ _ _  => by kernel_rfl
def L32 (P : PT) (x0 x4 x8 : Value) (x10 : Int) (H : AHeap) : Prop :=
  ∃ (I : NTy k18 Pr) (μ : NTy k18 (AHeap → Nat)), I x0 x4 x8 x10 H ∧ ∀ y0 y4 y8 y10 G, I y0 y4 y8 y10 G → B36 P (fun z0 z4 z8 z10 G' => I z0 z4 z8 z10 G' ∧ μ z0 z4 z8 z10 G' < μ y0 y4 y8 y10 G) y0 y4 y8 y10 G
theorem l32 (P : PT) : LQ k18 (L32 P) (B36 P) := fun ⟨_,_,_,_,_⟩ _ ⟨I, μ, h0, hI⟩ => ⟨apT _ I, apT _ μ, h0, fun ⟨_,_,_,_,_⟩ _ h => hI _ _ _ _ _  h⟩
abbrev k19 : Sk := [(0,.v),(4,.v),(8,.v)]
noncomputable def o37 := ob Tryz.f3 [.r,.r,.r,.r,.r,.r,.l,.r,.l,.r,.r,.l]
def B37 (P : PT) (x0 x4 x8 : Value) (H : AHeap) : Prop :=
  L32 P x0 x4 x8 0 H
theorem q37 (P : PT) : QB Tryz.prog T0 237 o37 (En 237 k18 (L32 P)) k19 (B37 P) := fun _ _ _ _ _  => by kernel_rfl
noncomputable def o38 := ob Tryz.f3 [.r,.r,.r,.r,.r,.r,.l,.r,.l,.r,.l,.r,.l,.l]
def B38 (P : PT) (H : AHeap) : Prop :=
  P (Value.bool false) H
theorem q38 (P : PT) : QB Tryz.prog T0 237 o38 (ret P) k0 (B38 P) := fun _ _  => by kernel_rfl
abbrev k20 : Sk := [(0,.v),(4,.v),(8,.v),(9,.i .i64)]
noncomputable def o39 := ob Tryz.f3 [.r,.r,.r,.r,.r,.r,.l,.r,.l,.r,.l,.l]
def B39 (P : PT) (x0 x4 x8 : Value) (x9 : Int) (H : AHeap) : Prop :=
  pif ((x9 : Int) != 0) (B38 P H) (lenK x8 (fun n1 => lenK x4 (fun n2 => pif (((n1 : Int) : Int) != (n2 : Int)) (B38 P H) (B37 P x0 x4 x8 H))))
theorem q39 (P : PT) : QB Tryz.prog T0 237 o39 (cnd 72 (En 237 k0 (B38 P)) (En 237 k19 (B37 P))) k20 (B39 P) := fun _ _ _ _ _ _  => by kernel_rfl
abbrev k21 : Sk := [(0,.v),(3,.x),(4,.v)]
noncomputable def o40 := ob Tryz.f3 [.r,.r,.r,.r,.r,.r,.l,.r,.l,.l]
def B40 (P : PT) (x0 : Value) (x3 : Nat) (x4 : Value) (H : AHeap) : Prop :=
  ldI .i64 H x3 0 (fun v1 => ld1 H x3 1 (fun v2 => AC Tryz.prog T0 12 [(Value.agg ⟨[(Value.int .i64 v1), v2]⟩), (Value.int .i64 1)] H (fun v3 H4 => tup2 v3 (fun v5 v6 => asI .i64 v6 (fun v8 => B39 P x0 x4 v5 v8 H4)))))
theorem q40 (P : PT) : QB Tryz.prog T0 237 o40 (En 237 k20 (B39 P)) k21 (B40 P) := fun _ _ _ _ _  => by kernel_rfl
abbrev k22 : Sk := [(0,.v),(3,.x),(4,.v),(5,.i .i64)]
noncomputable def o41 := ob Tryz.f3 [.r,.r,.r,.r,.r,.r,.l,.l]
def B41 (P : PT) (x0 : Value) (x3 : Nat) (x4 : Value) (x5 : Int) (H : AHeap) : Prop :=
  pif ((x5 : Int) == 0) (B40 P x0 x3 x4 H) (B31 P x0 H)
theorem q41 (P : PT) : QB Tryz.prog T0 237 o41 (cnd 58 (En 237 k21 (B40 P)) (En 237 k6 (B31 P))) k22 (B41 P) := fun _ _ _ _ _ _  => by kernel_rfl
noncomputable def o42 := ob Tryz.f3 [.r,.r,.r,.r,.r,.l,.r,.l,.l]
def B42 (P : PT) (H : AHeap) : Prop :=
  P (Value.bool false) H
theorem q42 (P : PT) : QB Tryz.prog T0 237 o42 (ret P) k0 (B42 P) := fun _ _  => by kernel_rfl
abbrev k23 : Sk := [(0,.v),(3,.x),(4,.v),(5,.i .i64),(6,.v),(7,.i .i64)]
noncomputable def o43 := ob Tryz.f3 [.r,.r,.r,.r,.r,.l,.l]
def B43 (P : PT) (x0 : Value) (x3 : Nat) (x4 : Value) (x5 : Int) (x6 : Value) (x7 : Int) (H : AHeap) : Prop :=
  pif ((x5 : Int) != x7) (B42 P H) (AC Tryz.prog T0 11 [x4, x6] H (fun v1 H2 => asB v1 (fun v3 => pif (!v3) (B42 P H2) (B41 P x0 x3 x4 x5 H2))))
theorem q43 (P : PT) : QB Tryz.prog T0 237 o43 (cnd 56 (En 237 k0 (B42 P)) (En 237 k22 (B41 P))) k23 (B43 P) := fun _ _ _ _ _ _ _ _  => by kernel_rfl
noncomputable def o44 := ob Tryz.f3 [.r,.r,.r,.r,.l]
def B44 (P : PT) (x0 : Value) (x3 : Nat) (x4 : Value) (x5 : Int) (H : AHeap) : Prop :=
  ldI .i64 H x3 0 (fun v1 => ld1 H x3 1 (fun v2 => AC Tryz.prog T0 10 [(Value.agg ⟨[(Value.int .i64 v1), v2]⟩)] H (fun v3 H4 => tup2 v3 (fun v5 v6 => asI .i64 v6 (fun v8 => B43 P x0 x3 x4 x5 v5 v8 H4)))))
theorem q44 (P : PT) : QB Tryz.prog T0 237 o44 (En 237 k23 (B43 P)) k22 (B44 P) := fun _ _ _ _ _ _  => by kernel_rfl
abbrev k24 : Sk := [(0,.v),(3,.x)]
noncomputable def o45 := ob Tryz.f3 [.r,.r,.r,.l]
def B45 (P : PT) (x0 : Value) (x3 : Nat) (H : AHeap) : Prop :=
  ldI .i64 H x3 0 (fun v1 => ld1 H x3 1 (fun v2 => AC Tryz.prog T0 9 [(Value.agg ⟨[(Value.int .i64 v1), v2]⟩)] H (fun v3 H4 => tup2 v3 (fun v5 v6 => asI .i64 v6 (fun v8 => B44 P x0 x3 v5 v8 H4)))))
theorem q45 (P : PT) : QB Tryz.prog T0 237 o45 (En 237 k22 (B44 P)) k24 (B45 P) := fun _ _ _ _  => by kernel_rfl
noncomputable def o46 := ob Tryz.f3 [.r,.r,.l]
def B46 (P : PT) (x0 : Value) (H : AHeap) : Prop :=
  AC Tryz.prog T0 8 [x0] H (fun v1 H2 => agg2 v1 (fun v3 v4 => asI .i64 v3 (fun v5 => newK H2 [(Value.int .i64 0), (Value.slice none 0 0)] 26 (fun b7 H8 => stK H8 b7 0 [(Value.int .i64 v5), v4] (fun H9 => B45 P x0 b7 H9)))))
theorem q46 (P : PT) : QB Tryz.prog T0 237 o46 (En 237 k24 (B45 P)) k6 (B46 P) := fun _ _ _  => by kernel_rfl
noncomputable def o47 := ob Tryz.f3 [.r,.l,.r,.l,.l]
def B47 (P : PT) (H : AHeap) : Prop :=
  P (Value.bool true) H
theorem q47 (P : PT) : QB Tryz.prog T0 237 o47 (ret P) k0 (B47 P) := fun _ _  => by kernel_rfl
noncomputable def o48 := ob Tryz.f3 [.r,.l,.l]
def B48 (P : PT) (x0 : Value) (H : AHeap) : Prop :=
  AC Tryz.prog T0 7 [x0] H (fun v1 H2 => asB v1 (fun v3 => pif v3 (B47 P H2) (B46 P x0 H2)))
theorem q48 (P : PT) : QB Tryz.prog T0 237 o48 (cnd 35 (En 237 k0 (B47 P)) (En 237 k6 (B46 P))) k6 (B48 P) := fun _ _ _  => by kernel_rfl
noncomputable def o49 := ob Tryz.f3 [.l]
def B49 (P : PT) (x0 : Value) (H : AHeap) : Prop :=
  B48 P x0 H
theorem q49 (P : PT) : QB Tryz.prog T0 237 o49 (En 237 k6 (B48 P)) k6 (B49 P) := fun _ _ _  => by kernel_rfl
noncomputable def code : Code := (.seq (.region 0 ⟨o49⟩ false) (.seq (.seq (.region 1 ⟨o48⟩ false) (.cond (.tmp 35) (.seq (.region 2 ⟨o47⟩ false) .ret) .skip)) (.seq (.region 3 ⟨o46⟩ false) (.seq (.region 4 ⟨o45⟩ false) (.seq (.region 5 ⟨o44⟩ false) (.seq (.seq (.region 6 ⟨o43⟩ false) (.cond (.tmp 56) (.seq (.region 7 ⟨o42⟩ false) .ret) .skip)) (.seq (.seq (.region 8 ⟨o41⟩ false) (.cond (.tmp 58) (.seq (.region 9 ⟨o40⟩ false) (.seq (.seq (.region 10 ⟨o39⟩ false) (.cond (.tmp 72) (.seq (.region 11 ⟨o38⟩ false) .ret) .skip)) (.seq (.region 12 ⟨o37⟩ false) (.block 0 (.loop (.seq (.seq (.region 13 ⟨o36⟩ false) (.cond (.tmp 76) .skip (.exit 0))) (.seq (.block 1 (.seq (.region 15 ⟨o35⟩ true) (.cond (.tmp 97) (.seq (.region 16 ⟨o34⟩ false) .ret) .skip))) (.region 14 ⟨o33⟩ false)))))))) .skip)) (.seq (.region 17 ⟨o31⟩ false) (.seq (.region 18 ⟨o30⟩ false) (.seq (.region 19 ⟨o29⟩ false) (.seq (.seq (.region 20 ⟨o28⟩ false) (.cond (.tmp 123) (.seq (.region 21 ⟨o27⟩ false) .ret) .skip)) (.seq (.seq (.region 22 ⟨o26⟩ false) (.block 2 (.loop (.seq (.seq (.region 23 ⟨o25⟩ false) (.cond (.tmp 131) .skip (.exit 2))) (.seq (.block 3 (.seq (.region 25 ⟨o24⟩ true) (.seq (.region 26 ⟨o23⟩ false) (.cond (.tmp 157) (.seq (.region 27 ⟨o22⟩ false) .ret) .skip)))) (.region 24 ⟨o21⟩ false)))))) (.seq (.region 28 ⟨o19⟩ false) (.seq (.region 29 ⟨o18⟩ false) (.seq (.region 30 ⟨o17⟩ false) (.seq (.seq (.region 31 ⟨o16⟩ false) (.cond (.tmp 177) (.seq (.region 32 ⟨o15⟩ false) .ret) .skip)) (.seq (.seq (.region 33 ⟨o14⟩ false) (.cond (.tmp 179) (.seq (.region 34 ⟨o13⟩ false) (.seq (.region 35 ⟨o12⟩ false) (.cond (.tmp 202) (.seq (.region 36 ⟨o11⟩ false) .ret) .skip))) .skip)) (.seq (.region 37 ⟨o10⟩ false) (.seq (.region 38 ⟨o9⟩ false) (.seq (.region 39 ⟨o8⟩ false) (.seq (.seq (.region 40 ⟨o7⟩ false) (.cond (.tmp 222) (.seq (.region 41 ⟨o6⟩ false) .ret) .skip)) (.seq (.seq (.region 42 ⟨o5⟩ false) (.cond (.tmp 224) (.seq (.region 43 ⟨o4⟩ false) (.seq (.region 44 ⟨o3⟩ false) (.cond (.tmp 236) (.seq (.region 45 ⟨o2⟩ false) .ret) .skip))) .skip)) (.seq (.region 46 ⟨o1⟩ false) .ret)))))))))))))))))))))))
theorem body : Tryz.f3.body = some code := by kernel_rfl
theorem main (P : PT) : ∀ env H, (En 237 k6 (B49 P)) env H → AW Tryz.prog T0 code env H (mkQ (ret P) (fun _ _ _ => False) (ret P)) :=
  (r_seq (rB T0_ok (q49 P)) (r_seq (r_seq (rB T0_ok (q48 P)) (r_cond rfl (r_seq (rB T0_ok (q47 P)) r_ret) r_skip)) (r_seq (rB T0_ok (q46 P)) (r_seq (rB T0_ok (q45 P)) (r_seq (rB T0_ok (q44 P)) (r_seq (r_seq (rB T0_ok (q43 P)) (r_cond rfl (r_seq (rB T0_ok (q42 P)) r_ret) r_skip)) (r_seq (r_seq (rB T0_ok (q41 P)) (r_cond rfl (r_seq (rB T0_ok (q40 P)) (r_seq (r_seq (rB T0_ok (q39 P)) (r_cond rfl (r_seq (rB T0_ok (q38 P)) r_ret) r_skip)) (r_seq (rB T0_ok (q37 P)) (r_block (rL (l32 P) (fun N32 => (r_seq (r_seq (rB T0_ok (q36 P N32)) (r_cond rfl r_skip (r_exit (fun _ _ h => h)))) (r_seq (r_block (r_seq (rD T0_ok mixed [(0, false), (1, false), (2, false), (3, false), (4, false), (5, false), (6, false), (7, false), (8, false), (9, false), (10, false), (11, false), (12, false), (13, false), (14, false), (15, false), (16, false), (17, false), (18, false)] (by kernel_rfl) (q35 P N32)) (r_cond rfl (r_seq (rB T0_ok (q34 P N32)) r_ret) r_skip))) (rB T0_ok (q33 P N32)))))))))) r_skip)) (r_seq (rB T0_ok (q31 P)) (r_seq (rB T0_ok (q30 P)) (r_seq (rB T0_ok (q29 P)) (r_seq (r_seq (rB T0_ok (q28 P)) (r_cond rfl (r_seq (rB T0_ok (q27 P)) r_ret) r_skip)) (r_seq (r_seq (rB T0_ok (q26 P)) (r_block (rL (l20 P) (fun N20 => (r_seq (r_seq (rB T0_ok (q25 P N20)) (r_cond rfl r_skip (r_exit (fun _ _ h => h)))) (r_seq (r_block (r_seq (rD T0_ok mixed [(0, false), (1, false), (2, false), (3, false), (4, false), (5, false), (6, false), (7, false), (8, false), (9, false), (10, false)] (by kernel_rfl) (q24 P N20)) (r_seq (rB T0_ok (q23 P N20)) (r_cond rfl (r_seq (rB T0_ok (q22 P N20)) r_ret) r_skip)))) (rB T0_ok (q21 P N20)))))))) (r_seq (rB T0_ok (q19 P)) (r_seq (rB T0_ok (q18 P)) (r_seq (rB T0_ok (q17 P)) (r_seq (r_seq (rB T0_ok (q16 P)) (r_cond rfl (r_seq (rB T0_ok (q15 P)) r_ret) r_skip)) (r_seq (r_seq (rB T0_ok (q14 P)) (r_cond rfl (r_seq (rB T0_ok (q13 P)) (r_seq (rB T0_ok (q12 P)) (r_cond rfl (r_seq (rB T0_ok (q11 P)) r_ret) r_skip))) r_skip)) (r_seq (rB T0_ok (q10 P)) (r_seq (rB T0_ok (q9 P)) (r_seq (rB T0_ok (q8 P)) (r_seq (r_seq (rB T0_ok (q7 P)) (r_cond rfl (r_seq (rB T0_ok (q6 P)) r_ret) r_skip)) (r_seq (r_seq (rB T0_ok (q5 P)) (r_cond rfl (r_seq (rB T0_ok (q4 P)) (r_seq (rB T0_ok (q3 P)) (r_cond rfl (r_seq (rB T0_ok (q2 P)) r_ret) r_skip))) r_skip)) (r_seq (rB T0_ok (q1 P)) r_ret)))))))))))))))))))))))
theorem ac (P : PT) (x0 : Value) (H : AHeap) (h : B49 P x0 H) : AC Tryz.prog T0 3 [x0] H P :=
  r_fn T0_ok (c := code) (n := 237) Tryz.func3 body (by kernel_rfl) (main P) (En_mk (x0, ()) (by kernel_rfl) ⟨by kernel_rfl, trivial⟩ h)

end F3
-- loop.example/g01329/laws.big
namespace F7
noncomputable def ret (P : PT) : EP := retE T0 6 Tryz.f7 P
abbrev k0 : Sk := [(0,.v)]
noncomputable def o1 := ob Tryz.f7 [.r,.l]
def B1 (P : PT) (x0 : Value) (H : AHeap) : Prop :=
  lenK x0 (fun n1 => P (Value.bool (decide (((n1 : Int) : Int) > 4096))) H)
theorem q1 (P : PT) : QB Tryz.prog T0 6 o1 (ret P) k0 (B1 P) := fun _ _ _  => by kernel_rfl
noncomputable def o2 := ob Tryz.f7 [.l]
def B2 (P : PT) (x0 : Value) (H : AHeap) : Prop :=
  B1 P x0 H
theorem q2 (P : PT) : QB Tryz.prog T0 6 o2 (En 6 k0 (B1 P)) k0 (B2 P) := fun _ _ _  => by kernel_rfl
noncomputable def code : Code := (.seq (.region 0 ⟨o2⟩ false) (.seq (.region 1 ⟨o1⟩ false) .ret))
theorem body : Tryz.f7.body = some code := by kernel_rfl
theorem main (P : PT) : ∀ env H, (En 6 k0 (B2 P)) env H → AW Tryz.prog T0 code env H (mkQ (ret P) (fun _ _ _ => False) (ret P)) :=
  (r_seq (rB T0_ok (q2 P)) (r_seq (rB T0_ok (q1 P)) r_ret))
theorem ac (P : PT) (x0 : Value) (H : AHeap) (h : B2 P x0 H) : AC Tryz.prog T0 7 [x0] H P :=
  r_fn T0_ok (c := code) (n := 6) Tryz.func7 body (by kernel_rfl) (main P) (En_mk (x0, ()) (by kernel_rfl) ⟨by kernel_rfl, trivial⟩ h)

end F7
-- loop.example/g01329/spec.DrawBridgesOf
namespace F8
noncomputable def ret (P : PT) : EP := retE T0 25 Tryz.f8 P
abbrev k0 : Sk := [(2,.x),(3,.v)]
noncomputable def o1 := ob Tryz.f8 [.r,.r,.r,.l]
def B1 (P : PT) (x2 : Nat) (x3 : Value) (H : AHeap) : Prop :=
  AC Tryz.prog T0 71 [x3] H (fun v1 H2 => agg2 v1 (fun v3 v4 => asI .i64 v3 (fun v5 => stK H2 x2 0 [(Value.int .i64 v5), v4] (fun H7 => ldI .i64 H7 x2 0 (fun v8 => ld1 H7 x2 1 (fun v9 => P (Value.agg ⟨[(Value.int .i64 v8), v9]⟩) H7))))))
theorem q1 (P : PT) : QB Tryz.prog T0 25 o1 (ret P) k0 (B1 P) := fun _ _ _ _  => by kernel_rfl
abbrev k1 : Sk := [(2,.x),(3,.v),(4,.x)]
noncomputable def o2 := ob Tryz.f8 [.r,.r,.l,.r,.l,.r,.l]
def B2 (P : PT) (x2 : Nat) (x3 : Value) (x4 : Nat) (H : AHeap) : Prop :=
  ldI .i64 H x4 0 (fun v1 => ld1 H x4 1 (fun v2 => ldI .i64 H x4 0 (fun v3 => AC Tryz.prog T0 70 [x3, (Value.int .i64 v3)] H (fun v4 H5 => (ldI .i64 H5 x4 0 (fun v7 => ld1 H5 x4 1 (fun v8 => ((Value.agg ⟨[(Value.int .i64 v7), v8]⟩) = (Value.agg ⟨[(Value.int .i64 v1), v2]⟩)) ∧ (H5 = H5)))) ∧ (AC Tryz.prog T0 69 [(Value.agg ⟨[(Value.int .i64 v1), v2]⟩), v4] H5 (fun v9 H10 => agg2 v9 (fun v11 v12 => asI .i64 v11 (fun v13 => AC Tryz.prog T0 68 [x3, (Value.agg ⟨[(Value.int .i64 v13), v12]⟩)] H10 (fun v15 H16 => agg2 v15 (fun v17 v18 => asI .i64 v17 (fun v19 => stK H16 x2 0 [(Value.int .i64 v19), v18] (fun H21 => ldI .i64 H21 x2 0 (fun v22 => ld1 H21 x2 1 (fun v23 => P (Value.agg ⟨[(Value.int .i64 v22), v23]⟩) H21))))))))))))))
theorem q2 (P : PT) : QT Tryz.prog T0 25 o2 (.op 0 [] (.op 1 [] (.op 2 [] (.op 3 [] (.op 4 [] (.op 5 [1] (.op 6 [] (.op 7 [] (.op 8 [] .done))))))))) (ret P) k1 (B2 P) := fun _ _ _ _ _  => by kernel_rfl
noncomputable def o3 := ob Tryz.f8 [.r,.r,.l,.r,.l,.l]
def B3 (P : PT) (x2 : Nat) (x3 : Value) (H : AHeap) : Prop :=
  AC Tryz.prog T0 67 [(Value.string (⟨#[98, 114, 105, 100, 103, 101]⟩))] H (fun v1 H2 => tup2 v1 (fun v3 v4 => agg2 v3 (fun v5 v6 => asI .i64 v5 (fun v7 => asB v4 (fun v9 => newK H2 [(Value.int .i64 0), (Value.slice none 0 0)] 26 (fun b10 H11 => stK H11 b10 0 [(Value.int .i64 v7), v6] (fun H12 => B2 P x2 x3 b10 H12)))))))
theorem q3 (P : PT) : QB Tryz.prog T0 25 o3 (En 25 k1 (B2 P)) k0 (B3 P) := fun _ _ _ _  => by kernel_rfl
noncomputable def o4 := ob Tryz.f8 [.r,.r,.l,.l]
def B4 (P : PT) (x2 : Nat) (x3 : Value) (H : AHeap) : Prop :=
  AC Tryz.prog T0 66 [x3, (Value.int .i64 4)] H (fun v1 H2 => asI .i64 v1 (fun v3 => pif ((v3 : Int) == 0) (B3 P x2 x3 H2) (B1 P x2 x3 H2)))
theorem q4 (P : PT) : QB Tryz.prog T0 25 o4 (cnd 10 (En 25 k0 (B3 P)) (En 25 k0 (B1 P))) k0 (B4 P) := fun _ _ _ _  => by kernel_rfl
abbrev k2 : Sk := [(0,.v),(2,.x)]
noncomputable def o5 := ob Tryz.f8 [.r,.l]
def B5 (P : PT) (x0 : Value) (x2 : Nat) (H : AHeap) : Prop :=
  AC Tryz.prog T0 65 [x0] H (fun v1 H2 => B4 P x2 v1 H2)
theorem q5 (P : PT) : QB Tryz.prog T0 25 o5 (En 25 k0 (B4 P)) k2 (B5 P) := fun _ _ _ _  => by kernel_rfl
abbrev k3 : Sk := [(0,.v)]
noncomputable def o6 := ob Tryz.f8 [.l]
def B6 (P : PT) (x0 : Value) (H : AHeap) : Prop :=
  newK H [(Value.int .i64 0), (Value.slice none 0 0)] 26 (fun b1 H2 => B5 P x0 b1 H2)
theorem q6 (P : PT) : QB Tryz.prog T0 25 o6 (En 25 k2 (B5 P)) k3 (B6 P) := fun _ _ _  => by kernel_rfl
noncomputable def code : Code := (.seq (.region 0 ⟨o6⟩ false) (.seq (.region 1 ⟨o5⟩ false) (.seq (.seq (.region 2 ⟨o4⟩ false) (.cond (.tmp 10) (.seq (.region 3 ⟨o3⟩ false) (.seq (.region 4 ⟨o2⟩ true) .ret)) .skip)) (.seq (.region 5 ⟨o1⟩ false) .ret))))
theorem body : Tryz.f8.body = some code := by kernel_rfl
theorem main (P : PT) : ∀ env H, (En 25 k3 (B6 P)) env H → AW Tryz.prog T0 code env H (mkQ (ret P) (fun _ _ _ => False) (ret P)) :=
  (r_seq (rB T0_ok (q6 P)) (r_seq (rB T0_ok (q5 P)) (r_seq (r_seq (rB T0_ok (q4 P)) (r_cond rfl (r_seq (rB T0_ok (q3 P)) (r_seq (rT T0_ok mixed (.op 0 [] (.op 1 [] (.op 2 [] (.op 3 [] (.op 4 [] (.op 5 [1] (.op 6 [] (.op 7 [] (.op 8 [] .done))))))))) (by kernel_rfl) (q2 P)) r_ret)) r_skip)) (r_seq (rB T0_ok (q1 P)) r_ret))))
theorem ac (P : PT) (x0 : Value) (H : AHeap) (h : B6 P x0 H) : AC Tryz.prog T0 8 [x0] H P :=
  r_fn T0_ok (c := code) (n := 25) Tryz.func8 body (by kernel_rfl) (main P) (En_mk (x0, ()) (by kernel_rfl) ⟨by kernel_rfl, trivial⟩ h)

end F8
-- loop.example/g01329/impl.BridgesOf
namespace F9
noncomputable def ret (P : PT) : EP := retE T0 28 Tryz.f9 P
abbrev k0 : Sk := [(5,.v)]
noncomputable def o1 := ob Tryz.f9 [.r,.r,.r,.r,.l]
def B1 (P : PT) (x5 : Value) (H : AHeap) : Prop :=
  P (Value.tuple ⟨[x5, (Value.int .i64 0)]⟩) H
theorem q1 (P : PT) : QB Tryz.prog T0 28 o1 (ret P) k0 (B1 P) := fun _ _ _  => by kernel_rfl
abbrev k1 : Sk := [(1,.x),(5,.v),(14,.i .i64),(15,.i .i64)]
noncomputable def o3 := ob Tryz.f9 [.r,.r,.r,.l,.r,.l,.l,.r,.r,.r]
def B3 (P : PT) (N2 : NTy k1 Pr) (x1 : Nat) (x5 : Value) (x14 x15 : Int) (H : AHeap) : Prop :=
  N2 x1 x5 x14 (IntKind.i64.wrap (x15 + 1)) H
theorem q3 (P : PT) (N2 : NTy k1 Pr) : QB Tryz.prog T0 28 o3 (En 28 k1 N2) k1 (B3 P N2) := fun _ _ _ _ _ _  => by kernel_rfl
abbrev k2 : Sk := [(1,.x),(5,.v),(6,.i .i64),(14,.i .i64),(15,.i .i64)]
noncomputable def o4 := ob Tryz.f9 [.r,.r,.r,.l,.r,.l,.l,.r,.r,.l,.l,.r,.r,.l]
def B4 (P : PT) (N2 : NTy k1 Pr) (x1 : Nat) (x5 : Value) (x6 x14 x15 : Int) (H : AHeap) : Prop :=
  newK H [(Value.int .i64 x6)] 2 (fun b1 H2 => apK T0 2 H2 x5 (Value.slice (some ⟨b1, 0, none⟩) 1 (1 + 1)) (fun v3 H4 => B3 P N2 x1 v3 x14 x15 H4))
theorem q4 (P : PT) (N2 : NTy k1 Pr) : QB Tryz.prog T0 28 o4 (En 28 k1 (B3 P N2)) k2 (B4 P N2) := fun _ _ _ _ _ _ _  => by kernel_rfl
noncomputable def o5 := ob Tryz.f9 [.r,.r,.r,.l,.r,.l,.l,.r,.r,.l,.l,.r,.l]
def B5 (P : PT) (N2 : NTy k1 Pr) (x1 : Nat) (x5 : Value) (x6 x14 x15 : Int) (H : AHeap) : Prop :=
  ldI .i64 H x1 0 (fun v1 => ld1 H x1 1 (fun v2 => ((0 : Int) ≤ x6) ∧ (AC Tryz.prog T0 74 [(Value.agg ⟨[(Value.int .i64 v1), v2]⟩), (Value.int .u64 (IntKind.u64.wrap (1 * 2 ^ (min (Int.toNat x6) 64))))] H (fun v3 H4 => asB v3 (fun v5 => pif v5 (B4 P N2 x1 x5 x6 x14 x15 H4) (B3 P N2 x1 x5 x14 x15 H4))))))
theorem q5 (P : PT) (N2 : NTy k1 Pr) : QD Tryz.prog T0 28 o5 [(0, false), (1, false), (2, false), (3, false)] (cnd 21 (En 28 k2 (B4 P N2)) (En 28 k1 (B3 P N2))) k2 (B5 P N2) := fun _ _ _ _ _ _ _  => by kernel_rfl
noncomputable def o6 := ob Tryz.f9 [.r,.r,.r,.l,.r,.l,.l,.r,.r,.l,.l,.l]
def B6 (P : PT) (N2 : NTy k1 Pr) (x1 : Nat) (x5 : Value) (x14 x15 : Int) (H : AHeap) : Prop :=
  B5 P N2 x1 x5 x15 x14 x15 H
theorem q6 (P : PT) (N2 : NTy k1 Pr) : QB Tryz.prog T0 28 o6 (En 28 k2 (B5 P N2)) k1 (B6 P N2) := fun _ _ _ _ _ _  => by kernel_rfl
noncomputable def o7 := ob Tryz.f9 [.r,.r,.r,.l,.r,.l,.l,.l]
def B7 (P : PT) (N2 : NTy k1 Pr) (x1 : Nat) (x5 : Value) (x14 x15 : Int) (H : AHeap) : Prop :=
  pif (decide ((x15 : Int) < x14)) (B6 P N2 x1 x5 x14 x15 H) (B1 P x5 H)
theorem q7 (P : PT) (N2 : NTy k1 Pr) : QB Tryz.prog T0 28 o7 (cnd 16 (En 28 k1 (B6 P N2)) (En 28 k0 (B1 P))) k1 (B7 P N2) := fun _ _ _ _ _ _  => by kernel_rfl
def L2 (P : PT) (x1 : Nat) (x5 : Value) (x14 x15 : Int) (H : AHeap) : Prop :=
  ∃ (I : NTy k1 Pr) (μ : NTy k1 (AHeap → Nat)), I x1 x5 x14 x15 H ∧ ∀ y1 y5 y14 y15 G, I y1 y5 y14 y15 G → B7 P (fun z1 z5 z14 z15 G' => I z1 z5 z14 z15 G' ∧ μ z1 z5 z14 z15 G' < μ y1 y5 y14 y15 G) y1 y5 y14 y15 G
theorem l2 (P : PT) : LQ k1 (L2 P) (B7 P) := fun ⟨_,_,_,_,_⟩ _ ⟨I, μ, h0, hI⟩ => ⟨apT _ I, apT _ μ, h0, fun ⟨_,_,_,_,_⟩ _ h => hI _ _ _ _ _  h⟩
abbrev k3 : Sk := [(1,.x),(5,.v)]
noncomputable def o8 := ob Tryz.f9 [.r,.r,.r,.l,.l]
def B8 (P : PT) (x1 : Nat) (x5 : Value) (H : AHeap) : Prop :=
  ld1 H x1 1 (fun v1 => AC Tryz.prog T0 73 [v1] H (fun v2 H3 => asI .i64 v2 (fun v4 => L2 P x1 x5 v4 0 H3)))
theorem q8 (P : PT) : QB Tryz.prog T0 28 o8 (En 28 k1 (L2 P)) k3 (B8 P) := fun _ _ _ _  => by kernel_rfl
abbrev k4 : Sk := [(1,.x)]
noncomputable def o9 := ob Tryz.f9 [.r,.r,.l]
def B9 (P : PT) (x1 : Nat) (H : AHeap) : Prop :=
  B8 P x1 (Value.slice none 0 0) H
theorem q9 (P : PT) : QB Tryz.prog T0 28 o9 (En 28 k3 (B8 P)) k4 (B9 P) := fun _ _ _  => by kernel_rfl
abbrev k5 : Sk := [(4,.i .i64)]
noncomputable def o10 := ob Tryz.f9 [.r,.l,.r,.r,.l,.l]
def B10 (P : PT) (x4 : Int) (H : AHeap) : Prop :=
  P (Value.tuple ⟨[(Value.slice none 0 0), (Value.int .i64 x4)]⟩) H
theorem q10 (P : PT) : QB Tryz.prog T0 28 o10 (ret P) k5 (B10 P) := fun _ _ _  => by kernel_rfl
abbrev k6 : Sk := [(1,.x),(4,.i .i64)]
noncomputable def o11 := ob Tryz.f9 [.r,.l,.r,.l]
def B11 (P : PT) (x1 : Nat) (x4 : Int) (H : AHeap) : Prop :=
  pif ((x4 : Int) != 0) (B10 P x4 H) (B9 P x1 H)
theorem q11 (P : PT) : QB Tryz.prog T0 28 o11 (cnd 10 (En 28 k5 (B10 P)) (En 28 k4 (B9 P))) k6 (B11 P) := fun _ _ _ _  => by kernel_rfl
noncomputable def o12 := ob Tryz.f9 [.r,.l,.l]
def B12 (P : PT) (x1 : Nat) (H : AHeap) : Prop :=
  ldI .i64 H x1 0 (fun v1 => ld1 H x1 1 (fun v2 => AC Tryz.prog T0 72 [(Value.agg ⟨[(Value.int .i64 v1), v2]⟩), (Value.bool true)] H (fun v3 H4 => asI .i64 v3 (fun v5 => B11 P x1 v5 H4))))
theorem q12 (P : PT) : QB Tryz.prog T0 28 o12 (En 28 k6 (B11 P)) k4 (B12 P) := fun _ _ _  => by kernel_rfl
abbrev k7 : Sk := [(0,.g [.i,.v])]
noncomputable def o13 := ob Tryz.f9 [.l]
def B13 (P : PT) (x0a : Int) (x0b : Value) (H : AHeap) : Prop :=
  newK H [(Value.int .i64 x0a), x0b] 26 (fun b1 H2 => B12 P b1 H2)
theorem q13 (P : PT) : QB Tryz.prog T0 28 o13 (En 28 k4 (B12 P)) k7 (B13 P) := fun _ _ _ _  => by kernel_rfl
noncomputable def code : Code := (.seq (.region 0 ⟨o13⟩ false) (.seq (.seq (.region 1 ⟨o12⟩ false) (.seq (.region 2 ⟨o11⟩ false) (.cond (.tmp 10) (.seq (.region 3 ⟨o10⟩ false) .ret) .skip))) (.seq (.region 4 ⟨o9⟩ false) (.seq (.seq (.region 5 ⟨o8⟩ false) (.block 0 (.loop (.seq (.region 6 ⟨o7⟩ false) (.seq (.cond (.tmp 16) .skip (.exit 0)) (.seq (.block 1 (.seq (.region 7 ⟨o6⟩ false) (.seq (.region 8 ⟨o5⟩ true) (.cond (.tmp 21) (.region 9 ⟨o4⟩ false) .skip)))) (.region 10 ⟨o3⟩ false))))))) (.seq (.region 11 ⟨o1⟩ false) .ret)))))
theorem body : Tryz.f9.body = some code := by kernel_rfl
theorem main (P : PT) : ∀ env H, (En 28 k7 (B13 P)) env H → AW Tryz.prog T0 code env H (mkQ (ret P) (fun _ _ _ => False) (ret P)) :=
  (r_seq (rB T0_ok (q13 P)) (r_seq (r_seq (rB T0_ok (q12 P)) (r_seq (rB T0_ok (q11 P)) (r_cond rfl (r_seq (rB T0_ok (q10 P)) r_ret) r_skip))) (r_seq (rB T0_ok (q9 P)) (r_seq (r_seq (rB T0_ok (q8 P)) (r_block (rL (l2 P) (fun N2 => (r_seq (rB T0_ok (q7 P N2)) (r_seq (r_cond rfl r_skip (r_exit (fun _ _ h => h))) (r_seq (r_block (r_seq (rB T0_ok (q6 P N2)) (r_seq (rD T0_ok mixed [(0, false), (1, false), (2, false), (3, false)] (by kernel_rfl) (q5 P N2)) (r_cond rfl (rB T0_ok (q4 P N2)) r_skip)))) (rB T0_ok (q3 P N2))))))))) (r_seq (rB T0_ok (q1 P)) r_ret)))))
theorem ac (P : PT) (x0a : Int) (x0b : Value) (H : AHeap) (h : B13 P x0a x0b H) : AC Tryz.prog T0 9 [(Value.agg ⟨[(Value.int .i64 x0a), x0b]⟩)] H P :=
  r_fn T0_ok (c := code) (n := 28) Tryz.func9 body (by kernel_rfl) (main P) (En_mk (x0a, x0b, ()) (by kernel_rfl) ⟨by kernel_rfl, trivial⟩ h)

end F9
-- loop.example/g01329/spec.BridgesOf
namespace F10
noncomputable def ret (P : PT) : EP := retE T0 9 Tryz.f10 P
abbrev k0 : Sk := [(1,.x)]
noncomputable def o1 := ob Tryz.f10 [.r,.r,.l]
def B1 (P : PT) (x1 : Nat) (H : AHeap) : Prop :=
  ldI .i64 H x1 0 (fun v1 => ld1 H x1 1 (fun v2 => AC Tryz.prog T0 76 [(Value.agg ⟨[(Value.int .i64 v1), v2]⟩)] H (fun v3 H4 => P (Value.tuple ⟨[v3, (Value.int .i64 0)]⟩) H4)))
theorem q1 (P : PT) : QB Tryz.prog T0 9 o1 (ret P) k0 (B1 P) := fun _ _ _  => by kernel_rfl
abbrev k1 : Sk := []
noncomputable def o2 := ob Tryz.f10 [.r,.l,.r,.l,.l]
def B2 (P : PT) (H : AHeap) : Prop :=
  P (Value.tuple ⟨[(Value.slice none 0 0), (Value.int .i64 1)]⟩) H
theorem q2 (P : PT) : QB Tryz.prog T0 9 o2 (ret P) k1 (B2 P) := fun _ _  => by kernel_rfl
noncomputable def o3 := ob Tryz.f10 [.r,.l,.l]
def B3 (P : PT) (x1 : Nat) (H : AHeap) : Prop :=
  ldI .i64 H x1 0 (fun v1 => ld1 H x1 1 (fun v2 => AC Tryz.prog T0 75 [(Value.agg ⟨[(Value.int .i64 v1), v2]⟩)] H (fun v3 H4 => asB v3 (fun v5 => pif (!v5) (B2 P H4) (B1 P x1 H4)))))
theorem q3 (P : PT) : QB Tryz.prog T0 9 o3 (cnd 6 (En 9 k1 (B2 P)) (En 9 k0 (B1 P))) k0 (B3 P) := fun _ _ _  => by kernel_rfl
abbrev k2 : Sk := [(0,.g [.i,.v])]
noncomputable def o4 := ob Tryz.f10 [.l]
def B4 (P : PT) (x0a : Int) (x0b : Value) (H : AHeap) : Prop :=
  newK H [(Value.int .i64 x0a), x0b] 26 (fun b1 H2 => B3 P b1 H2)
theorem q4 (P : PT) : QB Tryz.prog T0 9 o4 (En 9 k0 (B3 P)) k2 (B4 P) := fun _ _ _ _  => by kernel_rfl
noncomputable def code : Code := (.seq (.region 0 ⟨o4⟩ false) (.seq (.seq (.region 1 ⟨o3⟩ false) (.cond (.tmp 6) (.seq (.region 2 ⟨o2⟩ false) .ret) .skip)) (.seq (.region 3 ⟨o1⟩ false) .ret)))
theorem body : Tryz.f10.body = some code := by kernel_rfl
theorem main (P : PT) : ∀ env H, (En 9 k2 (B4 P)) env H → AW Tryz.prog T0 code env H (mkQ (ret P) (fun _ _ _ => False) (ret P)) :=
  (r_seq (rB T0_ok (q4 P)) (r_seq (r_seq (rB T0_ok (q3 P)) (r_cond rfl (r_seq (rB T0_ok (q2 P)) r_ret) r_skip)) (r_seq (rB T0_ok (q1 P)) r_ret)))
theorem ac (P : PT) (x0a : Int) (x0b : Value) (H : AHeap) (h : B4 P x0a x0b H) : AC Tryz.prog T0 10 [(Value.agg ⟨[(Value.int .i64 x0a), x0b]⟩)] H P :=
  r_fn T0_ok (c := code) (n := 9) Tryz.func10 body (by kernel_rfl) (main P) (En_mk (x0a, x0b, ()) (by kernel_rfl) ⟨by kernel_rfl, trivial⟩ h)

end F10
-- loop.example/g01329/laws.likeInts
namespace F11
noncomputable def ret (P : PT) : EP := retE T0 26 Tryz.f11 P
abbrev k0 : Sk := []
noncomputable def o1 := ob Tryz.f11 [.r,.r,.r,.l]
def B1 (P : PT) (H : AHeap) : Prop :=
  P (Value.bool true) H
theorem q1 (P : PT) : QB Tryz.prog T0 26 o1 (ret P) k0 (B1 P) := fun _ _  => by kernel_rfl
abbrev k1 : Sk := [(0,.v),(1,.v),(5,.i .i64)]
noncomputable def o3 := ob Tryz.f11 [.r,.r,.l,.r,.l,.l,.r,.r]
def B3 (P : PT) (N2 : NTy k1 Pr) (x0 x1 : Value) (x5 : Int) (H : AHeap) : Prop :=
  N2 x0 x1 (IntKind.i64.wrap (x5 + 1)) H
theorem q3 (P : PT) (N2 : NTy k1 Pr) : QB Tryz.prog T0 26 o3 (En 26 k1 N2) k1 (B3 P N2) := fun _ _ _ _ _  => by kernel_rfl
noncomputable def o4 := ob Tryz.f11 [.r,.r,.l,.r,.l,.l,.r,.l,.l,.r,.l,.l]
def B4 (P : PT) (N2 : NTy k1 Pr) (H : AHeap) : Prop :=
  P (Value.bool false) H
theorem q4 (P : PT) (N2 : NTy k1 Pr) : QB Tryz.prog T0 26 o4 (ret P) k0 (B4 P N2) := fun _ _  => by kernel_rfl
noncomputable def o5 := ob Tryz.f11 [.r,.r,.l,.r,.l,.l,.r,.l,.l,.l]
def B5 (P : PT) (N2 : NTy k1 Pr) (x0 x1 : Value) (x5 : Int) (H : AHeap) : Prop :=
  idxK x0 x5 1 (fun b1 o2 => ldI .i64 H b1 o2 (fun v3 => idxK x1 x5 1 (fun b4 o5 => ldI .i64 H b4 o5 (fun v6 => pif ((v3 : Int) != v6) (B4 P N2 H) (B3 P N2 x0 x1 x5 H)))))
theorem q5 (P : PT) (N2 : NTy k1 Pr) : QD Tryz.prog T0 26 o5 [(0, false), (1, false), (2, false), (3, false), (4, false), (5, false), (6, false), (7, false), (8, false)] (cnd 25 (En 26 k0 (B4 P N2)) (En 26 k1 (B3 P N2))) k1 (B5 P N2) := fun _ _ _ _ _  => by kernel_rfl
noncomputable def o6 := ob Tryz.f11 [.r,.r,.l,.r,.l,.l,.l,.l]
def B6 (P : PT) (N2 : NTy k1 Pr) (x0 x1 : Value) (x5 : Int) (H : AHeap) : Prop :=
  lenK x0 (fun n1 => pif (decide ((x5 : Int) < (n1 : Int))) (B5 P N2 x0 x1 x5 H) (B1 P H))
theorem q6 (P : PT) (N2 : NTy k1 Pr) : QB Tryz.prog T0 26 o6 (cnd 14 (En 26 k1 (B5 P N2)) (En 26 k0 (B1 P))) k1 (B6 P N2) := fun _ _ _ _ _  => by kernel_rfl
def L2 (P : PT) (x0 x1 : Value) (x5 : Int) (H : AHeap) : Prop :=
  ∃ (I : NTy k1 Pr) (μ : NTy k1 (AHeap → Nat)), I x0 x1 x5 H ∧ ∀ y0 y1 y5 G, I y0 y1 y5 G → B6 P (fun z0 z1 z5 G' => I z0 z1 z5 G' ∧ μ z0 z1 z5 G' < μ y0 y1 y5 G) y0 y1 y5 G
theorem l2 (P : PT) : LQ k1 (L2 P) (B6 P) := fun ⟨_,_,_,_⟩ _ ⟨I, μ, h0, hI⟩ => ⟨apT _ I, apT _ μ, h0, fun ⟨_,_,_,_⟩ _ h => hI _ _ _ _  h⟩
abbrev k2 : Sk := [(0,.v),(1,.v)]
noncomputable def o7 := ob Tryz.f11 [.r,.r,.l,.l]
def B7 (P : PT) (x0 x1 : Value) (H : AHeap) : Prop :=
  L2 P x0 x1 0 H
theorem q7 (P : PT) : QB Tryz.prog T0 26 o7 (En 26 k1 (L2 P)) k2 (B7 P) := fun _ _ _ _  => by kernel_rfl
noncomputable def o8 := ob Tryz.f11 [.r,.l,.r,.l,.l]
def B8 (P : PT) (H : AHeap) : Prop :=
  P (Value.bool false) H
theorem q8 (P : PT) : QB Tryz.prog T0 26 o8 (ret P) k0 (B8 P) := fun _ _  => by kernel_rfl
noncomputable def o9 := ob Tryz.f11 [.r,.l,.l]
def B9 (P : PT) (x0 x1 : Value) (H : AHeap) : Prop :=
  lenK x0 (fun n1 => lenK x1 (fun n2 => pif (((n1 : Int) : Int) != (n2 : Int)) (B8 P H) (B7 P x0 x1 H)))
theorem q9 (P : PT) : QB Tryz.prog T0 26 o9 (cnd 10 (En 26 k0 (B8 P)) (En 26 k2 (B7 P))) k2 (B9 P) := fun _ _ _ _  => by kernel_rfl
noncomputable def o10 := ob Tryz.f11 [.l]
def B10 (P : PT) (x0 x1 : Value) (H : AHeap) : Prop :=
  B9 P x0 x1 H
theorem q10 (P : PT) : QB Tryz.prog T0 26 o10 (En 26 k2 (B9 P)) k2 (B10 P) := fun _ _ _ _  => by kernel_rfl
noncomputable def code : Code := (.seq (.region 0 ⟨o10⟩ false) (.seq (.seq (.region 1 ⟨o9⟩ false) (.cond (.tmp 10) (.seq (.region 2 ⟨o8⟩ false) .ret) .skip)) (.seq (.seq (.region 3 ⟨o7⟩ false) (.block 0 (.loop (.seq (.seq (.region 4 ⟨o6⟩ false) (.cond (.tmp 14) .skip (.exit 0))) (.seq (.block 1 (.seq (.region 6 ⟨o5⟩ true) (.cond (.tmp 25) (.seq (.region 7 ⟨o4⟩ false) .ret) .skip))) (.region 5 ⟨o3⟩ false)))))) (.seq (.region 8 ⟨o1⟩ false) .ret))))
theorem body : Tryz.f11.body = some code := by kernel_rfl
theorem main (P : PT) : ∀ env H, (En 26 k2 (B10 P)) env H → AW Tryz.prog T0 code env H (mkQ (ret P) (fun _ _ _ => False) (ret P)) :=
  (r_seq (rB T0_ok (q10 P)) (r_seq (r_seq (rB T0_ok (q9 P)) (r_cond rfl (r_seq (rB T0_ok (q8 P)) r_ret) r_skip)) (r_seq (r_seq (rB T0_ok (q7 P)) (r_block (rL (l2 P) (fun N2 => (r_seq (r_seq (rB T0_ok (q6 P N2)) (r_cond rfl r_skip (r_exit (fun _ _ h => h)))) (r_seq (r_block (r_seq (rD T0_ok mixed [(0, false), (1, false), (2, false), (3, false), (4, false), (5, false), (6, false), (7, false), (8, false)] (by kernel_rfl) (q5 P N2)) (r_cond rfl (r_seq (rB T0_ok (q4 P N2)) r_ret) r_skip))) (rB T0_ok (q3 P N2)))))))) (r_seq (rB T0_ok (q1 P)) r_ret))))
theorem ac (P : PT) (x0 x1 : Value) (H : AHeap) (h : B10 P x0 x1 H) : AC Tryz.prog T0 11 [x0, x1] H P :=
  r_fn T0_ok (c := code) (n := 26) Tryz.func11 body (by kernel_rfl) (main P) (En_mk (x0, x1, ()) (by kernel_rfl) ⟨by kernel_rfl, by kernel_rfl, trivial⟩ h)

end F11
-- loop.example/g01329/impl.BondsOfSize
namespace F12
noncomputable def ret (P : PT) : EP := retE T0 22 Tryz.f12 P
abbrev k0 : Sk := [(7,.x)]
noncomputable def o1 := ob Tryz.f12 [.r,.r,.r,.r,.l]
def B1 (P : PT) (x7 : Nat) (H : AHeap) : Prop :=
  ld1 H x7 0 (fun v1 => P (Value.tuple ⟨[v1, (Value.int .i64 0)]⟩) H)
theorem q1 (P : PT) : QB Tryz.prog T0 22 o1 (ret P) k0 (B1 P) := fun _ _ _  => by kernel_rfl
abbrev k1 : Sk := [(1,.i .i64),(2,.x),(7,.x)]
noncomputable def o2 := ob Tryz.f12 [.r,.r,.r,.l]
def B2 (P : PT) (x1 : Int) (x2 x7 : Nat) (H : AHeap) : Prop :=
  ld1 H x2 1 (fun v1 => AC Tryz.prog T0 73 [v1] H (fun v2 H3 => asI .i64 v2 (fun v4 => AC Tryz.prog T0 78 [(Value.int .i64 v4), (Value.int .i64 x1), (Value.func (.func 79) ⟨[]⟩ ⟨[(Value.pointer (some ⟨x2, 0, none⟩)), (Value.pointer (some ⟨x7, 0, none⟩))]⟩)] H3 (fun v5 H6 => asB v5 (fun v7 => B1 P x7 H6)))))
theorem q2 (P : PT) : QB Tryz.prog T0 22 o2 (En 22 k0 (B1 P)) k1 (B2 P) := fun _ _ _ _ _  => by kernel_rfl
abbrev k2 : Sk := [(1,.i .i64),(2,.x)]
noncomputable def o3 := ob Tryz.f12 [.r,.r,.l]
def B3 (P : PT) (x1 : Int) (x2 : Nat) (H : AHeap) : Prop :=
  newK H [(Value.slice none 0 0)] 32 (fun b1 H2 => B2 P x1 x2 b1 H2)
theorem q3 (P : PT) : QB Tryz.prog T0 22 o3 (En 22 k1 (B2 P)) k2 (B3 P) := fun _ _ _ _  => by kernel_rfl
abbrev k3 : Sk := [(6,.i .i64)]
noncomputable def o4 := ob Tryz.f12 [.r,.l,.r,.r,.l,.l]
def B4 (P : PT) (x6 : Int) (H : AHeap) : Prop :=
  P (Value.tuple ⟨[(Value.slice none 0 0), (Value.int .i64 x6)]⟩) H
theorem q4 (P : PT) : QB Tryz.prog T0 22 o4 (ret P) k3 (B4 P) := fun _ _ _  => by kernel_rfl
abbrev k4 : Sk := [(1,.i .i64),(2,.x),(6,.i .i64)]
noncomputable def o5 := ob Tryz.f12 [.r,.l,.r,.l]
def B5 (P : PT) (x1 : Int) (x2 : Nat) (x6 : Int) (H : AHeap) : Prop :=
  pif ((x6 : Int) != 0) (B4 P x6 H) (B3 P x1 x2 H)
theorem q5 (P : PT) : QB Tryz.prog T0 22 o5 (cnd 13 (En 22 k3 (B4 P)) (En 22 k2 (B3 P))) k4 (B5 P) := fun _ _ _ _ _  => by kernel_rfl
noncomputable def o6 := ob Tryz.f12 [.r,.l,.l]
def B6 (P : PT) (x1 : Int) (x2 : Nat) (H : AHeap) : Prop :=
  ldI .i64 H x2 0 (fun v1 => ld1 H x2 1 (fun v2 => AC Tryz.prog T0 77 [(Value.int .i64 x1), (Value.int .i64 1), (Value.int .i64 4)] H (fun v3 H4 => asB v3 (fun v5 => (AHeap.le H H4) ∧ (AC Tryz.prog T0 72 [(Value.agg ⟨[(Value.int .i64 v1), v2]⟩), (Value.bool v5)] H4 (fun v6 H7 => asI .i64 v6 (fun v8 => B5 P x1 x2 v8 H7)))))))
theorem q6 (P : PT) : QD Tryz.prog T0 22 o6 [(0, false), (1, false), (2, true), (3, false), (4, false)] (En 22 k4 (B5 P)) k2 (B6 P) := fun _ _ _ _  => by kernel_rfl
abbrev k5 : Sk := [(0,.g [.i,.v]),(1,.i .i64)]
noncomputable def o7 := ob Tryz.f12 [.l]
def B7 (P : PT) (x0a : Int) (x0b : Value) (x1 : Int) (H : AHeap) : Prop :=
  newK H [(Value.int .i64 x0a), x0b] 26 (fun b1 H2 => B6 P x1 b1 H2)
theorem q7 (P : PT) : QB Tryz.prog T0 22 o7 (En 22 k2 (B6 P)) k5 (B7 P) := fun _ _ _ _ _  => by kernel_rfl
noncomputable def code : Code := (.seq (.region 0 ⟨o7⟩ false) (.seq (.seq (.region 1 ⟨o6⟩ true) (.seq (.region 2 ⟨o5⟩ false) (.cond (.tmp 13) (.seq (.region 3 ⟨o4⟩ false) .ret) .skip))) (.seq (.region 4 ⟨o3⟩ false) (.seq (.region 5 ⟨o2⟩ false) (.seq (.region 6 ⟨o1⟩ false) .ret)))))
theorem body : Tryz.f12.body = some code := by kernel_rfl
theorem main (P : PT) : ∀ env H, (En 22 k5 (B7 P)) env H → AW Tryz.prog T0 code env H (mkQ (ret P) (fun _ _ _ => False) (ret P)) :=
  (r_seq (rB T0_ok (q7 P)) (r_seq (r_seq (rD T0_ok mixed [(0, false), (1, false), (2, true), (3, false), (4, false)] (by kernel_rfl) (q6 P)) (r_seq (rB T0_ok (q5 P)) (r_cond rfl (r_seq (rB T0_ok (q4 P)) r_ret) r_skip))) (r_seq (rB T0_ok (q3 P)) (r_seq (rB T0_ok (q2 P)) (r_seq (rB T0_ok (q1 P)) r_ret)))))
theorem ac (P : PT) (x0a : Int) (x0b : Value) (x1 : Int) (H : AHeap) (h : B7 P x0a x0b x1 H) : AC Tryz.prog T0 12 [(Value.agg ⟨[(Value.int .i64 x0a), x0b]⟩), (Value.int .i64 x1)] H P :=
  r_fn T0_ok (c := code) (n := 22) Tryz.func12 body (by kernel_rfl) (main P) (En_mk (x0a, x0b, x1, ()) (by kernel_rfl) ⟨by kernel_rfl, by kernel_rfl, trivial⟩ h)

end F12
-- loop.example/g01329/spec.DrawBondsOfSize
namespace F13
noncomputable def ret (P : PT) : EP := retE T0 19 Tryz.f13 P
abbrev k0 : Sk := [(2,.x),(4,.v),(5,.x)]
noncomputable def o1 := ob Tryz.f13 [.r,.r,.r,.l]
def B1 (P : PT) (x2 : Nat) (x4 : Value) (x5 : Nat) (H : AHeap) : Prop :=
  ldI .i64 H x5 0 (fun v1 => ld1 H x5 1 (fun v2 => AC Tryz.prog T0 84 [x4, (Value.int .i64 3)] H (fun v3 H4 => asI .i64 v3 (fun v5 => (ldI .i64 H4 x5 0 (fun v6 => ld1 H4 x5 1 (fun v7 => ((Value.agg ⟨[(Value.int .i64 v6), v7]⟩) = (Value.agg ⟨[(Value.int .i64 v1), v2]⟩)) ∧ (H4 = H4)))) ∧ (newK H4 [(Value.int .i64 1), (Value.int .i64 2), (Value.int .i64 3), (Value.int .i64 3), (Value.int .i64 2), (Value.int .i64 0), (Value.int .i64 5), (Value.int .i64 (IntKind.i64.wrap (1 + v5)))] 2 (fun b8 H9 => AC Tryz.prog T0 83 [x4, (Value.slice (some ⟨b8, 0, none⟩) 8 (8 + 1))] H9 (fun v10 H11 => asI .i64 v10 (fun v12 => (ldI .i64 H11 x5 0 (fun v13 => ld1 H11 x5 1 (fun v14 => ((Value.agg ⟨[(Value.int .i64 v13), v14]⟩) = (Value.agg ⟨[(Value.int .i64 v1), v2]⟩)) ∧ (H11 = H11)))) ∧ (stK H11 x2 0 [(Value.int .i64 v1), v2] (fun H15 => ldI .i64 H15 x2 0 (fun v16 => ld1 H15 x2 1 (fun v17 => P (Value.tuple ⟨[(Value.agg ⟨[(Value.int .i64 v16), v17]⟩), (Value.int .i64 v12)]⟩) H15))))))))))))
theorem q1 (P : PT) : QT Tryz.prog T0 19 o1 (.op 0 [] (.op 1 [] (.op 2 [] (.op 3 [0] (.op 4 [] (.op 5 [] (.op 6 [0] (.op 7 [] (.op 8 [] .done))))))))) (ret P) k0 (B1 P) := fun _ _ _ _ _  => by kernel_rfl
abbrev k1 : Sk := [(2,.x),(4,.v)]
noncomputable def o2 := ob Tryz.f13 [.r,.r,.l]
def B2 (P : PT) (x2 : Nat) (x4 : Value) (H : AHeap) : Prop :=
  AC Tryz.prog T0 82 [x4] H (fun v1 H2 => agg2 v1 (fun v3 v4 => asI .i64 v3 (fun v5 => AC Tryz.prog T0 68 [x4, (Value.agg ⟨[(Value.int .i64 v5), v4]⟩)] H2 (fun v7 H8 => agg2 v7 (fun v9 v10 => asI .i64 v9 (fun v11 => newK H8 [(Value.int .i64 0), (Value.slice none 0 0)] 26 (fun b13 H14 => stK H14 b13 0 [(Value.int .i64 v11), v10] (fun H15 => B1 P x2 x4 b13 H15))))))))
theorem q2 (P : PT) : QB Tryz.prog T0 19 o2 (En 19 k0 (B1 P)) k1 (B2 P) := fun _ _ _ _  => by kernel_rfl
abbrev k2 : Sk := [(0,.v),(2,.x)]
noncomputable def o3 := ob Tryz.f13 [.r,.l]
def B3 (P : PT) (x0 : Value) (x2 : Nat) (H : AHeap) : Prop :=
  AC Tryz.prog T0 65 [x0] H (fun v1 H2 => B2 P x2 v1 H2)
theorem q3 (P : PT) : QB Tryz.prog T0 19 o3 (En 19 k1 (B2 P)) k2 (B3 P) := fun _ _ _ _  => by kernel_rfl
abbrev k3 : Sk := [(0,.v)]
noncomputable def o4 := ob Tryz.f13 [.l]
def B4 (P : PT) (x0 : Value) (H : AHeap) : Prop :=
  newK H [(Value.int .i64 0), (Value.slice none 0 0)] 26 (fun b1 H2 => B3 P x0 b1 H2)
theorem q4 (P : PT) : QB Tryz.prog T0 19 o4 (En 19 k2 (B3 P)) k3 (B4 P) := fun _ _ _  => by kernel_rfl
noncomputable def code : Code := (.seq (.region 0 ⟨o4⟩ false) (.seq (.region 1 ⟨o3⟩ false) (.seq (.region 2 ⟨o2⟩ false) (.seq (.region 3 ⟨o1⟩ true) .ret))))
theorem body : Tryz.f13.body = some code := by kernel_rfl
theorem main (P : PT) : ∀ env H, (En 19 k3 (B4 P)) env H → AW Tryz.prog T0 code env H (mkQ (ret P) (fun _ _ _ => False) (ret P)) :=
  (r_seq (rB T0_ok (q4 P)) (r_seq (rB T0_ok (q3 P)) (r_seq (rB T0_ok (q2 P)) (r_seq (rT T0_ok mixed (.op 0 [] (.op 1 [] (.op 2 [] (.op 3 [0] (.op 4 [] (.op 5 [] (.op 6 [0] (.op 7 [] (.op 8 [] .done))))))))) (by kernel_rfl) (q1 P)) r_ret))))
theorem ac (P : PT) (x0 : Value) (H : AHeap) (h : B4 P x0 H) : AC Tryz.prog T0 13 [x0] H P :=
  r_fn T0_ok (c := code) (n := 19) Tryz.func13 body (by kernel_rfl) (main P) (En_mk (x0, ()) (by kernel_rfl) ⟨by kernel_rfl, trivial⟩ h)

end F13
-- loop.example/g01329/spec.BondsOfSize
namespace F14
noncomputable def ret (P : PT) : EP := retE T0 43 Tryz.f14 P
abbrev k0 : Sk := [(7,.v)]
noncomputable def o1 := ob Tryz.f14 [.r,.r,.r,.r,.l]
def B1 (P : PT) (x7 : Value) (H : AHeap) : Prop :=
  P (Value.tuple ⟨[x7, (Value.int .i64 0)]⟩) H
theorem q1 (P : PT) : QB Tryz.prog T0 43 o1 (ret P) k0 (B1 P) := fun _ _ _  => by kernel_rfl
abbrev k1 : Sk := [(2,.x),(6,.v),(7,.v),(8,.i .i64)]
noncomputable def o3 := ob Tryz.f14 [.r,.r,.r,.l,.r,.l,.l,.r,.r]
def B3 (P : PT) (N2 : NTy k1 Pr) (x2 : Nat) (x6 x7 : Value) (x8 : Int) (H : AHeap) : Prop :=
  N2 x2 x6 x7 (IntKind.i64.wrap (x8 + 1)) H
theorem q3 (P : PT) (N2 : NTy k1 Pr) : QB Tryz.prog T0 43 o3 (En 43 k1 N2) k1 (B3 P N2) := fun _ _ _ _ _ _  => by kernel_rfl
noncomputable def o4 := ob Tryz.f14 [.r,.r,.r,.l,.r,.l,.l,.r,.l,.l,.r,.l]
def B4 (P : PT) (N2 : NTy k1 Pr) (x2 : Nat) (x6 x7 : Value) (x8 : Int) (H : AHeap) : Prop :=
  idxK x6 x8 1 (fun b1 o2 => ld1 H b1 o2 (fun v3 => pif (Value.oneCell' v3) (newK H [v3] 28 (fun b4 H5 => apK T0 28 H5 x7 (Value.slice (some ⟨b4, 0, none⟩) 1 (1 + 1)) (fun v6 H7 => B3 P N2 x2 x6 v6 x8 H7))) False))
theorem q4 (P : PT) (N2 : NTy k1 Pr) : QB Tryz.prog T0 43 o4 (En 43 k1 (B3 P N2)) k1 (B4 P N2) := fun _ _ _ _ _ _  => by kernel_rfl
noncomputable def o5 := ob Tryz.f14 [.r,.r,.r,.l,.r,.l,.l,.r,.l,.l,.l]
def B5 (P : PT) (N2 : NTy k1 Pr) (x2 : Nat) (x6 x7 : Value) (x8 : Int) (H : AHeap) : Prop :=
  ldI .i64 H x2 0 (fun v1 => ld1 H x2 1 (fun v2 => idxK x6 x8 1 (fun b3 o4 => ld1 H b3 o4 (fun v5 => AC Tryz.prog T0 87 [(Value.agg ⟨[(Value.int .i64 v1), v2]⟩), v5] H (fun v6 H7 => asB v6 (fun v8 => pif v8 (B4 P N2 x2 x6 x7 x8 H7) (B3 P N2 x2 x6 x7 x8 H7)))))))
theorem q5 (P : PT) (N2 : NTy k1 Pr) : QD Tryz.prog T0 43 o5 [(0, false), (1, false), (2, false), (3, false), (4, false), (5, false)] (cnd 34 (En 43 k1 (B4 P N2)) (En 43 k1 (B3 P N2))) k1 (B5 P N2) := fun _ _ _ _ _ _  => by kernel_rfl
noncomputable def o6 := ob Tryz.f14 [.r,.r,.r,.l,.r,.l,.l,.l,.l]
def B6 (P : PT) (N2 : NTy k1 Pr) (x2 : Nat) (x6 x7 : Value) (x8 : Int) (H : AHeap) : Prop :=
  lenK x6 (fun n1 => pif (decide ((x8 : Int) < (n1 : Int))) (B5 P N2 x2 x6 x7 x8 H) (B1 P x7 H))
theorem q6 (P : PT) (N2 : NTy k1 Pr) : QB Tryz.prog T0 43 o6 (cnd 26 (En 43 k1 (B5 P N2)) (En 43 k0 (B1 P))) k1 (B6 P N2) := fun _ _ _ _ _ _  => by kernel_rfl
def L2 (P : PT) (x2 : Nat) (x6 x7 : Value) (x8 : Int) (H : AHeap) : Prop :=
  ∃ (I : NTy k1 Pr) (μ : NTy k1 (AHeap → Nat)), I x2 x6 x7 x8 H ∧ ∀ y2 y6 y7 y8 G, I y2 y6 y7 y8 G → B6 P (fun z2 z6 z7 z8 G' => I z2 z6 z7 z8 G' ∧ μ z2 z6 z7 z8 G' < μ y2 y6 y7 y8 G) y2 y6 y7 y8 G
theorem l2 (P : PT) : LQ k1 (L2 P) (B6 P) := fun ⟨_,_,_,_,_⟩ _ ⟨I, μ, h0, hI⟩ => ⟨apT _ I, apT _ μ, h0, fun ⟨_,_,_,_,_⟩ _ h => hI _ _ _ _ _  h⟩
abbrev k2 : Sk := [(2,.x),(6,.v),(7,.v)]
noncomputable def o7 := ob Tryz.f14 [.r,.r,.r,.l,.l]
def B7 (P : PT) (x2 : Nat) (x6 x7 : Value) (H : AHeap) : Prop :=
  L2 P x2 x6 x7 0 H
theorem q7 (P : PT) : QB Tryz.prog T0 43 o7 (En 43 k1 (L2 P)) k2 (B7 P) := fun _ _ _ _ _  => by kernel_rfl
abbrev k3 : Sk := [(1,.i .i64),(2,.x)]
noncomputable def o8 := ob Tryz.f14 [.r,.r,.l]
def B8 (P : PT) (x1 : Int) (x2 : Nat) (H : AHeap) : Prop :=
  ld1 H x2 1 (fun v1 => lenK v1 (fun n2 => AC Tryz.prog T0 86 [(Value.int .i64 (n2 : Int)), (Value.int .i64 x1), (Value.int .i64 0)] H (fun v3 H4 => newK H4 [] 28 (fun b6 H7 => B7 P x2 v3 (Value.slice (some ⟨b6, 0, none⟩) 0 (0 + 1)) H7))))
theorem q8 (P : PT) : QB Tryz.prog T0 43 o8 (En 43 k2 (B7 P)) k3 (B8 P) := fun _ _ _ _  => by kernel_rfl
abbrev k4 : Sk := []
noncomputable def o9 := ob Tryz.f14 [.r,.l,.l,.r,.l,.l]
def B9 (P : PT) (H : AHeap) : Prop :=
  P (Value.tuple ⟨[(Value.slice none 0 0), (Value.int .i64 1)]⟩) H
theorem q9 (P : PT) : QB Tryz.prog T0 43 o9 (ret P) k4 (B9 P) := fun _ _  => by kernel_rfl
noncomputable def o10 := ob Tryz.f14 [.r,.l,.l,.r,.r,.r,.l,.l]
def B10 (P : PT) (H : AHeap) : Prop :=
  P (Value.tuple ⟨[(Value.slice none 0 0), (Value.int .i64 2)]⟩) H
theorem q10 (P : PT) : QB Tryz.prog T0 43 o10 (ret P) k4 (B10 P) := fun _ _  => by kernel_rfl
noncomputable def o11 := ob Tryz.f14 [.r,.l,.l,.r,.r,.l]
def B11 (P : PT) (x1 : Int) (x2 : Nat) (H : AHeap) : Prop :=
  AC Tryz.prog T0 85 [(Value.int .i64 x1), (Value.int .i64 1), (Value.int .i64 4)] H (fun v1 H2 => asB v1 (fun v3 => pif (!v3) (B10 P H2) (B8 P x1 x2 H2)))
theorem q11 (P : PT) : QB Tryz.prog T0 43 o11 (cnd 13 (En 43 k4 (B10 P)) (En 43 k3 (B8 P))) k3 (B11 P) := fun _ _ _ _  => by kernel_rfl
noncomputable def o12 := ob Tryz.f14 [.r,.l,.l,.l]
def B12 (P : PT) (x1 : Int) (x2 : Nat) (H : AHeap) : Prop :=
  ldI .i64 H x2 0 (fun v1 => ld1 H x2 1 (fun v2 => AC Tryz.prog T0 75 [(Value.agg ⟨[(Value.int .i64 v1), v2]⟩)] H (fun v3 H4 => asB v3 (fun v5 => pif (!v5) (B9 P H4) (B11 P x1 x2 H4)))))
theorem q12 (P : PT) : QB Tryz.prog T0 43 o12 (cnd 9 (En 43 k4 (B9 P)) (En 43 k3 (B11 P))) k3 (B12 P) := fun _ _ _ _  => by kernel_rfl
abbrev k5 : Sk := [(0,.g [.i,.v]),(1,.i .i64)]
noncomputable def o13 := ob Tryz.f14 [.l]
def B13 (P : PT) (x0a : Int) (x0b : Value) (x1 : Int) (H : AHeap) : Prop :=
  newK H [(Value.int .i64 x0a), x0b] 26 (fun b1 H2 => B12 P x1 b1 H2)
theorem q13 (P : PT) : QB Tryz.prog T0 43 o13 (En 43 k3 (B12 P)) k5 (B13 P) := fun _ _ _ _ _  => by kernel_rfl
noncomputable def code : Code := (.seq (.region 0 ⟨o13⟩ false) (.seq (.block 0 (.seq (.region 1 ⟨o12⟩ false) (.cond (.tmp 9) (.seq (.region 2 ⟨o9⟩ false) .ret) (.seq (.region 3 ⟨o11⟩ false) (.cond (.tmp 13) (.seq (.region 4 ⟨o10⟩ false) .ret) .skip))))) (.seq (.region 5 ⟨o8⟩ false) (.seq (.seq (.region 6 ⟨o7⟩ false) (.block 1 (.loop (.seq (.seq (.region 7 ⟨o6⟩ false) (.cond (.tmp 26) .skip (.exit 1))) (.seq (.block 2 (.seq (.region 9 ⟨o5⟩ true) (.cond (.tmp 34) (.region 10 ⟨o4⟩ false) .skip))) (.region 8 ⟨o3⟩ false)))))) (.seq (.region 11 ⟨o1⟩ false) .ret)))))
theorem body : Tryz.f14.body = some code := by kernel_rfl
theorem main (P : PT) : ∀ env H, (En 43 k5 (B13 P)) env H → AW Tryz.prog T0 code env H (mkQ (ret P) (fun _ _ _ => False) (ret P)) :=
  (r_seq (rB T0_ok (q13 P)) (r_seq (r_block (r_seq (rB T0_ok (q12 P)) (r_cond rfl (r_seq (rB T0_ok (q9 P)) r_ret) (r_seq (rB T0_ok (q11 P)) (r_cond rfl (r_seq (rB T0_ok (q10 P)) r_ret) r_skip))))) (r_seq (rB T0_ok (q8 P)) (r_seq (r_seq (rB T0_ok (q7 P)) (r_block (rL (l2 P) (fun N2 => (r_seq (r_seq (rB T0_ok (q6 P N2)) (r_cond rfl r_skip (r_exit (fun _ _ h => h)))) (r_seq (r_block (r_seq (rD T0_ok mixed [(0, false), (1, false), (2, false), (3, false), (4, false), (5, false)] (by kernel_rfl) (q5 P N2)) (r_cond rfl (rB T0_ok (q4 P N2)) r_skip))) (rB T0_ok (q3 P N2)))))))) (r_seq (rB T0_ok (q1 P)) r_ret)))))
theorem ac (P : PT) (x0a : Int) (x0b : Value) (x1 : Int) (H : AHeap) (h : B13 P x0a x0b x1 H) : AC Tryz.prog T0 14 [(Value.agg ⟨[(Value.int .i64 x0a), x0b]⟩), (Value.int .i64 x1)] H P :=
  r_fn T0_ok (c := code) (n := 43) Tryz.func14 body (by kernel_rfl) (main P) (En_mk (x0a, x0b, x1, ()) (by kernel_rfl) ⟨by kernel_rfl, by kernel_rfl, trivial⟩ h)

end F14
-- loop.example/g01329/laws.rows5
namespace F15
noncomputable def ret (P : PT) : EP := retE T0 27 Tryz.f15 P
abbrev k0 : Sk := []
noncomputable def o1 := ob Tryz.f15 [.r,.r,.r,.l]
def B1 (P : PT) (H : AHeap) : Prop :=
  P (Value.bool true) H
theorem q1 (P : PT) : QB Tryz.prog T0 27 o1 (ret P) k0 (B1 P) := fun _ _  => by kernel_rfl
abbrev k1 : Sk := [(0,.v),(1,.v),(5,.i .i64)]
noncomputable def o3 := ob Tryz.f15 [.r,.r,.l,.r,.l,.l,.r,.r]
def B3 (P : PT) (N2 : NTy k1 Pr) (x0 x1 : Value) (x5 : Int) (H : AHeap) : Prop :=
  N2 x0 x1 (IntKind.i64.wrap (x5 + 1)) H
theorem q3 (P : PT) (N2 : NTy k1 Pr) : QB Tryz.prog T0 27 o3 (En 27 k1 N2) k1 (B3 P N2) := fun _ _ _ _ _  => by kernel_rfl
noncomputable def o4 := ob Tryz.f15 [.r,.r,.l,.r,.l,.l,.r,.l,.l,.r,.l,.l]
def B4 (P : PT) (N2 : NTy k1 Pr) (H : AHeap) : Prop :=
  P (Value.bool false) H
theorem q4 (P : PT) (N2 : NTy k1 Pr) : QB Tryz.prog T0 27 o4 (ret P) k0 (B4 P N2) := fun _ _  => by kernel_rfl
noncomputable def o5 := ob Tryz.f15 [.r,.r,.l,.r,.l,.l,.r,.l,.l,.l]
def B5 (P : PT) (N2 : NTy k1 Pr) (x0 x1 : Value) (x5 : Int) (H : AHeap) : Prop :=
  idxK x0 x5 1 (fun b1 o2 => ld1 H b1 o2 (fun v3 => idxK x1 x5 1 (fun b4 o5 => ld1 H b4 o5 (fun v6 => AC Tryz.prog T0 11 [v3, v6] H (fun v7 H8 => asB v7 (fun v9 => pif (!v9) (B4 P N2 H8) (B3 P N2 x0 x1 x5 H8)))))))
theorem q5 (P : PT) (N2 : NTy k1 Pr) : QD Tryz.prog T0 27 o5 [(0, false), (1, false), (2, false), (3, false), (4, false), (5, false), (6, false), (7, false), (8, false), (9, false)] (cnd 26 (En 27 k0 (B4 P N2)) (En 27 k1 (B3 P N2))) k1 (B5 P N2) := fun _ _ _ _ _  => by kernel_rfl
noncomputable def o6 := ob Tryz.f15 [.r,.r,.l,.r,.l,.l,.l,.l]
def B6 (P : PT) (N2 : NTy k1 Pr) (x0 x1 : Value) (x5 : Int) (H : AHeap) : Prop :=
  lenK x0 (fun n1 => pif (decide ((x5 : Int) < (n1 : Int))) (B5 P N2 x0 x1 x5 H) (B1 P H))
theorem q6 (P : PT) (N2 : NTy k1 Pr) : QB Tryz.prog T0 27 o6 (cnd 14 (En 27 k1 (B5 P N2)) (En 27 k0 (B1 P))) k1 (B6 P N2) := fun _ _ _ _ _  => by kernel_rfl
def L2 (P : PT) (x0 x1 : Value) (x5 : Int) (H : AHeap) : Prop :=
  ∃ (I : NTy k1 Pr) (μ : NTy k1 (AHeap → Nat)), I x0 x1 x5 H ∧ ∀ y0 y1 y5 G, I y0 y1 y5 G → B6 P (fun z0 z1 z5 G' => I z0 z1 z5 G' ∧ μ z0 z1 z5 G' < μ y0 y1 y5 G) y0 y1 y5 G
theorem l2 (P : PT) : LQ k1 (L2 P) (B6 P) := fun ⟨_,_,_,_⟩ _ ⟨I, μ, h0, hI⟩ => ⟨apT _ I, apT _ μ, h0, fun ⟨_,_,_,_⟩ _ h => hI _ _ _ _  h⟩
abbrev k2 : Sk := [(0,.v),(1,.v)]
noncomputable def o7 := ob Tryz.f15 [.r,.r,.l,.l]
def B7 (P : PT) (x0 x1 : Value) (H : AHeap) : Prop :=
  L2 P x0 x1 0 H
theorem q7 (P : PT) : QB Tryz.prog T0 27 o7 (En 27 k1 (L2 P)) k2 (B7 P) := fun _ _ _ _  => by kernel_rfl
noncomputable def o8 := ob Tryz.f15 [.r,.l,.r,.l,.l]
def B8 (P : PT) (H : AHeap) : Prop :=
  P (Value.bool false) H
theorem q8 (P : PT) : QB Tryz.prog T0 27 o8 (ret P) k0 (B8 P) := fun _ _  => by kernel_rfl
noncomputable def o9 := ob Tryz.f15 [.r,.l,.l]
def B9 (P : PT) (x0 x1 : Value) (H : AHeap) : Prop :=
  lenK x0 (fun n1 => lenK x1 (fun n2 => pif (((n1 : Int) : Int) != (n2 : Int)) (B8 P H) (B7 P x0 x1 H)))
theorem q9 (P : PT) : QB Tryz.prog T0 27 o9 (cnd 10 (En 27 k0 (B8 P)) (En 27 k2 (B7 P))) k2 (B9 P) := fun _ _ _ _  => by kernel_rfl
noncomputable def o10 := ob Tryz.f15 [.l]
def B10 (P : PT) (x0 x1 : Value) (H : AHeap) : Prop :=
  B9 P x0 x1 H
theorem q10 (P : PT) : QB Tryz.prog T0 27 o10 (En 27 k2 (B9 P)) k2 (B10 P) := fun _ _ _ _  => by kernel_rfl
noncomputable def code : Code := (.seq (.region 0 ⟨o10⟩ false) (.seq (.seq (.region 1 ⟨o9⟩ false) (.cond (.tmp 10) (.seq (.region 2 ⟨o8⟩ false) .ret) .skip)) (.seq (.seq (.region 3 ⟨o7⟩ false) (.block 0 (.loop (.seq (.seq (.region 4 ⟨o6⟩ false) (.cond (.tmp 14) .skip (.exit 0))) (.seq (.block 1 (.seq (.region 6 ⟨o5⟩ true) (.cond (.tmp 26) (.seq (.region 7 ⟨o4⟩ false) .ret) .skip))) (.region 5 ⟨o3⟩ false)))))) (.seq (.region 8 ⟨o1⟩ false) .ret))))
theorem body : Tryz.f15.body = some code := by kernel_rfl
theorem main (P : PT) : ∀ env H, (En 27 k2 (B10 P)) env H → AW Tryz.prog T0 code env H (mkQ (ret P) (fun _ _ _ => False) (ret P)) :=
  (r_seq (rB T0_ok (q10 P)) (r_seq (r_seq (rB T0_ok (q9 P)) (r_cond rfl (r_seq (rB T0_ok (q8 P)) r_ret) r_skip)) (r_seq (r_seq (rB T0_ok (q7 P)) (r_block (rL (l2 P) (fun N2 => (r_seq (r_seq (rB T0_ok (q6 P N2)) (r_cond rfl r_skip (r_exit (fun _ _ h => h)))) (r_seq (r_block (r_seq (rD T0_ok mixed [(0, false), (1, false), (2, false), (3, false), (4, false), (5, false), (6, false), (7, false), (8, false), (9, false)] (by kernel_rfl) (q5 P N2)) (r_cond rfl (r_seq (rB T0_ok (q4 P N2)) r_ret) r_skip))) (rB T0_ok (q3 P N2)))))))) (r_seq (rB T0_ok (q1 P)) r_ret))))
theorem ac (P : PT) (x0 x1 : Value) (H : AHeap) (h : B10 P x0 x1 H) : AC Tryz.prog T0 15 [x0, x1] H P :=
  r_fn T0_ok (c := code) (n := 27) Tryz.func15 body (by kernel_rfl) (main P) (En_mk (x0, x1, ()) (by kernel_rfl) ⟨by kernel_rfl, by kernel_rfl, trivial⟩ h)

end F15
-- loop.example/g01329/impl.IsBond
namespace F16
noncomputable def ret (P : PT) : EP := retE T0 17 Tryz.f16 P
abbrev k0 : Sk := [(1,.v),(2,.x)]
noncomputable def o1 := ob Tryz.f16 [.r,.r,.l]
def B1 (P : PT) (x1 : Value) (x2 : Nat) (H : AHeap) : Prop :=
  ldI .i64 H x2 0 (fun v1 => ld1 H x2 1 (fun v2 => AC Tryz.prog T0 89 [x1] H (fun v3 H4 => asI .u64 v3 (fun v5 => (AHeap.le H H4) ∧ (AC Tryz.prog T0 80 [(Value.agg ⟨[(Value.int .i64 v1), v2]⟩), (Value.int .u64 v5)] H4 (fun v6 H7 => asB v6 (fun v8 => P (Value.tuple ⟨[(Value.bool v8), (Value.int .i64 0)]⟩) H7)))))))
theorem q1 (P : PT) : QD Tryz.prog T0 17 o1 [(0, false), (1, false), (2, true), (3, false), (4, false), (5, false)] (ret P) k0 (B1 P) := fun _ _ _ _  => by kernel_rfl
abbrev k1 : Sk := [(6,.i .i64)]
noncomputable def o2 := ob Tryz.f16 [.r,.l,.r,.r,.l,.l]
def B2 (P : PT) (x6 : Int) (H : AHeap) : Prop :=
  P (Value.tuple ⟨[(Value.bool false), (Value.int .i64 x6)]⟩) H
theorem q2 (P : PT) : QB Tryz.prog T0 17 o2 (ret P) k1 (B2 P) := fun _ _ _  => by kernel_rfl
abbrev k2 : Sk := [(1,.v),(2,.x),(6,.i .i64)]
noncomputable def o3 := ob Tryz.f16 [.r,.l,.r,.l]
def B3 (P : PT) (x1 : Value) (x2 : Nat) (x6 : Int) (H : AHeap) : Prop :=
  pif ((x6 : Int) != 0) (B2 P x6 H) (B1 P x1 x2 H)
theorem q3 (P : PT) : QB Tryz.prog T0 17 o3 (cnd 11 (En 17 k1 (B2 P)) (En 17 k0 (B1 P))) k2 (B3 P) := fun _ _ _ _ _  => by kernel_rfl
noncomputable def o4 := ob Tryz.f16 [.r,.l,.l]
def B4 (P : PT) (x1 : Value) (x2 : Nat) (H : AHeap) : Prop :=
  ldI .i64 H x2 0 (fun v1 => ld1 H x2 1 (fun v2 => AC Tryz.prog T0 88 [(Value.agg ⟨[(Value.int .i64 v1), v2]⟩), x1] H (fun v3 H4 => asI .i64 v3 (fun v5 => B3 P x1 x2 v5 H4))))
theorem q4 (P : PT) : QB Tryz.prog T0 17 o4 (En 17 k2 (B3 P)) k0 (B4 P) := fun _ _ _ _  => by kernel_rfl
abbrev k3 : Sk := [(0,.g [.i,.v]),(1,.v)]
noncomputable def o5 := ob Tryz.f16 [.l]
def B5 (P : PT) (x0a : Int) (x0b x1 : Value) (H : AHeap) : Prop :=
  newK H [(Value.int .i64 x0a), x0b] 26 (fun b1 H2 => B4 P x1 b1 H2)
theorem q5 (P : PT) : QB Tryz.prog T0 17 o5 (En 17 k0 (B4 P)) k3 (B5 P) := fun _ _ _ _ _  => by kernel_rfl
noncomputable def code : Code := (.seq (.region 0 ⟨o5⟩ false) (.seq (.seq (.region 1 ⟨o4⟩ false) (.seq (.region 2 ⟨o3⟩ false) (.cond (.tmp 11) (.seq (.region 3 ⟨o2⟩ false) .ret) .skip))) (.seq (.region 4 ⟨o1⟩ true) .ret)))
theorem body : Tryz.f16.body = some code := by kernel_rfl
theorem main (P : PT) : ∀ env H, (En 17 k3 (B5 P)) env H → AW Tryz.prog T0 code env H (mkQ (ret P) (fun _ _ _ => False) (ret P)) :=
  (r_seq (rB T0_ok (q5 P)) (r_seq (r_seq (rB T0_ok (q4 P)) (r_seq (rB T0_ok (q3 P)) (r_cond rfl (r_seq (rB T0_ok (q2 P)) r_ret) r_skip))) (r_seq (rD T0_ok mixed [(0, false), (1, false), (2, true), (3, false), (4, false), (5, false)] (by kernel_rfl) (q1 P)) r_ret)))
theorem ac (P : PT) (x0a : Int) (x0b x1 : Value) (H : AHeap) (h : B5 P x0a x0b x1 H) : AC Tryz.prog T0 16 [(Value.agg ⟨[(Value.int .i64 x0a), x0b]⟩), x1] H P :=
  r_fn T0_ok (c := code) (n := 17) Tryz.func16 body (by kernel_rfl) (main P) (En_mk (x0a, x0b, x1, ()) (by kernel_rfl) ⟨by kernel_rfl, by kernel_rfl, trivial⟩ h)

end F16
-- loop.example/g01329/spec.DrawEdgeConnectivity
namespace F17
noncomputable def ret (P : PT) : EP := retE T0 5 Tryz.f17 P
abbrev k0 : Sk := [(0,.v),(2,.x)]
noncomputable def o1 := ob Tryz.f17 [.r,.l]
def B1 (P : PT) (x0 : Value) (x2 : Nat) (H : AHeap) : Prop :=
  AC Tryz.prog T0 8 [x0] H (fun v1 H2 => agg2 v1 (fun v3 v4 => asI .i64 v3 (fun v5 => stK H2 x2 0 [(Value.int .i64 v5), v4] (fun H7 => ldI .i64 H7 x2 0 (fun v8 => ld1 H7 x2 1 (fun v9 => P (Value.agg ⟨[(Value.int .i64 v8), v9]⟩) H7))))))
theorem q1 (P : PT) : QB Tryz.prog T0 5 o1 (ret P) k0 (B1 P) := fun _ _ _ _  => by kernel_rfl
abbrev k1 : Sk := [(0,.v)]
noncomputable def o2 := ob Tryz.f17 [.l]
def B2 (P : PT) (x0 : Value) (H : AHeap) : Prop :=
  newK H [(Value.int .i64 0), (Value.slice none 0 0)] 26 (fun b1 H2 => B1 P x0 b1 H2)
theorem q2 (P : PT) : QB Tryz.prog T0 5 o2 (En 5 k0 (B1 P)) k1 (B2 P) := fun _ _ _  => by kernel_rfl
noncomputable def code : Code := (.seq (.region 0 ⟨o2⟩ false) (.seq (.region 1 ⟨o1⟩ false) .ret))
theorem body : Tryz.f17.body = some code := by kernel_rfl
theorem main (P : PT) : ∀ env H, (En 5 k1 (B2 P)) env H → AW Tryz.prog T0 code env H (mkQ (ret P) (fun _ _ _ => False) (ret P)) :=
  (r_seq (rB T0_ok (q2 P)) (r_seq (rB T0_ok (q1 P)) r_ret))
theorem ac (P : PT) (x0 : Value) (H : AHeap) (h : B2 P x0 H) : AC Tryz.prog T0 17 [x0] H P :=
  r_fn T0_ok (c := code) (n := 5) Tryz.func17 body (by kernel_rfl) (main P) (En_mk (x0, ()) (by kernel_rfl) ⟨by kernel_rfl, trivial⟩ h)

end F17
-- loop.example/g01329/impl.EdgeConnectivity
namespace F18
noncomputable def ret (P : PT) : EP := retE T0 22 Tryz.f18 P
abbrev k0 : Sk := [(5,.i .i64)]
noncomputable def o1 := ob Tryz.f18 [.r,.r,.r,.r,.l]
def B1 (P : PT) (x5 : Int) (H : AHeap) : Prop :=
  P (Value.tuple ⟨[(Value.int .i64 x5), (Value.int .i64 0)]⟩) H
theorem q1 (P : PT) : QB Tryz.prog T0 22 o1 (ret P) k0 (B1 P) := fun _ _ _  => by kernel_rfl
abbrev k1 : Sk := [(1,.x),(5,.i .i64)]
noncomputable def o3 := ob Tryz.f18 [.r,.r,.r,.l,.l,.l,.r,.l]
def B3 (P : PT) (N2 : NTy k1 Pr) (x1 : Nat) (x5 : Int) (H : AHeap) : Prop :=
  N2 x1 (IntKind.i64.wrap (x5 + 1)) H
theorem q3 (P : PT) (N2 : NTy k1 Pr) : QB Tryz.prog T0 22 o3 (En 22 k1 N2) k1 (B3 P N2) := fun _ _ _ _  => by kernel_rfl
noncomputable def o4 := ob Tryz.f18 [.r,.r,.r,.l,.l,.l,.l,.l]
def B4 (P : PT) (N2 : NTy k1 Pr) (x1 : Nat) (x5 : Int) (H : AHeap) : Prop :=
  ld1 H x1 1 (fun v1 => ldI .i64 H x1 0 (fun v2 => ld1 H x1 1 (fun v3 => AC Tryz.prog T0 73 [v1] H (fun v4 H5 => asI .i64 v4 (fun v6 => (AHeap.le H H5) ∧ (AC Tryz.prog T0 78 [(Value.int .i64 v6), (Value.int .i64 x5), (Value.func (.func 74) ⟨[(Value.agg ⟨[(Value.int .i64 v2), v3]⟩)]⟩ ⟨[]⟩)] H5 (fun v7 H8 => asB v7 (fun v9 => pif (!v9) (B3 P N2 x1 x5 H8) (B1 P x5 H8)))))))))
theorem q4 (P : PT) (N2 : NTy k1 Pr) : QD Tryz.prog T0 22 o4 [(0, false), (1, false), (3, false), (4, false), (5, false), (2, true), (6, false), (7, false)] (cnd 18 (En 22 k1 (B3 P N2)) (En 22 k0 (B1 P))) k1 (B4 P N2) := fun _ _ _ _  => by kernel_rfl
def L2 (P : PT) (x1 : Nat) (x5 : Int) (H : AHeap) : Prop :=
  ∃ (I : NTy k1 Pr) (μ : NTy k1 (AHeap → Nat)), I x1 x5 H ∧ ∀ y1 y5 G, I y1 y5 G → B4 P (fun z1 z5 G' => I z1 z5 G' ∧ μ z1 z5 G' < μ y1 y5 G) y1 y5 G
theorem l2 (P : PT) : LQ k1 (L2 P) (B4 P) := fun ⟨_,_,_⟩ _ ⟨I, μ, h0, hI⟩ => ⟨apT _ I, apT _ μ, h0, fun ⟨_,_,_⟩ _ h => hI _ _ _  h⟩
abbrev k2 : Sk := [(1,.x)]
noncomputable def o5 := ob Tryz.f18 [.r,.r,.l]
def B5 (P : PT) (x1 : Nat) (H : AHeap) : Prop :=
  L2 P x1 1 H
theorem q5 (P : PT) : QB Tryz.prog T0 22 o5 (En 22 k1 (L2 P)) k2 (B5 P) := fun _ _ _  => by kernel_rfl
abbrev k3 : Sk := [(4,.i .i64)]
noncomputable def o6 := ob Tryz.f18 [.r,.l,.r,.r,.l,.l]
def B6 (P : PT) (x4 : Int) (H : AHeap) : Prop :=
  P (Value.tuple ⟨[(Value.int .i64 0), (Value.int .i64 x4)]⟩) H
theorem q6 (P : PT) : QB Tryz.prog T0 22 o6 (ret P) k3 (B6 P) := fun _ _ _  => by kernel_rfl
abbrev k4 : Sk := [(1,.x),(4,.i .i64)]
noncomputable def o7 := ob Tryz.f18 [.r,.l,.r,.l]
def B7 (P : PT) (x1 : Nat) (x4 : Int) (H : AHeap) : Prop :=
  pif ((x4 : Int) != 0) (B6 P x4 H) (B5 P x1 H)
theorem q7 (P : PT) : QB Tryz.prog T0 22 o7 (cnd 9 (En 22 k3 (B6 P)) (En 22 k2 (B5 P))) k4 (B7 P) := fun _ _ _ _  => by kernel_rfl
noncomputable def o8 := ob Tryz.f18 [.r,.l,.l]
def B8 (P : PT) (x1 : Nat) (H : AHeap) : Prop :=
  ldI .i64 H x1 0 (fun v1 => ld1 H x1 1 (fun v2 => AC Tryz.prog T0 90 [(Value.agg ⟨[(Value.int .i64 v1), v2]⟩)] H (fun v3 H4 => asI .i64 v3 (fun v5 => B7 P x1 v5 H4))))
theorem q8 (P : PT) : QB Tryz.prog T0 22 o8 (En 22 k4 (B7 P)) k2 (B8 P) := fun _ _ _  => by kernel_rfl
abbrev k5 : Sk := [(0,.g [.i,.v])]
noncomputable def o9 := ob Tryz.f18 [.l]
def B9 (P : PT) (x0a : Int) (x0b : Value) (H : AHeap) : Prop :=
  newK H [(Value.int .i64 x0a), x0b] 26 (fun b1 H2 => B8 P b1 H2)
theorem q9 (P : PT) : QB Tryz.prog T0 22 o9 (En 22 k2 (B8 P)) k5 (B9 P) := fun _ _ _ _  => by kernel_rfl
noncomputable def code : Code := (.seq (.region 0 ⟨o9⟩ false) (.seq (.seq (.region 1 ⟨o8⟩ false) (.seq (.region 2 ⟨o7⟩ false) (.cond (.tmp 9) (.seq (.region 3 ⟨o6⟩ false) .ret) .skip))) (.seq (.region 4 ⟨o5⟩ false) (.seq (.block 0 (.loop (.seq (.seq (.region 5 ⟨o4⟩ true) (.cond (.tmp 18) .skip (.exit 0))) (.block 1 (.region 6 ⟨o3⟩ false))))) (.seq (.region 7 ⟨o1⟩ false) .ret)))))
theorem body : Tryz.f18.body = some code := by kernel_rfl
theorem main (P : PT) : ∀ env H, (En 22 k5 (B9 P)) env H → AW Tryz.prog T0 code env H (mkQ (ret P) (fun _ _ _ => False) (ret P)) :=
  (r_seq (rB T0_ok (q9 P)) (r_seq (r_seq (rB T0_ok (q8 P)) (r_seq (rB T0_ok (q7 P)) (r_cond rfl (r_seq (rB T0_ok (q6 P)) r_ret) r_skip))) (r_seq (rB T0_ok (q5 P)) (r_seq (r_block (rL (l2 P) (fun N2 => (r_seq (r_seq (rD T0_ok mixed [(0, false), (1, false), (3, false), (4, false), (5, false), (2, true), (6, false), (7, false)] (by kernel_rfl) (q4 P N2)) (r_cond rfl r_skip (r_exit (fun _ _ h => h)))) (r_block (rB T0_ok (q3 P N2))))))) (r_seq (rB T0_ok (q1 P)) r_ret)))))
theorem ac (P : PT) (x0a : Int) (x0b : Value) (H : AHeap) (h : B9 P x0a x0b H) : AC Tryz.prog T0 18 [(Value.agg ⟨[(Value.int .i64 x0a), x0b]⟩)] H P :=
  r_fn T0_ok (c := code) (n := 22) Tryz.func18 body (by kernel_rfl) (main P) (En_mk (x0a, x0b, ()) (by kernel_rfl) ⟨by kernel_rfl, trivial⟩ h)

end F18
-- loop.example/g01329/spec.EdgeConnectivity
namespace F19
noncomputable def ret (P : PT) : EP := retE T0 41 Tryz.f19 P
abbrev k0 : Sk := []
noncomputable def o1 := ob Tryz.f19 [.r,.r,.r,.l]
def B1 (P : PT) (H : AHeap) : Prop :=
  P (Value.tuple ⟨[(Value.int .i64 3), (Value.int .i64 0)]⟩) H
theorem q1 (P : PT) : QB Tryz.prog T0 41 o1 (ret P) k0 (B1 P) := fun _ _  => by kernel_rfl
abbrev k1 : Sk := [(1,.x),(4,.i .i64)]
noncomputable def o3 := ob Tryz.f19 [.r,.r,.l,.r,.l,.l,.r,.r]
def B3 (P : PT) (N2 : NTy k1 Pr) (x1 : Nat) (x4 : Int) (H : AHeap) : Prop :=
  N2 x1 (IntKind.i64.wrap (x4 + 1)) H
theorem q3 (P : PT) (N2 : NTy k1 Pr) : QB Tryz.prog T0 41 o3 (En 41 k1 N2) k1 (B3 P N2) := fun _ _ _ _  => by kernel_rfl
abbrev k2 : Sk := [(1,.x),(4,.i .i64),(5,.v),(6,.i .i64)]
noncomputable def o5 := ob Tryz.f19 [.r,.r,.l,.r,.l,.l,.r,.l,.l,.r,.r,.l,.l,.r,.r]
def B5 (P : PT) (N2 : NTy k1 Pr) (N4 : NTy k2 Pr) (x1 : Nat) (x4 : Int) (x5 : Value) (x6 : Int) (H : AHeap) : Prop :=
  N4 x1 x4 x5 (IntKind.i64.wrap (x6 + 1)) H
theorem q5 (P : PT) (N2 : NTy k1 Pr) (N4 : NTy k2 Pr) : QB Tryz.prog T0 41 o5 (En 41 k2 N4) k2 (B5 P N2 N4) := fun _ _ _ _ _ _  => by kernel_rfl
abbrev k3 : Sk := [(4,.i .i64)]
noncomputable def o6 := ob Tryz.f19 [.r,.r,.l,.r,.l,.l,.r,.l,.l,.r,.r,.l,.l,.r,.l,.l,.r,.l,.l]
def B6 (P : PT) (N2 : NTy k1 Pr) (N4 : NTy k2 Pr) (x4 : Int) (H : AHeap) : Prop :=
  P (Value.tuple ⟨[(Value.int .i64 x4), (Value.int .i64 0)]⟩) H
theorem q6 (P : PT) (N2 : NTy k1 Pr) (N4 : NTy k2 Pr) : QB Tryz.prog T0 41 o6 (ret P) k3 (B6 P N2 N4) := fun _ _ _  => by kernel_rfl
noncomputable def o7 := ob Tryz.f19 [.r,.r,.l,.r,.l,.l,.r,.l,.l,.r,.r,.l,.l,.r,.l,.l,.l]
def B7 (P : PT) (N2 : NTy k1 Pr) (N4 : NTy k2 Pr) (x1 : Nat) (x4 : Int) (x5 : Value) (x6 : Int) (H : AHeap) : Prop :=
  ldI .i64 H x1 0 (fun v1 => ldI .i64 H x1 0 (fun v2 => ld1 H x1 1 (fun v3 => idxK x5 x6 1 (fun b4 o5 => ld1 H b4 o5 (fun v6 => AC Tryz.prog T0 93 [(Value.agg ⟨[(Value.int .i64 v2), v3]⟩), v6] H (fun v7 H8 => (AHeap.le H H8) ∧ (AC Tryz.prog T0 92 [(Value.int .i64 v1), v7] H8 (fun v10 H11 => asI .i64 v10 (fun v12 => pif (decide ((v12 : Int) > 1)) (B6 P N2 N4 x4 H11) (B5 P N2 N4 x1 x4 x5 x6 H11))))))))))
theorem q7 (P : PT) (N2 : NTy k1 Pr) (N4 : NTy k2 Pr) : QD Tryz.prog T0 41 o7 [(0, false), (1, false), (2, false), (3, false), (4, false), (5, false), (6, false), (7, true), (8, false), (9, false)] (cnd 39 (En 41 k3 (B6 P N2 N4)) (En 41 k2 (B5 P N2 N4))) k2 (B7 P N2 N4) := fun _ _ _ _ _ _  => by kernel_rfl
noncomputable def o8 := ob Tryz.f19 [.r,.r,.l,.r,.l,.l,.r,.l,.l,.r,.r,.l,.l,.l,.l]
def B8 (P : PT) (N2 : NTy k1 Pr) (N4 : NTy k2 Pr) (x1 : Nat) (x4 : Int) (x5 : Value) (x6 : Int) (H : AHeap) : Prop :=
  lenK x5 (fun n1 => pif (decide ((x6 : Int) < (n1 : Int))) (B7 P N2 N4 x1 x4 x5 x6 H) (B3 P N2 x1 x4 H))
theorem q8 (P : PT) (N2 : NTy k1 Pr) (N4 : NTy k2 Pr) : QB Tryz.prog T0 41 o8 (cnd 27 (En 41 k2 (B7 P N2 N4)) (En 41 k1 (B3 P N2))) k2 (B8 P N2 N4) := fun _ _ _ _ _ _  => by kernel_rfl
def L4 (P : PT) (N2 : NTy k1 Pr) (x1 : Nat) (x4 : Int) (x5 : Value) (x6 : Int) (H : AHeap) : Prop :=
  ∃ (I : NTy k2 Pr) (μ : NTy k2 (AHeap → Nat)), I x1 x4 x5 x6 H ∧ ∀ y1 y4 y5 y6 G, I y1 y4 y5 y6 G → B8 P N2 (fun z1 z4 z5 z6 G' => I z1 z4 z5 z6 G' ∧ μ z1 z4 z5 z6 G' < μ y1 y4 y5 y6 G) y1 y4 y5 y6 G
theorem l4 (P : PT) (N2 : NTy k1 Pr) : LQ k2 (L4 P N2) (B8 P N2) := fun ⟨_,_,_,_,_⟩ _ ⟨I, μ, h0, hI⟩ => ⟨apT _ I, apT _ μ, h0, fun ⟨_,_,_,_,_⟩ _ h => hI _ _ _ _ _  h⟩
abbrev k4 : Sk := [(1,.x),(4,.i .i64),(5,.v)]
noncomputable def o9 := ob Tryz.f19 [.r,.r,.l,.r,.l,.l,.r,.l,.l,.r,.l]
def B9 (P : PT) (N2 : NTy k1 Pr) (x1 : Nat) (x4 : Int) (x5 : Value) (H : AHeap) : Prop :=
  L4 P N2 x1 x4 x5 0 H
theorem q9 (P : PT) (N2 : NTy k1 Pr) : QB Tryz.prog T0 41 o9 (En 41 k2 (L4 P N2)) k4 (B9 P N2) := fun _ _ _ _ _  => by kernel_rfl
noncomputable def o10 := ob Tryz.f19 [.r,.r,.l,.r,.l,.l,.r,.l,.l,.l]
def B10 (P : PT) (N2 : NTy k1 Pr) (x1 : Nat) (x4 : Int) (H : AHeap) : Prop :=
  ld1 H x1 1 (fun v1 => lenK v1 (fun n2 => AC Tryz.prog T0 86 [(Value.int .i64 (n2 : Int)), (Value.int .i64 x4), (Value.int .i64 0)] H (fun v3 H4 => B9 P N2 x1 x4 v3 H4)))
theorem q10 (P : PT) (N2 : NTy k1 Pr) : QB Tryz.prog T0 41 o10 (En 41 k4 (B9 P N2)) k1 (B10 P N2) := fun _ _ _ _  => by kernel_rfl
noncomputable def o11 := ob Tryz.f19 [.r,.r,.l,.r,.l,.l,.l,.l]
def B11 (P : PT) (N2 : NTy k1 Pr) (x1 : Nat) (x4 : Int) (H : AHeap) : Prop :=
  pif (decide ((x4 : Int) < 3)) (B10 P N2 x1 x4 H) (B1 P H)
theorem q11 (P : PT) (N2 : NTy k1 Pr) : QB Tryz.prog T0 41 o11 (cnd 16 (En 41 k1 (B10 P N2)) (En 41 k0 (B1 P))) k1 (B11 P N2) := fun _ _ _ _  => by kernel_rfl
def L2 (P : PT) (x1 : Nat) (x4 : Int) (H : AHeap) : Prop :=
  ∃ (I : NTy k1 Pr) (μ : NTy k1 (AHeap → Nat)), I x1 x4 H ∧ ∀ y1 y4 G, I y1 y4 G → B11 P (fun z1 z4 G' => I z1 z4 G' ∧ μ z1 z4 G' < μ y1 y4 G) y1 y4 G
theorem l2 (P : PT) : LQ k1 (L2 P) (B11 P) := fun ⟨_,_,_⟩ _ ⟨I, μ, h0, hI⟩ => ⟨apT _ I, apT _ μ, h0, fun ⟨_,_,_⟩ _ h => hI _ _ _  h⟩
abbrev k5 : Sk := [(1,.x)]
noncomputable def o12 := ob Tryz.f19 [.r,.r,.l,.l]
def B12 (P : PT) (x1 : Nat) (H : AHeap) : Prop :=
  L2 P x1 1 H
theorem q12 (P : PT) : QB Tryz.prog T0 41 o12 (En 41 k1 (L2 P)) k5 (B12 P) := fun _ _ _  => by kernel_rfl
noncomputable def o13 := ob Tryz.f19 [.r,.l,.l,.r,.l,.l]
def B13 (P : PT) (H : AHeap) : Prop :=
  P (Value.tuple ⟨[(Value.int .i64 0), (Value.int .i64 1)]⟩) H
theorem q13 (P : PT) : QB Tryz.prog T0 41 o13 (ret P) k0 (B13 P) := fun _ _  => by kernel_rfl
noncomputable def o14 := ob Tryz.f19 [.r,.l,.l,.r,.r,.r,.l,.l]
def B14 (P : PT) (H : AHeap) : Prop :=
  P (Value.tuple ⟨[(Value.int .i64 0), (Value.int .i64 5)]⟩) H
theorem q14 (P : PT) : QB Tryz.prog T0 41 o14 (ret P) k0 (B14 P) := fun _ _  => by kernel_rfl
noncomputable def o15 := ob Tryz.f19 [.r,.l,.l,.r,.r,.l]
def B15 (P : PT) (x1 : Nat) (H : AHeap) : Prop :=
  ldI .i64 H x1 0 (fun v1 => ld1 H x1 1 (fun v2 => AC Tryz.prog T0 91 [(Value.agg ⟨[(Value.int .i64 v1), v2]⟩)] H (fun v3 H4 => asB v3 (fun v5 => pif (!v5) (B14 P H4) (B12 P x1 H4)))))
theorem q15 (P : PT) : QB Tryz.prog T0 41 o15 (cnd 11 (En 41 k0 (B14 P)) (En 41 k5 (B12 P))) k5 (B15 P) := fun _ _ _  => by kernel_rfl
noncomputable def o16 := ob Tryz.f19 [.r,.l,.l,.l]
def B16 (P : PT) (x1 : Nat) (H : AHeap) : Prop :=
  ldI .i64 H x1 0 (fun v1 => ld1 H x1 1 (fun v2 => AC Tryz.prog T0 75 [(Value.agg ⟨[(Value.int .i64 v1), v2]⟩)] H (fun v3 H4 => asB v3 (fun v5 => pif (!v5) (B13 P H4) (B15 P x1 H4)))))
theorem q16 (P : PT) : QB Tryz.prog T0 41 o16 (cnd 7 (En 41 k0 (B13 P)) (En 41 k5 (B15 P))) k5 (B16 P) := fun _ _ _  => by kernel_rfl
abbrev k6 : Sk := [(0,.g [.i,.v])]
noncomputable def o17 := ob Tryz.f19 [.l]
def B17 (P : PT) (x0a : Int) (x0b : Value) (H : AHeap) : Prop :=
  newK H [(Value.int .i64 x0a), x0b] 26 (fun b1 H2 => B16 P b1 H2)
theorem q17 (P : PT) : QB Tryz.prog T0 41 o17 (En 41 k5 (B16 P)) k6 (B17 P) := fun _ _ _ _  => by kernel_rfl
noncomputable def code : Code := (.seq (.region 0 ⟨o17⟩ false) (.seq (.block 0 (.seq (.region 1 ⟨o16⟩ false) (.cond (.tmp 7) (.seq (.region 2 ⟨o13⟩ false) .ret) (.seq (.region 3 ⟨o15⟩ false) (.cond (.tmp 11) (.seq (.region 4 ⟨o14⟩ false) .ret) .skip))))) (.seq (.seq (.region 5 ⟨o12⟩ false) (.block 1 (.loop (.seq (.seq (.region 6 ⟨o11⟩ false) (.cond (.tmp 16) .skip (.exit 1))) (.seq (.block 2 (.seq (.region 8 ⟨o10⟩ false) (.seq (.region 9 ⟨o9⟩ false) (.block 3 (.loop (.seq (.seq (.region 10 ⟨o8⟩ false) (.cond (.tmp 27) .skip (.exit 3))) (.seq (.block 4 (.seq (.region 12 ⟨o7⟩ true) (.cond (.tmp 39) (.seq (.region 13 ⟨o6⟩ false) .ret) .skip))) (.region 11 ⟨o5⟩ false)))))))) (.region 7 ⟨o3⟩ false)))))) (.seq (.region 14 ⟨o1⟩ false) .ret))))
theorem body : Tryz.f19.body = some code := by kernel_rfl
theorem main (P : PT) : ∀ env H, (En 41 k6 (B17 P)) env H → AW Tryz.prog T0 code env H (mkQ (ret P) (fun _ _ _ => False) (ret P)) :=
  (r_seq (rB T0_ok (q17 P)) (r_seq (r_block (r_seq (rB T0_ok (q16 P)) (r_cond rfl (r_seq (rB T0_ok (q13 P)) r_ret) (r_seq (rB T0_ok (q15 P)) (r_cond rfl (r_seq (rB T0_ok (q14 P)) r_ret) r_skip))))) (r_seq (r_seq (rB T0_ok (q12 P)) (r_block (rL (l2 P) (fun N2 => (r_seq (r_seq (rB T0_ok (q11 P N2)) (r_cond rfl r_skip (r_exit (fun _ _ h => h)))) (r_seq (r_block (r_seq (rB T0_ok (q10 P N2)) (r_seq (rB T0_ok (q9 P N2)) (r_block (rL (l4 P N2) (fun N4 => (r_seq (r_seq (rB T0_ok (q8 P N2 N4)) (r_cond rfl r_skip (r_exit (fun _ _ h => h)))) (r_seq (r_block (r_seq (rD T0_ok mixed [(0, false), (1, false), (2, false), (3, false), (4, false), (5, false), (6, false), (7, true), (8, false), (9, false)] (by kernel_rfl) (q7 P N2 N4)) (r_cond rfl (r_seq (rB T0_ok (q6 P N2 N4)) r_ret) r_skip))) (rB T0_ok (q5 P N2 N4)))))))))) (rB T0_ok (q3 P N2)))))))) (r_seq (rB T0_ok (q1 P)) r_ret))))
theorem ac (P : PT) (x0a : Int) (x0b : Value) (H : AHeap) (h : B17 P x0a x0b H) : AC Tryz.prog T0 19 [(Value.agg ⟨[(Value.int .i64 x0a), x0b]⟩)] H P :=
  r_fn T0_ok (c := code) (n := 41) Tryz.func19 body (by kernel_rfl) (main P) (En_mk (x0a, x0b, ()) (by kernel_rfl) ⟨by kernel_rfl, trivial⟩ h)

end F19
-- loop.example/g01329/spec.DrawCyclicConnectivity
namespace F20
noncomputable def ret (P : PT) : EP := retE T0 22 Tryz.f20 P
abbrev k0 : Sk := [(2,.x),(3,.v)]
noncomputable def o1 := ob Tryz.f20 [.r,.r,.r,.l]
def B1 (P : PT) (x2 : Nat) (x3 : Value) (H : AHeap) : Prop :=
  AC Tryz.prog T0 82 [x3] H (fun v1 H2 => agg2 v1 (fun v3 v4 => asI .i64 v3 (fun v5 => AC Tryz.prog T0 68 [x3, (Value.agg ⟨[(Value.int .i64 v5), v4]⟩)] H2 (fun v7 H8 => agg2 v7 (fun v9 v10 => asI .i64 v9 (fun v11 => stK H8 x2 0 [(Value.int .i64 v11), v10] (fun H13 => ldI .i64 H13 x2 0 (fun v14 => ld1 H13 x2 1 (fun v15 => P (Value.agg ⟨[(Value.int .i64 v14), v15]⟩) H13)))))))))
theorem q1 (P : PT) : QB Tryz.prog T0 22 o1 (ret P) k0 (B1 P) := fun _ _ _ _  => by kernel_rfl
abbrev k1 : Sk := [(2,.x),(3,.v),(4,.x)]
noncomputable def o2 := ob Tryz.f20 [.r,.r,.l,.r,.l,.r,.l]
def B2 (P : PT) (x2 : Nat) (x3 : Value) (x4 : Nat) (H : AHeap) : Prop :=
  ldI .i64 H x4 0 (fun v1 => ld1 H x4 1 (fun v2 => AC Tryz.prog T0 68 [x3, (Value.agg ⟨[(Value.int .i64 v1), v2]⟩)] H (fun v3 H4 => agg2 v3 (fun v5 v6 => asI .i64 v5 (fun v7 => stK H4 x2 0 [(Value.int .i64 v7), v6] (fun H9 => ldI .i64 H9 x2 0 (fun v10 => ld1 H9 x2 1 (fun v11 => P (Value.agg ⟨[(Value.int .i64 v10), v11]⟩) H9))))))))
theorem q2 (P : PT) : QB Tryz.prog T0 22 o2 (ret P) k1 (B2 P) := fun _ _ _ _ _  => by kernel_rfl
noncomputable def o3 := ob Tryz.f20 [.r,.r,.l,.r,.l,.l]
def B3 (P : PT) (x2 : Nat) (x3 : Value) (H : AHeap) : Prop :=
  AC Tryz.prog T0 67 [(Value.string (⟨#[116, 105, 101, 116, 122, 101]⟩))] H (fun v1 H2 => tup2 v1 (fun v3 v4 => agg2 v3 (fun v5 v6 => asI .i64 v5 (fun v7 => asB v4 (fun v9 => newK H2 [(Value.int .i64 0), (Value.slice none 0 0)] 26 (fun b10 H11 => stK H11 b10 0 [(Value.int .i64 v7), v6] (fun H12 => B2 P x2 x3 b10 H12)))))))
theorem q3 (P : PT) : QB Tryz.prog T0 22 o3 (En 22 k1 (B2 P)) k0 (B3 P) := fun _ _ _ _  => by kernel_rfl
noncomputable def o4 := ob Tryz.f20 [.r,.r,.l,.l]
def B4 (P : PT) (x2 : Nat) (x3 : Value) (H : AHeap) : Prop :=
  AC Tryz.prog T0 66 [x3, (Value.int .i64 6)] H (fun v1 H2 => asI .i64 v1 (fun v3 => pif ((v3 : Int) == 0) (B3 P x2 x3 H2) (B1 P x2 x3 H2)))
theorem q4 (P : PT) : QB Tryz.prog T0 22 o4 (cnd 10 (En 22 k0 (B3 P)) (En 22 k0 (B1 P))) k0 (B4 P) := fun _ _ _ _  => by kernel_rfl
abbrev k2 : Sk := [(0,.v),(2,.x)]
noncomputable def o5 := ob Tryz.f20 [.r,.l]
def B5 (P : PT) (x0 : Value) (x2 : Nat) (H : AHeap) : Prop :=
  AC Tryz.prog T0 65 [x0] H (fun v1 H2 => B4 P x2 v1 H2)
theorem q5 (P : PT) : QB Tryz.prog T0 22 o5 (En 22 k0 (B4 P)) k2 (B5 P) := fun _ _ _ _  => by kernel_rfl
abbrev k3 : Sk := [(0,.v)]
noncomputable def o6 := ob Tryz.f20 [.l]
def B6 (P : PT) (x0 : Value) (H : AHeap) : Prop :=
  newK H [(Value.int .i64 0), (Value.slice none 0 0)] 26 (fun b1 H2 => B5 P x0 b1 H2)
theorem q6 (P : PT) : QB Tryz.prog T0 22 o6 (En 22 k2 (B5 P)) k3 (B6 P) := fun _ _ _  => by kernel_rfl
noncomputable def code : Code := (.seq (.region 0 ⟨o6⟩ false) (.seq (.region 1 ⟨o5⟩ false) (.seq (.seq (.region 2 ⟨o4⟩ false) (.cond (.tmp 10) (.seq (.region 3 ⟨o3⟩ false) (.seq (.region 4 ⟨o2⟩ false) .ret)) .skip)) (.seq (.region 5 ⟨o1⟩ false) .ret))))
theorem body : Tryz.f20.body = some code := by kernel_rfl
theorem main (P : PT) : ∀ env H, (En 22 k3 (B6 P)) env H → AW Tryz.prog T0 code env H (mkQ (ret P) (fun _ _ _ => False) (ret P)) :=
  (r_seq (rB T0_ok (q6 P)) (r_seq (rB T0_ok (q5 P)) (r_seq (r_seq (rB T0_ok (q4 P)) (r_cond rfl (r_seq (rB T0_ok (q3 P)) (r_seq (rB T0_ok (q2 P)) r_ret)) r_skip)) (r_seq (rB T0_ok (q1 P)) r_ret))))
theorem ac (P : PT) (x0 : Value) (H : AHeap) (h : B6 P x0 H) : AC Tryz.prog T0 20 [x0] H P :=
  r_fn T0_ok (c := code) (n := 22) Tryz.func20 body (by kernel_rfl) (main P) (En_mk (x0, ()) (by kernel_rfl) ⟨by kernel_rfl, trivial⟩ h)

end F20
-- loop.example/g01329/impl.CyclicConnectivity
namespace F21
noncomputable def ret (P : PT) : EP := retE T0 23 Tryz.f21 P
abbrev k0 : Sk := []
noncomputable def o1 := ob Tryz.f21 [.r,.r,.r,.l]
def B1 (P : PT) (H : AHeap) : Prop :=
  P (Value.tuple ⟨[(Value.int .i64 0), (Value.int .i64 4)]⟩) H
theorem q1 (P : PT) : QB Tryz.prog T0 23 o1 (ret P) k0 (B1 P) := fun _ _  => by kernel_rfl
abbrev k1 : Sk := [(1,.x),(5,.i .i64)]
noncomputable def o3 := ob Tryz.f21 [.r,.r,.l,.r,.l,.l,.r,.r]
def B3 (P : PT) (N2 : NTy k1 Pr) (x1 : Nat) (x5 : Int) (H : AHeap) : Prop :=
  N2 x1 (IntKind.i64.wrap (x5 + 1)) H
theorem q3 (P : PT) (N2 : NTy k1 Pr) : QB Tryz.prog T0 23 o3 (En 23 k1 N2) k1 (B3 P N2) := fun _ _ _ _  => by kernel_rfl
abbrev k2 : Sk := [(5,.i .i64)]
noncomputable def o4 := ob Tryz.f21 [.r,.r,.l,.r,.l,.l,.r,.l,.l,.r,.l,.l]
def B4 (P : PT) (N2 : NTy k1 Pr) (x5 : Int) (H : AHeap) : Prop :=
  P (Value.tuple ⟨[(Value.int .i64 x5), (Value.int .i64 0)]⟩) H
theorem q4 (P : PT) (N2 : NTy k1 Pr) : QB Tryz.prog T0 23 o4 (ret P) k2 (B4 P N2) := fun _ _ _  => by kernel_rfl
noncomputable def o5 := ob Tryz.f21 [.r,.r,.l,.r,.l,.l,.r,.l,.l,.l]
def B5 (P : PT) (N2 : NTy k1 Pr) (x1 : Nat) (x5 : Int) (H : AHeap) : Prop :=
  ld1 H x1 1 (fun v1 => ldI .i64 H x1 0 (fun v2 => ld1 H x1 1 (fun v3 => AC Tryz.prog T0 73 [v1] H (fun v4 H5 => asI .i64 v4 (fun v6 => (AHeap.le H H5) ∧ (AC Tryz.prog T0 78 [(Value.int .i64 v6), (Value.int .i64 x5), (Value.func (.func 94) ⟨[(Value.agg ⟨[(Value.int .i64 v2), v3]⟩)]⟩ ⟨[]⟩)] H5 (fun v7 H8 => asB v7 (fun v9 => pif v9 (B4 P N2 x5 H8) (B3 P N2 x1 x5 H8)))))))))
theorem q5 (P : PT) (N2 : NTy k1 Pr) : QD Tryz.prog T0 23 o5 [(0, false), (1, false), (3, false), (4, false), (5, false), (2, true), (6, false)] (cnd 21 (En 23 k2 (B4 P N2)) (En 23 k1 (B3 P N2))) k1 (B5 P N2) := fun _ _ _ _  => by kernel_rfl
noncomputable def o6 := ob Tryz.f21 [.r,.r,.l,.r,.l,.l,.l,.l]
def B6 (P : PT) (N2 : NTy k1 Pr) (x1 : Nat) (x5 : Int) (H : AHeap) : Prop :=
  pif (decide ((x5 : Int) ≤ 4)) (B5 P N2 x1 x5 H) (B1 P H)
theorem q6 (P : PT) (N2 : NTy k1 Pr) : QB Tryz.prog T0 23 o6 (cnd 12 (En 23 k1 (B5 P N2)) (En 23 k0 (B1 P))) k1 (B6 P N2) := fun _ _ _ _  => by kernel_rfl
def L2 (P : PT) (x1 : Nat) (x5 : Int) (H : AHeap) : Prop :=
  ∃ (I : NTy k1 Pr) (μ : NTy k1 (AHeap → Nat)), I x1 x5 H ∧ ∀ y1 y5 G, I y1 y5 G → B6 P (fun z1 z5 G' => I z1 z5 G' ∧ μ z1 z5 G' < μ y1 y5 G) y1 y5 G
theorem l2 (P : PT) : LQ k1 (L2 P) (B6 P) := fun ⟨_,_,_⟩ _ ⟨I, μ, h0, hI⟩ => ⟨apT _ I, apT _ μ, h0, fun ⟨_,_,_⟩ _ h => hI _ _ _  h⟩
abbrev k3 : Sk := [(1,.x)]
noncomputable def o7 := ob Tryz.f21 [.r,.r,.l,.l]
def B7 (P : PT) (x1 : Nat) (H : AHeap) : Prop :=
  L2 P x1 1 H
theorem q7 (P : PT) : QB Tryz.prog T0 23 o7 (En 23 k1 (L2 P)) k3 (B7 P) := fun _ _ _  => by kernel_rfl
abbrev k4 : Sk := [(4,.i .i64)]
noncomputable def o8 := ob Tryz.f21 [.r,.l,.r,.r,.l,.l]
def B8 (P : PT) (x4 : Int) (H : AHeap) : Prop :=
  P (Value.tuple ⟨[(Value.int .i64 0), (Value.int .i64 x4)]⟩) H
theorem q8 (P : PT) : QB Tryz.prog T0 23 o8 (ret P) k4 (B8 P) := fun _ _ _  => by kernel_rfl
abbrev k5 : Sk := [(1,.x),(4,.i .i64)]
noncomputable def o9 := ob Tryz.f21 [.r,.l,.r,.l]
def B9 (P : PT) (x1 : Nat) (x4 : Int) (H : AHeap) : Prop :=
  pif ((x4 : Int) != 0) (B8 P x4 H) (B7 P x1 H)
theorem q9 (P : PT) : QB Tryz.prog T0 23 o9 (cnd 9 (En 23 k4 (B8 P)) (En 23 k3 (B7 P))) k5 (B9 P) := fun _ _ _ _  => by kernel_rfl
noncomputable def o10 := ob Tryz.f21 [.r,.l,.l]
def B10 (P : PT) (x1 : Nat) (H : AHeap) : Prop :=
  ldI .i64 H x1 0 (fun v1 => ld1 H x1 1 (fun v2 => AC Tryz.prog T0 90 [(Value.agg ⟨[(Value.int .i64 v1), v2]⟩)] H (fun v3 H4 => asI .i64 v3 (fun v5 => B9 P x1 v5 H4))))
theorem q10 (P : PT) : QB Tryz.prog T0 23 o10 (En 23 k5 (B9 P)) k3 (B10 P) := fun _ _ _  => by kernel_rfl
abbrev k6 : Sk := [(0,.g [.i,.v])]
noncomputable def o11 := ob Tryz.f21 [.l]
def B11 (P : PT) (x0a : Int) (x0b : Value) (H : AHeap) : Prop :=
  newK H [(Value.int .i64 x0a), x0b] 26 (fun b1 H2 => B10 P b1 H2)
theorem q11 (P : PT) : QB Tryz.prog T0 23 o11 (En 23 k3 (B10 P)) k6 (B11 P) := fun _ _ _ _  => by kernel_rfl
noncomputable def code : Code := (.seq (.region 0 ⟨o11⟩ false) (.seq (.seq (.region 1 ⟨o10⟩ false) (.seq (.region 2 ⟨o9⟩ false) (.cond (.tmp 9) (.seq (.region 3 ⟨o8⟩ false) .ret) .skip))) (.seq (.seq (.region 4 ⟨o7⟩ false) (.block 0 (.loop (.seq (.seq (.region 5 ⟨o6⟩ false) (.cond (.tmp 12) .skip (.exit 0))) (.seq (.block 1 (.seq (.region 7 ⟨o5⟩ true) (.cond (.tmp 21) (.seq (.region 8 ⟨o4⟩ false) .ret) .skip))) (.region 6 ⟨o3⟩ false)))))) (.seq (.region 9 ⟨o1⟩ false) .ret))))
theorem body : Tryz.f21.body = some code := by kernel_rfl
theorem main (P : PT) : ∀ env H, (En 23 k6 (B11 P)) env H → AW Tryz.prog T0 code env H (mkQ (ret P) (fun _ _ _ => False) (ret P)) :=
  (r_seq (rB T0_ok (q11 P)) (r_seq (r_seq (rB T0_ok (q10 P)) (r_seq (rB T0_ok (q9 P)) (r_cond rfl (r_seq (rB T0_ok (q8 P)) r_ret) r_skip))) (r_seq (r_seq (rB T0_ok (q7 P)) (r_block (rL (l2 P) (fun N2 => (r_seq (r_seq (rB T0_ok (q6 P N2)) (r_cond rfl r_skip (r_exit (fun _ _ h => h)))) (r_seq (r_block (r_seq (rD T0_ok mixed [(0, false), (1, false), (3, false), (4, false), (5, false), (2, true), (6, false)] (by kernel_rfl) (q5 P N2)) (r_cond rfl (r_seq (rB T0_ok (q4 P N2)) r_ret) r_skip))) (rB T0_ok (q3 P N2)))))))) (r_seq (rB T0_ok (q1 P)) r_ret))))
theorem ac (P : PT) (x0a : Int) (x0b : Value) (H : AHeap) (h : B11 P x0a x0b H) : AC Tryz.prog T0 21 [(Value.agg ⟨[(Value.int .i64 x0a), x0b]⟩)] H P :=
  r_fn T0_ok (c := code) (n := 23) Tryz.func21 body (by kernel_rfl) (main P) (En_mk (x0a, x0b, ()) (by kernel_rfl) ⟨by kernel_rfl, trivial⟩ h)

end F21
-- loop.example/g01329/spec.CyclicConnectivity
namespace F22
noncomputable def ret (P : PT) : EP := retE T0 37 Tryz.f22 P
abbrev k0 : Sk := []
noncomputable def o1 := ob Tryz.f22 [.r,.r,.r,.l]
def B1 (P : PT) (H : AHeap) : Prop :=
  P (Value.tuple ⟨[(Value.int .i64 0), (Value.int .i64 4)]⟩) H
theorem q1 (P : PT) : QB Tryz.prog T0 37 o1 (ret P) k0 (B1 P) := fun _ _  => by kernel_rfl
abbrev k1 : Sk := [(1,.x),(4,.i .i64)]
noncomputable def o3 := ob Tryz.f22 [.r,.r,.l,.r,.l,.l,.r,.r]
def B3 (P : PT) (N2 : NTy k1 Pr) (x1 : Nat) (x4 : Int) (H : AHeap) : Prop :=
  N2 x1 (IntKind.i64.wrap (x4 + 1)) H
theorem q3 (P : PT) (N2 : NTy k1 Pr) : QB Tryz.prog T0 37 o3 (En 37 k1 N2) k1 (B3 P N2) := fun _ _ _ _  => by kernel_rfl
abbrev k2 : Sk := [(1,.x),(4,.i .i64),(5,.v),(6,.i .i64)]
noncomputable def o5 := ob Tryz.f22 [.r,.r,.l,.r,.l,.l,.r,.l,.l,.r,.r,.l,.l,.r,.r]
def B5 (P : PT) (N2 : NTy k1 Pr) (N4 : NTy k2 Pr) (x1 : Nat) (x4 : Int) (x5 : Value) (x6 : Int) (H : AHeap) : Prop :=
  N4 x1 x4 x5 (IntKind.i64.wrap (x6 + 1)) H
theorem q5 (P : PT) (N2 : NTy k1 Pr) (N4 : NTy k2 Pr) : QB Tryz.prog T0 37 o5 (En 37 k2 N4) k2 (B5 P N2 N4) := fun _ _ _ _ _ _  => by kernel_rfl
abbrev k3 : Sk := [(4,.i .i64)]
noncomputable def o6 := ob Tryz.f22 [.r,.r,.l,.r,.l,.l,.r,.l,.l,.r,.r,.l,.l,.r,.l,.l,.r,.l,.l]
def B6 (P : PT) (N2 : NTy k1 Pr) (N4 : NTy k2 Pr) (x4 : Int) (H : AHeap) : Prop :=
  P (Value.tuple ⟨[(Value.int .i64 x4), (Value.int .i64 0)]⟩) H
theorem q6 (P : PT) (N2 : NTy k1 Pr) (N4 : NTy k2 Pr) : QB Tryz.prog T0 37 o6 (ret P) k3 (B6 P N2 N4) := fun _ _ _  => by kernel_rfl
noncomputable def o7 := ob Tryz.f22 [.r,.r,.l,.r,.l,.l,.r,.l,.l,.r,.r,.l,.l,.r,.l,.l,.l]
def B7 (P : PT) (N2 : NTy k1 Pr) (N4 : NTy k2 Pr) (x1 : Nat) (x4 : Int) (x5 : Value) (x6 : Int) (H : AHeap) : Prop :=
  ldI .i64 H x1 0 (fun v1 => ld1 H x1 1 (fun v2 => idxK x5 x6 1 (fun b3 o4 => ld1 H b3 o4 (fun v5 => AC Tryz.prog T0 95 [(Value.agg ⟨[(Value.int .i64 v1), v2]⟩), v5] H (fun v6 H7 => asB v6 (fun v8 => pif v8 (B6 P N2 N4 x4 H7) (B5 P N2 N4 x1 x4 x5 x6 H7)))))))
theorem q7 (P : PT) (N2 : NTy k1 Pr) (N4 : NTy k2 Pr) : QD Tryz.prog T0 37 o7 [(0, false), (1, false), (2, false), (3, false), (4, false), (5, false)] (cnd 35 (En 37 k3 (B6 P N2 N4)) (En 37 k2 (B5 P N2 N4))) k2 (B7 P N2 N4) := fun _ _ _ _ _ _  => by kernel_rfl
noncomputable def o8 := ob Tryz.f22 [.r,.r,.l,.r,.l,.l,.r,.l,.l,.r,.r,.l,.l,.l,.l]
def B8 (P : PT) (N2 : NTy k1 Pr) (N4 : NTy k2 Pr) (x1 : Nat) (x4 : Int) (x5 : Value) (x6 : Int) (H : AHeap) : Prop :=
  lenK x5 (fun n1 => pif (decide ((x6 : Int) < (n1 : Int))) (B7 P N2 N4 x1 x4 x5 x6 H) (B3 P N2 x1 x4 H))
theorem q8 (P : PT) (N2 : NTy k1 Pr) (N4 : NTy k2 Pr) : QB Tryz.prog T0 37 o8 (cnd 27 (En 37 k2 (B7 P N2 N4)) (En 37 k1 (B3 P N2))) k2 (B8 P N2 N4) := fun _ _ _ _ _ _  => by kernel_rfl
def L4 (P : PT) (N2 : NTy k1 Pr) (x1 : Nat) (x4 : Int) (x5 : Value) (x6 : Int) (H : AHeap) : Prop :=
  ∃ (I : NTy k2 Pr) (μ : NTy k2 (AHeap → Nat)), I x1 x4 x5 x6 H ∧ ∀ y1 y4 y5 y6 G, I y1 y4 y5 y6 G → B8 P N2 (fun z1 z4 z5 z6 G' => I z1 z4 z5 z6 G' ∧ μ z1 z4 z5 z6 G' < μ y1 y4 y5 y6 G) y1 y4 y5 y6 G
theorem l4 (P : PT) (N2 : NTy k1 Pr) : LQ k2 (L4 P N2) (B8 P N2) := fun ⟨_,_,_,_,_⟩ _ ⟨I, μ, h0, hI⟩ => ⟨apT _ I, apT _ μ, h0, fun ⟨_,_,_,_,_⟩ _ h => hI _ _ _ _ _  h⟩
abbrev k4 : Sk := [(1,.x),(4,.i .i64),(5,.v)]
noncomputable def o9 := ob Tryz.f22 [.r,.r,.l,.r,.l,.l,.r,.l,.l,.r,.l]
def B9 (P : PT) (N2 : NTy k1 Pr) (x1 : Nat) (x4 : Int) (x5 : Value) (H : AHeap) : Prop :=
  L4 P N2 x1 x4 x5 0 H
theorem q9 (P : PT) (N2 : NTy k1 Pr) : QB Tryz.prog T0 37 o9 (En 37 k2 (L4 P N2)) k4 (B9 P N2) := fun _ _ _ _ _  => by kernel_rfl
noncomputable def o10 := ob Tryz.f22 [.r,.r,.l,.r,.l,.l,.r,.l,.l,.l]
def B10 (P : PT) (N2 : NTy k1 Pr) (x1 : Nat) (x4 : Int) (H : AHeap) : Prop :=
  ld1 H x1 1 (fun v1 => lenK v1 (fun n2 => AC Tryz.prog T0 86 [(Value.int .i64 (n2 : Int)), (Value.int .i64 x4), (Value.int .i64 0)] H (fun v3 H4 => B9 P N2 x1 x4 v3 H4)))
theorem q10 (P : PT) (N2 : NTy k1 Pr) : QB Tryz.prog T0 37 o10 (En 37 k4 (B9 P N2)) k1 (B10 P N2) := fun _ _ _ _  => by kernel_rfl
noncomputable def o11 := ob Tryz.f22 [.r,.r,.l,.r,.l,.l,.l,.l]
def B11 (P : PT) (N2 : NTy k1 Pr) (x1 : Nat) (x4 : Int) (H : AHeap) : Prop :=
  pif (decide ((x4 : Int) ≤ 4)) (B10 P N2 x1 x4 H) (B1 P H)
theorem q11 (P : PT) (N2 : NTy k1 Pr) : QB Tryz.prog T0 37 o11 (cnd 16 (En 37 k1 (B10 P N2)) (En 37 k0 (B1 P))) k1 (B11 P N2) := fun _ _ _ _  => by kernel_rfl
def L2 (P : PT) (x1 : Nat) (x4 : Int) (H : AHeap) : Prop :=
  ∃ (I : NTy k1 Pr) (μ : NTy k1 (AHeap → Nat)), I x1 x4 H ∧ ∀ y1 y4 G, I y1 y4 G → B11 P (fun z1 z4 G' => I z1 z4 G' ∧ μ z1 z4 G' < μ y1 y4 G) y1 y4 G
theorem l2 (P : PT) : LQ k1 (L2 P) (B11 P) := fun ⟨_,_,_⟩ _ ⟨I, μ, h0, hI⟩ => ⟨apT _ I, apT _ μ, h0, fun ⟨_,_,_⟩ _ h => hI _ _ _  h⟩
abbrev k5 : Sk := [(1,.x)]
noncomputable def o12 := ob Tryz.f22 [.r,.r,.l,.l]
def B12 (P : PT) (x1 : Nat) (H : AHeap) : Prop :=
  L2 P x1 1 H
theorem q12 (P : PT) : QB Tryz.prog T0 37 o12 (En 37 k1 (L2 P)) k5 (B12 P) := fun _ _ _  => by kernel_rfl
noncomputable def o13 := ob Tryz.f22 [.r,.l,.l,.r,.l,.l]
def B13 (P : PT) (H : AHeap) : Prop :=
  P (Value.tuple ⟨[(Value.int .i64 0), (Value.int .i64 1)]⟩) H
theorem q13 (P : PT) : QB Tryz.prog T0 37 o13 (ret P) k0 (B13 P) := fun _ _  => by kernel_rfl
noncomputable def o14 := ob Tryz.f22 [.r,.l,.l,.r,.r,.r,.l,.l]
def B14 (P : PT) (H : AHeap) : Prop :=
  P (Value.tuple ⟨[(Value.int .i64 0), (Value.int .i64 5)]⟩) H
theorem q14 (P : PT) : QB Tryz.prog T0 37 o14 (ret P) k0 (B14 P) := fun _ _  => by kernel_rfl
noncomputable def o15 := ob Tryz.f22 [.r,.l,.l,.r,.r,.l]
def B15 (P : PT) (x1 : Nat) (H : AHeap) : Prop :=
  ldI .i64 H x1 0 (fun v1 => ld1 H x1 1 (fun v2 => AC Tryz.prog T0 91 [(Value.agg ⟨[(Value.int .i64 v1), v2]⟩)] H (fun v3 H4 => asB v3 (fun v5 => pif (!v5) (B14 P H4) (B12 P x1 H4)))))
theorem q15 (P : PT) : QB Tryz.prog T0 37 o15 (cnd 11 (En 37 k0 (B14 P)) (En 37 k5 (B12 P))) k5 (B15 P) := fun _ _ _  => by kernel_rfl
noncomputable def o16 := ob Tryz.f22 [.r,.l,.l,.l]
def B16 (P : PT) (x1 : Nat) (H : AHeap) : Prop :=
  ldI .i64 H x1 0 (fun v1 => ld1 H x1 1 (fun v2 => AC Tryz.prog T0 75 [(Value.agg ⟨[(Value.int .i64 v1), v2]⟩)] H (fun v3 H4 => asB v3 (fun v5 => pif (!v5) (B13 P H4) (B15 P x1 H4)))))
theorem q16 (P : PT) : QB Tryz.prog T0 37 o16 (cnd 7 (En 37 k0 (B13 P)) (En 37 k5 (B15 P))) k5 (B16 P) := fun _ _ _  => by kernel_rfl
abbrev k6 : Sk := [(0,.g [.i,.v])]
noncomputable def o17 := ob Tryz.f22 [.l]
def B17 (P : PT) (x0a : Int) (x0b : Value) (H : AHeap) : Prop :=
  newK H [(Value.int .i64 x0a), x0b] 26 (fun b1 H2 => B16 P b1 H2)
theorem q17 (P : PT) : QB Tryz.prog T0 37 o17 (En 37 k5 (B16 P)) k6 (B17 P) := fun _ _ _ _  => by kernel_rfl
noncomputable def code : Code := (.seq (.region 0 ⟨o17⟩ false) (.seq (.block 0 (.seq (.region 1 ⟨o16⟩ false) (.cond (.tmp 7) (.seq (.region 2 ⟨o13⟩ false) .ret) (.seq (.region 3 ⟨o15⟩ false) (.cond (.tmp 11) (.seq (.region 4 ⟨o14⟩ false) .ret) .skip))))) (.seq (.seq (.region 5 ⟨o12⟩ false) (.block 1 (.loop (.seq (.seq (.region 6 ⟨o11⟩ false) (.cond (.tmp 16) .skip (.exit 1))) (.seq (.block 2 (.seq (.region 8 ⟨o10⟩ false) (.seq (.region 9 ⟨o9⟩ false) (.block 3 (.loop (.seq (.seq (.region 10 ⟨o8⟩ false) (.cond (.tmp 27) .skip (.exit 3))) (.seq (.block 4 (.seq (.region 12 ⟨o7⟩ true) (.cond (.tmp 35) (.seq (.region 13 ⟨o6⟩ false) .ret) .skip))) (.region 11 ⟨o5⟩ false)))))))) (.region 7 ⟨o3⟩ false)))))) (.seq (.region 14 ⟨o1⟩ false) .ret))))
theorem body : Tryz.f22.body = some code := by kernel_rfl
theorem main (P : PT) : ∀ env H, (En 37 k6 (B17 P)) env H → AW Tryz.prog T0 code env H (mkQ (ret P) (fun _ _ _ => False) (ret P)) :=
  (r_seq (rB T0_ok (q17 P)) (r_seq (r_block (r_seq (rB T0_ok (q16 P)) (r_cond rfl (r_seq (rB T0_ok (q13 P)) r_ret) (r_seq (rB T0_ok (q15 P)) (r_cond rfl (r_seq (rB T0_ok (q14 P)) r_ret) r_skip))))) (r_seq (r_seq (rB T0_ok (q12 P)) (r_block (rL (l2 P) (fun N2 => (r_seq (r_seq (rB T0_ok (q11 P N2)) (r_cond rfl r_skip (r_exit (fun _ _ h => h)))) (r_seq (r_block (r_seq (rB T0_ok (q10 P N2)) (r_seq (rB T0_ok (q9 P N2)) (r_block (rL (l4 P N2) (fun N4 => (r_seq (r_seq (rB T0_ok (q8 P N2 N4)) (r_cond rfl r_skip (r_exit (fun _ _ h => h)))) (r_seq (r_block (r_seq (rD T0_ok mixed [(0, false), (1, false), (2, false), (3, false), (4, false), (5, false)] (by kernel_rfl) (q7 P N2 N4)) (r_cond rfl (r_seq (rB T0_ok (q6 P N2 N4)) r_ret) r_skip))) (rB T0_ok (q5 P N2 N4)))))))))) (rB T0_ok (q3 P N2)))))))) (r_seq (rB T0_ok (q1 P)) r_ret))))
theorem ac (P : PT) (x0a : Int) (x0b : Value) (H : AHeap) (h : B17 P x0a x0b H) : AC Tryz.prog T0 22 [(Value.agg ⟨[(Value.int .i64 x0a), x0b]⟩)] H P :=
  r_fn T0_ok (c := code) (n := 37) Tryz.func22 body (by kernel_rfl) (main P) (En_mk (x0a, x0b, ()) (by kernel_rfl) ⟨by kernel_rfl, trivial⟩ h)

end F22
-- loop.example/g01329/spec.l01From
namespace F65
noncomputable def ret (P : PT) : EP := retE T0 38 Tryz.f65 P
abbrev k0 : Sk := [(3,.v)]
noncomputable def o1 := ob Tryz.f65 [.r,.r,.r,.l]
def B1 (P : PT) (x3 : Value) (H : AHeap) : Prop :=
  P x3 H
theorem q1 (P : PT) : QB Tryz.prog T0 38 o1 (ret P) k0 (B1 P) := fun _ _ _  => by kernel_rfl
abbrev k1 : Sk := [(0,.v),(3,.v),(4,.i .i64)]
noncomputable def o3 := ob Tryz.f65 [.r,.r,.l,.r,.l,.l,.r,.r]
def B3 (P : PT) (N2 : NTy k1 Pr) (x0 x3 : Value) (x4 : Int) (H : AHeap) : Prop :=
  N2 x0 x3 (IntKind.i64.wrap (x4 + 1)) H
theorem q3 (P : PT) (N2 : NTy k1 Pr) : QB Tryz.prog T0 38 o3 (En 38 k1 N2) k1 (B3 P N2) := fun _ _ _ _ _  => by kernel_rfl
noncomputable def o4 := ob Tryz.f65 [.r,.r,.l,.r,.l,.l,.r,.l,.l]
def B4 (P : PT) (N2 : NTy k1 Pr) (x0 x3 : Value) (x4 : Int) (H : AHeap) : Prop :=
  nilK x3 (fun v1 => asP v1 (fun b2 o3 => ldI .u64 H b2 (o3 + 2) (fun v4 => idxK x0 x4 1 (fun b5 o6 => ldI .u8 H b5 o6 (fun v7 => nilK x3 (fun v8 => asP v8 (fun b9 o10 => stK H b9 (o10 + 2) [(Value.int .u64 (IntKind.u64.wrap ((IntKind.u64.wrap ((IntKind.u64.wrap (v4 * 1099511628211)) + (IntKind.u64.wrap v7))) + 151)))] (fun H11 => B3 P N2 x0 x3 x4 H11))))))))
theorem q4 (P : PT) (N2 : NTy k1 Pr) : QD Tryz.prog T0 38 o4 [(0, false), (1, false), (2, false), (3, false), (4, false), (5, false), (6, false), (7, false), (8, false), (9, false), (10, false), (11, false), (12, false), (13, false), (14, false), (15, false)] (En 38 k1 (B3 P N2)) k1 (B4 P N2) := fun _ _ _ _ _  => by kernel_rfl
noncomputable def o5 := ob Tryz.f65 [.r,.r,.l,.r,.l,.l,.l,.l]
def B5 (P : PT) (N2 : NTy k1 Pr) (x0 x3 : Value) (x4 : Int) (H : AHeap) : Prop :=
  lenK x0 (fun n1 => pif (decide ((x4 : Int) < (n1 : Int))) (pif (decide ((x4 : Int) < 4096)) (B4 P N2 x0 x3 x4 H) (B1 P x3 H)) (B1 P x3 H))
theorem q5 (P : PT) (N2 : NTy k1 Pr) : QB Tryz.prog T0 38 o5 (cnd 19 (En 38 k1 (B4 P N2)) (En 38 k0 (B1 P))) k1 (B5 P N2) := fun _ _ _ _ _  => by kernel_rfl
def L2 (P : PT) (x0 x3 : Value) (x4 : Int) (H : AHeap) : Prop :=
  ∃ (I : NTy k1 Pr) (μ : NTy k1 (AHeap → Nat)), I x0 x3 x4 H ∧ ∀ y0 y3 y4 G, I y0 y3 y4 G → B5 P (fun z0 z3 z4 G' => I z0 z3 z4 G' ∧ μ z0 z3 z4 G' < μ y0 y3 y4 G) y0 y3 y4 G
theorem l2 (P : PT) : LQ k1 (L2 P) (B5 P) := fun ⟨_,_,_,_⟩ _ ⟨I, μ, h0, hI⟩ => ⟨apT _ I, apT _ μ, h0, fun ⟨_,_,_,_⟩ _ h => hI _ _ _ _  h⟩
abbrev k2 : Sk := [(0,.v),(3,.v)]
noncomputable def o6 := ob Tryz.f65 [.r,.r,.l,.l]
def B6 (P : PT) (x0 x3 : Value) (H : AHeap) : Prop :=
  L2 P x0 x3 0 H
theorem q6 (P : PT) : QB Tryz.prog T0 38 o6 (En 38 k1 (L2 P)) k2 (B6 P) := fun _ _ _ _  => by kernel_rfl
abbrev k3 : Sk := [(0,.v)]
noncomputable def o7 := ob Tryz.f65 [.r,.l]
def B7 (P : PT) (x0 : Value) (H : AHeap) : Prop :=
  lenK x0 (fun n1 => pif (Value.oneCell' x0) (newK H [x0, (Value.int .i64 0), (Value.int .u64 (IntKind.u64.wrap (13291 + (IntKind.u64.wrap (n1 : Int)))))] 131 (fun b2 H3 => B6 P x0 (Value.pointer (some ⟨b2, 0, none⟩)) H3)) False)
theorem q7 (P : PT) : QB Tryz.prog T0 38 o7 (En 38 k2 (B6 P)) k3 (B7 P) := fun _ _ _  => by kernel_rfl
noncomputable def o8 := ob Tryz.f65 [.l]
def B8 (P : PT) (x0 : Value) (H : AHeap) : Prop :=
  B7 P x0 H
theorem q8 (P : PT) : QB Tryz.prog T0 38 o8 (En 38 k3 (B7 P)) k3 (B8 P) := fun _ _ _  => by kernel_rfl
noncomputable def code : Code := (.seq (.region 0 ⟨o8⟩ false) (.seq (.region 1 ⟨o7⟩ false) (.seq (.seq (.region 2 ⟨o6⟩ false) (.block 0 (.loop (.seq (.seq (.region 3 ⟨o5⟩ false) (.cond (.tmp 19) .skip (.exit 0))) (.seq (.block 1 (.region 5 ⟨o4⟩ true)) (.region 4 ⟨o3⟩ false)))))) (.seq (.region 6 ⟨o1⟩ false) .ret))))
theorem body : Tryz.f65.body = some code := by kernel_rfl
theorem main (P : PT) : ∀ env H, (En 38 k3 (B8 P)) env H → AW Tryz.prog T0 code env H (mkQ (ret P) (fun _ _ _ => False) (ret P)) :=
  (r_seq (rB T0_ok (q8 P)) (r_seq (rB T0_ok (q7 P)) (r_seq (r_seq (rB T0_ok (q6 P)) (r_block (rL (l2 P) (fun N2 => (r_seq (r_seq (rB T0_ok (q5 P N2)) (r_cond rfl r_skip (r_exit (fun _ _ h => h)))) (r_seq (r_block (rD T0_ok mixed [(0, false), (1, false), (2, false), (3, false), (4, false), (5, false), (6, false), (7, false), (8, false), (9, false), (10, false), (11, false), (12, false), (13, false), (14, false), (15, false)] (by kernel_rfl) (q4 P N2))) (rB T0_ok (q3 P N2)))))))) (r_seq (rB T0_ok (q1 P)) r_ret))))
theorem ac (P : PT) (x0 : Value) (H : AHeap) (h : B8 P x0 H) : AC Tryz.prog T0 65 [x0] H P :=
  r_fn T0_ok (c := code) (n := 38) Tryz.func65 body (by kernel_rfl) (main P) (En_mk (x0, ()) (by kernel_rfl) ⟨by kernel_rfl, trivial⟩ h)

end F65
-- loop.example/g01329/spec.l01Next
namespace F66
noncomputable def ret (P : PT) : EP := retE T0 58 Tryz.f66 P
abbrev k0 : Sk := [(1,.i .i64),(5,.i .i64)]
noncomputable def o1 := ob Tryz.f66 [.r,.r,.r,.r,.r,.l]
def B1 (P : PT) (x1 x5 : Int) (H : AHeap) : Prop :=
  nzK x1 (P (Value.int .i64 (Int.tmod x5 x1)) H)
theorem q1 (P : PT) : QB Tryz.prog T0 58 o1 (ret P) k0 (B1 P) := fun _ _ _ _  => by kernel_rfl
abbrev k1 : Sk := [(0,.v),(1,.i .i64),(5,.i .i64)]
noncomputable def o2 := ob Tryz.f66 [.r,.r,.r,.r,.l,.r,.l,.r]
def B2 (P : PT) (x0 : Value) (x1 x5 : Int) (H : AHeap) : Prop :=
  nilK x0 (fun v1 => asP v1 (fun b2 o3 => ldI .i64 H b2 (o3 + 1) (fun v4 => nilK x0 (fun v5 => asP v5 (fun b6 o7 => stK H b6 (o7 + 1) [(Value.int .i64 (IntKind.i64.wrap (v4 + 1)))] (fun H8 => B1 P x1 x5 H8))))))
theorem q2 (P : PT) : QB Tryz.prog T0 58 o2 (En 58 k0 (B1 P)) k1 (B2 P) := fun _ _ _ _ _  => by kernel_rfl
noncomputable def o3 := ob Tryz.f66 [.r,.r,.r,.r,.l,.r,.l,.l]
def B3 (P : PT) (x0 : Value) (x1 x5 : Int) (H : AHeap) : Prop :=
  nilK x0 (fun v1 => asP v1 (fun b2 o3 => ld1 H b2 o3 (fun v4 => nilK x0 (fun v5 => asP v5 (fun b6 o7 => ldI .i64 H b6 (o7 + 1) (fun v8 => idxK v4 v8 1 (fun b9 o10 => ldI .u8 H b9 o10 (fun v11 => B2 P x0 x1 (IntKind.i64.wrap (x5 + (IntKind.i64.wrap v11))) H))))))))
theorem q3 (P : PT) : QD Tryz.prog T0 58 o3 [(0, false), (1, false), (2, false), (3, false), (4, false), (5, false), (6, false), (7, false), (8, false), (9, false), (10, false), (11, false), (12, false), (13, false)] (En 58 k1 (B2 P)) k1 (B3 P) := fun _ _ _ _ _  => by kernel_rfl
noncomputable def o4 := ob Tryz.f66 [.r,.r,.r,.r,.l,.l]
def B4 (P : PT) (x0 : Value) (x1 x5 : Int) (H : AHeap) : Prop :=
  nilK x0 (fun v1 => asP v1 (fun b2 o3 => ldI .i64 H b2 (o3 + 1) (fun v4 => nilK x0 (fun v5 => asP v5 (fun b6 o7 => ld1 H b6 o7 (fun v8 => lenK v8 (fun n9 => pif (decide ((v4 : Int) < (n9 : Int))) (B3 P x0 x1 x5 H) (B1 P x1 x5 H))))))))
theorem q4 (P : PT) : QD Tryz.prog T0 58 o4 [(0, false), (1, false), (2, false), (3, false), (4, false), (5, false), (6, false), (7, false), (8, false), (9, false)] (cnd 33 (En 58 k1 (B3 P)) (En 58 k0 (B1 P))) k1 (B4 P) := fun _ _ _ _ _  => by kernel_rfl
abbrev k2 : Sk := [(0,.v),(1,.i .i64)]
noncomputable def o5 := ob Tryz.f66 [.r,.r,.r,.l]
def B5 (P : PT) (x0 : Value) (x1 : Int) (H : AHeap) : Prop :=
  nilK x0 (fun v1 => asP v1 (fun b2 o3 => ldI .u64 H b2 (o3 + 2) (fun v4 => ((0 : Int) ≤ 33) ∧ (B4 P x0 x1 (IntKind.i64.wrap (IntKind.u64.wrap (BitVec.ofInt 64 (Int.fdiv v4 (2 ^ (min (Int.toNat 33) 64))) &&& BitVec.ofInt 64 16777215).toNat)) H))))
theorem q5 (P : PT) : QB Tryz.prog T0 58 o5 (En 58 k1 (B4 P)) k2 (B5 P) := fun _ _ _ _  => by kernel_rfl
noncomputable def o6 := ob Tryz.f66 [.r,.r,.l]
def B6 (P : PT) (x0 : Value) (x1 : Int) (H : AHeap) : Prop :=
  nilK x0 (fun v1 => asP v1 (fun b2 o3 => ldI .u64 H b2 (o3 + 2) (fun v4 => nilK x0 (fun v5 => asP v5 (fun b6 o7 => stK H b6 (o7 + 2) [(Value.int .u64 (IntKind.u64.wrap ((IntKind.u64.wrap (v4 * 6364136223846793005)) + 1442695040888963407)))] (fun H8 => B5 P x0 x1 H8))))))
theorem q6 (P : PT) : QB Tryz.prog T0 58 o6 (En 58 k2 (B5 P)) k2 (B6 P) := fun _ _ _ _  => by kernel_rfl
abbrev k3 : Sk := []
noncomputable def o7 := ob Tryz.f66 [.r,.l,.r,.l,.l]
def B7 (P : PT) (H : AHeap) : Prop :=
  P (Value.int .i64 0) H
theorem q7 (P : PT) : QB Tryz.prog T0 58 o7 (ret P) k3 (B7 P) := fun _ _  => by kernel_rfl
noncomputable def o8 := ob Tryz.f66 [.r,.l,.l]
def B8 (P : PT) (x0 : Value) (x1 : Int) (H : AHeap) : Prop :=
  pif (decide ((x1 : Int) < 1)) (B7 P H) (B6 P x0 x1 H)
theorem q8 (P : PT) : QB Tryz.prog T0 58 o8 (cnd 7 (En 58 k3 (B7 P)) (En 58 k2 (B6 P))) k2 (B8 P) := fun _ _ _ _  => by kernel_rfl
noncomputable def o9 := ob Tryz.f66 [.l]
def B9 (P : PT) (x0 : Value) (x1 : Int) (H : AHeap) : Prop :=
  B8 P x0 x1 H
theorem q9 (P : PT) : QB Tryz.prog T0 58 o9 (En 58 k2 (B8 P)) k2 (B9 P) := fun _ _ _ _  => by kernel_rfl
noncomputable def code : Code := (.seq (.region 0 ⟨o9⟩ false) (.seq (.seq (.region 1 ⟨o8⟩ false) (.cond (.tmp 7) (.seq (.region 2 ⟨o7⟩ false) .ret) .skip)) (.seq (.region 3 ⟨o6⟩ false) (.seq (.region 4 ⟨o5⟩ false) (.seq (.seq (.region 5 ⟨o4⟩ true) (.cond (.tmp 33) (.seq (.region 6 ⟨o3⟩ true) (.region 7 ⟨o2⟩ false)) .skip)) (.seq (.region 8 ⟨o1⟩ false) .ret))))))
theorem body : Tryz.f66.body = some code := by kernel_rfl
theorem main (P : PT) : ∀ env H, (En 58 k2 (B9 P)) env H → AW Tryz.prog T0 code env H (mkQ (ret P) (fun _ _ _ => False) (ret P)) :=
  (r_seq (rB T0_ok (q9 P)) (r_seq (r_seq (rB T0_ok (q8 P)) (r_cond rfl (r_seq (rB T0_ok (q7 P)) r_ret) r_skip)) (r_seq (rB T0_ok (q6 P)) (r_seq (rB T0_ok (q5 P)) (r_seq (r_seq (rD T0_ok mixed [(0, false), (1, false), (2, false), (3, false), (4, false), (5, false), (6, false), (7, false), (8, false), (9, false)] (by kernel_rfl) (q4 P)) (r_cond rfl (r_seq (rD T0_ok mixed [(0, false), (1, false), (2, false), (3, false), (4, false), (5, false), (6, false), (7, false), (8, false), (9, false), (10, false), (11, false), (12, false), (13, false)] (by kernel_rfl) (q3 P)) (rB T0_ok (q2 P))) r_skip)) (r_seq (rB T0_ok (q1 P)) r_ret))))))
theorem ac (P : PT) (x0 : Value) (x1 : Int) (H : AHeap) (h : B9 P x0 x1 H) : AC Tryz.prog T0 66 [x0, (Value.int .i64 x1)] H P :=
  r_fn T0_ok (c := code) (n := 58) Tryz.func66 body (by kernel_rfl) (main P) (En_mk (x0, x1, ()) (by kernel_rfl) ⟨by kernel_rfl, by kernel_rfl, trivial⟩ h)

end F66
-- loop.example/g01329/spec.l01Named
namespace F67
noncomputable def ret (P : PT) : EP := retE T0 228 Tryz.f67 P
abbrev k0 : Sk := [(2,.x)]
noncomputable def o1 := ob Tryz.f67 [.r,.r,.r,.l]
def B1 (P : PT) (x2 : Nat) (H : AHeap) : Prop :=
  stK H x2 0 [(Value.int .i64 0), (Value.slice none 0 0)] (fun H1 => ldI .i64 H1 x2 0 (fun v2 => ld1 H1 x2 1 (fun v3 => P (Value.tuple ⟨[(Value.agg ⟨[(Value.int .i64 v2), v3]⟩), (Value.bool false)]⟩) H1)))
theorem q1 (P : PT) : QB Tryz.prog T0 228 o1 (ret P) k0 (B1 P) := fun _ _ _  => by kernel_rfl
noncomputable def o2 := ob Tryz.f67 [.r,.r,.l,.r,.l,.r,.l,.l]
def B2 (P : PT) (x2 : Nat) (H : AHeap) : Prop :=
  newK H [(Value.int .i64 0), (Value.int .i64 1), (Value.int .i64 0), (Value.int .i64 1), (Value.int .i64 0), (Value.int .i64 1)] 78 (fun b1 H2 => AC Tryz.prog T0 141 [(Value.int .i64 2), (Value.slice (some ⟨b1, 0, none⟩) 3 (3 + 1))] H2 (fun v3 H4 => agg2 v3 (fun v5 v6 => asI .i64 v5 (fun v7 => stK H4 x2 0 [(Value.int .i64 v7), v6] (fun H9 => ldI .i64 H9 x2 0 (fun v10 => ld1 H9 x2 1 (fun v11 => P (Value.tuple ⟨[(Value.agg ⟨[(Value.int .i64 v10), v11]⟩), (Value.bool true)]⟩) H9)))))))
theorem q2 (P : PT) : QB Tryz.prog T0 228 o2 (ret P) k0 (B2 P) := fun _ _ _  => by kernel_rfl
noncomputable def o3 := ob Tryz.f67 [.r,.r,.l,.r,.l,.r,.r,.r,.l,.l]
def B3 (P : PT) (x2 : Nat) (H : AHeap) : Prop :=
  newK H [(Value.int .i64 0), (Value.int .i64 1), (Value.int .i64 0), (Value.int .i64 2), (Value.int .i64 0), (Value.int .i64 3), (Value.int .i64 1), (Value.int .i64 2), (Value.int .i64 1), (Value.int .i64 3), (Value.int .i64 2), (Value.int .i64 3)] 78 (fun b1 H2 => AC Tryz.prog T0 141 [(Value.int .i64 4), (Value.slice (some ⟨b1, 0, none⟩) 6 (6 + 1))] H2 (fun v3 H4 => agg2 v3 (fun v5 v6 => asI .i64 v5 (fun v7 => stK H4 x2 0 [(Value.int .i64 v7), v6] (fun H9 => ldI .i64 H9 x2 0 (fun v10 => ld1 H9 x2 1 (fun v11 => P (Value.tuple ⟨[(Value.agg ⟨[(Value.int .i64 v10), v11]⟩), (Value.bool true)]⟩) H9)))))))
theorem q3 (P : PT) : QB Tryz.prog T0 228 o3 (ret P) k0 (B3 P) := fun _ _ _  => by kernel_rfl
abbrev k1 : Sk := [(2,.x),(4,.v)]
noncomputable def o4 := ob Tryz.f67 [.r,.r,.l,.r,.l,.r,.r,.r,.r,.r,.l,.r,.l]
def B4 (P : PT) (x2 : Nat) (x4 : Value) (H : AHeap) : Prop :=
  AC Tryz.prog T0 141 [(Value.int .i64 6), x4] H (fun v1 H2 => agg2 v1 (fun v3 v4 => asI .i64 v3 (fun v5 => stK H2 x2 0 [(Value.int .i64 v5), v4] (fun H7 => ldI .i64 H7 x2 0 (fun v8 => ld1 H7 x2 1 (fun v9 => P (Value.tuple ⟨[(Value.agg ⟨[(Value.int .i64 v8), v9]⟩), (Value.bool true)]⟩) H7))))))
theorem q4 (P : PT) : QB Tryz.prog T0 228 o4 (ret P) k1 (B4 P) := fun _ _ _ _  => by kernel_rfl
abbrev k2 : Sk := [(2,.x),(4,.v),(5,.i .i64)]
noncomputable def o6 := ob Tryz.f67 [.r,.r,.l,.r,.l,.r,.r,.r,.r,.r,.l,.l,.r,.l,.l,.r,.r]
def B6 (P : PT) (N5 : NTy k2 Pr) (x2 : Nat) (x4 : Value) (x5 : Int) (H : AHeap) : Prop :=
  N5 x2 x4 (IntKind.i64.wrap (x5 + 1)) H
theorem q6 (P : PT) (N5 : NTy k2 Pr) : QB Tryz.prog T0 228 o6 (En 228 k2 N5) k2 (B6 P N5) := fun _ _ _ _ _  => by kernel_rfl
noncomputable def o7 := ob Tryz.f67 [.r,.r,.l,.r,.l,.r,.r,.r,.r,.r,.l,.l,.r,.l,.l,.r,.l,.l]
def B7 (P : PT) (N5 : NTy k2 Pr) (x2 : Nat) (x4 : Value) (x5 : Int) (H : AHeap) : Prop :=
  newK H [(Value.int .i64 x5), (Value.int .i64 3), (Value.int .i64 x5), (Value.int .i64 4), (Value.int .i64 x5), (Value.int .i64 5)] 78 (fun b1 H2 => apK T0 78 H2 x4 (Value.slice (some ⟨b1, 0, none⟩) 3 (3 + 1)) (fun v3 H4 => B6 P N5 x2 v3 x5 H4))
theorem q7 (P : PT) (N5 : NTy k2 Pr) : QB Tryz.prog T0 228 o7 (En 228 k2 (B6 P N5)) k2 (B7 P N5) := fun _ _ _ _ _  => by kernel_rfl
noncomputable def o8 := ob Tryz.f67 [.r,.r,.l,.r,.l,.r,.r,.r,.r,.r,.l,.l,.r,.l,.l,.l,.l]
def B8 (P : PT) (N5 : NTy k2 Pr) (x2 : Nat) (x4 : Value) (x5 : Int) (H : AHeap) : Prop :=
  pif (decide ((x5 : Int) < 3)) (B7 P N5 x2 x4 x5 H) (B4 P x2 x4 H)
theorem q8 (P : PT) (N5 : NTy k2 Pr) : QB Tryz.prog T0 228 o8 (cnd 36 (En 228 k2 (B7 P N5)) (En 228 k1 (B4 P))) k2 (B8 P N5) := fun _ _ _ _ _  => by kernel_rfl
def L5 (P : PT) (x2 : Nat) (x4 : Value) (x5 : Int) (H : AHeap) : Prop :=
  ∃ (I : NTy k2 Pr) (μ : NTy k2 (AHeap → Nat)), I x2 x4 x5 H ∧ ∀ y2 y4 y5 G, I y2 y4 y5 G → B8 P (fun z2 z4 z5 G' => I z2 z4 z5 G' ∧ μ z2 z4 z5 G' < μ y2 y4 y5 G) y2 y4 y5 G
theorem l5 (P : PT) : LQ k2 (L5 P) (B8 P) := fun ⟨_,_,_,_⟩ _ ⟨I, μ, h0, hI⟩ => ⟨apT _ I, apT _ μ, h0, fun ⟨_,_,_,_⟩ _ h => hI _ _ _ _  h⟩
noncomputable def o9 := ob Tryz.f67 [.r,.r,.l,.r,.l,.r,.r,.r,.r,.r,.l,.l,.l]
def B9 (P : PT) (x2 : Nat) (x4 : Value) (H : AHeap) : Prop :=
  L5 P x2 x4 0 H
theorem q9 (P : PT) : QB Tryz.prog T0 228 o9 (En 228 k2 (L5 P)) k1 (B9 P) := fun _ _ _ _  => by kernel_rfl
noncomputable def o10 := ob Tryz.f67 [.r,.r,.l,.r,.l,.r,.r,.r,.r,.r,.r,.r,.l,.r,.l]
def B10 (P : PT) (x2 : Nat) (x4 : Value) (H : AHeap) : Prop :=
  newK H [(Value.int .i64 0), (Value.int .i64 3), (Value.int .i64 1), (Value.int .i64 4), (Value.int .i64 2), (Value.int .i64 5)] 78 (fun b1 H2 => apK T0 78 H2 x4 (Value.slice (some ⟨b1, 0, none⟩) 3 (3 + 1)) (fun v3 H4 => AC Tryz.prog T0 141 [(Value.int .i64 6), v3] H4 (fun v5 H6 => agg2 v5 (fun v7 v8 => asI .i64 v7 (fun v9 => stK H6 x2 0 [(Value.int .i64 v9), v8] (fun H11 => ldI .i64 H11 x2 0 (fun v12 => ld1 H11 x2 1 (fun v13 => P (Value.tuple ⟨[(Value.agg ⟨[(Value.int .i64 v12), v13]⟩), (Value.bool true)]⟩) H11))))))))
theorem q10 (P : PT) : QB Tryz.prog T0 228 o10 (ret P) k1 (B10 P) := fun _ _ _ _  => by kernel_rfl
noncomputable def o11 := ob Tryz.f67 [.r,.r,.l,.r,.l,.r,.r,.r,.r,.r,.r,.r,.l,.l]
def B11 (P : PT) (x2 : Nat) (x4 : Value) (H : AHeap) : Prop :=
  newK H [(Value.int .i64 0), (Value.int .i64 1), (Value.int .i64 2)] 2 (fun b1 H2 => AC Tryz.prog T0 142 [x4, (Value.slice (some ⟨b1, 0, none⟩) 3 (3 + 1))] H2 (fun v3 H4 => newK H4 [(Value.int .i64 3), (Value.int .i64 4), (Value.int .i64 5)] 2 (fun b6 H7 => AC Tryz.prog T0 142 [v3, (Value.slice (some ⟨b6, 0, none⟩) 3 (3 + 1))] H7 (fun v8 H9 => B10 P x2 v8 H9))))
theorem q11 (P : PT) : QB Tryz.prog T0 228 o11 (En 228 k1 (B10 P)) k1 (B11 P) := fun _ _ _ _  => by kernel_rfl
noncomputable def o12 := ob Tryz.f67 [.r,.r,.l,.r,.l,.r,.r,.r,.r,.r,.r,.r,.r,.r,.l,.r,.l]
def B12 (P : PT) (x2 : Nat) (x4 : Value) (H : AHeap) : Prop :=
  AC Tryz.prog T0 141 [(Value.int .i64 8), x4] H (fun v1 H2 => agg2 v1 (fun v3 v4 => asI .i64 v3 (fun v5 => stK H2 x2 0 [(Value.int .i64 v5), v4] (fun H7 => ldI .i64 H7 x2 0 (fun v8 => ld1 H7 x2 1 (fun v9 => P (Value.tuple ⟨[(Value.agg ⟨[(Value.int .i64 v8), v9]⟩), (Value.bool true)]⟩) H7))))))
theorem q12 (P : PT) : QB Tryz.prog T0 228 o12 (ret P) k1 (B12 P) := fun _ _ _ _  => by kernel_rfl
abbrev k3 : Sk := [(2,.x),(4,.v),(6,.i .i64)]
noncomputable def o14 := ob Tryz.f67 [.r,.r,.l,.r,.l,.r,.r,.r,.r,.r,.r,.r,.r,.r,.l,.l,.r,.l,.l,.r,.r]
def B14 (P : PT) (N13 : NTy k3 Pr) (x2 : Nat) (x4 : Value) (x6 : Int) (H : AHeap) : Prop :=
  N13 x2 x4 (IntKind.i64.wrap (x6 + 1)) H
theorem q14 (P : PT) (N13 : NTy k3 Pr) : QB Tryz.prog T0 228 o14 (En 228 k3 N13) k3 (B14 P N13) := fun _ _ _ _ _  => by kernel_rfl
abbrev k4 : Sk := [(2,.x),(4,.v),(6,.i .i64),(7,.i .i64)]
noncomputable def o16 := ob Tryz.f67 [.r,.r,.l,.r,.l,.r,.r,.r,.r,.r,.r,.r,.r,.r,.l,.l,.r,.l,.l,.r,.l,.l,.r,.l,.l,.r,.r]
def B16 (P : PT) (N13 : NTy k3 Pr) (N15 : NTy k4 Pr) (x2 : Nat) (x4 : Value) (x6 x7 : Int) (H : AHeap) : Prop :=
  N15 x2 x4 x6 (IntKind.i64.wrap (2 * x7)) H
theorem q16 (P : PT) (N13 : NTy k3 Pr) (N15 : NTy k4 Pr) : QB Tryz.prog T0 228 o16 (En 228 k4 N15) k4 (B16 P N13 N15) := fun _ _ _ _ _ _  => by kernel_rfl
noncomputable def o17 := ob Tryz.f67 [.r,.r,.l,.r,.l,.r,.r,.r,.r,.r,.r,.r,.r,.r,.l,.l,.r,.l,.l,.r,.l,.l,.r,.l,.l,.r,.l,.l,.r,.l]
def B17 (P : PT) (N13 : NTy k3 Pr) (N15 : NTy k4 Pr) (x2 : Nat) (x4 : Value) (x6 x7 : Int) (H : AHeap) : Prop :=
  newK H [(Value.int .i64 x6), (Value.int .i64 (IntKind.i64.wrap (x6 + x7)))] 78 (fun b1 H2 => apK T0 78 H2 x4 (Value.slice (some ⟨b1, 0, none⟩) 1 (1 + 1)) (fun v3 H4 => B16 P N13 N15 x2 v3 x6 x7 H4))
theorem q17 (P : PT) (N13 : NTy k3 Pr) (N15 : NTy k4 Pr) : QB Tryz.prog T0 228 o17 (En 228 k4 (B16 P N13 N15)) k4 (B17 P N13 N15) := fun _ _ _ _ _ _  => by kernel_rfl
noncomputable def o18 := ob Tryz.f67 [.r,.r,.l,.r,.l,.r,.r,.r,.r,.r,.r,.r,.r,.r,.l,.l,.r,.l,.l,.r,.l,.l,.r,.l,.l,.r,.l,.l,.l]
def B18 (P : PT) (N13 : NTy k3 Pr) (N15 : NTy k4 Pr) (x2 : Nat) (x4 : Value) (x6 x7 : Int) (H : AHeap) : Prop :=
  pif ((IntKind.i64.wrap (BitVec.ofInt 64 x6 &&& BitVec.ofInt 64 x7).toNat : Int) == 0) (B17 P N13 N15 x2 x4 x6 x7 H) (B16 P N13 N15 x2 x4 x6 x7 H)
theorem q18 (P : PT) (N13 : NTy k3 Pr) (N15 : NTy k4 Pr) : QB Tryz.prog T0 228 o18 (cnd 77 (En 228 k4 (B17 P N13 N15)) (En 228 k4 (B16 P N13 N15))) k4 (B18 P N13 N15) := fun _ _ _ _ _ _  => by kernel_rfl
noncomputable def o19 := ob Tryz.f67 [.r,.r,.l,.r,.l,.r,.r,.r,.r,.r,.r,.r,.r,.r,.l,.l,.r,.l,.l,.r,.l,.l,.r,.l,.l,.l,.l]
def B19 (P : PT) (N13 : NTy k3 Pr) (N15 : NTy k4 Pr) (x2 : Nat) (x4 : Value) (x6 x7 : Int) (H : AHeap) : Prop :=
  pif (decide ((x7 : Int) < 8)) (B18 P N13 N15 x2 x4 x6 x7 H) (B14 P N13 x2 x4 x6 H)
theorem q19 (P : PT) (N13 : NTy k3 Pr) (N15 : NTy k4 Pr) : QB Tryz.prog T0 228 o19 (cnd 71 (En 228 k4 (B18 P N13 N15)) (En 228 k3 (B14 P N13))) k4 (B19 P N13 N15) := fun _ _ _ _ _ _  => by kernel_rfl
def L15 (P : PT) (N13 : NTy k3 Pr) (x2 : Nat) (x4 : Value) (x6 x7 : Int) (H : AHeap) : Prop :=
  ∃ (I : NTy k4 Pr) (μ : NTy k4 (AHeap → Nat)), I x2 x4 x6 x7 H ∧ ∀ y2 y4 y6 y7 G, I y2 y4 y6 y7 G → B19 P N13 (fun z2 z4 z6 z7 G' => I z2 z4 z6 z7 G' ∧ μ z2 z4 z6 z7 G' < μ y2 y4 y6 y7 G) y2 y4 y6 y7 G
theorem l15 (P : PT) (N13 : NTy k3 Pr) : LQ k4 (L15 P N13) (B19 P N13) := fun ⟨_,_,_,_,_⟩ _ ⟨I, μ, h0, hI⟩ => ⟨apT _ I, apT _ μ, h0, fun ⟨_,_,_,_,_⟩ _ h => hI _ _ _ _ _  h⟩
noncomputable def o20 := ob Tryz.f67 [.r,.r,.l,.r,.l,.r,.r,.r,.r,.r,.r,.r,.r,.r,.l,.l,.r,.l,.l,.r,.l,.l,.l]
def B20 (P : PT) (N13 : NTy k3 Pr) (x2 : Nat) (x4 : Value) (x6 : Int) (H : AHeap) : Prop :=
  L15 P N13 x2 x4 x6 1 H
theorem q20 (P : PT) (N13 : NTy k3 Pr) : QB Tryz.prog T0 228 o20 (En 228 k4 (L15 P N13)) k3 (B20 P N13) := fun _ _ _ _ _  => by kernel_rfl
noncomputable def o21 := ob Tryz.f67 [.r,.r,.l,.r,.l,.r,.r,.r,.r,.r,.r,.r,.r,.r,.l,.l,.r,.l,.l,.l,.l]
def B21 (P : PT) (N13 : NTy k3 Pr) (x2 : Nat) (x4 : Value) (x6 : Int) (H : AHeap) : Prop :=
  pif (decide ((x6 : Int) < 8)) (B20 P N13 x2 x4 x6 H) (B12 P x2 x4 H)
theorem q21 (P : PT) (N13 : NTy k3 Pr) : QB Tryz.prog T0 228 o21 (cnd 67 (En 228 k3 (B20 P N13)) (En 228 k1 (B12 P))) k3 (B21 P N13) := fun _ _ _ _ _  => by kernel_rfl
def L13 (P : PT) (x2 : Nat) (x4 : Value) (x6 : Int) (H : AHeap) : Prop :=
  ∃ (I : NTy k3 Pr) (μ : NTy k3 (AHeap → Nat)), I x2 x4 x6 H ∧ ∀ y2 y4 y6 G, I y2 y4 y6 G → B21 P (fun z2 z4 z6 G' => I z2 z4 z6 G' ∧ μ z2 z4 z6 G' < μ y2 y4 y6 G) y2 y4 y6 G
theorem l13 (P : PT) : LQ k3 (L13 P) (B21 P) := fun ⟨_,_,_,_⟩ _ ⟨I, μ, h0, hI⟩ => ⟨apT _ I, apT _ μ, h0, fun ⟨_,_,_,_⟩ _ h => hI _ _ _ _  h⟩
noncomputable def o22 := ob Tryz.f67 [.r,.r,.l,.r,.l,.r,.r,.r,.r,.r,.r,.r,.r,.r,.l,.l,.l]
def B22 (P : PT) (x2 : Nat) (x4 : Value) (H : AHeap) : Prop :=
  L13 P x2 x4 0 H
theorem q22 (P : PT) : QB Tryz.prog T0 228 o22 (En 228 k3 (L13 P)) k1 (B22 P) := fun _ _ _ _  => by kernel_rfl
noncomputable def o23 := ob Tryz.f67 [.r,.r,.l,.r,.l,.r,.r,.r,.r,.r,.r,.r,.r,.r,.r,.r,.l,.r,.l]
def B23 (P : PT) (x2 : Nat) (x4 : Value) (H : AHeap) : Prop :=
  AC Tryz.prog T0 141 [(Value.int .i64 10), x4] H (fun v1 H2 => agg2 v1 (fun v3 v4 => asI .i64 v3 (fun v5 => stK H2 x2 0 [(Value.int .i64 v5), v4] (fun H7 => ldI .i64 H7 x2 0 (fun v8 => ld1 H7 x2 1 (fun v9 => P (Value.tuple ⟨[(Value.agg ⟨[(Value.int .i64 v8), v9]⟩), (Value.bool true)]⟩) H7))))))
theorem q23 (P : PT) : QB Tryz.prog T0 228 o23 (ret P) k1 (B23 P) := fun _ _ _ _  => by kernel_rfl
abbrev k5 : Sk := [(2,.x),(4,.v),(8,.i .i64)]
noncomputable def o25 := ob Tryz.f67 [.r,.r,.l,.r,.l,.r,.r,.r,.r,.r,.r,.r,.r,.r,.r,.r,.l,.l,.r,.l,.l,.r,.r]
def B25 (P : PT) (N24 : NTy k5 Pr) (x2 : Nat) (x4 : Value) (x8 : Int) (H : AHeap) : Prop :=
  N24 x2 x4 (IntKind.i64.wrap (x8 + 1)) H
theorem q25 (P : PT) (N24 : NTy k5 Pr) : QB Tryz.prog T0 228 o25 (En 228 k5 N24) k5 (B25 P N24) := fun _ _ _ _ _  => by kernel_rfl
noncomputable def o26 := ob Tryz.f67 [.r,.r,.l,.r,.l,.r,.r,.r,.r,.r,.r,.r,.r,.r,.r,.r,.l,.l,.r,.l,.l,.r,.l,.l]
def B26 (P : PT) (N24 : NTy k5 Pr) (x2 : Nat) (x4 : Value) (x8 : Int) (H : AHeap) : Prop :=
  newK H [(Value.int .i64 x8), (Value.int .i64 (Int.tmod (IntKind.i64.wrap (x8 + 1)) 5)), (Value.int .i64 x8), (Value.int .i64 (IntKind.i64.wrap (x8 + 5))), (Value.int .i64 (IntKind.i64.wrap (x8 + 5))), (Value.int .i64 (IntKind.i64.wrap ((Int.tmod (IntKind.i64.wrap (x8 + 2)) 5) + 5)))] 78 (fun b1 H2 => apK T0 78 H2 x4 (Value.slice (some ⟨b1, 0, none⟩) 3 (3 + 1)) (fun v3 H4 => B25 P N24 x2 v3 x8 H4))
theorem q26 (P : PT) (N24 : NTy k5 Pr) : QB Tryz.prog T0 228 o26 (En 228 k5 (B25 P N24)) k5 (B26 P N24) := fun _ _ _ _ _  => by kernel_rfl
noncomputable def o27 := ob Tryz.f67 [.r,.r,.l,.r,.l,.r,.r,.r,.r,.r,.r,.r,.r,.r,.r,.r,.l,.l,.r,.l,.l,.l,.l]
def B27 (P : PT) (N24 : NTy k5 Pr) (x2 : Nat) (x4 : Value) (x8 : Int) (H : AHeap) : Prop :=
  pif (decide ((x8 : Int) < 5)) (B26 P N24 x2 x4 x8 H) (B23 P x2 x4 H)
theorem q27 (P : PT) (N24 : NTy k5 Pr) : QB Tryz.prog T0 228 o27 (cnd 91 (En 228 k5 (B26 P N24)) (En 228 k1 (B23 P))) k5 (B27 P N24) := fun _ _ _ _ _  => by kernel_rfl
def L24 (P : PT) (x2 : Nat) (x4 : Value) (x8 : Int) (H : AHeap) : Prop :=
  ∃ (I : NTy k5 Pr) (μ : NTy k5 (AHeap → Nat)), I x2 x4 x8 H ∧ ∀ y2 y4 y8 G, I y2 y4 y8 G → B27 P (fun z2 z4 z8 G' => I z2 z4 z8 G' ∧ μ z2 z4 z8 G' < μ y2 y4 y8 G) y2 y4 y8 G
theorem l24 (P : PT) : LQ k5 (L24 P) (B27 P) := fun ⟨_,_,_,_⟩ _ ⟨I, μ, h0, hI⟩ => ⟨apT _ I, apT _ μ, h0, fun ⟨_,_,_,_⟩ _ h => hI _ _ _ _  h⟩
noncomputable def o28 := ob Tryz.f67 [.r,.r,.l,.r,.l,.r,.r,.r,.r,.r,.r,.r,.r,.r,.r,.r,.l,.l,.l]
def B28 (P : PT) (x2 : Nat) (x4 : Value) (H : AHeap) : Prop :=
  L24 P x2 x4 0 H
theorem q28 (P : PT) : QB Tryz.prog T0 228 o28 (En 228 k5 (L24 P)) k1 (B28 P) := fun _ _ _ _  => by kernel_rfl
noncomputable def o29 := ob Tryz.f67 [.r,.r,.l,.r,.l,.r,.r,.r,.r,.r,.r,.r,.r,.r,.r,.r,.r,.r,.l,.r,.r,.r,.l]
def B29 (P : PT) (x2 : Nat) (x4 : Value) (H : AHeap) : Prop :=
  newK H [(Value.int .i64 0), (Value.int .i64 1), (Value.int .i64 10), (Value.int .i64 4), (Value.int .i64 11), (Value.int .i64 5)] 78 (fun b1 H2 => apK T0 78 H2 x4 (Value.slice (some ⟨b1, 0, none⟩) 3 (3 + 1)) (fun v3 H4 => AC Tryz.prog T0 141 [(Value.int .i64 12), v3] H4 (fun v5 H6 => agg2 v5 (fun v7 v8 => asI .i64 v7 (fun v9 => stK H6 x2 0 [(Value.int .i64 v9), v8] (fun H11 => ldI .i64 H11 x2 0 (fun v12 => ld1 H11 x2 1 (fun v13 => P (Value.tuple ⟨[(Value.agg ⟨[(Value.int .i64 v12), v13]⟩), (Value.bool true)]⟩) H11))))))))
theorem q29 (P : PT) : QB Tryz.prog T0 228 o29 (ret P) k1 (B29 P) := fun _ _ _ _  => by kernel_rfl
noncomputable def o30 := ob Tryz.f67 [.r,.r,.l,.r,.l,.r,.r,.r,.r,.r,.r,.r,.r,.r,.r,.r,.r,.r,.l,.r,.r,.l]
def B30 (P : PT) (x2 : Nat) (x4 : Value) (H : AHeap) : Prop :=
  newK H [(Value.int .i64 0), (Value.int .i64 10), (Value.int .i64 11)] 2 (fun b1 H2 => AC Tryz.prog T0 142 [x4, (Value.slice (some ⟨b1, 0, none⟩) 3 (3 + 1))] H2 (fun v3 H4 => B29 P x2 v3 H4))
theorem q30 (P : PT) : QB Tryz.prog T0 228 o30 (En 228 k1 (B29 P)) k1 (B30 P) := fun _ _ _ _  => by kernel_rfl
abbrev k6 : Sk := [(2,.x),(4,.v),(9,.x),(11,.i .i64)]
noncomputable def o32 := ob Tryz.f67 [.r,.r,.l,.r,.l,.r,.r,.r,.r,.r,.r,.r,.r,.r,.r,.r,.r,.r,.l,.r,.l,.r,.l,.l,.r,.r]
def B32 (P : PT) (N31 : NTy k6 Pr) (x2 : Nat) (x4 : Value) (x9 : Nat) (x11 : Int) (H : AHeap) : Prop :=
  N31 x2 x4 x9 (IntKind.i64.wrap (x11 + 1)) H
theorem q32 (P : PT) (N31 : NTy k6 Pr) : QB Tryz.prog T0 228 o32 (En 228 k6 N31) k6 (B32 P N31) := fun _ _ _ _ _ _  => by kernel_rfl
noncomputable def o33 := ob Tryz.f67 [.r,.r,.l,.r,.l,.r,.r,.r,.r,.r,.r,.r,.r,.r,.r,.r,.r,.r,.l,.r,.l,.r,.l,.l,.r,.l,.l,.r,.l]
def B33 (P : PT) (N31 : NTy k6 Pr) (x2 : Nat) (x4 : Value) (x9 : Nat) (x11 : Int) (H : AHeap) : Prop :=
  ld1 H x9 1 (fun v1 => idxK v1 x11 2 (fun b2 o3 => ldI .i64 H b2 o3 (fun v4 => ldI .i64 H b2 (o3 + 1) (fun v5 => newK H [(Value.int .i64 v4), (Value.int .i64 v5)] 78 (fun b6 H7 => apK T0 78 H7 x4 (Value.slice (some ⟨b6, 0, none⟩) 1 (1 + 1)) (fun v8 H9 => B32 P N31 x2 v8 x9 x11 H9))))))
theorem q33 (P : PT) (N31 : NTy k6 Pr) : QB Tryz.prog T0 228 o33 (En 228 k6 (B32 P N31)) k6 (B33 P N31) := fun _ _ _ _ _ _  => by kernel_rfl
noncomputable def o34 := ob Tryz.f67 [.r,.r,.l,.r,.l,.r,.r,.r,.r,.r,.r,.r,.r,.r,.r,.r,.r,.r,.l,.r,.l,.r,.l,.l,.r,.l,.l,.l]
def B34 (P : PT) (N31 : NTy k6 Pr) (x2 : Nat) (x4 : Value) (x9 : Nat) (x11 : Int) (H : AHeap) : Prop :=
  ld1 H x9 1 (fun v1 => idxK v1 x11 2 (fun b2 o3 => ldI .i64 H b2 o3 (fun v4 => pif ((v4 : Int) != 0) (B33 P N31 x2 x4 x9 x11 H) (B32 P N31 x2 x4 x9 x11 H))))
theorem q34 (P : PT) (N31 : NTy k6 Pr) : QB Tryz.prog T0 228 o34 (cnd 134 (En 228 k6 (B33 P N31)) (En 228 k6 (B32 P N31))) k6 (B34 P N31) := fun _ _ _ _ _ _  => by kernel_rfl
noncomputable def o35 := ob Tryz.f67 [.r,.r,.l,.r,.l,.r,.r,.r,.r,.r,.r,.r,.r,.r,.r,.r,.r,.r,.l,.r,.l,.r,.l,.l,.l,.l]
def B35 (P : PT) (N31 : NTy k6 Pr) (x2 : Nat) (x4 : Value) (x9 : Nat) (x11 : Int) (H : AHeap) : Prop :=
  ld1 H x9 1 (fun v1 => lenK v1 (fun n2 => pif (decide ((x11 : Int) < (n2 : Int))) (B34 P N31 x2 x4 x9 x11 H) (B30 P x2 x4 H)))
theorem q35 (P : PT) (N31 : NTy k6 Pr) : QB Tryz.prog T0 228 o35 (cnd 125 (En 228 k6 (B34 P N31)) (En 228 k1 (B30 P))) k6 (B35 P N31) := fun _ _ _ _ _ _  => by kernel_rfl
def L31 (P : PT) (x2 : Nat) (x4 : Value) (x9 : Nat) (x11 : Int) (H : AHeap) : Prop :=
  ∃ (I : NTy k6 Pr) (μ : NTy k6 (AHeap → Nat)), I x2 x4 x9 x11 H ∧ ∀ y2 y4 y9 y11 G, I y2 y4 y9 y11 G → B35 P (fun z2 z4 z9 z11 G' => I z2 z4 z9 z11 G' ∧ μ z2 z4 z9 z11 G' < μ y2 y4 y9 y11 G) y2 y4 y9 y11 G
theorem l31 (P : PT) : LQ k6 (L31 P) (B35 P) := fun ⟨_,_,_,_,_⟩ _ ⟨I, μ, h0, hI⟩ => ⟨apT _ I, apT _ μ, h0, fun ⟨_,_,_,_,_⟩ _ h => hI _ _ _ _ _  h⟩
abbrev k7 : Sk := [(2,.x),(4,.v),(9,.x)]
noncomputable def o36 := ob Tryz.f67 [.r,.r,.l,.r,.l,.r,.r,.r,.r,.r,.r,.r,.r,.r,.r,.r,.r,.r,.l,.r,.l,.l]
def B36 (P : PT) (x2 : Nat) (x4 : Value) (x9 : Nat) (H : AHeap) : Prop :=
  L31 P x2 x4 x9 0 H
theorem q36 (P : PT) : QB Tryz.prog T0 228 o36 (En 228 k6 (L31 P)) k7 (B36 P) := fun _ _ _ _ _  => by kernel_rfl
noncomputable def o37 := ob Tryz.f67 [.r,.r,.l,.r,.l,.r,.r,.r,.r,.r,.r,.r,.r,.r,.r,.r,.r,.r,.l,.l]
def B37 (P : PT) (x2 : Nat) (x4 : Value) (H : AHeap) : Prop :=
  AC Tryz.prog T0 67 [(Value.string (⟨#[112, 101, 116, 101, 114, 115, 101, 110]⟩))] H (fun v1 H2 => tup2 v1 (fun v3 v4 => agg2 v3 (fun v5 v6 => asI .i64 v5 (fun v7 => asB v4 (fun v9 => newK H2 [(Value.int .i64 0), (Value.slice none 0 0)] 26 (fun b10 H11 => stK H11 b10 0 [(Value.int .i64 v7), v6] (fun H12 => B36 P x2 x4 b10 H12)))))))
theorem q37 (P : PT) : QB Tryz.prog T0 228 o37 (En 228 k7 (B36 P)) k1 (B37 P) := fun _ _ _ _  => by kernel_rfl
noncomputable def o38 := ob Tryz.f67 [.r,.r,.l,.r,.l,.r,.r,.r,.r,.r,.r,.r,.r,.r,.r,.r,.r,.r,.r,.r,.l,.r,.r,.l]
def B38 (P : PT) (x2 : Nat) (x4 : Value) (H : AHeap) : Prop :=
  newK H [(Value.int .i64 10), (Value.int .i64 11), (Value.int .i64 12), (Value.int .i64 13), (Value.int .i64 14), (Value.int .i64 15), (Value.int .i64 16), (Value.int .i64 17), (Value.int .i64 18), (Value.int .i64 19)] 2 (fun b1 H2 => AC Tryz.prog T0 142 [x4, (Value.slice (some ⟨b1, 0, none⟩) 10 (10 + 1))] H2 (fun v3 H4 => AC Tryz.prog T0 141 [(Value.int .i64 20), v3] H4 (fun v6 H7 => agg2 v6 (fun v8 v9 => asI .i64 v8 (fun v10 => stK H7 x2 0 [(Value.int .i64 v10), v9] (fun H12 => ldI .i64 H12 x2 0 (fun v13 => ld1 H12 x2 1 (fun v14 => P (Value.tuple ⟨[(Value.agg ⟨[(Value.int .i64 v13), v14]⟩), (Value.bool true)]⟩) H12))))))))
theorem q38 (P : PT) : QB Tryz.prog T0 228 o38 (ret P) k1 (B38 P) := fun _ _ _ _  => by kernel_rfl
noncomputable def o39 := ob Tryz.f67 [.r,.r,.l,.r,.l,.r,.r,.r,.r,.r,.r,.r,.r,.r,.r,.r,.r,.r,.r,.r,.l,.r,.l]
def B39 (P : PT) (x2 : Nat) (x4 : Value) (H : AHeap) : Prop :=
  newK H [(Value.int .i64 5), (Value.int .i64 6), (Value.int .i64 7), (Value.int .i64 8), (Value.int .i64 9)] 2 (fun b1 H2 => AC Tryz.prog T0 142 [x4, (Value.slice (some ⟨b1, 0, none⟩) 5 (5 + 1))] H2 (fun v3 H4 => B38 P x2 v3 H4))
theorem q39 (P : PT) : QB Tryz.prog T0 228 o39 (En 228 k1 (B38 P)) k1 (B39 P) := fun _ _ _ _  => by kernel_rfl
abbrev k8 : Sk := [(2,.x),(4,.v),(12,.i .i64)]
noncomputable def o41 := ob Tryz.f67 [.r,.r,.l,.r,.l,.r,.r,.r,.r,.r,.r,.r,.r,.r,.r,.r,.r,.r,.r,.r,.l,.l,.r,.l,.l,.r,.r]
def B41 (P : PT) (N40 : NTy k8 Pr) (x2 : Nat) (x4 : Value) (x12 : Int) (H : AHeap) : Prop :=
  N40 x2 x4 (IntKind.i64.wrap (x12 + 1)) H
theorem q41 (P : PT) (N40 : NTy k8 Pr) : QB Tryz.prog T0 228 o41 (En 228 k8 N40) k8 (B41 P N40) := fun _ _ _ _ _  => by kernel_rfl
noncomputable def o42 := ob Tryz.f67 [.r,.r,.l,.r,.l,.r,.r,.r,.r,.r,.r,.r,.r,.r,.r,.r,.r,.r,.r,.r,.l,.l,.r,.l,.l,.r,.l,.l]
def B42 (P : PT) (N40 : NTy k8 Pr) (x2 : Nat) (x4 : Value) (x12 : Int) (H : AHeap) : Prop :=
  newK H [(Value.int .i64 x12), (Value.int .i64 (IntKind.i64.wrap (x12 + 5))), (Value.int .i64 x12), (Value.int .i64 (IntKind.i64.wrap (x12 + 10))), (Value.int .i64 x12), (Value.int .i64 (IntKind.i64.wrap (x12 + 15)))] 78 (fun b1 H2 => apK T0 78 H2 x4 (Value.slice (some ⟨b1, 0, none⟩) 3 (3 + 1)) (fun v3 H4 => B41 P N40 x2 v3 x12 H4))
theorem q42 (P : PT) (N40 : NTy k8 Pr) : QB Tryz.prog T0 228 o42 (En 228 k8 (B41 P N40)) k8 (B42 P N40) := fun _ _ _ _ _  => by kernel_rfl
noncomputable def o43 := ob Tryz.f67 [.r,.r,.l,.r,.l,.r,.r,.r,.r,.r,.r,.r,.r,.r,.r,.r,.r,.r,.r,.r,.l,.l,.r,.l,.l,.l,.l]
def B43 (P : PT) (N40 : NTy k8 Pr) (x2 : Nat) (x4 : Value) (x12 : Int) (H : AHeap) : Prop :=
  pif (decide ((x12 : Int) < 5)) (B42 P N40 x2 x4 x12 H) (B39 P x2 x4 H)
theorem q43 (P : PT) (N40 : NTy k8 Pr) : QB Tryz.prog T0 228 o43 (cnd 156 (En 228 k8 (B42 P N40)) (En 228 k1 (B39 P))) k8 (B43 P N40) := fun _ _ _ _ _  => by kernel_rfl
def L40 (P : PT) (x2 : Nat) (x4 : Value) (x12 : Int) (H : AHeap) : Prop :=
  ∃ (I : NTy k8 Pr) (μ : NTy k8 (AHeap → Nat)), I x2 x4 x12 H ∧ ∀ y2 y4 y12 G, I y2 y4 y12 G → B43 P (fun z2 z4 z12 G' => I z2 z4 z12 G' ∧ μ z2 z4 z12 G' < μ y2 y4 y12 G) y2 y4 y12 G
theorem l40 (P : PT) : LQ k8 (L40 P) (B43 P) := fun ⟨_,_,_,_⟩ _ ⟨I, μ, h0, hI⟩ => ⟨apT _ I, apT _ μ, h0, fun ⟨_,_,_,_⟩ _ h => hI _ _ _ _  h⟩
noncomputable def o44 := ob Tryz.f67 [.r,.r,.l,.r,.l,.r,.r,.r,.r,.r,.r,.r,.r,.r,.r,.r,.r,.r,.r,.r,.l,.l,.l]
def B44 (P : PT) (x2 : Nat) (x4 : Value) (H : AHeap) : Prop :=
  L40 P x2 x4 0 H
theorem q44 (P : PT) : QB Tryz.prog T0 228 o44 (En 228 k8 (L40 P)) k1 (B44 P) := fun _ _ _ _  => by kernel_rfl
noncomputable def o45 := ob Tryz.f67 [.r,.r,.l,.r,.l,.r,.r,.r,.r,.r,.r,.r,.r,.r,.r,.r,.r,.r,.r,.r,.r,.r,.l,.r,.l]
def B45 (P : PT) (x2 : Nat) (x4 : Value) (H : AHeap) : Prop :=
  newK H [(Value.int .i64 4), (Value.int .i64 9)] 78 (fun b1 H2 => apK T0 78 H2 x4 (Value.slice (some ⟨b1, 0, none⟩) 1 (1 + 1)) (fun v3 H4 => AC Tryz.prog T0 141 [(Value.int .i64 10), v3] H4 (fun v5 H6 => agg2 v5 (fun v7 v8 => asI .i64 v7 (fun v9 => stK H6 x2 0 [(Value.int .i64 v9), v8] (fun H11 => ldI .i64 H11 x2 0 (fun v12 => ld1 H11 x2 1 (fun v13 => P (Value.tuple ⟨[(Value.agg ⟨[(Value.int .i64 v12), v13]⟩), (Value.bool true)]⟩) H11))))))))
theorem q45 (P : PT) : QB Tryz.prog T0 228 o45 (ret P) k1 (B45 P) := fun _ _ _ _  => by kernel_rfl
abbrev k9 : Sk := [(2,.x),(4,.v),(13,.i .i64)]
noncomputable def o47 := ob Tryz.f67 [.r,.r,.l,.r,.l,.r,.r,.r,.r,.r,.r,.r,.r,.r,.r,.r,.r,.r,.r,.r,.r,.r,.l,.l,.r,.l,.l,.r,.r]
def B47 (P : PT) (N46 : NTy k9 Pr) (x2 : Nat) (x4 : Value) (x13 : Int) (H : AHeap) : Prop :=
  N46 x2 x4 (IntKind.i64.wrap (x13 + 5)) H
theorem q47 (P : PT) (N46 : NTy k9 Pr) : QB Tryz.prog T0 228 o47 (En 228 k9 N46) k9 (B47 P N46) := fun _ _ _ _ _  => by kernel_rfl
noncomputable def o48 := ob Tryz.f67 [.r,.r,.l,.r,.l,.r,.r,.r,.r,.r,.r,.r,.r,.r,.r,.r,.r,.r,.r,.r,.r,.r,.l,.l,.r,.l,.l,.r,.l,.l]
def B48 (P : PT) (N46 : NTy k9 Pr) (x2 : Nat) (x4 : Value) (x13 : Int) (H : AHeap) : Prop :=
  newK H [(Value.int .i64 x13), (Value.int .i64 (IntKind.i64.wrap (x13 + 2))), (Value.int .i64 x13), (Value.int .i64 (IntKind.i64.wrap (x13 + 3))), (Value.int .i64 (IntKind.i64.wrap (x13 + 1))), (Value.int .i64 (IntKind.i64.wrap (x13 + 2))), (Value.int .i64 (IntKind.i64.wrap (x13 + 1))), (Value.int .i64 (IntKind.i64.wrap (x13 + 3))), (Value.int .i64 (IntKind.i64.wrap (x13 + 2))), (Value.int .i64 (IntKind.i64.wrap (x13 + 3))), (Value.int .i64 x13), (Value.int .i64 (IntKind.i64.wrap (x13 + 4))), (Value.int .i64 (IntKind.i64.wrap (x13 + 1))), (Value.int .i64 (IntKind.i64.wrap (x13 + 4)))] 78 (fun b1 H2 => apK T0 78 H2 x4 (Value.slice (some ⟨b1, 0, none⟩) 7 (7 + 1)) (fun v3 H4 => B47 P N46 x2 v3 x13 H4))
theorem q48 (P : PT) (N46 : NTy k9 Pr) : QB Tryz.prog T0 228 o48 (En 228 k9 (B47 P N46)) k9 (B48 P N46) := fun _ _ _ _ _  => by kernel_rfl
noncomputable def o49 := ob Tryz.f67 [.r,.r,.l,.r,.l,.r,.r,.r,.r,.r,.r,.r,.r,.r,.r,.r,.r,.r,.r,.r,.r,.r,.l,.l,.r,.l,.l,.l,.l]
def B49 (P : PT) (N46 : NTy k9 Pr) (x2 : Nat) (x4 : Value) (x13 : Int) (H : AHeap) : Prop :=
  pif (decide ((x13 : Int) ≤ 5)) (B48 P N46 x2 x4 x13 H) (B45 P x2 x4 H)
theorem q49 (P : PT) (N46 : NTy k9 Pr) : QB Tryz.prog T0 228 o49 (cnd 184 (En 228 k9 (B48 P N46)) (En 228 k1 (B45 P))) k9 (B49 P N46) := fun _ _ _ _ _  => by kernel_rfl
def L46 (P : PT) (x2 : Nat) (x4 : Value) (x13 : Int) (H : AHeap) : Prop :=
  ∃ (I : NTy k9 Pr) (μ : NTy k9 (AHeap → Nat)), I x2 x4 x13 H ∧ ∀ y2 y4 y13 G, I y2 y4 y13 G → B49 P (fun z2 z4 z13 G' => I z2 z4 z13 G' ∧ μ z2 z4 z13 G' < μ y2 y4 y13 G) y2 y4 y13 G
theorem l46 (P : PT) : LQ k9 (L46 P) (B49 P) := fun ⟨_,_,_,_⟩ _ ⟨I, μ, h0, hI⟩ => ⟨apT _ I, apT _ μ, h0, fun ⟨_,_,_,_⟩ _ h => hI _ _ _ _  h⟩
noncomputable def o50 := ob Tryz.f67 [.r,.r,.l,.r,.l,.r,.r,.r,.r,.r,.r,.r,.r,.r,.r,.r,.r,.r,.r,.r,.r,.r,.l,.l,.l]
def B50 (P : PT) (x2 : Nat) (x4 : Value) (H : AHeap) : Prop :=
  L46 P x2 x4 0 H
theorem q50 (P : PT) : QB Tryz.prog T0 228 o50 (En 228 k9 (L46 P)) k1 (B50 P) := fun _ _ _ _  => by kernel_rfl
abbrev k10 : Sk := [(2,.x),(4,.v),(15,.s)]
noncomputable def o51 := ob Tryz.f67 [.r,.r,.l,.r,.l,.r,.r,.r,.r,.r,.r,.r,.r,.r,.r,.r,.r,.r,.r,.r,.r,.l]
def B51 (P : PT) (x2 : Nat) (x4 : Value) (x15 : ByteArray) (H : AHeap) : Prop :=
  pif (ByteArray.toList x15 == ByteArray.toList (⟨#[98, 114, 105, 100, 103, 101]⟩)) (B50 P x2 x4 H) (B1 P x2 H)
theorem q51 (P : PT) : QB Tryz.prog T0 228 o51 (cnd 181 (En 228 k1 (B50 P)) (En 228 k0 (B1 P))) k10 (B51 P) := fun _ _ _ _ _  => by kernel_rfl
noncomputable def o52 := ob Tryz.f67 [.r,.r,.l,.r,.l,.r,.r,.r,.r,.r,.r,.r,.r,.r,.r,.r,.r,.r,.r,.l]
def B52 (P : PT) (x2 : Nat) (x4 : Value) (x15 : ByteArray) (H : AHeap) : Prop :=
  pif (ByteArray.toList x15 == ByteArray.toList (⟨#[102, 108, 111, 119, 101, 114, 53]⟩)) (B44 P x2 x4 H) (B51 P x2 x4 x15 H)
theorem q52 (P : PT) : QB Tryz.prog T0 228 o52 (cnd 153 (En 228 k1 (B44 P)) (En 228 k10 (B51 P))) k10 (B52 P) := fun _ _ _ _ _  => by kernel_rfl
noncomputable def o53 := ob Tryz.f67 [.r,.r,.l,.r,.l,.r,.r,.r,.r,.r,.r,.r,.r,.r,.r,.r,.r,.l]
def B53 (P : PT) (x2 : Nat) (x4 : Value) (x15 : ByteArray) (H : AHeap) : Prop :=
  pif (ByteArray.toList x15 == ByteArray.toList (⟨#[116, 105, 101, 116, 122, 101]⟩)) (B37 P x2 x4 H) (B52 P x2 x4 x15 H)
theorem q53 (P : PT) : QB Tryz.prog T0 228 o53 (cnd 115 (En 228 k1 (B37 P)) (En 228 k10 (B52 P))) k10 (B53 P) := fun _ _ _ _ _  => by kernel_rfl
noncomputable def o54 := ob Tryz.f67 [.r,.r,.l,.r,.l,.r,.r,.r,.r,.r,.r,.r,.r,.r,.r,.l]
def B54 (P : PT) (x2 : Nat) (x4 : Value) (x15 : ByteArray) (H : AHeap) : Prop :=
  pif (ByteArray.toList x15 == ByteArray.toList (⟨#[112, 101, 116, 101, 114, 115, 101, 110]⟩)) (B28 P x2 x4 H) (B53 P x2 x4 x15 H)
theorem q54 (P : PT) : QB Tryz.prog T0 228 o54 (cnd 88 (En 228 k1 (B28 P)) (En 228 k10 (B53 P))) k10 (B54 P) := fun _ _ _ _ _  => by kernel_rfl
noncomputable def o55 := ob Tryz.f67 [.r,.r,.l,.r,.l,.r,.r,.r,.r,.r,.r,.r,.r,.l]
def B55 (P : PT) (x2 : Nat) (x4 : Value) (x15 : ByteArray) (H : AHeap) : Prop :=
  pif (ByteArray.toList x15 == ByteArray.toList (⟨#[99, 117, 98, 101]⟩)) (B22 P x2 x4 H) (B54 P x2 x4 x15 H)
theorem q55 (P : PT) : QB Tryz.prog T0 228 o55 (cnd 64 (En 228 k1 (B22 P)) (En 228 k10 (B54 P))) k10 (B55 P) := fun _ _ _ _ _  => by kernel_rfl
noncomputable def o56 := ob Tryz.f67 [.r,.r,.l,.r,.l,.r,.r,.r,.r,.r,.r,.l]
def B56 (P : PT) (x2 : Nat) (x4 : Value) (x15 : ByteArray) (H : AHeap) : Prop :=
  pif (ByteArray.toList x15 == ByteArray.toList (⟨#[112, 114, 105, 115, 109]⟩)) (B11 P x2 x4 H) (B55 P x2 x4 x15 H)
theorem q56 (P : PT) : QB Tryz.prog T0 228 o56 (cnd 50 (En 228 k1 (B11 P)) (En 228 k10 (B55 P))) k10 (B56 P) := fun _ _ _ _ _  => by kernel_rfl
noncomputable def o57 := ob Tryz.f67 [.r,.r,.l,.r,.l,.r,.r,.r,.r,.l]
def B57 (P : PT) (x2 : Nat) (x4 : Value) (x15 : ByteArray) (H : AHeap) : Prop :=
  pif (ByteArray.toList x15 == ByteArray.toList (⟨#[107, 51, 51]⟩)) (B9 P x2 x4 H) (B56 P x2 x4 x15 H)
theorem q57 (P : PT) : QB Tryz.prog T0 228 o57 (cnd 33 (En 228 k1 (B9 P)) (En 228 k10 (B56 P))) k10 (B57 P) := fun _ _ _ _ _  => by kernel_rfl
noncomputable def o58 := ob Tryz.f67 [.r,.r,.l,.r,.l,.r,.r,.l]
def B58 (P : PT) (x2 : Nat) (x4 : Value) (x15 : ByteArray) (H : AHeap) : Prop :=
  pif (ByteArray.toList x15 == ByteArray.toList (⟨#[107, 52]⟩)) (B3 P x2 H) (B57 P x2 x4 x15 H)
theorem q58 (P : PT) : QB Tryz.prog T0 228 o58 (cnd 23 (En 228 k0 (B3 P)) (En 228 k10 (B57 P))) k10 (B58 P) := fun _ _ _ _ _  => by kernel_rfl
noncomputable def o59 := ob Tryz.f67 [.r,.r,.l,.r,.l,.l]
def B59 (P : PT) (x2 : Nat) (x4 : Value) (x15 : ByteArray) (H : AHeap) : Prop :=
  pif (ByteArray.toList x15 == ByteArray.toList (⟨#[116, 104, 101, 116, 97]⟩)) (B2 P x2 H) (B58 P x2 x4 x15 H)
theorem q59 (P : PT) : QB Tryz.prog T0 228 o59 (cnd 16 (En 228 k0 (B2 P)) (En 228 k10 (B58 P))) k10 (B59 P) := fun _ _ _ _ _  => by kernel_rfl
abbrev k11 : Sk := [(0,.s),(2,.x),(4,.v)]
noncomputable def o60 := ob Tryz.f67 [.r,.r,.l,.l]
def B60 (P : PT) (x0 : ByteArray) (x2 : Nat) (x4 : Value) (H : AHeap) : Prop :=
  B59 P x2 x4 x0 H
theorem q60 (P : PT) : QB Tryz.prog T0 228 o60 (En 228 k10 (B59 P)) k11 (B60 P) := fun _ _ _ _ _  => by kernel_rfl
abbrev k12 : Sk := [(0,.s),(2,.x)]
noncomputable def o61 := ob Tryz.f67 [.r,.l]
def B61 (P : PT) (x0 : ByteArray) (x2 : Nat) (H : AHeap) : Prop :=
  newK H [] 78 (fun b1 H2 => B60 P x0 x2 (Value.slice (some ⟨b1, 0, none⟩) 0 (0 + 1)) H2)
theorem q61 (P : PT) : QB Tryz.prog T0 228 o61 (En 228 k11 (B60 P)) k12 (B61 P) := fun _ _ _ _  => by kernel_rfl
abbrev k13 : Sk := [(0,.s)]
noncomputable def o62 := ob Tryz.f67 [.l]
def B62 (P : PT) (x0 : ByteArray) (H : AHeap) : Prop :=
  newK H [(Value.int .i64 0), (Value.slice none 0 0)] 26 (fun b1 H2 => B61 P x0 b1 H2)
theorem q62 (P : PT) : QB Tryz.prog T0 228 o62 (En 228 k12 (B61 P)) k13 (B62 P) := fun _ _ _  => by kernel_rfl
noncomputable def code : Code := (.seq (.region 0 ⟨o62⟩ false) (.seq (.region 1 ⟨o61⟩ false) (.seq (.seq (.region 2 ⟨o60⟩ false) (.block 0 (.seq (.region 3 ⟨o59⟩ false) (.cond (.tmp 16) (.seq (.region 4 ⟨o2⟩ false) .ret) (.seq (.region 5 ⟨o58⟩ false) (.cond (.tmp 23) (.seq (.region 6 ⟨o3⟩ false) .ret) (.seq (.region 7 ⟨o57⟩ false) (.cond (.tmp 33) (.seq (.seq (.region 8 ⟨o9⟩ false) (.block 1 (.loop (.seq (.seq (.region 9 ⟨o8⟩ false) (.cond (.tmp 36) .skip (.exit 1))) (.seq (.block 2 (.region 11 ⟨o7⟩ false)) (.region 10 ⟨o6⟩ false)))))) (.seq (.region 12 ⟨o4⟩ false) .ret)) (.seq (.region 13 ⟨o56⟩ false) (.cond (.tmp 50) (.seq (.region 14 ⟨o11⟩ false) (.seq (.region 15 ⟨o10⟩ false) .ret)) (.seq (.region 16 ⟨o55⟩ false) (.cond (.tmp 64) (.seq (.seq (.region 17 ⟨o22⟩ false) (.block 3 (.loop (.seq (.seq (.region 18 ⟨o21⟩ false) (.cond (.tmp 67) .skip (.exit 3))) (.seq (.block 4 (.seq (.region 20 ⟨o20⟩ false) (.block 5 (.loop (.seq (.seq (.region 21 ⟨o19⟩ false) (.cond (.tmp 71) .skip (.exit 5))) (.seq (.block 6 (.seq (.region 23 ⟨o18⟩ false) (.cond (.tmp 77) (.region 24 ⟨o17⟩ false) .skip))) (.region 22 ⟨o16⟩ false))))))) (.region 19 ⟨o14⟩ false)))))) (.seq (.region 25 ⟨o12⟩ false) .ret)) (.seq (.region 26 ⟨o54⟩ false) (.cond (.tmp 88) (.seq (.seq (.region 27 ⟨o28⟩ false) (.block 7 (.loop (.seq (.seq (.region 28 ⟨o27⟩ false) (.cond (.tmp 91) .skip (.exit 7))) (.seq (.block 8 (.region 30 ⟨o26⟩ false)) (.region 29 ⟨o25⟩ false)))))) (.seq (.region 31 ⟨o23⟩ false) .ret)) (.seq (.region 32 ⟨o53⟩ false) (.cond (.tmp 115) (.seq (.region 33 ⟨o37⟩ false) (.seq (.seq (.region 34 ⟨o36⟩ false) (.block 9 (.loop (.seq (.seq (.region 35 ⟨o35⟩ false) (.cond (.tmp 125) .skip (.exit 9))) (.seq (.block 10 (.seq (.region 37 ⟨o34⟩ false) (.cond (.tmp 134) (.region 38 ⟨o33⟩ false) .skip))) (.region 36 ⟨o32⟩ false)))))) (.seq (.region 39 ⟨o30⟩ false) (.seq (.region 40 ⟨o29⟩ false) .ret)))) (.seq (.region 41 ⟨o52⟩ false) (.cond (.tmp 153) (.seq (.seq (.region 42 ⟨o44⟩ false) (.block 11 (.loop (.seq (.seq (.region 43 ⟨o43⟩ false) (.cond (.tmp 156) .skip (.exit 11))) (.seq (.block 12 (.region 45 ⟨o42⟩ false)) (.region 44 ⟨o41⟩ false)))))) (.seq (.region 46 ⟨o39⟩ false) (.seq (.region 47 ⟨o38⟩ false) .ret))) (.seq (.region 48 ⟨o51⟩ false) (.cond (.tmp 181) (.seq (.seq (.region 49 ⟨o50⟩ false) (.block 13 (.loop (.seq (.seq (.region 50 ⟨o49⟩ false) (.cond (.tmp 184) .skip (.exit 13))) (.seq (.block 14 (.region 52 ⟨o48⟩ false)) (.region 51 ⟨o47⟩ false)))))) (.seq (.region 53 ⟨o45⟩ false) .ret)) .skip)))))))))))))))))))) (.seq (.region 54 ⟨o1⟩ false) .ret))))
theorem body : Tryz.f67.body = some code := by kernel_rfl
theorem main (P : PT) : ∀ env H, (En 228 k13 (B62 P)) env H → AW Tryz.prog T0 code env H (mkQ (ret P) (fun _ _ _ => False) (ret P)) :=
  (r_seq (rB T0_ok (q62 P)) (r_seq (rB T0_ok (q61 P)) (r_seq (r_seq (rB T0_ok (q60 P)) (r_block (r_seq (rB T0_ok (q59 P)) (r_cond rfl (r_seq (rB T0_ok (q2 P)) r_ret) (r_seq (rB T0_ok (q58 P)) (r_cond rfl (r_seq (rB T0_ok (q3 P)) r_ret) (r_seq (rB T0_ok (q57 P)) (r_cond rfl (r_seq (r_seq (rB T0_ok (q9 P)) (r_block (rL (l5 P) (fun N5 => (r_seq (r_seq (rB T0_ok (q8 P N5)) (r_cond rfl r_skip (r_exit (fun _ _ h => h)))) (r_seq (r_block (rB T0_ok (q7 P N5))) (rB T0_ok (q6 P N5)))))))) (r_seq (rB T0_ok (q4 P)) r_ret)) (r_seq (rB T0_ok (q56 P)) (r_cond rfl (r_seq (rB T0_ok (q11 P)) (r_seq (rB T0_ok (q10 P)) r_ret)) (r_seq (rB T0_ok (q55 P)) (r_cond rfl (r_seq (r_seq (rB T0_ok (q22 P)) (r_block (rL (l13 P) (fun N13 => (r_seq (r_seq (rB T0_ok (q21 P N13)) (r_cond rfl r_skip (r_exit (fun _ _ h => h)))) (r_seq (r_block (r_seq (rB T0_ok (q20 P N13)) (r_block (rL (l15 P N13) (fun N15 => (r_seq (r_seq (rB T0_ok (q19 P N13 N15)) (r_cond rfl r_skip (r_exit (fun _ _ h => h)))) (r_seq (r_block (r_seq (rB T0_ok (q18 P N13 N15)) (r_cond rfl (rB T0_ok (q17 P N13 N15)) r_skip))) (rB T0_ok (q16 P N13 N15))))))))) (rB T0_ok (q14 P N13)))))))) (r_seq (rB T0_ok (q12 P)) r_ret)) (r_seq (rB T0_ok (q54 P)) (r_cond rfl (r_seq (r_seq (rB T0_ok (q28 P)) (r_block (rL (l24 P) (fun N24 => (r_seq (r_seq (rB T0_ok (q27 P N24)) (r_cond rfl r_skip (r_exit (fun _ _ h => h)))) (r_seq (r_block (rB T0_ok (q26 P N24))) (rB T0_ok (q25 P N24)))))))) (r_seq (rB T0_ok (q23 P)) r_ret)) (r_seq (rB T0_ok (q53 P)) (r_cond rfl (r_seq (rB T0_ok (q37 P)) (r_seq (r_seq (rB T0_ok (q36 P)) (r_block (rL (l31 P) (fun N31 => (r_seq (r_seq (rB T0_ok (q35 P N31)) (r_cond rfl r_skip (r_exit (fun _ _ h => h)))) (r_seq (r_block (r_seq (rB T0_ok (q34 P N31)) (r_cond rfl (rB T0_ok (q33 P N31)) r_skip))) (rB T0_ok (q32 P N31)))))))) (r_seq (rB T0_ok (q30 P)) (r_seq (rB T0_ok (q29 P)) r_ret)))) (r_seq (rB T0_ok (q52 P)) (r_cond rfl (r_seq (r_seq (rB T0_ok (q44 P)) (r_block (rL (l40 P) (fun N40 => (r_seq (r_seq (rB T0_ok (q43 P N40)) (r_cond rfl r_skip (r_exit (fun _ _ h => h)))) (r_seq (r_block (rB T0_ok (q42 P N40))) (rB T0_ok (q41 P N40)))))))) (r_seq (rB T0_ok (q39 P)) (r_seq (rB T0_ok (q38 P)) r_ret))) (r_seq (rB T0_ok (q51 P)) (r_cond rfl (r_seq (r_seq (rB T0_ok (q50 P)) (r_block (rL (l46 P) (fun N46 => (r_seq (r_seq (rB T0_ok (q49 P N46)) (r_cond rfl r_skip (r_exit (fun _ _ h => h)))) (r_seq (r_block (rB T0_ok (q48 P N46))) (rB T0_ok (q47 P N46)))))))) (r_seq (rB T0_ok (q45 P)) r_ret)) r_skip)))))))))))))))))))) (r_seq (rB T0_ok (q1 P)) r_ret))))
theorem ac (P : PT) (x0 : ByteArray) (H : AHeap) (h : B62 P x0 H) : AC Tryz.prog T0 67 [(Value.string x0)] H P :=
  r_fn T0_ok (c := code) (n := 228) Tryz.func67 body (by kernel_rfl) (main P) (En_mk (x0, ()) (by kernel_rfl) ⟨by kernel_rfl, trivial⟩ h)

end F67
-- loop.example/g01329/spec.l01Bad
namespace F68
noncomputable def ret (P : PT) : EP := retE T0 69 Tryz.f68 P
abbrev k0 : Sk := [(3,.x),(4,.x),(5,.v)]
noncomputable def o1 := ob Tryz.f68 [.r,.r,.r,.l]
def B1 (P : PT) (x3 x4 : Nat) (x5 : Value) (H : AHeap) : Prop :=
  ldI .i64 H x3 0 (fun v1 => pif (Value.oneCell' x5) (stK H x4 0 [(Value.int .i64 v1), x5] (fun H2 => ldI .i64 H2 x4 0 (fun v3 => ld1 H2 x4 1 (fun v4 => P (Value.agg ⟨[(Value.int .i64 v3), v4]⟩) H2)))) False)
theorem q1 (P : PT) : QB Tryz.prog T0 69 o1 (ret P) k0 (B1 P) := fun _ _ _ _ _  => by kernel_rfl
abbrev k1 : Sk := [(0,.v),(3,.x),(4,.x),(5,.v)]
noncomputable def o2 := ob Tryz.f68 [.r,.r,.l,.r,.l,.r,.l,.l]
def B2 (P : PT) (x0 : Value) (x3 x4 : Nat) (x5 : Value) (H : AHeap) : Prop :=
  ldI .i64 H x3 0 (fun v1 => newK H [(Value.int .i64 0), (Value.int .i64 3), (Value.int .i64 22), (Value.int .i64 (-2)), (Value.int .i64 (IntKind.i64.wrap (v1 + 2)))] 2 (fun b2 H3 => AC Tryz.prog T0 83 [x0, (Value.slice (some ⟨b2, 0, none⟩) 5 (5 + 1))] H3 (fun v4 H5 => asI .i64 v4 (fun v6 => pif (Value.oneCell' x5) (stK H5 x4 0 [(Value.int .i64 v6), x5] (fun H7 => ldI .i64 H7 x4 0 (fun v8 => ld1 H7 x4 1 (fun v9 => P (Value.agg ⟨[(Value.int .i64 v8), v9]⟩) H7)))) False))))
theorem q2 (P : PT) : QB Tryz.prog T0 69 o2 (ret P) k1 (B2 P) := fun _ _ _ _ _ _  => by kernel_rfl
noncomputable def o3 := ob Tryz.f68 [.r,.r,.l,.r,.l,.r,.r,.r,.l]
def B3 (P : PT) (x0 : Value) (x3 x4 : Nat) (x5 : Value) (H : AHeap) : Prop :=
  lenK x5 (fun n1 => ldI .i64 H x3 0 (fun v2 => ldI .i64 H x3 0 (fun v3 => (AC Tryz.prog T0 66 [x0, (Value.int .i64 (n1 : Int))] H (fun v4 H5 => asI .i64 v4 (fun v6 => (ldI .i64 H5 x3 0 (fun v7 => ((Value.int .i64 v7) = (Value.int .i64 v2)) ∧ (H5 = H5))) ∧ ((ldI .i64 H5 x3 0 (fun v8 => ((Value.int .i64 v8) = (Value.int .i64 v3)) ∧ (H5 = H5))) ∧ ((AC Tryz.prog T0 66 [x0, (Value.int .i64 v2)] H5 (fun v9 H10 => asI .i64 v9 (fun v11 => (ldI .i64 H10 x3 0 (fun v12 => ((Value.int .i64 v12) = (Value.int .i64 v3)) ∧ (H10 = H10))) ∧ (newK H10 [(Value.int .i64 (-1)), (Value.int .i64 v3), (Value.int .i64 0)] 2 (fun b13 H14 => AC Tryz.prog T0 83 [x0, (Value.slice (some ⟨b13, 0, none⟩) 3 (3 + 1))] H14 (fun v15 H16 => asI .i64 v15 (fun v17 => idxK x5 v6 2 (fun b18 o19 => stK H16 b18 o19 [(Value.int .i64 v11), (Value.int .i64 v17)] (fun H20 => B1 P x3 x4 x5 H20))))))))) ∧ (newK H5 [(Value.int .i64 (-1)), (Value.int .i64 v3), (Value.int .i64 0)] 2 (fun b21 H22 => AC Tryz.prog T0 66 [x0, (Value.int .i64 v2)] H22 (fun v23 H24 => asI .i64 v23 (fun v25 => (ldI .i64 H24 x3 0 (fun v26 => ((Value.int .i64 v26) = (Value.int .i64 v3)) ∧ (H24 = H24))) ∧ (AC Tryz.prog T0 83 [x0, (Value.slice (some ⟨b21, 0, none⟩) 3 (3 + 1))] H24 (fun v27 H28 => asI .i64 v27 (fun v29 => idxK x5 v6 2 (fun b30 o31 => stK H28 b30 o31 [(Value.int .i64 v25), (Value.int .i64 v29)] (fun H32 => B1 P x3 x4 x5 H32)))))))))))))) ∧ (newK H [(Value.int .i64 (-1)), (Value.int .i64 v3), (Value.int .i64 0)] 2 (fun b33 H34 => AC Tryz.prog T0 66 [x0, (Value.int .i64 (n1 : Int))] H34 (fun v35 H36 => asI .i64 v35 (fun v37 => (ldI .i64 H36 x3 0 (fun v38 => ((Value.int .i64 v38) = (Value.int .i64 v2)) ∧ (H36 = H36))) ∧ ((ldI .i64 H36 x3 0 (fun v39 => ((Value.int .i64 v39) = (Value.int .i64 v3)) ∧ (H36 = H36))) ∧ (AC Tryz.prog T0 66 [x0, (Value.int .i64 v2)] H36 (fun v40 H41 => asI .i64 v40 (fun v42 => (ldI .i64 H41 x3 0 (fun v43 => ((Value.int .i64 v43) = (Value.int .i64 v3)) ∧ (H41 = H41))) ∧ (AC Tryz.prog T0 83 [x0, (Value.slice (some ⟨b33, 0, none⟩) 3 (3 + 1))] H41 (fun v44 H45 => asI .i64 v44 (fun v46 => idxK x5 v37 2 (fun b47 o48 => stK H45 b47 o48 [(Value.int .i64 v42), (Value.int .i64 v46)] (fun H49 => B1 P x3 x4 x5 H49))))))))))))))))
theorem q3 (P : PT) : QT Tryz.prog T0 69 o3 (.op 0 [] (.op 1 [] (.op 2 [] (.op 3 [] (.op 5 [] (.op 6 [] (.op 7 [] (.op 9 [] (.op 10 [] (.op 11 [] (.alt (.op 4 [7, 11] (.alt (.op 8 [11] (.op 12 [] (.op 13 [] (.op 14 [] (.op 15 [] (.op 16 [] .done)))))) (.op 12 [] (.op 8 [11] (.op 13 [] (.op 14 [] (.op 15 [] (.op 16 [] .done)))))))) (.op 12 [] (.op 4 [7, 11] (.op 8 [11] (.op 13 [] (.op 14 [] (.op 15 [] (.op 16 [] .done)))))))))))))))))) (En 69 k0 (B1 P)) k1 (B3 P) := fun _ _ _ _ _ _  => by kernel_rfl
abbrev k2 : Sk := [(3,.x),(4,.x),(5,.v),(6,.x)]
noncomputable def o4 := ob Tryz.f68 [.r,.r,.l,.r,.l,.r,.r,.r,.r,.r,.l,.r,.r]
def B4 (P : PT) (x3 x4 : Nat) (x5 : Value) (x6 : Nat) (H : AHeap) : Prop :=
  lenK x5 (fun n1 => ldI .i64 H x6 0 (fun v2 => ldI .i64 H x6 1 (fun v3 => idxK x5 (IntKind.i64.wrap ((n1 : Int) - 1)) 2 (fun b4 o5 => stK H b4 o5 [(Value.int .i64 v2), (Value.int .i64 v3)] (fun H6 => B1 P x3 x4 x5 H6)))))
theorem q4 (P : PT) : QB Tryz.prog T0 69 o4 (En 69 k0 (B1 P)) k2 (B4 P) := fun _ _ _ _ _ _  => by kernel_rfl
noncomputable def o5 := ob Tryz.f68 [.r,.r,.l,.r,.l,.r,.r,.r,.r,.r,.l,.r,.l]
def B5 (P : PT) (x3 x4 : Nat) (x5 : Value) (x6 : Nat) (H : AHeap) : Prop :=
  lenK x5 (fun n1 => idxK x5 (IntKind.i64.wrap ((n1 : Int) - 1)) 2 (fun b2 o3 => ldI .i64 H b2 o3 (fun v4 => ldI .i64 H b2 (o3 + 1) (fun v5 => idxK x5 0 2 (fun b6 o7 => stK H b6 o7 [(Value.int .i64 v4), (Value.int .i64 v5)] (fun H8 => B4 P x3 x4 x5 x6 H8))))))
theorem q5 (P : PT) : QB Tryz.prog T0 69 o5 (En 69 k2 (B4 P)) k2 (B5 P) := fun _ _ _ _ _ _  => by kernel_rfl
noncomputable def o6 := ob Tryz.f68 [.r,.r,.l,.r,.l,.r,.r,.r,.r,.r,.l,.l]
def B6 (P : PT) (x3 x4 : Nat) (x5 : Value) (H : AHeap) : Prop :=
  idxK x5 0 2 (fun b1 o2 => ldI .i64 H b1 o2 (fun v3 => ldI .i64 H b1 (o2 + 1) (fun v4 => newK H [(Value.int .i64 0), (Value.int .i64 0)] 78 (fun b5 H6 => stK H6 b5 0 [(Value.int .i64 v3), (Value.int .i64 v4)] (fun H7 => B5 P x3 x4 x5 b5 H7)))))
theorem q6 (P : PT) : QB Tryz.prog T0 69 o6 (En 69 k2 (B5 P)) k0 (B6 P) := fun _ _ _ _ _  => by kernel_rfl
noncomputable def o7 := ob Tryz.f68 [.r,.r,.l,.r,.l,.r,.r,.r,.r,.r,.r,.r,.l]
def B7 (P : PT) (x3 x4 : Nat) (x5 : Value) (H : AHeap) : Prop :=
  sliceK H 78 x5 (some (Value.int .i64 1)) none 2 (fun v1 => B1 P x3 x4 v1 H)
theorem q7 (P : PT) : QB Tryz.prog T0 69 o7 (En 69 k0 (B1 P)) k0 (B7 P) := fun _ _ _ _ _  => by kernel_rfl
abbrev k3 : Sk := [(3,.x),(4,.x)]
noncomputable def o8 := ob Tryz.f68 [.r,.r,.l,.r,.l,.r,.r,.r,.r,.r,.r,.r,.r,.l]
def B8 (P : PT) (x3 x4 : Nat) (H : AHeap) : Prop :=
  ldI .i64 H x3 0 (fun v1 => ld1 H x3 1 (fun v2 => stK H x4 0 [(Value.int .i64 v1), v2] (fun H3 => ldI .i64 H3 x4 0 (fun v4 => ld1 H3 x4 1 (fun v5 => P (Value.agg ⟨[(Value.int .i64 v4), v5]⟩) H3)))))
theorem q8 (P : PT) : QB Tryz.prog T0 69 o8 (ret P) k3 (B8 P) := fun _ _ _ _  => by kernel_rfl
abbrev k4 : Sk := [(3,.x),(4,.x),(5,.v),(12,.i .i64)]
noncomputable def o9 := ob Tryz.f68 [.r,.r,.l,.r,.l,.r,.r,.r,.r,.r,.r,.l]
def B9 (P : PT) (x3 x4 : Nat) (x5 : Value) (x12 : Int) (H : AHeap) : Prop :=
  pif ((x12 : Int) == 3) (B7 P x3 x4 x5 H) (B8 P x3 x4 H)
theorem q9 (P : PT) : QB Tryz.prog T0 69 o9 (cnd 61 (En 69 k0 (B7 P)) (En 69 k3 (B8 P))) k4 (B9 P) := fun _ _ _ _ _ _  => by kernel_rfl
noncomputable def o10 := ob Tryz.f68 [.r,.r,.l,.r,.l,.r,.r,.r,.r,.l]
def B10 (P : PT) (x3 x4 : Nat) (x5 : Value) (x12 : Int) (H : AHeap) : Prop :=
  pif ((x12 : Int) == 2) (B6 P x3 x4 x5 H) (B9 P x3 x4 x5 x12 H)
theorem q10 (P : PT) : QB Tryz.prog T0 69 o10 (cnd 42 (En 69 k0 (B6 P)) (En 69 k4 (B9 P))) k4 (B10 P) := fun _ _ _ _ _ _  => by kernel_rfl
abbrev k5 : Sk := [(0,.v),(3,.x),(4,.x),(5,.v),(12,.i .i64)]
noncomputable def o11 := ob Tryz.f68 [.r,.r,.l,.r,.l,.r,.r,.l]
def B11 (P : PT) (x0 : Value) (x3 x4 : Nat) (x5 : Value) (x12 : Int) (H : AHeap) : Prop :=
  pif ((x12 : Int) == 1) (B3 P x0 x3 x4 x5 H) (B10 P x3 x4 x5 x12 H)
theorem q11 (P : PT) : QB Tryz.prog T0 69 o11 (cnd 24 (En 69 k1 (B3 P)) (En 69 k4 (B10 P))) k5 (B11 P) := fun _ _ _ _ _ _ _  => by kernel_rfl
noncomputable def o12 := ob Tryz.f68 [.r,.r,.l,.r,.l,.l]
def B12 (P : PT) (x0 : Value) (x3 x4 : Nat) (x5 : Value) (x12 : Int) (H : AHeap) : Prop :=
  pif ((x12 : Int) == 0) (B2 P x0 x3 x4 x5 H) (B11 P x0 x3 x4 x5 x12 H)
theorem q12 (P : PT) : QB Tryz.prog T0 69 o12 (cnd 14 (En 69 k1 (B2 P)) (En 69 k5 (B11 P))) k5 (B12 P) := fun _ _ _ _ _ _ _  => by kernel_rfl
noncomputable def o13 := ob Tryz.f68 [.r,.r,.l,.l]
def B13 (P : PT) (x0 : Value) (x3 x4 : Nat) (x5 : Value) (H : AHeap) : Prop :=
  AC Tryz.prog T0 66 [x0, (Value.int .i64 50)] H (fun v1 H2 => asI .i64 v1 (fun v3 => B12 P x0 x3 x4 x5 v3 H2))
theorem q13 (P : PT) : QB Tryz.prog T0 69 o13 (En 69 k5 (B12 P)) k1 (B13 P) := fun _ _ _ _ _ _  => by kernel_rfl
abbrev k6 : Sk := [(0,.v),(3,.x),(4,.x)]
noncomputable def o14 := ob Tryz.f68 [.r,.l]
def B14 (P : PT) (x0 : Value) (x3 x4 : Nat) (H : AHeap) : Prop :=
  newK H [] 78 (fun b1 H2 => ld1 H2 x3 1 (fun v3 => apK T0 78 H2 (Value.slice (some ⟨b1, 0, none⟩) 0 (0 + 1)) v3 (fun v4 H5 => B13 P x0 x3 x4 v4 H5)))
theorem q14 (P : PT) : QB Tryz.prog T0 69 o14 (En 69 k1 (B13 P)) k6 (B14 P) := fun _ _ _ _ _  => by kernel_rfl
abbrev k7 : Sk := [(0,.v),(1,.g [.i,.v])]
noncomputable def o15 := ob Tryz.f68 [.l]
def B15 (P : PT) (x0 : Value) (x1a : Int) (x1b : Value) (H : AHeap) : Prop :=
  newK H [(Value.int .i64 x1a), x1b] 26 (fun b1 H2 => newK H2 [(Value.int .i64 0), (Value.slice none 0 0)] 26 (fun b3 H4 => B14 P x0 b1 b3 H4))
theorem q15 (P : PT) : QB Tryz.prog T0 69 o15 (En 69 k6 (B14 P)) k7 (B15 P) := fun _ _ _ _ _  => by kernel_rfl
noncomputable def code : Code := (.seq (.region 0 ⟨o15⟩ false) (.seq (.region 1 ⟨o14⟩ false) (.seq (.seq (.region 2 ⟨o13⟩ false) (.block 0 (.seq (.region 4 ⟨o12⟩ false) (.cond (.tmp 14) (.seq (.region 5 ⟨o2⟩ false) .ret) (.seq (.region 6 ⟨o11⟩ false) (.cond (.tmp 24) (.region 7 ⟨o3⟩ true) (.seq (.region 8 ⟨o10⟩ false) (.cond (.tmp 42) (.seq (.region 9 ⟨o6⟩ false) (.seq (.region 10 ⟨o5⟩ false) (.region 11 ⟨o4⟩ false))) (.seq (.region 12 ⟨o9⟩ false) (.cond (.tmp 61) (.region 13 ⟨o7⟩ false) (.seq (.region 3 ⟨o8⟩ false) .ret))))))))))) (.seq (.region 14 ⟨o1⟩ false) .ret))))
theorem body : Tryz.f68.body = some code := by kernel_rfl
theorem main (P : PT) : ∀ env H, (En 69 k7 (B15 P)) env H → AW Tryz.prog T0 code env H (mkQ (ret P) (fun _ _ _ => False) (ret P)) :=
  (r_seq (rB T0_ok (q15 P)) (r_seq (rB T0_ok (q14 P)) (r_seq (r_seq (rB T0_ok (q13 P)) (r_block (r_seq (rB T0_ok (q12 P)) (r_cond rfl (r_seq (rB T0_ok (q2 P)) r_ret) (r_seq (rB T0_ok (q11 P)) (r_cond rfl (rT T0_ok mixed (.op 0 [] (.op 1 [] (.op 2 [] (.op 3 [] (.op 5 [] (.op 6 [] (.op 7 [] (.op 9 [] (.op 10 [] (.op 11 [] (.alt (.op 4 [7, 11] (.alt (.op 8 [11] (.op 12 [] (.op 13 [] (.op 14 [] (.op 15 [] (.op 16 [] .done)))))) (.op 12 [] (.op 8 [11] (.op 13 [] (.op 14 [] (.op 15 [] (.op 16 [] .done)))))))) (.op 12 [] (.op 4 [7, 11] (.op 8 [11] (.op 13 [] (.op 14 [] (.op 15 [] (.op 16 [] .done)))))))))))))))))) (by kernel_rfl) (q3 P)) (r_seq (rB T0_ok (q10 P)) (r_cond rfl (r_seq (rB T0_ok (q6 P)) (r_seq (rB T0_ok (q5 P)) (rB T0_ok (q4 P)))) (r_seq (rB T0_ok (q9 P)) (r_cond rfl (rB T0_ok (q7 P)) (r_seq (rB T0_ok (q8 P)) r_ret))))))))))) (r_seq (rB T0_ok (q1 P)) r_ret))))
theorem ac (P : PT) (x0 : Value) (x1a : Int) (x1b : Value) (H : AHeap) (h : B15 P x0 x1a x1b H) : AC Tryz.prog T0 68 [x0, (Value.agg ⟨[(Value.int .i64 x1a), x1b]⟩)] H P :=
  r_fn T0_ok (c := code) (n := 69) Tryz.func68 body (by kernel_rfl) (main P) (En_mk (x0, x1a, x1b, ()) (by kernel_rfl) ⟨by kernel_rfl, by kernel_rfl, trivial⟩ h)

end F68
-- loop.example/g01329/spec.l01Renamed
namespace F69
noncomputable def ret (P : PT) : EP := retE T0 41 Tryz.f69 P
abbrev k0 : Sk := [(2,.x),(4,.x),(5,.v)]
noncomputable def o1 := ob Tryz.f69 [.r,.r,.r,.l]
def B1 (P : PT) (x2 x4 : Nat) (x5 : Value) (H : AHeap) : Prop :=
  ldI .i64 H x2 0 (fun v1 => AC Tryz.prog T0 141 [(Value.int .i64 v1), x5] H (fun v2 H3 => agg2 v2 (fun v4 v5 => asI .i64 v4 (fun v6 => stK H3 x4 0 [(Value.int .i64 v6), v5] (fun H8 => ldI .i64 H8 x4 0 (fun v9 => ld1 H8 x4 1 (fun v10 => P (Value.agg ⟨[(Value.int .i64 v9), v10]⟩) H8)))))))
theorem q1 (P : PT) : QB Tryz.prog T0 41 o1 (ret P) k0 (B1 P) := fun _ _ _ _ _  => by kernel_rfl
abbrev k1 : Sk := [(1,.v),(2,.x),(4,.x),(5,.v),(6,.i .i64)]
noncomputable def o3 := ob Tryz.f69 [.r,.r,.l,.r,.l,.l,.r,.r]
def B3 (P : PT) (N2 : NTy k1 Pr) (x1 : Value) (x2 x4 : Nat) (x5 : Value) (x6 : Int) (H : AHeap) : Prop :=
  N2 x1 x2 x4 x5 (IntKind.i64.wrap (x6 + 1)) H
theorem q3 (P : PT) (N2 : NTy k1 Pr) : QB Tryz.prog T0 41 o3 (En 41 k1 N2) k1 (B3 P N2) := fun _ _ _ _ _ _ _  => by kernel_rfl
noncomputable def o4 := ob Tryz.f69 [.r,.r,.l,.r,.l,.l,.r,.l,.l]
def B4 (P : PT) (N2 : NTy k1 Pr) (x1 : Value) (x2 x4 : Nat) (x5 : Value) (x6 : Int) (H : AHeap) : Prop :=
  ld1 H x2 1 (fun v1 => idxK v1 x6 2 (fun b2 o3 => ldI .i64 H b2 o3 (fun v4 => idxK x1 v4 1 (fun b5 o6 => ldI .i64 H b5 o6 (fun v7 => ld1 H x2 1 (fun v8 => idxK v8 x6 2 (fun b9 o10 => ldI .i64 H b9 (o10 + 1) (fun v11 => idxK x1 v11 1 (fun b12 o13 => ldI .i64 H b12 o13 (fun v14 => newK H [(Value.int .i64 v7), (Value.int .i64 v14)] 78 (fun b15 H16 => apK T0 78 H16 x5 (Value.slice (some ⟨b15, 0, none⟩) 1 (1 + 1)) (fun v17 H18 => B3 P N2 x1 x2 x4 v17 x6 H18))))))))))))
theorem q4 (P : PT) (N2 : NTy k1 Pr) : QD Tryz.prog T0 41 o4 [(0, false), (1, false), (2, false), (3, false), (4, false), (5, false), (6, false), (7, false), (8, false), (9, false), (10, false), (11, false), (12, false), (13, false), (14, false), (15, false), (16, false), (17, false), (18, false), (19, false), (20, false), (21, false), (22, false)] (En 41 k1 (B3 P N2)) k1 (B4 P N2) := fun _ _ _ _ _ _ _  => by kernel_rfl
noncomputable def o5 := ob Tryz.f69 [.r,.r,.l,.r,.l,.l,.l,.l]
def B5 (P : PT) (N2 : NTy k1 Pr) (x1 : Value) (x2 x4 : Nat) (x5 : Value) (x6 : Int) (H : AHeap) : Prop :=
  ld1 H x2 1 (fun v1 => lenK v1 (fun n2 => pif (decide ((x6 : Int) < (n2 : Int))) (B4 P N2 x1 x2 x4 x5 x6 H) (B1 P x2 x4 x5 H)))
theorem q5 (P : PT) (N2 : NTy k1 Pr) : QB Tryz.prog T0 41 o5 (cnd 12 (En 41 k1 (B4 P N2)) (En 41 k0 (B1 P))) k1 (B5 P N2) := fun _ _ _ _ _ _ _  => by kernel_rfl
def L2 (P : PT) (x1 : Value) (x2 x4 : Nat) (x5 : Value) (x6 : Int) (H : AHeap) : Prop :=
  ∃ (I : NTy k1 Pr) (μ : NTy k1 (AHeap → Nat)), I x1 x2 x4 x5 x6 H ∧ ∀ y1 y2 y4 y5 y6 G, I y1 y2 y4 y5 y6 G → B5 P (fun z1 z2 z4 z5 z6 G' => I z1 z2 z4 z5 z6 G' ∧ μ z1 z2 z4 z5 z6 G' < μ y1 y2 y4 y5 y6 G) y1 y2 y4 y5 y6 G
theorem l2 (P : PT) : LQ k1 (L2 P) (B5 P) := fun ⟨_,_,_,_,_,_⟩ _ ⟨I, μ, h0, hI⟩ => ⟨apT _ I, apT _ μ, h0, fun ⟨_,_,_,_,_,_⟩ _ h => hI _ _ _ _ _ _  h⟩
abbrev k2 : Sk := [(1,.v),(2,.x),(4,.x),(5,.v)]
noncomputable def o6 := ob Tryz.f69 [.r,.r,.l,.l]
def B6 (P : PT) (x1 : Value) (x2 x4 : Nat) (x5 : Value) (H : AHeap) : Prop :=
  L2 P x1 x2 x4 x5 0 H
theorem q6 (P : PT) : QB Tryz.prog T0 41 o6 (En 41 k1 (L2 P)) k2 (B6 P) := fun _ _ _ _ _ _  => by kernel_rfl
abbrev k3 : Sk := [(1,.v),(2,.x),(4,.x)]
noncomputable def o7 := ob Tryz.f69 [.r,.l]
def B7 (P : PT) (x1 : Value) (x2 x4 : Nat) (H : AHeap) : Prop :=
  newK H [] 78 (fun b1 H2 => B6 P x1 x2 x4 (Value.slice (some ⟨b1, 0, none⟩) 0 (0 + 1)) H2)
theorem q7 (P : PT) : QB Tryz.prog T0 41 o7 (En 41 k2 (B6 P)) k3 (B7 P) := fun _ _ _ _ _  => by kernel_rfl
abbrev k4 : Sk := [(0,.g [.i,.v]),(1,.v)]
noncomputable def o8 := ob Tryz.f69 [.l]
def B8 (P : PT) (x0a : Int) (x0b x1 : Value) (H : AHeap) : Prop :=
  newK H [(Value.int .i64 x0a), x0b] 26 (fun b1 H2 => newK H2 [(Value.int .i64 0), (Value.slice none 0 0)] 26 (fun b3 H4 => B7 P x1 b1 b3 H4))
theorem q8 (P : PT) : QB Tryz.prog T0 41 o8 (En 41 k3 (B7 P)) k4 (B8 P) := fun _ _ _ _ _  => by kernel_rfl
noncomputable def code : Code := (.seq (.region 0 ⟨o8⟩ false) (.seq (.region 1 ⟨o7⟩ false) (.seq (.seq (.region 2 ⟨o6⟩ false) (.block 0 (.loop (.seq (.seq (.region 3 ⟨o5⟩ false) (.cond (.tmp 12) .skip (.exit 0))) (.seq (.block 1 (.region 5 ⟨o4⟩ true)) (.region 4 ⟨o3⟩ false)))))) (.seq (.region 6 ⟨o1⟩ false) .ret))))
theorem body : Tryz.f69.body = some code := by kernel_rfl
theorem main (P : PT) : ∀ env H, (En 41 k4 (B8 P)) env H → AW Tryz.prog T0 code env H (mkQ (ret P) (fun _ _ _ => False) (ret P)) :=
  (r_seq (rB T0_ok (q8 P)) (r_seq (rB T0_ok (q7 P)) (r_seq (r_seq (rB T0_ok (q6 P)) (r_block (rL (l2 P) (fun N2 => (r_seq (r_seq (rB T0_ok (q5 P N2)) (r_cond rfl r_skip (r_exit (fun _ _ h => h)))) (r_seq (r_block (rD T0_ok mixed [(0, false), (1, false), (2, false), (3, false), (4, false), (5, false), (6, false), (7, false), (8, false), (9, false), (10, false), (11, false), (12, false), (13, false), (14, false), (15, false), (16, false), (17, false), (18, false), (19, false), (20, false), (21, false), (22, false)] (by kernel_rfl) (q4 P N2))) (rB T0_ok (q3 P N2)))))))) (r_seq (rB T0_ok (q1 P)) r_ret))))
theorem ac (P : PT) (x0a : Int) (x0b x1 : Value) (H : AHeap) (h : B8 P x0a x0b x1 H) : AC Tryz.prog T0 69 [(Value.agg ⟨[(Value.int .i64 x0a), x0b]⟩), x1] H P :=
  r_fn T0_ok (c := code) (n := 41) Tryz.func69 body (by kernel_rfl) (main P) (En_mk (x0a, x0b, x1, ()) (by kernel_rfl) ⟨by kernel_rfl, by kernel_rfl, trivial⟩ h)

end F69
-- loop.example/g01329/spec.l01DrawOrder
namespace F70
noncomputable def ret (P : PT) : EP := retE T0 30 Tryz.f70 P
abbrev k0 : Sk := [(5,.v)]
noncomputable def o1 := ob Tryz.f70 [.r,.r,.r,.l]
def B1 (P : PT) (x5 : Value) (H : AHeap) : Prop :=
  P x5 H
theorem q1 (P : PT) : QB Tryz.prog T0 30 o1 (ret P) k0 (B1 P) := fun _ _ _  => by kernel_rfl
abbrev k1 : Sk := [(0,.v),(1,.i .i64),(5,.v),(6,.i .i64)]
noncomputable def o3 := ob Tryz.f70 [.r,.r,.l,.r,.l,.l,.r,.r]
def B3 (P : PT) (N2 : NTy k1 Pr) (x0 : Value) (x1 : Int) (x5 : Value) (x6 : Int) (H : AHeap) : Prop :=
  N2 x0 x1 x5 (IntKind.i64.wrap (x6 + 1)) H
theorem q3 (P : PT) (N2 : NTy k1 Pr) : QB Tryz.prog T0 30 o3 (En 30 k1 N2) k1 (B3 P N2) := fun _ _ _ _ _ _  => by kernel_rfl
abbrev k2 : Sk := [(0,.v),(1,.i .i64),(5,.v),(6,.i .i64),(7,.i .i64)]
noncomputable def o4 := ob Tryz.f70 [.r,.r,.l,.r,.l,.l,.r,.l,.l,.r]
def B4 (P : PT) (N2 : NTy k1 Pr) (x0 : Value) (x1 : Int) (x5 : Value) (x6 x7 : Int) (H : AHeap) : Prop :=
  sliceK H 2 x5 none (some (Value.int .i64 x7)) 1 (fun v1 => sliceK H 2 x5 (some (Value.int .i64 x7)) none 1 (fun v2 => (AC Tryz.prog T0 138 [v1] H (fun v3 H4 => (sliceK H4 2 x5 (some (Value.int .i64 x7)) none 1 (fun v6 => (v6 = v2) ∧ (H4 = H4))) ∧ (newK H4 [(Value.int .i64 x6)] 2 (fun b7 H8 => apK T0 2 H8 v3 (Value.slice (some ⟨b7, 0, none⟩) 1 (1 + 1)) (fun v9 H10 => (sliceK H10 2 x5 (some (Value.int .i64 x7)) none 1 (fun v11 => (v11 = v2) ∧ (H10 = H10))) ∧ (apK T0 2 H10 v9 v2 (fun v12 H13 => B3 P N2 x0 x1 v12 x6 H13))))))) ∧ (newK H [(Value.int .i64 x6)] 2 (fun b14 H15 => AC Tryz.prog T0 138 [v1] H15 (fun v16 H17 => (sliceK H17 2 x5 (some (Value.int .i64 x7)) none 1 (fun v19 => (v19 = v2) ∧ (H17 = H17))) ∧ (apK T0 2 H17 v16 (Value.slice (some ⟨b14, 0, none⟩) 1 (1 + 1)) (fun v20 H21 => (sliceK H21 2 x5 (some (Value.int .i64 x7)) none 1 (fun v22 => (v22 = v2) ∧ (H21 = H21))) ∧ (apK T0 2 H21 v20 v2 (fun v23 H24 => B3 P N2 x0 x1 v23 x6 H24)))))))))
theorem q4 (P : PT) (N2 : NTy k1 Pr) : QT Tryz.prog T0 30 o4 (.op 0 [] (.op 1 [] (.op 2 [] (.op 4 [] (.op 7 [] (.op 8 [] (.op 9 [] (.alt (.op 3 [9] (.op 5 [] (.op 6 [9] (.op 10 [] (.op 11 [] .done))))) (.op 5 [] (.op 3 [9] (.op 6 [9] (.op 10 [] (.op 11 [] .done))))))))))))) (En 30 k1 (B3 P N2)) k2 (B4 P N2) := fun _ _ _ _ _ _ _  => by kernel_rfl
noncomputable def o5 := ob Tryz.f70 [.r,.r,.l,.r,.l,.l,.r,.l,.l,.l]
def B5 (P : PT) (N2 : NTy k1 Pr) (x0 : Value) (x1 : Int) (x5 : Value) (x6 : Int) (H : AHeap) : Prop :=
  AC Tryz.prog T0 66 [x0, (Value.int .i64 (IntKind.i64.wrap (x6 + 1)))] H (fun v1 H2 => asI .i64 v1 (fun v3 => B4 P N2 x0 x1 x5 x6 v3 H2))
theorem q5 (P : PT) (N2 : NTy k1 Pr) : QB Tryz.prog T0 30 o5 (En 30 k2 (B4 P N2)) k1 (B5 P N2) := fun _ _ _ _ _ _  => by kernel_rfl
noncomputable def o6 := ob Tryz.f70 [.r,.r,.l,.r,.l,.l,.l,.l]
def B6 (P : PT) (N2 : NTy k1 Pr) (x0 : Value) (x1 : Int) (x5 : Value) (x6 : Int) (H : AHeap) : Prop :=
  pif (decide ((x6 : Int) < x1)) (B5 P N2 x0 x1 x5 x6 H) (B1 P x5 H)
theorem q6 (P : PT) (N2 : NTy k1 Pr) : QB Tryz.prog T0 30 o6 (cnd 11 (En 30 k1 (B5 P N2)) (En 30 k0 (B1 P))) k1 (B6 P N2) := fun _ _ _ _ _ _  => by kernel_rfl
def L2 (P : PT) (x0 : Value) (x1 : Int) (x5 : Value) (x6 : Int) (H : AHeap) : Prop :=
  ∃ (I : NTy k1 Pr) (μ : NTy k1 (AHeap → Nat)), I x0 x1 x5 x6 H ∧ ∀ y0 y1 y5 y6 G, I y0 y1 y5 y6 G → B6 P (fun z0 z1 z5 z6 G' => I z0 z1 z5 z6 G' ∧ μ z0 z1 z5 z6 G' < μ y0 y1 y5 y6 G) y0 y1 y5 y6 G
theorem l2 (P : PT) : LQ k1 (L2 P) (B6 P) := fun ⟨_,_,_,_,_⟩ _ ⟨I, μ, h0, hI⟩ => ⟨apT _ I, apT _ μ, h0, fun ⟨_,_,_,_,_⟩ _ h => hI _ _ _ _ _  h⟩
abbrev k3 : Sk := [(0,.v),(1,.i .i64),(5,.v)]
noncomputable def o7 := ob Tryz.f70 [.r,.r,.l,.l]
def B7 (P : PT) (x0 : Value) (x1 : Int) (x5 : Value) (H : AHeap) : Prop :=
  L2 P x0 x1 x5 0 H
theorem q7 (P : PT) : QB Tryz.prog T0 30 o7 (En 30 k1 (L2 P)) k3 (B7 P) := fun _ _ _ _ _  => by kernel_rfl
abbrev k4 : Sk := [(0,.v),(1,.i .i64)]
noncomputable def o8 := ob Tryz.f70 [.r,.l]
def B8 (P : PT) (x0 : Value) (x1 : Int) (H : AHeap) : Prop :=
  newK H [] 2 (fun b1 H2 => B7 P x0 x1 (Value.slice (some ⟨b1, 0, none⟩) 0 (0 + 1)) H2)
theorem q8 (P : PT) : QB Tryz.prog T0 30 o8 (En 30 k3 (B7 P)) k4 (B8 P) := fun _ _ _ _  => by kernel_rfl
noncomputable def o9 := ob Tryz.f70 [.l]
def B9 (P : PT) (x0 : Value) (x1 : Int) (H : AHeap) : Prop :=
  B8 P x0 x1 H
theorem q9 (P : PT) : QB Tryz.prog T0 30 o9 (En 30 k4 (B8 P)) k4 (B9 P) := fun _ _ _ _  => by kernel_rfl
noncomputable def code : Code := (.seq (.region 0 ⟨o9⟩ false) (.seq (.region 1 ⟨o8⟩ false) (.seq (.seq (.region 2 ⟨o7⟩ false) (.block 0 (.loop (.seq (.seq (.region 3 ⟨o6⟩ false) (.cond (.tmp 11) .skip (.exit 0))) (.seq (.block 1 (.seq (.region 5 ⟨o5⟩ false) (.region 6 ⟨o4⟩ true))) (.region 4 ⟨o3⟩ false)))))) (.seq (.region 7 ⟨o1⟩ false) .ret))))
theorem body : Tryz.f70.body = some code := by kernel_rfl
theorem main (P : PT) : ∀ env H, (En 30 k4 (B9 P)) env H → AW Tryz.prog T0 code env H (mkQ (ret P) (fun _ _ _ => False) (ret P)) :=
  (r_seq (rB T0_ok (q9 P)) (r_seq (rB T0_ok (q8 P)) (r_seq (r_seq (rB T0_ok (q7 P)) (r_block (rL (l2 P) (fun N2 => (r_seq (r_seq (rB T0_ok (q6 P N2)) (r_cond rfl r_skip (r_exit (fun _ _ h => h)))) (r_seq (r_block (r_seq (rB T0_ok (q5 P N2)) (rT T0_ok mixed (.op 0 [] (.op 1 [] (.op 2 [] (.op 4 [] (.op 7 [] (.op 8 [] (.op 9 [] (.alt (.op 3 [9] (.op 5 [] (.op 6 [9] (.op 10 [] (.op 11 [] .done))))) (.op 5 [] (.op 3 [9] (.op 6 [9] (.op 10 [] (.op 11 [] .done))))))))))))) (by kernel_rfl) (q4 P N2)))) (rB T0_ok (q3 P N2)))))))) (r_seq (rB T0_ok (q1 P)) r_ret))))
theorem ac (P : PT) (x0 : Value) (x1 : Int) (H : AHeap) (h : B9 P x0 x1 H) : AC Tryz.prog T0 70 [x0, (Value.int .i64 x1)] H P :=
  r_fn T0_ok (c := code) (n := 30) Tryz.func70 body (by kernel_rfl) (main P) (En_mk (x0, x1, ()) (by kernel_rfl) ⟨by kernel_rfl, by kernel_rfl, trivial⟩ h)

end F70
-- loop.example/g01329/spec.l01Spoil
namespace F71
noncomputable def ret (P : PT) : EP := retE T0 7 Tryz.f71 P
abbrev k0 : Sk := [(0,.v),(2,.x)]
noncomputable def o1 := ob Tryz.f71 [.r,.l]
def B1 (P : PT) (x0 : Value) (x2 : Nat) (H : AHeap) : Prop :=
  AC Tryz.prog T0 96 [x0] H (fun v1 H2 => agg2 v1 (fun v3 v4 => asI .i64 v3 (fun v5 => AC Tryz.prog T0 68 [x0, (Value.agg ⟨[(Value.int .i64 v5), v4]⟩)] H2 (fun v7 H8 => agg2 v7 (fun v9 v10 => asI .i64 v9 (fun v11 => stK H8 x2 0 [(Value.int .i64 v11), v10] (fun H13 => ldI .i64 H13 x2 0 (fun v14 => ld1 H13 x2 1 (fun v15 => P (Value.agg ⟨[(Value.int .i64 v14), v15]⟩) H13)))))))))
theorem q1 (P : PT) : QB Tryz.prog T0 7 o1 (ret P) k0 (B1 P) := fun _ _ _ _  => by kernel_rfl
abbrev k1 : Sk := [(0,.v)]
noncomputable def o2 := ob Tryz.f71 [.l]
def B2 (P : PT) (x0 : Value) (H : AHeap) : Prop :=
  newK H [(Value.int .i64 0), (Value.slice none 0 0)] 26 (fun b1 H2 => B1 P x0 b1 H2)
theorem q2 (P : PT) : QB Tryz.prog T0 7 o2 (En 7 k0 (B1 P)) k1 (B2 P) := fun _ _ _  => by kernel_rfl
noncomputable def code : Code := (.seq (.region 0 ⟨o2⟩ false) (.seq (.region 1 ⟨o1⟩ false) .ret))
theorem body : Tryz.f71.body = some code := by kernel_rfl
theorem main (P : PT) : ∀ env H, (En 7 k1 (B2 P)) env H → AW Tryz.prog T0 code env H (mkQ (ret P) (fun _ _ _ => False) (ret P)) :=
  (r_seq (rB T0_ok (q2 P)) (r_seq (rB T0_ok (q1 P)) r_ret))
theorem ac (P : PT) (x0 : Value) (H : AHeap) (h : B2 P x0 H) : AC Tryz.prog T0 71 [x0] H P :=
  r_fn T0_ok (c := code) (n := 7) Tryz.func71 body (by kernel_rfl) (main P) (En_mk (x0, ()) (by kernel_rfl) ⟨by kernel_rfl, trivial⟩ h)

end F71
-- loop.example/g01329/impl.graphCode
namespace F72
noncomputable def ret (P : PT) : EP := retE T0 12 Tryz.f72 P
abbrev k0 : Sk := []
noncomputable def o1 := ob Tryz.f72 [.r,.r,.l]
def B1 (P : PT) (H : AHeap) : Prop :=
  P (Value.int .i64 0) H
theorem q1 (P : PT) : QB Tryz.prog T0 12 o1 (ret P) k0 (B1 P) := fun _ _  => by kernel_rfl
noncomputable def o2 := ob Tryz.f72 [.r,.l,.l,.r,.l,.l]
def B2 (P : PT) (H : AHeap) : Prop :=
  P (Value.int .i64 1) H
theorem q2 (P : PT) : QB Tryz.prog T0 12 o2 (ret P) k0 (B2 P) := fun _ _  => by kernel_rfl
noncomputable def o3 := ob Tryz.f72 [.r,.l,.l,.r,.r,.r,.l,.l]
def B3 (P : PT) (H : AHeap) : Prop :=
  P (Value.int .i64 2) H
theorem q3 (P : PT) : QB Tryz.prog T0 12 o3 (ret P) k0 (B3 P) := fun _ _  => by kernel_rfl
abbrev k1 : Sk := [(1,.b)]
noncomputable def o4 := ob Tryz.f72 [.r,.l,.l,.r,.r,.l]
def B4 (P : PT) (x1 : Bool) (H : AHeap) : Prop :=
  pif (!x1) (B3 P H) (B1 P H)
theorem q4 (P : PT) : QB Tryz.prog T0 12 o4 (cnd 9 (En 12 k0 (B3 P)) (En 12 k0 (B1 P))) k1 (B4 P) := fun _ _ _  => by kernel_rfl
abbrev k2 : Sk := [(1,.b),(2,.x)]
noncomputable def o5 := ob Tryz.f72 [.r,.l,.l,.l]
def B5 (P : PT) (x1 : Bool) (x2 : Nat) (H : AHeap) : Prop :=
  ldI .i64 H x2 0 (fun v1 => ld1 H x2 1 (fun v2 => AC Tryz.prog T0 143 [(Value.agg ⟨[(Value.int .i64 v1), v2]⟩)] H (fun v3 H4 => asB v3 (fun v5 => pif (!v5) (B2 P H4) (B4 P x1 H4)))))
theorem q5 (P : PT) : QB Tryz.prog T0 12 o5 (cnd 5 (En 12 k0 (B2 P)) (En 12 k1 (B4 P))) k2 (B5 P) := fun _ _ _ _  => by kernel_rfl
abbrev k3 : Sk := [(0,.g [.i,.v]),(1,.b)]
noncomputable def o6 := ob Tryz.f72 [.l]
def B6 (P : PT) (x0a : Int) (x0b : Value) (x1 : Bool) (H : AHeap) : Prop :=
  newK H [(Value.int .i64 x0a), x0b] 26 (fun b1 H2 => B5 P x1 b1 H2)
theorem q6 (P : PT) : QB Tryz.prog T0 12 o6 (En 12 k2 (B5 P)) k3 (B6 P) := fun _ _ _ _ _  => by kernel_rfl
noncomputable def code : Code := (.seq (.region 0 ⟨o6⟩ false) (.seq (.block 0 (.seq (.region 1 ⟨o5⟩ false) (.cond (.tmp 5) (.seq (.region 2 ⟨o2⟩ false) .ret) (.seq (.region 3 ⟨o4⟩ false) (.cond (.tmp 9) (.seq (.region 4 ⟨o3⟩ false) .ret) .skip))))) (.seq (.region 5 ⟨o1⟩ false) .ret)))
theorem body : Tryz.f72.body = some code := by kernel_rfl
theorem main (P : PT) : ∀ env H, (En 12 k3 (B6 P)) env H → AW Tryz.prog T0 code env H (mkQ (ret P) (fun _ _ _ => False) (ret P)) :=
  (r_seq (rB T0_ok (q6 P)) (r_seq (r_block (r_seq (rB T0_ok (q5 P)) (r_cond rfl (r_seq (rB T0_ok (q2 P)) r_ret) (r_seq (rB T0_ok (q4 P)) (r_cond rfl (r_seq (rB T0_ok (q3 P)) r_ret) r_skip))))) (r_seq (rB T0_ok (q1 P)) r_ret)))
theorem ac (P : PT) (x0a : Int) (x0b : Value) (x1 : Bool) (H : AHeap) (h : B6 P x0a x0b x1 H) : AC Tryz.prog T0 72 [(Value.agg ⟨[(Value.int .i64 x0a), x0b]⟩), (Value.bool x1)] H P :=
  r_fn T0_ok (c := code) (n := 12) Tryz.func72 body (by kernel_rfl) (main P) (En_mk (x0a, x0b, x1, ()) (by kernel_rfl) ⟨by kernel_rfl, by kernel_rfl, trivial⟩ h)

end F72
-- loop.example/g01329/impl.length[loop.example/g01329/impl.Edge]
namespace F73
noncomputable def ret (P : PT) : EP := retE T0 5 Tryz.f73 P
abbrev k0 : Sk := [(0,.v)]
noncomputable def o1 := ob Tryz.f73 [.r,.l]
def B1 (P : PT) (x0 : Value) (H : AHeap) : Prop :=
  lenK x0 (fun n1 => P (Value.int .i64 (n1 : Int)) H)
theorem q1 (P : PT) : QB Tryz.prog T0 5 o1 (ret P) k0 (B1 P) := fun _ _ _  => by kernel_rfl
noncomputable def o2 := ob Tryz.f73 [.l]
def B2 (P : PT) (x0 : Value) (H : AHeap) : Prop :=
  B1 P x0 H
theorem q2 (P : PT) : QB Tryz.prog T0 5 o2 (En 5 k0 (B1 P)) k0 (B2 P) := fun _ _ _  => by kernel_rfl
noncomputable def code : Code := (.seq (.region 0 ⟨o2⟩ false) (.seq (.region 1 ⟨o1⟩ false) .ret))
theorem body : Tryz.f73.body = some code := by kernel_rfl
theorem main (P : PT) : ∀ env H, (En 5 k0 (B2 P)) env H → AW Tryz.prog T0 code env H (mkQ (ret P) (fun _ _ _ => False) (ret P)) :=
  (r_seq (rB T0_ok (q2 P)) (r_seq (rB T0_ok (q1 P)) r_ret))
theorem ac (P : PT) (x0 : Value) (H : AHeap) (h : B2 P x0 H) : AC Tryz.prog T0 73 [x0] H P :=
  r_fn T0_ok (c := code) (n := 5) Tryz.func73 body (by kernel_rfl) (main P) (En_mk (x0, ()) (by kernel_rfl) ⟨by kernel_rfl, trivial⟩ h)

end F73
-- (loop.example/g01329/impl.Graph).isCut
namespace F74
noncomputable def ret (P : PT) : EP := retE T0 13 Tryz.f74 P
abbrev k0 : Sk := [(1,.i .u64),(2,.x)]
noncomputable def o1 := ob Tryz.f74 [.r,.l]
def B1 (P : PT) (x1 : Int) (x2 : Nat) (H : AHeap) : Prop :=
  ldI .i64 H x2 0 (fun v1 => ld1 H x2 1 (fun v2 => ldI .i64 H x2 0 (fun v3 => ld1 H x2 1 (fun v4 => AC Tryz.prog T0 103 [(Value.agg ⟨[(Value.int .i64 v1), v2]⟩), (Value.int .u64 x1)] H (fun v5 H6 => (AHeap.le H H6) ∧ (lenK v5 (fun n8 => AC Tryz.prog T0 103 [(Value.agg ⟨[(Value.int .i64 v3), v4]⟩), (Value.int .u64 0)] H6 (fun v9 H10 => lenK v9 (fun n12 => P (Value.bool (decide (((n8 : Int) : Int) > (n12 : Int)))) H10)))))))))
theorem q1 (P : PT) : QD Tryz.prog T0 13 o1 [(0, false), (1, false), (4, false), (2, true), (3, false), (5, false), (6, false), (7, false), (8, false)] (ret P) k0 (B1 P) := fun _ _ _ _  => by kernel_rfl
abbrev k1 : Sk := [(0,.g [.i,.v]),(1,.i .u64)]
noncomputable def o2 := ob Tryz.f74 [.l]
def B2 (P : PT) (x0a : Int) (x0b : Value) (x1 : Int) (H : AHeap) : Prop :=
  newK H [(Value.int .i64 x0a), x0b] 26 (fun b1 H2 => B1 P x1 b1 H2)
theorem q2 (P : PT) : QB Tryz.prog T0 13 o2 (En 13 k0 (B1 P)) k1 (B2 P) := fun _ _ _ _ _  => by kernel_rfl
noncomputable def code : Code := (.seq (.region 0 ⟨o2⟩ false) (.seq (.region 1 ⟨o1⟩ true) .ret))
theorem body : Tryz.f74.body = some code := by kernel_rfl
theorem main (P : PT) : ∀ env H, (En 13 k1 (B2 P)) env H → AW Tryz.prog T0 code env H (mkQ (ret P) (fun _ _ _ => False) (ret P)) :=
  (r_seq (rB T0_ok (q2 P)) (r_seq (rD T0_ok mixed [(0, false), (1, false), (4, false), (2, true), (3, false), (5, false), (6, false), (7, false), (8, false)] (by kernel_rfl) (q1 P)) r_ret))
theorem ac (P : PT) (x0a : Int) (x0b : Value) (x1 : Int) (H : AHeap) (h : B2 P x0a x0b x1 H) : AC Tryz.prog T0 74 [(Value.agg ⟨[(Value.int .i64 x0a), x0b]⟩), (Value.int .u64 x1)] H P :=
  r_fn T0_ok (c := code) (n := 13) Tryz.func74 body (by kernel_rfl) (main P) (En_mk (x0a, x0b, x1, ()) (by kernel_rfl) ⟨by kernel_rfl, by kernel_rfl, trivial⟩ h)

end F74
-- loop.example/g01329/spec.l01Is
namespace F75
noncomputable def ret (P : PT) : EP := retE T0 56 Tryz.f75 P
abbrev k0 : Sk := []
noncomputable def o1 := ob Tryz.f75 [.r,.r,.r,.l]
def B1 (P : PT) (H : AHeap) : Prop :=
  P (Value.bool true) H
theorem q1 (P : PT) : QB Tryz.prog T0 56 o1 (ret P) k0 (B1 P) := fun _ _  => by kernel_rfl
abbrev k1 : Sk := [(1,.x),(3,.i .i64)]
noncomputable def o3 := ob Tryz.f75 [.r,.r,.l,.r,.l,.l,.r,.r]
def B3 (P : PT) (N2 : NTy k1 Pr) (x1 : Nat) (x3 : Int) (H : AHeap) : Prop :=
  N2 x1 (IntKind.i64.wrap (x3 + 1)) H
theorem q3 (P : PT) (N2 : NTy k1 Pr) : QB Tryz.prog T0 56 o3 (En 56 k1 N2) k1 (B3 P N2) := fun _ _ _ _  => by kernel_rfl
noncomputable def o4 := ob Tryz.f75 [.r,.r,.l,.r,.l,.l,.r,.l,.l,.r,.l,.l]
def B4 (P : PT) (N2 : NTy k1 Pr) (H : AHeap) : Prop :=
  P (Value.bool false) H
theorem q4 (P : PT) (N2 : NTy k1 Pr) : QB Tryz.prog T0 56 o4 (ret P) k0 (B4 P N2) := fun _ _  => by kernel_rfl
noncomputable def o5 := ob Tryz.f75 [.r,.r,.l,.r,.l,.l,.r,.l,.l,.l]
def B5 (P : PT) (N2 : NTy k1 Pr) (x1 : Nat) (x3 : Int) (H : AHeap) : Prop :=
  ld1 H x1 1 (fun v1 => idxK v1 x3 2 (fun b2 o3 => ldI .i64 H b2 o3 (fun v4 => ld1 H x1 1 (fun v5 => idxK v5 x3 2 (fun b6 o7 => ldI .i64 H b6 (o7 + 1) (fun v8 => pif (decide ((v4 : Int) > v8)) (B4 P N2 H) (pif (decide ((x3 : Int) > 0)) (ld1 H x1 1 (fun v9 => idxK v9 x3 2 (fun b10 o11 => ldI .i64 H b10 o11 (fun v12 => ldI .i64 H b10 (o11 + 1) (fun v13 => ld1 H x1 1 (fun v14 => idxK v14 (IntKind.i64.wrap (x3 - 1)) 2 (fun b15 o16 => ldI .i64 H b15 o16 (fun v17 => ldI .i64 H b15 (o16 + 1) (fun v18 => AC Tryz.prog T0 146 [(Value.agg ⟨[(Value.int .i64 v12), (Value.int .i64 v13)]⟩), (Value.agg ⟨[(Value.int .i64 v17), (Value.int .i64 v18)]⟩)] H (fun v19 H20 => asB v19 (fun v21 => pif v21 (B4 P N2 H20) (B3 P N2 x1 x3 H20)))))))))))) (B3 P N2 x1 x3 H))))))))
theorem q5 (P : PT) (N2 : NTy k1 Pr) : QD Tryz.prog T0 56 o5 [(0, false), (1, false), (2, false), (3, false), (4, false), (5, false), (6, false), (7, false), (8, false), (9, false), (10, false), (11, false), (12, false), (13, false), (14, false), (15, false), (16, false), (17, false), (18, false), (19, false), (20, false), (21, false), (22, false), (23, false), (24, false), (25, false), (26, false), (27, false), (28, false), (29, false), (30, false)] (cnd 55 (En 56 k0 (B4 P N2)) (En 56 k1 (B3 P N2))) k1 (B5 P N2) := fun _ _ _ _  => by kernel_rfl
noncomputable def o6 := ob Tryz.f75 [.r,.r,.l,.r,.l,.l,.l,.l]
def B6 (P : PT) (N2 : NTy k1 Pr) (x1 : Nat) (x3 : Int) (H : AHeap) : Prop :=
  ld1 H x1 1 (fun v1 => lenK v1 (fun n2 => pif (decide ((x3 : Int) < (n2 : Int))) (B5 P N2 x1 x3 H) (B1 P H)))
theorem q6 (P : PT) (N2 : NTy k1 Pr) : QB Tryz.prog T0 56 o6 (cnd 22 (En 56 k1 (B5 P N2)) (En 56 k0 (B1 P))) k1 (B6 P N2) := fun _ _ _ _  => by kernel_rfl
def L2 (P : PT) (x1 : Nat) (x3 : Int) (H : AHeap) : Prop :=
  ∃ (I : NTy k1 Pr) (μ : NTy k1 (AHeap → Nat)), I x1 x3 H ∧ ∀ y1 y3 G, I y1 y3 G → B6 P (fun z1 z3 G' => I z1 z3 G' ∧ μ z1 z3 G' < μ y1 y3 G) y1 y3 G
theorem l2 (P : PT) : LQ k1 (L2 P) (B6 P) := fun ⟨_,_,_⟩ _ ⟨I, μ, h0, hI⟩ => ⟨apT _ I, apT _ μ, h0, fun ⟨_,_,_⟩ _ h => hI _ _ _  h⟩
abbrev k2 : Sk := [(1,.x)]
noncomputable def o7 := ob Tryz.f75 [.r,.r,.l,.l]
def B7 (P : PT) (x1 : Nat) (H : AHeap) : Prop :=
  L2 P x1 0 H
theorem q7 (P : PT) : QB Tryz.prog T0 56 o7 (En 56 k1 (L2 P)) k2 (B7 P) := fun _ _ _  => by kernel_rfl
noncomputable def o8 := ob Tryz.f75 [.r,.l,.r,.l,.l]
def B8 (P : PT) (H : AHeap) : Prop :=
  P (Value.bool false) H
theorem q8 (P : PT) : QB Tryz.prog T0 56 o8 (ret P) k0 (B8 P) := fun _ _  => by kernel_rfl
noncomputable def o9 := ob Tryz.f75 [.r,.l,.l]
def B9 (P : PT) (x1 : Nat) (H : AHeap) : Prop :=
  ldI .i64 H x1 0 (fun v1 => ld1 H x1 1 (fun v2 => AC Tryz.prog T0 144 [(Value.int .i64 v1), v2] H (fun v3 H4 => asI .i64 v3 (fun v5 => pif ((v5 : Int) != 0) (B8 P H4) (ldI .i64 H4 x1 0 (fun v6 => ld1 H4 x1 1 (fun v7 => AC Tryz.prog T0 145 [(Value.int .i64 v6), v7] H4 (fun v8 H9 => asB v8 (fun v10 => pif (!v10) (B8 P H9) (B7 P x1 H9))))))))))
theorem q9 (P : PT) : QB Tryz.prog T0 56 o9 (cnd 17 (En 56 k0 (B8 P)) (En 56 k2 (B7 P))) k2 (B9 P) := fun _ _ _  => by kernel_rfl
abbrev k3 : Sk := [(0,.g [.i,.v])]
noncomputable def o10 := ob Tryz.f75 [.l]
def B10 (P : PT) (x0a : Int) (x0b : Value) (H : AHeap) : Prop :=
  newK H [(Value.int .i64 x0a), x0b] 26 (fun b1 H2 => B9 P b1 H2)
theorem q10 (P : PT) : QB Tryz.prog T0 56 o10 (En 56 k2 (B9 P)) k3 (B10 P) := fun _ _ _ _  => by kernel_rfl
noncomputable def code : Code := (.seq (.region 0 ⟨o10⟩ false) (.seq (.seq (.region 1 ⟨o9⟩ false) (.cond (.tmp 17) (.seq (.region 2 ⟨o8⟩ false) .ret) .skip)) (.seq (.seq (.region 3 ⟨o7⟩ false) (.block 0 (.loop (.seq (.seq (.region 4 ⟨o6⟩ false) (.cond (.tmp 22) .skip (.exit 0))) (.seq (.block 1 (.seq (.region 6 ⟨o5⟩ true) (.cond (.tmp 55) (.seq (.region 7 ⟨o4⟩ false) .ret) .skip))) (.region 5 ⟨o3⟩ false)))))) (.seq (.region 8 ⟨o1⟩ false) .ret))))
theorem body : Tryz.f75.body = some code := by kernel_rfl
theorem main (P : PT) : ∀ env H, (En 56 k3 (B10 P)) env H → AW Tryz.prog T0 code env H (mkQ (ret P) (fun _ _ _ => False) (ret P)) :=
  (r_seq (rB T0_ok (q10 P)) (r_seq (r_seq (rB T0_ok (q9 P)) (r_cond rfl (r_seq (rB T0_ok (q8 P)) r_ret) r_skip)) (r_seq (r_seq (rB T0_ok (q7 P)) (r_block (rL (l2 P) (fun N2 => (r_seq (r_seq (rB T0_ok (q6 P N2)) (r_cond rfl r_skip (r_exit (fun _ _ h => h)))) (r_seq (r_block (r_seq (rD T0_ok mixed [(0, false), (1, false), (2, false), (3, false), (4, false), (5, false), (6, false), (7, false), (8, false), (9, false), (10, false), (11, false), (12, false), (13, false), (14, false), (15, false), (16, false), (17, false), (18, false), (19, false), (20, false), (21, false), (22, false), (23, false), (24, false), (25, false), (26, false), (27, false), (28, false), (29, false), (30, false)] (by kernel_rfl) (q5 P N2)) (r_cond rfl (r_seq (rB T0_ok (q4 P N2)) r_ret) r_skip))) (rB T0_ok (q3 P N2)))))))) (r_seq (rB T0_ok (q1 P)) r_ret))))
theorem ac (P : PT) (x0a : Int) (x0b : Value) (H : AHeap) (h : B10 P x0a x0b H) : AC Tryz.prog T0 75 [(Value.agg ⟨[(Value.int .i64 x0a), x0b]⟩)] H P :=
  r_fn T0_ok (c := code) (n := 56) Tryz.func75 body (by kernel_rfl) (main P) (En_mk (x0a, x0b, ()) (by kernel_rfl) ⟨by kernel_rfl, trivial⟩ h)

end F75
-- loop.example/g01329/spec.l03Bridges
namespace F76
noncomputable def ret (P : PT) : EP := retE T0 33 Tryz.f76 P
abbrev k0 : Sk := [(3,.v)]
noncomputable def o1 := ob Tryz.f76 [.r,.r,.r,.l]
def B1 (P : PT) (x3 : Value) (H : AHeap) : Prop :=
  P x3 H
theorem q1 (P : PT) : QB Tryz.prog T0 33 o1 (ret P) k0 (B1 P) := fun _ _ _  => by kernel_rfl
abbrev k1 : Sk := [(1,.x),(3,.v),(4,.i .i64),(5,.i .i64)]
noncomputable def o3 := ob Tryz.f76 [.r,.r,.l,.r,.l,.l,.r,.r]
def B3 (P : PT) (N2 : NTy k1 Pr) (x1 : Nat) (x3 : Value) (x4 x5 : Int) (H : AHeap) : Prop :=
  N2 x1 x3 x4 (IntKind.i64.wrap (x5 + 1)) H
theorem q3 (P : PT) (N2 : NTy k1 Pr) : QB Tryz.prog T0 33 o3 (En 33 k1 N2) k1 (B3 P N2) := fun _ _ _ _ _ _  => by kernel_rfl
noncomputable def o4 := ob Tryz.f76 [.r,.r,.l,.r,.l,.l,.r,.l,.l,.r,.l]
def B4 (P : PT) (N2 : NTy k1 Pr) (x1 : Nat) (x3 : Value) (x4 x5 : Int) (H : AHeap) : Prop :=
  newK H [(Value.int .i64 x5)] 2 (fun b1 H2 => apK T0 2 H2 x3 (Value.slice (some ⟨b1, 0, none⟩) 1 (1 + 1)) (fun v3 H4 => B3 P N2 x1 v3 x4 x5 H4))
theorem q4 (P : PT) (N2 : NTy k1 Pr) : QB Tryz.prog T0 33 o4 (En 33 k1 (B3 P N2)) k1 (B4 P N2) := fun _ _ _ _ _ _  => by kernel_rfl
noncomputable def o5 := ob Tryz.f76 [.r,.r,.l,.r,.l,.l,.r,.l,.l,.l]
def B5 (P : PT) (N2 : NTy k1 Pr) (x1 : Nat) (x3 : Value) (x4 x5 : Int) (H : AHeap) : Prop :=
  ldI .i64 H x1 0 (fun v1 => ldI .i64 H x1 0 (fun v2 => ld1 H x1 1 (fun v3 => newK H [(Value.int .i64 x5)] 2 (fun b4 H5 => AC Tryz.prog T0 93 [(Value.agg ⟨[(Value.int .i64 v2), v3]⟩), (Value.slice (some ⟨b4, 0, none⟩) 1 (1 + 1))] H5 (fun v6 H7 => (AHeap.le H5 H7) ∧ (AC Tryz.prog T0 92 [(Value.int .i64 v1), v6] H7 (fun v9 H10 => asI .i64 v9 (fun v11 => pif (decide ((v11 : Int) > x4)) (B4 P N2 x1 x3 x4 x5 H10) (B3 P N2 x1 x3 x4 x5 H10)))))))))
theorem q5 (P : PT) (N2 : NTy k1 Pr) : QD Tryz.prog T0 33 o5 [(0, false), (1, false), (2, false), (3, false), (7, false), (4, false), (5, true), (6, false), (8, false)] (cnd 27 (En 33 k1 (B4 P N2)) (En 33 k1 (B3 P N2))) k1 (B5 P N2) := fun _ _ _ _ _ _  => by kernel_rfl
noncomputable def o6 := ob Tryz.f76 [.r,.r,.l,.r,.l,.l,.l,.l]
def B6 (P : PT) (N2 : NTy k1 Pr) (x1 : Nat) (x3 : Value) (x4 x5 : Int) (H : AHeap) : Prop :=
  ld1 H x1 1 (fun v1 => lenK v1 (fun n2 => pif (decide ((x5 : Int) < (n2 : Int))) (B5 P N2 x1 x3 x4 x5 H) (B1 P x3 H)))
theorem q6 (P : PT) (N2 : NTy k1 Pr) : QB Tryz.prog T0 33 o6 (cnd 16 (En 33 k1 (B5 P N2)) (En 33 k0 (B1 P))) k1 (B6 P N2) := fun _ _ _ _ _ _  => by kernel_rfl
def L2 (P : PT) (x1 : Nat) (x3 : Value) (x4 x5 : Int) (H : AHeap) : Prop :=
  ∃ (I : NTy k1 Pr) (μ : NTy k1 (AHeap → Nat)), I x1 x3 x4 x5 H ∧ ∀ y1 y3 y4 y5 G, I y1 y3 y4 y5 G → B6 P (fun z1 z3 z4 z5 G' => I z1 z3 z4 z5 G' ∧ μ z1 z3 z4 z5 G' < μ y1 y3 y4 y5 G) y1 y3 y4 y5 G
theorem l2 (P : PT) : LQ k1 (L2 P) (B6 P) := fun ⟨_,_,_,_,_⟩ _ ⟨I, μ, h0, hI⟩ => ⟨apT _ I, apT _ μ, h0, fun ⟨_,_,_,_,_⟩ _ h => hI _ _ _ _ _  h⟩
abbrev k2 : Sk := [(1,.x),(3,.v),(4,.i .i64)]
noncomputable def o7 := ob Tryz.f76 [.r,.r,.l,.l]
def B7 (P : PT) (x1 : Nat) (x3 : Value) (x4 : Int) (H : AHeap) : Prop :=
  L2 P x1 x3 x4 0 H
theorem q7 (P : PT) : QB Tryz.prog T0 33 o7 (En 33 k1 (L2 P)) k2 (B7 P) := fun _ _ _ _ _  => by kernel_rfl
abbrev k3 : Sk := [(1,.x)]
noncomputable def o8 := ob Tryz.f76 [.r,.l]
def B8 (P : PT) (x1 : Nat) (H : AHeap) : Prop :=
  newK H [] 2 (fun b1 H2 => ldI .i64 H2 x1 0 (fun v3 => ld1 H2 x1 1 (fun v4 => AC Tryz.prog T0 92 [(Value.int .i64 v3), v4] H2 (fun v5 H6 => asI .i64 v5 (fun v7 => B7 P x1 (Value.slice (some ⟨b1, 0, none⟩) 0 (0 + 1)) v7 H6)))))
theorem q8 (P : PT) : QB Tryz.prog T0 33 o8 (En 33 k2 (B7 P)) k3 (B8 P) := fun _ _ _  => by kernel_rfl
abbrev k4 : Sk := [(0,.g [.i,.v])]
noncomputable def o9 := ob Tryz.f76 [.l]
def B9 (P : PT) (x0a : Int) (x0b : Value) (H : AHeap) : Prop :=
  newK H [(Value.int .i64 x0a), x0b] 26 (fun b1 H2 => B8 P b1 H2)
theorem q9 (P : PT) : QB Tryz.prog T0 33 o9 (En 33 k3 (B8 P)) k4 (B9 P) := fun _ _ _ _  => by kernel_rfl
noncomputable def code : Code := (.seq (.region 0 ⟨o9⟩ false) (.seq (.region 1 ⟨o8⟩ false) (.seq (.seq (.region 2 ⟨o7⟩ false) (.block 0 (.loop (.seq (.seq (.region 3 ⟨o6⟩ false) (.cond (.tmp 16) .skip (.exit 0))) (.seq (.block 1 (.seq (.region 5 ⟨o5⟩ true) (.cond (.tmp 27) (.region 6 ⟨o4⟩ false) .skip))) (.region 4 ⟨o3⟩ false)))))) (.seq (.region 7 ⟨o1⟩ false) .ret))))
theorem body : Tryz.f76.body = some code := by kernel_rfl
theorem main (P : PT) : ∀ env H, (En 33 k4 (B9 P)) env H → AW Tryz.prog T0 code env H (mkQ (ret P) (fun _ _ _ => False) (ret P)) :=
  (r_seq (rB T0_ok (q9 P)) (r_seq (rB T0_ok (q8 P)) (r_seq (r_seq (rB T0_ok (q7 P)) (r_block (rL (l2 P) (fun N2 => (r_seq (r_seq (rB T0_ok (q6 P N2)) (r_cond rfl r_skip (r_exit (fun _ _ h => h)))) (r_seq (r_block (r_seq (rD T0_ok mixed [(0, false), (1, false), (2, false), (3, false), (7, false), (4, false), (5, true), (6, false), (8, false)] (by kernel_rfl) (q5 P N2)) (r_cond rfl (rB T0_ok (q4 P N2)) r_skip))) (rB T0_ok (q3 P N2)))))))) (r_seq (rB T0_ok (q1 P)) r_ret))))
theorem ac (P : PT) (x0a : Int) (x0b : Value) (H : AHeap) (h : B9 P x0a x0b H) : AC Tryz.prog T0 76 [(Value.agg ⟨[(Value.int .i64 x0a), x0b]⟩)] H P :=
  r_fn T0_ok (c := code) (n := 33) Tryz.func76 body (by kernel_rfl) (main P) (En_mk (x0a, x0b, ()) (by kernel_rfl) ⟨by kernel_rfl, trivial⟩ h)

end F76
-- loop.example/g01329/impl.within
namespace F77
noncomputable def ret (P : PT) : EP := retE T0 15 Tryz.f77 P
abbrev k0 : Sk := [(0,.i .i64),(1,.i .i64),(2,.i .i64)]
noncomputable def o1 := ob Tryz.f77 [.r,.l]
def B1 (P : PT) (x0 x1 x2 : Int) (H : AHeap) : Prop :=
  pif (decide ((x1 : Int) ≤ x0)) (P (Value.bool (decide ((x0 : Int) ≤ x2))) H) (P (Value.bool false) H)
theorem q1 (P : PT) : QB Tryz.prog T0 15 o1 (ret P) k0 (B1 P) := fun _ _ _ _ _  => by kernel_rfl
noncomputable def o2 := ob Tryz.f77 [.l]
def B2 (P : PT) (x0 x1 x2 : Int) (H : AHeap) : Prop :=
  B1 P x0 x1 x2 H
theorem q2 (P : PT) : QB Tryz.prog T0 15 o2 (En 15 k0 (B1 P)) k0 (B2 P) := fun _ _ _ _ _  => by kernel_rfl
noncomputable def code : Code := (.seq (.region 0 ⟨o2⟩ false) (.seq (.region 1 ⟨o1⟩ false) .ret))
theorem body : Tryz.f77.body = some code := by kernel_rfl
theorem main (P : PT) : ∀ env H, (En 15 k0 (B2 P)) env H → AW Tryz.prog T0 code env H (mkQ (ret P) (fun _ _ _ => False) (ret P)) :=
  (r_seq (rB T0_ok (q2 P)) (r_seq (rB T0_ok (q1 P)) r_ret))
theorem ac (P : PT) (x0 x1 x2 : Int) (H : AHeap) (h : B2 P x0 x1 x2 H) : AC Tryz.prog T0 77 [(Value.int .i64 x0), (Value.int .i64 x1), (Value.int .i64 x2)] H P :=
  r_fn T0_ok (c := code) (n := 15) Tryz.func77 body (by kernel_rfl) (main P) (En_mk (x0, x1, x2, ()) (by kernel_rfl) ⟨by kernel_rfl, by kernel_rfl, by kernel_rfl, trivial⟩ h)

end F77
-- loop.example/g01329/impl.choose
namespace F78
noncomputable def ret (P : PT) : EP := retE T0 12 Tryz.f78 P
abbrev k0 : Sk := [(1,.i .i64),(7,.x)]
noncomputable def o1 := ob Tryz.f78 [.r,.r,.r,.l]
def B1 (P : PT) (x1 : Int) (x7 : Nat) (H : AHeap) : Prop :=
  ld1 H x7 0 (fun v1 => callV Tryz.prog T0 v1 [(Value.int .u64 0), (Value.int .i64 0), (Value.int .i64 x1)] H (fun v2 H3 => asB v2 (fun v4 => P (Value.bool v4) H3)))
theorem q1 (P : PT) : QB Tryz.prog T0 12 o1 (ret P) k0 (B1 P) := fun _ _ _ _  => by kernel_rfl
abbrev k1 : Sk := [(1,.i .i64),(3,.x),(5,.x),(7,.x)]
noncomputable def o2 := ob Tryz.f78 [.r,.r,.l]
def B2 (P : PT) (x1 : Int) (x3 x5 x7 : Nat) (H : AHeap) : Prop :=
  stK H x7 0 [(Value.func (.func 147) ⟨[]⟩ ⟨[(Value.pointer (some ⟨x5, 0, none⟩)), (Value.pointer (some ⟨x3, 0, none⟩)), (Value.pointer (some ⟨x7, 0, none⟩))]⟩)] (fun H1 => B1 P x1 x7 H1)
theorem q2 (P : PT) : QB Tryz.prog T0 12 o2 (En 12 k0 (B1 P)) k1 (B2 P) := fun _ _ _ _ _ _  => by kernel_rfl
abbrev k2 : Sk := [(1,.i .i64),(3,.x),(5,.x)]
noncomputable def o3 := ob Tryz.f78 [.r,.l]
def B3 (P : PT) (x1 : Int) (x3 x5 : Nat) (H : AHeap) : Prop :=
  newK H [Value.nilFunc] 137 (fun b1 H2 => B2 P x1 x3 x5 b1 H2)
theorem q3 (P : PT) : QB Tryz.prog T0 12 o3 (En 12 k1 (B2 P)) k2 (B3 P) := fun _ _ _ _ _  => by kernel_rfl
abbrev k3 : Sk := [(0,.i .i64),(1,.i .i64),(2,.v)]
noncomputable def o4 := ob Tryz.f78 [.l]
def B4 (P : PT) (x0 x1 : Int) (x2 : Value) (H : AHeap) : Prop :=
  newK H [(Value.int .i64 x0)] 2 (fun b1 H2 => pif (Value.oneCell' x2) (newK H2 [x2] 79 (fun b3 H4 => B3 P x1 b1 b3 H4)) False)
theorem q4 (P : PT) : QB Tryz.prog T0 12 o4 (En 12 k2 (B3 P)) k3 (B4 P) := fun _ _ _ _ _  => by kernel_rfl
noncomputable def code : Code := (.seq (.region 0 ⟨o4⟩ false) (.seq (.region 1 ⟨o3⟩ false) (.seq (.region 2 ⟨o2⟩ false) (.seq (.region 3 ⟨o1⟩ false) .ret))))
theorem body : Tryz.f78.body = some code := by kernel_rfl
theorem main (P : PT) : ∀ env H, (En 12 k3 (B4 P)) env H → AW Tryz.prog T0 code env H (mkQ (ret P) (fun _ _ _ => False) (ret P)) :=
  (r_seq (rB T0_ok (q4 P)) (r_seq (rB T0_ok (q3 P)) (r_seq (rB T0_ok (q2 P)) (r_seq (rB T0_ok (q1 P)) r_ret))))
theorem ac (P : PT) (x0 x1 : Int) (x2 : Value) (H : AHeap) (h : B4 P x0 x1 x2 H) : AC Tryz.prog T0 78 [(Value.int .i64 x0), (Value.int .i64 x1), x2] H P :=
  r_fn T0_ok (c := code) (n := 12) Tryz.func78 body (by kernel_rfl) (main P) (En_mk (x0, x1, x2, ()) (by kernel_rfl) ⟨by kernel_rfl, by kernel_rfl, by kernel_rfl, trivial⟩ h)

end F78
-- loop.example/g01329/impl.BondsOfSize$1
namespace F79
noncomputable def ret (P : PT) : EP := retE T0 13 Tryz.f79 P
abbrev k0 : Sk := []
noncomputable def o1 := ob Tryz.f79 [.r,.r,.l]
def B1 (P : PT) (H : AHeap) : Prop :=
  P (Value.bool false) H
theorem q1 (P : PT) : QB Tryz.prog T0 13 o1 (ret P) k0 (B1 P) := fun _ _  => by kernel_rfl
abbrev k1 : Sk := [(0,.i .u64),(2,.v)]
noncomputable def o2 := ob Tryz.f79 [.r,.l,.r,.l]
def B2 (P : PT) (x0 : Int) (x2 : Value) (H : AHeap) : Prop :=
  asP x2 (fun b1 o2 => ld1 H b1 o2 (fun v3 => AC Tryz.prog T0 81 [(Value.int .u64 x0)] H (fun v4 H5 => (AHeap.le H H5) ∧ (pif (Value.oneCell' v4) (newK H5 [v4] 28 (fun b7 H8 => apK T0 28 H8 v3 (Value.slice (some ⟨b7, 0, none⟩) 1 (1 + 1)) (fun v9 H10 => pif (Value.oneCell' v9) (asP x2 (fun b11 o12 => stK H10 b11 o12 [v9] (fun H13 => B1 P H13))) False))) False))))
theorem q2 (P : PT) : QD Tryz.prog T0 13 o2 [(0, false), (1, false), (2, true), (3, false), (4, false), (5, false)] (En 13 k0 (B1 P)) k1 (B2 P) := fun _ _ _ _  => by kernel_rfl
abbrev k2 : Sk := [(0,.i .u64),(1,.v),(2,.v)]
noncomputable def o3 := ob Tryz.f79 [.r,.l,.l]
def B3 (P : PT) (x0 : Int) (x1 x2 : Value) (H : AHeap) : Prop :=
  asP x1 (fun b1 o2 => ldI .i64 H b1 o2 (fun v3 => ld1 H b1 (o2 + 1) (fun v4 => AC Tryz.prog T0 80 [(Value.agg ⟨[(Value.int .i64 v3), v4]⟩), (Value.int .u64 x0)] H (fun v5 H6 => asB v5 (fun v7 => pif v7 (B2 P x0 x2 H6) (B1 P H6))))))
theorem q3 (P : PT) : QB Tryz.prog T0 13 o3 (cnd 7 (En 13 k1 (B2 P)) (En 13 k0 (B1 P))) k2 (B3 P) := fun _ _ _ _ _  => by kernel_rfl
noncomputable def o4 := ob Tryz.f79 [.l]
def B4 (P : PT) (x0 : Int) (x1 x2 : Value) (H : AHeap) : Prop :=
  B3 P x0 x1 x2 H
theorem q4 (P : PT) : QB Tryz.prog T0 13 o4 (En 13 k2 (B3 P)) k2 (B4 P) := fun _ _ _ _ _  => by kernel_rfl
noncomputable def code : Code := (.seq (.region 0 ⟨o4⟩ false) (.seq (.seq (.region 1 ⟨o3⟩ false) (.cond (.tmp 7) (.region 2 ⟨o2⟩ true) .skip)) (.seq (.region 3 ⟨o1⟩ false) .ret)))
theorem body : Tryz.f79.body = some code := by kernel_rfl
theorem main (P : PT) : ∀ env H, (En 13 k2 (B4 P)) env H → AW Tryz.prog T0 code env H (mkQ (ret P) (fun _ _ _ => False) (ret P)) :=
  (r_seq (rB T0_ok (q4 P)) (r_seq (r_seq (rB T0_ok (q3 P)) (r_cond rfl (rD T0_ok mixed [(0, false), (1, false), (2, true), (3, false), (4, false), (5, false)] (by kernel_rfl) (q2 P)) r_skip)) (r_seq (rB T0_ok (q1 P)) r_ret)))
theorem ac (P : PT) (x0 : Int) (x1 x2 : Value) (H : AHeap) (h : B4 P x0 x1 x2 H) : AC Tryz.prog T0 79 [(Value.int .u64 x0), x1, x2] H P :=
  r_fn T0_ok (c := code) (n := 13) Tryz.func79 body (by kernel_rfl) (main P) (En_mk (x0, x1, x2, ()) (by kernel_rfl) ⟨by kernel_rfl, by kernel_rfl, by kernel_rfl, trivial⟩ h)

end F79
-- (loop.example/g01329/impl.Graph).isBond
namespace F80
noncomputable def ret (P : PT) : EP := retE T0 47 Tryz.f80 P
abbrev k0 : Sk := [(1,.i .u64),(2,.x),(6,.x)]
noncomputable def o1 := ob Tryz.f80 [.r,.r,.r,.r,.r,.l]
def B1 (P : PT) (x1 : Int) (x2 x6 : Nat) (H : AHeap) : Prop :=
  AC Tryz.prog T0 81 [(Value.int .u64 x1)] H (fun v1 H2 => AC Tryz.prog T0 148 [v1, (Value.func (.func 149) ⟨[]⟩ ⟨[(Value.pointer (some ⟨x6, 0, none⟩)), (Value.pointer (some ⟨x2, 0, none⟩))]⟩)] H2 (fun v4 H5 => asB v4 (fun v6 => P (Value.bool v6) H5)))
theorem q1 (P : PT) : QB Tryz.prog T0 47 o1 (ret P) k0 (B1 P) := fun _ _ _ _ _  => by kernel_rfl
abbrev k1 : Sk := [(1,.i .u64),(2,.x),(6,.x),(24,.v),(25,.i .i64),(26,.i .i64)]
noncomputable def o3 := ob Tryz.f80 [.r,.r,.r,.r,.l,.r,.l,.l,.r,.r,.r]
def B3 (P : PT) (N2 : NTy k1 Pr) (x1 : Int) (x2 x6 : Nat) (x24 : Value) (x25 x26 : Int) (H : AHeap) : Prop :=
  N2 x1 x2 x6 x24 x25 (IntKind.i64.wrap (x26 + 1)) H
theorem q3 (P : PT) (N2 : NTy k1 Pr) : QB Tryz.prog T0 47 o3 (En 47 k1 N2) k1 (B3 P N2) := fun _ _ _ _ _ _ _ _  => by kernel_rfl
abbrev k2 : Sk := [(1,.i .u64),(2,.x),(6,.x),(7,.i .i64),(24,.v),(25,.i .i64),(26,.i .i64),(31,.v),(32,.i .i64),(33,.i .i64)]
noncomputable def o5 := ob Tryz.f80 [.r,.r,.r,.r,.l,.r,.l,.l,.r,.r,.l,.l,.r,.r,.l,.l,.r,.r,.r]
def B5 (P : PT) (N2 : NTy k1 Pr) (N4 : NTy k2 Pr) (x1 : Int) (x2 x6 : Nat) (x7 : Int) (x24 : Value) (x25 x26 : Int) (x31 : Value) (x32 x33 : Int) (H : AHeap) : Prop :=
  N4 x1 x2 x6 x7 x24 x25 x26 x31 x32 (IntKind.i64.wrap (x33 + 1)) H
theorem q5 (P : PT) (N2 : NTy k1 Pr) (N4 : NTy k2 Pr) : QB Tryz.prog T0 47 o5 (En 47 k2 N4) k2 (B5 P N2 N4) := fun _ _ _ _ _ _ _ _ _ _ _ _  => by kernel_rfl
abbrev k3 : Sk := [(1,.i .u64),(2,.x),(6,.x),(7,.i .i64),(10,.i .i64),(24,.v),(25,.i .i64),(26,.i .i64),(31,.v),(32,.i .i64),(33,.i .i64)]
noncomputable def o6 := ob Tryz.f80 [.r,.r,.r,.r,.l,.r,.l,.l,.r,.r,.l,.l,.r,.r,.l,.l,.r,.r,.l,.l,.r]
def B6 (P : PT) (N2 : NTy k1 Pr) (N4 : NTy k2 Pr) (x1 : Int) (x2 x6 : Nat) (x7 x10 : Int) (x24 : Value) (x25 x26 : Int) (x31 : Value) (x32 x33 : Int) (H : AHeap) : Prop :=
  ld1 H x6 0 (fun v1 => idxK v1 x10 1 (fun b2 o3 => stK H b2 o3 [(Value.int .i64 x7)] (fun H4 => B5 P N2 N4 x1 x2 x6 x7 x24 x25 x26 x31 x32 x33 H4)))
theorem q6 (P : PT) (N2 : NTy k1 Pr) (N4 : NTy k2 Pr) : QB Tryz.prog T0 47 o6 (En 47 k2 (B5 P N2 N4)) k3 (B6 P N2 N4) := fun _ _ _ _ _ _ _ _ _ _ _ _ _  => by kernel_rfl
noncomputable def o7 := ob Tryz.f80 [.r,.r,.r,.r,.l,.r,.l,.l,.r,.r,.l,.l,.r,.r,.l,.l,.r,.r,.l,.l,.l]
def B7 (P : PT) (N2 : NTy k1 Pr) (N4 : NTy k2 Pr) (x1 : Int) (x2 x6 : Nat) (x7 : Int) (x24 : Value) (x25 x26 : Int) (x31 : Value) (x32 x33 : Int) (H : AHeap) : Prop :=
  idxK x31 x33 1 (fun b1 o2 => ldI .i64 H b1 o2 (fun v3 => B6 P N2 N4 x1 x2 x6 x7 v3 x24 x25 x26 x31 x32 x33 H))
theorem q7 (P : PT) (N2 : NTy k1 Pr) (N4 : NTy k2 Pr) : QB Tryz.prog T0 47 o7 (En 47 k3 (B6 P N2 N4)) k2 (B7 P N2 N4) := fun _ _ _ _ _ _ _ _ _ _ _ _  => by kernel_rfl
noncomputable def o8 := ob Tryz.f80 [.r,.r,.r,.r,.l,.r,.l,.l,.r,.r,.l,.l,.r,.r,.l,.l,.l]
def B8 (P : PT) (N2 : NTy k1 Pr) (N4 : NTy k2 Pr) (x1 : Int) (x2 x6 : Nat) (x7 : Int) (x24 : Value) (x25 x26 : Int) (x31 : Value) (x32 x33 : Int) (H : AHeap) : Prop :=
  pif (decide ((x33 : Int) < x32)) (B7 P N2 N4 x1 x2 x6 x7 x24 x25 x26 x31 x32 x33 H) (B3 P N2 x1 x2 x6 x24 x25 x26 H)
theorem q8 (P : PT) (N2 : NTy k1 Pr) (N4 : NTy k2 Pr) : QB Tryz.prog T0 47 o8 (cnd 34 (En 47 k2 (B7 P N2 N4)) (En 47 k1 (B3 P N2))) k2 (B8 P N2 N4) := fun _ _ _ _ _ _ _ _ _ _ _ _  => by kernel_rfl
def L4 (P : PT) (N2 : NTy k1 Pr) (x1 : Int) (x2 x6 : Nat) (x7 : Int) (x24 : Value) (x25 x26 : Int) (x31 : Value) (x32 x33 : Int) (H : AHeap) : Prop :=
  ∃ (I : NTy k2 Pr) (μ : NTy k2 (AHeap → Nat)), I x1 x2 x6 x7 x24 x25 x26 x31 x32 x33 H ∧ ∀ y1 y2 y6 y7 y24 y25 y26 y31 y32 y33 G, I y1 y2 y6 y7 y24 y25 y26 y31 y32 y33 G → B8 P N2 (fun z1 z2 z6 z7 z24 z25 z26 z31 z32 z33 G' => I z1 z2 z6 z7 z24 z25 z26 z31 z32 z33 G' ∧ μ z1 z2 z6 z7 z24 z25 z26 z31 z32 z33 G' < μ y1 y2 y6 y7 y24 y25 y26 y31 y32 y33 G) y1 y2 y6 y7 y24 y25 y26 y31 y32 y33 G
theorem l4 (P : PT) (N2 : NTy k1 Pr) : LQ k2 (L4 P N2) (B8 P N2) := fun ⟨_,_,_,_,_,_,_,_,_,_,_⟩ _ ⟨I, μ, h0, hI⟩ => ⟨apT _ I, apT _ μ, h0, fun ⟨_,_,_,_,_,_,_,_,_,_,_⟩ _ h => hI _ _ _ _ _ _ _ _ _ _ _  h⟩
abbrev k4 : Sk := [(1,.i .u64),(2,.x),(6,.x),(7,.i .i64),(8,.v),(24,.v),(25,.i .i64),(26,.i .i64)]
noncomputable def o9 := ob Tryz.f80 [.r,.r,.r,.r,.l,.r,.l,.l,.r,.r,.l,.l,.r,.l]
def B9 (P : PT) (N2 : NTy k1 Pr) (x1 : Int) (x2 x6 : Nat) (x7 : Int) (x8 x24 : Value) (x25 x26 : Int) (H : AHeap) : Prop :=
  lenK x8 (fun n1 => L4 P N2 x1 x2 x6 x7 x24 x25 x26 x8 (n1 : Int) 0 H)
theorem q9 (P : PT) (N2 : NTy k1 Pr) : QB Tryz.prog T0 47 o9 (En 47 k2 (L4 P N2)) k4 (B9 P N2) := fun _ _ _ _ _ _ _ _ _ _  => by kernel_rfl
noncomputable def o10 := ob Tryz.f80 [.r,.r,.r,.r,.l,.r,.l,.l,.r,.r,.l,.l,.l]
def B10 (P : PT) (N2 : NTy k1 Pr) (x1 : Int) (x2 x6 : Nat) (x24 : Value) (x25 x26 : Int) (H : AHeap) : Prop :=
  idxK x24 x26 1 (fun b1 o2 => ld1 H b1 o2 (fun v3 => B9 P N2 x1 x2 x6 x26 v3 x24 x25 x26 H))
theorem q10 (P : PT) (N2 : NTy k1 Pr) : QB Tryz.prog T0 47 o10 (En 47 k4 (B9 P N2)) k1 (B10 P N2) := fun _ _ _ _ _ _ _ _  => by kernel_rfl
noncomputable def o11 := ob Tryz.f80 [.r,.r,.r,.r,.l,.r,.l,.l,.l]
def B11 (P : PT) (N2 : NTy k1 Pr) (x1 : Int) (x2 x6 : Nat) (x24 : Value) (x25 x26 : Int) (H : AHeap) : Prop :=
  pif (decide ((x26 : Int) < x25)) (B10 P N2 x1 x2 x6 x24 x25 x26 H) (B1 P x1 x2 x6 H)
theorem q11 (P : PT) (N2 : NTy k1 Pr) : QB Tryz.prog T0 47 o11 (cnd 27 (En 47 k1 (B10 P N2)) (En 47 k0 (B1 P))) k1 (B11 P N2) := fun _ _ _ _ _ _ _ _  => by kernel_rfl
def L2 (P : PT) (x1 : Int) (x2 x6 : Nat) (x24 : Value) (x25 x26 : Int) (H : AHeap) : Prop :=
  ∃ (I : NTy k1 Pr) (μ : NTy k1 (AHeap → Nat)), I x1 x2 x6 x24 x25 x26 H ∧ ∀ y1 y2 y6 y24 y25 y26 G, I y1 y2 y6 y24 y25 y26 G → B11 P (fun z1 z2 z6 z24 z25 z26 G' => I z1 z2 z6 z24 z25 z26 G' ∧ μ z1 z2 z6 z24 z25 z26 G' < μ y1 y2 y6 y24 y25 y26 G) y1 y2 y6 y24 y25 y26 G
theorem l2 (P : PT) : LQ k1 (L2 P) (B11 P) := fun ⟨_,_,_,_,_,_,_⟩ _ ⟨I, μ, h0, hI⟩ => ⟨apT _ I, apT _ μ, h0, fun ⟨_,_,_,_,_,_,_⟩ _ h => hI _ _ _ _ _ _ _  h⟩
abbrev k5 : Sk := [(1,.i .u64),(2,.x),(5,.v),(6,.x)]
noncomputable def o12 := ob Tryz.f80 [.r,.r,.r,.r,.l,.l]
def B12 (P : PT) (x1 : Int) (x2 : Nat) (x5 : Value) (x6 : Nat) (H : AHeap) : Prop :=
  lenK x5 (fun n1 => L2 P x1 x2 x6 x5 (n1 : Int) 0 H)
theorem q12 (P : PT) : QB Tryz.prog T0 47 o12 (En 47 k1 (L2 P)) k5 (B12 P) := fun _ _ _ _ _ _  => by kernel_rfl
abbrev k6 : Sk := [(1,.i .u64),(2,.x),(5,.v)]
noncomputable def o13 := ob Tryz.f80 [.r,.r,.r,.l]
def B13 (P : PT) (x1 : Int) (x2 : Nat) (x5 : Value) (H : AHeap) : Prop :=
  ldI .i64 H x2 0 (fun v1 => mkR H 8 3 [(Value.int .i64 0)] v1 v1 (fun v3 H2 => newK H2 [(Value.slice none 0 0)] 138 (fun b4 H5 => pif (Value.oneCell' v3) (stK H5 b4 0 [v3] (fun H6 => B12 P x1 x2 x5 b4 H6)) False)))
theorem q13 (P : PT) : QB Tryz.prog T0 47 o13 (En 47 k5 (B12 P)) k6 (B13 P) := fun _ _ _ _ _  => by kernel_rfl
abbrev k7 : Sk := []
noncomputable def o14 := ob Tryz.f80 [.r,.r,.l,.r,.l,.l]
def B14 (P : PT) (H : AHeap) : Prop :=
  P (Value.bool false) H
theorem q14 (P : PT) : QB Tryz.prog T0 47 o14 (ret P) k7 (B14 P) := fun _ _  => by kernel_rfl
noncomputable def o15 := ob Tryz.f80 [.r,.r,.l,.l]
def B15 (P : PT) (x1 : Int) (x2 : Nat) (x5 : Value) (H : AHeap) : Prop :=
  lenK x5 (fun n1 => ldI .i64 H x2 0 (fun v2 => ld1 H x2 1 (fun v3 => AC Tryz.prog T0 103 [(Value.agg ⟨[(Value.int .i64 v2), v3]⟩), (Value.int .u64 0)] H (fun v4 H5 => lenK v4 (fun n7 => pif (((n1 : Int) : Int) != (IntKind.i64.wrap ((n7 : Int) + 1))) (B14 P H5) (B13 P x1 x2 x5 H5))))))
theorem q15 (P : PT) : QB Tryz.prog T0 47 o15 (cnd 20 (En 47 k7 (B14 P)) (En 47 k6 (B13 P))) k6 (B15 P) := fun _ _ _ _ _  => by kernel_rfl
abbrev k8 : Sk := [(1,.i .u64),(2,.x)]
noncomputable def o16 := ob Tryz.f80 [.r,.l]
def B16 (P : PT) (x1 : Int) (x2 : Nat) (H : AHeap) : Prop :=
  ldI .i64 H x2 0 (fun v1 => ld1 H x2 1 (fun v2 => AC Tryz.prog T0 103 [(Value.agg ⟨[(Value.int .i64 v1), v2]⟩), (Value.int .u64 x1)] H (fun v3 H4 => B15 P x1 x2 v3 H4)))
theorem q16 (P : PT) : QB Tryz.prog T0 47 o16 (En 47 k6 (B15 P)) k8 (B16 P) := fun _ _ _ _  => by kernel_rfl
abbrev k9 : Sk := [(0,.g [.i,.v]),(1,.i .u64)]
noncomputable def o17 := ob Tryz.f80 [.l]
def B17 (P : PT) (x0a : Int) (x0b : Value) (x1 : Int) (H : AHeap) : Prop :=
  newK H [(Value.int .i64 x0a), x0b] 26 (fun b1 H2 => B16 P x1 b1 H2)
theorem q17 (P : PT) : QB Tryz.prog T0 47 o17 (En 47 k8 (B16 P)) k9 (B17 P) := fun _ _ _ _ _  => by kernel_rfl
noncomputable def code : Code := (.seq (.region 0 ⟨o17⟩ false) (.seq (.region 1 ⟨o16⟩ false) (.seq (.seq (.region 2 ⟨o15⟩ false) (.cond (.tmp 20) (.seq (.region 3 ⟨o14⟩ false) .ret) .skip)) (.seq (.region 4 ⟨o13⟩ false) (.seq (.seq (.region 5 ⟨o12⟩ false) (.block 0 (.loop (.seq (.region 6 ⟨o11⟩ false) (.seq (.cond (.tmp 27) .skip (.exit 0)) (.seq (.block 1 (.seq (.region 7 ⟨o10⟩ false) (.seq (.region 8 ⟨o9⟩ false) (.block 2 (.loop (.seq (.region 9 ⟨o8⟩ false) (.seq (.cond (.tmp 34) .skip (.exit 2)) (.seq (.block 3 (.seq (.region 10 ⟨o7⟩ false) (.region 11 ⟨o6⟩ false))) (.region 12 ⟨o5⟩ false))))))))) (.region 13 ⟨o3⟩ false))))))) (.seq (.region 14 ⟨o1⟩ false) .ret))))))
theorem body : Tryz.f80.body = some code := by kernel_rfl
theorem main (P : PT) : ∀ env H, (En 47 k9 (B17 P)) env H → AW Tryz.prog T0 code env H (mkQ (ret P) (fun _ _ _ => False) (ret P)) :=
  (r_seq (rB T0_ok (q17 P)) (r_seq (rB T0_ok (q16 P)) (r_seq (r_seq (rB T0_ok (q15 P)) (r_cond rfl (r_seq (rB T0_ok (q14 P)) r_ret) r_skip)) (r_seq (rB T0_ok (q13 P)) (r_seq (r_seq (rB T0_ok (q12 P)) (r_block (rL (l2 P) (fun N2 => (r_seq (rB T0_ok (q11 P N2)) (r_seq (r_cond rfl r_skip (r_exit (fun _ _ h => h))) (r_seq (r_block (r_seq (rB T0_ok (q10 P N2)) (r_seq (rB T0_ok (q9 P N2)) (r_block (rL (l4 P N2) (fun N4 => (r_seq (rB T0_ok (q8 P N2 N4)) (r_seq (r_cond rfl r_skip (r_exit (fun _ _ h => h))) (r_seq (r_block (r_seq (rB T0_ok (q7 P N2 N4)) (rB T0_ok (q6 P N2 N4)))) (rB T0_ok (q5 P N2 N4))))))))))) (rB T0_ok (q3 P N2))))))))) (r_seq (rB T0_ok (q1 P)) r_ret))))))
theorem ac (P : PT) (x0a : Int) (x0b : Value) (x1 : Int) (H : AHeap) (h : B17 P x0a x0b x1 H) : AC Tryz.prog T0 80 [(Value.agg ⟨[(Value.int .i64 x0a), x0b]⟩), (Value.int .u64 x1)] H P :=
  r_fn T0_ok (c := code) (n := 47) Tryz.func80 body (by kernel_rfl) (main P) (En_mk (x0a, x0b, x1, ()) (by kernel_rfl) ⟨by kernel_rfl, by kernel_rfl, trivial⟩ h)

end F80
-- (loop.example/g01329/impl.set).list
namespace F81
noncomputable def ret (P : PT) : EP := retE T0 19 Tryz.f81 P
abbrev k0 : Sk := [(3,.v)]
noncomputable def o1 := ob Tryz.f81 [.r,.r,.r,.l]
def B1 (P : PT) (x3 : Value) (H : AHeap) : Prop :=
  P x3 H
theorem q1 (P : PT) : QB Tryz.prog T0 19 o1 (ret P) k0 (B1 P) := fun _ _ _  => by kernel_rfl
abbrev k1 : Sk := [(0,.i .u64),(3,.v),(4,.i .i64)]
noncomputable def o3 := ob Tryz.f81 [.r,.r,.l,.r,.l,.l,.r,.r]
def B3 (P : PT) (N2 : NTy k1 Pr) (x0 : Int) (x3 : Value) (x4 : Int) (H : AHeap) : Prop :=
  N2 x0 x3 (IntKind.i64.wrap (x4 + 1)) H
theorem q3 (P : PT) (N2 : NTy k1 Pr) : QB Tryz.prog T0 19 o3 (En 19 k1 N2) k1 (B3 P N2) := fun _ _ _ _ _  => by kernel_rfl
noncomputable def o4 := ob Tryz.f81 [.r,.r,.l,.r,.l,.l,.r,.l,.l,.r,.l]
def B4 (P : PT) (N2 : NTy k1 Pr) (x0 : Int) (x3 : Value) (x4 : Int) (H : AHeap) : Prop :=
  newK H [(Value.int .i64 x4)] 2 (fun b1 H2 => apK T0 2 H2 x3 (Value.slice (some ⟨b1, 0, none⟩) 1 (1 + 1)) (fun v3 H4 => B3 P N2 x0 v3 x4 H4))
theorem q4 (P : PT) (N2 : NTy k1 Pr) : QB Tryz.prog T0 19 o4 (En 19 k1 (B3 P N2)) k1 (B4 P N2) := fun _ _ _ _ _  => by kernel_rfl
noncomputable def o5 := ob Tryz.f81 [.r,.r,.l,.r,.l,.l,.r,.l,.l,.l]
def B5 (P : PT) (N2 : NTy k1 Pr) (x0 : Int) (x3 : Value) (x4 : Int) (H : AHeap) : Prop :=
  AC Tryz.prog T0 134 [(Value.int .u64 x0), (Value.int .i64 x4)] H (fun v1 H2 => asB v1 (fun v3 => pif v3 (B4 P N2 x0 x3 x4 H2) (B3 P N2 x0 x3 x4 H2)))
theorem q5 (P : PT) (N2 : NTy k1 Pr) : QB Tryz.prog T0 19 o5 (cnd 13 (En 19 k1 (B4 P N2)) (En 19 k1 (B3 P N2))) k1 (B5 P N2) := fun _ _ _ _ _  => by kernel_rfl
noncomputable def o6 := ob Tryz.f81 [.r,.r,.l,.r,.l,.l,.l,.l]
def B6 (P : PT) (N2 : NTy k1 Pr) (x0 : Int) (x3 : Value) (x4 : Int) (H : AHeap) : Prop :=
  ((0 : Int) ≤ x4) ∧ (pif ((Int.fdiv x0 (2 ^ (min (Int.toNat x4) 64)) : Int) != 0) (B5 P N2 x0 x3 x4 H) (B1 P x3 H))
theorem q6 (P : PT) (N2 : NTy k1 Pr) : QB Tryz.prog T0 19 o6 (cnd 8 (En 19 k1 (B5 P N2)) (En 19 k0 (B1 P))) k1 (B6 P N2) := fun _ _ _ _ _  => by kernel_rfl
def L2 (P : PT) (x0 : Int) (x3 : Value) (x4 : Int) (H : AHeap) : Prop :=
  ∃ (I : NTy k1 Pr) (μ : NTy k1 (AHeap → Nat)), I x0 x3 x4 H ∧ ∀ y0 y3 y4 G, I y0 y3 y4 G → B6 P (fun z0 z3 z4 G' => I z0 z3 z4 G' ∧ μ z0 z3 z4 G' < μ y0 y3 y4 G) y0 y3 y4 G
theorem l2 (P : PT) : LQ k1 (L2 P) (B6 P) := fun ⟨_,_,_,_⟩ _ ⟨I, μ, h0, hI⟩ => ⟨apT _ I, apT _ μ, h0, fun ⟨_,_,_,_⟩ _ h => hI _ _ _ _  h⟩
abbrev k2 : Sk := [(0,.i .u64),(3,.v)]
noncomputable def o7 := ob Tryz.f81 [.r,.r,.l,.l]
def B7 (P : PT) (x0 : Int) (x3 : Value) (H : AHeap) : Prop :=
  L2 P x0 x3 0 H
theorem q7 (P : PT) : QB Tryz.prog T0 19 o7 (En 19 k1 (L2 P)) k2 (B7 P) := fun _ _ _ _  => by kernel_rfl
abbrev k3 : Sk := [(0,.i .u64)]
noncomputable def o8 := ob Tryz.f81 [.r,.l]
def B8 (P : PT) (x0 : Int) (H : AHeap) : Prop :=
  B7 P x0 (Value.slice none 0 0) H
theorem q8 (P : PT) : QB Tryz.prog T0 19 o8 (En 19 k2 (B7 P)) k3 (B8 P) := fun _ _ _  => by kernel_rfl
noncomputable def o9 := ob Tryz.f81 [.l]
def B9 (P : PT) (x0 : Int) (H : AHeap) : Prop :=
  B8 P x0 H
theorem q9 (P : PT) : QB Tryz.prog T0 19 o9 (En 19 k3 (B8 P)) k3 (B9 P) := fun _ _ _  => by kernel_rfl
noncomputable def code : Code := (.seq (.region 0 ⟨o9⟩ false) (.seq (.region 1 ⟨o8⟩ false) (.seq (.seq (.region 2 ⟨o7⟩ false) (.block 0 (.loop (.seq (.seq (.region 3 ⟨o6⟩ false) (.cond (.tmp 8) .skip (.exit 0))) (.seq (.block 1 (.seq (.region 5 ⟨o5⟩ false) (.cond (.tmp 13) (.region 6 ⟨o4⟩ false) .skip))) (.region 4 ⟨o3⟩ false)))))) (.seq (.region 7 ⟨o1⟩ false) .ret))))
theorem body : Tryz.f81.body = some code := by kernel_rfl
theorem main (P : PT) : ∀ env H, (En 19 k3 (B9 P)) env H → AW Tryz.prog T0 code env H (mkQ (ret P) (fun _ _ _ => False) (ret P)) :=
  (r_seq (rB T0_ok (q9 P)) (r_seq (rB T0_ok (q8 P)) (r_seq (r_seq (rB T0_ok (q7 P)) (r_block (rL (l2 P) (fun N2 => (r_seq (r_seq (rB T0_ok (q6 P N2)) (r_cond rfl r_skip (r_exit (fun _ _ h => h)))) (r_seq (r_block (r_seq (rB T0_ok (q5 P N2)) (r_cond rfl (rB T0_ok (q4 P N2)) r_skip))) (rB T0_ok (q3 P N2)))))))) (r_seq (rB T0_ok (q1 P)) r_ret))))
theorem ac (P : PT) (x0 : Int) (H : AHeap) (h : B9 P x0 H) : AC Tryz.prog T0 81 [(Value.int .u64 x0)] H P :=
  r_fn T0_ok (c := code) (n := 19) Tryz.func81 body (by kernel_rfl) (main P) (En_mk (x0, ()) (by kernel_rfl) ⟨by kernel_rfl, trivial⟩ h)

end F81
-- loop.example/g01329/spec.l01Small
namespace F82
noncomputable def ret (P : PT) : EP := retE T0 32 Tryz.f82 P
abbrev k0 : Sk := [(0,.v),(2,.x)]
noncomputable def o1 := ob Tryz.f82 [.r,.r,.l]
def B1 (P : PT) (x0 : Value) (x2 : Nat) (H : AHeap) : Prop :=
  newK H [(Value.int .i64 2), (Value.int .i64 4), (Value.int .i64 4), (Value.int .i64 6), (Value.int .i64 6), (Value.int .i64 8), (Value.int .i64 8), (Value.int .i64 10)] 2 (fun b1 H2 => AC Tryz.prog T0 83 [x0, (Value.slice (some ⟨b1, 0, none⟩) 8 (8 + 1))] H2 (fun v3 H4 => asI .i64 v3 (fun v5 => AC Tryz.prog T0 150 [x0, (Value.int .i64 v5)] H4 (fun v6 H7 => agg2 v6 (fun v8 v9 => asI .i64 v8 (fun v10 => stK H7 x2 0 [(Value.int .i64 v10), v9] (fun H12 => ldI .i64 H12 x2 0 (fun v13 => ld1 H12 x2 1 (fun v14 => P (Value.agg ⟨[(Value.int .i64 v13), v14]⟩) H12)))))))))
theorem q1 (P : PT) : QB Tryz.prog T0 32 o1 (ret P) k0 (B1 P) := fun _ _ _ _  => by kernel_rfl
abbrev k1 : Sk := [(0,.v),(2,.x),(4,.x)]
noncomputable def o2 := ob Tryz.f82 [.r,.l,.r,.l,.r,.r,.l]
def B2 (P : PT) (x0 : Value) (x2 x4 : Nat) (H : AHeap) : Prop :=
  ldI .i64 H x4 0 (fun v1 => ld1 H x4 1 (fun v2 => ldI .i64 H x4 0 (fun v3 => AC Tryz.prog T0 70 [x0, (Value.int .i64 v3)] H (fun v4 H5 => (ldI .i64 H5 x4 0 (fun v7 => ld1 H5 x4 1 (fun v8 => ((Value.agg ⟨[(Value.int .i64 v7), v8]⟩) = (Value.agg ⟨[(Value.int .i64 v1), v2]⟩)) ∧ (H5 = H5)))) ∧ (AC Tryz.prog T0 69 [(Value.agg ⟨[(Value.int .i64 v1), v2]⟩), v4] H5 (fun v9 H10 => agg2 v9 (fun v11 v12 => asI .i64 v11 (fun v13 => stK H10 x2 0 [(Value.int .i64 v13), v12] (fun H15 => ldI .i64 H15 x2 0 (fun v16 => ld1 H15 x2 1 (fun v17 => P (Value.agg ⟨[(Value.int .i64 v16), v17]⟩) H15)))))))))))
theorem q2 (P : PT) : QT Tryz.prog T0 32 o2 (.op 0 [] (.op 1 [] (.op 2 [] (.op 3 [] (.op 4 [0] (.op 5 [] (.op 6 [] .done))))))) (ret P) k1 (B2 P) := fun _ _ _ _ _  => by kernel_rfl
abbrev k2 : Sk := [(0,.v),(2,.x),(3,.v)]
noncomputable def o3 := ob Tryz.f82 [.r,.l,.r,.l,.r,.l]
def B3 (P : PT) (x0 : Value) (x2 : Nat) (x3 : Value) (H : AHeap) : Prop :=
  lenK x3 (fun n1 => AC Tryz.prog T0 66 [x0, (Value.int .i64 (n1 : Int))] H (fun v2 H3 => asI .i64 v2 (fun v4 => idxK x3 v4 1 (fun b5 o6 => ld1 H3 b5 o6 (fun v8 => asS v8 (fun v7 => AC Tryz.prog T0 67 [(Value.string v7)] H3 (fun v9 H10 => tup2 v9 (fun v11 v12 => agg2 v11 (fun v13 v14 => asI .i64 v13 (fun v15 => asB v12 (fun v17 => newK H10 [(Value.int .i64 0), (Value.slice none 0 0)] 26 (fun b18 H19 => stK H19 b18 0 [(Value.int .i64 v15), v14] (fun H20 => B2 P x0 x2 b18 H20)))))))))))))
theorem q3 (P : PT) : QB Tryz.prog T0 32 o3 (En 32 k1 (B2 P)) k2 (B3 P) := fun _ _ _ _ _  => by kernel_rfl
noncomputable def o4 := ob Tryz.f82 [.r,.l,.r,.l,.l]
def B4 (P : PT) (x0 : Value) (x2 : Nat) (H : AHeap) : Prop :=
  newK H [(Value.string (⟨#[116, 104, 101, 116, 97]⟩)), (Value.string (⟨#[107, 52]⟩)), (Value.string (⟨#[107, 51, 51]⟩)), (Value.string (⟨#[112, 114, 105, 115, 109]⟩)), (Value.string (⟨#[99, 117, 98, 101]⟩)), (Value.string (⟨#[112, 101, 116, 101, 114, 115, 101, 110]⟩))] 9 (fun b1 H2 => B3 P x0 x2 (Value.slice (some ⟨b1, 0, none⟩) 6 (6 + 1)) H2)
theorem q4 (P : PT) : QB Tryz.prog T0 32 o4 (En 32 k2 (B3 P)) k0 (B4 P) := fun _ _ _ _  => by kernel_rfl
noncomputable def o5 := ob Tryz.f82 [.r,.l,.l]
def B5 (P : PT) (x0 : Value) (x2 : Nat) (H : AHeap) : Prop :=
  AC Tryz.prog T0 66 [x0, (Value.int .i64 4)] H (fun v1 H2 => asI .i64 v1 (fun v3 => pif ((v3 : Int) == 0) (B4 P x0 x2 H2) (B1 P x0 x2 H2)))
theorem q5 (P : PT) : QB Tryz.prog T0 32 o5 (cnd 8 (En 32 k0 (B4 P)) (En 32 k0 (B1 P))) k0 (B5 P) := fun _ _ _ _  => by kernel_rfl
abbrev k3 : Sk := [(0,.v)]
noncomputable def o6 := ob Tryz.f82 [.l]
def B6 (P : PT) (x0 : Value) (H : AHeap) : Prop :=
  newK H [(Value.int .i64 0), (Value.slice none 0 0)] 26 (fun b1 H2 => B5 P x0 b1 H2)
theorem q6 (P : PT) : QB Tryz.prog T0 32 o6 (En 32 k0 (B5 P)) k3 (B6 P) := fun _ _ _  => by kernel_rfl
noncomputable def code : Code := (.seq (.region 0 ⟨o6⟩ false) (.seq (.seq (.region 1 ⟨o5⟩ false) (.cond (.tmp 8) (.seq (.region 2 ⟨o4⟩ false) (.seq (.region 3 ⟨o3⟩ false) (.seq (.region 4 ⟨o2⟩ true) .ret))) .skip)) (.seq (.region 5 ⟨o1⟩ false) .ret)))
theorem body : Tryz.f82.body = some code := by kernel_rfl
theorem main (P : PT) : ∀ env H, (En 32 k3 (B6 P)) env H → AW Tryz.prog T0 code env H (mkQ (ret P) (fun _ _ _ => False) (ret P)) :=
  (r_seq (rB T0_ok (q6 P)) (r_seq (r_seq (rB T0_ok (q5 P)) (r_cond rfl (r_seq (rB T0_ok (q4 P)) (r_seq (rB T0_ok (q3 P)) (r_seq (rT T0_ok mixed (.op 0 [] (.op 1 [] (.op 2 [] (.op 3 [] (.op 4 [0] (.op 5 [] (.op 6 [] .done))))))) (by kernel_rfl) (q2 P)) r_ret))) r_skip)) (r_seq (rB T0_ok (q1 P)) r_ret)))
theorem ac (P : PT) (x0 : Value) (H : AHeap) (h : B6 P x0 H) : AC Tryz.prog T0 82 [x0] H P :=
  r_fn T0_ok (c := code) (n := 32) Tryz.func82 body (by kernel_rfl) (main P) (En_mk (x0, ()) (by kernel_rfl) ⟨by kernel_rfl, trivial⟩ h)

end F82
-- loop.example/g01329/spec.l01Pick
namespace F83
noncomputable def ret (P : PT) : EP := retE T0 12 Tryz.f83 P
abbrev k0 : Sk := [(0,.v),(1,.v)]
noncomputable def o1 := ob Tryz.f83 [.r,.l]
def B1 (P : PT) (x0 x1 : Value) (H : AHeap) : Prop :=
  lenK x1 (fun n1 => AC Tryz.prog T0 66 [x0, (Value.int .i64 (n1 : Int))] H (fun v2 H3 => asI .i64 v2 (fun v4 => idxK x1 v4 1 (fun b5 o6 => ldI .i64 H3 b5 o6 (fun v7 => P (Value.int .i64 v7) H3)))))
theorem q1 (P : PT) : QB Tryz.prog T0 12 o1 (ret P) k0 (B1 P) := fun _ _ _ _  => by kernel_rfl
noncomputable def o2 := ob Tryz.f83 [.l]
def B2 (P : PT) (x0 x1 : Value) (H : AHeap) : Prop :=
  B1 P x0 x1 H
theorem q2 (P : PT) : QB Tryz.prog T0 12 o2 (En 12 k0 (B1 P)) k0 (B2 P) := fun _ _ _ _  => by kernel_rfl
noncomputable def code : Code := (.seq (.region 0 ⟨o2⟩ false) (.seq (.region 1 ⟨o1⟩ false) .ret))
theorem body : Tryz.f83.body = some code := by kernel_rfl
theorem main (P : PT) : ∀ env H, (En 12 k0 (B2 P)) env H → AW Tryz.prog T0 code env H (mkQ (ret P) (fun _ _ _ => False) (ret P)) :=
  (r_seq (rB T0_ok (q2 P)) (r_seq (rB T0_ok (q1 P)) r_ret))
theorem ac (P : PT) (x0 x1 : Value) (H : AHeap) (h : B2 P x0 x1 H) : AC Tryz.prog T0 83 [x0, x1] H P :=
  r_fn T0_ok (c := code) (n := 12) Tryz.func83 body (by kernel_rfl) (main P) (En_mk (x0, x1, ()) (by kernel_rfl) ⟨by kernel_rfl, by kernel_rfl, trivial⟩ h)

end F83
-- loop.example/g01329/spec.l01Near
namespace F84
noncomputable def ret (P : PT) : EP := retE T0 17 Tryz.f84 P
abbrev k0 : Sk := [(0,.v),(1,.i .i64)]
noncomputable def o1 := ob Tryz.f84 [.r,.r,.l]
def B1 (P : PT) (x0 : Value) (x1 : Int) (H : AHeap) : Prop :=
  AC Tryz.prog T0 66 [x0, (Value.int .i64 (IntKind.i64.wrap (x1 + 1)))] H (fun v1 H2 => asI .i64 v1 (fun v3 => P (Value.int .i64 v3) H2))
theorem q1 (P : PT) : QB Tryz.prog T0 17 o1 (ret P) k0 (B1 P) := fun _ _ _ _  => by kernel_rfl
noncomputable def o2 := ob Tryz.f84 [.r,.l,.r,.l,.l]
def B2 (P : PT) (x0 : Value) (x1 : Int) (H : AHeap) : Prop :=
  newK H [(Value.int .i64 (-1)), (Value.int .i64 (IntKind.i64.wrap (x1 + 1))), (Value.int .i64 1099511627776), (Value.int .i64 (-4611686018427387904))] 2 (fun b1 H2 => AC Tryz.prog T0 83 [x0, (Value.slice (some ⟨b1, 0, none⟩) 4 (4 + 1))] H2 (fun v3 H4 => asI .i64 v3 (fun v5 => P (Value.int .i64 v5) H4)))
theorem q2 (P : PT) : QB Tryz.prog T0 17 o2 (ret P) k0 (B2 P) := fun _ _ _ _  => by kernel_rfl
noncomputable def o3 := ob Tryz.f84 [.r,.l,.l]
def B3 (P : PT) (x0 : Value) (x1 : Int) (H : AHeap) : Prop :=
  AC Tryz.prog T0 66 [x0, (Value.int .i64 14)] H (fun v1 H2 => asI .i64 v1 (fun v3 => pif ((v3 : Int) == 0) (B2 P x0 x1 H2) (B1 P x0 x1 H2)))
theorem q3 (P : PT) : QB Tryz.prog T0 17 o3 (cnd 7 (En 17 k0 (B2 P)) (En 17 k0 (B1 P))) k0 (B3 P) := fun _ _ _ _  => by kernel_rfl
noncomputable def o4 := ob Tryz.f84 [.l]
def B4 (P : PT) (x0 : Value) (x1 : Int) (H : AHeap) : Prop :=
  B3 P x0 x1 H
theorem q4 (P : PT) : QB Tryz.prog T0 17 o4 (En 17 k0 (B3 P)) k0 (B4 P) := fun _ _ _ _  => by kernel_rfl
noncomputable def code : Code := (.seq (.region 0 ⟨o4⟩ false) (.seq (.seq (.region 1 ⟨o3⟩ false) (.cond (.tmp 7) (.seq (.region 2 ⟨o2⟩ false) .ret) .skip)) (.seq (.region 3 ⟨o1⟩ false) .ret)))
theorem body : Tryz.f84.body = some code := by kernel_rfl
theorem main (P : PT) : ∀ env H, (En 17 k0 (B4 P)) env H → AW Tryz.prog T0 code env H (mkQ (ret P) (fun _ _ _ => False) (ret P)) :=
  (r_seq (rB T0_ok (q4 P)) (r_seq (r_seq (rB T0_ok (q3 P)) (r_cond rfl (r_seq (rB T0_ok (q2 P)) r_ret) r_skip)) (r_seq (rB T0_ok (q1 P)) r_ret)))
theorem ac (P : PT) (x0 : Value) (x1 : Int) (H : AHeap) (h : B4 P x0 x1 H) : AC Tryz.prog T0 84 [x0, (Value.int .i64 x1)] H P :=
  r_fn T0_ok (c := code) (n := 17) Tryz.func84 body (by kernel_rfl) (main P) (En_mk (x0, x1, ()) (by kernel_rfl) ⟨by kernel_rfl, by kernel_rfl, trivial⟩ h)

end F84
-- loop.example/g01329/spec.l01In
namespace F85
noncomputable def ret (P : PT) : EP := retE T0 15 Tryz.f85 P
abbrev k0 : Sk := [(0,.i .i64),(1,.i .i64),(2,.i .i64)]
noncomputable def o1 := ob Tryz.f85 [.r,.l]
def B1 (P : PT) (x0 x1 x2 : Int) (H : AHeap) : Prop :=
  pif (decide ((x0 : Int) ≥ x1)) (P (Value.bool (decide ((x0 : Int) ≤ x2))) H) (P (Value.bool false) H)
theorem q1 (P : PT) : QB Tryz.prog T0 15 o1 (ret P) k0 (B1 P) := fun _ _ _ _ _  => by kernel_rfl
noncomputable def o2 := ob Tryz.f85 [.l]
def B2 (P : PT) (x0 x1 x2 : Int) (H : AHeap) : Prop :=
  B1 P x0 x1 x2 H
theorem q2 (P : PT) : QB Tryz.prog T0 15 o2 (En 15 k0 (B1 P)) k0 (B2 P) := fun _ _ _ _ _  => by kernel_rfl
noncomputable def code : Code := (.seq (.region 0 ⟨o2⟩ false) (.seq (.region 1 ⟨o1⟩ false) .ret))
theorem body : Tryz.f85.body = some code := by kernel_rfl
theorem main (P : PT) : ∀ env H, (En 15 k0 (B2 P)) env H → AW Tryz.prog T0 code env H (mkQ (ret P) (fun _ _ _ => False) (ret P)) :=
  (r_seq (rB T0_ok (q2 P)) (r_seq (rB T0_ok (q1 P)) r_ret))
theorem ac (P : PT) (x0 x1 x2 : Int) (H : AHeap) (h : B2 P x0 x1 x2 H) : AC Tryz.prog T0 85 [(Value.int .i64 x0), (Value.int .i64 x1), (Value.int .i64 x2)] H P :=
  r_fn T0_ok (c := code) (n := 15) Tryz.func85 body (by kernel_rfl) (main P) (En_mk (x0, x1, x2, ()) (by kernel_rfl) ⟨by kernel_rfl, by kernel_rfl, by kernel_rfl, trivial⟩ h)

end F85
-- loop.example/g01329/spec.l03Sets
namespace F86
noncomputable def ret (P : PT) : EP := retE T0 45 Tryz.f86 P
abbrev k0 : Sk := [(7,.v)]
noncomputable def o1 := ob Tryz.f86 [.r,.r,.r,.r,.l]
def B1 (P : PT) (x7 : Value) (H : AHeap) : Prop :=
  P x7 H
theorem q1 (P : PT) : QB Tryz.prog T0 45 o1 (ret P) k0 (B1 P) := fun _ _ _  => by kernel_rfl
abbrev k1 : Sk := [(0,.i .i64),(1,.i .i64),(7,.v),(8,.i .i64)]
noncomputable def o3 := ob Tryz.f86 [.r,.r,.r,.l,.r,.l,.l,.r,.r]
def B3 (P : PT) (N2 : NTy k1 Pr) (x0 x1 : Int) (x7 : Value) (x8 : Int) (H : AHeap) : Prop :=
  N2 x0 x1 x7 (IntKind.i64.wrap (x8 + 1)) H
theorem q3 (P : PT) (N2 : NTy k1 Pr) : QB Tryz.prog T0 45 o3 (En 45 k1 N2) k1 (B3 P N2) := fun _ _ _ _ _ _  => by kernel_rfl
abbrev k2 : Sk := [(0,.i .i64),(1,.i .i64),(7,.v),(8,.i .i64),(9,.v),(10,.i .i64)]
noncomputable def o5 := ob Tryz.f86 [.r,.r,.r,.l,.r,.l,.l,.r,.l,.l,.r,.r,.l,.l,.r,.r]
def B5 (P : PT) (N2 : NTy k1 Pr) (N4 : NTy k2 Pr) (x0 x1 : Int) (x7 : Value) (x8 : Int) (x9 : Value) (x10 : Int) (H : AHeap) : Prop :=
  N4 x0 x1 x7 x8 x9 (IntKind.i64.wrap (x10 + 1)) H
theorem q5 (P : PT) (N2 : NTy k1 Pr) (N4 : NTy k2 Pr) : QB Tryz.prog T0 45 o5 (En 45 k2 N4) k2 (B5 P N2 N4) := fun _ _ _ _ _ _ _ _  => by kernel_rfl
noncomputable def o6 := ob Tryz.f86 [.r,.r,.r,.l,.r,.l,.l,.r,.l,.l,.r,.r,.l,.l,.r,.l,.l]
def B6 (P : PT) (N2 : NTy k1 Pr) (N4 : NTy k2 Pr) (x0 x1 : Int) (x7 : Value) (x8 : Int) (x9 : Value) (x10 : Int) (H : AHeap) : Prop :=
  newK H [(Value.int .i64 x8)] 2 (fun b1 H2 => idxK x9 x10 1 (fun b3 o4 => ld1 H2 b3 o4 (fun v5 => apK T0 2 H2 (Value.slice (some ⟨b1, 0, none⟩) 1 (1 + 1)) v5 (fun v6 H7 => pif (Value.oneCell' v6) (newK H7 [v6] 28 (fun b8 H9 => apK T0 28 H9 x7 (Value.slice (some ⟨b8, 0, none⟩) 1 (1 + 1)) (fun v10 H11 => B5 P N2 N4 x0 x1 v10 x8 x9 x10 H11))) False))))
theorem q6 (P : PT) (N2 : NTy k1 Pr) (N4 : NTy k2 Pr) : QB Tryz.prog T0 45 o6 (En 45 k2 (B5 P N2 N4)) k2 (B6 P N2 N4) := fun _ _ _ _ _ _ _ _  => by kernel_rfl
noncomputable def o7 := ob Tryz.f86 [.r,.r,.r,.l,.r,.l,.l,.r,.l,.l,.r,.r,.l,.l,.l,.l]
def B7 (P : PT) (N2 : NTy k1 Pr) (N4 : NTy k2 Pr) (x0 x1 : Int) (x7 : Value) (x8 : Int) (x9 : Value) (x10 : Int) (H : AHeap) : Prop :=
  lenK x9 (fun n1 => pif (decide ((x10 : Int) < (n1 : Int))) (B6 P N2 N4 x0 x1 x7 x8 x9 x10 H) (B3 P N2 x0 x1 x7 x8 H))
theorem q7 (P : PT) (N2 : NTy k1 Pr) (N4 : NTy k2 Pr) : QB Tryz.prog T0 45 o7 (cnd 31 (En 45 k2 (B6 P N2 N4)) (En 45 k1 (B3 P N2))) k2 (B7 P N2 N4) := fun _ _ _ _ _ _ _ _  => by kernel_rfl
def L4 (P : PT) (N2 : NTy k1 Pr) (x0 x1 : Int) (x7 : Value) (x8 : Int) (x9 : Value) (x10 : Int) (H : AHeap) : Prop :=
  ∃ (I : NTy k2 Pr) (μ : NTy k2 (AHeap → Nat)), I x0 x1 x7 x8 x9 x10 H ∧ ∀ y0 y1 y7 y8 y9 y10 G, I y0 y1 y7 y8 y9 y10 G → B7 P N2 (fun z0 z1 z7 z8 z9 z10 G' => I z0 z1 z7 z8 z9 z10 G' ∧ μ z0 z1 z7 z8 z9 z10 G' < μ y0 y1 y7 y8 y9 y10 G) y0 y1 y7 y8 y9 y10 G
theorem l4 (P : PT) (N2 : NTy k1 Pr) : LQ k2 (L4 P N2) (B7 P N2) := fun ⟨_,_,_,_,_,_,_⟩ _ ⟨I, μ, h0, hI⟩ => ⟨apT _ I, apT _ μ, h0, fun ⟨_,_,_,_,_,_,_⟩ _ h => hI _ _ _ _ _ _ _  h⟩
abbrev k3 : Sk := [(0,.i .i64),(1,.i .i64),(7,.v),(8,.i .i64),(9,.v)]
noncomputable def o8 := ob Tryz.f86 [.r,.r,.r,.l,.r,.l,.l,.r,.l,.l,.r,.l]
def B8 (P : PT) (N2 : NTy k1 Pr) (x0 x1 : Int) (x7 : Value) (x8 : Int) (x9 : Value) (H : AHeap) : Prop :=
  L4 P N2 x0 x1 x7 x8 x9 0 H
theorem q8 (P : PT) (N2 : NTy k1 Pr) : QB Tryz.prog T0 45 o8 (En 45 k2 (L4 P N2)) k3 (B8 P N2) := fun _ _ _ _ _ _ _  => by kernel_rfl
noncomputable def o9 := ob Tryz.f86 [.r,.r,.r,.l,.r,.l,.l,.r,.l,.l,.l]
def B9 (P : PT) (N2 : NTy k1 Pr) (x0 x1 : Int) (x7 : Value) (x8 : Int) (H : AHeap) : Prop :=
  AC Tryz.prog T0 86 [(Value.int .i64 x0), (Value.int .i64 (IntKind.i64.wrap (x1 - 1))), (Value.int .i64 (IntKind.i64.wrap (x8 + 1)))] H (fun v1 H2 => B8 P N2 x0 x1 x7 x8 v1 H2)
theorem q9 (P : PT) (N2 : NTy k1 Pr) : QB Tryz.prog T0 45 o9 (En 45 k3 (B8 P N2)) k1 (B9 P N2) := fun _ _ _ _ _ _  => by kernel_rfl
noncomputable def o10 := ob Tryz.f86 [.r,.r,.r,.l,.r,.l,.l,.l,.l]
def B10 (P : PT) (N2 : NTy k1 Pr) (x0 x1 : Int) (x7 : Value) (x8 : Int) (H : AHeap) : Prop :=
  pif (decide ((x8 : Int) < x0)) (B9 P N2 x0 x1 x7 x8 H) (B1 P x7 H)
theorem q10 (P : PT) (N2 : NTy k1 Pr) : QB Tryz.prog T0 45 o10 (cnd 19 (En 45 k1 (B9 P N2)) (En 45 k0 (B1 P))) k1 (B10 P N2) := fun _ _ _ _ _ _  => by kernel_rfl
def L2 (P : PT) (x0 x1 : Int) (x7 : Value) (x8 : Int) (H : AHeap) : Prop :=
  ∃ (I : NTy k1 Pr) (μ : NTy k1 (AHeap → Nat)), I x0 x1 x7 x8 H ∧ ∀ y0 y1 y7 y8 G, I y0 y1 y7 y8 G → B10 P (fun z0 z1 z7 z8 G' => I z0 z1 z7 z8 G' ∧ μ z0 z1 z7 z8 G' < μ y0 y1 y7 y8 G) y0 y1 y7 y8 G
theorem l2 (P : PT) : LQ k1 (L2 P) (B10 P) := fun ⟨_,_,_,_,_⟩ _ ⟨I, μ, h0, hI⟩ => ⟨apT _ I, apT _ μ, h0, fun ⟨_,_,_,_,_⟩ _ h => hI _ _ _ _ _  h⟩
abbrev k4 : Sk := [(0,.i .i64),(1,.i .i64),(2,.i .i64),(7,.v)]
noncomputable def o11 := ob Tryz.f86 [.r,.r,.r,.l,.l]
def B11 (P : PT) (x0 x1 x2 : Int) (x7 : Value) (H : AHeap) : Prop :=
  L2 P x0 x1 x7 x2 H
theorem q11 (P : PT) : QB Tryz.prog T0 45 o11 (En 45 k1 (L2 P)) k4 (B11 P) := fun _ _ _ _ _ _  => by kernel_rfl
abbrev k5 : Sk := [(0,.i .i64),(1,.i .i64),(2,.i .i64)]
noncomputable def o12 := ob Tryz.f86 [.r,.r,.l]
def B12 (P : PT) (x0 x1 x2 : Int) (H : AHeap) : Prop :=
  newK H [] 28 (fun b1 H2 => B11 P x0 x1 x2 (Value.slice (some ⟨b1, 0, none⟩) 0 (0 + 1)) H2)
theorem q12 (P : PT) : QB Tryz.prog T0 45 o12 (En 45 k4 (B11 P)) k5 (B12 P) := fun _ _ _ _ _  => by kernel_rfl
abbrev k6 : Sk := []
noncomputable def o13 := ob Tryz.f86 [.r,.l,.r,.l,.l]
def B13 (P : PT) (H : AHeap) : Prop :=
  newK H [] 2 (fun b1 H2 => newK H2 [(Value.slice (some ⟨b1, 0, none⟩) 0 (0 + 1))] 28 (fun b3 H4 => P (Value.slice (some ⟨b3, 0, none⟩) 1 (1 + 1)) H4))
theorem q13 (P : PT) : QB Tryz.prog T0 45 o13 (ret P) k6 (B13 P) := fun _ _  => by kernel_rfl
noncomputable def o14 := ob Tryz.f86 [.r,.l,.l]
def B14 (P : PT) (x0 x1 x2 : Int) (H : AHeap) : Prop :=
  pif ((x1 : Int) == 0) (B13 P H) (B12 P x0 x1 x2 H)
theorem q14 (P : PT) : QB Tryz.prog T0 45 o14 (cnd 12 (En 45 k6 (B13 P)) (En 45 k5 (B12 P))) k5 (B14 P) := fun _ _ _ _ _  => by kernel_rfl
noncomputable def o15 := ob Tryz.f86 [.l]
def B15 (P : PT) (x0 x1 x2 : Int) (H : AHeap) : Prop :=
  B14 P x0 x1 x2 H
theorem q15 (P : PT) : QB Tryz.prog T0 45 o15 (En 45 k5 (B14 P)) k5 (B15 P) := fun _ _ _ _ _  => by kernel_rfl
noncomputable def code : Code := (.seq (.region 0 ⟨o15⟩ false) (.seq (.seq (.region 1 ⟨o14⟩ false) (.cond (.tmp 12) (.seq (.region 2 ⟨o13⟩ false) .ret) .skip)) (.seq (.region 3 ⟨o12⟩ false) (.seq (.seq (.region 4 ⟨o11⟩ false) (.block 0 (.loop (.seq (.seq (.region 5 ⟨o10⟩ false) (.cond (.tmp 19) .skip (.exit 0))) (.seq (.block 1 (.seq (.region 7 ⟨o9⟩ false) (.seq (.region 8 ⟨o8⟩ false) (.block 2 (.loop (.seq (.seq (.region 9 ⟨o7⟩ false) (.cond (.tmp 31) .skip (.exit 2))) (.seq (.block 3 (.region 11 ⟨o6⟩ false)) (.region 10 ⟨o5⟩ false)))))))) (.region 6 ⟨o3⟩ false)))))) (.seq (.region 12 ⟨o1⟩ false) .ret)))))
theorem body : Tryz.f86.body = some code := by kernel_rfl
theorem main (P : PT) : ∀ env H, (En 45 k5 (B15 P)) env H → AW Tryz.prog T0 code env H (mkQ (ret P) (fun _ _ _ => False) (ret P)) :=
  (r_seq (rB T0_ok (q15 P)) (r_seq (r_seq (rB T0_ok (q14 P)) (r_cond rfl (r_seq (rB T0_ok (q13 P)) r_ret) r_skip)) (r_seq (rB T0_ok (q12 P)) (r_seq (r_seq (rB T0_ok (q11 P)) (r_block (rL (l2 P) (fun N2 => (r_seq (r_seq (rB T0_ok (q10 P N2)) (r_cond rfl r_skip (r_exit (fun _ _ h => h)))) (r_seq (r_block (r_seq (rB T0_ok (q9 P N2)) (r_seq (rB T0_ok (q8 P N2)) (r_block (rL (l4 P N2) (fun N4 => (r_seq (r_seq (rB T0_ok (q7 P N2 N4)) (r_cond rfl r_skip (r_exit (fun _ _ h => h)))) (r_seq (r_block (rB T0_ok (q6 P N2 N4))) (rB T0_ok (q5 P N2 N4)))))))))) (rB T0_ok (q3 P N2)))))))) (r_seq (rB T0_ok (q1 P)) r_ret)))))
theorem ac (P : PT) (x0 x1 x2 : Int) (H : AHeap) (h : B15 P x0 x1 x2 H) : AC Tryz.prog T0 86 [(Value.int .i64 x0), (Value.int .i64 x1), (Value.int .i64 x2)] H P :=
  r_fn T0_ok (c := code) (n := 45) Tryz.func86 body (by kernel_rfl) (main P) (En_mk (x0, x1, x2, ()) (by kernel_rfl) ⟨by kernel_rfl, by kernel_rfl, by kernel_rfl, trivial⟩ h)

end F86
-- loop.example/g01329/spec.l03Bond
namespace F87
noncomputable def ret (P : PT) : EP := retE T0 63 Tryz.f87 P
abbrev k0 : Sk := [(2,.x),(6,.i .i64)]
noncomputable def o1 := ob Tryz.f87 [.r,.r,.r,.r,.l]
def B1 (P : PT) (x2 : Nat) (x6 : Int) (H : AHeap) : Prop :=
  ldI .i64 H x2 0 (fun v1 => ld1 H x2 1 (fun v2 => AC Tryz.prog T0 92 [(Value.int .i64 v1), v2] H (fun v3 H4 => asI .i64 v3 (fun v5 => P (Value.bool ((x6 : Int) == (IntKind.i64.wrap (v5 + 1)))) H4))))
theorem q1 (P : PT) : QB Tryz.prog T0 63 o1 (ret P) k0 (B1 P) := fun _ _ _ _  => by kernel_rfl
abbrev k1 : Sk := [(1,.v),(2,.x),(5,.v),(6,.i .i64),(8,.i .i64)]
noncomputable def o3 := ob Tryz.f87 [.r,.r,.r,.l,.r,.l,.l,.r,.r]
def B3 (P : PT) (N2 : NTy k1 Pr) (x1 : Value) (x2 : Nat) (x5 : Value) (x6 x8 : Int) (H : AHeap) : Prop :=
  N2 x1 x2 x5 x6 (IntKind.i64.wrap (x8 + 1)) H
theorem q3 (P : PT) (N2 : NTy k1 Pr) : QB Tryz.prog T0 63 o3 (En 63 k1 N2) k1 (B3 P N2) := fun _ _ _ _ _ _ _  => by kernel_rfl
abbrev k2 : Sk := []
noncomputable def o4 := ob Tryz.f87 [.r,.r,.r,.l,.r,.l,.l,.r,.l,.l,.r,.r,.l,.l]
def B4 (P : PT) (N2 : NTy k1 Pr) (H : AHeap) : Prop :=
  P (Value.bool false) H
theorem q4 (P : PT) (N2 : NTy k1 Pr) : QB Tryz.prog T0 63 o4 (ret P) k2 (B4 P N2) := fun _ _  => by kernel_rfl
abbrev k3 : Sk := [(1,.v),(2,.x),(5,.v),(6,.i .i64),(8,.i .i64),(9,.x)]
noncomputable def o5 := ob Tryz.f87 [.r,.r,.r,.l,.r,.l,.l,.r,.l,.l,.r,.l]
def B5 (P : PT) (N2 : NTy k1 Pr) (x1 : Value) (x2 : Nat) (x5 : Value) (x6 x8 : Int) (x9 : Nat) (H : AHeap) : Prop :=
  ldI .i64 H x9 0 (fun v1 => idxK x5 v1 1 (fun b2 o3 => ldI .i64 H b2 o3 (fun v4 => ldI .i64 H x9 1 (fun v5 => idxK x5 v5 1 (fun b6 o7 => ldI .i64 H b6 o7 (fun v8 => pif ((v4 : Int) == v8) (B4 P N2 H) (B3 P N2 x1 x2 x5 x6 x8 H)))))))
theorem q5 (P : PT) (N2 : NTy k1 Pr) : QD Tryz.prog T0 63 o5 [(0, false), (1, false), (2, false), (3, false), (4, false), (5, false), (6, false), (7, false), (8, false), (9, false), (10, false)] (cnd 54 (En 63 k2 (B4 P N2)) (En 63 k1 (B3 P N2))) k3 (B5 P N2) := fun _ _ _ _ _ _ _ _  => by kernel_rfl
noncomputable def o6 := ob Tryz.f87 [.r,.r,.r,.l,.r,.l,.l,.r,.l,.l,.l]
def B6 (P : PT) (N2 : NTy k1 Pr) (x1 : Value) (x2 : Nat) (x5 : Value) (x6 x8 : Int) (H : AHeap) : Prop :=
  ld1 H x2 1 (fun v1 => idxK x1 x8 1 (fun b2 o3 => ldI .i64 H b2 o3 (fun v4 => idxK v1 v4 2 (fun b5 o6 => ldI .i64 H b5 o6 (fun v7 => ldI .i64 H b5 (o6 + 1) (fun v8 => newK H [(Value.int .i64 0), (Value.int .i64 0)] 78 (fun b9 H10 => stK H10 b9 0 [(Value.int .i64 v7), (Value.int .i64 v8)] (fun H11 => B5 P N2 x1 x2 x5 x6 x8 b9 H11))))))))
theorem q6 (P : PT) (N2 : NTy k1 Pr) : QD Tryz.prog T0 63 o6 [(0, false), (1, false), (2, false), (3, false), (4, false), (5, false), (6, false), (7, false), (8, false), (9, false)] (En 63 k3 (B5 P N2)) k1 (B6 P N2) := fun _ _ _ _ _ _ _  => by kernel_rfl
noncomputable def o7 := ob Tryz.f87 [.r,.r,.r,.l,.r,.l,.l,.l,.l]
def B7 (P : PT) (N2 : NTy k1 Pr) (x1 : Value) (x2 : Nat) (x5 : Value) (x6 x8 : Int) (H : AHeap) : Prop :=
  lenK x1 (fun n1 => pif (decide ((x8 : Int) < (n1 : Int))) (B6 P N2 x1 x2 x5 x6 x8 H) (B1 P x2 x6 H))
theorem q7 (P : PT) (N2 : NTy k1 Pr) : QB Tryz.prog T0 63 o7 (cnd 33 (En 63 k1 (B6 P N2)) (En 63 k0 (B1 P))) k1 (B7 P N2) := fun _ _ _ _ _ _ _  => by kernel_rfl
def L2 (P : PT) (x1 : Value) (x2 : Nat) (x5 : Value) (x6 x8 : Int) (H : AHeap) : Prop :=
  ∃ (I : NTy k1 Pr) (μ : NTy k1 (AHeap → Nat)), I x1 x2 x5 x6 x8 H ∧ ∀ y1 y2 y5 y6 y8 G, I y1 y2 y5 y6 y8 G → B7 P (fun z1 z2 z5 z6 z8 G' => I z1 z2 z5 z6 z8 G' ∧ μ z1 z2 z5 z6 z8 G' < μ y1 y2 y5 y6 y8 G) y1 y2 y5 y6 y8 G
theorem l2 (P : PT) : LQ k1 (L2 P) (B7 P) := fun ⟨_,_,_,_,_,_⟩ _ ⟨I, μ, h0, hI⟩ => ⟨apT _ I, apT _ μ, h0, fun ⟨_,_,_,_,_,_⟩ _ h => hI _ _ _ _ _ _  h⟩
abbrev k4 : Sk := [(1,.v),(2,.x),(5,.v),(6,.i .i64)]
noncomputable def o8 := ob Tryz.f87 [.r,.r,.r,.l,.l]
def B8 (P : PT) (x1 : Value) (x2 : Nat) (x5 : Value) (x6 : Int) (H : AHeap) : Prop :=
  L2 P x1 x2 x5 x6 0 H
theorem q8 (P : PT) : QB Tryz.prog T0 63 o8 (En 63 k1 (L2 P)) k4 (B8 P) := fun _ _ _ _ _ _  => by kernel_rfl
abbrev k5 : Sk := [(1,.v),(2,.x),(5,.v),(6,.i .i64),(7,.i .i64)]
noncomputable def o10 := ob Tryz.f87 [.r,.r,.l,.r,.l,.l,.r,.r]
def B10 (P : PT) (N9 : NTy k5 Pr) (x1 : Value) (x2 : Nat) (x5 : Value) (x6 x7 : Int) (H : AHeap) : Prop :=
  N9 x1 x2 x5 x6 (IntKind.i64.wrap (x7 + 1)) H
theorem q10 (P : PT) (N9 : NTy k5 Pr) : QB Tryz.prog T0 63 o10 (En 63 k5 N9) k5 (B10 P N9) := fun _ _ _ _ _ _ _  => by kernel_rfl
noncomputable def o11 := ob Tryz.f87 [.r,.r,.l,.r,.l,.l,.r,.l,.l,.r,.l]
def B11 (P : PT) (N9 : NTy k5 Pr) (x1 : Value) (x2 : Nat) (x5 : Value) (x6 x7 : Int) (H : AHeap) : Prop :=
  B10 P N9 x1 x2 x5 (IntKind.i64.wrap (x6 + 1)) x7 H
theorem q11 (P : PT) (N9 : NTy k5 Pr) : QB Tryz.prog T0 63 o11 (En 63 k5 (B10 P N9)) k5 (B11 P N9) := fun _ _ _ _ _ _ _  => by kernel_rfl
noncomputable def o12 := ob Tryz.f87 [.r,.r,.l,.r,.l,.l,.r,.l,.l,.l]
def B12 (P : PT) (N9 : NTy k5 Pr) (x1 : Value) (x2 : Nat) (x5 : Value) (x6 x7 : Int) (H : AHeap) : Prop :=
  idxK x5 x7 1 (fun b1 o2 => ldI .i64 H b1 o2 (fun v3 => pif ((v3 : Int) == x7) (B11 P N9 x1 x2 x5 x6 x7 H) (B10 P N9 x1 x2 x5 x6 x7 H)))
theorem q12 (P : PT) (N9 : NTy k5 Pr) : QB Tryz.prog T0 63 o12 (cnd 27 (En 63 k5 (B11 P N9)) (En 63 k5 (B10 P N9))) k5 (B12 P N9) := fun _ _ _ _ _ _ _  => by kernel_rfl
noncomputable def o13 := ob Tryz.f87 [.r,.r,.l,.r,.l,.l,.l,.l]
def B13 (P : PT) (N9 : NTy k5 Pr) (x1 : Value) (x2 : Nat) (x5 : Value) (x6 x7 : Int) (H : AHeap) : Prop :=
  ldI .i64 H x2 0 (fun v1 => pif (decide ((x7 : Int) < v1)) (B12 P N9 x1 x2 x5 x6 x7 H) (B8 P x1 x2 x5 x6 H))
theorem q13 (P : PT) (N9 : NTy k5 Pr) : QB Tryz.prog T0 63 o13 (cnd 19 (En 63 k5 (B12 P N9)) (En 63 k4 (B8 P))) k5 (B13 P N9) := fun _ _ _ _ _ _ _  => by kernel_rfl
def L9 (P : PT) (x1 : Value) (x2 : Nat) (x5 : Value) (x6 x7 : Int) (H : AHeap) : Prop :=
  ∃ (I : NTy k5 Pr) (μ : NTy k5 (AHeap → Nat)), I x1 x2 x5 x6 x7 H ∧ ∀ y1 y2 y5 y6 y7 G, I y1 y2 y5 y6 y7 G → B13 P (fun z1 z2 z5 z6 z7 G' => I z1 z2 z5 z6 z7 G' ∧ μ z1 z2 z5 z6 z7 G' < μ y1 y2 y5 y6 y7 G) y1 y2 y5 y6 y7 G
theorem l9 (P : PT) : LQ k5 (L9 P) (B13 P) := fun ⟨_,_,_,_,_,_⟩ _ ⟨I, μ, h0, hI⟩ => ⟨apT _ I, apT _ μ, h0, fun ⟨_,_,_,_,_,_⟩ _ h => hI _ _ _ _ _ _  h⟩
noncomputable def o14 := ob Tryz.f87 [.r,.r,.l,.l]
def B14 (P : PT) (x1 : Value) (x2 : Nat) (x5 : Value) (x6 : Int) (H : AHeap) : Prop :=
  L9 P x1 x2 x5 x6 0 H
theorem q14 (P : PT) : QB Tryz.prog T0 63 o14 (En 63 k5 (L9 P)) k4 (B14 P) := fun _ _ _ _ _ _  => by kernel_rfl
abbrev k6 : Sk := [(1,.v),(2,.x)]
noncomputable def o15 := ob Tryz.f87 [.r,.l]
def B15 (P : PT) (x1 : Value) (x2 : Nat) (H : AHeap) : Prop :=
  ldI .i64 H x2 0 (fun v1 => ldI .i64 H x2 0 (fun v2 => ld1 H x2 1 (fun v3 => AC Tryz.prog T0 93 [(Value.agg ⟨[(Value.int .i64 v2), v3]⟩), x1] H (fun v4 H5 => (AHeap.le H H5) ∧ (AC Tryz.prog T0 105 [(Value.int .i64 v1), v4] H5 (fun v7 H8 => B14 P x1 x2 v7 0 H8))))))
theorem q15 (P : PT) : QD Tryz.prog T0 63 o15 [(0, false), (1, false), (2, false), (3, false), (4, true), (5, false), (6, false), (7, false)] (En 63 k4 (B14 P)) k6 (B15 P) := fun _ _ _ _  => by kernel_rfl
abbrev k7 : Sk := [(0,.g [.i,.v]),(1,.v)]
noncomputable def o16 := ob Tryz.f87 [.l]
def B16 (P : PT) (x0a : Int) (x0b x1 : Value) (H : AHeap) : Prop :=
  newK H [(Value.int .i64 x0a), x0b] 26 (fun b1 H2 => B15 P x1 b1 H2)
theorem q16 (P : PT) : QB Tryz.prog T0 63 o16 (En 63 k6 (B15 P)) k7 (B16 P) := fun _ _ _ _ _  => by kernel_rfl
noncomputable def code : Code := (.seq (.region 0 ⟨o16⟩ false) (.seq (.region 1 ⟨o15⟩ true) (.seq (.seq (.region 2 ⟨o14⟩ false) (.block 0 (.loop (.seq (.seq (.region 3 ⟨o13⟩ false) (.cond (.tmp 19) .skip (.exit 0))) (.seq (.block 1 (.seq (.region 5 ⟨o12⟩ false) (.cond (.tmp 27) (.region 6 ⟨o11⟩ false) .skip))) (.region 4 ⟨o10⟩ false)))))) (.seq (.seq (.region 7 ⟨o8⟩ false) (.block 2 (.loop (.seq (.seq (.region 8 ⟨o7⟩ false) (.cond (.tmp 33) .skip (.exit 2))) (.seq (.block 3 (.seq (.region 10 ⟨o6⟩ true) (.seq (.region 11 ⟨o5⟩ true) (.cond (.tmp 54) (.seq (.region 12 ⟨o4⟩ false) .ret) .skip)))) (.region 9 ⟨o3⟩ false)))))) (.seq (.region 13 ⟨o1⟩ false) .ret)))))
theorem body : Tryz.f87.body = some code := by kernel_rfl
theorem main (P : PT) : ∀ env H, (En 63 k7 (B16 P)) env H → AW Tryz.prog T0 code env H (mkQ (ret P) (fun _ _ _ => False) (ret P)) :=
  (r_seq (rB T0_ok (q16 P)) (r_seq (rD T0_ok mixed [(0, false), (1, false), (2, false), (3, false), (4, true), (5, false), (6, false), (7, false)] (by kernel_rfl) (q15 P)) (r_seq (r_seq (rB T0_ok (q14 P)) (r_block (rL (l9 P) (fun N9 => (r_seq (r_seq (rB T0_ok (q13 P N9)) (r_cond rfl r_skip (r_exit (fun _ _ h => h)))) (r_seq (r_block (r_seq (rB T0_ok (q12 P N9)) (r_cond rfl (rB T0_ok (q11 P N9)) r_skip))) (rB T0_ok (q10 P N9)))))))) (r_seq (r_seq (rB T0_ok (q8 P)) (r_block (rL (l2 P) (fun N2 => (r_seq (r_seq (rB T0_ok (q7 P N2)) (r_cond rfl r_skip (r_exit (fun _ _ h => h)))) (r_seq (r_block (r_seq (rD T0_ok mixed [(0, false), (1, false), (2, false), (3, false), (4, false), (5, false), (6, false), (7, false), (8, false), (9, false)] (by kernel_rfl) (q6 P N2)) (r_seq (rD T0_ok mixed [(0, false), (1, false), (2, false), (3, false), (4, false), (5, false), (6, false), (7, false), (8, false), (9, false), (10, false)] (by kernel_rfl) (q5 P N2)) (r_cond rfl (r_seq (rB T0_ok (q4 P N2)) r_ret) r_skip)))) (rB T0_ok (q3 P N2)))))))) (r_seq (rB T0_ok (q1 P)) r_ret)))))
theorem ac (P : PT) (x0a : Int) (x0b x1 : Value) (H : AHeap) (h : B16 P x0a x0b x1 H) : AC Tryz.prog T0 87 [(Value.agg ⟨[(Value.int .i64 x0a), x0b]⟩), x1] H P :=
  r_fn T0_ok (c := code) (n := 63) Tryz.func87 body (by kernel_rfl) (main P) (En_mk (x0a, x0b, x1, ()) (by kernel_rfl) ⟨by kernel_rfl, by kernel_rfl, trivial⟩ h)

end F87
-- loop.example/g01329/impl.edgesCode
namespace F88
noncomputable def ret (P : PT) : EP := retE T0 12 Tryz.f88 P
abbrev k0 : Sk := [(1,.v),(2,.x)]
noncomputable def o1 := ob Tryz.f88 [.r,.l]
def B1 (P : PT) (x1 : Value) (x2 : Nat) (H : AHeap) : Prop :=
  ldI .i64 H x2 0 (fun v1 => ld1 H x2 1 (fun v2 => ld1 H x2 1 (fun v3 => AC Tryz.prog T0 73 [v3] H (fun v4 H5 => asI .i64 v4 (fun v6 => (AHeap.le H H5) ∧ (AC Tryz.prog T0 98 [x1, (Value.int .i64 v6)] H5 (fun v7 H8 => asB v7 (fun v9 => (AHeap.le H5 H8) ∧ (AC Tryz.prog T0 72 [(Value.agg ⟨[(Value.int .i64 v1), v2]⟩), (Value.bool v9)] H8 (fun v10 H11 => asI .i64 v10 (fun v12 => P (Value.int .i64 v12) H11)))))))))))
theorem q1 (P : PT) : QD Tryz.prog T0 12 o1 [(0, false), (1, false), (2, false), (3, false), (4, true), (5, true), (6, false), (7, false)] (ret P) k0 (B1 P) := fun _ _ _ _  => by kernel_rfl
abbrev k1 : Sk := [(0,.g [.i,.v]),(1,.v)]
noncomputable def o2 := ob Tryz.f88 [.l]
def B2 (P : PT) (x0a : Int) (x0b x1 : Value) (H : AHeap) : Prop :=
  newK H [(Value.int .i64 x0a), x0b] 26 (fun b1 H2 => B1 P x1 b1 H2)
theorem q2 (P : PT) : QB Tryz.prog T0 12 o2 (En 12 k0 (B1 P)) k1 (B2 P) := fun _ _ _ _ _  => by kernel_rfl
noncomputable def code : Code := (.seq (.region 0 ⟨o2⟩ false) (.seq (.region 1 ⟨o1⟩ true) .ret))
theorem body : Tryz.f88.body = some code := by kernel_rfl
theorem main (P : PT) : ∀ env H, (En 12 k1 (B2 P)) env H → AW Tryz.prog T0 code env H (mkQ (ret P) (fun _ _ _ => False) (ret P)) :=
  (r_seq (rB T0_ok (q2 P)) (r_seq (rD T0_ok mixed [(0, false), (1, false), (2, false), (3, false), (4, true), (5, true), (6, false), (7, false)] (by kernel_rfl) (q1 P)) r_ret))
theorem ac (P : PT) (x0a : Int) (x0b x1 : Value) (H : AHeap) (h : B2 P x0a x0b x1 H) : AC Tryz.prog T0 88 [(Value.agg ⟨[(Value.int .i64 x0a), x0b]⟩), x1] H P :=
  r_fn T0_ok (c := code) (n := 12) Tryz.func88 body (by kernel_rfl) (main P) (En_mk (x0a, x0b, x1, ()) (by kernel_rfl) ⟨by kernel_rfl, by kernel_rfl, trivial⟩ h)

end F88
-- loop.example/g01329/impl.setOf
namespace F89
noncomputable def ret (P : PT) : EP := retE T0 18 Tryz.f89 P
abbrev k0 : Sk := [(3,.i .u64)]
noncomputable def o1 := ob Tryz.f89 [.r,.r,.r,.l]
def B1 (P : PT) (x3 : Int) (H : AHeap) : Prop :=
  P (Value.int .u64 x3) H
theorem q1 (P : PT) : QB Tryz.prog T0 18 o1 (ret P) k0 (B1 P) := fun _ _ _  => by kernel_rfl
abbrev k1 : Sk := [(3,.i .u64),(6,.v),(7,.i .i64),(8,.i .i64)]
noncomputable def o3 := ob Tryz.f89 [.r,.r,.l,.r,.l,.l,.r,.r,.r]
def B3 (P : PT) (N2 : NTy k1 Pr) (x3 : Int) (x6 : Value) (x7 x8 : Int) (H : AHeap) : Prop :=
  N2 x3 x6 x7 (IntKind.i64.wrap (x8 + 1)) H
theorem q3 (P : PT) (N2 : NTy k1 Pr) : QB Tryz.prog T0 18 o3 (En 18 k1 N2) k1 (B3 P N2) := fun _ _ _ _ _ _  => by kernel_rfl
abbrev k2 : Sk := [(3,.i .u64),(5,.i .i64),(6,.v),(7,.i .i64),(8,.i .i64)]
noncomputable def o4 := ob Tryz.f89 [.r,.r,.l,.r,.l,.l,.r,.r,.l,.l,.r]
def B4 (P : PT) (N2 : NTy k1 Pr) (x3 x5 : Int) (x6 : Value) (x7 x8 : Int) (H : AHeap) : Prop :=
  ((0 : Int) ≤ x5) ∧ (B3 P N2 (IntKind.u64.wrap (BitVec.ofInt 64 x3 ||| BitVec.ofInt 64 (IntKind.u64.wrap (1 * 2 ^ (min (Int.toNat x5) 64)))).toNat) x6 x7 x8 H)
theorem q4 (P : PT) (N2 : NTy k1 Pr) : QB Tryz.prog T0 18 o4 (En 18 k1 (B3 P N2)) k2 (B4 P N2) := fun _ _ _ _ _ _ _  => by kernel_rfl
noncomputable def o5 := ob Tryz.f89 [.r,.r,.l,.r,.l,.l,.r,.r,.l,.l,.l]
def B5 (P : PT) (N2 : NTy k1 Pr) (x3 : Int) (x6 : Value) (x7 x8 : Int) (H : AHeap) : Prop :=
  idxK x6 x8 1 (fun b1 o2 => ldI .i64 H b1 o2 (fun v3 => B4 P N2 x3 v3 x6 x7 x8 H))
theorem q5 (P : PT) (N2 : NTy k1 Pr) : QB Tryz.prog T0 18 o5 (En 18 k2 (B4 P N2)) k1 (B5 P N2) := fun _ _ _ _ _ _  => by kernel_rfl
noncomputable def o6 := ob Tryz.f89 [.r,.r,.l,.r,.l,.l,.l]
def B6 (P : PT) (N2 : NTy k1 Pr) (x3 : Int) (x6 : Value) (x7 x8 : Int) (H : AHeap) : Prop :=
  pif (decide ((x8 : Int) < x7)) (B5 P N2 x3 x6 x7 x8 H) (B1 P x3 H)
theorem q6 (P : PT) (N2 : NTy k1 Pr) : QB Tryz.prog T0 18 o6 (cnd 9 (En 18 k1 (B5 P N2)) (En 18 k0 (B1 P))) k1 (B6 P N2) := fun _ _ _ _ _ _  => by kernel_rfl
def L2 (P : PT) (x3 : Int) (x6 : Value) (x7 x8 : Int) (H : AHeap) : Prop :=
  ∃ (I : NTy k1 Pr) (μ : NTy k1 (AHeap → Nat)), I x3 x6 x7 x8 H ∧ ∀ y3 y6 y7 y8 G, I y3 y6 y7 y8 G → B6 P (fun z3 z6 z7 z8 G' => I z3 z6 z7 z8 G' ∧ μ z3 z6 z7 z8 G' < μ y3 y6 y7 y8 G) y3 y6 y7 y8 G
theorem l2 (P : PT) : LQ k1 (L2 P) (B6 P) := fun ⟨_,_,_,_,_⟩ _ ⟨I, μ, h0, hI⟩ => ⟨apT _ I, apT _ μ, h0, fun ⟨_,_,_,_,_⟩ _ h => hI _ _ _ _ _  h⟩
abbrev k3 : Sk := [(0,.v),(3,.i .u64)]
noncomputable def o7 := ob Tryz.f89 [.r,.r,.l,.l]
def B7 (P : PT) (x0 : Value) (x3 : Int) (H : AHeap) : Prop :=
  lenK x0 (fun n1 => L2 P x3 x0 (n1 : Int) 0 H)
theorem q7 (P : PT) : QB Tryz.prog T0 18 o7 (En 18 k1 (L2 P)) k3 (B7 P) := fun _ _ _ _  => by kernel_rfl
abbrev k4 : Sk := [(0,.v)]
noncomputable def o8 := ob Tryz.f89 [.r,.l]
def B8 (P : PT) (x0 : Value) (H : AHeap) : Prop :=
  B7 P x0 0 H
theorem q8 (P : PT) : QB Tryz.prog T0 18 o8 (En 18 k3 (B7 P)) k4 (B8 P) := fun _ _ _  => by kernel_rfl
noncomputable def o9 := ob Tryz.f89 [.l]
def B9 (P : PT) (x0 : Value) (H : AHeap) : Prop :=
  B8 P x0 H
theorem q9 (P : PT) : QB Tryz.prog T0 18 o9 (En 18 k4 (B8 P)) k4 (B9 P) := fun _ _ _  => by kernel_rfl
noncomputable def code : Code := (.seq (.region 0 ⟨o9⟩ false) (.seq (.region 1 ⟨o8⟩ false) (.seq (.seq (.region 2 ⟨o7⟩ false) (.block 0 (.loop (.seq (.region 3 ⟨o6⟩ false) (.seq (.cond (.tmp 9) .skip (.exit 0)) (.seq (.block 1 (.seq (.region 4 ⟨o5⟩ false) (.region 5 ⟨o4⟩ false))) (.region 6 ⟨o3⟩ false))))))) (.seq (.region 7 ⟨o1⟩ false) .ret))))
theorem body : Tryz.f89.body = some code := by kernel_rfl
theorem main (P : PT) : ∀ env H, (En 18 k4 (B9 P)) env H → AW Tryz.prog T0 code env H (mkQ (ret P) (fun _ _ _ => False) (ret P)) :=
  (r_seq (rB T0_ok (q9 P)) (r_seq (rB T0_ok (q8 P)) (r_seq (r_seq (rB T0_ok (q7 P)) (r_block (rL (l2 P) (fun N2 => (r_seq (rB T0_ok (q6 P N2)) (r_seq (r_cond rfl r_skip (r_exit (fun _ _ h => h))) (r_seq (r_block (r_seq (rB T0_ok (q5 P N2)) (rB T0_ok (q4 P N2)))) (rB T0_ok (q3 P N2))))))))) (r_seq (rB T0_ok (q1 P)) r_ret))))
theorem ac (P : PT) (x0 : Value) (H : AHeap) (h : B9 P x0 H) : AC Tryz.prog T0 89 [x0] H P :=
  r_fn T0_ok (c := code) (n := 18) Tryz.func89 body (by kernel_rfl) (main P) (En_mk (x0, ()) (by kernel_rfl) ⟨by kernel_rfl, trivial⟩ h)

end F89
end Go.Proofs
